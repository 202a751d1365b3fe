/- Scripts in memory, read; contracts: impl.ValidScripts, spec.ValidScripts. -/
import Derived.Test.YtgikfdanamjilaaDws
import Derived.Test.YtgikfdanamjilaaTreC
import Derived.Test.YtgikfdanamjilaaTreD
namespace Go.Proofs.Ytgikfdanamjilaa
open Go.RowKit
set_option maxRecDepth 100000
open Tl (Do Nd validN okDo okSc validSc validSc_iff)

/-- A row of rows of dos that is read. -/
def RdSS (w : World) (B : Nat) (A : Option Addr) (ps : List (List Do)) : Prop :=
  ∃ vs : List Value, vs.length = ps.length ∧ Rd w B 1 A ps.length vs ∧ ∀ (i : Nat) (u : Value) (p : List Do), vs[i]? = some u → ps[i]? = some p → ∃ A c, u = .slice A p.length c ∧ Rd w B 2 A p.length (dws p)
theorem RdSS.below {w w' : World} {B : Nat} {A : Option Addr} {ps : List (List Do)} (h : RdSS w B A ps) (hb : Below B w w') : RdSS w' B A ps := by
  obtain ⟨vs, h1, h2, h3⟩ := h
  exact ⟨vs, h1, h2.below hb, fun i u p hu hp => by obtain ⟨A, c, e, hr⟩ := h3 i u p hu hp; exact ⟨A, c, e, hr.below hb⟩⟩
theorem RdSS.more {w : World} {B B' : Nat} {A : Option Addr} {ps : List (List Do)} (h : RdSS w B A ps) (hB : B ≤ B') : RdSS w B' A ps := by
  obtain ⟨vs, h1, h2, h3⟩ := h
  exact ⟨vs, h1, h2.more hB, fun i u p hu hp => by obtain ⟨A, c, e, hr⟩ := h3 i u p hu hp; exact ⟨A, c, e, hr.more hB⟩⟩
theorem RdSS.step {w w' : World} {A : Option Addr} {ps : List (List Do)} (h : RdSS w w.heap.size A ps) (hb : Below w.heap.size w w') : RdSS w' w'.heap.size A ps := (h.below hb).more hb.size
/-- The element at k. -/
theorem RdSS.at_ {w : World} {B : Nat} {A : Option Addr} {ps : List (List Do)} (h : RdSS w B A ps) {k : Nat} (hk : k < ps.length) :
    ∃ b off p A' c', A = some ⟨b, off, none⟩ ∧ b < B ∧ ps[k]? = some p ∧ w.cell? ⟨b, off + k, none⟩ = some (.slice A' p.length c') ∧ Rd w B 2 A' p.length (dws p) := by
  obtain ⟨vs, h1, h2, h3⟩ := h
  have hv := List.getElem?_eq_getElem (l := vs) (i := k) (by omega)
  have hp := List.getElem?_eq_getElem (l := ps) (i := k) hk
  obtain ⟨A', c', e, hr⟩ := h3 k _ _ hv hp
  obtain ⟨b, off, e1, e2, e3⟩ := h2.2 k _ hv
  exact ⟨b, off, _, A', c', e1, e2, hp, by rw [← e]; exact e3, hr⟩


theorem RdSS.take {w : World} {B : Nat} {A : Option Addr} {ps : List (List Do)} (h : RdSS w B A ps) {k : Nat} (hk : k ≤ ps.length) : RdSS w B A (ps.take k) := by
  obtain ⟨vs, h1, h2, h3⟩ := h
  have hl : (ps.take k).length = k := by rw [List.length_take]; omega
  refine ⟨vs.take k, by rw [List.length_take, hl]; omega, ?_, ?_⟩
  · rw [hl]
    have := h2.take hk
    rwa [Nat.mul_one] at this
  · intro i u p hu hp
    rw [List.getElem?_take] at hu hp
    split at hu
    · rename_i hi
      rw [if_pos hi] at hp
      exact h3 i u p hu hp
    · cases hu
theorem RdSS.nil (w : World) (B : Nat) (A : Option Addr) : RdSS w B A [] := ⟨[], rfl, Rd.nil _ _ _ _, fun i u p hu => by simp at hu⟩
theorem validSc_no {t : List Nd} {ss : List (List Do)} (h : validN t = false) : validSc t ss = false := by simp [validSc, h]
theorem validSc_many {t : List Nd} {ss : List (List Do)} (h : ¬ ss.length ≤ 4) : validSc t ss = false := by simp [validSc, h]
theorem validSc_bad {t : List Nd} {ss : List (List Do)} {k : Nat} {s : List Do} (hs : ss[k]? = some s) (h : okSc t.length s = false) : validSc t ss = false := by
  rw [Bool.eq_false_iff]
  intro hv
  have := (validSc_iff.1 hv).2.2 s (List.mem_of_getElem? hs)
  rw [h] at this; cases this
theorem okSc_len {n : Nat} {s : List Do} (h : ¬ (1 ≤ s.length ∧ s.length ≤ 3)) : okSc n s = false := by simp [okSc, h]
theorem okSc_bad {n k : Nat} {s : List Do} {d : Do} (hd : s[k]? = some d) (h : okDo n d = false) : okSc n s = false := by
  unfold okSc
  rw [Bool.and_eq_false_iff]
  right
  rw [Bool.eq_false_iff]
  intro ha
  have := List.all_eq_true.1 ha d (List.mem_of_getElem? hd)
  rw [h] at this; cases this
theorem okSc_good {n : Nat} {s : List Do} (h : 1 ≤ s.length ∧ s.length ≤ 3) (ha : ∀ d ∈ s, okDo n d = true) : okSc n s = true := by
  unfold okSc
  rw [decide_eq_true (show 1 ≤ s.length ∧ s.length ≤ 3 from h), Bool.true_and]
  exact List.all_eq_true.2 ha
theorem take_succ_sc {α : Type} {l : List α} {k : Nat} {x : α} (hx : l[k]? = some x) : l.take (k + 1) = l.take k ++ [x] := by
  rw [List.take_add_one, hx]; rfl
theorem all_succ_sc {α : Type} {p : α → Prop} {l : List α} {k : Nat} {x : α} (hx : l[k]? = some x) (h : ∀ y ∈ l.take k, p y) (hp : p x) : ∀ y ∈ l.take (k + 1), p y := by
  rw [take_succ_sc hx]
  intro y hy
  rcases List.mem_append.1 hy with h1 | h1
  · exact h y h1
  · obtain rfl : y = x := by simpa using h1
    exact hp

set_option maxHeartbeats 2000000 in
theorem validScripts_any (A : Option Addr) (c : Nat) (t : List Nd) (A' : Option Addr) (c' : Nat) (ss : List (List Do)) (w : World) (hn : t.length ≤ 2000000) (hcap : t.length ≤ c) (hS : Short t) (hn' : ss.length ≤ 2000000)
    (hr : Rd w w.heap.size 3 A t.length (nds t)) (hs : RdSS w w.heap.size A' ss) :
    Calls Try.prog 6 #[.slice A t.length c, .slice A' ss.length c'] w (PBool w (validSc t ss)) := by
  go_enter Try.func6, Try.ntmps6
  go_wp2_with fail
  refine (validTree_any A c t _ hn hcap hS hr).mono ?_
  rintro e w1 ⟨rfl, hb1⟩
  cases hv : validN t
  · have HE : Hid (validSc t ss = false) := validSc_no hv
    clear hv
    go_wp2
    go_ret
    exact ⟨ret_bool HE.out.symm, hb1⟩
  · have HV := Lib.hid hv
    clear hv
    by_cases h4 : ss.length ≤ 4
    · have h4' : (ss.length : Int) ≤ 4 := by omega
      have hs0 := hs
      clear hr hs
      go_wp2
      go_loopg [19] ss.length (fun gk iv wr => ∃ k : Nat, gk = ss.length - k ∧ k ≤ ss.length ∧ iv = .int .i64 k ∧ Hid (∀ s ∈ ss.take k, okSc t.length s = true) ∧ Below w.heap.size w wr)
      case atStart => exact ⟨0, rfl, by omega, rfl, (show ∀ s ∈ ss.take 0, _ by simp), hb1⟩
      case round =>
        clear hb1
        obtain ⟨k, rfl, hk, rfl, HO, hb⟩ := hrel
        by_cases hlt : k < ss.length
        · obtain ⟨b, off, sc, A2, c2, rfl, hbl, hsc, hcs0, hrs⟩ := hs0.at_ hlt
          have hcs := (hb.cell (p := ⟨b, off + k, none⟩) hbl).trans hcs0
          have HSC := Lib.hid hsc
          clear hsc hcs0
          go_wp2_with fail
          refine (within_any _ _ _ _).mono ?_
          rintro e w2 ⟨rfl, rfl⟩
          by_cases hsl : 1 ≤ sc.length ∧ sc.length ≤ 3
          · have hsl' : (1 : Int) ≤ (sc.length : Int) ∧ (sc.length : Int) ≤ 3 := by omega
            have HSL := Lib.hid hsl
            have hsl3 : sc.length ≤ 3 := hsl.2
            rw [decide_eq_true hsl']
            clear hsl hsl' hcs
            go_wp2
            go_loopg [29] sc.length (fun gk2 jv wr2 => ∃ j : Nat, gk2 = sc.length - j ∧ j ≤ sc.length ∧ jv = .int .i64 j ∧ Hid (∀ d ∈ sc.take j, okDo t.length d = true) ∧ Below w.heap.size w wr2)
            case atStart => exact ⟨0, rfl, by omega, rfl, (show ∀ d ∈ sc.take 0, _ by simp), hb⟩
            case round =>
              clear hb
              obtain ⟨j, rfl, hj, rfl, HD, hb⟩ := hrel
              by_cases hlj : j < sc.length
              · obtain ⟨b2, off2, d, rfl, hb2l, hd, hd1, hd2⟩ := (hrs.below hb).dw hlj
                have HDD := Lib.hid hd
                have hb5 := hb.alloc hb.size (.cells #[.int .i64 d.node, .int .i64 d.add] 46)
                clear hd
                go_wp2_with fail
                refine (within_any _ _ _ _).mono ?_
                rintro e w3 ⟨rfl, rfl⟩
                by_cases hn1 : 0 ≤ d.node ∧ d.node ≤ (t.length : Int) - 1
                · rw [decide_eq_true hn1]
                  have HN1 := Lib.hid hn1
                  clear hn1
                  go_wp2_with fail
                  refine (within_any _ _ _ _).mono ?_
                  rintro e w3 ⟨rfl, rfl⟩
                  by_cases hn2 : -50 ≤ d.add ∧ d.add ≤ 50
                  · rw [decide_eq_true hn2]
                    have HD2 : Hid (∀ e ∈ sc.take (j + 1), okDo t.length e = true) := all_succ_sc (p := fun e => okDo t.length e = true) HDD.out HD.out (by unfold okDo; rw [decide_eq_true HN1.out, decide_eq_true hn2]; rfl)
                    clear hn2
                    go_wp2
                    go_roundg (sc.length - (j + 1))
                    case measure => omega
                    case rel => exact ⟨j + 1, rfl, by omega, by go_num, HD2, hb5⟩
                  · have HE : Hid (validSc t ss = false) := validSc_bad HSC.out (okSc_bad HDD.out (by unfold okDo; rw [decide_eq_false hn2, Bool.and_false]))
                    rw [decide_eq_false hn2]
                    clear hn2
                    go_wp2
                    go_ret
                    exact ⟨ret_bool HE.out.symm, hb5⟩
                · have HE : Hid (validSc t ss = false) := validSc_bad HSC.out (okSc_bad HDD.out (by unfold okDo; rw [decide_eq_false hn1, Bool.false_and]))
                  rw [decide_eq_false hn1]
                  clear hn1
                  go_wp2
                  go_ret
                  exact ⟨ret_bool HE.out.symm, hb5⟩
              · have HO2 : Hid (∀ s ∈ ss.take (k + 1), okSc t.length s = true) := all_succ_sc (p := fun s => okSc t.length s = true) HSC.out HO.out (by
                  refine okSc_good HSL.out ?_
                  have h1 := HD.out
                  rw [List.take_of_length_le (by omega)] at h1
                  exact h1)
                go_wp2
                go_roundg (ss.length - (k + 1))
                case measure => omega
                case rel => exact ⟨k + 1, rfl, by omega, by go_num, HO2, hb⟩
          · have hsl' : ¬ ((1 : Int) ≤ (sc.length : Int) ∧ (sc.length : Int) ≤ 3) := by omega
            have HE : Hid (validSc t ss = false) := validSc_bad HSC.out (okSc_len hsl)
            rw [decide_eq_false hsl']
            clear hsl hsl'
            go_wp2
            go_ret
            exact ⟨ret_bool HE.out.symm, hb⟩
        · have HE : Hid (validSc t ss = true) := by
            show _ = _
            have h1 := HO.out
            rw [List.take_of_length_le (by omega)] at h1
            exact validSc_iff.2 ⟨HV.out, h4, h1⟩
          go_wp2
          go_ret
          exact ⟨ret_bool HE.out.symm, hb⟩
    · have h4' : (4 : Int) < (ss.length : Int) := by omega
      have HE : Hid (validSc t ss = false) := validSc_many h4
      clear h4
      go_wp2
      go_ret
      exact ⟨ret_bool HE.out.symm, hb1⟩

/-- The scripts alone. -/
def scOk (n : Nat) (ss : List (List Do)) : Bool := decide (ss.length ≤ 4) && ss.all (okSc n)
theorem scOk_bad {n : Nat} {ss : List (List Do)} {k : Nat} {s : List Do} (hs : ss[k]? = some s) (h : okSc n s = false) : scOk n ss = false := by
  unfold scOk
  rw [Bool.and_eq_false_iff]
  right
  rw [Bool.eq_false_iff]
  intro ha
  have := List.all_eq_true.1 ha s (List.mem_of_getElem? hs)
  rw [h] at this; cases this

set_option maxHeartbeats 2000000 in
theorem svalidScripts0_any (A : Option Addr) (c : Nat) (t : List Nd) (A' : Option Addr) (c' : Nat) (ss : List (List Do)) (w : World) (hn : t.length ≤ 2000000) (hn' : ss.length ≤ 2000000) (hs0 : RdSS w w.heap.size A' ss) :
    Calls Try.prog 20 #[.slice A t.length c, .slice A' ss.length c'] w (PBool w (scOk t.length ss)) := by
  have hb1 := Below.refl w.heap.size w
  go_enter Try.func20, Try.ntmps20
  go_wp2
  go_loopg [5] ss.length (fun gk iv wr => ∃ k : Nat, gk = ss.length - k ∧ k ≤ ss.length ∧ iv = .int .i64 k ∧ Hid (∀ s ∈ ss.take k, okSc t.length s = true) ∧ Below w.heap.size w wr)
  case atStart => exact ⟨0, rfl, by omega, rfl, (show ∀ s ∈ ss.take 0, _ by simp), hb1⟩
  case round =>
    clear hb1
    obtain ⟨k, rfl, hk, rfl, HO, hb⟩ := hrel
    by_cases hlt : k < ss.length
    · obtain ⟨b, off, sc, A2, c2, rfl, hbl, hsc, hcs0, hrs⟩ := hs0.at_ hlt
      have hcs := (hb.cell (p := ⟨b, off + k, none⟩) hbl).trans hcs0
      have HSC := Lib.hid hsc
      clear hsc
      go_wp2_with fail
      refine (inRange_any _ _ _ _).mono ?_
      rintro e w2 ⟨rfl, rfl⟩
      by_cases hsl : 1 ≤ sc.length ∧ sc.length ≤ 3
      · have hsl' : (1 : Int) ≤ (sc.length : Int) ∧ (sc.length : Int) ≤ 3 := by omega
        have HSL := Lib.hid hsl
        have hsl3 : sc.length ≤ 3 := hsl.2
        rw [decide_eq_true hsl']
        clear hsl hsl' hcs
        go_wp2
        go_loopg [6] sc.length (fun gk2 jv wr2 => ∃ j : Nat, gk2 = sc.length - j ∧ j ≤ sc.length ∧ jv = .int .i64 j ∧ Hid (∀ d ∈ sc.take j, okDo t.length d = true) ∧ Below w.heap.size w wr2)
        case atStart => exact ⟨0, rfl, by omega, rfl, (show ∀ d ∈ sc.take 0, _ by simp), hb⟩
        case round =>
          clear hb
          obtain ⟨j, rfl, hj, rfl, HD, hb⟩ := hrel
          have hcs := (hb.cell (p := ⟨b, off + k, none⟩) hbl).trans hcs0
          by_cases hlj : j < sc.length
          · obtain ⟨b2, off2, d, rfl, hb2l, hd, hd1, hd2⟩ := (hrs.below hb).dw hlj
            have HDD := Lib.hid hd
            have hb5 := hb.alloc hb.size (.cells #[.int .i64 d.node, .int .i64 d.add] 46)
            clear hd
            go_wp2_with fail
            refine (inRange_any _ _ _ _).mono ?_
            rintro e w3 ⟨rfl, rfl⟩
            by_cases hn1 : 0 ≤ d.node ∧ d.node ≤ (t.length : Int) - 1
            · rw [decide_eq_true hn1]
              have HN1 := Lib.hid hn1
              clear hn1
              go_wp2_with fail
              refine (inRange_any _ _ _ _).mono ?_
              rintro e w3 ⟨rfl, rfl⟩
              by_cases hn2 : -50 ≤ d.add ∧ d.add ≤ 50
              · rw [decide_eq_true hn2]
                have HD2 : Hid (∀ e ∈ sc.take (j + 1), okDo t.length e = true) := all_succ_sc (p := fun e => okDo t.length e = true) HDD.out HD.out (by unfold okDo; rw [decide_eq_true HN1.out, decide_eq_true hn2]; rfl)
                clear hn2
                go_wp2
                go_roundg (sc.length - (j + 1))
                case measure => omega
                case rel => exact ⟨j + 1, rfl, by omega, by go_num, HD2, hb5⟩
              · have HE : Hid (scOk t.length ss = false) := scOk_bad HSC.out (okSc_bad HDD.out (by unfold okDo; rw [decide_eq_false hn2, Bool.and_false]))
                rw [decide_eq_false hn2]
                clear hn2
                go_wp2
                go_ret
                exact ⟨ret_bool HE.out.symm, hb5⟩
            · have HE : Hid (scOk t.length ss = false) := scOk_bad HSC.out (okSc_bad HDD.out (by unfold okDo; rw [decide_eq_false hn1, Bool.false_and]))
              rw [decide_eq_false hn1]
              clear hn1
              go_wp2
              go_ret
              exact ⟨ret_bool HE.out.symm, hb5⟩
          · have HO2 : Hid (∀ s ∈ ss.take (k + 1), okSc t.length s = true) := all_succ_sc (p := fun s => okSc t.length s = true) HSC.out HO.out (by
              refine okSc_good HSL.out ?_
              have h1 := HD.out
              rw [List.take_of_length_le (by omega)] at h1
              exact h1)
            go_wp2
            go_roundg (ss.length - (k + 1))
            case measure => omega
            case rel => exact ⟨k + 1, rfl, by omega, by go_num, HO2, hb⟩
      · have hsl' : ¬ ((1 : Int) ≤ (sc.length : Int) ∧ (sc.length : Int) ≤ 3) := by omega
        have HE : Hid (scOk t.length ss = false) := scOk_bad HSC.out (okSc_len hsl)
        rw [decide_eq_false hsl']
        clear hsl hsl'
        go_wp2
        go_ret
        exact ⟨ret_bool HE.out.symm, hb⟩
    · have HE : Hid (scOk t.length ss = decide ((ss.length : Int) ≤ 4)) := by
        show _ = _
        have h1 := HO.out
        rw [List.take_of_length_le (by omega)] at h1
        unfold scOk
        rw [List.all_eq_true.2 h1, Bool.and_true]
        by_cases h4 : ss.length ≤ 4
        · rw [decide_eq_true h4, decide_eq_true (by omega)]
        · rw [decide_eq_false h4, decide_eq_false (by omega)]
      go_wp2
      go_ret
      exact ⟨ret_bool HE.out.symm, hb⟩
theorem svalidScripts_any (A : Option Addr) (c : Nat) (t : List Nd) (A' : Option Addr) (c' : Nat) (ss : List (List Do)) (w : World) (hn : t.length ≤ 2000000) (hcap : t.length ≤ c) (hS : Short t) (hn' : ss.length ≤ 2000000)
    (hr : Rd w w.heap.size 3 A t.length (nds t)) (hs : RdSS w w.heap.size A' ss) :
    Calls Try.prog 7 #[.slice A t.length c, .slice A' ss.length c'] w (PBool w (validSc t ss)) := by
  go_enter Try.func7, Try.ntmps7
  go_wp2_with fail
  refine (svalidTree0_any A c t _ hn hcap hS hr).mono ?_
  rintro e w1 ⟨rfl, hb1⟩
  cases hv : validN t
  · have HE : Hid (validSc t ss = false) := validSc_no hv
    clear hv
    go_wp2
    go_ret
    exact ⟨ret_bool HE.out.symm, hb1⟩
  · have HE : Hid (validSc t ss = scOk t.length ss) := by show _ = _; simp [validSc, scOk, hv]
    have hs1 := hs.step hb1
    clear hv
    go_wp2_with fail
    refine (svalidScripts0_any A c t A' c' ss _ hn hn' hs1).mono ?_
    rintro e w2 ⟨rfl, hb2⟩
    have hb3 := below_then hb1 hb2 hb1.size
    rw [← HE.out]
    go_wp2
    go_ret
    exact ⟨rfl, hb3⟩
end Go.Proofs.Ytgikfdanamjilaa
