/- Contracts: valid tables, of both packages. -/
import Derived.Test.YthkkbcbbinojlaaDoorTabA
import Derived.BigQuiet
namespace Go.Proofs.YthkkbcbbinojlaaDoor
open Go.RowKit
open Tl (Lk okM okL tog fits fitAll validT validT_iff askOk askOk_iff)

/-- The first k locks are valid. -/
def okTo (l : List Lk) (k : Nat) : Prop := (∀ x ∈ l.take k, okL x) ∧ fitAll (l.take k)
theorem okTo_zero (l : List Lk) : okTo l 0 := ⟨by simp, by simp [fitAll]⟩
theorem okTo_succ {l : List Lk} {k : Nat} {x : Lk} (hx : l[k]? = some x) (h : okTo l k) (ho : okL x) (hf : ∀ y ∈ l.take k, fits x y) : okTo l (k + 1) := by
  refine ⟨?_, ?_⟩
  · intro y hy
    rw [take_succ_of hx] at hy
    rcases List.mem_append.1 hy with hy | hy
    · exact h.1 y hy
    · simp at hy; subst hy; exact ho
  · unfold fitAll
    rw [take_succ_of hx, List.pairwise_append]
    refine ⟨h.2, by simp, ?_⟩
    intro y hy z hz
    simp at hz
    subst hz
    exact hf y hy
theorem okTo_all {l : List Lk} {k : Nat} (hk : ¬ k < l.length) (h : okTo l k) : validT l = decide (l.length ≤ 48) := by
  unfold okTo at h
  rw [List.take_of_length_le (by omega)] at h
  rw [Bool.eq_iff_iff, validT_iff, decide_eq_true_eq]
  exact ⟨fun h' => h'.1, fun h' => ⟨h', h.1, h.2⟩⟩
theorem not_validT_ok {l : List Lk} {k : Nat} {x : Lk} (hx : l[k]? = some x) (h : ¬ okL x) : validT l = false := by
  rw [Bool.eq_false_iff]
  intro hv
  exact h ((validT_iff.1 hv).2.1 x (List.mem_of_getElem? hx))
theorem not_validT_fit {l : List Lk} {k j : Nat} {x y : Lk} (hx : l[k]? = some x) (hy : l[j]? = some y) (hjk : j < k) (h : ¬ fits x y) : validT l = false := by
  rw [Bool.eq_false_iff]
  intro hv
  have hp := (validT_iff.1 hv).2.2
  unfold fitAll at hp
  rw [List.pairwise_iff_getElem] at hp
  obtain ⟨hk, rfl⟩ := List.getElem?_eq_some_iff.1 hx
  obtain ⟨hj, rfl⟩ := List.getElem?_eq_some_iff.1 hy
  exact h (hp j k hj hk hjk)
theorem all_take_succ {α : Type} {p : α → Prop} {l : List α} {k : Nat} {x : α} (hx : l[k]? = some x) (h : ∀ y ∈ l.take k, p y) (hp : p x) : ∀ y ∈ l.take (k + 1), p y := by
  intro y hy
  rw [take_succ_of hx] at hy
  rcases List.mem_append.1 hy with hy | hy
  · exact h y hy
  · simp at hy; subst hy; exact hp
theorem fits_other {x y : Lk} (h : x.node ≠ y.node) : fits x y := fun e => absurd e h
theorem fits_ok {x y : Lk} (h1 : x.who ≠ y.who) (h2 : tog x.mode y.mode = true) : fits x y := fun _ => ⟨h1, h2⟩
theorem not_fits_who {x y : Lk} (h : x.node = y.node) (h1 : x.who = y.who) : ¬ fits x y := fun hf => (hf h).1 h1
theorem not_fits_tog {x y : Lk} (h : x.node = y.node) (h2 : tog x.mode y.mode = false) : ¬ fits x y := fun hf => by have := (hf h).2; rw [h2] at this; cases this

set_option maxHeartbeats 1000000 in
set_option maxRecDepth 100000 in
theorem validTable_any (A : Option Addr) (c : Nat) (l : List Lk) (w : World) (hn : l.length ≤ 100000) (hcap : l.length ≤ c) (hT : TabT w) (hr : Rd w w.heap.size 3 A l.length (lks l)) :
    Calls Tryd.prog 7 #[.slice A l.length c] w (PBool w (validT l)) := by
  by_cases h48 : l.length ≤ 48
  · have h48' : (l.length : Int) ≤ 48 := by omega
    go_enter Tryd.func7, Tryd.ntmps7
    go_wp2
    go_loopg [12] l.length (fun gk s12 wr => ∃ k : Nat, k ≤ l.length ∧ gk = l.length - k ∧ s12 = .int .i64 k ∧ Hid (okTo l k) ∧ Below w.heap.size w wr)
    case atStart => exact ⟨0, Nat.zero_le _, rfl, rfl, okTo_zero l, Below.refl _ _⟩
    case round =>
      obtain ⟨k, hk, rfl, rfl, HO, hb⟩ := hrel
      by_cases hlt : k < l.length
      · obtain ⟨b, off, x, rfl, hbl, hx, hc1, hc2, hc3⟩ := (hr.below hb).lk hlt
        have hb1 := hb.alloc hb.size (.cells #[.int .i64 x.who, .int .i64 x.node, .int .i64 x.mode] 36)
        have HX := Lib.hid hx
        have hcapk : k ≤ c := by omega
        clear hx
        go_wp2_with fail
        refine (isAsk_any x.who x.node x.mode _).mono ?_
        rintro e w1 ⟨rfl, rfl⟩
        cases ha : askOk x.who x.node x.mode
        · have HA : Hid (¬ okL x) := by show ¬ okL x; intro h; rw [askOk_iff.2 h] at ha; cases ha
          clear ha hc1 hc2 hc3
          go_wp2
          go_ret
          exact ⟨ret_bool (not_validT_ok HX.out HA.out).symm, hb1⟩
        · have hxo : okL x := askOk_iff.1 ha
          have hxm := hxo.mode
          have HXO := Lib.hid hxo
          have HXM := Lib.hid hxm
          have hz := cell_three_new wr (.int .i64 x.who) (.int .i64 x.node) (.int .i64 x.mode) 36
          have hz0 := hz 0 _ rfl
          have hz1 := hz 1 _ rfl
          have hz2 := hz 2 _ rfl
          obtain ⟨w4, hw4⟩ : ∃ w4, w4 = wr.alloc (.cells #[.int .i64 x.who, .int .i64 x.node, .int .i64 x.mode] 36) := ⟨_, rfl⟩
          have hsz4 : w4.heap.size = wr.heap.size + 1 := by rw [hw4]; simp
          rw [← hw4] at hb1 hz0 hz1 hz2 ⊢
          have hlt4 : wr.heap.size < w4.heap.size := by omega
          obtain ⟨g4, hg4⟩ : ∃ g4 : Nat, g4 = wr.heap.size := ⟨_, rfl⟩
          rw [← hg4] at hz0 hz1 hz2 hlt4 ⊢
          clear ha hc1 hc2 hc3 hz hw4 hxo hxm hsz4 hg4
          go_wp2
          obtain ⟨wo, rfl⟩ : ∃ wo : World, wo = wr := ⟨_, rfl⟩
          go_loopg [29] k (fun gj s29 wr => ∃ j : Nat, j ≤ k ∧ gj = k - j ∧ s29 = .int .i64 j ∧ Hid (∀ y ∈ l.take j, fits x y) ∧ Below w4.heap.size w4 wr)
          case atStart => exact ⟨0, Nat.zero_le _, rfl, rfl, (by show ∀ y ∈ l.take 0, fits x y; simp), Below.refl _ _⟩
          case round =>
            obtain ⟨j, hj, rfl, rfl, HF, hb5⟩ := hrel
            have hb6 := below_then hb1 hb5 hb1.size
            by_cases hjk : j < k
            · obtain ⟨b', off', y, hA, hbl', hy, hd1, hd2, hd3⟩ := (hr.below hb6).lk (k := j) (by omega)
              injection hA with hA
              injection hA with e1 e2
              subst e1 e2
              have hv0 := (hb5.cell (p := ⟨g4, 0, none⟩) hlt4).trans hz0
              have hv1 := (hb5.cell (p := ⟨g4, 1, none⟩) hlt4).trans hz1
              have hv2 := (hb5.cell (p := ⟨g4, 2, none⟩) hlt4).trans hz2
              have hyo : okL y := HO.out.1 y (by rw [List.mem_iff_getElem?]; exact ⟨j, by rw [List.getElem?_take, if_pos hjk]; exact hy⟩)
              have HYM := Lib.hid hyo.mode
              have HY := Lib.hid hy
              have hb7 := hb5.alloc hb5.size (.cells #[.int .i64 y.who, .int .i64 y.node, .int .i64 y.mode] 36)
              have hb8 := below_then hb1 hb7 hb1.size
              have hlt5 : g4 < wr.heap.size := by have := hb5.size; omega
              clear hy hyo hz0 hz1 hz2
              by_cases hnd : x.node = y.node
              · have hnd' : (x.node == y.node) = true := by simp [hnd]
                by_cases hwh : x.who = y.who
                · have hwh' : (x.who == y.who) = true := by simp [hwh]
                  have HNF := Lib.hid (not_fits_who hnd hwh)
                  clear hnd hwh
                  go_wp2
                  go_ret
                  exact ⟨ret_bool (not_validT_fit HX.out HY.out hjk HNF.out).symm, hb8⟩
                · have hwh' : (x.who == y.who) = false := by simp [hwh]
                  have HW := Lib.hid hwh
                  have HND := Lib.hid hnd
                  clear hnd hwh
                  go_wp2_with fail
                  refine (goTogether_any HXM.out HYM.out _ (hT.below hb8 (Nat.le_refl _))).mono ?_
                  rintro e w9 ⟨rfl, rfl⟩
                  cases htg : tog x.mode y.mode
                  · have HNF := Lib.hid (not_fits_tog HND.out htg)
                    clear htg
                    go_wp2
                    go_ret
                    exact ⟨ret_bool (not_validT_fit HX.out HY.out hjk HNF.out).symm, hb8⟩
                  · have HFT := Lib.hid (fits_ok HW.out htg)
                    clear htg
                    go_wp2
                    go_roundg (k - (j + 1))
                    case measure => omega
                    case rel => exact ⟨j + 1, by omega, rfl, by go_num, all_take_succ HY.out HF.out HFT.out, hb7⟩
              · have hnd' : (x.node == y.node) = false := by simp [hnd]
                have HFT := Lib.hid (fits_other hnd)
                clear hnd
                go_wp2
                go_roundg (k - (j + 1))
                case measure => omega
                case rel => exact ⟨j + 1, by omega, rfl, by go_num, all_take_succ HY.out HF.out HFT.out, hb7⟩
            · have hjk' : j = k := by omega
              have HF2 : Hid (∀ y ∈ l.take k, fits x y) := by rw [← hjk']; exact HF
              clear hz0 hz1 hz2
              go_wp2
              go_roundg (l.length - (k + 1))
              case measure => omega
              case rel => exact ⟨k + 1, by omega, rfl, by go_num, okTo_succ HX.out HO.out HXO.out HF2.out, hb6⟩
      · have HE := Lib.hid (okTo_all hlt HO.out)
        go_wp2
        go_ret
        exact ⟨ret_bool (by rw [HE.out]; simp [h48]), hb⟩
  · have h48' : ¬ (l.length : Int) ≤ 48 := by omega
    go_enter Tryd.func7, Tryd.ntmps7
    go_wp2
    go_ret
    exact ⟨ret_bool (by rw [eq_comm, Bool.eq_false_iff]; intro hv; exact h48 (validT_iff.1 hv).1), Below.refl _ _⟩
end Go.Proofs.YthkkbcbbinojlaaDoor
