/- Contracts: SetValue, of both packages; equalNodes at equal lists. -/
import Derived.Test.YthfmbedbaajdbaaTreF
import Derived.Test.YthfmbedbaajdbaaDrawN2
namespace Go.Proofs.Ythfmbedbaajdbaa
open Go.RowKit
open Tl (Nd nameOk kid path validN validN_iff nodeOk nodesOk ValidN Grows setVal)

noncomputable def setV (t : List Nd) (i v : Int) : Option (List Nd) := if isN t i && decide (-1000 ≤ v ∧ v ≤ 1000) then some (setVal t i.toNat v) else none
theorem setV_no {t : List Nd} {i v : Int} (h : isN t i = false) : setV t i v = none := by simp [setV, h]
theorem setV_no2 {t : List Nd} {i v : Int} (h : ¬ (-1000 ≤ v ∧ v ≤ 1000)) : setV t i v = none := by simp [setV, h]
theorem setV_yes {t : List Nd} {i v : Int} (h : isN t i = true) (hv : -1000 ≤ v ∧ v ≤ 1000) : setV t i v = some (setVal t i.toNat v) := by simp [setV, h, hv]
theorem setVal_len (t : List Nd) (k : Nat) (v : Int) : (setVal t k v).length = t.length := by simp [setVal]
theorem setVal_set {t : List Nd} {k : Nat} {x : Nd} (h : t[k]? = some x) (v : Int) : t.set k ⟨x.parent, x.name, v⟩ = setVal t k v := by
  unfold setVal
  apply List.ext_getElem?
  intro i
  rw [List.getElem?_modify, List.getElem?_set]
  by_cases e : k = i
  · subst e
    have hk := (List.getElem?_eq_some_iff.1 h).1
    rw [h, if_pos rfl, if_pos hk]
    simp
  · simp only [e, if_false]
    cases t[i]? <;> rfl
theorem setVal_short {t : List Nd} (h : Short t) (k : Nat) (v : Int) : Short (setVal t k v) := by
  cases hk : t[k]? with
  | none =>
    have : setVal t k v = t := by
      unfold setVal
      exact List.modify_eq_self (by rw [List.getElem?_eq_none_iff] at hk; exact hk)
    rw [this]; exact h
  | some x =>
    rw [← setVal_set hk]
    exact short_set h (show x.name.length ≤ 2000000 from h.get hk)

def PSet (w : World) (r : Option (List Nd)) (e : Ending) (w' : World) : Prop :=
  ∃ A c, e = .returned (.tuple #[.slice A (r.getD []).length c, .bool r.isSome]) ∧
    w'.ownsRow w.heap.size 28 3 (.slice A (r.getD []).length c) (r.getD []).length (nds (r.getD [])) ∧ Below w.heap.size w w'
theorem PSet.none_ {w w' : World} (h : Below w.heap.size w w') : PSet w none (.returned (.tuple #[.slice none 0 0, .bool false])) w' :=
  ⟨none, 0, rfl, World.ownsRow_nil _ _ _ _, h⟩
theorem PSet.some_ {w w' : World} {m : List Nd} {A : Option Addr} {k c : Nat} (hk : k = m.length) (ho : w'.ownsRow w.heap.size 28 3 (.slice A k c) k (nds m)) (h : Below w.heap.size w w') : PSet w (some m) (.returned (.tuple #[.slice A k c, .bool true])) w' := by
  subst hk
  exact ⟨A, c, rfl, ho, h⟩

theorem setValue_any (A : Option Addr) (c : Nat) (t : List Nd) (i v : Int) (w : World) (hn : t.length ≤ 10000) (hcap : t.length ≤ c) (hS : Short t) (hr : Rd w w.heap.size 3 A t.length (nds t)) :
    Calls Try.prog 25 #[.slice A t.length c, .int .i64 i, .int .i64 v] w (PSet w (setV t i v)) := by
  cases hN : isN t i
  · rw [setV_no hN]
    have HN := Lib.hid hN
    clear hN
    go_enter Try.func25, Try.ntmps25
    go_wp2_with fail
    refine (isNode_any A c t i _ (by omega) hcap hS hr).mono ?_
    rintro e w1 ⟨rfl, hb1⟩
    rw [HN.out]
    go_wp2
    go_ret2
    exact PSet.none_ hb1
  · have HN := Lib.hid hN
    obtain ⟨k, rfl, hk⟩ := isN_nat hN
    clear hN
    by_cases hv : -1000 ≤ v ∧ v ≤ 1000
    · rw [setV_yes HN.out hv, Int.toNat_natCast]
      have HV := Lib.hid hv
      clear hv
      obtain ⟨x, hx⟩ : ∃ x, t[k]? = some x := ⟨_, List.getElem?_eq_getElem hk⟩
      have HX := Lib.hid hx
      clear hx
      go_enter Try.func25, Try.ntmps25
      go_wp2_with fail
      refine (isNode_any A c t k _ (by omega) hcap hS hr).mono ?_
      rintro e w1 ⟨rfl, hb1⟩
      have hr1 := hr.step hb1
      rw [HN.out]
      go_wp2_with fail
      refine (within_any _ _ _ _).mono ?_
      rintro e w2 ⟨rfl, rfl⟩
      rw [decide_eq_true HV.out]
      go_wp2_with fail
      refine (cloneNd_any A c t _ (by omega) hr1).mono ?_
      rintro e w2 ⟨A2, c2, rfl, ho2, hb2⟩
      have hb3 := below_then hb1 hb2 hb1.size
      obtain ⟨gr, rfl, hgr1, hgr2, hgc⟩ := own_addr ho2 (by omega)
      have hc2 : w2.cell? ⟨gr, k * 3 + 2, none⟩ = some (.int .i64 x.value) := own_at ho2 (flat_get ndC 3 (fun _ => rfl) t k 2 _ HX.out (by omega))
      have hf := own_frozen ho2 (k * 3 + 2)
      have ho5 := own_set ho2 (.int .i64 v) (j := k * 3 + 2)
      rw [nds_put2 HX.out, setVal_set HX.out] at ho5
      have hbw := hb3.setCell (p := ⟨gr, k * 3 + 2, none⟩) (Nat.le_trans hb1.size hgr1) (.int .i64 v)
      have ho6 := own_base ho5 hb1.size
      clear hr hr1 hb1 hb2 ho2 hgc hb3 ho5
      go_wp2
      go_ret2
      exact PSet.some_ (setVal_len _ _ _).symm ho6 hbw
    · rw [setV_no2 hv]
      go_enter Try.func25, Try.ntmps25
      go_wp2_with fail
      refine (isNode_any A c t k _ (by omega) hcap hS hr).mono ?_
      rintro e w1 ⟨rfl, hb1⟩
      rw [HN.out]
      go_wp2_with fail
      refine (within_any _ _ _ _).mono ?_
      rintro e w2 ⟨rfl, rfl⟩
      rw [decide_eq_false hv]
      clear hv
      go_wp2
      go_ret2
      exact PSet.none_ hb1
theorem ssetValue_any (A : Option Addr) (c : Nat) (t : List Nd) (i v : Int) (w : World) (hn : t.length ≤ 10000) (hcap : t.length ≤ c) (hS : Short t) (hr : Rd w w.heap.size 3 A t.length (nds t)) :
    Calls Try.prog 26 #[.slice A t.length c, .int .i64 i, .int .i64 v] w (PSet w (setV t i v)) := by
  cases hvt : validN t
  · rw [setV_no (by simp [isN, hvt])]
    have HN := Lib.hid hvt
    clear hvt
    go_enter Try.func26, Try.ntmps26
    go_wp2_with fail
    refine (svalidTree0_any A c t _ (by omega) hcap hS hr).mono ?_
    rintro e w1 ⟨rfl, hb1⟩
    rw [HN.out]
    go_wp2
    go_ret2
    exact PSet.none_ hb1
  · have HVT := Lib.hid hvt
    clear hvt
    by_cases hi : 0 ≤ i ∧ i ≤ (t.length : Int) - 1
    · have HN : Hid (isN t i = true) := isN_iff.2 ⟨⟨hi.1, by omega⟩, HVT.out⟩
      obtain ⟨k, rfl, hk⟩ := isN_nat HN.out
      have HI := Lib.hid hi
      clear hi
      by_cases hv : -1000 ≤ v ∧ v ≤ 1000
      · rw [setV_yes HN.out hv, Int.toNat_natCast]
        have HV := Lib.hid hv
        clear hv
        obtain ⟨x, hx⟩ : ∃ x, t[k]? = some x := ⟨_, List.getElem?_eq_getElem hk⟩
        have HX := Lib.hid hx
        clear hx
        go_enter Try.func26, Try.ntmps26
        go_wp2_with fail
        refine (svalidTree0_any A c t _ (by omega) hcap hS hr).mono ?_
        rintro e w1 ⟨rfl, hb1⟩
        rw [HVT.out]
        have hb0 := (Below.refl w1.heap.size w1).alloc (Nat.le_refl _) (.cells #[] 28)
        have hr1 := (hr.step hb1).below hb0
        have hown := own_lit0 w1 28 3 (Nat.le_refl _)
        clear hr
        go_wp2_with fail
        refine (inRange_any _ _ _ _).mono ?_
        rintro e w2 ⟨rfl, rfl⟩
        rw [decide_eq_true HI.out]
        go_wp2_with fail
        refine (inRange_any _ _ _ _).mono ?_
        rintro e w2 ⟨rfl, rfl⟩
        rw [decide_eq_true HV.out]
        go_wp2_with (at_builtin; refine wpList_join_nd (xs := []) rfl _ _ rfl rfl hown rfl hr1 (by omega) (by simp) ?_; intro A2 c2 w2 hne ho2 hb2 _; simp only [Nat.zero_add, List.nil_append] at ho2 ⊢; obtain ⟨gr, rfl, hgr1, hgr2, hgc⟩ := own_addr ho2 (by omega); have hb3 := hb1.trans ((hb0.trans hb2).mono hb1.size); have hc2 : w2.cell? ⟨gr, k * 3 + 2, none⟩ = some (.int .i64 x.value) := own_at ho2 (flat_get ndC 3 (fun _ => rfl) t k 2 _ HX.out (by omega)); have hf := own_frozen ho2 (k * 3 + 2); have ho5 := own_set ho2 (.int .i64 v) (j := k * 3 + 2); clear hgc hown hr1 hb0 hb2)
        rw [nds_put2 HX.out, setVal_set HX.out] at ho5
        have hbw := hb3.setCell (p := ⟨gr, k * 3 + 2, none⟩) (Nat.le_trans hb1.size hgr1) (.int .i64 v)
        have ho6 := own_base ho5 hb1.size
        clear ho2 hb1 hb3 ho5
        go_wp2
        go_ret2
        exact PSet.some_ (setVal_len _ _ _).symm ho6 hbw
      · rw [setV_no2 hv]
        go_enter Try.func26, Try.ntmps26
        go_wp2_with fail
        refine (svalidTree0_any A c t _ (by omega) hcap hS hr).mono ?_
        rintro e w1 ⟨rfl, hb1⟩
        rw [HVT.out]
        go_wp2_with fail
        refine (inRange_any _ _ _ _).mono ?_
        rintro e w2 ⟨rfl, rfl⟩
        rw [decide_eq_true HI.out]
        go_wp2_with fail
        refine (inRange_any _ _ _ _).mono ?_
        rintro e w2 ⟨rfl, rfl⟩
        rw [decide_eq_false hv]
        clear hv
        go_wp2
        go_ret2
        exact PSet.none_ hb1
    · rw [setV_no (by simp [isN, inT, hi])]
      go_enter Try.func26, Try.ntmps26
      go_wp2_with fail
      refine (svalidTree0_any A c t _ (by omega) hcap hS hr).mono ?_
      rintro e w1 ⟨rfl, hb1⟩
      rw [HVT.out]
      go_wp2_with fail
      refine (inRange_any _ _ _ _).mono ?_
      rintro e w2 ⟨rfl, rfl⟩
      rw [decide_eq_false hi]
      clear hi
      go_wp2
      go_ret2
      exact PSet.none_ hb1
theorem equalNodes_d (A : Option Addr) (c : Nat) (xs : List Nd) (A' : Option Addr) (c' : Nat) (w : World) {B B' : Nat} (hn : xs.length ≤ 100000) (hr : Rd w B 3 A xs.length (nds xs)) (hr' : Rd w B' 3 A' xs.length (nds xs)) :
    Calls Try.prog 27 #[.slice A xs.length c, .slice A' xs.length c'] w fun e w' => e = .returned (.bool true) ∧ ∃ m, w' = w.drewN m := by
  have hl1 : ((xs.length : Int) != (xs.length : Int)) = false := by simp
  go_enter Try.func27, Try.ntmps27
  go_wp2
  go_loopg [5] xs.length (fun gk i wr => ∃ k : Nat, k ≤ xs.length ∧ gk = xs.length - k ∧ i = .int .i64 k ∧ ∃ m, wr = w.drewN m)
  case atStart => exact ⟨0, Nat.zero_le _, rfl, rfl, 0, rfl⟩
  case round =>
    obtain ⟨k, hk, rfl, rfl, m, rfl⟩ := hrel
    by_cases hlt : k < xs.length
    · obtain ⟨b, off, x, rfl, _, hx, hc1, hc2, hc3⟩ := hr.nd hlt
      obtain ⟨b', off', y, rfl, _, hy, hd1, hd2, hd3⟩ := hr'.nd hlt
      obtain rfl : x = y := Option.some.inj (hx.symm.trans hy)
      clear hr hr' hx hy
      go_wp2
      go_quiet (fail)
      go_wp2
      go_roundg (xs.length - (k + 1))
      case measure => omega
      case rel => exact ⟨k + 1, by omega, rfl, by go_num, _, (by first | rfl | exact World.drewN_drewN _ _ _)⟩
    · go_wp2
      go_ret
      exact ⟨rfl, _, rfl⟩
theorem equalNodes_same (A : Option Addr) (c : Nat) (xs : List Nd) (A' : Option Addr) (c' : Nat) (w : World) {B B' : Nat} (hn : xs.length ≤ 100000) (hr : Rd w B 3 A xs.length (nds xs)) (hr' : Rd w B' 3 A' xs.length (nds xs)) :
    Calls Try.prog 27 #[.slice A xs.length c, .slice A' xs.length c'] w (PBool w true) :=
  (equalNodes_d A c xs A' c' w hn hr hr').mono fun _ _ ⟨he, m, hm⟩ => ⟨he, by rw [hm]; exact below_drewN (Below.refl _ _) m⟩
theorem equalNodes_at (A : Option Addr) (c : Nat) (xs ys : List Nd) (m m' : Nat) (A' : Option Addr) (c' : Nat) (w : World) {B B' : Nat} (he : ys = xs) (hm : m = xs.length) (hm' : m' = xs.length) (hn : xs.length ≤ 100000) (hr : Rd w B 3 A m (nds xs)) (hr' : Rd w B' 3 A' m' (nds ys)) :
    Calls Try.prog 27 #[.slice A m c, .slice A' m' c'] w (PBool w true) := by
  subst hm hm' he
  exact equalNodes_same A c _ A' c' w hn hr hr'
theorem equalNodes_q {A : Option Addr} {c : Nat} {xs ys : List Nd} {m m' : Nat} {A' : Option Addr} {c' : Nat} {w : World} {n B B' : Nat} (he : ys = xs) (hm : m = xs.length) (hm' : m' = xs.length) (hn : xs.length ≤ 100000) (hr : Rd w B 3 A m (nds xs)) (hr' : Rd w B' 3 A' m' (nds ys)) :
    Calls Try.prog 27 #[.slice A m c, .slice A' m' c'] (w.drewN n) fun e w'' => e = .returned (.bool true) ∧ ∃ m, w'' = w.drewN m := by
  subst hm hm' he
  exact quiet_draw (equalNodes_d A c _ A' c' _ hn (hr.drewN n) (hr'.drewN n)) rfl
end Go.Proofs.Ythfmbedbaajdbaa
