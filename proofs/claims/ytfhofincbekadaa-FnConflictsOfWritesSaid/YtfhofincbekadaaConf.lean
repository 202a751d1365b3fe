/- Contracts: ConflictsOf, both. -/
import Derived.Test.YtfhofincbekadaaSerC
import Derived.Test.YtfhofincbekadaaLL
import Derived.BigQuiet
namespace Go.Proofs.Ytfhofincbekadaa
open Go.RowKit
open Tl (Ac okA validA validA_iff clash must takes clashes T4 mem_T4 conflicts)

def cRow (xs : List Ac) (a : Int) (bs : List Int) : List (List Int) := (bs.filter fun b => must xs a b).map fun b => [a, b]
def cTo (xs : List Ac) (a b : Nat) : List (List Int) := ((T4.take a).flatMap fun u => cRow xs u T4) ++ cRow xs a (T4.take b)
def cfl (xs : List Ac) : List (List Int) := (conflicts xs).map fun p => [p.1, p.2]
theorem cTo_yes {xs : List Ac} {a b : Nat} (hb : b < 4) (h : must xs a b = true) : cTo xs a (b + 1) = cTo xs a b ++ [[(a : Int), (b : Int)]] := by
  unfold cTo cRow; rw [T4_take_succ hb, List.filter_append, List.map_append]; simp [h]
theorem cTo_no {xs : List Ac} {a b : Nat} (hb : b < 4) (h : must xs a b = false) : cTo xs a (b + 1) = cTo xs a b := by
  unfold cTo cRow; rw [T4_take_succ hb, List.filter_append, List.map_append]; simp [h]
theorem cTo_next (xs : List Ac) {a b : Nat} (ha : a < 4) (hb : ¬ b < 4) : cTo xs a b = cTo xs (a + 1) 0 := by
  unfold cTo
  rw [T4_take_succ ha, List.flatMap_append, show T4.take b = T4 from List.take_of_length_le (by simp [T4]; omega)]
  simp [cRow]
theorem cTo_end (xs : List Ac) {a : Nat} (ha : ¬ a < 4) : cTo xs a 0 = cfl xs := by
  unfold cTo cfl conflicts
  rw [show T4.take a = T4 from List.take_of_length_le (by simp [T4]; omega)]
  simp [cRow, List.map_flatMap, Function.comp_def]
theorem cTo_len (xs : List Ac) {a b : Nat} (ha : a ≤ 4) (hb : b ≤ 4) : (cTo xs a b).length ≤ 20 := by
  have hr : ∀ u bs, (cRow xs u bs).length ≤ bs.length := by intro u bs; unfold cRow; rw [List.length_map]; exact List.length_filter_le _ _
  have h1 : ((T4.take a).flatMap fun u => cRow xs u T4).length ≤ 16 := by
    have h4 : ∀ u, (cRow xs u T4).length ≤ 4 := fun u => hr u T4
    have := h4 0; have := h4 1; have := h4 2; have := h4 3
    have hh : a = 0 ∨ a = 1 ∨ a = 2 ∨ a = 3 ∨ a = 4 := by omega
    rcases hh with rfl | rfl | rfl | rfl | rfl <;> simp [T4] at * <;> omega
  have h2 := hr a (T4.take b)
  have h3 : (T4.take b).length ≤ 4 := by simp [T4]; omega
  unfold cTo
  rw [List.length_append]
  omega

def cres (xs : List Ac) : List (List Int) := if validA xs then cfl xs else []
def PConf (w : World) (xs : List Ac) (e : Ending) (w' : World) : Prop :=
  ∃ A c, e = .returned (.slice A (cres xs).length c) ∧ OwnLL w' w.heap.size (.slice A (cres xs).length c) (cres xs).length (cres xs) ∧ Below w.heap.size w w'
theorem cres_len (xs : List Ac) : (cres xs).length ≤ 20 := by
  unfold cres
  split
  · rw [← cTo_end xs (a := 4) (by omega)]; exact cTo_len xs (Nat.le_refl 4) (by omega)
  · simp

set_option maxHeartbeats 2000000 in
set_option maxRecDepth 100000 in
theorem conflictsOf_any (A : Option Addr) (c : Nat) (xs : List Ac) (w : World) (hn : xs.length ≤ 100000) (hcap : xs.length ≤ c) (hr : Rd w w.heap.size 3 A xs.length (acs xs)) :
    Calls Try.prog 17 #[.slice A xs.length c] w (PConf w xs) := by
  cases hv : validA xs
  · go_enter Try.func17, Try.ntmps17
    go_wp2_with fail
    refine (validAccesses_any A c xs _ hn hr).mono ?_
    rintro e w1 ⟨rfl, hb1⟩
    rw [hv]
    go_wp2
    go_ret
    have : cres xs = [] := by simp [cres, hv]
    exact ⟨none, 0, by rw [this]; rfl, by rw [this]; exact OwnLL.nil _ _ (World.ownsRow_nil _ _ _ _), hb1⟩
  · have hok := (validA_iff.1 hv).2
    go_enter Try.func17, Try.ntmps17
    go_wp2_with fail
    refine (validAccesses_any A c xs _ hn hr).mono ?_
    rintro e w1 ⟨rfl, hb1⟩
    rw [hv]
    have HV := Lib.hid hv
    have hr1 := hr.step hb1
    clear hv
    go_wp2_with fail
    refine (behindOf_any A c xs w1 hn hcap hok hr1).mono ?_
    rintro e w2 ⟨rfl, hb2⟩
    have hB2 := below_then hb1 hb2 hb1.size
    clear hb1 hb2 hr1
    go_wp2
    have hst := (show Sets (w2.alloc (.cells #[.int .i64 (maskI (must xs 0)), .int .i64 (maskI (must xs 1)), .int .i64 (maskI (must xs 2)), .int .i64 (maskI (must xs 3))] 50)) w2.heap.size (must xs) from heap_alloc_new w2 _)
    have hB3 := hB2.alloc (o := .cells #[.int .i64 (maskI (must xs 0)), .int .i64 (maskI (must xs 1)), .int .i64 (maskI (must xs 2)), .int .i64 (maskI (must xs 3))] 50) hB2.size
    obtain ⟨w3, hw3⟩ : ∃ w3 : World, w3 = w2.alloc (.cells #[.int .i64 (maskI (must xs 0)), .int .i64 (maskI (must xs 1)), .int .i64 (maskI (must xs 2)), .int .i64 (maskI (must xs 3))] 50) := ⟨_, rfl⟩
    rw [← hw3] at hst hB3 ⊢
    have hsz3 : w.heap.size ≤ w2.heap.size := hB2.size
    clear hw3 hB2
    obtain ⟨g2, hg2⟩ : ∃ g2, g2 = w2.heap.size := ⟨_, rfl⟩
    rw [← hg2] at hst hsz3 ⊢
    clear hg2
    go_loopg [4, 12] 4 (fun gk ov iv wr => ∃ (a m : Nat) (A' : Option Addr) (c' : Nat), a ≤ 4 ∧ gk = 4 - a ∧ iv = .int .i64 a ∧ ov = .slice A' m c' ∧ Hid (m = (cTo xs a 0).length) ∧ OwnLL wr (g2 + 1) ov m (cTo xs a 0) ∧ Sets wr g2 (must xs) ∧ Below w.heap.size w wr)
    case atStart => exact ⟨0, 0, none, 0, by omega, rfl, rfl, rfl, rfl, OwnLL.nil _ _ (World.ownsRow_nil _ _ _ _), hst, hB3⟩
    case round =>
      clear hst hB3
      obtain ⟨a, m, A', c', ha, rfl, rfl, rfl, HM, hown, hst, hb⟩ := hrel
      by_cases ha4 : a < 4
      · have hd : decide ((a : Int) < 4) = true := by simp; omega
        go_wp2
        clear hd
        obtain ⟨wo, rfl⟩ : ∃ wo : World, wo = wr := ⟨_, rfl⟩
        go_loopg [4, 15] 4 (fun gk ov iv wr => ∃ (b m : Nat) (A' : Option Addr) (c' : Nat), b ≤ 4 ∧ gk = 4 - b ∧ iv = .int .i64 b ∧ ov = .slice A' m c' ∧ Hid (m = (cTo xs a b).length) ∧ OwnLL wr (g2 + 1) ov m (cTo xs a b) ∧ Sets wr g2 (must xs) ∧ Below w.heap.size w wr)
        case atStart => exact ⟨0, m, A', c', by omega, rfl, rfl, rfl, HM, hown, hst, hb⟩
        case round =>
          clear hown hst hb HM
          obtain ⟨b, m, A', c', hb4, rfl, rfl, rfl, HM, hown, hst, hb⟩ := hrel
          by_cases hlt : b < 4
          · have hc := hst.cellN ha4
            have hs1 := mask_and_nat (S := must xs a) hlt
            have hlen := cTo_len xs ha hb4
            cases hm : must xs (a : Int) (b : Int)
            · rw [hm] at hs1
              have HN := Lib.hid (cTo_no hlt hm)
              clear hm
              go_wp2
              go_quiet (fail)
              go_wp2
              go_roundg (4 - (b + 1))
              case measure => omega
              case rel => exact ⟨b + 1, m, A', c', by omega, rfl, by go_num, rfl, by rw [HN.out]; exact HM, by rw [HN.out]; exact hown, hst.drewN _, below_drewN hb _⟩
            · rw [hm] at hs1
              have HN := Lib.hid (cTo_yes hlt hm)
              clear hm
              obtain rfl := HM.out
              have hbs := hst.lt
              clear HM
              go_wp2
              go_quiet (fail)
              go_wp2_with (at_builtin; go_loud (refine wpList_push_ll (a0 := (a : Int)) (b0 := (b : Int)) rfl _ _ rfl rfl (show OwnLL (wr.drewN _) _ _ _ _ from hown) rfl rfl (by omega) (show g2 + 1 ≤ (wr.drewN _).heap.size from hbs) ?_); intro A2 c2 w7 ho7 hb7)
              have hst7 := (hst.drewN nq).below hb7 (by omega)
              have hb8 := (below_drewN hb nq).trans (hb7.mono (show w.heap.size ≤ g2 + 1 by omega))
              rw [← HN.out] at ho7
              clear hown hb7 hst hb
              go_wp2
              go_roundg (4 - (b + 1))
              case measure => omega
              case rel => exact ⟨b + 1, (cTo xs a b).length + 1, A2, c2, by omega, rfl, by go_num, rfl, by show _ = _; rw [HN.out, List.length_append]; rfl, ho7, hst7, hb8⟩
          · have HN := Lib.hid (cTo_next xs ha4 hlt)
            go_wp2
            go_roundg (4 - (a + 1))
            case measure => omega
            case rel => exact ⟨a + 1, m, A', c', by omega, rfl, by go_num, rfl, by rw [← HN.out]; exact HM, by rw [← HN.out]; exact hown, hst, hb⟩
      · have HE := Lib.hid (cTo_end xs ha4)
        have hm := HM.out
        rw [HE.out] at hown hm
        have hcr : cres xs = cfl xs := by unfold cres; rw [HV.out]; rfl
        rw [← hcr] at hown hm
        subst hm
        clear hcr
        go_wp2
        go_ret
        exact ⟨A', c', rfl, hown.base (by omega), hb⟩
end Go.Proofs.Ytfhofincbekadaa
