/- The walk of FnValidTableWeaker. -/
import Derived.Test.YtbjjlbimlhccpaaDoorTabKit
import Derived.Deep.RegionHeld3
namespace Go.Proofs.YtbjjlbimlhccpaaDoor
open Go.RowKit
open Tl (Lk okM okL validT validT_iff weak weak_valid)

set_option maxHeartbeats 1000000 in
set_option maxRecDepth 100000 in
theorem law_FnValidTableWeaker (A : Option Addr) (n c : Nat) (w : World) (h : Code8 w A n c) (hT : TabT w) : Calls Tryd.prog 4 #[.slice A n c] w (PBool w true) := by
  have hle : (n : Int) ≤ 1048576 := by have := h.le; omega
  go_enter Tryd.func4, Tryd.ntmps4
  go_wp2_with fail
  refine (drawValidTable_any A n c _ h).mono ?_
  rintro e w1 ⟨ls, A1, c1, rfl, ho1, hl1, hb1⟩
  have hr1 := Rd.of_own ho1
  have hcap := own_cap ho1
  have hT1 := hT.step hb1
  clear h ho1 hT
  go_wp2_with fail
  refine (validTable_any A1 c1 ls _ (by omega) hcap hT1 hr1).mono ?_
  rintro e w2 ⟨rfl, hb2⟩
  have hr1 := hr1.step hb2
  have hT1 := hT1.step hb2
  have hb2 := below_then hb1 hb2 hb1.size
  clear hb1
  go_wp2_with fail
  refine (svalidTable_any A1 c1 ls _ (by omega) hr1).mono ?_
  rintro e w3 ⟨rfl, hb3⟩
  have hr1 := hr1.step hb3
  have hT1 := hT1.step hb3
  have hb3 := below_then hb2 hb3 hb2.size
  clear hb2
  cases hv : validT ls
  · have HV := Lib.hid hv
    have h1 : (false != false) = false := rfl
    clear hv
    go_wp2_with fail
    refine (svalidTable_any A1 c1 ls _ (by omega) hr1).mono ?_
    rintro e w4 ⟨rfl, hb4⟩
    rw [HV.out]
    have hb4 := below_then hb3 hb4 hb3.size
    go_wp2
    go_ret
    exact ⟨rfl, hb4⟩
  · have HV := Lib.hid hv
    have h1 : (true != true) = false := rfl
    clear hv
    go_wp2
    clear h1
    go_loopg [5, 6] ls.length (fun gk v i wr => ∃ (k : Nat) (A : Option Addr) (c : Nat), k ≤ ls.length ∧ gk = ls.length - k ∧ i = .int .i64 k ∧ v = .slice A k c ∧
      wr.ownsRow w3.heap.size 28 3 v k (lks (weak (ls.take k))) ∧ Below w3.heap.size w3 wr)
    case atStart => exact ⟨0, _, 0, by omega, rfl, rfl, rfl, own_lit0 w3 28 3 (Nat.le_refl _), (Below.refl _ _).alloc (Nat.le_refl _) _⟩
    case round =>
      obtain ⟨k, A6, c6, hk, rfl, rfl, rfl, hown, hbw⟩ := hrel
      by_cases hlt : k < ls.length
      · obtain ⟨b, off, x, rfl, hbl2, hx, hc1, hc2, hc3⟩ := (hr1.below hbw).lk hlt
        have HN : Hid (weak (ls.take (k + 1)) = weak (ls.take k) ++ [⟨x.who, x.node, 1⟩]) := by show _ = _; unfold weak; rw [take_succ_of hx, List.map_append]; rfl
        have hbs := hbw.size
        clear hx hc3
        go_wp2
        go_region_held3 (fun w' => w'.cell? ⟨b, off + k * 3, none⟩ = some (.int .i64 x.who) ∧ w'.cell? ⟨b, off + k * 3 + 1, none⟩ = some (.int .i64 x.node))
          (first
            | go_keep
            | (go_split_ands
               refine ⟨?_, ?_⟩
               · (rw [hb'.cell hbl2]; assumption)
               · (rw [hb'.cell hbl2]; assumption)))
          ((refine step_push_lk (by rfl) _ _ (by rfl) ⟨x.who, x.node, 1⟩ (by rfl) ((hown.alloc _).drew) (by rfl) (heap_alloc_new wr _) (by omega) (by simp; omega) ?_; intro A' c' w' ho' hb' _))
        have hb7 := ((hbw.alloc hbs (.cells #[.int .i64 x.who, .int .i64 x.node, .int .i64 1] 28)).drew).trans hb'
        clear hown hbw hb' hc1 hc2
        rw [← HN.out] at ho'
        go_wp2
        go_roundg (ls.length - (k + 1))
        case measure => omega
        case rel => exact ⟨k + 1, A', c', by omega, rfl, by go_num, rfl, ho', hb7⟩
      · have hke : k = ls.length := by omega
        subst hke
        rw [List.take_length] at hown
        have hlm : (weak ls).length = ls.length := by unfold weak; rw [List.length_map]
        have hcl := validTable_any A6 c6 (weak ls) wr (by rw [hlm]; omega) (by rw [hlm]; exact own_cap hown) (hT1.below hbw (Nat.le_refl _)) (by rw [hlm]; exact Rd.of_own hown)
        rw [hlm, weak_valid HV.out] at hcl
        have HC := Lib.hid hcl
        clear hcl hlm hown
        go_wp2_with fail
        refine HC.out.mono ?_
        rintro e w6 ⟨rfl, hb6⟩
        have hb7 := below_then (below_then hb3 hbw hb3.size) hb6 (Nat.le_trans hb3.size hbw.size)
        go_wp2
        go_ret
        exact ⟨rfl, hb7⟩
end Go.Proofs.YtbjjlbimlhccpaaDoor
