/- The walk of FnFreeLocks. -/
import Derived.Test.YtbjjlbimlhccpaaDoorTabKit
namespace Go.Proofs.YtbjjlbimlhccpaaDoor
open Go.RowKit
open Tl (Lk okM okL validT validT_iff freeT held held_freeT)

set_option maxHeartbeats 1000000 in
set_option maxRecDepth 100000 in
theorem law_FnFreeLocks (A : Option Addr) (n c : Nat) (w : World) (h : Code8 w A n c) (hT : TabT w) : Calls Tryd.prog 8 #[.slice A n c] w (PBool w true) := by
  have hle : (n : Int) ≤ 1048576 := by have := h.le; omega
  go_enter Tryd.func8, Tryd.ntmps8
  go_wp2_with fail
  refine (drawFreeLocks_any A n c _ h).mono ?_
  rintro e w1 ⟨ls, A1, c1, who, rfl, ho1, hl1, hb1⟩
  have hr1 := Rd.of_own ho1
  have hcap := own_cap ho1
  have hT1 := hT.step hb1
  have hfl := freeL_len ls who
  clear h ho1 hT
  go_wp2_with fail
  refine (freeLocks_any A1 c1 ls who _ (by omega) hcap hT1 hr1).mono ?_
  rintro e w2 ⟨A2, c2, rfl, ho2, hb2⟩
  have hr2 := Rd.of_own ho2
  have hcap2 := own_cap ho2
  have hr1 := hr1.step hb2
  have hT1 := hT1.step hb2
  have hb2 := below_then hb1 hb2 hb1.size
  clear hb1 ho2
  go_wp2_with fail
  refine (sfreeLocks_any A1 c1 ls who _ (by omega) hr1).mono ?_
  rintro e w3 ⟨A3, c3, rfl, ho3, hb3⟩
  have hr3 := Rd.of_own ho3
  have hr1 := hr1.step hb3
  have hr2 := hr2.step hb3
  have hT1 := hT1.step hb3
  have hb3 := below_then hb2 hb3 hb2.size
  clear hb2 ho3
  go_wp2_with fail
  refine (equalLocks_same A2 c2 (freeL ls who) A3 c3 _ (by omega) hr2 hr3).mono ?_
  rintro e w4 ⟨rfl, hb4⟩
  have hr1 := hr1.step hb4
  have hr2 := hr2.step hb4
  have hT1 := hT1.step hb4
  have hb4 := below_then hb3 hb4 hb3.size
  clear hb3 hr3
  go_wp2_with fail
  refine (validTable_any A1 c1 ls _ (by omega) hcap hT1 hr1).mono ?_
  rintro e w5 ⟨rfl, hb5⟩
  have hr1 := hr1.step hb5
  have hr2 := hr2.step hb5
  have hT1 := hT1.step hb5
  have hb5 := below_then hb4 hb5 hb4.size
  clear hb4
  cases hv : validT ls
  · clear hv
    go_wp2_with fail
    refine (sfreeLocks_any A1 c1 ls who _ (by omega) hr1).mono ?_
    rintro e w6 ⟨A6, c6, rfl, ho6, hb6⟩
    have hr6 := Rd.of_own ho6
    have hr2 := hr2.step hb6
    have hb6 := below_then hb5 hb6 hb5.size
    clear hb5 ho6
    go_wp2_with fail
    refine (equalLocks_same A2 c2 (freeL ls who) A6 c6 _ (by omega) hr2 hr6).mono ?_
    rintro e w7 ⟨rfl, hb7⟩
    have hb7 := below_then hb6 hb7 hb6.size
    go_wp2
    go_ret
    exact ⟨rfl, hb7⟩
  · have HV := Lib.hid hv
    have HVF : Hid (validT (freeL ls who) = true) := by show _ = true; rw [freeL_valid hv]; exact Tl.freeT_valid hv who
    have HHF : Hid (∀ t nn : Int, heldM (freeL ls who) t nn = if t = who then 0 else heldM ls t nn) := by
      show ∀ _ _, _
      intro t nn
      have hvf : validT (freeL ls who) = true := by rw [freeL_valid hv]; exact Tl.freeT_valid hv who
      rw [heldM_valid hvf, heldM_valid hv, freeL_valid hv]
      exact held_freeT who t nn
    clear hv
    go_wp2
    go_loopg [6, 7] 4 (fun gk tv _ wr => ∃ t : Nat, t ≤ 4 ∧ gk = 4 - t ∧ tv = .int .i64 t ∧ Below w5.heap.size w5 wr)
    case atStart => exact ⟨0, by omega, rfl, rfl, Below.refl _ _⟩
    case round =>
      obtain ⟨t, ht, rfl, rfl, hbw⟩ := hrel
      by_cases hlt : t < 4
      · have hd : decide ((t : Int) < 4) = true := by simp; omega
        go_wp2
        clear hd
        obtain ⟨wo, rfl⟩ : ∃ wo : World, wo = wr := ⟨_, rfl⟩
        go_loopg [7] 12 (fun gk nv wr => ∃ m : Nat, m ≤ 12 ∧ gk = 12 - m ∧ nv = .int .i64 m ∧ Below w5.heap.size w5 wr)
        case atStart => exact ⟨0, by omega, rfl, rfl, hbw⟩
        case round =>
          clear hbw
          obtain ⟨m, hm, rfl, rfl, hbw⟩ := hrel
          by_cases hlm : m < 12
          · have hr1w := (hr1.below hbw).more hbw.size
            have hr2w := (hr2.below hbw).more hbw.size
            have hTw := hT1.below hbw (Nat.le_refl _)
            have hh := HHF.out (t : Int) (m : Int)
            by_cases htw : (t : Int) = who
            · have htw1 : ((t : Int) != who) = false := by simp [htw]
              have htw2 : ((t : Int) == who) = true := by simp [htw]
              rw [if_pos htw] at hh
              have HH := Lib.hid hh
              clear hh htw
              go_wp2_with fail
              refine (heldMode_any A2 c2 (freeL ls who) (t : Int) (m : Int) _ (by omega) hcap2 hTw hr2w).mono ?_
              rintro e w7 ⟨rfl, hb7⟩
              rw [HH.out]
              have hb8 := hbw.trans (hb7.mono hbw.size)
              clear hbw hb7 hr1w hr2w hTw
              go_wp2
              go_roundg (12 - (m + 1))
              case measure => omega
              case rel => exact ⟨m + 1, by omega, rfl, by go_num, hb8⟩
            · have htw1 : ((t : Int) != who) = true := by simp [htw]
              have htw2 : ((t : Int) == who) = false := by simp [htw]
              rw [if_neg htw] at hh
              have HH := Lib.hid hh
              have hmm : (heldM ls (t : Int) (m : Int) != heldM ls (t : Int) (m : Int)) = false := by simp
              clear hh htw
              go_wp2_with fail
              refine (heldMode_any A2 c2 (freeL ls who) (t : Int) (m : Int) _ (by omega) hcap2 hTw hr2w).mono ?_
              rintro e w7 ⟨rfl, hb7⟩
              rw [HH.out]
              have hr1x := hr1w.step hb7
              have hTx := hTw.step hb7
              have hb8 := hbw.trans (hb7.mono hbw.size)
              clear hbw hb7 hr1w hr2w hTw
              go_wp2_with fail
              refine (heldMode_any A1 c1 ls (t : Int) (m : Int) _ (by omega) hcap hTx hr1x).mono ?_
              rintro e w8 ⟨rfl, hb9⟩
              have hb10 := hb8.trans (hb9.mono hb8.size)
              clear hb8 hb9 hr1x hTx
              go_wp2
              go_roundg (12 - (m + 1))
              case measure => omega
              case rel => exact ⟨m + 1, by omega, rfl, by go_num, hb10⟩
          · go_wp2
            go_roundg (4 - (t + 1))
            case measure => omega
            case rel => exact ⟨t + 1, by omega, rfl, by go_num, hbw⟩
      · have hb7 := below_then hb5 hbw hb5.size
        have hr2w := (hr2.below hbw).more hbw.size
        have hTw := hT1.below hbw (Nat.le_refl _)
        clear hbw
        go_wp2_with fail
        refine (validTable_any A2 c2 (freeL ls who) _ (by omega) hcap2 hTw hr2w).mono ?_
        rintro e w9 ⟨rfl, hb9⟩
        rw [HVF.out]
        have hb10 := below_then hb7 hb9 hb7.size
        go_wp2
        go_ret
        exact ⟨rfl, hb10⟩
end Go.Proofs.YtbjjlbimlhccpaaDoor
