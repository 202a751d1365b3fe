/- The walk of FnLockBlockers. -/
import Derived.Test.YtbjjlbimlhccpaaDoorLawT5
namespace Go.Proofs.YtbjjlbimlhccpaaDoor
open Go.RowKit
open Tl (Lk okM okL validT validT_iff held held_ok tog join join_ok askOk askOk_iff lockBlockers blockers mem_blockers T4)

set_option maxHeartbeats 1000000 in
set_option maxRecDepth 100000 in
theorem law_FnLockBlockers (A : Option Addr) (n c : Nat) (w : World) (h : Code8 w A n c) (hT : TabT w) (hJ : TabJ w) : Calls Tryd.prog 10 #[.slice A n c] w (PBool w true) := by
  have hle : (n : Int) ≤ 1048576 := by have := h.le; omega
  go_enter Tryd.func10, Tryd.ntmps10
  go_wp2_with fail
  refine (drawLockBlockers_any A n c _ h).mono ?_
  rintro e w1 ⟨ls, A1, c1, who, node, mode, rfl, ho1, hl1, hb1⟩
  have hr1 := Rd.of_own ho1
  have hcap := own_cap ho1
  have hT1 := hT.step hb1
  have hJ1 := hJ.step hb1
  have hbl := lockBlockers_len ls who node mode
  clear h ho1 hT hJ
  go_wp2_with fail
  refine (lockBlockers_any A1 c1 ls who node mode _ (by omega) hcap hT1 hJ1 hr1).mono ?_
  rintro e w2 ⟨A2, c2, rfl, ho2, hb2⟩
  have hr2 := Rd.of_own ho2
  have hr1 := hr1.step hb2
  have hT1 := hT1.step hb2
  have hJ1 := hJ1.step hb2
  have hb2 := below_then hb1 hb2 hb1.size
  clear hb1 ho2
  go_wp2_with fail
  refine (slockBlockers_any A1 c1 ls who node mode _ (by omega) hr1).mono ?_
  rintro e w3 ⟨A4, c4, rfl, ho4, hb3⟩
  have hr4 := Rd.of_own ho4
  have hr1 := hr1.step hb3
  have hr2 := hr2.step hb3
  have hT1 := hT1.step hb3
  have hJ1 := hJ1.step hb3
  have hb3 := below_then hb2 hb3 hb2.size
  clear hb2 ho4
  go_wp2_with fail
  refine (equalInts_same A2 c2 (lockBlockers ls who node mode) A4 c4 _ (by omega) hr2 hr4).mono ?_
  rintro e w5 ⟨rfl, hb5⟩
  have hr1 := hr1.step hb5
  have hr2 := hr2.step hb5
  have hT1 := hT1.step hb5
  have hJ1 := hJ1.step hb5
  have hb5 := below_then hb3 hb5 hb3.size
  clear hb3 hr4
  by_cases hnil : lockBlockers ls who node mode = []
  · have hz : (((lockBlockers ls who node mode).length : Int) == 0) = true := by rw [hnil]; rfl
    clear hnil
    go_wp2_with fail
    refine (slockBlockers_any A1 c1 ls who node mode _ (by omega) hr1).mono ?_
    rintro e w6 ⟨A6, c6, rfl, ho6, hb6⟩
    have hr6 := Rd.of_own ho6
    have hr2 := hr2.step hb6
    have hb6 := below_then hb5 hb6 hb5.size
    clear ho6 hb5
    go_wp2_with fail
    refine (equalInts_same A2 c2 (lockBlockers ls who node mode) A6 c6 _ (by omega) hr2 hr6).mono ?_
    rintro e w7 ⟨rfl, hb7⟩
    have hb7 := below_then hb6 hb7 hb6.size
    go_wp2
    go_ret
    exact ⟨rfl, hb7⟩
  · have hz : (((lockBlockers ls who node mode).length : Int) == 0) = false := by
      cases hq : lockBlockers ls who node mode with
      | nil => exact absurd hq hnil
      | cons a r => simp; omega
    obtain ⟨hv, ha⟩ := lockBlockers_some hnil
    have HV := Lib.hid hv
    have HA := Lib.hid ha
    have HB := Lib.hid (lockBlockers_valid hv ha)
    have hmo := (askOk_iff.1 ha).mode
    have HMO := Lib.hid hmo
    have HHO := Lib.hid (heldM_ok hv who node)
    clear hnil hv ha hmo
    go_wp2_with fail
    refine (heldMode_any A1 c1 ls who node _ (by omega) hcap hT1 hr1).mono ?_
    rintro e w6 ⟨rfl, hb6⟩
    have hr1 := hr1.step hb6
    have hr2 := hr2.step hb6
    have hT1 := hT1.step hb6
    have hJ1 := hJ1.step hb6
    have hb6 := below_then hb5 hb6 hb5.size
    clear hb5
    go_wp2_with fail
    refine (joinModes_any HHO.out HMO.out _ hJ1).mono ?_
    rintro e w7 ⟨rfl, rfl⟩
    obtain ⟨want, hwe⟩ : ∃ want, want = join (heldM ls who node) mode := ⟨_, rfl⟩
    have HWE := Lib.hid hwe
    have HWM : Hid (okM want) := by show okM want; rw [hwe]; exact join_ok HHO.out HMO.out
    have HMEM : Hid (∀ t : Int, 0 ≤ t → t ≤ 3 → decide (t ∈ lockBlockers ls who node mode) = (decide (t ≠ who) && !tog (heldM ls t node) want)) := by
      show ∀ t : Int, _
      intro t h0 h3
      rw [HB.out, Bool.eq_iff_iff]
      simp only [decide_eq_true_eq, Bool.and_eq_true, Bool.not_eq_true', ne_eq]
      rw [mem_blockers, hwe, heldM_valid HV.out, heldM_valid HV.out]
      constructor
      · intro hh; exact hh.2
      · intro hh; exact ⟨⟨h0, h3⟩, hh⟩
    have HNW : Hid (decide (who ∈ lockBlockers ls who node mode) = false) := by
      show _ = false
      rw [HB.out, decide_eq_false_iff_not]
      intro hh
      exact (mem_blockers.1 hh).2.1 rfl
    rw [← hwe]
    clear hwe hJ1
    go_wp2
    go_loopg [9] 4 (fun gk tv wr => ∃ t : Nat, t ≤ 4 ∧ gk = 4 - t ∧ tv = .int .i64 t ∧ Below w6.heap.size w6 wr)
    case atStart => exact ⟨0, by omega, rfl, rfl, Below.refl _ _⟩
    case round =>
      obtain ⟨t, ht, rfl, rfl, hbw⟩ := hrel
      by_cases hlt : t < 4
      · have hr1w := (hr1.below hbw).more hbw.size
        have hr2w := (hr2.below hbw).more hbw.size
        have hTw := hT1.below hbw (Nat.le_refl _)
        have HM := Lib.hid (HMEM.out (t : Int) (by omega) (by omega))
        by_cases htw : (t : Int) = who
        · have htw1 : ((t : Int) != who) = false := by simp [htw]
          have HI : Hid (decide ((t : Int) ∈ lockBlockers ls who node mode) = false) := by show _ = false; rw [HM.out]; simp [htw]
          clear htw
          go_wp2_with fail
          refine (lisIn_any A2 c2 (lockBlockers ls who node mode) (t : Int) _ (by omega) hr2w).mono ?_
          rintro e w7 ⟨rfl, rfl⟩
          rw [HI.out]
          go_wp2
          go_roundg (4 - (t + 1))
          case measure => omega
          case rel => exact ⟨t + 1, by omega, rfl, by go_num, hbw⟩
        · have htw1 : ((t : Int) != who) = true := by simp [htw]
          have HI : Hid (decide ((t : Int) ∈ lockBlockers ls who node mode) = !tog (heldM ls (t : Int) node) want) := by show _ = _; rw [HM.out]; simp [htw]
          have HMT := Lib.hid (heldM_ok HV.out (t : Int) node)
          clear htw
          go_wp2_with fail
          refine (lisIn_any A2 c2 (lockBlockers ls who node mode) (t : Int) _ (by omega) hr2w).mono ?_
          rintro e w7 ⟨rfl, rfl⟩
          rw [HI.out]
          go_wp2_with fail
          refine (heldMode_any A1 c1 ls (t : Int) node _ (by omega) hcap hTw hr1w).mono ?_
          rintro e w7 ⟨rfl, hb7⟩
          have hb8 := hbw.trans (hb7.mono hbw.size)
          have hTx := hTw.step hb7
          clear hbw hb7 hr1w hr2w hTw
          go_wp2_with fail
          refine (goTogether_any HMT.out HWM.out _ hTx).mono ?_
          rintro e w8 ⟨rfl, rfl⟩
          clear hTx
          cases htg : tog (heldM ls (t : Int) node) want
          · clear htg
            go_wp2
            go_roundg (4 - (t + 1))
            case measure => omega
            case rel => exact ⟨t + 1, by omega, rfl, by go_num, hb8⟩
          · clear htg
            go_wp2
            go_roundg (4 - (t + 1))
            case measure => omega
            case rel => exact ⟨t + 1, by omega, rfl, by go_num, hb8⟩
      · have hb8 := below_then hb6 hbw hb6.size
        have hr2w := hr2.below hbw
        go_wp2_with fail
        refine (lisIn_any A2 c2 (lockBlockers ls who node mode) who _ (by omega) hr2w).mono ?_
        rintro e w7 ⟨rfl, rfl⟩
        rw [HNW.out]
        go_wp2
        go_ret
        exact ⟨rfl, hb8⟩
end Go.Proofs.YtbjjlbimlhccpaaDoor
