/- The walk of FnTakeLock. -/
import Derived.Test.YtbjjlbimlhccpaaDoorLawT7
namespace Go.Proofs.YtbjjlbimlhccpaaDoor
open Go.RowKit
open Tl (Lk okM okL validT validT_iff held held_ok tog join join_ok askOk askOk_iff lockBlockers blockers mem_blockers T4 takeLock takeLock_some takeLock_held)

set_option maxHeartbeats 1000000 in
set_option maxRecDepth 100000 in
theorem law_FnTakeLock (A : Option Addr) (n c : Nat) (w : World) (h : Code8 w A n c) (hT : TabT w) (hJ : TabJ w) : Calls Tryd.prog 12 #[.slice A n c] w (PBool w true) := by
  have hle : (n : Int) ≤ 1048576 := by have := h.le; omega
  go_enter Tryd.func12, Tryd.ntmps12
  go_wp2_with fail
  refine (drawTakeLock_any A n c _ h).mono ?_
  rintro e w1 ⟨ls, A1, c1, who, node, mode, rfl, ho1, hl1, hb1⟩
  have hr1 := Rd.of_own ho1
  have hcap := own_cap ho1
  have hT1 := hT.step hb1
  have hJ1 := hJ.step hb1
  clear h ho1 hT hJ
  obtain ⟨ms, hms⟩ : ∃ ms, ms = (takeLock ls who node mode).getD [] := ⟨_, rfl⟩
  obtain ⟨ob, hob⟩ : ∃ ob, ob = (takeLock ls who node mode).isSome := ⟨_, rfl⟩
  have hm48 : ms.length ≤ 48 := by rw [hms]; exact takeLock_len ls who node mode
  go_wp2_with fail
  refine (takeLock_any A1 c1 ls who node mode _ (by omega) hcap hT1 hJ1 hr1).mono ?_
  rintro e w2 ⟨A2, c2, rfl, ho2, hb2⟩
  rw [← hms] at ho2
  rw [← hms, ← hob]
  have hr2 := Rd.of_own ho2
  have hcap2 := own_cap ho2
  have hr1 := hr1.step hb2
  have hT1 := hT1.step hb2
  have hJ1 := hJ1.step hb2
  have hb2 := below_then hb1 hb2 hb1.size
  clear hb1 ho2
  go_wp2_with fail
  refine (stakeLock_any A1 c1 ls who node mode _ (by omega) hr1).mono ?_
  rintro e w3 ⟨A3, c3, rfl, ho3, hb3⟩
  rw [← hms] at ho3
  rw [← hms, ← hob]
  have hr3 := Rd.of_own ho3
  have hr1 := hr1.step hb3
  have hr2 := hr2.step hb3
  have hT1 := hT1.step hb3
  have hJ1 := hJ1.step hb3
  have hb3 := below_then hb2 hb3 hb2.size
  have HMS := Lib.hid hms
  have HOB := Lib.hid hob
  have hse : (ob != ob) = false := by cases ob <;> rfl
  have hsq : (ob == ob) = true := by cases ob <;> rfl
  clear hb2 ho3 hms hob
  go_wp2_with fail
  refine (equalLocks_same A2 c2 ms A3 c3 _ (by omega) hr2 hr3).mono ?_
  rintro e w4 ⟨rfl, hb4⟩
  have hr1 := hr1.step hb4
  have hr2 := hr2.step hb4
  have hr3 := hr3.step hb4
  have hT1 := hT1.step hb4
  have hJ1 := hJ1.step hb4
  have hb4 := below_then hb3 hb4 hb3.size
  clear hb3
  cases ob
  · go_wp2_with fail
    refine (equalLocks_same A2 c2 ms A3 c3 _ (by omega) hr2 hr3).mono ?_
    rintro e w7 ⟨rfl, hb7⟩
    have hb7 := below_then hb4 hb7 hb4.size
    go_wp2
    go_ret
    exact ⟨rfl, hb7⟩
  · have HTK : Hid (takeLock ls who node mode = some ms) := by
      show _ = some ms
      have h1 := HOB.out
      have h2 := HMS.out
      cases hq : takeLock ls who node mode with
      | none => rw [hq] at h1; cases h1
      | some m => rw [hq] at h2; rw [h2]; rfl
    have HMV := Lib.hid (Tl.takeLock_valid HTK.out)
    have HVA := Lib.hid (takeLock_some.1 HTK.out).1
    clear hr3 hse hsq
    have HV : Hid (validT ls = true) := HVA.out.1
    have HMO : Hid (okM mode) := (askOk_iff.1 HVA.out.2.1).mode
    have HH : Hid (∀ t m : Int, heldM ms t m = if t = who ∧ m = node then join (heldM ls t m) mode else heldM ls t m) := by
      show ∀ t m : Int, _
      intro t m
      rw [heldM_valid HMV.out, heldM_valid HV.out]
      exact takeLock_held HTK.out t m
    go_wp2
    go_loopg [11, 12, 13] 4 (fun gk tv _ _ wr => ∃ t : Nat, t ≤ 4 ∧ gk = 4 - t ∧ tv = .int .i64 t ∧ Below w4.heap.size w4 wr)
    case atStart => exact ⟨0, by omega, rfl, rfl, Below.refl _ _⟩
    case round =>
      obtain ⟨t, ht, rfl, rfl, hbw⟩ := hrel
      by_cases hlt : t < 4
      · have hd : decide ((t : Int) < 4) = true := by simp; omega
        go_wp2
        clear hd
        obtain ⟨wo, rfl⟩ : ∃ wo : World, wo = wr := ⟨_, rfl⟩
        go_loopg [12, 13] 12 (fun gk nv _ wr => ∃ m : Nat, m ≤ 12 ∧ gk = 12 - m ∧ nv = .int .i64 m ∧ Below w4.heap.size w4 wr)
        case atStart => exact ⟨0, by omega, rfl, rfl, hbw⟩
        case round =>
          clear hbw
          obtain ⟨m, hm, rfl, rfl, hbw⟩ := hrel
          by_cases hlm : m < 12
          · have hr1w := (hr1.below hbw).more hbw.size
            have hr2w := (hr2.below hbw).more hbw.size
            have hTw := hT1.below hbw (Nat.le_refl _)
            have hJw := hJ1.below hbw (Nat.le_refl _)
            have hh := HH.out (t : Int) (m : Int)
            have HMT := Lib.hid (heldM_ok HV.out (t : Int) (m : Int))
            go_wp2_with fail
            refine (heldMode_any A1 c1 ls (t : Int) (m : Int) _ (by omega) hcap hTw hr1w).mono ?_
            rintro e w7 ⟨rfl, hb7⟩
            have hr2w := hr2w.step hb7
            have hTw := hTw.step hb7
            have hJw := hJw.step hb7
            have hb8 := hbw.trans (hb7.mono hbw.size)
            clear hbw hb7 hr1w
            by_cases htw : (t : Int) = who
            · have htw1 : ((t : Int) == who) = true := by simp [htw]
              by_cases hmn : (m : Int) = node
              · have hmn1 : ((m : Int) == node) = true := by simp [hmn]
                rw [if_pos ⟨htw, hmn⟩] at hh
                have HX := Lib.hid hh
                have hmm : (join (heldM ls (t : Int) (m : Int)) mode != join (heldM ls (t : Int) (m : Int)) mode) = false := by simp
                clear hh htw hmn
                go_wp2_with fail
                refine (joinModes_any HMT.out HMO.out _ hJw).mono ?_
                rintro e w8 ⟨rfl, rfl⟩
                go_wp2_with fail
                refine (heldMode_any A2 c2 ms (t : Int) (m : Int) _ (by omega) hcap2 hTw hr2w).mono ?_
                rintro e w9 ⟨rfl, hb9⟩
                rw [HX.out]
                have hb10 := hb8.trans (hb9.mono hb8.size)
                clear hb8 hb9 hr2w hTw hJw
                go_wp2
                go_roundg (12 - (m + 1))
                case measure => omega
                case rel => exact ⟨m + 1, by omega, rfl, by go_num, hb10⟩
              · have hmn1 : ((m : Int) == node) = false := by simp [hmn]
                rw [if_neg (fun e => hmn e.2)] at hh
                have HX := Lib.hid hh
                have hmm : (heldM ls (t : Int) (m : Int) != heldM ls (t : Int) (m : Int)) = false := by simp
                clear hh htw hmn
                go_wp2_with fail
                refine (heldMode_any A2 c2 ms (t : Int) (m : Int) _ (by omega) hcap2 hTw hr2w).mono ?_
                rintro e w9 ⟨rfl, hb9⟩
                rw [HX.out]
                have hb10 := hb8.trans (hb9.mono hb8.size)
                clear hb8 hb9 hr2w hTw hJw
                go_wp2
                go_roundg (12 - (m + 1))
                case measure => omega
                case rel => exact ⟨m + 1, by omega, rfl, by go_num, hb10⟩
            · have htw1 : ((t : Int) == who) = false := by simp [htw]
              rw [if_neg (fun e => htw e.1)] at hh
              have HX := Lib.hid hh
              have hmm : (heldM ls (t : Int) (m : Int) != heldM ls (t : Int) (m : Int)) = false := by simp
              clear hh htw
              go_wp2_with fail
              refine (heldMode_any A2 c2 ms (t : Int) (m : Int) _ (by omega) hcap2 hTw hr2w).mono ?_
              rintro e w9 ⟨rfl, hb9⟩
              rw [HX.out]
              have hb10 := hb8.trans (hb9.mono hb8.size)
              clear hb8 hb9 hr2w hTw hJw
              go_wp2
              go_roundg (12 - (m + 1))
              case measure => omega
              case rel => exact ⟨m + 1, by omega, rfl, by go_num, hb10⟩
          · go_wp2
            go_roundg (4 - (t + 1))
            case measure => omega
            case rel => exact ⟨t + 1, by omega, rfl, by go_num, hbw⟩
      · have hb7 := below_then hb4 hbw hb4.size
        have hr1w := (hr1.below hbw).more hbw.size
        have hr2w := (hr2.below hbw).more hbw.size
        have hTw := hT1.below hbw (Nat.le_refl _)
        have hJw := hJ1.below hbw (Nat.le_refl _)
        have HBN : Hid (lockBlockers ls who node mode = []) := by show _ = []; rw [lockBlockers_valid HV.out HVA.out.2.1]; exact HVA.out.2.2
        clear hbw
        go_wp2_with fail
        refine (validTable_any A2 c2 ms _ (by omega) hcap2 hTw hr2w).mono ?_
        rintro e w9 ⟨rfl, hb9⟩
        rw [HMV.out]
        have hr1w := hr1w.step hb9
        have hTw := hTw.step hb9
        have hJw := hJw.step hb9
        have hb10 := below_then hb7 hb9 hb7.size
        go_wp2_with fail
        refine (lockBlockers_any A1 c1 ls who node mode _ (by omega) hcap hTw hJw hr1w).mono ?_
        rintro e w10 ⟨A10, c10, rfl, ho10, hb11⟩
        rw [HBN.out]
        have hb12 := below_then hb10 hb11 hb10.size
        clear ho10
        go_wp2
        go_ret
        exact ⟨rfl, hb12⟩
end Go.Proofs.YtbjjlbimlhccpaaDoor
