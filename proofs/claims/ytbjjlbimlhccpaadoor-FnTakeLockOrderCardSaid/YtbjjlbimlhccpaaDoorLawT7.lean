/- The walk of FnTakeLockTwice. -/
import Derived.Test.YtbjjlbimlhccpaaDoorLawT5
namespace Go.Proofs.YtbjjlbimlhccpaaDoor
open Go.RowKit
open Tl (Lk okM okL validT validT_iff held held_ok tog join join_ok askOk askOk_iff lockBlockers blockers mem_blockers T4 takeLock takeLock_some)

theorem takeLock_len (l : List Lk) (who node mode : Int) : ((takeLock l who node mode).getD []).length ≤ 48 := by
  cases h : takeLock l who node mode with
  | none => simp
  | some m => exact (validT_iff.1 (Tl.takeLock_valid h)).1

set_option maxHeartbeats 1000000 in
set_option maxRecDepth 100000 in
theorem law_FnTakeLockTwice (A : Option Addr) (n c : Nat) (w : World) (h : Code8 w A n c) (hT : TabT w) (hJ : TabJ w) : Calls Tryd.prog 11 #[.slice A n c] w (PBool w true) := by
  have hle : (n : Int) ≤ 1048576 := by have := h.le; omega
  go_enter Tryd.func11, Tryd.ntmps11
  go_wp2_with fail
  refine (drawTakeLock_any A n c _ h).mono ?_
  rintro e w1 ⟨ls, A1, c1, who, node, mode, rfl, ho1, hl1, hb1⟩
  have hr1 := Rd.of_own ho1
  have hcap := own_cap ho1
  have hT1 := hT.step hb1
  have hJ1 := hJ.step hb1
  clear h ho1 hT hJ
  obtain ⟨ms, hms⟩ : ∃ ms, ms = (takeLock ls who node mode).getD [] := ⟨_, rfl⟩
  obtain ⟨ob, hob⟩ : ∃ ob, ob = (takeLock ls who node mode).isSome := ⟨_, rfl⟩
  have hm48 : ms.length ≤ 48 := by rw [hms]; exact takeLock_len ls who node mode
  go_wp2_with fail
  refine (takeLock_any A1 c1 ls who node mode _ (by omega) hcap hT1 hJ1 hr1).mono ?_
  rintro e w2 ⟨A2, c2, rfl, ho2, hb2⟩
  rw [← hms] at ho2
  rw [← hms, ← hob]
  have hr2 := Rd.of_own ho2
  have hcap2 := own_cap ho2
  have hr1 := hr1.step hb2
  have hT1 := hT1.step hb2
  have hJ1 := hJ1.step hb2
  have hb2 := below_then hb1 hb2 hb1.size
  clear hb1 ho2
  go_wp2_with fail
  refine (stakeLock_any A1 c1 ls who node mode _ (by omega) hr1).mono ?_
  rintro e w3 ⟨A3, c3, rfl, ho3, hb3⟩
  rw [← hms] at ho3
  rw [← hms, ← hob]
  have hr3 := Rd.of_own ho3
  have hr1 := hr1.step hb3
  have hr2 := hr2.step hb3
  have hT1 := hT1.step hb3
  have hJ1 := hJ1.step hb3
  have hb3 := below_then hb2 hb3 hb2.size
  have HMS := Lib.hid hms
  have HOB := Lib.hid hob
  have hse : (ob != ob) = false := by cases ob <;> rfl
  have hsq : (ob == ob) = true := by cases ob <;> rfl
  clear hb2 ho3 hms hob
  go_wp2_with fail
  refine (equalLocks_same A2 c2 ms A3 c3 _ (by omega) hr2 hr3).mono ?_
  rintro e w4 ⟨rfl, hb4⟩
  have hr1 := hr1.step hb4
  have hr2 := hr2.step hb4
  have hr3 := hr3.step hb4
  have hT1 := hT1.step hb4
  have hJ1 := hJ1.step hb4
  have hb4 := below_then hb3 hb4 hb3.size
  clear hb3
  cases ob
  · go_wp2_with fail
    refine (equalLocks_same A2 c2 ms A3 c3 _ (by omega) hr2 hr3).mono ?_
    rintro e w7 ⟨rfl, hb7⟩
    have hb7 := below_then hb4 hb7 hb4.size
    go_wp2
    go_ret
    exact ⟨rfl, hb7⟩
  · have HTK : Hid (takeLock ls who node mode = some ms) := by
      show _ = some ms
      have h1 := HOB.out
      have h2 := HMS.out
      cases hq : takeLock ls who node mode with
      | none => rw [hq] at h1; cases h1
      | some m => rw [hq] at h2; rw [h2]; rfl
    have HMV := Lib.hid (Tl.takeLock_valid HTK.out)
    have HVA := Lib.hid (takeLock_some.1 HTK.out).1
    clear hr3 hse hsq
    have HTW := Lib.hid (Tl.takeLock_twice HTK.out)
    go_wp2_with fail
    refine (takeLock_any A2 c2 ms who node mode _ (by omega) hcap2 hT1 hJ1 hr2).mono ?_
    rintro e w5 ⟨A5, c5, rfl, ho5, hb5⟩
    rw [HTW.out] at ho5
    rw [HTW.out]
    simp only [Option.getD_some, Option.isSome_some] at ho5 ⊢
    have hr5 := Rd.of_own ho5
    have hr2 := hr2.step hb5
    have hb5 := below_then hb4 hb5 hb4.size
    clear ho5 hb4
    go_wp2_with fail
    refine (equalLocks_same A5 c5 ms A2 c2 _ (by omega) hr5 hr2).mono ?_
    rintro e w6 ⟨rfl, hb6⟩
    have hb7 := below_then hb5 hb6 hb5.size
    go_wp2
    go_ret
    exact ⟨rfl, hb7⟩
end Go.Proofs.YtbjjlbimlhccpaaDoor
