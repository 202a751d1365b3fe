/- The walk of FnTableAfterValid. -/
import Derived.Test.YtpbhphpmegcenaaDoorStKit
namespace Go.Proofs.YtpbhphpmegcenaaDoor
open Go.RowKit
open Tl (St Lk Ac validT validT_iff validS tableAfter doSt runS held takeLock twoPhase lockPoint freeBy freeBy_iff)

set_option maxHeartbeats 2000000 in
set_option maxRecDepth 100000 in
theorem law_FnTableAfterValid (A : Option Addr) (n c : Nat) (w : World) (h : Code8 w A n c) (hT : TabT w) (hJ : TabJ w) : Calls Tryd.prog 11 #[.slice A n c] w (PBool w true) := by
  have hle : (n : Int) ≤ 1048576 := by have := h.le; omega
  go_enter Tryd.func11, Tryd.ntmps11
  go_wp2_with fail
  refine (drawTableAfter_any A n c _ h).mono ?_
  rintro e w1 ⟨ss, A1, c1, rfl, ho1, hl1, hb1⟩
  have hr1 := Rd.of_own ho1
  have hcap := own_cap ho1
  have hT1 := hT.step hb1
  have hJ1 := hJ.step hb1
  clear h ho1 hT hJ
  obtain ⟨ms, hms⟩ : ∃ ms, ms = (tableAfter ss).getD [] := ⟨_, rfl⟩
  obtain ⟨ob, hob⟩ : ∃ ob, ob = (tableAfter ss).isSome := ⟨_, rfl⟩
  have hm48 : ms.length ≤ 48 := by rw [hms]; exact tableAfter_len48 ss
  go_wp2_with fail
  refine (tableAfter_any A1 c1 ss _ (by omega) hT1 hJ1 hr1).mono ?_
  rintro e w2 ⟨A2, c2, rfl, ho2, hb2⟩
  rw [← hms] at ho2
  rw [← hms, ← hob]
  have hr2 := Rd.of_own ho2
  have hcap2 := own_cap ho2
  have hr1 := hr1.step hb2
  have hT1 := hT1.step hb2
  have hJ1 := hJ1.step hb2
  have hb2 := below_then hb1 hb2 hb1.size
  clear hb1 ho2
  go_wp2_with fail
  refine (stableAfter_any A1 c1 ss _ (by omega) hr1).mono ?_
  rintro e w3 ⟨A3, c3, rfl, ho3, hb3⟩
  rw [← hms] at ho3
  rw [← hms, ← hob]
  have hr3 := Rd.of_own ho3
  have hr1 := hr1.step hb3
  have hr2 := hr2.step hb3
  have hT1 := hT1.step hb3
  have hJ1 := hJ1.step hb3
  have hb3 := below_then hb2 hb3 hb2.size
  have HMS := Lib.hid hms
  have HOB := Lib.hid hob
  have hse : (ob != ob) = false := by cases ob <;> rfl
  have hsq : (ob == ob) = true := by cases ob <;> rfl
  clear hb2 ho3 hms hob
  go_wp2_with fail
  refine (equalLocks_same A2 c2 ms A3 c3 _ (by omega) hr2 hr3).mono ?_
  rintro e w4 ⟨rfl, hb4⟩
  have hr1 := hr1.step hb4
  have hr2 := hr2.step hb4
  have hr3 := hr3.step hb4
  have hT1 := hT1.step hb4
  have hJ1 := hJ1.step hb4
  have hb4 := below_then hb3 hb4 hb3.size
  clear hb3
  cases ob
  · go_wp2_with fail
    refine (equalLocks_same A2 c2 ms A3 c3 _ (by omega) hr2 hr3).mono ?_
    rintro e w7 ⟨rfl, hb7⟩
    have hb7 := below_then hb4 hb7 hb4.size
    go_wp2
    go_ret
    exact ⟨rfl, hb7⟩
  · have HTA : Hid (tableAfter ss = some ms) := some_of_parts HMS.out HOB.out
    have HMV := Lib.hid (Tl.tableAfter_valid HTA.out)
    have HVS : Hid (validS ss = true) := by
      show validS ss = true
      unfold validS; rw [HTA.out]; rfl
    have hle2 : (ms.length : Int) ≤ (ss.length : Int) := by
      have h1 := Tl.tableAfter_length HTA.out
      have h2 := Tl.frees_takes ss
      omega
    clear hr3 hse hsq
    go_wp2_with fail
    refine (validTable_any A2 c2 ms _ (by omega) hcap2 hT1 hr2).mono ?_
    rintro e w5 ⟨rfl, hb5⟩
    rw [HMV.out]
    have hr1 := hr1.step hb5
    have hT1 := hT1.step hb5
    have hJ1 := hJ1.step hb5
    have hb5 := below_then hb4 hb5 hb4.size
    clear hb4
    go_wp2_with fail
    refine (validSteps_any A1 c1 ss _ (by omega) hT1 hJ1 hr1).mono ?_
    rintro e w6 ⟨rfl, hb6⟩
    rw [HVS.out]
    have hb6 := below_then hb5 hb6 hb5.size
    go_wp2
    go_ret
    exact ⟨rfl, hb6⟩
end Go.Proofs.YtpbhphpmegcenaaDoor
