/- The walk of FnValidStepsFree. -/
import Derived.Test.YtpbhphpmegcenaaDoorStKit
namespace Go.Proofs.YtpbhphpmegcenaaDoor
open Go.RowKit
open Tl (St Lk validS)

set_option maxHeartbeats 2000000 in
set_option maxRecDepth 100000 in
theorem law_FnValidStepsFree (A : Option Addr) (n c : Nat) (w : World) (h : Code8 w A n c) (hT : TabT w) (hJ : TabJ w) : Calls Tryd.prog 9 #[.slice A n c] w (PBool w true) := by
  have hle : (n : Int) ≤ 1048576 := by have := h.le; omega
  go_enter Tryd.func9, Tryd.ntmps9
  go_wp2_with fail
  refine (drawValidSteps_any A n c _ h).mono ?_
  rintro e w1 ⟨ss, A1, c1, rfl, ho1, hl1, hb1⟩
  have hr1 := Rd.of_own ho1
  have hcap := own_cap ho1
  have hT1 := hT.step hb1
  have hJ1 := hJ.step hb1
  clear h hT hJ ho1
  go_wp2_with fail
  refine (validSteps_any A1 c1 ss _ (by omega) hT1 hJ1 hr1).mono ?_
  rintro e w2 ⟨rfl, hb2⟩
  have hr1 := hr1.step hb2
  have hT1 := hT1.step hb2
  have hJ1 := hJ1.step hb2
  have hb2 := below_then hb1 hb2 hb1.size
  clear hb1
  go_wp2_with fail
  refine (svalidSteps_any A1 c1 ss _ (by omega) hr1).mono ?_
  rintro e w3 ⟨rfl, hb3⟩
  have hr1 := hr1.step hb3
  have hT1 := hT1.step hb3
  have hJ1 := hJ1.step hb3
  have hb3 := below_then hb2 hb3 hb2.size
  clear hb2
  cases hv : validS ss
  · have HV := Lib.hid hv
    have h1 : (false != false) = false := rfl
    clear hv
    go_wp2_with fail
    refine (svalidSteps_any A1 c1 ss _ (by omega) hr1).mono ?_
    rintro e w4 ⟨rfl, hb4⟩
    rw [HV.out]
    have hb4 := below_then hb3 hb4 hb3.size
    go_wp2
    go_ret
    exact ⟨rfl, hb4⟩
  · have HV := Lib.hid hv
    have h1 : (true != true) = false := rfl
    clear hv
    cases ss with
    | nil =>
      have hz : (((([] : List St).length : Nat) : Int) == 0) = true := rfl
      go_wp2_with fail
      refine (svalidSteps_any A1 c1 [] _ (by omega) hr1).mono ?_
      rintro e w4 ⟨rfl, hb4⟩
      rw [HV.out]
      have hb4 := below_then hb3 hb4 hb3.size
      go_wp2
      go_ret
      exact ⟨rfl, hb4⟩
    | cons s r =>
      have HF := Lib.hid (Tl.validS_head HV.out)
      obtain ⟨b, off, x, rfl, hbl, hx, hc1, hc2, hc3, hc4⟩ := hr1.st (k := 0) (by simp)
      obtain rfl : s = x := by simpa using hx
      rw [HF.out] at hc2
      simp only [Nat.zero_mul, Nat.add_zero] at hc1 hc2 hc3 hc4
      have hz : (((s :: r).length : Int) == 0) = false := beq_eq_false_iff_ne.2 (by simp; omega)
      have hi : (0 : Int) < ((s :: r).length : Int) := by first | (simp; done) | (simp; omega)
      have hb4 := (Below.refl w3.heap.size w3).alloc (Nat.le_refl _) (.cells #[.int .i64 0, .bool true, .int .i64 0, .int .i64 0] 29)
      have hT4 := hT1.step hb4
      have hJ4 := hJ1.step hb4
      have hb5 := below_then hb3 hb4 hb3.size
      have hr4 : Rd (w3.alloc (.cells #[.int .i64 0, .bool true, .int .i64 0, .int .i64 0] 29)) (w3.alloc (.cells #[.int .i64 0, .bool true, .int .i64 0, .int .i64 0] 29)).heap.size 4 (some ⟨w3.heap.size, 0, none⟩) 1 (sts [⟨0, true, 0, 0⟩]) :=
        Rd.of_own (own_lit4 w3 29 (.int .i64 0) (.bool true) (.int .i64 0) (.int .i64 0) (base := w3.heap.size) (Nat.le_refl _))
      clear hx hr1
      go_wp2_with fail
      refine (validSteps_any (some ⟨w3.heap.size, 0, none⟩) 1 [⟨0, true, 0, 0⟩] _ (by simp) hT4 hJ4 hr4).mono ?_
      rintro e w5 ⟨rfl, hb6⟩
      rw [show validS [⟨0, true, 0, 0⟩] = false by decide]
      have hb7 := below_then hb5 hb6 hb5.size
      go_wp2
      go_ret
      exact ⟨rfl, hb7⟩
end Go.Proofs.YtpbhphpmegcenaaDoor
