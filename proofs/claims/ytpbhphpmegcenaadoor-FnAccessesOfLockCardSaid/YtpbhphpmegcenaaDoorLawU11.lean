/- The walk of FnAccessesOfLock. -/
import Derived.Test.YtpbhphpmegcenaaDoorStKit
import Derived.Test.YtpbhphpmegcenaaDoorStF
import Derived.Test.YtpbhphpmegcenaaDoorEqA
namespace Go.Proofs.YtpbhphpmegcenaaDoor
open Go.RowKit
open Tl (St Lk Ac validT validT_iff validS tableAfter doSt runS held takeLock twoPhase lockPoint freeBy freeBy_iff)

set_option maxHeartbeats 2000000 in
set_option maxRecDepth 100000 in
theorem law_FnAccessesOfLock (A : Option Addr) (n c : Nat) (w : World) (h : Code8 w A n c) (hT : TabT w) (hJ : TabJ w) : Calls Tryd.prog 4 #[.slice A n c] w (PBool w true) := by
  have hle : (n : Int) ≤ 1048576 := by have := h.le; omega
  go_enter Tryd.func4, Tryd.ntmps4
  go_wp2_with fail
  refine (drawAccessesOf_any A n c _ h).mono ?_
  rintro e w1 ⟨ss, A1, c1, rfl, ho1, hl1, hb1⟩
  have hr1 := Rd.of_own ho1
  have hT1 := hT.step hb1
  have hJ1 := hJ.step hb1
  clear h ho1 hT hJ
  obtain ⟨acl, has⟩ : ∃ acl, acl = Tl.accessesOf ss := ⟨_, rfl⟩
  have hal : acl.length ≤ 25 := by rw [has]; exact accessesOf_le hl1
  go_wp2_with fail
  refine (accessesOf_any A1 c1 ss _ (by omega) hT1 hJ1 hr1).mono ?_
  rintro e w2 ⟨A2, c2, rfl, ho2, hb2⟩
  rw [← has] at ho2
  rw [← has]
  have hr2 := Rd.of_own ho2
  have hr1 := hr1.step hb2
  have hT1 := hT1.step hb2
  have hJ1 := hJ1.step hb2
  have hb2 := below_then hb1 hb2 hb1.size
  clear hb1 ho2
  go_wp2_with fail
  refine (saccessesOf_any A1 c1 ss _ (by omega) hr1).mono ?_
  rintro e w3 ⟨A3, c3, rfl, ho3, hb3⟩
  rw [← has] at ho3
  rw [← has]
  have hr3 := Rd.of_own ho3
  have hr1 := hr1.step hb3
  have hr2 := hr2.step hb3
  have hT1 := hT1.step hb3
  have hJ1 := hJ1.step hb3
  have hb3 := below_then hb2 hb3 hb2.size
  have HAS := Lib.hid has
  clear hb2 ho3 has
  go_wp2_with fail
  refine (equalAccesses_same A2 c2 acl A3 c3 _ (by omega) hr2 hr3).mono ?_
  rintro e w4 ⟨rfl, hb4⟩
  have hr1 := hr1.step hb4
  have hr2 := hr2.step hb4
  have hT1 := hT1.step hb4
  have hJ1 := hJ1.step hb4
  have hb4 := below_then hb3 hb4 hb3.size
  clear hb3 hr3
  go_wp2_with fail
  refine (validSteps_any A1 c1 ss _ (by omega) hT1 hJ1 hr1).mono ?_
  rintro e w5 ⟨rfl, hb5⟩
  have hr1 := hr1.step hb5
  have hr2 := hr2.step hb5
  have hb5 := below_then hb4 hb5 hb4.size
  clear hb4
  cases hv : validS ss
  · clear hv
    go_wp2_with fail
    refine (saccessesOf_any A1 c1 ss _ (by omega) hr1).mono ?_
    rintro e w6 ⟨A6, c6, rfl, ho6, hb6⟩
    rw [← HAS.out] at ho6
    rw [← HAS.out]
    have hr6 := Rd.of_own ho6
    have hr2 := hr2.step hb6
    have hb6 := below_then hb5 hb6 hb5.size
    clear ho6 hb5
    go_wp2_with fail
    refine (equalAccesses_same A2 c2 acl A6 c6 _ (by omega) hr2 hr6).mono ?_
    rintro e w7 ⟨rfl, hb7⟩
    have hb7 := below_then hb6 hb7 hb6.size
    go_wp2
    go_ret
    exact ⟨rfl, hb7⟩
  · have HV := Lib.hid hv
    clear hv
    go_wp2
    go_loopg [5, 6] ss.length (fun gk fv s6 wr => ∃ (k f : Nat), k ≤ ss.length ∧ gk = ss.length - k ∧ s6 = .int .i64 k ∧ fv = .int .i64 f ∧ f ≤ k ∧ Hid (f = Tl.frees (ss.take k)) ∧ w5 = wr)
    case atStart => exact ⟨0, 0, Nat.zero_le _, rfl, rfl, rfl, Nat.le_refl _, (show 0 = _ by simp [Tl.frees]), rfl⟩
    case round =>
      obtain ⟨k, f, hk, rfl, rfl, rfl, hfk, HF, rfl⟩ := hrel
      by_cases hlt : k < ss.length
      · obtain ⟨b, off, s, rfl, hbl, hx, hc1, hc2, hc3, hc4⟩ := hr1.st hlt
        cases hf : s.free with
        | true =>
          have HN : Hid (f + 1 = Tl.frees (ss.take (k + 1))) := by
            show _ = _
            rw [HF.out]; unfold Tl.frees; rw [take_succ_of hx, List.filter_append]; simp [hf]
          rw [hf] at hc2
          clear hx hf
          go_wp2
          go_roundg (ss.length - (k + 1))
          case measure => omega
          case rel => exact ⟨k + 1, f + 1, by omega, rfl, by go_num, by go_num, by omega, HN, rfl⟩
        | false =>
          have HN : Hid (f = Tl.frees (ss.take (k + 1))) := by
            show _ = _
            rw [HF.out]; unfold Tl.frees; rw [take_succ_of hx, List.filter_append]; simp [hf]
          rw [hf] at hc2
          clear hx hf
          go_wp2
          go_roundg (ss.length - (k + 1))
          case measure => omega
          case rel => exact ⟨k + 1, f, by omega, rfl, by go_num, rfl, by omega, HN, rfl⟩
      · have hfe : f = Tl.frees ss := by have := HF.out; rw [take_all hlt] at this; exact this
        have h1 := Tl.frees_le HV.out
        have h2 := Tl.frees_takes ss
        have h3 : acl.length = Tl.takesN ss := by rw [HAS.out, accessesOf_yes HV.out, Tl.accsOf_len]
        have e1 : (acl.length : Int) + (f : Int) = (ss.length : Int) := by omega
        have e2 : IntKind.i64.wrap ((acl.length : Int) + (f : Int)) = (ss.length : Int) := by rw [e1, IntWalk.i64_in _ (by omega)]
        have e3 : IntKind.i64.wrap (2 * (f : Int)) = 2 * (f : Int) := by rw [IntWalk.i64_in _ (by omega)]
        have e4 : decide (2 * (f : Int) ≤ (ss.length : Int)) = true := decide_eq_true (by omega)
        clear hfe h1 h2 h3 e1 HF
        go_wp2
        go_ret
        exact ⟨rfl, hb5⟩
end Go.Proofs.YtpbhphpmegcenaaDoor
