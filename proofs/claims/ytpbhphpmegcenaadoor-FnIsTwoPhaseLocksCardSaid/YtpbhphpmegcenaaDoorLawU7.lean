/- The walk of FnIsTwoPhaseLocks. -/
import Derived.Test.YtpbhphpmegcenaaDoorStKit
import Derived.Test.YtpbhphpmegcenaaDoorStE
namespace Go.Proofs.YtpbhphpmegcenaaDoor
open Go.RowKit
open Tl (St Lk Ac validT validT_iff validS tableAfter doSt runS held takeLock twoPhase lockPoint freeBy freeBy_iff)

set_option maxHeartbeats 2000000 in
set_option maxRecDepth 100000 in
theorem law_FnIsTwoPhaseLocks (A : Option Addr) (n c : Nat) (w : World) (h : Code8 w A n c) (hT : TabT w) (hJ : TabJ w) : Calls Tryd.prog 13 #[.slice A n c] w (PBool w true) := by
  have hle : (n : Int) ≤ 1048576 := by have := h.le; omega
  go_enter Tryd.func13, Tryd.ntmps13
  go_wp2_with fail
  refine (drawIsTwoPhase_any A n c _ h).mono ?_
  rintro e w1 ⟨ss, A1, c1, who, rfl, ho1, hl1, hb1⟩
  have hr1 := Rd.of_own ho1
  have hcap := own_cap ho1
  have hT1 := hT.step hb1
  have hJ1 := hJ.step hb1
  clear h ho1 hT hJ
  obtain ⟨ob, hob⟩ : ∃ ob, ob = twoPhase ss who := ⟨_, rfl⟩
  go_wp2_with fail
  refine (isTwoPhase_any A1 c1 ss who _ (by omega) hT1 hJ1 hr1).mono ?_
  rintro e w2 ⟨rfl, hb2⟩
  rw [← hob]
  have hr1 := hr1.step hb2
  have hT1 := hT1.step hb2
  have hJ1 := hJ1.step hb2
  have hb2 := below_then hb1 hb2 hb1.size
  clear hb1
  go_wp2_with fail
  refine (sisTwoPhase_any A1 c1 ss who _ (by omega) hr1).mono ?_
  rintro e w3 ⟨rfl, hb3⟩
  rw [← hob]
  have hr1 := hr1.step hb3
  have hT1 := hT1.step hb3
  have hJ1 := hJ1.step hb3
  have hb3 := below_then hb2 hb3 hb2.size
  have HOB := Lib.hid hob
  have hse : (ob != ob) = false := by simp
  have hsq : (ob == ob) = true := by simp
  clear hb2 hob
  go_wp2_with fail
  refine (validSteps_any A1 c1 ss _ (by omega) hT1 hJ1 hr1).mono ?_
  rintro e w4 ⟨rfl, hb4⟩
  have hr1 := hr1.step hb4
  have hT1 := hT1.step hb4
  have hJ1 := hJ1.step hb4
  have hb4 := below_then hb3 hb4 hb3.size
  clear hb3
  cases hv : validS ss
  · clear hv
    go_wp2_with fail
    refine (sisTwoPhase_any A1 c1 ss who _ (by omega) hr1).mono ?_
    rintro e w5 ⟨rfl, hb5⟩
    rw [← HOB.out]
    have hb5 := below_then hb4 hb5 hb4.size
    go_wp2
    go_ret
    exact ⟨rfl, hb5⟩
  · have HV := Lib.hid hv
    clear hv
    clear hse hsq
    go_wp2
    go_loopg [6] ss.length (fun gk s6 wr => ∃ k : Nat, k ≤ ss.length ∧ gk = ss.length - k ∧ s6 = .int .i64 k ∧ Hid (∀ s ∈ ss.take k, ¬ (s.who = who ∧ s.free = true)) ∧ w4 = wr)
    case atStart => exact ⟨0, Nat.zero_le _, rfl, rfl, (show ∀ s ∈ ss.take 0, ¬ (s.who = who ∧ s.free = true) by simp), rfl⟩
    case round =>
      obtain ⟨k, hk, rfl, rfl, HN, rfl⟩ := hrel
      by_cases hlt : k < ss.length
      · obtain ⟨b, off, s, rfl, hbl, hx, hc1, hc2, hc3, hc4⟩ := hr1.st hlt
        by_cases hh : s.who = who ∧ s.free = true
        · have hw' : (s.who == who) = true := by simp [hh.1]
          rw [hh.2] at hc2
          clear hh hx
          go_wp2
          go_ret
          exact ⟨rfl, hb4⟩
        · have HN2 := Lib.hid (all_take_succ (p := fun s => ¬ (s.who = who ∧ s.free = true)) hx HN.out hh)
          have hcase : (s.who == who) = false ∨ ((s.who == who) = true ∧ s.free = false) := by
            by_cases h1 : s.who = who
            · right; refine ⟨by simp [h1], ?_⟩
              cases h2 : s.free with
              | false => rfl
              | true => exact absurd ⟨h1, h2⟩ hh
            · left; simp [h1]
          clear hh hx
          rcases hcase with hw' | ⟨hw', hf⟩
          · go_wp2
            go_roundg (ss.length - (k + 1))
            case measure => omega
            case rel => exact ⟨k + 1, by omega, rfl, by go_num, HN2, rfl⟩
          · rw [hf] at hc2
            clear hf
            go_wp2
            go_roundg (ss.length - (k + 1))
            case measure => omega
            case rel => exact ⟨k + 1, by omega, rfl, by go_num, HN2, rfl⟩
      · have HE : Hid (ob = true) := by
          show ob = true
          rw [HOB.out]
          refine Tl.twoPhase_nofree HV.out ?_
          have := HN.out
          rw [take_all hlt] at this
          exact this
        go_wp2
        go_ret
        exact ⟨ret_bool HE.out, hb4⟩
end Go.Proofs.YtpbhphpmegcenaaDoor
