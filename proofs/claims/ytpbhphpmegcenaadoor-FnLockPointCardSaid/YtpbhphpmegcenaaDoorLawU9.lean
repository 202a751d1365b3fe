/- The walk of FnLockPoint. -/
import Derived.Test.YtpbhphpmegcenaaDoorStKit
import Derived.Test.YtpbhphpmegcenaaDoorStE
namespace Go.Proofs.YtpbhphpmegcenaaDoor
open Go.RowKit
open Tl (St Lk Ac validT validT_iff validS tableAfter doSt runS held takeLock twoPhase lockPoint freeBy freeBy_iff)

set_option maxHeartbeats 2000000 in
set_option maxRecDepth 100000 in
theorem law_FnLockPoint (A : Option Addr) (n c : Nat) (w : World) (h : Code8 w A n c) (hT : TabT w) (hJ : TabJ w) : Calls Tryd.prog 15 #[.slice A n c] w (PBool w true) := by
  have hle : (n : Int) ≤ 1048576 := by have := h.le; omega
  go_enter Tryd.func15, Tryd.ntmps15
  go_wp2_with fail
  refine (drawLockPoint_any A n c _ h).mono ?_
  rintro e w1 ⟨ss, A1, c1, who, rfl, ho1, hl1, hb1⟩
  have hr1 := Rd.of_own ho1
  have hcap := own_cap ho1
  have hT1 := hT.step hb1
  have hJ1 := hJ.step hb1
  clear h ho1 hT hJ
  obtain ⟨ob, hob⟩ : ∃ ob, ob = lockPoint ss who := ⟨_, rfl⟩
  go_wp2_with fail
  refine (lockPoint_any A1 c1 ss who _ (by omega) hT1 hJ1 hr1).mono ?_
  rintro e w2 ⟨rfl, hb2⟩
  rw [← hob]
  have hr1 := hr1.step hb2
  have hT1 := hT1.step hb2
  have hJ1 := hJ1.step hb2
  have hb2 := below_then hb1 hb2 hb1.size
  clear hb1
  go_wp2_with fail
  refine (slockPoint_any A1 c1 ss who _ (by omega) hr1).mono ?_
  rintro e w3 ⟨rfl, hb3⟩
  rw [← hob]
  have hr1 := hr1.step hb3
  have hT1 := hT1.step hb3
  have hJ1 := hJ1.step hb3
  have hb3 := below_then hb2 hb3 hb2.size
  have HOB := Lib.hid hob
  have hse : (ob != ob) = false := by simp
  have hsq : (ob == ob) = true := by simp
  clear hb2 hob
  go_wp2_with fail
  refine (validSteps_any A1 c1 ss _ (by omega) hT1 hJ1 hr1).mono ?_
  rintro e w4 ⟨rfl, hb4⟩
  have hr1 := hr1.step hb4
  have hT1 := hT1.step hb4
  have hJ1 := hJ1.step hb4
  have hb4 := below_then hb3 hb4 hb3.size
  clear hb3
  cases hv : validS ss
  · clear hv
    go_wp2_with fail
    refine (slockPoint_any A1 c1 ss who _ (by omega) hr1).mono ?_
    rintro e w5 ⟨rfl, hb5⟩
    rw [← HOB.out]
    have hb5 := below_then hb4 hb5 hb4.size
    go_wp2
    go_ret
    exact ⟨rfl, hb5⟩
  · have HV := Lib.hid hv
    clear hv
    clear hse hsq
    obtain ⟨hob1, HAFT⟩ : ob < (ss.length : Int) ∧ Hid (∀ (i : Nat) (s : St), ob < (i : Int) → ss[i]? = some s → ¬ (s.who = who ∧ s.free = false)) := by
      have hob := HOB.out
      rcases Tl.lockPoint_cases ss who HV.out with ⟨e1, hall⟩ | ⟨k0, s0, e1, hx0, hw0, hf0, hlast⟩
      · refine ⟨by rw [hob, e1]; omega, ?_⟩
        show ∀ (i : Nat) (s : St), _
        exact fun i s _ hs => hall i s hs
      · have hk0 := (List.getElem?_eq_some_iff.1 hx0).1
        refine ⟨by rw [hob, e1]; omega, ?_⟩
        show ∀ (i : Nat) (s : St), _
        exact fun i s hi hs => hlast i s (by rw [hob, e1] at hi; omega) hs
    have hobd : decide (ob < (ss.length : Int)) = true := decide_eq_true hob1
    go_wp2
    go_loopg [6] ss.length (fun gk s6 wr => ∃ k : Nat, k ≤ ss.length ∧ gk = ss.length - k ∧ s6 = .int .i64 k ∧ w4 = wr)
    case atStart => exact ⟨0, Nat.zero_le _, rfl, rfl, rfl⟩
    case round =>
      obtain ⟨k, hk, rfl, rfl, rfl⟩ := hrel
      by_cases hlt : k < ss.length
      · obtain ⟨b, off, s, rfl, hbl, hx, hc1, hc2, hc3, hc4⟩ := hr1.st hlt
        by_cases hgt : ob < (k : Int)
        · have hh := HAFT.out k s hgt hx
          have hgt' : decide (ob < (k : Int)) = true := decide_eq_true hgt
          have hcase : (s.who == who) = false ∨ ((s.who == who) = true ∧ s.free = true) := by
            by_cases h1 : s.who = who
            · right; refine ⟨by simp [h1], ?_⟩
              cases h2 : s.free with
              | true => rfl
              | false => exact absurd ⟨h1, h2⟩ hh
            · left; simp [h1]
          clear hh hx hgt
          rcases hcase with hw' | ⟨hw', hf⟩
          · go_wp2
            go_roundg (ss.length - (k + 1))
            case measure => omega
            case rel => exact ⟨k + 1, by omega, rfl, by go_num, rfl⟩
          · rw [hf] at hc2
            clear hf
            go_wp2
            go_roundg (ss.length - (k + 1))
            case measure => omega
            case rel => exact ⟨k + 1, by omega, rfl, by go_num, rfl⟩
        · have hgt' : decide (ob < (k : Int)) = false := decide_eq_false hgt
          clear hgt hx
          go_wp2
          go_roundg (ss.length - (k + 1))
          case measure => omega
          case rel => exact ⟨k + 1, by omega, rfl, by go_num, rfl⟩
      · rcases Tl.lockPoint_cases ss who HV.out with ⟨e1, _⟩ | ⟨k0, s0, e1, hx0, hw0, hf0, _⟩
        · have he : ob = -1 := HOB.out.trans e1
          clear HOB HAFT e1
          subst he
          go_wp2
          go_ret
          exact ⟨rfl, hb4⟩
        · have he : ob = (k0 : Int) := HOB.out.trans e1
          have hk0 := (List.getElem?_eq_some_iff.1 hx0).1
          obtain ⟨b, off, s, rfl, hbl, hx, hc1, hc2, hc3, hc4⟩ := hr1.st hk0
          obtain rfl : s0 = s := Option.some.inj (hx0.symm.trans hx)
          rw [hf0] at hc2
          have hw' : (s0.who == who) = true := by simp [hw0]
          clear HOB HAFT e1 hx0 hx hw0 hf0
          subst he
          go_wp2
          go_ret
          exact ⟨rfl, hb4⟩
end Go.Proofs.YtpbhphpmegcenaaDoor
