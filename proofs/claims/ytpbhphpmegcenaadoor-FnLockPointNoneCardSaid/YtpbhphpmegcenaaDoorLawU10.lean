/- The walk of FnLockPointNone. -/
import Derived.Test.YtpbhphpmegcenaaDoorStKit
import Derived.Test.YtpbhphpmegcenaaDoorStE
namespace Go.Proofs.YtpbhphpmegcenaaDoor
open Go.RowKit
open Tl (St Lk Ac validT validT_iff validS tableAfter doSt runS held takeLock twoPhase lockPoint freeBy freeBy_iff)

set_option maxHeartbeats 2000000 in
set_option maxRecDepth 100000 in
theorem law_FnLockPointNone (A : Option Addr) (n c : Nat) (w : World) (h : Code8 w A n c) (hT : TabT w) (hJ : TabJ w) : Calls Tryd.prog 3 #[.slice A n c] w (PBool w true) := by
  have hle : (n : Int) ≤ 1048576 := by have := h.le; omega
  go_enter Tryd.func3, Tryd.ntmps3
  go_wp2_with fail
  refine (drawLockPoint_any A n c _ h).mono ?_
  rintro e w1 ⟨ss, A1, c1, who, rfl, ho1, hl1, hb1⟩
  have hr1 := Rd.of_own ho1
  have hcap := own_cap ho1
  have hT1 := hT.step hb1
  have hJ1 := hJ.step hb1
  clear h ho1 hT hJ
  obtain ⟨ob, hob⟩ : ∃ ob, ob = lockPoint ss who := ⟨_, rfl⟩
  go_wp2_with fail
  refine (lockPoint_any A1 c1 ss who _ (by omega) hT1 hJ1 hr1).mono ?_
  rintro e w2 ⟨rfl, hb2⟩
  rw [← hob]
  have hr1 := hr1.step hb2
  have hT1 := hT1.step hb2
  have hJ1 := hJ1.step hb2
  have hb2 := below_then hb1 hb2 hb1.size
  clear hb1
  go_wp2_with fail
  refine (slockPoint_any A1 c1 ss who _ (by omega) hr1).mono ?_
  rintro e w3 ⟨rfl, hb3⟩
  rw [← hob]
  have hr1 := hr1.step hb3
  have hT1 := hT1.step hb3
  have hJ1 := hJ1.step hb3
  have hb3 := below_then hb2 hb3 hb2.size
  have HOB := Lib.hid hob
  have hse : (ob != ob) = false := by simp
  have hsq : (ob == ob) = true := by simp
  clear hb2 hob
  go_wp2_with fail
  refine (validSteps_any A1 c1 ss _ (by omega) hT1 hJ1 hr1).mono ?_
  rintro e w4 ⟨rfl, hb4⟩
  have hr1 := hr1.step hb4
  have hT1 := hT1.step hb4
  have hJ1 := hJ1.step hb4
  have hb4 := below_then hb3 hb4 hb3.size
  clear hb3
  cases hv : validS ss
  · clear hv
    go_wp2_with fail
    refine (slockPoint_any A1 c1 ss who _ (by omega) hr1).mono ?_
    rintro e w5 ⟨rfl, hb5⟩
    rw [← HOB.out]
    have hb5 := below_then hb4 hb5 hb4.size
    go_wp2
    go_ret
    exact ⟨rfl, hb5⟩
  · have HV := Lib.hid hv
    clear hv
    clear hse hsq
    go_wp2
    go_loopg [6, 7] ss.length (fun gk bv s7 wr => ∃ (k : Nat) (sm : Bool), k ≤ ss.length ∧ gk = ss.length - k ∧ s7 = .int .i64 k ∧ bv = .bool sm ∧ Hid (sm = (ss.take k).any fun s => decide (s.who = who) && !s.free) ∧ w4 = wr)
    case atStart => exact ⟨0, false, Nat.zero_le _, rfl, rfl, rfl, (show false = _ by simp), rfl⟩
    case round =>
      obtain ⟨k, sm, hk, rfl, rfl, rfl, HS, rfl⟩ := hrel
      by_cases hlt : k < ss.length
      · obtain ⟨b, off, s, rfl, hbl, hx, hc1, hc2, hc3, hc4⟩ := hr1.st hlt
        have hst : ((ss.take (k + 1)).any fun s => decide (s.who = who) && !s.free) = (((ss.take k).any fun s => decide (s.who = who) && !s.free) || (decide (s.who = who) && !s.free)) := by
          rw [take_succ_of hx, List.any_append]; simp
        rw [← HS.out] at hst
        cases sm
        · by_cases h1 : s.who = who
          · have hw' : (s.who == who) = true := by simp [h1]
            cases hf : s.free
            all_goals
              rw [hf] at hc2 hst
              have HN := Lib.hid hst.symm
              simp only [h1, decide_true, Bool.true_and, Bool.not_false, Bool.not_true, Bool.false_or] at HN
              clear hst hx h1 hf
              go_wp2
              go_roundg (ss.length - (k + 1))
              case measure => omega
              case rel => exact ⟨k + 1, _, by omega, rfl, by go_num, rfl, HN, rfl⟩
          · have hw' : (s.who == who) = false := by simp [h1]
            have HN := Lib.hid hst.symm
            simp only [h1, decide_false, Bool.false_and, Bool.false_or] at HN
            clear hst hx h1
            go_wp2
            go_roundg (ss.length - (k + 1))
            case measure => omega
            case rel => exact ⟨k + 1, _, by omega, rfl, by go_num, rfl, HN, rfl⟩
        · have HN := Lib.hid hst.symm
          simp only [Bool.true_or] at HN
          clear hst hx
          go_wp2
          go_roundg (ss.length - (k + 1))
          case measure => omega
          case rel => exact ⟨k + 1, _, by omega, rfl, by go_num, rfl, HN, rfl⟩
      · have HE : Hid ((sm == decide ((0 : Int) ≤ ob)) = true) := by
          show _ = _
          have h1 := HS.out
          rw [take_all hlt] at h1
          rcases Tl.lockPoint_cases ss who HV.out with ⟨e1, hall⟩ | ⟨k0, s0, e1, hx0, hw0, hf0, _⟩
          · have : sm = false := by
              rw [h1, Bool.eq_false_iff]
              intro hc
              obtain ⟨x, hx, hp⟩ := List.any_eq_true.1 hc
              obtain ⟨i, hi⟩ := List.mem_iff_getElem?.1 hx
              simp at hp
              exact hall i x hi hp
            rw [this, HOB.out, e1]; rfl
          · have : sm = true := by
              rw [h1]
              refine List.any_eq_true.2 ⟨s0, List.mem_of_getElem? hx0, by simp [hw0, hf0]⟩
            rw [this, HOB.out, e1]; simp
        have he := HE.out
        go_wp2
        go_ret
        exact ⟨rfl, hb4⟩
end Go.Proofs.YtpbhphpmegcenaaDoor
