/- The walk of FnIsTwoPhase. -/
import Derived.Test.YtpbhphpmegcenaaDoorStKit
import Derived.Test.YtpbhphpmegcenaaDoorStE
namespace Go.Proofs.YtpbhphpmegcenaaDoor
open Go.RowKit
open Tl (St Lk Ac validT validT_iff validS tableAfter doSt runS held takeLock twoPhase lockPoint freeBy freeBy_iff)

set_option maxHeartbeats 2000000 in
set_option maxRecDepth 100000 in
theorem law_FnIsTwoPhase (A : Option Addr) (n c : Nat) (w : World) (h : Code8 w A n c) (hT : TabT w) (hJ : TabJ w) : Calls Tryd.prog 5 #[.slice A n c] w (PBool w true) := by
  have hle : (n : Int) ≤ 1048576 := by have := h.le; omega
  go_enter Tryd.func5, Tryd.ntmps5
  go_wp2_with fail
  refine (drawIsTwoPhase_any A n c _ h).mono ?_
  rintro e w1 ⟨ss, A1, c1, who, rfl, ho1, hl1, hb1⟩
  have hr1 := Rd.of_own ho1
  have hcap := own_cap ho1
  have hT1 := hT.step hb1
  have hJ1 := hJ.step hb1
  clear h ho1 hT hJ
  obtain ⟨ob, hob⟩ : ∃ ob, ob = twoPhase ss who := ⟨_, rfl⟩
  go_wp2_with fail
  refine (isTwoPhase_any A1 c1 ss who _ (by omega) hT1 hJ1 hr1).mono ?_
  rintro e w2 ⟨rfl, hb2⟩
  rw [← hob]
  have hr1 := hr1.step hb2
  have hT1 := hT1.step hb2
  have hJ1 := hJ1.step hb2
  have hb2 := below_then hb1 hb2 hb1.size
  clear hb1
  go_wp2_with fail
  refine (sisTwoPhase_any A1 c1 ss who _ (by omega) hr1).mono ?_
  rintro e w3 ⟨rfl, hb3⟩
  rw [← hob]
  have hr1 := hr1.step hb3
  have hT1 := hT1.step hb3
  have hJ1 := hJ1.step hb3
  have hb3 := below_then hb2 hb3 hb2.size
  have HOB := Lib.hid hob
  have hse : (ob != ob) = false := by simp
  have hsq : (ob == ob) = true := by simp
  clear hb2 hob
  go_wp2_with fail
  refine (validSteps_any A1 c1 ss _ (by omega) hT1 hJ1 hr1).mono ?_
  rintro e w4 ⟨rfl, hb4⟩
  have hr1 := hr1.step hb4
  have hT1 := hT1.step hb4
  have hJ1 := hJ1.step hb4
  have hb4 := below_then hb3 hb4 hb3.size
  clear hb3
  cases hv : validS ss
  · clear hv
    go_wp2_with fail
    refine (sisTwoPhase_any A1 c1 ss who _ (by omega) hr1).mono ?_
    rintro e w5 ⟨rfl, hb5⟩
    rw [← HOB.out]
    have hb5 := below_then hb4 hb5 hb4.size
    go_wp2
    go_ret
    exact ⟨rfl, hb5⟩
  · have HV := Lib.hid hv
    clear hv
    have hw0 : IntKind.i64.wrap ((ss.length : Int) - 1) = (ss.length : Int) - 1 := by rw [IntWalk.i64_in _ (by omega)]
    have HPH := Lib.hid (Tl.phases_first (who := who) HV.out)
    clear hse hsq
    go_wp2
    go_loopg [6, 7] ss.length (fun gk fv s7 wr => gk ≤ ss.length ∧ s7 = .int .i64 ((gk : Int) - 1) ∧ fv = .int .i64 ((gk + (ss.drop gk).findIdx (freeBy who) : Nat) : Int) ∧ w4 = wr)
    case atStart => exact ⟨Nat.le_refl _, rfl, by rw [List.drop_length]; simp, rfl⟩
    case round =>
      clear hw0
      obtain ⟨hk, rfl, rfl, rfl⟩ := hrel
      rcases Nat.eq_zero_or_pos gk with h0 | h0
      · subst h0
        have h0' : ¬ (0 : Int) ≤ ((0 : Nat) : Int) - 1 := by omega
        rw [List.drop_zero, Nat.zero_add]
        go_wp2_with fail
        refine (lockPoint_any A1 c1 ss who _ (by omega) hT1 hJ1 hr1).mono ?_
        rintro e w5 ⟨rfl, hb5⟩
        have hb5 := below_then hb4 hb5 hb4.size
        have hfin : (ob == decide (lockPoint ss who < ((ss.findIdx (freeBy who) : Nat) : Int))) = true := by rw [HOB.out, HPH.out]; simp
        go_wp2
        go_ret
        exact ⟨rfl, hb5⟩
      · obtain ⟨m, rfl⟩ : ∃ m, gk = m + 1 := ⟨gk - 1, by omega⟩
        have hms : m < ss.length := by omega
        have e1 : ((m + 1 : Nat) : Int) - 1 = (m : Int) := by omega
        obtain ⟨b, off, s, rfl, hbl, hx, hc1, hc2, hc3, hc4⟩ := hr1.st hms
        have hw0 : IntKind.i64.wrap ((m : Int) - 1) = (m : Int) - 1 := by rw [IntWalk.i64_in _ (by omega)]
        have hd : ss.drop m = s :: ss.drop (m + 1) := by
          obtain ⟨hlt, rfl⟩ := List.getElem?_eq_some_iff.1 hx
          exact List.drop_eq_getElem_cons hlt
        have HF : Hid ((ss.drop m).findIdx (freeBy who) = if freeBy who s = true then 0 else (ss.drop (m + 1)).findIdx (freeBy who) + 1) := by
          show _ = _
          rw [hd, List.findIdx_cons]
          cases freeBy who s <;> rfl
        obtain ⟨fi, hfi⟩ : ∃ fi, fi = (ss.drop (m + 1)).findIdx (freeBy who) := ⟨_, rfl⟩
        rw [← hfi] at HF ⊢
        rw [e1]
        clear hx e1 hd hfi
        by_cases hh : s.who = who ∧ s.free = true
        · have hw' : (s.who == who) = true := by simp [hh.1]
          rw [hh.2] at hc2
          have HE : Hid (m + (ss.drop m).findIdx (freeBy who) = m) := by show _ = _; rw [HF.out, if_pos (freeBy_iff.2 hh)]; rfl
          clear hh
          go_wp2
          go_roundg m
          case measure => omega
          case rel => exact ⟨by omega, rfl, by rw [HE.out], rfl⟩
        · have HE : Hid (m + (ss.drop m).findIdx (freeBy who) = m + 1 + fi) := by show _ = _; rw [HF.out, if_neg (fun h => hh (freeBy_iff.1 h))]; omega
          have hcase : (s.who == who) = false ∨ ((s.who == who) = true ∧ s.free = false) := by
            by_cases h1 : s.who = who
            · right; refine ⟨by simp [h1], ?_⟩
              cases h2 : s.free with
              | false => rfl
              | true => exact absurd ⟨h1, h2⟩ hh
            · left; simp [h1]
          clear hh
          rcases hcase with hw' | ⟨hw', hf⟩
          · go_wp2
            go_roundg m
            case measure => omega
            case rel => exact ⟨by omega, rfl, by rw [HE.out], rfl⟩
          · rw [hf] at hc2
            clear hf
            go_wp2
            go_roundg m
            case measure => omega
            case rel => exact ⟨by omega, rfl, by rw [HE.out], rfl⟩
end Go.Proofs.YtpbhphpmegcenaaDoor
