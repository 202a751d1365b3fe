/- The walk of FnIsTwoPhaseShort. -/
import Derived.Test.YtpbhphpmegcenaaDoorStKit
import Derived.Test.YtpbhphpmegcenaaDoorStE
namespace Go.Proofs.YtpbhphpmegcenaaDoor
open Go.RowKit
open Tl (St Lk Ac validT validT_iff validS tableAfter doSt runS held takeLock twoPhase lockPoint freeBy freeBy_iff)

set_option maxHeartbeats 2000000 in
set_option maxRecDepth 100000 in
theorem law_FnIsTwoPhaseShort (A : Option Addr) (n c : Nat) (w : World) (h : Code8 w A n c) (hT : TabT w) (hJ : TabJ w) : Calls Tryd.prog 14 #[.slice A n c] w (PBool w true) := by
  have hle : (n : Int) ≤ 1048576 := by have := h.le; omega
  go_enter Tryd.func14, Tryd.ntmps14
  go_wp2_with fail
  refine (drawIsTwoPhase_any A n c _ h).mono ?_
  rintro e w1 ⟨ss, A1, c1, who, rfl, ho1, hl1, hb1⟩
  have hr1 := Rd.of_own ho1
  have hcap := own_cap ho1
  have hT1 := hT.step hb1
  have hJ1 := hJ.step hb1
  clear h ho1 hT hJ
  obtain ⟨ob, hob⟩ : ∃ ob, ob = twoPhase ss who := ⟨_, rfl⟩
  go_wp2_with fail
  refine (isTwoPhase_any A1 c1 ss who _ (by omega) hT1 hJ1 hr1).mono ?_
  rintro e w2 ⟨rfl, hb2⟩
  rw [← hob]
  have hr1 := hr1.step hb2
  have hT1 := hT1.step hb2
  have hJ1 := hJ1.step hb2
  have hb2 := below_then hb1 hb2 hb1.size
  clear hb1
  go_wp2_with fail
  refine (sisTwoPhase_any A1 c1 ss who _ (by omega) hr1).mono ?_
  rintro e w3 ⟨rfl, hb3⟩
  rw [← hob]
  have hr1 := hr1.step hb3
  have hT1 := hT1.step hb3
  have hJ1 := hJ1.step hb3
  have hb3 := below_then hb2 hb3 hb2.size
  have HOB := Lib.hid hob
  have hse : (ob != ob) = false := by simp
  have hsq : (ob == ob) = true := by simp
  clear hb2 hob
  have again : ∀ W : World, Rd W W.heap.size 4 A1 ss.length (sts ss) → Calls Tryd.prog 26 #[.slice A1 ss.length c1, .int .i64 who] W (PBool W (twoPhase ss who)) := fun W hr => sisTwoPhase_any A1 c1 ss who W (by omega) hr
  have AG := Lib.hid again
  clear again
  cases ob
  · go_wp2_with fail
    refine (AG.out _ hr1).mono ?_
    rintro e w5 ⟨rfl, hb5⟩
    rw [← HOB.out]
    have hb5 := below_then hb3 hb5 hb3.size
    go_wp2
    go_ret
    exact ⟨rfl, hb5⟩
  · rcases List.eq_nil_or_concat ss with rfl | ⟨init, s, hss⟩
    · have hz : (((([] : List St).length : Nat) : Int) == 0) = true := rfl
      go_wp2_with fail
      refine (AG.out _ hr1).mono ?_
      rintro e w5 ⟨rfl, hb5⟩
      rw [← HOB.out]
      have hb5 := below_then hb3 hb5 hb3.size
      go_wp2
      go_ret
      exact ⟨rfl, hb5⟩
    · rw [List.concat_eq_append] at hss
      subst hss
      have HI := Lib.hid (Tl.twoPhase_init HOB.out.symm)
      have hri := hr1.take (k := init.length) (by simp)
      rw [sts_take_init] at hri
      have hlen : (init ++ [s]).length = init.length + 1 := by simp
      clear AG
      rw [hlen] at hl1 hcap ⊢
      have hz : (((init.length + 1 : Nat) : Int) == 0) = false := beq_eq_false_iff_ne.2 (by omega)
      have hw : IntKind.i64.wrap ((init.length : Int) + 1 - 1) = (init.length : Int) := by rw [IntWalk.i64_in _ (by omega)]; omega
      have hic : init.length ≤ c1 := by omega
      clear hlen hr1 hse hsq
      go_wp2_with fail
      refine (isTwoPhase_any A1 c1 init who _ (by omega) hT1 hJ1 hri).mono ?_
      rintro e w4 ⟨rfl, hb4⟩
      rw [HI.out]
      have hT1 := hT1.step hb4
      have hJ1 := hJ1.step hb4
      have hb4 := below_then hb3 hb4 hb3.size
      go_wp2_with fail
      refine (isTwoPhase_any none 0 [] who _ (by simp) hT1 hJ1 (Rd.nil _ _ _ _)).mono ?_
      rintro e w5 ⟨rfl, hb5⟩
      rw [Tl.twoPhase_nil]
      have hb5 := below_then hb4 hb5 hb4.size
      go_wp2
      go_ret
      exact ⟨rfl, hb5⟩
end Go.Proofs.YtpbhphpmegcenaaDoor
