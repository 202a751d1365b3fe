/- The walk of FnTableAfter. -/
import Derived.Test.YtpbhphpmegcenaaDoorStKit
import Derived.Test.YtpbhphpmegcenaaDoorTabD
namespace Go.Proofs.YtpbhphpmegcenaaDoor
open Go.RowKit
open Tl (St Lk Ac validT validT_iff validS tableAfter doSt runS held takeLock twoPhase lockPoint freeBy freeBy_iff)

set_option maxHeartbeats 2000000 in
set_option maxRecDepth 100000 in
theorem law_FnTableAfter (A : Option Addr) (n c : Nat) (w : World) (h : Code8 w A n c) (hT : TabT w) (hJ : TabJ w) : Calls Tryd.prog 12 #[.slice A n c] w (PBool w true) := by
  have hle : (n : Int) ≤ 1048576 := by have := h.le; omega
  go_enter Tryd.func12, Tryd.ntmps12
  go_wp2_with fail
  refine (drawTableAfter_any A n c _ h).mono ?_
  rintro e w1 ⟨ss, A1, c1, rfl, ho1, hl1, hb1⟩
  have hr1 := Rd.of_own ho1
  have hcap := own_cap ho1
  have hT1 := hT.step hb1
  have hJ1 := hJ.step hb1
  clear h ho1 hT hJ
  obtain ⟨ms, hms⟩ : ∃ ms, ms = (tableAfter ss).getD [] := ⟨_, rfl⟩
  obtain ⟨ob, hob⟩ : ∃ ob, ob = (tableAfter ss).isSome := ⟨_, rfl⟩
  have hm48 : ms.length ≤ 48 := by rw [hms]; exact tableAfter_len48 ss
  go_wp2_with fail
  refine (tableAfter_any A1 c1 ss _ (by omega) hT1 hJ1 hr1).mono ?_
  rintro e w2 ⟨A2, c2, rfl, ho2, hb2⟩
  rw [← hms] at ho2
  rw [← hms, ← hob]
  have hr2 := Rd.of_own ho2
  have hcap2 := own_cap ho2
  have hr1 := hr1.step hb2
  have hT1 := hT1.step hb2
  have hJ1 := hJ1.step hb2
  have hb2 := below_then hb1 hb2 hb1.size
  clear hb1 ho2
  go_wp2_with fail
  refine (stableAfter_any A1 c1 ss _ (by omega) hr1).mono ?_
  rintro e w3 ⟨A3, c3, rfl, ho3, hb3⟩
  rw [← hms] at ho3
  rw [← hms, ← hob]
  have hr3 := Rd.of_own ho3
  have hr1 := hr1.step hb3
  have hr2 := hr2.step hb3
  have hT1 := hT1.step hb3
  have hJ1 := hJ1.step hb3
  have hb3 := below_then hb2 hb3 hb2.size
  have HMS := Lib.hid hms
  have HOB := Lib.hid hob
  have hse : (ob != ob) = false := by cases ob <;> rfl
  have hsq : (ob == ob) = true := by cases ob <;> rfl
  clear hb2 ho3 hms hob
  go_wp2_with fail
  refine (equalLocks_same A2 c2 ms A3 c3 _ (by omega) hr2 hr3).mono ?_
  rintro e w4 ⟨rfl, hb4⟩
  have hr1 := hr1.step hb4
  have hr2 := hr2.step hb4
  have hr3 := hr3.step hb4
  have hT1 := hT1.step hb4
  have hJ1 := hJ1.step hb4
  have hb4 := below_then hb3 hb4 hb3.size
  clear hb3
  cases ob
  · go_wp2_with fail
    refine (equalLocks_same A2 c2 ms A3 c3 _ (by omega) hr2 hr3).mono ?_
    rintro e w7 ⟨rfl, hb7⟩
    have hb7 := below_then hb4 hb7 hb4.size
    go_wp2
    go_ret
    exact ⟨rfl, hb7⟩
  · have HTA : Hid (tableAfter ss = some ms) := some_of_parts HMS.out HOB.out
    have HMV := Lib.hid (Tl.tableAfter_valid HTA.out)
    rcases List.eq_nil_or_concat ss with rfl | ⟨init, s, hss⟩
    · have hz : (((([] : List St).length : Nat) : Int) == 0) = true := rfl
      go_wp2_with fail
      refine (equalLocks_same A2 c2 ms A3 c3 _ (by omega) hr2 hr3).mono ?_
      rintro e w7 ⟨rfl, hb7⟩
      have hb7 := below_then hb4 hb7 hb4.size
      go_wp2
      go_ret
      exact ⟨rfl, hb7⟩
    · rw [List.concat_eq_append] at hss
      subst hss
      obtain ⟨q, hq1, hq2⟩ := Tl.tableAfter_last HTA.out
      have hqv := Tl.tableAfter_valid hq1
      have hq48 := (validT_iff.1 hqv).1
      have HQ1 := Lib.hid hq1
      have HQ2 := Lib.hid hq2
      have HQV := Lib.hid hqv
      have hri := hr1.take (k := init.length) (by simp)
      rw [sts_take_init] at hri
      obtain ⟨b, off, x, rfl, hbl, hx, hc1, hc2, hc3, hc4⟩ := hr1.st (k := init.length) (by simp)
      obtain rfl : s = x := by simpa using hx
      have hlen : (init ++ [s]).length = init.length + 1 := by simp
      rw [hlen] at hl1 hcap ⊢
      have hz : (((init.length + 1 : Nat) : Int) == 0) = false := beq_eq_false_iff_ne.2 (by omega)
      have hw : IntKind.i64.wrap ((init.length : Int) + 1 - 1) = (init.length : Int) := by rw [IntWalk.i64_in _ (by omega)]; omega
      have hic : init.length ≤ c1 := by omega
      have hb5 := (Below.refl w4.heap.size w4).alloc (Nat.le_refl _) (.cells #[.int .i64 s.who, .bool s.free, .int .i64 s.node, .int .i64 s.mode] 29)
      have hT1 := hT1.step hb5
      have hJ1 := hJ1.step hb5
      have hri := hri.step hb5
      have hr2 := hr2.step hb5
      have hzz := cell4_new w4 (.int .i64 s.who) (.bool s.free) (.int .i64 s.node) (.int .i64 s.mode) 29
      have hz0 : (w4.alloc (.cells #[.int .i64 s.who, .bool s.free, .int .i64 s.node, .int .i64 s.mode] 29)).cell? ⟨w4.heap.size, 0, none⟩ = _ := hzz 0 _ rfl
      have hz1 : (w4.alloc (.cells #[.int .i64 s.who, .bool s.free, .int .i64 s.node, .int .i64 s.mode] 29)).cell? ⟨w4.heap.size, 1, none⟩ = _ := hzz 1 _ rfl
      have hz2 : (w4.alloc (.cells #[.int .i64 s.who, .bool s.free, .int .i64 s.node, .int .i64 s.mode] 29)).cell? ⟨w4.heap.size, 2, none⟩ = _ := hzz 2 _ rfl
      have hz3 : (w4.alloc (.cells #[.int .i64 s.who, .bool s.free, .int .i64 s.node, .int .i64 s.mode] 29)).cell? ⟨w4.heap.size, 3, none⟩ = _ := hzz 3 _ rfl
      have hg5 : w4.heap.size < (w4.alloc (.cells #[.int .i64 s.who, .bool s.free, .int .i64 s.node, .int .i64 s.mode] 29)).heap.size := by simp
      have hb5 := below_then hb4 hb5 hb4.size
      clear hzz hx hlen hr1 hr3 hse hsq hb4 hq1 hq2 hqv
      go_wp2_with fail
      obtain ⟨w5, hw5⟩ : ∃ w5, w5 = w4.alloc (.cells #[.int .i64 s.who, .bool s.free, .int .i64 s.node, .int .i64 s.mode] 29) := ⟨_, rfl⟩
      obtain ⟨g5, hg5e⟩ : ∃ g5, g5 = w4.heap.size := ⟨_, rfl⟩
      rw [← hw5] at hT1 hJ1 hri hr2 hz0 hz1 hz2 hz3 hg5 hb5 ⊢
      rw [← hg5e] at hz0 hz1 hz2 hz3 hg5 ⊢
      clear hc1 hc2 hc3 hc4 hw5 hg5e hbl
      refine (tableAfter_any _ c1 init _ (by omega) hT1 hJ1 hri).mono ?_
      rintro e w6 ⟨A6, c6, rfl, ho6, hb6⟩
      rw [HQ1.out] at ho6
      rw [HQ1.out]
      simp only [Option.getD_some, Option.isSome_some] at ho6 ⊢
      have hr6 := Rd.of_own ho6
      have hcap6 := own_cap ho6
      have hr2 := hr2.step hb6
      have hT1 := hT1.step hb6
      have hJ1 := hJ1.step hb6
      have z0 := (hb6.cell (p := ⟨g5, 0, none⟩) hg5).trans hz0
      have z1 := (hb6.cell (p := ⟨g5, 1, none⟩) hg5).trans hz1
      have z2 := (hb6.cell (p := ⟨g5, 2, none⟩) hg5).trans hz2
      have z3 := (hb6.cell (p := ⟨g5, 3, none⟩) hg5).trans hz3
      have hg6 : g5 < w6.heap.size := Nat.lt_of_lt_of_le hg5 hb6.size
      have hb6 := below_then hb5 hb6 hb5.size
      clear hz0 hz1 hz2 hz3 ho6 hb5 hri
      cases hf : s.free with
      | false =>
        rw [hf] at z1
        have HTK : Hid (takeLock q s.who s.node s.mode = some ms) := by
          have h2 := HQ2.out
          rw [doSt_take hf] at h2
          exact h2
        clear hf
        go_wp2_with fail
        refine (takeLock_any A6 c6 q s.who s.node s.mode _ (by omega) hcap6 hT1 hJ1 hr6).mono ?_
        rintro e w7 ⟨A7, c7, rfl, ho7, hb7⟩
        rw [HTK.out] at ho7
        rw [HTK.out]
        simp only [Option.getD_some, Option.isSome_some] at ho7 ⊢
        have hr7 := Rd.of_own ho7
        have hr2 := hr2.step hb7
        have hb7 := below_then hb6 hb7 hb6.size
        clear z0 z1 z2 z3 ho7 hb6
        go_wp2_with fail
        refine (equalLocks_same A7 c7 ms A2 c2 _ (by omega) hr7 hr2).mono ?_
        rintro e w8 ⟨rfl, hb8⟩
        have hb8 := below_then hb7 hb8 hb7.size
        go_wp2
        go_ret
        exact ⟨rfl, hb8⟩
      | true =>
        rw [hf] at z1
        obtain ⟨d1, d2, d3⟩ := Tl.doSt_free HQV.out hf HQ2.out
        have e1 : (held q s.who s.node != 0) = true := by simp [d1]
        have E1 : Hid ((heldM q s.who s.node != 0) = true) := by show _ = _; unfold heldM; rw [HQV.out, if_pos rfl]; exact e1
        have E2 : Hid (heldM ms s.who s.node = 0) := by show _ = _; unfold heldM; rw [HMV.out, if_pos rfl]; exact d2
        have e3 : (q.length : Int) - 1 = (ms.length : Int) := by omega
        have hwq : IntKind.i64.wrap ((q.length : Int) - 1) = (ms.length : Int) := by rw [e3, IntWalk.i64_in _ (by omega)]
        clear hf d1 d2 d3 e1 e3
        go_wp2_with fail
        refine (heldMode_any A6 c6 q s.who s.node _ (by omega) hcap6 hT1 hr6).mono ?_
        rintro e w7 ⟨rfl, hb7⟩
        have hr2 := hr2.step hb7
        have hT1 := hT1.step hb7
        have y0 := (hb7.cell (p := ⟨g5, 0, none⟩) hg6).trans z0
        have y2 := (hb7.cell (p := ⟨g5, 2, none⟩) hg6).trans z2
        have hg7 : g5 < w7.heap.size := Nat.lt_of_lt_of_le hg6 hb7.size
        have hb7 := below_then hb6 hb7 hb6.size
        have e1 := E1.out
        clear z0 z1 z2 z3 hb6
        go_wp2_with fail
        refine (heldMode_any A2 c2 ms s.who s.node _ (by omega) hcap2 hT1 hr2).mono ?_
        rintro e w8 ⟨rfl, hb8⟩
        rw [E2.out]
        have hb8 := below_then hb7 hb8 hb7.size
        clear y0 y2 hb7 e1
        go_wp2
        go_ret
        exact ⟨rfl, hb8⟩
end Go.Proofs.YtpbhphpmegcenaaDoor
