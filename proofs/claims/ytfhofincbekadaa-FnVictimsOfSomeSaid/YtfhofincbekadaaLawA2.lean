/- The walks of the laws FnWaitsForMore, FnDeadlockOfMore. -/
import Derived.Test.YtfhofincbekadaaLawA1
namespace Go.Proofs.Ytfhofincbekadaa
open Go.RowKit
open Tl (Wt okW validW validW_iff T4 waitsFor deadOf mem_T4 mem_waitsFor mem_deadOf)

theorem validW_take {ws : List Wt} (h : validW ws = true) (k : Nat) : validW (ws.take k) = true := by
  rw [validW_iff] at *
  refine ⟨by rw [List.length_take]; omega, fun x hx => h.2 x (List.mem_of_mem_take hx)⟩
theorem wfL_take {ws : List Wt} (h : validW ws = true) (who : Int) (k : Nat) : ∀ t ∈ wfL (ws.take k) who, t ∈ wfL ws who := by
  intro t ht
  unfold wfL at *
  rw [validW_take h k, if_pos rfl, mem_waitsFor] at ht
  rw [h, if_pos rfl, mem_waitsFor]
  exact ⟨ht.1, ht.2.mono fun x hx => List.mem_of_mem_take hx⟩
theorem dlL_take {ws : List Wt} (h : validW ws = true) (k : Nat) : ∀ t ∈ dlL (ws.take k), t ∈ dlL ws := by
  intro t ht
  unfold dlL at *
  rw [validW_take h k, if_pos rfl] at ht
  rw [h, if_pos rfl]
  exact Tl.dead_mono (fun x hx => List.mem_of_mem_take hx) ht
theorem wfL_nil (who : Int) : wfL [] who = [] := by
  unfold wfL
  split
  · rw [List.eq_nil_iff_forall_not_mem]
    intro t ht
    exact Tl.not_reach_nil (mem_waitsFor.1 ht).2
  · rfl
theorem dlL_len (ws : List Wt) : (dlL ws).length ≤ 4 := by
  unfold dlL deadOf
  split
  · exact List.length_filter_le _ _
  · simp
theorem own_cap {w : World} {base : Nat} {e : TypeId} {sz n c : Nat} {A : Option Addr} {xs : List Value} (h : w.ownsRow base e sz (.slice A n c) n xs) : n ≤ c := by
  obtain ⟨_, _, hv, hc⟩ := own_slice h
  injection hv with _ _ e3
  omega
theorem rd_nil_waits (w : World) : Rd w w.heap.size 2 none ([] : List Wt).length (wts []) := Rd.nil _ _ _ _

set_option maxRecDepth 100000 in
theorem law_FnWaitsForMore (A : Option Addr) (n c : Nat) (w : World) (h : Code8 w A n c) : Calls Try.prog 5 #[.slice A n c] w (PBool w true) := by
  have hle : (n : Int) ≤ 1048576 := by have := h.le; omega
  go_enter Try.func5, Try.ntmps5
  go_wp2_with fail
  refine (drawWaitsFor_any A n c _ h).mono ?_
  rintro e w1 ⟨ws, who, A1, c1, rfl, ho1, hl1, hb1⟩
  have hcap := own_cap ho1
  have hr1 := Rd.of_own ho1
  have hle2 := wfL_len ws who
  clear h ho1
  go_wp2_with fail
  refine (waitsFor_any' A1 c1 ws who _ (by omega) hr1).mono ?_
  rintro e w2 ⟨A2, c2, rfl, ho2, hb2⟩
  have hr2 := Rd.of_own ho2
  have hr1 := hr1.step hb2
  have hb2 := below_then hb1 hb2 hb1.size
  clear ho2 hb1
  go_wp2_with fail
  refine (swaitsFor_any' A1 c1 ws who _ (by omega) hr1).mono ?_
  rintro e w3 ⟨A3, c3, rfl, ho3, hb3⟩
  have hr3 := Rd.of_own ho3
  have hr1 := hr1.step hb3
  have hr2 := hr2.step hb3
  have hb3 := below_then hb2 hb3 hb2.size
  clear ho3 hb2
  go_wp2_with fail
  refine (equalInts_same A2 c2 (wfL ws who) A3 c3 _ (by omega) hr2 hr3).mono ?_
  rintro e w4 ⟨rfl, hb4⟩
  have hr1 := hr1.step hb4
  have hr2 := hr2.step hb4
  have hb4 := below_then hb3 hb4 hb3.size
  clear hr3 hb3
  go_wp2_with fail
  refine (validWaits_any A1 c1 ws _ (by omega) hr1).mono ?_
  rintro e w5 ⟨rfl, hb5⟩
  have hr1 := hr1.step hb5
  have hr2 := hr2.step hb5
  have hb5 := below_then hb4 hb5 hb4.size
  clear hb4
  cases hv : validW ws
  · have HV := Lib.hid hv
    clear hv
    go_wp2_with fail
    refine (swaitsFor_any' A1 c1 ws who _ (by omega) hr1).mono ?_
    rintro e w6 ⟨A3, c3, rfl, ho3, hb6⟩
    have hr3 := Rd.of_own ho3
    have hr2 := hr2.step hb6
    have hb6 := below_then hb5 hb6 hb5.size
    clear ho3 hb5
    go_wp2_with fail
    refine (equalInts_same A2 c2 (wfL ws who) A3 c3 _ (by omega) hr2 hr3).mono ?_
    rintro e w7 ⟨rfl, hb7⟩
    have hb7 := below_then hb6 hb7 hb6.size
    go_wp2
    go_ret
    exact ⟨rfl, hb7⟩
  · have HV := Lib.hid hv
    clear hv
    by_cases hz : ws.length = 0
    · have hz1 : ((ws.length : Int) == 0) = true := by simp [hz]
      have HZ := Lib.hid hz
      clear hz
      go_wp2_with fail
      refine (swaitsFor_any' A1 c1 ws who _ (by omega) hr1).mono ?_
      rintro e w6 ⟨A3, c3, rfl, ho3, hb6⟩
      have hr3 := Rd.of_own ho3
      have hr2 := hr2.step hb6
      have hb6 := below_then hb5 hb6 hb5.size
      clear ho3 hb5
      go_wp2_with fail
      refine (equalInts_same A2 c2 (wfL ws who) A3 c3 _ (by omega) hr2 hr3).mono ?_
      rintro e w7 ⟨rfl, hb7⟩
      have hb7 := below_then hb6 hb7 hb6.size
      go_wp2
      go_ret
      exact ⟨rfl, hb7⟩
    · have hz1 : ((ws.length : Int) == 0) = false := by rw [beq_eq_false_iff_ne]; omega
      obtain ⟨m, hm⟩ : ∃ m, m + 1 = ws.length := ⟨ws.length - 1, by omega⟩
      have hml : (ws.take m).length = m := by rw [List.length_take]; omega
      have hrt := hr1.take (k := m) (by omega)
      rw [wts_take] at hrt
      have hpos : (1 : Int) ≤ (ws.length : Int) := by omega
      have hmc : (ws.length : Int) - 1 = (m : Int) := by omega
      have hmc2 : m ≤ c1 := by omega
      have hcl := waitsFor_any' A1 c1 (ws.take m) who w5 (by omega) (by rw [hml]; exact hrt)
      rw [hml] at hcl
      have HM : Hid (m + 1 = ws.length) := hm
      have hle3 := wfL_len (ws.take m) who
      have HS := Lib.hid (wfL_take HV.out who m)
      have HC := Lib.hid hcl
      clear hz hm hcl hrt hml
      go_wp2_with fail
      refine HC.out.mono ?_
      rintro e w6 ⟨A3, c3, rfl, ho3, hb6⟩
      have hr3 := Rd.of_own ho3
      have hr2 := hr2.step hb6
      have hb6 := below_then hb5 hb6 hb5.size
      clear ho3 hb5 hmc HC hr1
      go_wp2
      go_loopg [7] (wfL (ws.take m) who).length (fun gk i wr => ∃ k : Nat, k ≤ (wfL (ws.take m) who).length ∧ gk = (wfL (ws.take m) who).length - k ∧ i = .int .i64 k ∧ Below w6.heap.size w6 wr)
      case atStart => exact ⟨0, by omega, rfl, rfl, Below.refl _ _⟩
      case round =>
        obtain ⟨k, hk, rfl, rfl, hbw⟩ := hrel
        by_cases hlt : k < (wfL (ws.take m) who).length
        · obtain ⟨b, off, x, rfl, _, hx, hc1⟩ := (hr3.below hbw).int hlt
          have hin : decide (x ∈ wfL ws who) = true := by simpa using HS.out x (List.mem_of_getElem? hx)
          have HI := Lib.hid hin
          clear hin hx
          go_wp2_with fail
          refine (lisIn_any A2 c2 (wfL ws who) x _ (by omega) (hr2.below hbw)).mono ?_
          rintro e w7 ⟨rfl, rfl⟩
          rw [HI.out]
          go_wp2
          go_roundg ((wfL (ws.take m) who).length - (k + 1))
          case measure => omega
          case rel => exact ⟨k + 1, by omega, rfl, by go_num, hbw⟩
        · have hbw := below_then hb6 hbw hb6.size
          go_wp2_with fail
          refine (waitsFor_any' none 0 [] who _ (by simp) (rd_nil_waits _)).mono ?_
          rintro e w7 ⟨A4, c4, rfl, _, hb7⟩
          rw [wfL_nil]
          have hb7 := below_then hbw hb7 hbw.size
          go_wp2
          go_ret
          exact ⟨rfl, hb7⟩

set_option maxRecDepth 100000 in
theorem law_FnDeadlockOfMore (A : Option Addr) (n c : Nat) (w : World) (h : Code8 w A n c) : Calls Try.prog 9 #[.slice A n c] w (PBool w true) := by
  have hle : (n : Int) ≤ 1048576 := by have := h.le; omega
  go_enter Try.func9, Try.ntmps9
  go_wp2_with fail
  refine (drawDeadlockOf_any A n c _ h).mono ?_
  rintro e w1 ⟨ws, A1, c1, rfl, ho1, hl1, hb1⟩
  have hcap := own_cap ho1
  have hr1 := Rd.of_own ho1
  have hle2 := dlL_len ws
  clear h ho1
  go_wp2_with fail
  refine (deadlockOf_any A1 c1 ws _ (by omega) hr1).mono ?_
  rintro e w2 ⟨A2, c2, rfl, ho2, hb2⟩
  have hr2 := Rd.of_own ho2
  have hr1 := hr1.step hb2
  have hb2 := below_then hb1 hb2 hb1.size
  clear ho2 hb1
  go_wp2_with fail
  refine (sdeadlockOf_any A1 c1 ws _ (by omega) hr1).mono ?_
  rintro e w3 ⟨A3, c3, rfl, ho3, hb3⟩
  have hr3 := Rd.of_own ho3
  have hr1 := hr1.step hb3
  have hr2 := hr2.step hb3
  have hb3 := below_then hb2 hb3 hb2.size
  clear ho3 hb2
  go_wp2_with fail
  refine (equalInts_same A2 c2 (dlL ws) A3 c3 _ (by omega) hr2 hr3).mono ?_
  rintro e w4 ⟨rfl, hb4⟩
  have hr1 := hr1.step hb4
  have hr2 := hr2.step hb4
  have hb4 := below_then hb3 hb4 hb3.size
  clear hr3 hb3
  go_wp2_with fail
  refine (validWaits_any A1 c1 ws _ (by omega) hr1).mono ?_
  rintro e w5 ⟨rfl, hb5⟩
  have hr1 := hr1.step hb5
  have hr2 := hr2.step hb5
  have hb5 := below_then hb4 hb5 hb4.size
  clear hb4
  cases hv : validW ws
  · have HV := Lib.hid hv
    clear hv
    go_wp2_with fail
    refine (sdeadlockOf_any A1 c1 ws _ (by omega) hr1).mono ?_
    rintro e w6 ⟨A3, c3, rfl, ho3, hb6⟩
    have hr3 := Rd.of_own ho3
    have hr2 := hr2.step hb6
    have hb6 := below_then hb5 hb6 hb5.size
    clear ho3 hb5
    go_wp2_with fail
    refine (equalInts_same A2 c2 (dlL ws) A3 c3 _ (by omega) hr2 hr3).mono ?_
    rintro e w7 ⟨rfl, hb7⟩
    have hb7 := below_then hb6 hb7 hb6.size
    go_wp2
    go_ret
    exact ⟨rfl, hb7⟩
  · have HV := Lib.hid hv
    clear hv
    by_cases hz : ws.length = 0
    · have hz1 : ((ws.length : Int) == 0) = true := by simp [hz]
      have HZ := Lib.hid hz
      clear hz
      go_wp2_with fail
      refine (sdeadlockOf_any A1 c1 ws _ (by omega) hr1).mono ?_
      rintro e w6 ⟨A3, c3, rfl, ho3, hb6⟩
      have hr3 := Rd.of_own ho3
      have hr2 := hr2.step hb6
      have hb6 := below_then hb5 hb6 hb5.size
      clear ho3 hb5
      go_wp2_with fail
      refine (equalInts_same A2 c2 (dlL ws) A3 c3 _ (by omega) hr2 hr3).mono ?_
      rintro e w7 ⟨rfl, hb7⟩
      have hb7 := below_then hb6 hb7 hb6.size
      go_wp2
      go_ret
      exact ⟨rfl, hb7⟩
    · have hz1 : ((ws.length : Int) == 0) = false := by rw [beq_eq_false_iff_ne]; omega
      obtain ⟨m, hm⟩ : ∃ m, m + 1 = ws.length := ⟨ws.length - 1, by omega⟩
      have hml : (ws.take m).length = m := by rw [List.length_take]; omega
      have hrt := hr1.take (k := m) (by omega)
      rw [wts_take] at hrt
      have hpos : (1 : Int) ≤ (ws.length : Int) := by omega
      have hmc : (ws.length : Int) - 1 = (m : Int) := by omega
      have hmc2 : m ≤ c1 := by omega
      have hcl := deadlockOf_any A1 c1 (ws.take m) w5 (by omega) (by rw [hml]; exact hrt)
      rw [hml] at hcl
      have HM : Hid (m + 1 = ws.length) := hm
      have hle3 := dlL_len (ws.take m)
      have HS := Lib.hid (dlL_take HV.out m)
      have HC := Lib.hid hcl
      clear hz hm hcl hrt hml
      go_wp2_with fail
      refine HC.out.mono ?_
      rintro e w6 ⟨A3, c3, rfl, ho3, hb6⟩
      have hr3 := Rd.of_own ho3
      have hr2 := hr2.step hb6
      have hb6 := below_then hb5 hb6 hb5.size
      clear ho3 hb5 hmc HC hr1
      go_wp2
      go_loopg [6] (dlL (ws.take m)).length (fun gk i wr => ∃ k : Nat, k ≤ (dlL (ws.take m)).length ∧ gk = (dlL (ws.take m)).length - k ∧ i = .int .i64 k ∧ Below w6.heap.size w6 wr)
      case atStart => exact ⟨0, by omega, rfl, rfl, Below.refl _ _⟩
      case round =>
        obtain ⟨k, hk, rfl, rfl, hbw⟩ := hrel
        by_cases hlt : k < (dlL (ws.take m)).length
        · obtain ⟨b, off, x, rfl, _, hx, hc1⟩ := (hr3.below hbw).int hlt
          have hin : decide (x ∈ dlL ws) = true := by simpa using HS.out x (List.mem_of_getElem? hx)
          have HI := Lib.hid hin
          clear hin hx
          go_wp2_with fail
          refine (lisIn_any A2 c2 (dlL ws) x _ (by omega) (hr2.below hbw)).mono ?_
          rintro e w7 ⟨rfl, rfl⟩
          rw [HI.out]
          go_wp2
          go_roundg ((dlL (ws.take m)).length - (k + 1))
          case measure => omega
          case rel => exact ⟨k + 1, by omega, rfl, by go_num, hbw⟩
        · have hbw := below_then hb6 hbw hb6.size
          go_wp2
          go_ret
          exact ⟨rfl, hbw⟩
end Go.Proofs.Ytfhofincbekadaa
