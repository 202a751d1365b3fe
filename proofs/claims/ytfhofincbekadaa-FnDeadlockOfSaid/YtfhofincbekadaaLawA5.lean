/- The walk of the law FnDeadlockOf. -/
import Derived.Test.YtfhofincbekadaaLawA2
import Derived.Deep.RegionHeld3
namespace Go.Proofs.Ytfhofincbekadaa
open Go.RowKit
open Tl (Wt okW validW validW_iff T4 waitsFor deadOf mem_T4 mem_waitsFor mem_deadOf)

/-- One waits for another one of the deadlock, among the first k waits. -/
noncomputable def someDl (ws : List Wt) (y : Int) (k : Nat) : Bool := (ws.take k).any fun x => decide (x.who = y) && decide (x.to ∈ dlL ws)
theorem someDl_succ {ws : List Wt} {y : Int} {k : Nat} {x : Wt} (hx : ws[k]? = some x) : someDl ws y (k + 1) = (someDl ws y k || (decide (x.who = y) && decide (x.to ∈ dlL ws))) := by
  unfold someDl; rw [take_succ_of hx]; simp
theorem dlL_valid {ws : List Wt} {y : Int} (h : y ∈ dlL ws) : validW ws = true := by
  unfold dlL at h
  split at h
  · assumption
  · cases h
theorem someDl_all {ws : List Wt} {y : Int} {k : Nat} (hk : ¬ k < ws.length) (h : y ∈ dlL ws) : someDl ws y k = true := by
  have hv := dlL_valid h
  have hok := (validW_iff.1 hv).2
  have hd := h
  unfold dlL at hd
  rw [hv, if_pos rfl, mem_deadOf] at hd
  obtain ⟨x, hx, hw, _, hr⟩ := Tl.dead_next hok hd.2
  unfold someDl
  rw [take_all hk, List.any_eq_true]
  refine ⟨x, hx, ?_⟩
  have : x.to ∈ dlL ws := by
    unfold dlL
    rw [hv, if_pos rfl, mem_deadOf]
    exact ⟨Tl.reach_to hok hr, hr⟩
  simp [hw, this]
theorem dl_in_wf {ws : List Wt} {y : Int} (h : y ∈ dlL ws) : decide (y ∈ wfL ws y) = true := by
  have hv := dlL_valid h
  unfold dlL at h
  rw [hv, if_pos rfl, mem_deadOf] at h
  rw [decide_eq_true_eq]
  unfold wfL
  rw [hv, if_pos rfl, mem_waitsFor]
  exact h
theorem dl_two {ws : List Wt} (h : 0 < (dlL ws).length) : 2 ≤ (dlL ws).length := by
  obtain ⟨y, hy⟩ : ∃ y, y ∈ dlL ws := List.exists_mem_of_length_pos h
  have hv := dlL_valid hy
  have hok := (validW_iff.1 hv).2
  unfold dlL at *
  rw [hv, if_pos rfl] at *
  exact Tl.deadOf_two hok (by intro e; rw [e] at h; simp at h)

set_option maxRecDepth 100000 in
theorem law_FnDeadlockOf (A : Option Addr) (n c : Nat) (w : World) (h : Code8 w A n c) : Calls Try.prog 8 #[.slice A n c] w (PBool w true) := by
  have hle : (n : Int) ≤ 1048576 := by have := h.le; omega
  go_enter Try.func8, Try.ntmps8
  go_wp2_with fail
  refine (drawDeadlockOf_any A n c _ h).mono ?_
  rintro e w1 ⟨ws, A1, c1, rfl, ho1, hl1, hb1⟩
  have hr1 := Rd.of_own ho1
  have hle2 := dlL_len ws
  clear h ho1
  go_wp2_with fail
  refine (deadlockOf_any A1 c1 ws _ (by omega) hr1).mono ?_
  rintro e w2 ⟨A2, c2, rfl, ho2, hb2⟩
  have hr2 := Rd.of_own ho2
  have hr1 := hr1.step hb2
  have hb2 := below_then hb1 hb2 hb1.size
  clear ho2 hb1
  go_wp2_with fail
  refine (sdeadlockOf_any A1 c1 ws _ (by omega) hr1).mono ?_
  rintro e w3 ⟨A3, c3, rfl, ho3, hb3⟩
  have hr3 := Rd.of_own ho3
  have hr1 := hr1.step hb3
  have hr2 := hr2.step hb3
  have hb3 := below_then hb2 hb3 hb2.size
  clear ho3 hb2
  go_wp2_with fail
  refine (equalInts_same A2 c2 (dlL ws) A3 c3 _ (by omega) hr2 hr3).mono ?_
  rintro e w4 ⟨rfl, hb4⟩
  have hr1 := hr1.step hb4
  have hr2 := hr2.step hb4
  have hb4 := below_then hb3 hb4 hb3.size
  clear hr3 hb3
  by_cases hz : (dlL ws).length = 0
  · have hz1 : (((dlL ws).length : Int) == 0) = true := by simp [hz]
    have HZ := Lib.hid hz
    clear hz
    go_wp2_with fail
    refine (sdeadlockOf_any A1 c1 ws _ (by omega) hr1).mono ?_
    rintro e w6 ⟨A3, c3, rfl, ho3, hb6⟩
    have hr3 := Rd.of_own ho3
    have hr2 := hr2.step hb6
    have hb6 := below_then hb4 hb6 hb4.size
    clear ho3 hb4
    go_wp2_with fail
    refine (equalInts_same A2 c2 (dlL ws) A3 c3 _ (by omega) hr2 hr3).mono ?_
    rintro e w7 ⟨rfl, hb7⟩
    have hb7 := below_then hb6 hb7 hb6.size
    go_wp2
    go_ret
    exact ⟨rfl, hb7⟩
  · have hz1 : (((dlL ws).length : Int) == 0) = false := by rw [beq_eq_false_iff_ne]; omega
    have htwo := dl_two (ws := ws) (by omega)
    go_wp2
    go_loopg [5] (dlL ws).length (fun gk i wr => ∃ k : Nat, k ≤ (dlL ws).length ∧ gk = (dlL ws).length - k ∧ i = .int .i64 k ∧ Below w4.heap.size w4 wr)
    case atStart => exact ⟨0, by omega, rfl, rfl, Below.refl _ _⟩
    case round =>
      obtain ⟨i, hi, rfl, rfl, hbw⟩ := hrel
      by_cases hlt : i < (dlL ws).length
      · obtain ⟨gb, go, y, rfl, hgl, hy, hyc⟩ := hr2.int hlt
        have HY := Lib.hid hy
        clear hy
        have hd : decide ((i : Int) < ((dlL ws).length : Int)) = true := by simp; omega
        go_wp2
        clear hd
        obtain ⟨wo, rfl⟩ : ∃ wo : World, wo = wr := ⟨_, rfl⟩
        go_loopg [6, 7] ws.length (fun gi s j wr => ∃ k : Nat, k ≤ ws.length ∧ gi = ws.length - k ∧ j = .int .i64 k ∧ s = .bool (someDl ws y k) ∧ Below w4.heap.size w4 wr)
        case atStart => exact ⟨0, by omega, rfl, rfl, rfl, hbw⟩
        case round =>
          clear hbw
          obtain ⟨k, hk, rfl, rfl, rfl, hbw⟩ := hrel
          have hyw := (hbw.cell (p := ⟨gb, go + i, none⟩) hgl).trans hyc
          by_cases hlk : k < ws.length
          · obtain ⟨b, off, x, rfl, hbl, hx, hc1, hc2⟩ := (hr1.below hbw).wt hlk
            have HS := Lib.hid (someDl_succ (y := y) hx)
            have hr2w := hr2.below hbw
            clear hx hyc
            cases hs : someDl ws y k
            · by_cases hq : x.who = y
              · have hq1 : (x.who == y) = true := by simp [hq]
                have HF : Hid (someDl ws y (k + 1) = decide (x.to ∈ dlL ws)) := by show _ = _; rw [HS.out, hs]; simp [hq]
                clear hq
                go_wp2
                go_quiet ((go_at_call 26; exact lisIn_q _ (by omega) hr2w rfl))
                go_wp2
                go_roundg (ws.length - (k + 1))
                case measure => omega
                case rel => exact ⟨k + 1, by omega, rfl, by go_num, by rw [HF.out], below_drewN hbw _⟩
              · have hq1 : (x.who == y) = false := by simp [hq]
                have HF : Hid (someDl ws y (k + 1) = false) := by show _ = _; rw [HS.out, hs]; simp [hq]
                clear hq
                go_wp2
                go_quiet (fail)
                go_wp2
                go_roundg (ws.length - (k + 1))
                case measure => omega
                case rel => exact ⟨k + 1, by omega, rfl, by go_num, by rw [HF.out], below_drewN hbw _⟩
            · have HF : Hid (someDl ws y (k + 1) = true) := by show _ = _; rw [HS.out, hs]; simp
              go_wp2
              go_quiet (fail)
              go_wp2
              go_roundg (ws.length - (k + 1))
              case measure => omega
              case rel => exact ⟨k + 1, by omega, rfl, by go_num, by rw [HF.out], below_drewN hbw _⟩
          · have hym : y ∈ dlL ws := List.mem_of_getElem? HY.out
            have HN := Lib.hid (someDl_all hlk hym)
            have HW := Lib.hid (dl_in_wf hym)
            have hl3 := wfL_len ws y
            rw [HN.out]
            have hr1w := (hr1.below hbw).more hbw.size
            have hgl2 : gb < wr.heap.size := by have := hbw.size; omega
            clear hym hyc
            go_wp2
            go_region_held3 (fun w' => w'.cell? ⟨gb, go + i, none⟩ = some (.int .i64 y))
              (first
                | go_keep
                | (rw [hb6.cell hgl2]; assumption))
              ((first
                | (go_at_call 23; refine (waitsFor_any' A1 c1 ws y _ (by omega) hr1w.drew).mono ?_; rintro e w6 ⟨A6, c6, rfl, ho6, hb6⟩)
                | (go_at_call 26; refine (lisIn_any A6 c6 (wfL ws y) y _ (by omega) (Rd.of_own ho6)).mono ?_; rintro e w7 ⟨rfl, rfl⟩; rw [HW.out])))
            have hb7 := hbw.trans ((Below.refl _ _).drew.trans (hb6.mono hbw.size))
            clear ho6 hb6
            go_wp2
            go_roundg ((dlL ws).length - (i + 1))
            case measure => omega
            case rel => exact ⟨i + 1, by omega, rfl, by go_num, hb7⟩
      · go_wp2
        go_ret
        exact ⟨ret_bool (by simp; omega), below_then hb4 hbw hb4.size⟩
end Go.Proofs.Ytfhofincbekadaa
