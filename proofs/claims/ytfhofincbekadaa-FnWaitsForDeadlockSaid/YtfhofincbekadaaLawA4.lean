/- The walks of the laws FnWaitsForDeadlock, FnDeadlockOf. -/
import Derived.Test.YtfhofincbekadaaLawA2
import Derived.Deep.RegionHeld3
namespace Go.Proofs.Ytfhofincbekadaa
open Go.RowKit
open Tl (Wt okW validW validW_iff T4 waitsFor deadOf mem_T4 mem_waitsFor mem_deadOf)

/-- Somebody waits for t, among the first k waits. -/
def someTo (ws : List Wt) (t : Int) (k : Nat) : Bool := (ws.take k).any fun x => decide (x.to = t)
theorem someTo_succ {ws : List Wt} {t : Int} {k : Nat} {x : Wt} (hx : ws[k]? = some x) : someTo ws t (k + 1) = (someTo ws t k || decide (x.to = t)) := by
  unfold someTo; rw [take_succ_of hx]; simp
theorem someTo_no {ws : List Wt} {t : Int} {k : Nat} (hk : ¬ k < ws.length) (h : someTo ws t k = false) : decide (t ∈ dlL ws) = false := by
  rw [decide_eq_false_iff_not]
  intro ht
  unfold someTo at h
  rw [take_all hk, List.any_eq_false] at h
  unfold dlL at ht
  split at ht
  · obtain ⟨x, hx, e⟩ := (mem_deadOf.1 ht).2.last
    have := h x hx
    simp [e] at this
  · cases ht
theorem dl_wf {ws : List Wt} {who : Int} : decide (who ∈ dlL ws) = decide (who ∈ wfL ws who) := by
  rw [Bool.eq_iff_iff]
  unfold dlL wfL
  split
  · simp [mem_deadOf, mem_waitsFor]
  · simp

set_option maxRecDepth 100000 in
theorem law_FnWaitsForDeadlock (A : Option Addr) (n c : Nat) (w : World) (h : Code8 w A n c) : Calls Try.prog 7 #[.slice A n c] w (PBool w true) := by
  have hle : (n : Int) ≤ 1048576 := by have := h.le; omega
  go_enter Try.func7, Try.ntmps7
  go_wp2_with fail
  refine (drawWaitsFor_any A n c _ h).mono ?_
  rintro e w1 ⟨ws, who, A1, c1, rfl, ho1, hl1, hb1⟩
  have hr1 := Rd.of_own ho1
  have hle2 := wfL_len ws who
  clear h ho1
  go_wp2_with fail
  refine (waitsFor_any' A1 c1 ws who _ (by omega) hr1).mono ?_
  rintro e w2 ⟨A2, c2, rfl, ho2, hb2⟩
  have hr2 := Rd.of_own ho2
  have hr1 := hr1.step hb2
  have hb2 := below_then hb1 hb2 hb1.size
  clear ho2 hb1
  go_wp2_with fail
  refine (swaitsFor_any' A1 c1 ws who _ (by omega) hr1).mono ?_
  rintro e w3 ⟨A3, c3, rfl, ho3, hb3⟩
  have hr3 := Rd.of_own ho3
  have hr1 := hr1.step hb3
  have hr2 := hr2.step hb3
  have hb3 := below_then hb2 hb3 hb2.size
  clear ho3 hb2
  go_wp2_with fail
  refine (equalInts_same A2 c2 (wfL ws who) A3 c3 _ (by omega) hr2 hr3).mono ?_
  rintro e w4 ⟨rfl, hb4⟩
  have hr1 := hr1.step hb4
  have hr2 := hr2.step hb4
  have hb4 := below_then hb3 hb4 hb3.size
  clear hr3 hb3
  go_wp2_with fail
  refine (validWaits_any A1 c1 ws _ (by omega) hr1).mono ?_
  rintro e w5 ⟨rfl, hb5⟩
  have hr1 := hr1.step hb5
  have hr2 := hr2.step hb5
  have hb5 := below_then hb4 hb5 hb4.size
  clear hb4
  cases hv : validW ws
  · have HV := Lib.hid hv
    clear hv
    go_wp2_with fail
    refine (swaitsFor_any' A1 c1 ws who _ (by omega) hr1).mono ?_
    rintro e w6 ⟨A3, c3, rfl, ho3, hb6⟩
    have hr3 := Rd.of_own ho3
    have hr2 := hr2.step hb6
    have hb6 := below_then hb5 hb6 hb5.size
    clear ho3 hb5
    go_wp2_with fail
    refine (equalInts_same A2 c2 (wfL ws who) A3 c3 _ (by omega) hr2 hr3).mono ?_
    rintro e w7 ⟨rfl, hb7⟩
    have hb7 := below_then hb6 hb7 hb6.size
    go_wp2
    go_ret
    exact ⟨rfl, hb7⟩
  · have HV := Lib.hid hv
    clear hv
    have hle3 := dlL_len ws
    go_wp2_with fail
    refine (deadlockOf_any A1 c1 ws _ (by omega) hr1).mono ?_
    rintro e w6 ⟨A6, c6, rfl, ho6, hb6⟩
    have hr6 := Rd.of_own ho6
    have hr1 := hr1.step hb6
    have hr2 := hr2.step hb6
    have hb6 := below_then hb5 hb6 hb5.size
    clear ho6 hb5
    go_wp2
    go_loopg [7] 4 (fun gk i wr => ∃ k : Nat, k ≤ 4 ∧ gk = 4 - k ∧ i = .int .i64 k ∧ Below w6.heap.size w6 wr)
    case atStart => exact ⟨0, by omega, rfl, rfl, Below.refl _ _⟩
    case round =>
      obtain ⟨t, ht, rfl, rfl, hbw⟩ := hrel
      by_cases hlt : t < 4
      · have hd : decide ((t : Int) < 4) = true := by simp; omega
        go_wp2
        clear hd
        obtain ⟨wo, rfl⟩ : ∃ wo : World, wo = wr := ⟨_, rfl⟩
        go_loopg [8, 9] ws.length (fun gi s i wr => ∃ k : Nat, k ≤ ws.length ∧ gi = ws.length - k ∧ i = .int .i64 k ∧ s = .bool (someTo ws t k) ∧ Below w6.heap.size w6 wr)
        case atStart => exact ⟨0, by omega, rfl, rfl, rfl, hbw⟩
        case round =>
          clear hbw
          obtain ⟨k, hk, rfl, rfl, rfl, hbw⟩ := hrel
          by_cases hlk : k < ws.length
          · obtain ⟨b, off, x, rfl, hbl, hx, hc1, hc2⟩ := (hr1.below hbw).wt hlk
            have HS := Lib.hid (someTo_succ (t := (t : Int)) hx)
            clear hx
            cases hs : someTo ws t k
            · by_cases hq : x.to = (t : Int)
              · have hq1 : (x.to == (t : Int)) = true := by simp [hq]
                have HF : Hid (someTo ws t (k + 1) = true) := by show _ = _; rw [HS.out]; simp [hq]
                clear hq
                go_wp2
                go_roundg (ws.length - (k + 1))
                case measure => omega
                case rel => exact ⟨k + 1, by omega, rfl, by go_num, by rw [HF.out], hbw⟩
              · have hq1 : (x.to == (t : Int)) = false := by simp [hq]
                have HF : Hid (someTo ws t (k + 1) = false) := by show _ = _; rw [HS.out, hs]; simp [hq]
                clear hq
                go_wp2
                go_roundg (ws.length - (k + 1))
                case measure => omega
                case rel => exact ⟨k + 1, by omega, rfl, by go_num, by rw [HF.out], hbw⟩
            · have HF : Hid (someTo ws t (k + 1) = true) := by show _ = _; rw [HS.out, hs]; simp
              go_wp2
              go_roundg (ws.length - (k + 1))
              case measure => omega
              case rel => exact ⟨k + 1, by omega, rfl, by go_num, by rw [HF.out], hbw⟩
          · cases hs : someTo ws t k
            · have HN := Lib.hid (someTo_no hlk hs)
              go_wp2_with fail
              refine (lisIn_any A6 c6 (dlL ws) (t : Int) _ (by omega) (hr6.below hbw)).mono ?_
              rintro e w7 ⟨rfl, rfl⟩
              rw [HN.out]
              go_wp2
              go_roundg (4 - (t + 1))
              case measure => omega
              case rel => exact ⟨t + 1, by omega, rfl, by go_num, hbw⟩
            · go_wp2
              go_roundg (4 - (t + 1))
              case measure => omega
              case rel => exact ⟨t + 1, by omega, rfl, by go_num, hbw⟩
      · have hb7 := below_then hb6 hbw hb6.size
        go_wp2_with fail
        refine (lisIn_any A6 c6 (dlL ws) who _ (by omega) (hr6.below hbw)).mono ?_
        rintro e w7 ⟨rfl, rfl⟩
        rw [dl_wf]
        go_wp2_with fail
        refine (lisIn_any A2 c2 (wfL ws who) who _ (by omega) (hr2.below hbw)).mono ?_
        rintro e w7 ⟨rfl, rfl⟩
        go_wp2
        go_ret
        exact ⟨by simp, hb7⟩
end Go.Proofs.Ytfhofincbekadaa
