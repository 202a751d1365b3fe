/- The walks of the laws of WaitsFor. -/
import Derived.Test.YtfhofincbekadaaWaitsD
import Derived.Test.YtfhofincbekadaaDrawW
namespace Go.Proofs.Ytfhofincbekadaa
open Go.RowKit
open Tl (Wt okW validW validW_iff T4 waitsFor deadOf mem_T4 mem_waitsFor mem_deadOf)

/-- The test of FnWaitsFor at a transaction: it is waited for at once or by way of others. -/
noncomputable def someWf (ws : List Wt) (who t : Int) (k : Nat) : Bool := (ws.take k).any fun x => decide (x.who = who) && (decide (x.to = t) || decide (t ∈ wfL ws x.to))
theorem someWf_succ {ws : List Wt} {who t : Int} {k : Nat} {x : Wt} (hx : ws[k]? = some x) : someWf ws who t (k + 1) = (someWf ws who t k || (decide (x.who = who) && (decide (x.to = t) || decide (t ∈ wfL ws x.to)))) := by
  unfold someWf; rw [take_succ_of hx]; simp
theorem someWf_all {ws : List Wt} {who t : Int} {k : Nat} (h : ¬ k < ws.length) (hv : validW ws = true) (ht : 0 ≤ t ∧ t ≤ 3) : someWf ws who t k = decide (t ∈ wfL ws who) := by
  unfold someWf wfL
  rw [take_all h, Bool.eq_iff_iff]
  simp only [hv, if_true, List.any_eq_true, Bool.and_eq_true, Bool.or_eq_true, decide_eq_true_eq, mem_waitsFor]
  rw [Tl.Reach.iff_first]
  constructor
  · rintro ⟨x, hx, hw, h1 | h1⟩
    · exact ⟨ht, x, hx, hw, .inl h1⟩
    · exact ⟨ht, x, hx, hw, .inr h1.2⟩
  · rintro ⟨_, x, hx, hw, h1 | h1⟩
    · exact ⟨x, hx, hw, .inl h1⟩
    · exact ⟨x, hx, hw, .inr ⟨ht, h1⟩⟩

set_option maxRecDepth 100000 in
theorem law_FnWaitsFor (A : Option Addr) (n c : Nat) (w : World) (h : Code8 w A n c) : Calls Try.prog 4 #[.slice A n c] w (PBool w true) := by
  have hle : (n : Int) ≤ 1048576 := by have := h.le; omega
  go_enter Try.func4, Try.ntmps4
  go_wp2_with fail
  refine (drawWaitsFor_any A n c _ h).mono ?_
  rintro e w1 ⟨ws, who, A1, c1, rfl, ho1, hl1, hb1⟩
  have hr1 := Rd.of_own ho1
  have hle2 := wfL_len ws who
  clear h ho1
  go_wp2_with fail
  refine (waitsFor_any' A1 c1 ws who _ (by omega) hr1).mono ?_
  rintro e w2 ⟨A2, c2, rfl, ho2, hb2⟩
  have hr2 := Rd.of_own ho2
  have hr1 := hr1.step hb2
  have hb2 := below_then hb1 hb2 hb1.size
  clear ho2 hb1
  go_wp2_with fail
  refine (swaitsFor_any' A1 c1 ws who _ (by omega) hr1).mono ?_
  rintro e w3 ⟨A3, c3, rfl, ho3, hb3⟩
  have hr3 := Rd.of_own ho3
  have hr1 := hr1.step hb3
  have hr2 := hr2.step hb3
  have hb3 := below_then hb2 hb3 hb2.size
  clear ho3 hb2
  go_wp2_with fail
  refine (equalInts_same A2 c2 (wfL ws who) A3 c3 _ (by omega) hr2 hr3).mono ?_
  rintro e w4 ⟨rfl, hb4⟩
  have hr1 := hr1.step hb4
  have hr2 := hr2.step hb4
  have hb4 := below_then hb3 hb4 hb3.size
  clear hr3 hb3
  go_wp2_with fail
  refine (validWaits_any A1 c1 ws _ (by omega) hr1).mono ?_
  rintro e w5 ⟨rfl, hb5⟩
  have hr1 := hr1.step hb5
  have hr2 := hr2.step hb5
  have hb5 := below_then hb4 hb5 hb4.size
  clear hb4
  cases hv : validW ws
  · have HV := Lib.hid hv
    clear hv
    go_wp2_with fail
    refine (swaitsFor_any' A1 c1 ws who _ (by omega) hr1).mono ?_
    rintro e w6 ⟨A3, c3, rfl, ho3, hb6⟩
    have hr3 := Rd.of_own ho3
    have hr2 := hr2.step hb6
    have hb6 := below_then hb5 hb6 hb5.size
    clear ho3 hb5
    go_wp2_with fail
    refine (equalInts_same A2 c2 (wfL ws who) A3 c3 _ (by omega) hr2 hr3).mono ?_
    rintro e w7 ⟨rfl, hb7⟩
    have hb7 := below_then hb6 hb7 hb6.size
    go_wp2
    go_ret
    exact ⟨rfl, hb7⟩
  · have HV := Lib.hid hv
    clear hv
    go_wp2
    go_loopg [6] 4 (fun gk i wr => ∃ k : Nat, k ≤ 4 ∧ gk = 4 - k ∧ i = .int .i64 k ∧ Below w5.heap.size w5 wr)
    case atStart => exact ⟨0, by omega, rfl, rfl, Below.refl _ _⟩
    case round =>
      obtain ⟨t, ht, rfl, rfl, hbw⟩ := hrel
      by_cases hlt : t < 4
      · have hd : decide ((t : Int) < 4) = true := by simp; omega
        go_wp2
        clear hd
        obtain ⟨wo, rfl⟩ : ∃ wo : World, wo = wr := ⟨_, rfl⟩
        go_loopg [7, 8] ws.length (fun gi s i wr => ∃ k : Nat, k ≤ ws.length ∧ gi = ws.length - k ∧ i = .int .i64 k ∧ s = .bool (someWf ws who t k) ∧ Below w5.heap.size w5 wr)
        case atStart => exact ⟨0, by omega, rfl, rfl, rfl, hbw⟩
        case round =>
          clear hbw
          obtain ⟨k, hk, rfl, rfl, rfl, hbw⟩ := hrel
          have hr1w := (hr1.below hbw).more hbw.size
          have hr2w := (hr2.below hbw).more hbw.size
          by_cases hlk : k < ws.length
          · obtain ⟨b, off, x, rfl, hbl, hx, hc1, hc2⟩ := hr1w.wt hlk
            have HS := Lib.hid (someWf_succ (who := who) (t := (t : Int)) hx)
            clear hx
            cases hs : someWf ws who t k
            · by_cases hw : x.who = who
              · have hw1 : (x.who == who) = true := by simp [hw]
                by_cases hq : x.to = (t : Int)
                · have hq1 : (x.to == (t : Int)) = true := by simp [hq]
                  have HF : Hid (someWf ws who t (k + 1) = true) := by show _ = _; rw [HS.out]; simp [hw, hq]
                  clear hw hq
                  go_wp2
                  go_roundg (ws.length - (k + 1))
                  case measure => omega
                  case rel => exact ⟨k + 1, by omega, rfl, by go_num, by rw [HF.out], hbw⟩
                · have hq1 : (x.to == (t : Int)) = false := by simp [hq]
                  have HF : Hid (someWf ws who t (k + 1) = decide ((t : Int) ∈ wfL ws x.to)) := by show _ = _; rw [HS.out, hs]; simp [hw, hq]
                  have hl3 := wfL_len ws x.to
                  clear hw hq
                  go_wp2_with fail
                  refine (waitsFor_any' _ c1 ws x.to _ (by omega) hr1w).mono ?_
                  rintro e w6 ⟨A3, c3, rfl, ho3, hb6⟩
                  have hr3 := Rd.of_own ho3
                  have hb6 := below_then hbw hb6 hbw.size
                  clear ho3
                  go_wp2_with fail
                  refine (lisIn_any A3 c3 (wfL ws x.to) (t : Int) _ (by omega) hr3).mono ?_
                  rintro e w7 ⟨rfl, rfl⟩
                  go_wp2
                  go_roundg (ws.length - (k + 1))
                  case measure => omega
                  case rel => exact ⟨k + 1, by omega, rfl, by go_num, by rw [HF.out], hb6⟩
              · have hw1 : (x.who == who) = false := by simp [hw]
                have HF : Hid (someWf ws who t (k + 1) = false) := by show _ = _; rw [HS.out, hs]; simp [hw]
                clear hw
                go_wp2
                go_roundg (ws.length - (k + 1))
                case measure => omega
                case rel => exact ⟨k + 1, by omega, rfl, by go_num, by rw [HF.out], hbw⟩
            · have HF : Hid (someWf ws who t (k + 1) = true) := by show _ = _; rw [HS.out, hs]; simp
              go_wp2
              go_roundg (ws.length - (k + 1))
              case measure => omega
              case rel => exact ⟨k + 1, by omega, rfl, by go_num, by rw [HF.out], hbw⟩
          · have HF := Lib.hid (someWf_all (who := who) (t := (t : Int)) hlk HV.out (by omega))
            rw [HF.out]
            go_wp2_with fail
            refine (lisIn_any A2 c2 (wfL ws who) (t : Int) _ (by omega) hr2w).mono ?_
            rintro e w6 ⟨rfl, rfl⟩
            go_wp2
            go_roundg (4 - (t + 1))
            case measure => omega
            case rel => exact ⟨t + 1, by omega, rfl, by go_num, hbw⟩
      · go_wp2
        go_ret
        exact ⟨rfl, below_then hb5 hbw hb5.size⟩
end Go.Proofs.Ytfhofincbekadaa
