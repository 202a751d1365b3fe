/- The walks of FnLockBlockersWeaker, FnLockBlockers. -/
import Derived.Test.YtbjjlbimlhccpaaDoorTabKit
namespace Go.Proofs.YtbjjlbimlhccpaaDoor
open Go.RowKit
open Tl (Lk okM okL validT validT_iff held held_ok tog join join_ok askOk askOk_iff lockBlockers blockers mem_blockers T4)

theorem lockBlockers_valid {l : List Lk} {who node mode : Int} (hv : validT l = true) (ha : askOk who node mode = true) : lockBlockers l who node mode = blockers l who node mode := by
  unfold lockBlockers; rw [hv, ha]; rfl
theorem lockBlockers_some {l : List Lk} {who node mode : Int} (h : lockBlockers l who node mode ≠ []) : validT l = true ∧ askOk who node mode = true := by
  unfold lockBlockers at h
  split at h
  · rename_i hh; simpa using hh
  · exact absurd rfl h
theorem askOk_one {who node mode : Int} (h1 : 1 ≤ mode) (h5 : mode ≤ 5) : askOk who node 1 = askOk who node mode := by
  rw [Bool.eq_iff_iff, askOk_iff, askOk_iff]
  unfold okL
  simp only
  omega
theorem weaker_sub {l : List Lk} {who node mode : Int} (h1 : 1 ≤ mode) (h5 : mode ≤ 5) : ∀ t ∈ lockBlockers l who node 1, t ∈ lockBlockers l who node mode := by
  intro t ht
  have hh := lockBlockers_some (l := l) (who := who) (node := node) (mode := 1) (List.ne_nil_of_mem ht)
  have ha := hh.2
  rw [askOk_one h1 h5] at ha
  rw [lockBlockers_valid hh.1 hh.2] at ht
  rw [lockBlockers_valid hh.1 ha]
  exact Tl.blockers_weaker (validT_iff.1 hh.1).2.1 (by unfold okM; omega) h1 ht
theorem weaker_len {l : List Lk} {who node mode : Int} (h1 : 1 ≤ mode) (h5 : mode ≤ 5) : (lockBlockers l who node 1).length ≤ (lockBlockers l who node mode).length := by
  refine Tl.length_le_of_sub _ _ ?_ (weaker_sub h1 h5)
  unfold lockBlockers
  split
  · exact Tl.blockers_nodup _ _ _ _
  · simp

set_option maxHeartbeats 1000000 in
set_option maxRecDepth 100000 in
theorem law_FnLockBlockersWeaker (A : Option Addr) (n c : Nat) (w : World) (h : Code8 w A n c) (hT : TabT w) (hJ : TabJ w) : Calls Tryd.prog 9 #[.slice A n c] w (PBool w true) := by
  have hle : (n : Int) ≤ 1048576 := by have := h.le; omega
  go_enter Tryd.func9, Tryd.ntmps9
  go_wp2_with fail
  refine (drawLockBlockers_any A n c _ h).mono ?_
  rintro e w1 ⟨ls, A1, c1, who, node, mode, rfl, ho1, hl1, hb1⟩
  have hr1 := Rd.of_own ho1
  have hcap := own_cap ho1
  have hT1 := hT.step hb1
  have hJ1 := hJ.step hb1
  have hbl := lockBlockers_len ls who node mode
  have hbl1 := lockBlockers_len ls who node 1
  clear h ho1 hT hJ
  go_wp2_with fail
  refine (lockBlockers_any A1 c1 ls who node mode _ (by omega) hcap hT1 hJ1 hr1).mono ?_
  rintro e w2 ⟨A2, c2, rfl, ho2, hb2⟩
  have hr2 := Rd.of_own ho2
  have hr1 := hr1.step hb2
  have hT1 := hT1.step hb2
  have hJ1 := hJ1.step hb2
  have hb2 := below_then hb1 hb2 hb1.size
  clear hb1 ho2
  go_wp2_with fail
  refine (lockBlockers_any A1 c1 ls who node 1 _ (by omega) hcap hT1 hJ1 hr1).mono ?_
  rintro e w3 ⟨A3, c3, rfl, ho3, hb3⟩
  have hr3 := Rd.of_own ho3
  have hr1 := hr1.step hb3
  have hr2 := hr2.step hb3
  have hb3 := below_then hb2 hb3 hb2.size
  clear hb2 ho3 hT1 hJ1
  go_wp2_with fail
  refine (slockBlockers_any A1 c1 ls who node mode _ (by omega) hr1).mono ?_
  rintro e w4 ⟨A4, c4, rfl, ho4, hb4⟩
  have hr4 := Rd.of_own ho4
  have hr1 := hr1.step hb4
  have hr2 := hr2.step hb4
  have hr3 := hr3.step hb4
  have hb4 := below_then hb3 hb4 hb3.size
  clear hb3 ho4
  go_wp2_with fail
  refine (equalInts_same A2 c2 (lockBlockers ls who node mode) A4 c4 _ (by omega) hr2 hr4).mono ?_
  rintro e w5 ⟨rfl, hb5⟩
  have hr1 := hr1.step hb5
  have hr2 := hr2.step hb5
  have hr3 := hr3.step hb5
  have hb5 := below_then hb4 hb5 hb4.size
  clear hb4 hr4
  by_cases hm : 1 ≤ mode ∧ mode ≤ 5
  · have hm1 : ¬ mode < 1 := by omega
    have hm5 : ¬ 5 < mode := by omega
    have HSUB := Lib.hid (weaker_sub (l := ls) (who := who) (node := node) hm.1 hm.2)
    have hlen := weaker_len (l := ls) (who := who) (node := node) hm.1 hm.2
    clear hm
    go_wp2
    go_loopg [9] (lockBlockers ls who node 1).length (fun gk iv wr => ∃ k : Nat, k ≤ (lockBlockers ls who node 1).length ∧ gk = (lockBlockers ls who node 1).length - k ∧ iv = .int .i64 k ∧ Below w5.heap.size w5 wr)
    case atStart => exact ⟨0, by omega, rfl, rfl, Below.refl _ _⟩
    case round =>
      obtain ⟨k, hk, rfl, rfl, hbw⟩ := hrel
      by_cases hlt : k < (lockBlockers ls who node 1).length
      · obtain ⟨b, off, x, rfl, hbl2, hx, hcx⟩ := (hr3.below hbw).int hlt
        have hin : decide (x ∈ lockBlockers ls who node mode) = true := by simpa using HSUB.out x (List.mem_of_getElem? hx)
        have hr2w := hr2.below hbw
        clear hx
        go_wp2_with fail
        refine (lisIn_any A2 c2 (lockBlockers ls who node mode) x _ (by omega) hr2w).mono ?_
        rintro e w7 ⟨rfl, rfl⟩
        rw [hin]
        clear hin
        go_wp2
        go_roundg ((lockBlockers ls who node 1).length - (k + 1))
        case measure => omega
        case rel => exact ⟨k + 1, by omega, rfl, by go_num, hbw⟩
      · have hb8 := below_then hb5 hbw hb5.size
        have hle2 : ((lockBlockers ls who node 1).length : Int) ≤ ((lockBlockers ls who node mode).length : Int) := by omega
        go_wp2
        go_ret
        exact ⟨by first | rfl | exact ret_bool (decide_eq_true hle2), hb8⟩
  · have fin : ∀ (A5 : Option Addr) (c5 : Nat) (w6 : World), Below w.heap.size w w6 → Rd w6 w6.heap.size 1 A2 (lockBlockers ls who node mode).length (ints (lockBlockers ls who node mode)) → True := fun _ _ _ _ _ => trivial
    clear fin
    by_cases hm1 : mode < 1
    · clear hm
      go_wp2_with fail
      refine (slockBlockers_any A1 c1 ls who node mode _ (by omega) hr1).mono ?_
      rintro e w6 ⟨A6, c6, rfl, ho6, hb6⟩
      have hr6 := Rd.of_own ho6
      have hr2 := hr2.step hb6
      have hb6 := below_then hb5 hb6 hb5.size
      clear ho6 hb5
      go_wp2_with fail
      refine (equalInts_same A2 c2 (lockBlockers ls who node mode) A6 c6 _ (by omega) hr2 hr6).mono ?_
      rintro e w7 ⟨rfl, hb7⟩
      have hb7 := below_then hb6 hb7 hb6.size
      go_wp2
      go_ret
      exact ⟨rfl, hb7⟩
    · have hm5 : 5 < mode := by omega
      clear hm
      go_wp2_with fail
      refine (slockBlockers_any A1 c1 ls who node mode _ (by omega) hr1).mono ?_
      rintro e w6 ⟨A6, c6, rfl, ho6, hb6⟩
      have hr6 := Rd.of_own ho6
      have hr2 := hr2.step hb6
      have hb6 := below_then hb5 hb6 hb5.size
      clear ho6 hb5
      go_wp2_with fail
      refine (equalInts_same A2 c2 (lockBlockers ls who node mode) A6 c6 _ (by omega) hr2 hr6).mono ?_
      rintro e w7 ⟨rfl, hb7⟩
      have hb7 := below_then hb6 hb7 hb6.size
      go_wp2
      go_ret
      exact ⟨rfl, hb7⟩
end Go.Proofs.YtbjjlbimlhccpaaDoor
