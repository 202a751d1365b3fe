/- The walk of FnTakeLockOrder. -/
import Derived.Test.YtbjjlbimlhccpaaDoorLawT7
namespace Go.Proofs.YtbjjlbimlhccpaaDoor
open Go.RowKit
open Tl (Lk okM okL validT validT_iff held held_ok tog join join_ok askOk askOk_iff lockBlockers blockers mem_blockers T4 takeLock takeLock_some takeLock_held grant)

/-- Two locks on different nodes, in both orders. -/
theorem take_order {l ms : List Lk} {who node mode other : Int} (h : takeLock l who node mode = some ms) (hne : other ≠ node) (ho : 0 ≤ other ∧ other ≤ 11) :
    (takeLock l who other 1 = none ∧ takeLock ms who other 1 = none ∧ (takeLock [] who node mode).isSome = true) ∨
    ∃ a b c, takeLock l who other 1 = some b ∧ takeLock ms who other 1 = some a ∧ takeLock b who node mode = some c ∧ ∀ n, held a who n = held c who n := by
  obtain ⟨⟨hv, ha, hb⟩, hms⟩ := takeLock_some.1 h
  have hmv := Tl.takeLock_valid h
  have hmo := (askOk_iff.1 ha).mode
  have ha1 : askOk who other 1 = true := by
    rw [askOk_iff] at ha ⊢
    unfold okL at *
    simp only at *
    omega
  have hb1 : blockers ms who other 1 = blockers l who other 1 := by rw [hms]; exact Tl.blockers_grant_other hmo hne
  by_cases hq : blockers l who other 1 = []
  · right
    have e1 : takeLock l who other 1 = some (grant l who other 1) := takeLock_some.2 ⟨⟨hv, ha1, hq⟩, rfl⟩
    have e2 : takeLock ms who other 1 = some (grant ms who other 1) := takeLock_some.2 ⟨⟨hmv, ha1, by rw [hb1]; exact hq⟩, rfl⟩
    have hbv := Tl.takeLock_valid e1
    have e3 : takeLock (grant l who other 1) who node mode = some (grant (grant l who other 1) who node mode) := by
      refine takeLock_some.2 ⟨⟨hbv, ha, ?_⟩, rfl⟩
      rw [Tl.blockers_grant_other (by decide) (fun e => hne e.symm)]
      exact hb
    refine ⟨_, _, _, e1, e2, e3, fun n => ?_⟩
    rw [takeLock_held e2, takeLock_held e3, takeLock_held h, takeLock_held e1]
    by_cases h1 : n = other
    · subst h1
      simp [hne]
    · by_cases h2 : n = node
      · subst h2
        simp [h1]
      · simp [h1, h2]
  · left
    refine ⟨?_, ?_, ?_⟩
    · cases hc : takeLock l who other 1 with
      | none => rfl
      | some m => exact absurd (takeLock_some.1 hc).1.2.2 hq
    · cases hc : takeLock ms who other 1 with
      | none => rfl
      | some m => exact absurd ((takeLock_some.1 hc).1.2.2) (by rw [hb1]; exact hq)
    · have : takeLock [] who node mode = some (grant [] who node mode) := by
        refine takeLock_some.2 ⟨⟨Tl.validT_nil, ha, ?_⟩, rfl⟩
        rw [Tl.blockers_nil_iff]
        intro t _ _ _
        have h0 : ∀ u, held [] u node = 0 := fun u => rfl
        rw [h0, h0, Tl.join_zero hmo]
        exact Tl.tog_zero_left hmo
      rw [this]; rfl

set_option maxHeartbeats 1000000 in
set_option maxRecDepth 100000 in
theorem law_FnTakeLockOrder (A : Option Addr) (n c : Nat) (w : World) (h : Code8 w A n c) (hT : TabT w) (hJ : TabJ w) : Calls Tryd.prog 13 #[.slice A n c] w (PBool w true) := by
  have hle : (n : Int) ≤ 1048576 := by have := h.le; omega
  go_enter Tryd.func13, Tryd.ntmps13
  go_wp2_with fail
  refine (drawTakeLock_any A n c _ h).mono ?_
  rintro e w1 ⟨ls, A1, c1, who, node, mode, rfl, ho1, hl1, hb1⟩
  have hr1 := Rd.of_own ho1
  have hcap := own_cap ho1
  have hT1 := hT.step hb1
  have hJ1 := hJ.step hb1
  clear h ho1 hT hJ
  obtain ⟨ms, hms⟩ : ∃ ms, ms = (takeLock ls who node mode).getD [] := ⟨_, rfl⟩
  obtain ⟨ob, hob⟩ : ∃ ob, ob = (takeLock ls who node mode).isSome := ⟨_, rfl⟩
  have hm48 : ms.length ≤ 48 := by rw [hms]; exact takeLock_len ls who node mode
  go_wp2_with fail
  refine (takeLock_any A1 c1 ls who node mode _ (by omega) hcap hT1 hJ1 hr1).mono ?_
  rintro e w2 ⟨A2, c2, rfl, ho2, hb2⟩
  rw [← hms] at ho2
  rw [← hms, ← hob]
  have hr2 := Rd.of_own ho2
  have hcap2 := own_cap ho2
  have hr1 := hr1.step hb2
  have hT1 := hT1.step hb2
  have hJ1 := hJ1.step hb2
  have hb2 := below_then hb1 hb2 hb1.size
  clear hb1 ho2
  go_wp2_with fail
  refine (stakeLock_any A1 c1 ls who node mode _ (by omega) hr1).mono ?_
  rintro e w3 ⟨A3, c3, rfl, ho3, hb3⟩
  rw [← hms] at ho3
  rw [← hms, ← hob]
  have hr3 := Rd.of_own ho3
  have hr1 := hr1.step hb3
  have hr2 := hr2.step hb3
  have hT1 := hT1.step hb3
  have hJ1 := hJ1.step hb3
  have hb3 := below_then hb2 hb3 hb2.size
  have HMS := Lib.hid hms
  have HOB := Lib.hid hob
  have hse : (ob != ob) = false := by cases ob <;> rfl
  have hsq : (ob == ob) = true := by cases ob <;> rfl
  clear hb2 ho3 hms hob
  go_wp2_with fail
  refine (equalLocks_same A2 c2 ms A3 c3 _ (by omega) hr2 hr3).mono ?_
  rintro e w4 ⟨rfl, hb4⟩
  have hr1 := hr1.step hb4
  have hr2 := hr2.step hb4
  have hr3 := hr3.step hb4
  have hT1 := hT1.step hb4
  have hJ1 := hJ1.step hb4
  have hb4 := below_then hb3 hb4 hb3.size
  clear hb3
  cases ob
  · go_wp2_with fail
    refine (equalLocks_same A2 c2 ms A3 c3 _ (by omega) hr2 hr3).mono ?_
    rintro e w7 ⟨rfl, hb7⟩
    have hb7 := below_then hb4 hb7 hb4.size
    go_wp2
    go_ret
    exact ⟨rfl, hb7⟩
  · have HTK : Hid (takeLock ls who node mode = some ms) := by
      show _ = some ms
      have h1 := HOB.out
      have h2 := HMS.out
      cases hq : takeLock ls who node mode with
      | none => rw [hq] at h1; cases h1
      | some m => rw [hq] at h2; rw [h2]; rfl
    have HMV := Lib.hid (Tl.takeLock_valid HTK.out)
    have HVA := Lib.hid (takeLock_some.1 HTK.out).1
    clear hr3 hse hsq
    have hask := askOk_iff.1 HVA.out.2.1
    have hn0 : 0 ≤ node ∧ node ≤ 11 := by unfold okL at hask; simp only at hask; omega
    obtain ⟨other, hoe⟩ : ∃ other, other = (node + 1) % 12 := ⟨_, rfl⟩
    have hoo : 0 ≤ other ∧ other ≤ 11 ∧ other ≠ node := by omega
    have hORD := take_order HTK.out hoo.2.2 ⟨hoo.1, hoo.2.1⟩
    have HOE := Lib.hid hoe
    have hn1 := hn0.1
    have hn2 := hn0.2
    clear hask hn0 hoe hoo
    go_wp2_with fail
    rw [← HOE.out]
    rcases hORD with ⟨e1, e2, e3⟩ | ⟨a, b, d, e1, e2, e3, hheld⟩
    · have E1 := Lib.hid e1
      have E2 := Lib.hid e2
      have E3 := Lib.hid e3
      clear e1 e2 e3
      refine (takeLock_any A2 c2 ms who other 1 _ (by omega) hcap2 hT1 hJ1 hr2).mono ?_
      rintro e w5 ⟨A5, c5, rfl, ho5, hb5⟩
      rw [E2.out]
      simp only [Option.getD_none, Option.isSome_none, List.length_nil]
      have hr1 := hr1.step hb5
      have hT1 := hT1.step hb5
      have hJ1 := hJ1.step hb5
      have hb5 := below_then hb4 hb5 hb4.size
      clear ho5 hb4
      go_wp2_with fail
      refine (takeLock_any A1 c1 ls who other 1 _ (by omega) hcap hT1 hJ1 hr1).mono ?_
      rintro e w6 ⟨A6, c6, rfl, ho6, hb6⟩
      rw [E1.out] at ho6
      rw [E1.out]
      simp only [Option.getD_none, Option.isSome_none, List.length_nil] at ho6 ⊢
      have hr6 : Rd w6 w6.heap.size 3 A6 ([] : List Lk).length (lks []) := Rd.nil _ _ _ _
      have hT1 := hT1.step hb6
      have hJ1 := hJ1.step hb6
      have hb6 := below_then hb5 hb6 hb5.size
      clear ho6 hb5
      have hcon := takeLock_any A6 c6 [] who node mode w6 (by simp) (by simp) hT1 hJ1 hr6
      have HC := Lib.hid hcon
      clear hcon hr6
      go_wp2_with fail
      refine HC.out.mono ?_
      rintro e w7 ⟨A7, c7, rfl, ho7, hb7⟩
      rw [E3.out]
      have hb8 := below_then hb6 hb7 hb6.size
      clear ho7
      go_wp2
      go_ret
      exact ⟨rfl, hb8⟩
    · have E1 := Lib.hid e1
      have E2 := Lib.hid e2
      have E3 := Lib.hid e3
      have hbv := Tl.takeLock_valid e1
      have hav := Tl.takeLock_valid e2
      have hdv := Tl.takeLock_valid e3
      have hb48 := (validT_iff.1 hbv).1
      have ha48 := (validT_iff.1 hav).1
      have hd48 := (validT_iff.1 hdv).1
      have HEQ : Hid (∀ m : Int, heldM a who m = heldM d who m) := by
        show ∀ m : Int, _
        intro m
        rw [heldM_valid hav, heldM_valid hdv]
        exact hheld m
      clear e1 e2 e3 hbv hav hdv hheld
      refine (takeLock_any A2 c2 ms who other 1 _ (by omega) hcap2 hT1 hJ1 hr2).mono ?_
      rintro e w5 ⟨A5, c5, rfl, ho5, hb5⟩
      rw [E2.out] at ho5
      rw [E2.out]
      simp only [Option.getD_some, Option.isSome_some] at ho5 ⊢
      have hr5 := Rd.of_own ho5
      have hcap5 := own_cap ho5
      have hr1 := hr1.step hb5
      have hT1 := hT1.step hb5
      have hJ1 := hJ1.step hb5
      have hb5 := below_then hb4 hb5 hb4.size
      clear ho5 hb4
      go_wp2_with fail
      refine (takeLock_any A1 c1 ls who other 1 _ (by omega) hcap hT1 hJ1 hr1).mono ?_
      rintro e w6 ⟨A6, c6, rfl, ho6, hb6⟩
      rw [E1.out] at ho6
      rw [E1.out]
      simp only [Option.getD_some, Option.isSome_some] at ho6 ⊢
      have hr6 := Rd.of_own ho6
      have hcap6 := own_cap ho6
      have hr5 := hr5.step hb6
      have hT1 := hT1.step hb6
      have hJ1 := hJ1.step hb6
      have hb6 := below_then hb5 hb6 hb5.size
      clear ho6 hb5
      go_wp2_with fail
      refine (takeLock_any A6 c6 b who node mode _ (by omega) hcap6 hT1 hJ1 hr6).mono ?_
      rintro e w7 ⟨A7, c7, rfl, ho7, hb7⟩
      rw [E3.out] at ho7
      rw [E3.out]
      simp only [Option.getD_some, Option.isSome_some] at ho7 ⊢
      have hr7 := Rd.of_own ho7
      have hcap7 := own_cap ho7
      have hr5 := hr5.step hb7
      have hT1 := hT1.step hb7
      have hb7 := below_then hb6 hb7 hb6.size
      clear ho7 hb6 hr6 hJ1
      go_wp2
      go_loopg [18] 12 (fun gk nv wr => ∃ m : Nat, m ≤ 12 ∧ gk = 12 - m ∧ nv = .int .i64 m ∧ Below w7.heap.size w7 wr)
      case atStart => exact ⟨0, by omega, rfl, rfl, Below.refl _ _⟩
      case round =>
        obtain ⟨m, hm, rfl, rfl, hbw⟩ := hrel
        by_cases hlm : m < 12
        · have hr5w := (hr5.below hbw).more hbw.size
          have hr7w := (hr7.below hbw).more hbw.size
          have hTw := hT1.below hbw (Nat.le_refl _)
          have HX := Lib.hid (HEQ.out (m : Int))
          have hmm : (heldM d who (m : Int) != heldM d who (m : Int)) = false := by simp
          go_wp2_with fail
          refine (heldMode_any A5 c5 a who (m : Int) _ (by omega) hcap5 hTw hr5w).mono ?_
          rintro e w8 ⟨rfl, hb8⟩
          rw [HX.out]
          have hr7w := hr7w.step hb8
          have hTw := hTw.step hb8
          have hb9 := hbw.trans (hb8.mono hbw.size)
          clear hbw hb8 hr5w
          go_wp2_with fail
          refine (heldMode_any A7 c7 d who (m : Int) _ (by omega) hcap7 hTw hr7w).mono ?_
          rintro e w9 ⟨rfl, hb10⟩
          have hb11 := hb9.trans (hb10.mono hb9.size)
          clear hb9 hb10 hr7w hTw
          go_wp2
          go_roundg (12 - (m + 1))
          case measure => omega
          case rel => exact ⟨m + 1, by omega, rfl, by go_num, hb11⟩
        · have hb8 := below_then hb7 hbw hb7.size
          go_wp2
          go_ret
          exact ⟨rfl, hb8⟩
end Go.Proofs.YtbjjlbimlhccpaaDoor
