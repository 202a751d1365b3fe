/- Contracts: spec.validStep, spec.freeOne, spec.tableAfter, spec.validSteps, and the exported ones. -/
import Derived.Test.YtpbhphpmegcenaaDoorStB
import Derived.Test.YtpbhphpmegcenaaDoorTabC
namespace Go.Proofs.YtpbhphpmegcenaaDoor
open Go.RowKit
open Tl (Lk St okM okL validT validT_iff at_ at_iff dropL hasL doSt runS tableAfter validS stOk held)

theorem stOk_iff (s : St) : stOk s = true ↔ (0 ≤ s.who ∧ s.who ≤ 3) ∧ (0 ≤ s.node ∧ s.node ≤ 11) ∧ ((s.free = true ∧ s.mode = 0) ∨ (s.free = false ∧ 1 ≤ s.mode ∧ s.mode ≤ 5)) := by
  unfold stOk
  cases s.free <;> simp <;> omega

set_option maxHeartbeats 1000000 in
set_option maxRecDepth 100000 in
theorem svalidStep_any (s : St) (w : World) : Calls Tryd.prog 63 #[.agg #[.int .i64 s.who, .bool s.free, .int .i64 s.node, .int .i64 s.mode]] w fun e w' => e = .returned (.bool (stOk s)) ∧ Below w.heap.size w w' := by
  have hb0 := (Below.refl w.heap.size w).alloc (Nat.le_refl _) (.cells #[.int .i64 s.who, .bool s.free, .int .i64 s.node, .int .i64 s.mode] 29)
  have hz := cell4_new w (.int .i64 s.who) (.bool s.free) (.int .i64 s.node) (.int .i64 s.mode) 29
  have hz0 := hz 0 _ rfl
  have hz1 := hz 1 _ rfl
  have hz2 := hz 2 _ rfl
  have hz3 := hz 3 _ rfl
  have HI := Lib.hid (stOk_iff s)
  clear hz
  by_cases h1 : 0 ≤ s.who ∧ s.who ≤ 3
  · have H1 := Lib.hid (decide_eq_true h1)
    by_cases h2 : 0 ≤ s.node ∧ s.node ≤ 11
    · have H2 := Lib.hid (decide_eq_true h2)
      cases hf : s.free with
      | true =>
        rw [hf] at hb0 hz0 hz1 hz2 hz3
        have HE : Hid (stOk s = (s.mode == 0)) := by
          show _ = _
          rw [Bool.eq_iff_iff, HI.out]
          simp [h1, h2, hf]
        clear h1 h2 hf
        go_enter Tryd.func63, Tryd.ntmps63
        go_wp2_with fail
        refine (inRange_any s.who 0 3 _).mono ?_
        rintro e w' ⟨rfl, rfl⟩
        rw [H1.out]
        go_wp2_with fail
        refine (inRange_any s.node 0 11 _).mono ?_
        rintro e w' ⟨rfl, rfl⟩
        rw [H2.out]
        cases hm : (s.mode == 0)
        all_goals
          rw [hm] at HE
          go_wp2
          go_ret
          exact ⟨ret_bool HE.out.symm, hb0⟩
      | false =>
        rw [hf] at hb0 hz0 hz1 hz2 hz3
        have HE : Hid (stOk s = decide (1 ≤ s.mode ∧ s.mode ≤ 5)) := by
          show _ = _
          rw [Bool.eq_iff_iff, HI.out]
          simp [h1, h2, hf]
        clear h1 h2 hf
        go_enter Tryd.func63, Tryd.ntmps63
        go_wp2_with fail
        refine (inRange_any s.who 0 3 _).mono ?_
        rintro e w' ⟨rfl, rfl⟩
        rw [H1.out]
        go_wp2_with fail
        refine (inRange_any s.node 0 11 _).mono ?_
        rintro e w' ⟨rfl, rfl⟩
        rw [H2.out]
        go_wp2_with fail
        refine (inRange_any s.mode 1 5 _).mono ?_
        rintro e w' ⟨rfl, rfl⟩
        go_wp2
        go_ret
        exact ⟨ret_bool (by rw [HE.out, Bool.decide_and]), hb0⟩
    · have H2 := Lib.hid (decide_eq_false h2)
      have HE : Hid (stOk s = false) := by
        show _ = _
        rw [Bool.eq_false_iff]
        intro h
        exact h2 (HI.out.1 h).2.1
      clear h1 h2
      go_enter Tryd.func63, Tryd.ntmps63
      go_wp2_with fail
      refine (inRange_any s.who 0 3 _).mono ?_
      rintro e w' ⟨rfl, rfl⟩
      rw [H1.out]
      go_wp2_with fail
      refine (inRange_any s.node 0 11 _).mono ?_
      rintro e w' ⟨rfl, rfl⟩
      rw [H2.out]
      go_wp2
      go_ret
      exact ⟨ret_bool HE.out.symm, hb0⟩
  · have H1 := Lib.hid (decide_eq_false h1)
    have HE : Hid (stOk s = false) := by
      show _ = _
      rw [Bool.eq_false_iff]
      intro h
      exact h1 (HI.out.1 h).1
    clear h1
    go_enter Tryd.func63, Tryd.ntmps63
    go_wp2_with fail
    refine (inRange_any s.who 0 3 _).mono ?_
    rintro e w' ⟨rfl, rfl⟩
    rw [H1.out]
    go_wp2
    go_ret
    exact ⟨ret_bool HE.out.symm, hb0⟩

theorem dropL_yes {l : List Lk} {k : Nat} {x : Lk} {who node : Int} (hx : l[k]? = some x) (h1 : at_ who node x = false) : dropL (l.take (k + 1)) who node = dropL (l.take k) who node ++ [x] := by
  unfold dropL; rw [take_succ_of hx, List.filter_append]; simp [h1]
theorem dropL_no {l : List Lk} {k : Nat} {x : Lk} {who node : Int} (hx : l[k]? = some x) (h : at_ who node x = true) : dropL (l.take (k + 1)) who node = dropL (l.take k) who node := by
  unfold dropL; rw [take_succ_of hx, List.filter_append]; simp [h]
theorem dropL_len_le (l : List Lk) (who node : Int) (k : Nat) : (dropL (l.take k) who node).length ≤ k := by
  unfold dropL
  exact Nat.le_trans (List.length_filter_le _ _) (by rw [List.length_take]; exact Nat.min_le_left _ _)

theorem sfreeOne_any (A : Option Addr) (c : Nat) (l : List Lk) (who node : Int) (w : World) (hn : l.length ≤ 100000) (hr : Rd w w.heap.size 3 A l.length (lks l)) :
    Calls Tryd.prog 72 #[.slice A l.length c, .int .i64 who, .int .i64 node] w (PLks w (dropL l who node)) := by
  have hb0 := (Below.refl w.heap.size w).alloc (Nat.le_refl _) (.cells #[] 46)
  have hown0 := own_lit0 w 46 3 (base := w.heap.size) (Nat.le_refl _)
  go_enter Tryd.func72, Tryd.ntmps72
  go_wp2
  go_loopg [7, 8] l.length (fun gk ov s13 wr => ∃ (k m : Nat) (A' : Option Addr) (c' : Nat), k ≤ l.length ∧ gk = l.length - k ∧ s13 = .int .i64 k ∧ ov = .slice A' m c' ∧ Hid (m = (dropL (l.take k) who node).length) ∧
    wr.ownsRow w.heap.size 46 3 ov m (lks (dropL (l.take k) who node)) ∧ Below w.heap.size w wr)
  case atStart => exact ⟨0, 0, _, 0, Nat.zero_le _, rfl, rfl, rfl, rfl, hown0, hb0⟩
  case round =>
    clear hown0 hb0
    obtain ⟨k, m, A', c', hk, rfl, rfl, rfl, HM, hown, hb⟩ := hrel
    by_cases hlt : k < l.length
    · obtain ⟨b, off, x, rfl, hbl, hx, hc1, hc2, hc3⟩ := (hr.below hb).lk hlt
      have hml := dropL_len_le l who node k
      by_cases h0 : x.who = who ∧ x.node = node
      · have h1' : (x.who != who) = false := by simp [h0.1]
        have h2' : (x.node != node) = false := by simp [h0.2]
        have HN := Lib.hid (dropL_no hx (at_iff.2 h0))
        clear hx h0
        go_wp2
        go_roundg (l.length - (k + 1))
        case measure => omega
        case rel => exact ⟨k + 1, m, A', c', by omega, rfl, by go_num, rfl, by rw [HN.out]; exact HM, by rw [HN.out]; exact hown, hb⟩
      · have HN := Lib.hid (dropL_yes (who := who) (node := node) hx (by rw [Bool.eq_false_iff]; intro h; exact h0 (at_iff.1 h)))
        obtain rfl := HM.out
        clear HM hx
        have hcase : (x.who != who) = true ∨ ((x.who != who) = false ∧ (x.node != node) = true) := by
          by_cases h1 : x.who = who
          · exact .inr ⟨by simp [h1], by simp; intro h2; exact h0 ⟨h1, h2⟩⟩
          · exact .inl (by simp [h1])
        clear h0
        rcases hcase with h1' | ⟨h1', h2'⟩
        all_goals
          go_wp2_with (at_builtin; refine wpList_push_lk rfl _ _ rfl x rfl (hown.alloc _) rfl (heap_alloc_new wr _) (by omega) (by simp; have := hb.size; omega) ?_; intro A2 c2 w2 ho2 hb3 _)
          have hb4 := (hb.alloc hb.size (.cells #[.int .i64 x.who, .int .i64 x.node, .int .i64 x.mode] 46)).trans hb3
          rw [← HN.out] at ho2
          clear hown hb hb3 hc1 hc2 hc3
          go_wp2
          go_roundg (l.length - (k + 1))
          case measure => omega
          case rel => exact ⟨k + 1, (dropL (l.take k) who node).length + 1, A2, c2, by omega, rfl, by go_num, rfl, by show _ = _; rw [HN.out, List.length_append]; rfl, ho2, hb4⟩
    · rw [take_all hlt] at hown HM
      obtain rfl := HM.out
      clear HM
      go_wp2
      go_ret
      exact ⟨A', c', rfl, hown, hb⟩

set_option maxHeartbeats 1000000 in
set_option maxRecDepth 100000 in
theorem stableAfter0_any (A : Option Addr) (c : Nat) (ss : List St) (w : World) (hn : ss.length ≤ 100000) (hok : ∀ s ∈ ss, stOk s = true) (hr : Rd w w.heap.size 4 A ss.length (sts ss)) :
    Calls Tryd.prog 61 #[.slice A ss.length c] w (PTake w (runS [] ss)) := by
  have hb0 := (Below.refl w.heap.size w).alloc (Nat.le_refl _) (.cells #[] 46)
  have hown0 := own_lit0 w 46 3 (base := w.heap.size) (Nat.le_refl _)
  have HOK := Lib.hid hok
  clear hok
  go_enter Tryd.func61, Tryd.ntmps61
  go_wp2
  go_loopg [4, 5] ss.length (fun gk ov s13 wr => ∃ (k : Nat) (l : List Lk) (A' : Option Addr) (c' : Nat), k ≤ ss.length ∧ gk = ss.length - k ∧ s13 = .int .i64 k ∧ ov = .slice A' l.length c' ∧ Hid (runS [] (ss.take k) = some l) ∧
    wr.ownsRow w.heap.size 46 3 ov l.length (lks l) ∧ Below w.heap.size w wr)
  case atStart => exact ⟨0, [], _, 0, Nat.zero_le _, rfl, rfl, rfl, rfl, hown0, hb0⟩
  case round =>
    clear hown0 hb0
    obtain ⟨k, l, A', c', hk, rfl, rfl, rfl, HR, hown, hb⟩ := hrel
    by_cases hlt : k < ss.length
    · obtain ⟨b, off, s, rfl, hbl, hx, hc1, hc2, hc3, hc4⟩ := (hr.below hb).st hlt
      have HX := Lib.hid hx
      have hso := (stOk_iff s).1 (HOK.out s (List.mem_of_getElem? hx))
      have hlv := Tl.runS_valid _ Tl.validT_nil HR.out
      have hl48 := (validT_iff.1 hlv).1
      have HLV := Lib.hid hlv
      have hrl := Rd.of_own hown
      have hb1 := hb.alloc hb.size (.cells #[.int .i64 s.who, .bool s.free, .int .i64 s.node, .int .i64 s.mode] 29)
      have hown1 := hown.alloc (.cells #[.int .i64 s.who, .bool s.free, .int .i64 s.node, .int .i64 s.mode] 29)
      have hrl := Rd.of_own hown1
      have hz := cell4_new wr (.int .i64 s.who) (.bool s.free) (.int .i64 s.node) (.int .i64 s.mode) 29
      have hz0 := hz 0 _ rfl
      have hz1 := hz 1 _ rfl
      have hz2 := hz 2 _ rfl
      have hz3 := hz 3 _ rfl
      clear hx hlv hz hown
      cases hf : s.free with
      | true =>
        rw [hf] at hb1 hown1 hrl hz0 hz1 hz2 hz3 hc2
        have hsm : s.mode = 0 := by
          rcases hso.2.2 with ⟨_, h⟩ | ⟨h, _⟩
          · exact h
          · rw [hf] at h; cases h
        cases hh : hasL l s.who s.node with
        | false =>
          have hd := doSt_has hf hh
          have HN := Lib.hid (Tl.runS_none_step HX.out HR.out hd)
          have HH := Lib.hid ((Tl.held_hasL HLV.out _ _).2 hh)
          clear hf hh hd hsm hso
          go_wp2_with fail
          refine (sheld_any A' c' l s.who s.node _ (by omega) hrl).mono ?_
          rintro e w1 ⟨rfl, rfl⟩
          rw [HH.out]
          go_wp2
          go_ret2
          rw [HN.out]
          exact PTake.none_ hb1
        | true =>
          have hd := doSt_drop hf hsm hh
          have HM := Lib.hid (Tl.runS_some_step HX.out HR.out hd)
          have hne : (held l s.who s.node == 0) = false := by
            rw [beq_eq_false_iff_ne]
            intro h0
            rw [(Tl.held_hasL HLV.out _ _).1 h0] at hh
            cases hh
          have HNE := Lib.hid hne
          clear hf hh hd hsm hso hne
          go_wp2_with fail
          refine (sheld_any A' c' l s.who s.node _ (by omega) hrl).mono ?_
          rintro e w1 ⟨rfl, rfl⟩
          have hne := HNE.out
          go_wp2_with fail
          refine (sfreeOne_any A' c' l s.who s.node _ (by omega) hrl).mono ?_
          rintro e w3 ⟨A3, c3, rfl, ho3, hb3⟩
          have ho4 := own_base ho3 hb1.size
          have hb4 := below_then hb1 hb3 hb1.size
          clear ho3 hne hown1 hrl
          go_wp2
          go_roundg (ss.length - (k + 1))
          case measure => omega
          case rel => exact ⟨k + 1, _, A3, c3, by omega, rfl, by go_num, rfl, HM, ho4, hb4⟩
      | false =>
        rw [hf] at hb1 hown1 hrl hz0 hz1 hz2 hz3 hc2
        have hde := doSt_take (l := l) hf
        have HDE := Lib.hid hde
        clear hf hde hso
        go_wp2_with fail
        refine (stakeLock_any A' c' l s.who s.node s.mode _ (by omega) hrl).mono ?_
        rintro e w1 ⟨A2, c2, rfl, ho2, hb2⟩
        have hb3 := below_then hb1 hb2 hb1.size
        cases hd : Tl.takeLock l s.who s.node s.mode with
        | none =>
          have HN := Lib.hid (Tl.runS_none_step HX.out HR.out (HDE.out.trans hd))
          simp only [Option.isSome_none]
          clear hd ho2 hown1 hrl hz0 hz1 hz2 hz3
          go_wp2
          go_ret2
          rw [HN.out]
          exact PTake.none_ hb3
        | some m =>
          have HM := Lib.hid (Tl.runS_some_step HX.out HR.out (HDE.out.trans hd))
          rw [hd] at ho2
          have ho3 := own_base ho2 hb1.size
          simp only [Option.isSome_some, Option.getD_some] at ho3 ⊢
          clear hd ho2 hown1 hrl hz0 hz1 hz2 hz3
          go_wp2
          go_roundg (ss.length - (k + 1))
          case measure => omega
          case rel => exact ⟨k + 1, m, A2, c2, by omega, rfl, by go_num, rfl, HM, ho3, hb3⟩
    · have HE : Hid (runS [] ss = some l) := by have := HR.out; rw [take_all hlt] at this; exact this
      go_wp2
      go_ret2
      rw [HE.out]
      exact ⟨A', c', rfl, hown, hb⟩

set_option maxHeartbeats 1000000 in
set_option maxRecDepth 100000 in
theorem svalidSteps0_any (A : Option Addr) (c : Nat) (ss : List St) (w : World) (hn : ss.length ≤ 100000) (hr : Rd w w.heap.size 4 A ss.length (sts ss)) :
    Calls Tryd.prog 43 #[.slice A ss.length c] w (PBool w (validS ss)) := by
  by_cases h16 : ss.length ≤ 16
  · have h16' : (ss.length : Int) ≤ 16 := by omega
    go_enter Tryd.func43, Tryd.ntmps43
    go_wp2
    go_loopg [3] ss.length (fun gk s3 wr => ∃ k : Nat, k ≤ ss.length ∧ gk = ss.length - k ∧ s3 = .int .i64 k ∧ Hid (∀ s ∈ ss.take k, stOk s = true) ∧ Below w.heap.size w wr)
    case atStart => exact ⟨0, Nat.zero_le _, rfl, rfl, (show ∀ s ∈ ss.take 0, stOk s = true by simp), Below.refl _ _⟩
    case round =>
      obtain ⟨k, hk, rfl, rfl, HO, hb⟩ := hrel
      by_cases hlt : k < ss.length
      · obtain ⟨b, off, s, rfl, hbl, hx, hc1, hc2, hc3, hc4⟩ := (hr.below hb).st hlt
        have HX := Lib.hid hx
        clear hx
        go_wp2_with fail
        refine (svalidStep_any s _).mono ?_
        rintro e w1 ⟨rfl, hb1⟩
        have hb2 := below_then hb hb1 hb.size
        cases ho : stOk s with
        | false =>
          have HN := Lib.hid (Tl.validS_bad HX.out ho)
          clear ho hc1 hc2 hc3 hc4
          go_wp2
          go_ret
          exact ⟨ret_bool HN.out.symm, hb2⟩
        | true =>
          have HS := Lib.hid ho
          clear ho hc1 hc2 hc3 hc4
          go_wp2
          go_roundg (ss.length - (k + 1))
          case measure => omega
          case rel => exact ⟨k + 1, by omega, rfl, by go_num, all_take_succ (p := fun s => stOk s = true) HX.out HO.out HS.out, hb2⟩
      · have HO2 : Hid (∀ s ∈ ss, stOk s = true) := by have := HO.out; rw [take_all hlt] at this; exact this
        have hr1 := (hr.below hb).more hb.size
        go_wp2_with fail
        refine (stableAfter0_any A c ss _ hn HO2.out hr1).mono ?_
        rintro e w1 ⟨A2, c2, rfl, ho2, hb2⟩
        have hb3 := below_then hb hb2 hb.size
        have HE : Hid (validS ss = (runS [] ss).isSome) := by show _ = _; unfold validS; rw [Tl.tableAfter_le h16]
        clear ho2
        go_wp2
        go_ret
        exact ⟨ret_bool HE.out.symm, hb3⟩
  · have h16' : ¬ (ss.length : Int) ≤ 16 := by omega
    have HE := Lib.hid (Tl.validS_gt h16)
    go_enter Tryd.func43, Tryd.ntmps43
    go_wp2
    go_ret
    exact ⟨ret_bool HE.out.symm, Below.refl _ _⟩

theorem svalidSteps_any (A : Option Addr) (c : Nat) (ss : List St) (w : World) (hn : ss.length ≤ 100000) (hr : Rd w w.heap.size 4 A ss.length (sts ss)) :
    Calls Tryd.prog 35 #[.slice A ss.length c] w (PBool w (validS ss)) := by
  go_enter Tryd.func35, Tryd.ntmps35
  go_wp2_with fail
  refine (svalidSteps0_any A c ss _ hn hr).mono ?_
  rintro e w1 ⟨rfl, hb1⟩
  go_wp2
  go_ret
  exact ⟨rfl, hb1⟩
theorem stableAfter_any (A : Option Addr) (c : Nat) (ss : List St) (w : World) (hn : ss.length ≤ 100000) (hr : Rd w w.heap.size 4 A ss.length (sts ss)) :
    Calls Tryd.prog 38 #[.slice A ss.length c] w (PTake w (tableAfter ss)) := by
  cases hv : validS ss
  · have HE : Hid (tableAfter ss = none) := by show _ = _; unfold validS at hv; simpa using hv
    go_enter Tryd.func38, Tryd.ntmps38
    go_wp2_with fail
    refine (svalidSteps0_any A c ss _ hn hr).mono ?_
    rintro e w1 ⟨rfl, hb1⟩
    rw [hv]
    go_wp2
    go_ret2
    rw [HE.out]
    exact PTake.none_ hb1
  · obtain ⟨m, hm⟩ : ∃ m, tableAfter ss = some m := Option.isSome_iff_exists.1 hv
    have hsm := Tl.tableAfter_some.1 hm
    have HE : Hid (runS [] ss = tableAfter ss) := (show _ = _ from by rw [hm]; exact hsm.2)
    have HO : Hid (∀ s ∈ ss, stOk s = true) := Tl.runS_ok ss Tl.validT_nil hsm.2
    clear hm hsm
    go_enter Tryd.func38, Tryd.ntmps38
    go_wp2_with fail
    refine (svalidSteps0_any A c ss _ hn hr).mono ?_
    rintro e w1 ⟨rfl, hb1⟩
    have hr1 := hr.step hb1
    rw [hv]
    clear hv hr
    go_wp2_with fail
    refine (stableAfter0_any A c ss _ hn HO.out hr1).mono ?_
    rintro e w2 ⟨A2, c2, rfl, ho2, hb2⟩
    have hb3 := below_then hb1 hb2 hb1.size
    have ho3 := own_base ho2 hb1.size
    rw [HE.out] at ho3
    rw [HE.out]
    clear ho2 hb1 hb2
    go_wp2
    go_ret2
    exact ⟨A2, c2, rfl, ho3, hb3⟩
end Go.Proofs.YtpbhphpmegcenaaDoor
