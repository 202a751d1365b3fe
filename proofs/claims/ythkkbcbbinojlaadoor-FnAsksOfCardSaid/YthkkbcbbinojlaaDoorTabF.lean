/- Contracts: TakeLock, of both packages; spec.grant. -/
import Derived.Test.YthkkbcbbinojlaaDoorTabE
import Derived.Test.YthkkbcbbinojlaaDoorLks2
namespace Go.Proofs.YthkkbcbbinojlaaDoor
open Go.RowKit
open Tl (Lk okM okL tog join validT validT_iff at_ at_iff held held_ok askOk askOk_iff T4 blockers blockersOf lockBlockers join_ok grant takeLock)

theorem grant_miss {l : List Lk} {who node mode : Int} (hm : ∀ y ∈ l, at_ who node y = false) : grant l who node mode = l ++ [⟨who, node, mode⟩] := by
  induction l with
  | nil => rfl
  | cons x r ih =>
    unfold grant
    rw [hm x (by simp), if_neg (by simp), ih (fun y hy => hm y (by simp [hy]))]
    rfl
theorem grant_hit {who node mode : Int} : ∀ {l : List Lk} {k : Nat} {x : Lk}, l[k]? = some x → at_ who node x = true → (∀ y ∈ l.take k, at_ who node y = false) → grant l who node mode = l.set k ⟨x.who, x.node, join x.mode mode⟩
  | [], k, x, h, _, _ => by simp at h
  | y :: r, 0, x, h, ha, _ => by
    simp at h
    subst h
    unfold grant
    rw [if_pos ha]
    rfl
  | y :: r, k + 1, x, h, ha, hm => by
    unfold grant
    rw [hm y (by simp), if_neg (by simp), grant_hit (k := k) (by simpa using h) ha (fun z hz => hm z (by simp [hz]))]
    rfl
theorem set_same {α : Type} {l : List α} {i : Nat} {v : α} (h : l[i]? = some v) : l.set i v = l := by
  obtain ⟨hi, rfl⟩ := List.getElem?_eq_some_iff.1 h
  exact List.set_getElem_self hi
theorem lks_set_mode {l : List Lk} {k : Nat} {x : Lk} (hx : l[k]? = some x) (m : Int) : (lks l).set (k * 3 + 2) (.int .i64 m) = lks (l.set k ⟨x.who, x.node, m⟩) := by
  have hk := (List.getElem?_eq_some_iff.1 hx).1
  rw [← lks_set ⟨x.who, x.node, m⟩ hk]
  have h0 := flat_get lkC 3 (fun _ => rfl) l k 0 x hx (by omega)
  have h1 := flat_get lkC 3 (fun _ => rfl) l k 1 x hx (by omega)
  show _ = (((lks l).set (k * 3) (.int .i64 x.who)).set (k * 3 + 1) (.int .i64 x.node)).set (k * 3 + 1 + 1) (.int .i64 m)
  rw [set_same (l := lks l) (i := k * 3) (v := .int .i64 x.who) h0, set_same (l := lks l) (i := k * 3 + 1) (v := .int .i64 x.node) h1]

/-- What TakeLock answers. -/
def PTake (w : World) (r : Option (List Lk)) (e : Ending) (w' : World) : Prop :=
  ∃ A c, e = .returned (.tuple #[.slice A (r.getD []).length c, .bool r.isSome]) ∧ w'.ownsRow w.heap.size 36 3 (.slice A (r.getD []).length c) (r.getD []).length (lks (r.getD [])) ∧ Below w.heap.size w w'
theorem PTake.none_ {w w' : World} (hb : Below w.heap.size w w') : PTake w none (.returned (.tuple #[.slice none 0 0, .bool false])) w' := ⟨none, 0, rfl, World.ownsRow_nil _ _ _ _, hb⟩
theorem PTake.some_ {w w' : World} {m : List Lk} {A : Option Addr} {c n : Nat} (hn : n = m.length) (ho : w'.ownsRow w.heap.size 36 3 (.slice A n c) n (lks m)) (hb : Below w.heap.size w w') : PTake w (some m) (.returned (.tuple #[.slice A n c, .bool true])) w' := by
  subst hn
  exact ⟨A, c, rfl, ho, hb⟩

theorem takeLock_eq (l : List Lk) (who node mode : Int) : takeLock l who node mode = if validT l then (if askOk who node mode then (if (lockBlockers l who node mode).isEmpty then some (grant l who node mode) else none) else none) else none := by
  unfold takeLock lockBlockers
  cases validT l <;> cases askOk who node mode <;> simp

set_option maxHeartbeats 1000000 in
set_option maxRecDepth 100000 in
theorem takeLock_any (A : Option Addr) (c : Nat) (l : List Lk) (who node mode : Int) (w : World) (hn : l.length ≤ 100000) (hcap : l.length ≤ c) (hT : TabT w) (hJ : TabJ w) (hr : Rd w w.heap.size 3 A l.length (lks l)) :
    Calls Tryd.prog 29 #[.slice A l.length c, .int .i64 who, .int .i64 node, .int .i64 mode] w (PTake w (takeLock l who node mode)) := by
  rw [takeLock_eq]
  cases hv : validT l
  · simp only [Bool.false_eq_true, if_false]
    go_enter Tryd.func29, Tryd.ntmps29
    go_wp2_with fail
    refine (validTable_any A c l _ hn hcap hT hr).mono ?_
    rintro e w1 ⟨rfl, hb1⟩
    rw [hv]
    go_wp2
    go_ret2
    exact PTake.none_ hb1
  · cases ha : askOk who node mode
    · simp only [if_true, Bool.false_eq_true, if_false]
      go_enter Tryd.func29, Tryd.ntmps29
      go_wp2_with fail
      refine (validTable_any A c l _ hn hcap hT hr).mono ?_
      rintro e w1 ⟨rfl, hb1⟩
      rw [hv]
      go_wp2_with fail
      refine (isAsk_any who node mode _).mono ?_
      rintro e w2 ⟨rfl, rfl⟩
      rw [ha]
      go_wp2
      go_ret2
      exact PTake.none_ hb1
    · simp only [if_true]
      have hlo := (validT_iff.1 hv).2.1
      have HLO := Lib.hid hlo
      have HMO := Lib.hid (askOk_iff.1 ha).mode
      have hl4 := lockBlockers_len l who node mode
      cases hbl : (lockBlockers l who node mode).isEmpty
      · simp only [Bool.false_eq_true, if_false]
        have hpos : 0 < (lockBlockers l who node mode).length := by
          cases hq : lockBlockers l who node mode with
          | nil => rw [hq] at hbl; cases hbl
          | cons a r => simp
        clear hbl hlo
        go_enter Tryd.func29, Tryd.ntmps29
        go_wp2_with fail
        refine (validTable_any A c l _ hn hcap hT hr).mono ?_
        rintro e w1 ⟨rfl, hb1⟩
        have hr1 := hr.step hb1
        rw [hv]
        go_wp2_with fail
        refine (isAsk_any who node mode _).mono ?_
        rintro e w2 ⟨rfl, rfl⟩
        rw [ha]
        go_wp2_with fail
        refine (lockBlockers_any A c l who node mode _ hn hcap (hT.step hb1) (hJ.step hb1) hr1).mono ?_
        rintro e w2 ⟨A2, c2, rfl, ho2, hb2⟩
        have hb3 := below_then hb1 hb2 hb1.size
        clear ho2 hb2 hv ha
        go_wp2
        go_ret2
        exact PTake.none_ hb3
      · simp only [if_true]
        have hnil : lockBlockers l who node mode = [] := List.isEmpty_iff.1 hbl
        have HNIL := Lib.hid hnil
        clear hbl hlo hnil
        go_enter Tryd.func29, Tryd.ntmps29
        go_wp2_with fail
        refine (validTable_any A c l _ hn hcap hT hr).mono ?_
        rintro e w1 ⟨rfl, hb1⟩
        have hr1 := hr.step hb1
        have hT1 := hT.step hb1
        have hJ1 := hJ.step hb1
        rw [hv]
        go_wp2_with fail
        refine (isAsk_any who node mode _).mono ?_
        rintro e w2 ⟨rfl, rfl⟩
        rw [ha]
        go_wp2_with fail
        refine (lockBlockers_any A c l who node mode _ hn hcap hT1 hJ1 hr1).mono ?_
        rintro e w2 ⟨A2, c2, rfl, ho2, hb2⟩
        have hr2 := hr1.step hb2
        have hJ2 := hJ1.step hb2
        have hb3 := below_then hb1 hb2 hb1.size
        rw [HNIL.out]
        simp only [List.length_nil]
        clear ho2 hb2 hv ha hr1 hT1 hJ1 hb1
        go_wp2_with fail
        refine (cloneLk_any A c l _ hn hr2).mono ?_
        rintro e w3 ⟨A3, c3, rfl, ho3, hb4⟩
        have hr3 := hr2.step hb4
        have hJ3 := hJ2.step hb4
        have hb5 := below_then hb3 hb4 hb3.size
        have ho3' := own_base ho3 hb3.size
        clear ho3 hb3 hb4 hr2 hJ2
        go_wp2_with fail
        refine (lockAt_any A c l who node _ hn hr3).mono ?_
        rintro e w4 ⟨rfl, hb6⟩
        have hr4 := hr3.step hb6
        have hJ4 := hJ3.step hb6
        have ho4 := own_below ho3' hb6 (Nat.le_refl _)
        have hb7 := below_then hb5 hb6 hb5.size
        clear ho3' hb5 hb6 hr3 hJ3
        rcases lockIdx_cases l who node with ⟨h1, _, hm⟩ | ⟨k, x, h1, hx, hat, _, hm⟩
        · have HG : Hid (grant l who node mode = l ++ [⟨who, node, mode⟩]) := grant_miss hm
          rw [h1]
          clear h1 hm
          go_wp2_with (at_builtin; refine wpList_push_lk rfl _ _ rfl ⟨who, node, mode⟩ rfl (ho4.alloc _) rfl (heap_alloc_new w4 _) (by omega) (by simp; have := hb7.size; omega) ?_; intro A' c' w' ho' hb' _)
          have hb8 := (hb7.alloc hb7.size (.cells #[.int .i64 who, .int .i64 node, .int .i64 mode] 36)).trans hb'
          clear ho4 hb7 hb'
          go_wp2
          go_ret2
          rw [HG.out]
          exact PTake.some_ (by simp) ho' hb8
        · have HG : Hid (grant l who node mode = l.set k ⟨x.who, x.node, join x.mode mode⟩) := grant_hit hx hat hm
          have hk := (List.getElem?_eq_some_iff.1 hx).1
          rw [h1]
          have HXM := Lib.hid ((HLO.out x (List.mem_of_getElem? hx)).mode)
          obtain ⟨g, rfl, hg1, hg2, _⟩ := own_addr ho4 (by omega)
          have hd2 := own_at ho4 (flat_get lkC 3 (fun _ => rfl) l k 2 _ hx (by omega))
          have hf2 := own_frozen ho4 (k * 3 + 2)
          have ho5 := own_set ho4 (.int .i64 (join x.mode mode)) (j := k * 3 + 2)
          rw [lks_set_mode hx] at ho5
          obtain ⟨b, off, y, rfl, hbl2, hy, hc1, hc2, hc3⟩ := hr4.lk hk
          obtain rfl : x = y := Option.some.inj (hx.symm.trans hy)
          have hb8 := hb7.setCell (p := ⟨g, k * 3 + 2, none⟩) hg1 (.int .i64 (join x.mode mode))
          clear h1 hm hx hy hat ho4 hb7
          go_wp2_with fail
          refine (joinModes_any HXM.out HMO.out _ hJ4).mono ?_
          rintro e w5 ⟨rfl, rfl⟩
          clear hJ4
          go_wp2
          go_ret2
          rw [HG.out]
          exact PTake.some_ (by simp) ho5 hb8

theorem sgrant_any (A : Option Addr) (c : Nat) (l : List Lk) (who node mode : Int) (w : World) (hn : l.length ≤ 100000) (hlo : ∀ x ∈ l, okL x) (hmo : okM mode) (hr : Rd w w.heap.size 3 A l.length (lks l)) :
    Calls Tryd.prog 41 #[.slice A l.length c, .int .i64 who, .int .i64 node, .int .i64 mode] w (PLks w (grant l who node mode)) := by
  have hb0 := (Below.refl w.heap.size w).alloc (Nat.le_refl _) (.cells #[] 36)
  have hr1 := hr.below hb0
  have hown := own_lit0 w 36 3 (Nat.le_refl _)
  have HLO := Lib.hid hlo
  have HMO := Lib.hid hmo
  clear hr hlo hmo
  go_enter Tryd.func41, Tryd.ntmps41
  go_wp2_with (at_builtin; refine wpList_join_lk (xs := []) rfl _ _ rfl rfl hown rfl hr1 (by omega) (by simp) ?_; intro A' c' w1 _ ho' hb' _)
  have hb1 := hb0.trans hb'
  simp only [Nat.zero_add, List.nil_append] at ho' ⊢
  clear hb0 hb' hr1 hown
  go_wp2
  go_loopg [10] l.length (fun gk s10 wr => ∃ k : Nat, k ≤ l.length ∧ gk = l.length - k ∧ s10 = .int .i64 k ∧ Hid (∀ x ∈ l.take k, at_ who node x = false) ∧ w1 = wr)
  case atStart => exact ⟨0, Nat.zero_le _, rfl, rfl, (show ∀ x ∈ l.take 0, at_ who node x = false by simp), rfl⟩
  case round =>
    obtain ⟨k, hk, rfl, rfl, HM, rfl⟩ := hrel
    by_cases hlt : k < l.length
    · obtain ⟨g, rfl, hg1, hg2, _⟩ := own_addr ho' (by omega)
      obtain ⟨x, hx⟩ : ∃ x, l[k]? = some x := ⟨_, List.getElem?_eq_getElem hlt⟩
      have hd0 := own_at ho' (flat_get lkC 3 (fun _ => rfl) l k 0 _ hx (by omega))
      have hd1 := own_at ho' (flat_get lkC 3 (fun _ => rfl) l k 1 _ hx (by omega))
      have hd2 := own_at ho' (flat_get lkC 3 (fun _ => rfl) l k 2 _ hx (by omega))
      simp only [Nat.add_zero] at hd0
      have HX := Lib.hid hx
      clear hx
      by_cases h1 : x.who = who
      · have h1' : (x.who == who) = true := by simp [h1]
        by_cases h2 : x.node = node
        · have h2' : (x.node == node) = true := by simp [h2]
          have HG : Hid (grant l who node mode = l.set k ⟨x.who, x.node, join x.mode mode⟩) := grant_hit HX.out (at_iff.2 ⟨h1, h2⟩) HM.out
          have HXM := Lib.hid ((HLO.out x (List.mem_of_getElem? HX.out)).mode)
          have hf2 := own_frozen ho' (k * 3 + 2)
          have ho5 := own_set ho' (.int .i64 (join x.mode mode)) (j := k * 3 + 2)
          rw [lks_set_mode HX.out] at ho5
          have hb8 := hb1.setCell (p := ⟨g, k * 3 + 2, none⟩) hg1 (.int .i64 (join x.mode mode))
          clear h1 h2
          go_wp2_with fail
          refine (sjoined_any HXM.out HMO.out _).mono ?_
          rintro e w5 ⟨rfl, rfl⟩
          go_wp2
          go_ret
          rw [HG.out]
          exact ⟨_, c', ret_slice (by simp), by simpa using ho5, hb8⟩
        · have h2' : (x.node == node) = false := by simp [h2]
          have HA : Hid (at_ who node x = false) := by show _ = _; rw [Bool.eq_false_iff]; intro h; exact h2 (at_iff.1 h).2
          clear h1 h2
          go_wp2
          go_roundg (l.length - (k + 1))
          case measure => omega
          case rel => exact ⟨k + 1, by omega, rfl, by go_num, all_take_succ (p := fun x => at_ who node x = false) HX.out HM.out HA.out, rfl⟩
      · have h1' : (x.who == who) = false := by simp [h1]
        have HA : Hid (at_ who node x = false) := by show _ = _; rw [Bool.eq_false_iff]; intro h; exact h1 (at_iff.1 h).1
        clear h1
        go_wp2
        go_roundg (l.length - (k + 1))
        case measure => omega
        case rel => exact ⟨k + 1, by omega, rfl, by go_num, all_take_succ (p := fun x => at_ who node x = false) HX.out HM.out HA.out, rfl⟩
    · have HG : Hid (grant l who node mode = l ++ [⟨who, node, mode⟩]) := grant_miss (by have := HM.out; rw [take_all hlt] at this; exact this)
      go_wp2_with (at_builtin; refine wpList_push_lk rfl _ _ rfl ⟨who, node, mode⟩ rfl (ho'.alloc _) rfl (heap_alloc_new w1 _) (by omega) (by simp; have := hb1.size; omega) ?_; intro A2 c2 w' ho2 hb2 _)
      have hb8 := (hb1.alloc hb1.size (.cells #[.int .i64 who, .int .i64 node, .int .i64 mode] 36)).trans hb2
      clear hb2
      go_wp2
      go_ret
      rw [HG.out]
      exact ⟨A2, c2, ret_slice (by simp), by simpa using ho2, hb8⟩

theorem grant_len (l : List Lk) (who node mode : Int) : (grant l who node mode).length ≤ l.length + 1 := by
  induction l with
  | nil => simp [grant]
  | cons x r ih =>
    unfold grant
    split
    · simp
    · simp; omega

set_option maxHeartbeats 1000000 in
set_option maxRecDepth 100000 in
theorem stakeLock_any (A : Option Addr) (c : Nat) (l : List Lk) (who node mode : Int) (w : World) (hn : l.length ≤ 100000) (hr : Rd w w.heap.size 3 A l.length (lks l)) :
    Calls Tryd.prog 38 #[.slice A l.length c, .int .i64 who, .int .i64 node, .int .i64 mode] w (PTake w (takeLock l who node mode)) := by
  rw [takeLock_eq]
  cases hv : (validT l && askOk who node mode)
  · have he : (if validT l then (if askOk who node mode then (if (lockBlockers l who node mode).isEmpty then some (grant l who node mode) else none) else none) else none) = none := by
      cases h1 : validT l <;> cases h2 : askOk who node mode <;> simp_all
    rw [he]
    clear he
    go_enter Tryd.func38, Tryd.ntmps38
    go_wp2_with fail
    refine (validAsk_any A c l who node mode _ hn hr).mono ?_
    rintro e w1 ⟨rfl, hb1⟩
    rw [hv]
    go_wp2
    go_ret2
    exact PTake.none_ hb1
  · have hv2 : validT l = true ∧ askOk who node mode = true := by simpa using hv
    have hlo := (validT_iff.1 hv2.1).2.1
    have hmo := (askOk_iff.1 hv2.2).mode
    have HLO := Lib.hid hlo
    have HMO := Lib.hid hmo
    have HHO := Lib.hid (held_ok hlo who node)
    have HWM := Lib.hid (join_ok (held_ok hlo who node) hmo)
    have he : lockBlockers l who node mode = blockersOf l who node (join (held l who node) mode) := by unfold lockBlockers; rw [hv]; rfl
    rw [if_pos hv2.1, if_pos hv2.2, he]
    have hl4 := blockersOf_len l who node (join (held l who node) mode)
    clear hv2 hlo hmo he
    cases hbl : (blockersOf l who node (join (held l who node) mode)).isEmpty
    · simp only [Bool.false_eq_true, if_false]
      have hpos : 0 < (blockersOf l who node (join (held l who node) mode)).length := by
        cases hq : blockersOf l who node (join (held l who node) mode) with
        | nil => rw [hq] at hbl; cases hbl
        | cons a r => simp
      clear hbl
      go_enter Tryd.func38, Tryd.ntmps38
      go_wp2_with fail
      refine (validAsk_any A c l who node mode _ hn hr).mono ?_
      rintro e w1 ⟨rfl, hb1⟩
      rw [hv]
      clear hv
      have hr1 := hr.step hb1
      go_wp2_with fail
      refine (sheld_any A c l who node _ hn hr1).mono ?_
      rintro e w2 ⟨rfl, rfl⟩
      go_wp2_with fail
      refine (sjoined_any HHO.out HMO.out _).mono ?_
      rintro e w2 ⟨rfl, rfl⟩
      go_wp2_with fail
      refine (sblockers_any A c l who node _ _ hn HLO.out HWM.out hr1).mono ?_
      rintro e w2 ⟨A2, c2, rfl, ho2, hb2⟩
      have hb3 := below_then hb1 hb2 hb1.size
      clear ho2 hb2
      go_wp2
      go_ret2
      exact PTake.none_ hb3
    · simp only [if_true]
      have HNIL := Lib.hid (List.isEmpty_iff.1 hbl)
      clear hbl
      go_enter Tryd.func38, Tryd.ntmps38
      go_wp2_with fail
      refine (validAsk_any A c l who node mode _ hn hr).mono ?_
      rintro e w1 ⟨rfl, hb1⟩
      rw [hv]
      clear hv
      have hr1 := hr.step hb1
      go_wp2_with fail
      refine (sheld_any A c l who node _ hn hr1).mono ?_
      rintro e w2 ⟨rfl, rfl⟩
      go_wp2_with fail
      refine (sjoined_any HHO.out HMO.out _).mono ?_
      rintro e w2 ⟨rfl, rfl⟩
      go_wp2_with fail
      refine (sblockers_any A c l who node _ _ hn HLO.out HWM.out hr1).mono ?_
      rintro e w2 ⟨A2, c2, rfl, ho2, hb2⟩
      rw [HNIL.out]
      simp only [List.length_nil]
      have hr2 := hr1.step hb2
      have hb3 := below_then hb1 hb2 hb1.size
      clear ho2 hb2 hr1
      go_wp2_with fail
      refine (sgrant_any A c l who node mode _ hn HLO.out HMO.out hr2).mono ?_
      rintro e w3 ⟨A3, c3, rfl, ho3, hb4⟩
      have hb5 := below_then hb3 hb4 hb3.size
      have ho5 := own_base ho3 hb3.size
      clear ho3 hb4
      go_wp2
      go_ret2
      exact PTake.some_ rfl ho5 hb5
end Go.Proofs.YthkkbcbbinojlaaDoor
