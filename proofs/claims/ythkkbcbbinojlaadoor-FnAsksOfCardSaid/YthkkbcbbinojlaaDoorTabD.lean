/- Contracts: lockAt, heldIn, HeldMode; spec.held, spec.HeldMode. -/
import Derived.Test.YthkkbcbbinojlaaDoorTabC
namespace Go.Proofs.YthkkbcbbinojlaaDoor
open Go.RowKit
open Tl (Lk okM okL validT validT_iff at_ at_iff held)

/-- The place of the lock of a transaction on a node, -1 if there is none. -/
def lockIdx (l : List Lk) (who node : Int) : Int := match l.findIdx? (at_ who node) with | some k => k | none => -1
theorem lockIdx_hit {l : List Lk} {who node : Int} {k : Nat} {x : Lk} (hx : l[k]? = some x) (ha : at_ who node x = true) (hm : ∀ y ∈ l.take k, at_ who node y = false) : lockIdx l who node = k := by
  have hf : l.findIdx? (at_ who node) = some k := by
    rw [List.findIdx?_eq_some_iff_getElem]
    obtain ⟨h1, h2⟩ := List.getElem?_eq_some_iff.1 hx
    refine ⟨h1, by rw [h2]; exact ha, ?_⟩
    intro j hj
    have := hm l[j] (List.mem_iff_getElem?.2 ⟨j, by rw [List.getElem?_take, if_pos hj, List.getElem?_eq_getElem (by omega)]⟩)
    rw [this]; decide
  simp [lockIdx, hf]
theorem lockIdx_miss {l : List Lk} {who node : Int} (hm : ∀ y ∈ l, at_ who node y = false) : lockIdx l who node = -1 := by
  have hf : l.findIdx? (at_ who node) = none := by
    rw [List.findIdx?_eq_none_iff]
    exact hm
  simp [lockIdx, hf]
theorem held_hit {l : List Lk} {who node : Int} {k : Nat} {x : Lk} (hx : l[k]? = some x) (ha : at_ who node x = true) (hm : ∀ y ∈ l.take k, at_ who node y = false) : held l who node = x.mode := by
  have hf : l.find? (at_ who node) = some x := by
    obtain ⟨h1, h2⟩ := List.getElem?_eq_some_iff.1 hx
    rw [List.find?_eq_some_iff_append]
    refine ⟨ha, l.take k, l.drop (k + 1), ?_, ?_⟩
    · rw [← h2, ← List.drop_eq_getElem_cons h1, List.take_append_drop]
    · intro y hy
      simp [hm y hy]
  exact Tl.held_of_find hf
theorem held_miss {l : List Lk} {who node : Int} (hm : ∀ y ∈ l, at_ who node y = false) : held l who node = 0 := by
  have hf : l.find? (at_ who node) = none := by
    rw [List.find?_eq_none]
    intro y hy
    simp [hm y hy]
  simp [held, hf]
theorem lockIdx_cases (l : List Lk) (who node : Int) : (lockIdx l who node = -1 ∧ held l who node = 0 ∧ ∀ y ∈ l, at_ who node y = false) ∨
    ∃ (k : Nat) (x : Lk), lockIdx l who node = k ∧ l[k]? = some x ∧ at_ who node x = true ∧ held l who node = x.mode ∧ ∀ y ∈ l.take k, at_ who node y = false := by
  cases hf : l.findIdx? (at_ who node) with
  | none =>
    rw [List.findIdx?_eq_none_iff] at hf
    exact .inl ⟨lockIdx_miss hf, held_miss hf, hf⟩
  | some k =>
    rw [List.findIdx?_eq_some_iff_getElem] at hf
    obtain ⟨h1, h2, h3⟩ := hf
    have hm : ∀ y ∈ l.take k, at_ who node y = false := by
      intro y hy
      obtain ⟨j, hj⟩ := List.mem_iff_getElem?.1 hy
      rw [List.getElem?_take] at hj
      split at hj
      · rename_i hjk
        obtain ⟨h4, h5⟩ := List.getElem?_eq_some_iff.1 hj
        have := h3 j hjk
        rw [h5] at this
        simpa using this
      · cases hj
    have hx := List.getElem?_eq_getElem h1
    exact .inr ⟨k, l[k], lockIdx_hit hx h2 hm, hx, h2, held_hit hx h2 hm, hm⟩

theorem lockPred_any (x : Lk) (who node : Int) (B C : Nat) (w : World) (hB : B < w.heap.size) (hC : C < w.heap.size) (hc : w.cell? ⟨B, 0, none⟩ = some (.int .i64 who)) (hd : w.cell? ⟨C, 0, none⟩ = some (.int .i64 node)) :
    Calls Tryd.prog 40 #[.agg #[.int .i64 x.who, .int .i64 x.node, .int .i64 x.mode], .pointer (some ⟨B, 0, none⟩), .pointer (some ⟨C, 0, none⟩)] w (PBool w (at_ who node x)) := by
  have hb := (Below.refl w.heap.size w).alloc (Nat.le_refl _) (.cells #[.int .i64 x.who, .int .i64 x.node, .int .i64 x.mode] 36)
  by_cases h1 : x.who = who
  · have h1' : (x.who == who) = true := by simp [h1]
    by_cases h2 : x.node = node
    · have h2' : (x.node == node) = true := by simp [h2]
      have hh : at_ who node x = true := at_iff.2 ⟨h1, h2⟩
      rw [hh]
      clear h1 h2 hh
      go_enter Tryd.func40, Tryd.ntmps40
      go_wp2
      go_ret
      exact ⟨rfl, hb⟩
    · have h2' : (x.node == node) = false := by simp [h2]
      have hh : at_ who node x = false := by rw [Bool.eq_false_iff]; intro h; exact h2 (at_iff.1 h).2
      rw [hh]
      clear h1 h2 hh
      go_enter Tryd.func40, Tryd.ntmps40
      go_wp2
      go_ret
      exact ⟨rfl, hb⟩
  · have h1' : (x.who == who) = false := by simp [h1]
    have hh : at_ who node x = false := by rw [Bool.eq_false_iff]; intro h; exact h1 (at_iff.1 h).1
    rw [hh]
    clear h1 hh
    go_enter Tryd.func40, Tryd.ntmps40
    go_wp2
    go_ret
    exact ⟨rfl, hb⟩

def PInt (w : World) (r : Int) (e : Ending) (w' : World) : Prop := e = .returned (.int .i64 r) ∧ Below w.heap.size w w'
theorem lockIdxFunc_any (A : Option Addr) (c : Nat) (l : List Lk) (who node : Int) (B C : Nat) (w : World) (hn : l.length ≤ 100000) (hr : Rd w w.heap.size 3 A l.length (lks l)) (hB : B < w.heap.size) (hC : C < w.heap.size)
    (hc : w.cell? ⟨B, 0, none⟩ = some (.int .i64 who)) (hd : w.cell? ⟨C, 0, none⟩ = some (.int .i64 node)) :
    Calls Tryd.prog 39 #[.slice A l.length c, .func (.func 40) #[] #[.pointer (some ⟨B, 0, none⟩), .pointer (some ⟨C, 0, none⟩)]] w (PInt w (lockIdx l who node)) := by
  go_enter Tryd.func39, Tryd.ntmps39
  go_wp2
  go_loopg [5, 8] l.length (fun gk _ s8 wr => ∃ k : Nat, k ≤ l.length ∧ gk = l.length - k ∧ s8 = .int .i64 k ∧ Hid (∀ x ∈ l.take k, at_ who node x = false) ∧ Below w.heap.size w wr)
  case atStart => exact ⟨0, Nat.zero_le _, rfl, rfl, (show ∀ x ∈ l.take 0, at_ who node x = false by simp), Below.refl _ _⟩
  case round =>
    obtain ⟨k, hk, rfl, rfl, HM, hb⟩ := hrel
    by_cases hlt : k < l.length
    · obtain ⟨b, off, x, rfl, _, hx, hc1, hc2, hc3⟩ := (hr.below hb).lk hlt
      have hcw : wr.cell? ⟨B, 0, none⟩ = some (.int .i64 who) := (hb.cell (p := ⟨B, 0, none⟩) hB).trans hc
      have hdw : wr.cell? ⟨C, 0, none⟩ = some (.int .i64 node) := (hb.cell (p := ⟨C, 0, none⟩) hC).trans hd
      have hBw : B < wr.heap.size := Nat.lt_of_lt_of_le hB hb.size
      have hCw : C < wr.heap.size := Nat.lt_of_lt_of_le hC hb.size
      have HX := Lib.hid hx
      clear hr hx
      go_wp2_with fail
      refine (lockPred_any x who node B C _ hBw hCw hcw hdw).mono ?_
      rintro e w1 ⟨rfl, hb1⟩
      have hb2 := hb.trans (hb1.mono hb.size)
      cases hh : at_ who node x
      · have HH := Lib.hid hh
        clear hh hc1 hc2 hc3 hcw hdw
        go_wp2
        go_roundg (l.length - (k + 1))
        case measure => omega
        case rel => exact ⟨k + 1, by omega, rfl, by go_num, all_take_succ (p := fun x => at_ who node x = false) HX.out HM.out HH.out, hb2⟩
      · have HH := Lib.hid (lockIdx_hit HX.out hh HM.out)
        clear hh hc1 hc2 hc3 hcw hdw
        go_wp2
        go_ret
        exact ⟨ret_int HH.out.symm, hb2⟩
    · have HH := Lib.hid (lockIdx_miss (l := l) (who := who) (node := node) (by have := HM.out; rw [take_all hlt] at this; exact this))
      go_wp2
      go_ret
      exact ⟨ret_int HH.out.symm, hb⟩

theorem lockAt_any (A : Option Addr) (c : Nat) (l : List Lk) (who node : Int) (w : World) (hn : l.length ≤ 100000) (hr : Rd w w.heap.size 3 A l.length (lks l)) :
    Calls Tryd.prog 37 #[.slice A l.length c, .int .i64 who, .int .i64 node] w (PInt w (lockIdx l who node)) := by
  have hb0 := (((Below.refl w.heap.size w).alloc (Nat.le_refl _) (.cells #[.int .i64 who] 3)).alloc (by simp) (.cells #[.int .i64 node] 3))
  have hr0 := (hr.below hb0).more hb0.size
  have hB : w.heap.size < ((w.alloc (.cells #[.int .i64 who] 3)).alloc (.cells #[.int .i64 node] 3)).heap.size := by simp; omega
  have hC : w.heap.size + 1 < ((w.alloc (.cells #[.int .i64 who] 3)).alloc (.cells #[.int .i64 node] 3)).heap.size := by simp
  have hc : ((w.alloc (.cells #[.int .i64 who] 3)).alloc (.cells #[.int .i64 node] 3)).cell? ⟨w.heap.size, 0, none⟩ = some (.int .i64 who) := by
    rw [World.cell?_alloc_lt _ _ ⟨w.heap.size, 0, none⟩ (by simp)]
    simp
  have hd : ((w.alloc (.cells #[.int .i64 who] 3)).alloc (.cells #[.int .i64 node] 3)).cell? ⟨w.heap.size + 1, 0, none⟩ = some (.int .i64 node) := by
    simp
  have hcon := lockIdxFunc_any A c l who node w.heap.size (w.heap.size + 1) _ hn hr0 hB hC hc hd
  have HC := Lib.hid hcon
  have HB := Lib.hid hb0
  clear hcon hb0 hr0 hB hC hc hd hr
  go_enter Tryd.func37, Tryd.ntmps37
  go_wp2_with fail
  refine HC.out.mono ?_
  rintro e w1 ⟨rfl, hb1⟩
  have hb2 := HB.out.trans (hb1.mono HB.out.size)
  go_wp2
  go_ret
  exact ⟨rfl, hb2⟩

theorem heldIn_any (A : Option Addr) (c : Nat) (l : List Lk) (who node : Int) (w : World) (hn : l.length ≤ 100000) (hr : Rd w w.heap.size 3 A l.length (lks l)) :
    Calls Tryd.prog 26 #[.slice A l.length c, .int .i64 who, .int .i64 node] w (PInt w (held l who node)) := by
  go_enter Tryd.func26, Tryd.ntmps26
  go_wp2_with fail
  refine (lockAt_any A c l who node _ hn hr).mono ?_
  rintro e w1 ⟨rfl, hb1⟩
  rcases lockIdx_cases l who node with ⟨h1, h2, _⟩ | ⟨k, x, h1, hx, _, h2, _⟩
  · rw [h1]
    have H2 := Lib.hid h2
    clear h1 h2
    go_wp2
    go_ret
    exact ⟨ret_int H2.out.symm, hb1⟩
  · rw [h1]
    have H2 := Lib.hid h2
    have hk := (List.getElem?_eq_some_iff.1 hx).1
    obtain ⟨b, off, y, rfl, _, hy, hc1, hc2, hc3⟩ := (hr.below hb1).lk hk
    obtain rfl : x = y := Option.some.inj (hx.symm.trans hy)
    clear h1 h2 hx hy
    go_wp2
    go_ret
    exact ⟨ret_int H2.out.symm, hb1⟩

def heldM (l : List Lk) (who node : Int) : Int := if validT l then held l who node else -1
theorem sheld_any (A : Option Addr) (c : Nat) (l : List Lk) (who node : Int) (w : World) {B : Nat} (hn : l.length ≤ 100000) (hr : Rd w B 3 A l.length (lks l)) :
    Calls Tryd.prog 36 #[.slice A l.length c, .int .i64 who, .int .i64 node] w fun e w' => e = .returned (.int .i64 (held l who node)) ∧ w = w' := by
  go_enter Tryd.func36, Tryd.ntmps36
  go_wp2
  go_loopg [7] l.length (fun gk s7 wr => ∃ k : Nat, k ≤ l.length ∧ gk = l.length - k ∧ s7 = .int .i64 k ∧ Hid (∀ x ∈ l.take k, at_ who node x = false) ∧ w = wr)
  case atStart => exact ⟨0, Nat.zero_le _, rfl, rfl, (show ∀ x ∈ l.take 0, at_ who node x = false by simp), rfl⟩
  case round =>
    obtain ⟨k, hk, rfl, rfl, HM, rfl⟩ := hrel
    by_cases hlt : k < l.length
    · obtain ⟨b, off, x, rfl, _, hx, hc1, hc2, hc3⟩ := hr.lk hlt
      have HX := Lib.hid hx
      clear hr hx
      by_cases h1 : x.who = who
      · have h1' : (x.who == who) = true := by simp [h1]
        by_cases h2 : x.node = node
        · have h2' : (x.node == node) = true := by simp [h2]
          have HH := Lib.hid (held_hit HX.out (at_iff.2 ⟨h1, h2⟩) HM.out)
          clear h1 h2
          go_wp2
          go_ret
          exact ⟨ret_int HH.out.symm, rfl⟩
        · have h2' : (x.node == node) = false := by simp [h2]
          have HA : Hid (at_ who node x = false) := by show _ = _; rw [Bool.eq_false_iff]; intro h; exact h2 (at_iff.1 h).2
          clear h1 h2
          go_wp2
          go_roundg (l.length - (k + 1))
          case measure => omega
          case rel => exact ⟨k + 1, by omega, rfl, by go_num, all_take_succ (p := fun x => at_ who node x = false) HX.out HM.out HA.out, rfl⟩
      · have h1' : (x.who == who) = false := by simp [h1]
        have HA : Hid (at_ who node x = false) := by show _ = _; rw [Bool.eq_false_iff]; intro h; exact h1 (at_iff.1 h).1
        clear h1
        go_wp2
        go_roundg (l.length - (k + 1))
        case measure => omega
        case rel => exact ⟨k + 1, by omega, rfl, by go_num, all_take_succ (p := fun x => at_ who node x = false) HX.out HM.out HA.out, rfl⟩
    · have HH := Lib.hid (held_miss (l := l) (who := who) (node := node) (by have := HM.out; rw [take_all hlt] at this; exact this))
      go_wp2
      go_ret
      exact ⟨ret_int HH.out.symm, rfl⟩
end Go.Proofs.YthkkbcbbinojlaaDoor
