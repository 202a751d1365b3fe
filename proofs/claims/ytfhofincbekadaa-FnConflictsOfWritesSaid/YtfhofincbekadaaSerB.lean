/- Contracts: isBehind, behindOf. -/
import Derived.Test.YtfhofincbekadaaSerA
import Derived.Test.YtfhofincbekadaaMask
import Derived.Deep.RegionHeld3
namespace Go.Proofs.Ytfhofincbekadaa
open Go.RowKit
open Tl (Ac okA validA validA_iff clash must takes clashes T4 mem_T4)

theorem T4_at {k : Nat} (hk : k < 4) : T4[k]? = some (k : Int) := by
  have hkk : k = 0 ∨ k = 1 ∨ k = 2 ∨ k = 3 := by omega
  rcases hkk with rfl | rfl | rfl | rfl <;> rfl
theorem T4_take_succ {k : Nat} (hk : k < 4) : T4.take (k + 1) = T4.take k ++ [(k : Int)] := take_succ_of (T4_at hk)

theorem isBehind_any (M : Int → Int → Bool) (S : Int → Bool) (who : Int) (w : World) (h0 : 0 ≤ who) (h3 : who ≤ 3) :
    Calls Try.prog 50 #[.agg #[.int .i64 (maskI (M 0)), .int .i64 (maskI (M 1)), .int .i64 (maskI (M 2)), .int .i64 (maskI (M 3))], .int .i64 (maskI S), .int .i64 who] w (PBool w (T4.any fun a => S a && M a who)) := by
  go_enter Try.func50, Try.ntmps50
  go_wp2
  go_loopg [8] 4 (fun gk i wr => ∃ k : Nat, k ≤ 4 ∧ gk = 4 - k ∧ i = .int .i64 k ∧ Hid (((T4.take k).any fun a => S a && M a who) = false) ∧ Sets wr w.heap.size M ∧ Below w.heap.size w wr)
  case atStart => exact ⟨0, by omega, rfl, rfl, rfl, heap_alloc_new w _, (Below.refl _ _).alloc (Nat.le_refl _) _⟩
  case round =>
    obtain ⟨k, hk, rfl, rfl, HN, hst, hb⟩ := hrel
    by_cases hlt : k < 4
    · have hc := hst.cellN hlt
      have hs1 := mask_and_nat (S := S) hlt
      have hs2 := mask_and (S := M k) h0 h3
      cases hS : S (k : Int)
      · rw [hS] at hs1
        have HN2 : Hid (((T4.take (k + 1)).any fun a => S a && M a who) = false) := by show _ = _; rw [T4_take_succ hlt, List.any_append, HN.out]; simp [hS]
        clear hS
        go_wp2
        go_quiet (fail)
        go_wp2
        go_roundg (4 - (k + 1))
        case measure => omega
        case rel => exact ⟨k + 1, by omega, rfl, by go_num, HN2, hst.drewN _, below_drewN hb _⟩
      · rw [hS] at hs1
        cases hM : M (k : Int) who
        · rw [hM] at hs2
          have HN2 : Hid (((T4.take (k + 1)).any fun a => S a && M a who) = false) := by show _ = _; rw [T4_take_succ hlt, List.any_append, HN.out]; simp [hM]
          clear hS hM
          go_wp2
          go_quiet (fail)
          go_wp2
          go_roundg (4 - (k + 1))
          case measure => omega
          case rel => exact ⟨k + 1, by omega, rfl, by go_num, HN2, hst.drewN _, below_drewN hb _⟩
        · rw [hM] at hs2
          have HY : Hid ((T4.any fun a => S a && M a who) = true) := by
            show _ = _
            rw [List.any_eq_true]
            exact ⟨(k : Int), mem_T4.2 (by omega), by simp [hS, hM]⟩
          clear hS hM
          go_wp2
          go_quiet (fail)
          go_wp2
          go_ret
          exact ⟨ret_bool HY.out.symm, below_drewN hb _⟩
    · have HY : Hid ((T4.any fun a => S a && M a who) = false) := by
        have := HN.out
        rwa [List.take_of_length_le (by simp [T4]; omega)] at this
      go_wp2
      go_ret
      exact ⟨ret_bool HY.out.symm, hb⟩

/-- The pairs in conflict among the places before (j, k): first at a place before k with the second one at j, or both before. -/
def mustTo (xs : List Ac) (j k : Nat) (a b : Int) : Prop := a ≠ b ∧ ∃ (i l : Nat) (x y : Ac), i < l ∧ (l < j ∨ (l = j ∧ i < k)) ∧ xs[i]? = some x ∧ xs[l]? = some y ∧ clash x y a b
def SetsOf (xs : List Ac) (j k : Nat) (M : Int → Int → Bool) : Prop := ∀ a b : Int, 0 ≤ b → b ≤ 3 → (M a b = true ↔ mustTo xs j k a b)

theorem SetsOf.start (xs : List Ac) : SetsOf xs 0 0 (fun _ _ => false) := fun a b _ _ => by
  simp only [Bool.false_eq_true, false_iff]
  rintro ⟨_, i, l, x, y, h1, h2, _⟩
  omega
theorem SetsOf.row {xs : List Ac} {j : Nat} {M : Int → Int → Bool} (h : SetsOf xs j j M) : SetsOf xs (j + 1) 0 M := fun a b h0 h3 => by
  rw [h a b h0 h3]
  constructor
  · rintro ⟨hne, i, l, x, y, h1, h2, r⟩
    exact ⟨hne, i, l, x, y, h1, by omega, r⟩
  · rintro ⟨hne, i, l, x, y, h1, h2, r⟩
    exact ⟨hne, i, l, x, y, h1, by omega, r⟩
theorem SetsOf.skip {xs : List Ac} {j k : Nat} {M : Int → Int → Bool} (h : SetsOf xs j k M) {x y : Ac} (hx : xs[k]? = some x) (hy : xs[j]? = some y) (hn : ¬ (x.who ≠ y.who ∧ x.node = y.node ∧ (x.write = true ∨ y.write = true))) : SetsOf xs j (k + 1) M := fun a b h0 h3 => by
  rw [h a b h0 h3]
  constructor
  · rintro ⟨hne, i, l, x', y', h1, h2, r⟩
    exact ⟨hne, i, l, x', y', h1, by omega, r⟩
  · rintro ⟨hne, i, l, x', y', h1, h2, hx', hy', hc⟩
    by_cases e : l = j ∧ i = k
    · obtain ⟨rfl, rfl⟩ := e
      have e1 := Option.some.inj (hx.symm.trans hx')
      have e2 := Option.some.inj (hy.symm.trans hy')
      subst e1 e2
      unfold clash at hc
      exact absurd ⟨by rw [hc.1, hc.2.1]; exact hne, hc.2.2⟩ hn
    · exact ⟨hne, i, l, x', y', h1, by omega, hx', hy', hc⟩
theorem SetsOf.add {xs : List Ac} {j k : Nat} {M : Int → Int → Bool} (h : SetsOf xs j k M) (hkj : k < j) {x y : Ac} (hx : xs[k]? = some x) (hy : xs[j]? = some y) (hn : x.who ≠ y.who ∧ x.node = y.node ∧ (x.write = true ∨ y.write = true)) :
    SetsOf xs j (k + 1) (fun a u => if a = x.who then (decide (u = y.who) || M x.who u) else M a u) := fun a b h0 h3 => by
  dsimp only
  by_cases ha : a = x.who
  · subst ha
    rw [if_pos rfl, Bool.or_eq_true, decide_eq_true_eq, h x.who b h0 h3]
    constructor
    · rintro (rfl | ⟨hne, i, l, x', y', h1, h2, r⟩)
      · exact ⟨hn.1, k, j, x, y, hkj, by omega, hx, hy, by unfold clash; exact ⟨rfl, rfl, hn.2⟩⟩
      · exact ⟨hne, i, l, x', y', h1, by omega, r⟩
    · rintro ⟨hne, i, l, x', y', h1, h2, hx', hy', hc⟩
      by_cases e : l = j ∧ i = k
      · obtain ⟨rfl, rfl⟩ := e
        have e2 := Option.some.inj (hy.symm.trans hy')
        subst e2
        unfold clash at hc
        exact .inl hc.2.1.symm
      · exact .inr ⟨hne, i, l, x', y', h1, by omega, hx', hy', hc⟩
  · rw [if_neg ha, h a b h0 h3]
    constructor
    · rintro ⟨hne, i, l, x', y', h1, h2, r⟩
      exact ⟨hne, i, l, x', y', h1, by omega, r⟩
    · rintro ⟨hne, i, l, x', y', h1, h2, hx', hy', hc⟩
      by_cases e : l = j ∧ i = k
      · obtain ⟨rfl, rfl⟩ := e
        have e1 := Option.some.inj (hx.symm.trans hx')
        subst e1
        unfold clash at hc
        exact absurd hc.1.symm ha
      · exact ⟨hne, i, l, x', y', h1, by omega, hx', hy', hc⟩
theorem SetsOf.end_ {xs : List Ac} {j : Nat} {M : Int → Int → Bool} (h : SetsOf xs j 0 M) (hj : xs.length ≤ j) : ∀ a b : Int, 0 ≤ b → b ≤ 3 → M a b = must xs a b := fun a b h0 h3 => by
  rw [Bool.eq_iff_iff, h a b h0 h3, Tl.must_iff]
  constructor
  · rintro ⟨hne, i, l, x, y, h1, _, r⟩
    exact ⟨hne, i, l, x, y, h1, r⟩
  · rintro ⟨hne, i, l, x, y, h1, hx, hy, hc⟩
    have := (List.getElem?_eq_some_iff.1 hy).1
    exact ⟨hne, i, l, x, y, h1, by omega, hx, hy, hc⟩
end Go.Proofs.Ytfhofincbekadaa
