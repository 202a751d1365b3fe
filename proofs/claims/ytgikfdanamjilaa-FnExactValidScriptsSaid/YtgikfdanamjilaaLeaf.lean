/- Contracts of the small functions that only read: within, inRange, isIn, equalInts, placeOf, slices.Index, slices.Contains. -/
import Derived.Test.YtgikfdanamjilaaBase
namespace Go.Proofs.Ytgikfdanamjilaa
open Go.RowKit

theorem within_any (x a b : Int) (w : World) : Calls Try.prog 18 #[.int .i64 x, .int .i64 a, .int .i64 b] w fun e w' => e = .returned (.bool (decide (a ≤ x ∧ x ≤ b))) ∧ w = w' := by
  go_enter Try.func18, Try.ntmps18
  go_wp2
  all_goals go_ret
  · exact ⟨by simp [*], rfl⟩
  · exact ⟨by simp; omega, rfl⟩
theorem inRange_any (x a b : Int) (w : World) : Calls Try.prog 34 #[.int .i64 x, .int .i64 a, .int .i64 b] w fun e w' => e = .returned (.bool (decide (a ≤ x ∧ x ≤ b))) ∧ w = w' := by
  go_enter Try.func34, Try.ntmps34
  go_wp2
  all_goals go_ret
  · exact ⟨by simp [*], rfl⟩
  · exact ⟨by simp; omega, rfl⟩

theorem take_succ_of {α : Type} {l : List α} {k : Nat} {x : α} (h : l[k]? = some x) : l.take (k + 1) = l.take k ++ [x] := by
  obtain ⟨hk, rfl⟩ := List.getElem?_eq_some_iff.1 h
  exact List.take_succ_eq_append_getElem hk
theorem take_all {α : Type} {l : List α} {k : Nat} (h : ¬ k < l.length) : l.take k = l := List.take_of_length_le (by omega)

/-- A contract of a function that leaves the world alone, in a region whose order is open. -/
theorem quiet_same {f : FuncId} {args : Array Value} {w : World} {n : Nat} {v u : Value} (h : Calls Try.prog f args (w.drewN n) fun e w' => e = .returned v ∧ w.drewN n = w') (hv : v = u) :
    Calls Try.prog f args (w.drewN n) fun e w'' => e = .returned u ∧ ∃ m, w'' = w.drewN m :=
  h.mono fun _ _ ⟨he, hm⟩ => ⟨by rw [he, hv], n, hm.symm⟩
/-- A contract of a function that draws, in a region whose order is open. -/
theorem quiet_draw {f : FuncId} {args : Array Value} {w : World} {n : Nat} {v u : Value} (h : Calls Try.prog f args (w.drewN n) fun e w' => e = .returned v ∧ ∃ m, w' = (w.drewN n).drewN m) (hv : v = u) :
    Calls Try.prog f args (w.drewN n) fun e w'' => e = .returned u ∧ ∃ m, w'' = w.drewN m :=
  h.mono fun _ _ ⟨he, m, hm⟩ => ⟨by rw [he, hv], n + m, by rw [hm]; exact World.drewN_drewN _ _ _⟩
theorem inRange_yes {x a b : Int} {w : World} {n : Nat} (h : a ≤ x ∧ x ≤ b) : Calls Try.prog 34 #[.int .i64 x, .int .i64 a, .int .i64 b] (w.drewN n) fun e w'' => e = .returned (.bool true) ∧ ∃ m, w'' = w.drewN m :=
  quiet_same (inRange_any x a b _) (by simp [h])
theorem inRange_no {x a b : Int} {w : World} {n : Nat} (h : ¬ (a ≤ x ∧ x ≤ b)) : Calls Try.prog 34 #[.int .i64 x, .int .i64 a, .int .i64 b] (w.drewN n) fun e w'' => e = .returned (.bool false) ∧ ∃ m, w'' = w.drewN m :=
  quiet_same (inRange_any x a b _) (by simp only [Value.bool.injEq]; simpa using h)
end Go.Proofs.Ytgikfdanamjilaa
