import Derived.Test.YtgofokifcplmoaaDoorPTable2
import Derived.Test.YtgofokifcplmoaaDoorPTree3
/- Plain facts on the locks along a path. No program here. -/
namespace Tl

def need (m : Int) : Int := if m = 1 ∨ m = 3 then 1 else if m = 2 ∨ m = 4 ∨ m = 5 then 2 else 0
theorem need_ok {m : Int} (h : 1 ≤ m ∧ m ≤ 5) : need m = 1 ∨ need m = 2 := by
  have : m = 1 ∨ m = 2 ∨ m = 3 ∨ m = 4 ∨ m = 5 := by omega
  rcases this with rfl | rfl | rfl | rfl | rfl <;> decide
def downTo (t : List Nd) (who mode i : Int) : List Lk := (path t i).map fun a => ⟨who, a, need mode⟩
/-- The locks for a lock on a node. -/
def locksF (t : List Nd) (who node mode : Int) : List Lk := (path t node).dropLast.map (fun a => (⟨who, a, need mode⟩ : Lk)) ++ [⟨who, node, mode⟩]
def inT (t : List Nd) (i : Int) : Bool := decide (0 ≤ i ∧ i < t.length)
noncomputable def locksFor (t : List Nd) (who node mode : Int) : List Lk := if validN t && inT t node && askOk who node mode then locksF t who node mode else []

theorem locksF_length (t : List Nd) (hg : Grows t) (who mode : Int) {node : Int} (h0 : 0 ≤ node) : (locksF t who node mode).length = (path t node).length := by
  have hne := path_ne_nil hg h0
  unfold locksF
  rw [List.length_append, List.length_map, List.length_dropLast]
  have := List.length_pos_iff.mpr hne
  simp
  omega
theorem locksF_zero (t : List Nd) (hg : Grows t) (who mode : Int) : locksF t who 0 mode = [⟨who, 0, mode⟩] := by
  unfold locksF; rw [path_zero hg]; rfl
theorem locksF_step (t : List Nd) (hg : Grows t) (who mode : Int) {node : Int} (h0 : 0 ≤ node) : locksF t who node mode = (path t (par t node)).map (fun a => (⟨who, a, need mode⟩ : Lk)) ++ [⟨who, node, mode⟩] := by
  unfold locksF
  rw [path_step hg h0, List.dropLast_concat]
/-- All but the last lock of the parent's are among them. -/
theorem locksF_below (t : List Nd) (hg : Grows t) (who mode : Int) {node : Int} (h0 : 0 ≤ node) (hp : 0 ≤ par t node) :
    (locksF t who node mode).length = (locksF t who (par t node) mode).length + 1 ∧ (locksF t who node mode).take ((locksF t who (par t node) mode).length - 1) = (locksF t who (par t node) mode).take ((locksF t who (par t node) mode).length - 1) := by
  have h1 := locksF_length t hg who mode hp
  have h2 := locksF_length t hg who mode h0
  have hs := path_step hg h0
  have hlen : (path t node).length = (path t (par t node)).length + 1 := by rw [hs]; simp
  refine ⟨by omega, ?_⟩
  rw [locksF_step t hg who mode h0, h1]
  have e1 := locksF_step t hg who mode hp
  have hq : (path t (par t node)) = (path t (par t node)).dropLast ++ [par t node] := by
    rw [path_step hg hp, List.dropLast_concat]
  have hl : (path t (par t node)).length - 1 = (path t (par t node)).dropLast.length := by rw [List.length_dropLast]
  rw [hl, List.take_append_of_le_length (by rw [List.length_map, List.length_dropLast]; omega), ← List.map_take]
  have h3 : (path t (par t node)).take (path t (par t node)).dropLast.length = (path t (par t node)).dropLast := by
    rw [List.length_dropLast, ← List.dropLast_eq_take]
  rw [h3]
  unfold locksF
  rw [List.take_append_of_le_length (by rw [List.length_map]; exact Nat.le_refl _), List.take_of_length_le (by rw [List.length_map]; exact Nat.le_refl _)]
end Tl
