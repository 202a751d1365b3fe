/- Contract: impl.PathText. -/
import Derived.Test.YtgofokifcplmoaaDoorTreI
import Derived.Test.YtgofokifcplmoaaDoorTreF
import Derived.Test.YtgofokifcplmoaaDoorPTree3
namespace Go.Proofs.YtgofokifcplmoaaDoor
open Go.RowKit
set_option maxRecDepth 100000
open Tl (Nd nameOk kid path validN validN_iff nodeOk nodesOk ValidN Grows pathText nameOf)

/-- What PathText answers. -/
noncomputable def textN (t : List Nd) (i : Int) : List UInt8 := if isN t i then pathText t i else []
/-- The text of the nodes of a way. -/
def textOf (t : List Nd) (l : List Int) : List UInt8 := l.flatMap fun n => 47 :: nameOf t n
theorem textOf_snoc (t : List Nd) (l : List Int) (n : Int) : textOf t (l ++ [n]) = textOf t l ++ 47 :: nameOf t n := by simp [textOf]
theorem nameOf_get {t : List Nd} {j : Nat} {x : Nd} (h : t[j]? = some x) : nameOf t (j : Int) = x.name := by simp [nameOf, h]
theorem path_one {t : List Nd} {i : Int} (h : isN t i = true) : (path t i).length = 1 ↔ i = 0 := by
  have hg := isN_grows h
  have h0 := (isN_iff.1 h).1
  constructor
  · intro hl
    obtain ⟨r, hr⟩ := Tl.path_head hg i h0.1 h0.2
    have hm := Tl.self_mem_path hg h0.1
    rw [hr] at hl hm
    have : r = [] := List.eq_nil_of_length_eq_zero (by simpa using hl)
    subst this
    simpa using hm
  · rintro rfl
    rw [Tl.path_zero hg]; rfl
theorem path_nodes {t : List Nd} {i : Int} (h : isN t i = true) {k : Nat} {z : Int} (hz : (path t i)[k]? = some z) : ∃ (j : Nat) (x : Nd), z = j ∧ j < t.length ∧ t[j]? = some x := by
  have h0 := (isN_iff.1 h).1
  have h1 := Tl.mem_path_le (isN_grows h) i h0.1 z (List.mem_of_getElem? hz)
  obtain ⟨j, rfl⟩ := Int.eq_ofNat_of_zero_le h1.1
  have hj : j < t.length := by omega
  exact ⟨j, t[j], rfl, hj, List.getElem?_eq_getElem hj⟩
theorem tail_take_succ {l : List Int} {k : Nat} {z : Int} (h : l[k + 1]? = some z) : l.tail.take (k + 1) = l.tail.take k ++ [z] := by
  refine take_succ_of ?_
  rw [List.getElem?_tail]; exact h

end Go.Proofs.YtgofokifcplmoaaDoor
