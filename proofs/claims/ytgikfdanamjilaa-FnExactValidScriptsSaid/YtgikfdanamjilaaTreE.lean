/- Contracts: isNode, KidOf, reaches / above, IsAbove, of both packages. -/
import Derived.Test.YtgikfdanamjilaaTreD
namespace Go.Proofs.Ytgikfdanamjilaa
open Go.RowKit
set_option maxRecDepth 100000
open Tl (Nd nameOk kid path validN validN_iff nodeOk nodesOk ValidN Grows above above_iff)

/-- Is there a node with this number? -/
def inT (t : List Nd) (i : Int) : Bool := decide (0 ≤ i ∧ i ≤ (t.length : Int) - 1)
theorem inT_iff {t : List Nd} {i : Int} : inT t i = true ↔ 0 ≤ i ∧ i < (t.length : Int) := by simp [inT]; omega
noncomputable def isN (t : List Nd) (i : Int) : Bool := inT t i && validN t
theorem isN_iff {t : List Nd} {i : Int} : isN t i = true ↔ (0 ≤ i ∧ i < (t.length : Int)) ∧ validN t = true := by simp [isN, inT_iff]
theorem isN_nat {t : List Nd} {i : Int} (h : isN t i = true) : ∃ k : Nat, i = k ∧ k < t.length := by
  have h1 := (isN_iff.1 h).1
  obtain ⟨k, rfl⟩ := Int.eq_ofNat_of_zero_le h1.1
  exact ⟨k, rfl, by omega⟩
theorem isN_grows {t : List Nd} {i : Int} (h : isN t i = true) : Grows t := (validN_iff.1 (isN_iff.1 h).2).grows

def PIn (w : World) (r : Int) (e : Ending) (w' : World) : Prop := e = .returned (.int .i64 r) ∧ Below w.heap.size w w'
noncomputable def kidOf (t : List Nd) (i : Int) (s : List UInt8) : Int := if isN t i then kid t i s else -1
theorem root_no_kid {t : List Nd} {i : Int} {s : List UInt8} (h : isN t i = true) : ∀ n, t[0]? = some n → isKid i s n = false := by
  intro n hn
  rw [isKid_not]
  rintro ⟨h1, _⟩
  have hi := (isN_iff.1 h).1
  rcases isN_grows h 0 n hn with h2 | h2 <;> omega

theorem up_mem {t : List Nd} (hg : Grows t) {j : Nat} {n : Nd} (hn : t[j]? = some n) {a : Int} (h0 : 0 ≤ a) (ha : a < j) : 0 ≤ n.parent ∧ n.parent < j ∧ (a ∈ path t (j : Int) ↔ a ∈ path t n.parent) := by
  have hl := (List.getElem?_eq_some_iff.1 hn).1
  have hg' : Grows (t.take t.length) := by rw [List.take_length]; exact hg
  rcases up_cases hg' hl hn with ⟨h1, _⟩ | ⟨h1, h2, h3⟩
  · omega
  · refine ⟨h1, h2, ?_⟩
    rw [h3, List.mem_append, List.mem_singleton]
    constructor
    · rintro (h | h)
      · exact h
      · omega
    · exact .inl
theorem mem_stop {t : List Nd} (hg : Grows t) {j : Nat} {a : Int} (ha : ¬ a < j) : (a ∈ path t (j : Int)) ↔ (j : Int) = a := by
  constructor
  · intro h
    have := (Tl.mem_path_le hg (j : Int) (by omega) a h).2
    omega
  · rintro rfl
    exact Tl.self_mem_path hg (by omega)

end Go.Proofs.Ytgikfdanamjilaa
