/- Words for the laws on paths and meetings. -/
import Derived.Test.YtgofokifcplmoaaDoorTreKit
import Derived.Test.YtgofokifcplmoaaDoorTreM
import Derived.Test.YtgofokifcplmoaaDoorTreK
import Derived.Test.YtgofokifcplmoaaDoorDrawP
import Derived.Test.YtgofokifcplmoaaDoorPTree3
namespace Go.Proofs.YtgofokifcplmoaaDoor
open Go.RowKit
open Tl (Nd path validN validN_iff ValidN Grows above above_iff meet par)

theorem isN_of {t : List Nd} {i : Int} (hv : validN t = true) (h0 : 0 ≤ i) (h1 : i < t.length) : isN t i = true := isN_iff.2 ⟨⟨h0, h1⟩, hv⟩
theorem meetN_isN {t : List Nd} {a b : Int} (h1 : isN t a = true) (h2 : isN t b = true) : isN t (meetN t a b) = true := by
  have h3 := meetN_pos h1 h2
  have h4 := isN_iff.1 h1
  exact isN_of h4.2 h3.1 (by omega)
theorem meetN_comm {t : List Nd} {a b : Int} (h1 : isN t a = true) (h2 : isN t b = true) : meetN t b a = meetN t a b := by
  rw [meetN_in h1 h2, meetN_in h2 h1]
  have ha := (isN_iff.1 h1).1
  have hb := (isN_iff.1 h2).1
  exact Tl.meet_comm (isN_grows h1) hb.1 hb.2 ha.1 ha.2
theorem meetN_self {t : List Nd} {a : Int} (h1 : isN t a = true) : meetN t a a = a := by
  have ha := (isN_iff.1 h1).1
  rw [meetN_in h1 h1]
  exact Tl.meet_self (isN_grows h1) ha.1 ha.2
theorem meetN_root {t : List Nd} {b : Int} (h : isN t b = true) : meetN t 0 b = 0 := by
  have hb := isN_iff.1 h
  have h0 : isN t 0 = true := isN_of hb.2 (by omega) (by omega)
  rw [meetN_in h0 h]
  exact Tl.meet_zero (isN_grows h) (by omega) hb.1.1 hb.1.2
theorem meetN_neg {t : List Nd} {a b : Int} (h : ¬ (isN t a = true ∧ isN t b = true)) : meetN t a b = -1 := by
  cases h1 : isN t a
  · exact meetN_no h1
  · cases h2 : isN t b
    · exact meetN_no2 h2
    · exact absurd ⟨h1, h2⟩ h

theorem pathN_in {t : List Nd} {i : Int} (h : isN t i = true) : pathN t i = path t i := by simp [pathN, h]
theorem pathN_pos {t : List Nd} {i : Int} (h : isN t i = true) : 1 ≤ (pathN t i).length := by
  have h1 := isN_iff.1 h
  rw [pathN_in h]
  exact (path_len_le (validN_iff.1 h1.2) h1.1.1 h1.1.2).1
theorem pathN_no {t : List Nd} {i : Int} (h : isN t i = false) : pathN t i = [] := by simp [pathN, h]
/-- The node ahead of a node of a way is its parent. -/
theorem path_ahead {t : List Nd} (hg : Grows t) : ∀ i, 0 ≤ i → ∀ (k : Nat) (z : Int), (path t i)[k + 1]? = some z → (path t i)[k]? = some (par t z) := by
  refine Tl.path_induct hg _ ?_
  intro i hi ih k z hz
  rw [Tl.path_step hg hi] at hz ⊢
  by_cases hp : 0 ≤ par t i
  · by_cases hk : k + 1 < (path t (par t i)).length
    · rw [List.getElem?_append_left hk] at hz
      rw [List.getElem?_append_left (by omega)]
      exact ih hp k z hz
    · rw [List.getElem?_append_right (by omega)] at hz
      have hk2 : k + 1 = (path t (par t i)).length := by
        rcases Nat.lt_or_ge (k + 1 - (path t (par t i)).length) 1 with h1 | h1
        · omega
        · rw [List.getElem?_eq_none (by simpa using h1)] at hz; cases hz
      rw [hk2, Nat.sub_self] at hz
      obtain rfl : i = z := by simpa using hz
      rw [List.getElem?_append_left (by omega)]
      have h3 := Tl.path_step hg hp
      have h4 : (path t (par t (par t i))).length = k := by
        have := congrArg List.length h3
        rw [List.length_append, List.length_singleton] at this
        omega
      rw [h3, List.getElem?_append_right (by omega), h4, Nat.sub_self]
      rfl
  · have hl := Tl.par_lt hg hi
    have e : par t i = -1 := by omega
    rw [e, Tl.path_neg] at hz
    simp at hz
theorem path_last {t : List Nd} (hg : Grows t) {i : Int} (hi : 0 ≤ i) : (path t i)[(path t i).length - 1]? = some i := by
  rw [Tl.path_step hg hi]
  simp
end Go.Proofs.YtgofokifcplmoaaDoor
