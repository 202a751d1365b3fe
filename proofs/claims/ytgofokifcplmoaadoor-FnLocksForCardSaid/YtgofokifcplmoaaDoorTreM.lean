/- Contracts: Meeting, of both packages. -/
import Derived.Test.YtgofokifcplmoaaDoorTreE
import Derived.Test.YtgofokifcplmoaaDoorPTree3
namespace Go.Proofs.YtgofokifcplmoaaDoor
open Go.RowKit
set_option maxRecDepth 100000
open Tl (Nd path validN validN_iff ValidN Grows above above_iff meet)

/-- What Meeting answers. -/
noncomputable def meetN (t : List Nd) (a b : Int) : Int := if isN t a && isN t b then meet t a b else -1
theorem meetN_in {t : List Nd} {a b : Int} (h1 : isN t a = true) (h2 : isN t b = true) : meetN t a b = meet t a b := by simp [meetN, h1, h2]
theorem meetN_no {t : List Nd} {a b : Int} (h : isN t a = false) : meetN t a b = -1 := by simp [meetN, h]
theorem meetN_no2 {t : List Nd} {a b : Int} (h : isN t b = false) : meetN t a b = -1 := by simp [meetN, h]
theorem meetN_pos {t : List Nd} {a b : Int} (h1 : isN t a = true) (h2 : isN t b = true) : 0 ≤ meetN t a b ∧ meetN t a b ≤ a ∧ meetN t a b ∈ path t a ∧ meetN t a b ∈ path t b := by
  have ha := (isN_iff.1 h1).1
  have hb := (isN_iff.1 h2).1
  have hg := isN_grows h1
  rw [meetN_in h1 h2]
  have hm := Tl.meet_mem hg ha.1 ha.2 hb.1 hb.2
  have hl := Tl.mem_path_le hg a ha.1 _ hm.1
  exact ⟨hl.1, hl.2, hm.1, hm.2⟩
theorem meetN_max {t : List Nd} {a b n : Int} (h1 : isN t a = true) (h2 : isN t b = true) (h3 : n ∈ path t a) (h4 : n ∈ path t b) : n ≤ meetN t a b := by
  rw [meetN_in h1 h2]
  exact Tl.meet_max (isN_grows h1) (isN_iff.1 h1).1.1 h3 h4
theorem meetN_eq {t : List Nd} {a b m : Int} (h1 : isN t a = true) (h2 : isN t b = true) (h3 : m ∈ path t a) (h4 : m ∈ path t b) (hm : ∀ n, n ∈ path t a → n ∈ path t b → n ≤ m) : meetN t a b = m := by
  have ha := (isN_iff.1 h1).1
  have hb := (isN_iff.1 h2).1
  rw [meetN_in h1 h2]
  exact Tl.meet_eq (isN_grows h1) ha.1 ha.2 hb.1 hb.2 h3 h4 hm

end Go.Proofs.YtgofokifcplmoaaDoor
