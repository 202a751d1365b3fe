import Derived.Test.YtgikfdanamjilaaPTree3
/- Plain facts on scripts. No program here. -/
namespace Tl

structure Do where
  node : Int
  add : Int
def okDo (n : Nat) (d : Do) : Bool := decide (0 ≤ d.node ∧ d.node ≤ (n : Int) - 1) && decide (-50 ≤ d.add ∧ d.add ≤ 50)
def okSc (n : Nat) (s : List Do) : Bool := decide (1 ≤ s.length ∧ s.length ≤ 3) && s.all (okDo n)
noncomputable def validSc (t : List Nd) (ss : List (List Do)) : Bool := validN t && (decide (ss.length ≤ 4) && ss.all (okSc t.length))
theorem validSc_iff {t : List Nd} {ss : List (List Do)} : validSc t ss = true ↔ validN t = true ∧ ss.length ≤ 4 ∧ ∀ s ∈ ss, okSc t.length s = true := by simp [validSc]
theorem validSc_take {t : List Nd} {ss : List (List Do)} (h : validSc t ss = true) (k : Nat) : validSc t (ss.take k) = true := by
  rw [validSc_iff] at *
  exact ⟨h.1, by rw [List.length_take]; omega, fun s hs => h.2.2 s (List.mem_of_mem_take hs)⟩
theorem validSc_nil {t : List Nd} {ss : List (List Do)} (h : validSc t ss = true) : validSc t [] = true := by
  rw [validSc_iff] at *
  exact ⟨h.1, by simp, by simp⟩
theorem validSc_again {t : List Nd} {ss : List (List Do)} {s : List Do} (h : validSc t ss = true) (hs : s ∈ ss) (hl : ss.length ≠ 4) : validSc t (ss ++ [s]) = true := by
  rw [validSc_iff] at *
  refine ⟨h.1, by rw [List.length_append]; simp; omega, fun u hu => ?_⟩
  rcases List.mem_append.1 hu with hu | hu
  · exact h.2.2 u hu
  · simp at hu; subst hu; exact h.2.2 _ hs
end Tl
