/- Facts on the victims' list. -/
import Derived.Test.YtfhofincbekadaaVic4
import Derived.Test.YtfhofincbekadaaDrawW
import Derived.Test.YtfhofincbekadaaLawKit
import Derived.Test.YtfhofincbekadaaLawA2
namespace Go.Proofs.Ytfhofincbekadaa
open Go.RowKit
open Tl (Wt okW validW validW_iff dropW victims deadOf mem_deadOf)

theorem placeOf_once {xs : List Int} (hn : xs.Nodup) {j : Nat} {t : Int} (h : xs[j]? = some t) : placeOf xs t = j := by
  have hf : xs.findIdx? (fun x => decide (x = t)) = some j := by
    rw [List.findIdx?_eq_some_iff_getElem]
    obtain ⟨h1, h2⟩ := List.getElem?_eq_some_iff.1 h
    refine ⟨h1, by simp [h2], ?_⟩
    intro i hi
    simp only [decide_eq_true_eq]
    intro he
    exact List.pairwise_iff_getElem.1 hn i j (by omega) h1 hi (he.trans h2.symm)
  simp [placeOf, hf]
theorem victims_nil_iff (ws : List Wt) : victims ws.length ws = [] ↔ deadOf ws = [] := by
  constructor
  · intro h
    rcases List.eq_nil_or_concat (deadOf ws) with hd | ⟨ds, v, hd⟩
    · exact hd
    · rw [List.concat_eq_append] at hd
      obtain ⟨x, hx, _⟩ := dead_hit hd
      have hl : 0 < ws.length := List.length_pos_of_mem hx
      obtain ⟨m, hm⟩ : ∃ m, ws.length = m + 1 := ⟨ws.length - 1, by omega⟩
      rw [hm, victims_step hd] at h
      cases h
  · intro h
    exact victims_stop h _
theorem vicL_len (ws : List Wt) : (vicL ws).length ≤ 4 := by
  unfold vicL
  split
  · have := Tl.length_le_of_sub (victims ws.length ws) Tl.T4 (Tl.victims_nodup _ ws) (fun v hv => Tl.mem_T4.2 (mem_deadOf.1 (Tl.victims_dead _ ws v hv)).1)
    exact this
  · simp
theorem vicL_valid {ws : List Wt} (h : validW ws = true) : vicL ws = victims ws.length ws := by unfold vicL; rw [h, if_pos rfl]
theorem dlL_valid {ws : List Wt} (h : validW ws = true) : dlL ws = deadOf ws := by unfold dlL; rw [h, if_pos rfl]

/-- The waits without those that name one of a list. -/
def leftWs (vs : List Int) (ws : List Wt) : List Wt := ws.filter fun x => decide (x.who ∉ vs ∧ x.to ∉ vs)
theorem leftWs_yes {ws : List Wt} {k : Nat} {x : Wt} {vs : List Int} (hx : ws[k]? = some x) (h1 : x.who ∉ vs) (h2 : x.to ∉ vs) : leftWs vs (ws.take (k + 1)) = leftWs vs (ws.take k) ++ [x] := by
  unfold leftWs; rw [take_succ_of hx, List.filter_append]; simp [h1, h2]
theorem leftWs_no {ws : List Wt} {k : Nat} {x : Wt} {vs : List Int} (hx : ws[k]? = some x) (h : x.who ∈ vs ∨ x.to ∈ vs) : leftWs vs (ws.take (k + 1)) = leftWs vs (ws.take k) := by
  unfold leftWs; rw [take_succ_of hx, List.filter_append]
  have : (List.filter (fun y : Wt => decide (y.who ∉ vs ∧ y.to ∉ vs)) [x]) = [] := by
    rw [List.filter_eq_nil_iff]
    intro y hy
    simp at hy
    subst hy
    simp only [decide_eq_true_eq]
    intro hh
    rcases h with h | h
    · exact hh.1 h
    · exact hh.2 h
  rw [this, List.append_nil]
theorem leftWs_len (vs : List Int) (ws : List Wt) (k : Nat) : (leftWs vs (ws.take k)).length ≤ k := by
  unfold leftWs
  exact Nat.le_trans (List.length_filter_le _ _) (by rw [List.length_take]; exact Nat.min_le_left _ _)
theorem leftWs_valid {ws : List Wt} (h : validW ws = true) (vs : List Int) : validW (leftWs vs ws) = true := by
  rw [validW_iff] at *
  exact ⟨Nat.le_trans (List.length_filter_le _ _) h.1, fun x hx => h.2 x (List.mem_filter.1 hx).1⟩
theorem leftWs_dead {ws : List Wt} (h : validW ws = true) : dlL (leftWs (vicL ws) ws) = [] := by
  rw [dlL_valid (leftWs_valid h _), vicL_valid h]
  exact Tl.victims_end _ ws (Nat.le_refl _) (validW_iff.1 h).2
end Go.Proofs.Ytfhofincbekadaa
