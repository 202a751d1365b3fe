/- Contracts: joined modes, of both packages. -/
import Derived.Test.YthkkbcbbinojlaaDoorTabA
namespace Go.Proofs.YthkkbcbbinojlaaDoor
open Go.RowKit
open Tl (okM tog join cases6 askOk)

/-- The table of the joined modes lies in its variable. -/
structure TabJ (w : World) : Prop where
  lt : 1 < w.heap.size
  cell : ∀ i j : Nat, i < 6 → j < 6 → w.cell? ⟨1, i * 6 + j, none⟩ = some (.int .i64 (join i j))
theorem TabJ.below {w w' : World} {B : Nat} (h : TabJ w) (hb : Below B w w') (hB : w.heap.size ≤ B) : TabJ w' :=
  ⟨by have := h.lt; have := hb.size; omega, fun i j hi hj => (hb.cell (p := ⟨1, i * 6 + j, none⟩) (by have := h.lt; simp only; omega)).trans (h.cell i j hi hj)⟩
theorem TabJ.step {w w' : World} (h : TabJ w) (hb : Below w.heap.size w w') : TabJ w' := h.below hb (Nat.le_refl _)

theorem joinModes_any {a b : Int} (ha : okM a) (hb : okM b) (w : World) (hT : TabJ w) : Calls Tryd.prog 25 #[.int .i64 a, .int .i64 b] w fun e w' => e = .returned (.int .i64 (join a b)) ∧ w = w' := by
  obtain ⟨i, rfl, hi⟩ := okM_nat ha
  obtain ⟨j, rfl, hj⟩ := okM_nat hb
  have hc := hT.cell i j hi hj
  clear hT
  go_enter Tryd.func25, Tryd.ntmps25
  go_wp2_with fail
  refine (isMode_ok ha w).mono ?_
  rintro e w' ⟨rfl, rfl⟩
  go_wp2_with fail
  refine (isMode_ok hb _).mono ?_
  rintro e w' ⟨rfl, rfl⟩
  clear ha hb
  go_wp2
  go_ret
  exact ⟨rfl, rfl⟩

theorem sjoined_any {a b : Int} (ha : okM a) (hb : okM b) (w : World) : Calls Tryd.prog 35 #[.int .i64 a, .int .i64 b] w fun e w' => e = .returned (.int .i64 (join a b)) ∧ w = w' := by
  have key : ∀ lo hi : Int, lo ≤ hi → join lo hi = (if lo = 2 ∧ hi = 3 then 4 else hi) := by
    intro lo hi h
    unfold join
    rw [Int.min_eq_left h, Int.max_eq_right h]
  have hcm : join a b = join b a := by unfold join; rw [Int.min_comm, Int.max_comm]
  have go : ∀ lo hi : Int, okM lo → lo ≤ hi → ((a = lo ∧ b = hi) ∨ (a = hi ∧ b = lo ∧ lo < hi)) → Calls Tryd.prog 35 #[.int .i64 a, .int .i64 b] w fun e w' => e = .returned (.int .i64 (if lo = 2 ∧ hi = 3 then 4 else hi)) ∧ w = w' := by
    intro lo hi hlo hle hor
    clear key hcm ha hb
    rcases hor with ⟨rfl, rfl⟩ | ⟨rfl, rfl, hlt⟩
    · have hn : ¬ b < a := by omega
      by_cases he : a < b
      · by_cases h2 : a = 2
        · subst h2
          by_cases h3 : b = 3
          · subst h3
            go_enter Tryd.func35, Tryd.ntmps35
            go_wp2
            go_ret
            exact ⟨rfl, rfl⟩
          · have h3' : (b == 3) = false := by simp [h3]
            go_enter Tryd.func35, Tryd.ntmps35
            go_wp2
            go_ret
            exact ⟨rfl, rfl⟩
        · have h2' : (a == 2) = false := by simp [h2]
          go_enter Tryd.func35, Tryd.ntmps35
          go_wp2
          go_ret
          exact ⟨rfl, rfl⟩
      · obtain rfl : a = b := by omega
        by_cases h2 : a = 2
        · subst h2
          go_enter Tryd.func35, Tryd.ntmps35
          go_wp2
          go_ret
          exact ⟨rfl, rfl⟩
        · have h2' : (a == 2) = false := by simp [h2]
          go_enter Tryd.func35, Tryd.ntmps35
          go_wp2
          go_ret
          exact ⟨rfl, rfl⟩
    · have hn : ¬ a < b := by omega
      by_cases h2 : b = 2
      · subst h2
        by_cases h3 : a = 3
        · subst h3
          go_enter Tryd.func35, Tryd.ntmps35
          go_wp2
          go_ret
          exact ⟨rfl, rfl⟩
        · have h3' : (a == 3) = false := by simp [h3]
          go_enter Tryd.func35, Tryd.ntmps35
          go_wp2
          go_ret
          exact ⟨rfl, rfl⟩
      · have h2' : (b == 2) = false := by simp [h2]
        go_enter Tryd.func35, Tryd.ntmps35
        go_wp2
        go_ret
        exact ⟨rfl, rfl⟩
  by_cases h : a ≤ b
  · rw [key a b h]
    exact go a b ha h (.inl ⟨rfl, rfl⟩)
  · rw [hcm, key b a (by omega)]
    exact go b a hb (by omega) (.inr ⟨rfl, rfl, by omega⟩)
end Go.Proofs.YthkkbcbbinojlaaDoor
