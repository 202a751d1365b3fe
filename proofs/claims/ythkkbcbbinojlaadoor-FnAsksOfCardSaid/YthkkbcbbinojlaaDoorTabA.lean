/- Contracts: modes. isMode, GoTogether, JoinModes of both packages; isAsk. -/
import Derived.Test.YthkkbcbbinojlaaDoorLks
import Derived.Test.YthkkbcbbinojlaaDoorLeaf
namespace Go.Proofs.YthkkbcbbinojlaaDoor
open Go.RowKit
open Tl (okM tog join cases6 askOk)

/-- The table of the modes that go together lies in its variable. -/
structure TabT (w : World) : Prop where
  lt : 0 < w.heap.size
  cell : ∀ i j : Nat, i < 6 → j < 6 → w.cell? ⟨0, i * 6 + j, none⟩ = some (.bool (tog i j))
theorem TabT.below {w w' : World} {B : Nat} (h : TabT w) (hb : Below B w w') (hB : w.heap.size ≤ B) : TabT w' :=
  ⟨by have := h.lt; have := hb.size; omega, fun i j hi hj => (hb.cell (p := ⟨0, i * 6 + j, none⟩) (by have := h.lt; simp only; omega)).trans (h.cell i j hi hj)⟩
theorem TabT.drewN {w : World} (h : TabT w) (n : Nat) : TabT (w.drewN n) := ⟨h.lt, h.cell⟩
theorem TabT.step {w w' : World} (h : TabT w) (hb : Below w.heap.size w w') : TabT w' := h.below hb (Nat.le_refl _)

theorem okM_nat {a : Int} (h : okM a) : ∃ i : Nat, a = (i : Int) ∧ i < 6 := by
  unfold okM at h
  obtain ⟨i, rfl⟩ := Int.eq_ofNat_of_zero_le h.1
  exact ⟨i, rfl, by omega⟩

theorem isMode_ok {a : Int} (h : okM a) (w : World) : Calls Tryd.prog 31 #[.int .i64 a] w fun e w' => e = .returned (.bool true) ∧ w = w' := by
  have hd : decide (0 ≤ a ∧ a ≤ 5) = true := by unfold okM at h; simpa using h
  have HD := Lib.hid hd
  clear hd h
  go_enter Tryd.func31, Tryd.ntmps31
  go_wp2_with fail
  refine (within_any a 0 5 w).mono ?_
  rintro e w' ⟨rfl, rfl⟩
  rw [HD.out]
  go_wp2
  go_ret
  exact ⟨rfl, rfl⟩

theorem goTogether_any {a b : Int} (ha : okM a) (hb : okM b) (w : World) (hT : TabT w) : Calls Tryd.prog 19 #[.int .i64 a, .int .i64 b] w fun e w' => e = .returned (.bool (tog a b)) ∧ w = w' := by
  obtain ⟨i, rfl, hi⟩ := okM_nat ha
  obtain ⟨j, rfl, hj⟩ := okM_nat hb
  have hc := hT.cell i j hi hj
  clear hT
  go_enter Tryd.func19, Tryd.ntmps19
  go_wp2_with fail
  refine (isMode_ok ha w).mono ?_
  rintro e w' ⟨rfl, rfl⟩
  go_wp2_with fail
  refine (isMode_ok hb _).mono ?_
  rintro e w' ⟨rfl, rfl⟩
  clear ha hb
  go_wp2
  go_ret
  exact ⟨rfl, rfl⟩

theorem sgoTogether_any {a b : Int} (ha : okM a) (hb : okM b) (w : World) : Calls Tryd.prog 33 #[.int .i64 a, .int .i64 b] w fun e w' => e = .returned (.bool (tog a b)) ∧ w = w' := by
  have key : ∀ lo hi : Int, okM lo → lo ≤ hi → tog lo hi = (if lo = 0 then true else if lo = 1 then decide (hi ≠ 5) else if lo = 2 then decide (hi = 2) else if lo = 3 then decide (hi = 3) else false) := by
    intro lo hi _ h
    unfold tog
    rw [Int.min_eq_left h, Int.max_eq_right h]
  by_cases h : a ≤ b
  · rw [key a b ha h]
    have hn : ¬ b < a := by omega
    by_cases he : a < b
    · rcases cases6 ha with rfl | rfl | rfl | rfl | rfl | rfl
      all_goals
        clear key ha hb
        go_enter Tryd.func33, Tryd.ntmps33
        go_wp2
        go_ret
        exact ⟨ret_bool (by first | rfl | simp), rfl⟩
    · obtain rfl : a = b := by omega
      rcases cases6 ha with rfl | rfl | rfl | rfl | rfl | rfl
      all_goals
        clear key ha hb
        go_enter Tryd.func33, Tryd.ntmps33
        go_wp2
        go_ret
        exact ⟨ret_bool (by first | rfl | simp), rfl⟩
  · rw [Tl.tog_comm, key b a hb (by omega)]
    have hn : b < a := by omega
    have hn2 : ¬ a < b := by omega
    rcases cases6 hb with rfl | rfl | rfl | rfl | rfl | rfl
    all_goals
      clear key ha hb
      go_enter Tryd.func33, Tryd.ntmps33
      go_wp2
      go_ret
      exact ⟨ret_bool (by first | rfl | simp), rfl⟩

theorem isAsk_any (who node mode : Int) (w : World) : Calls Tryd.prog 18 #[.int .i64 who, .int .i64 node, .int .i64 mode] w fun e w' => e = .returned (.bool (askOk who node mode)) ∧ w = w' := by
  have HA : Hid (askOk who node mode = (decide (0 ≤ who ∧ who ≤ 3) && (decide (0 ≤ node ∧ node ≤ 11) && decide (1 ≤ mode ∧ mode ≤ 5)))) := by
    show _ = _
    unfold askOk
    rw [Bool.eq_iff_iff]
    simp only [Bool.and_eq_true, decide_eq_true_eq]
    omega
  rw [HA.out]
  obtain ⟨b1, h1⟩ : ∃ b1, b1 = decide (0 ≤ who ∧ who ≤ 3) := ⟨_, rfl⟩
  obtain ⟨b2, h2⟩ : ∃ b2, b2 = decide (0 ≤ node ∧ node ≤ 11) := ⟨_, rfl⟩
  obtain ⟨b3, h3⟩ : ∃ b3, b3 = decide (1 ≤ mode ∧ mode ≤ 5) := ⟨_, rfl⟩
  rw [← h1, ← h2, ← h3]
  have H1 := Lib.hid h1
  have H2 := Lib.hid h2
  have H3 := Lib.hid h3
  clear h1 h2 h3 HA
  go_enter Tryd.func18, Tryd.ntmps18
  go_wp2_with fail
  refine (within_any who 0 3 w).mono ?_
  rintro e w' ⟨rfl, rfl⟩
  rw [← H1.out]
  cases b1
  · go_wp2
    go_ret
    exact ⟨rfl, rfl⟩
  · go_wp2_with fail
    refine (within_any node 0 11 _).mono ?_
    rintro e w' ⟨rfl, rfl⟩
    rw [← H2.out]
    cases b2
    · go_wp2
      go_ret
      exact ⟨rfl, rfl⟩
    · go_wp2_with fail
      refine (within_any mode 1 5 _).mono ?_
      rintro e w' ⟨rfl, rfl⟩
      rw [← H3.out]
      go_wp2
      go_ret
      exact ⟨rfl, rfl⟩
end Go.Proofs.YthkkbcbbinojlaaDoor
