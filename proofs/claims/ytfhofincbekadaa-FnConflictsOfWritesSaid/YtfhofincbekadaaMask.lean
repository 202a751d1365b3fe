/- Sets of transactions as bits of an int. -/
import Derived.Test.YtfhofincbekadaaBase
import Derived.Laws.BitsAllLaws
namespace Go.Proofs.Ytfhofincbekadaa
open Go.RowKit

def mask4 (a b c d : Bool) : Int := (if a then 1 else 0) + ((if b then 2 else 0) + ((if c then 4 else 0) + (if d then 8 else 0)))
def maskI (f : Int → Bool) : Int := mask4 (f 0) (f 1) (f 2) (f 3)
theorem maskI_congr {f g : Int → Bool} (h : ∀ t, 0 ≤ t → t ≤ 3 → f t = g t) : maskI f = maskI g := by
  unfold maskI
  rw [h 0 (by decide) (by decide), h 1 (by decide) (by decide), h 2 (by decide) (by decide), h 3 (by decide) (by decide)]
theorem mask4_le : ∀ a b c d : Bool, 0 ≤ mask4 a b c d ∧ mask4 a b c d ≤ 15 := by decide
theorem maskI_le (f : Int → Bool) : 0 ≤ maskI f ∧ maskI f ≤ 15 := mask4_le _ _ _ _
theorem mask4_zero : ∀ a b c d : Bool, (mask4 a b c d != 0) = (a || (b || (c || d))) := by decide
theorem maskI_zero {f : Int → Bool} : (maskI f != 0) = (f 0 || (f 1 || (f 2 || f 3))) := mask4_zero _ _ _ _
theorem bit_val {t : Int} (h0 : 0 ≤ t) (h3 : t ≤ 3) : wrap64 (2 ^ t.toNat) = if t = 0 then 1 else if t = 1 then 2 else if t = 2 then 4 else 8 := by
  have : t = 0 ∨ t = 1 ∨ t = 2 ∨ t = 3 := by omega
  unfold wrap64
  rcases this with rfl | rfl | rfl | rfl <;> rfl
theorem or4 : ∀ a b c d : Bool, bits .or .i64 (mask4 a b c d) 1 = mask4 true b c d ∧ bits .or .i64 (mask4 a b c d) 2 = mask4 a true c d ∧ bits .or .i64 (mask4 a b c d) 4 = mask4 a b true d ∧ bits .or .i64 (mask4 a b c d) 8 = mask4 a b c true := by
  intro a b c d; cases a <;> cases b <;> cases c <;> cases d <;> exact ⟨rfl, rfl, rfl, rfl⟩
theorem andNot4 : ∀ a b c d : Bool, bits .andNot .i64 (mask4 a b c d) 1 = mask4 false b c d ∧ bits .andNot .i64 (mask4 a b c d) 2 = mask4 a false c d ∧ bits .andNot .i64 (mask4 a b c d) 4 = mask4 a b false d ∧ bits .andNot .i64 (mask4 a b c d) 8 = mask4 a b c false := by
  intro a b c d; cases a <;> cases b <;> cases c <;> cases d <;> exact ⟨rfl, rfl, rfl, rfl⟩
theorem and4 : ∀ a b c d : Bool, (bits .and .i64 (mask4 a b c d) 1 != 0) = a ∧ (bits .and .i64 (mask4 a b c d) 2 != 0) = b ∧ (bits .and .i64 (mask4 a b c d) 4 != 0) = c ∧ (bits .and .i64 (mask4 a b c d) 8 != 0) = d := by
  intro a b c d; cases a <;> cases b <;> cases c <;> cases d <;> exact ⟨rfl, rfl, rfl, rfl⟩
theorem mask_or {S : Int → Bool} {t : Int} (h0 : 0 ≤ t) (h3 : t ≤ 3) : bits .or .i64 (maskI S) (wrap64 (2 ^ t.toNat)) = maskI (fun u => decide (u = t) || S u) := by
  rw [bit_val h0 h3]
  have : t = 0 ∨ t = 1 ∨ t = 2 ∨ t = 3 := by omega
  rcases this with rfl | rfl | rfl | rfl
  · exact (or4 _ _ _ _).1
  · exact (or4 _ _ _ _).2.1
  · exact (or4 _ _ _ _).2.2.1
  · exact (or4 _ _ _ _).2.2.2
theorem mask_andNot {S : Int → Bool} {t : Int} (h0 : 0 ≤ t) (h3 : t ≤ 3) : bits .andNot .i64 (maskI S) (wrap64 (2 ^ t.toNat)) = maskI (fun u => !decide (u = t) && S u) := by
  rw [bit_val h0 h3]
  have : t = 0 ∨ t = 1 ∨ t = 2 ∨ t = 3 := by omega
  rcases this with rfl | rfl | rfl | rfl
  · exact (andNot4 _ _ _ _).1
  · exact (andNot4 _ _ _ _).2.1
  · exact (andNot4 _ _ _ _).2.2.1
  · exact (andNot4 _ _ _ _).2.2.2
theorem mask_and {S : Int → Bool} {t : Int} (h0 : 0 ≤ t) (h3 : t ≤ 3) : (bits .and .i64 (maskI S) (wrap64 (2 ^ t.toNat)) != 0) = S t := by
  rw [bit_val h0 h3]
  have : t = 0 ∨ t = 1 ∨ t = 2 ∨ t = 3 := by omega
  rcases this with rfl | rfl | rfl | rfl
  · exact (and4 _ _ _ _).1
  · exact (and4 _ _ _ _).2.1
  · exact (and4 _ _ _ _).2.2.1
  · exact (and4 _ _ _ _).2.2.2
theorem mask_and_nat {S : Int → Bool} {k : Nat} (h3 : k < 4) : (bits .and .i64 (maskI S) (wrap64 (2 ^ k)) != 0) = S k := by
  have := mask_and (S := S) (t := (k : Int)) (by omega) (by omega)
  rwa [Int.toNat_natCast] at this

/-- A block of four sets. -/
def Sets (w : World) (g : Nat) (M : Int → Int → Bool) : Prop := w.heap[g]? = some (.cells #[.int .i64 (maskI (M 0)), .int .i64 (maskI (M 1)), .int .i64 (maskI (M 2)), .int .i64 (maskI (M 3))] 50 (0, 0))
section
variable {w w' : World} {g : Nat} {M : Int → Int → Bool}
theorem Sets.lt (h : Sets w g M) : g < w.heap.size := (Array.getElem?_eq_some_iff.1 h).1
theorem Sets.cell (h : Sets w g M) {t : Int} (h0 : 0 ≤ t) (h3 : t ≤ 3) : w.cell? ⟨g, t.toNat, none⟩ = some (.int .i64 (maskI (M t))) := by
  rw [cell_of_row w g t.toNat _ _ _ h]
  have : t = 0 ∨ t = 1 ∨ t = 2 ∨ t = 3 := by omega
  rcases this with rfl | rfl | rfl | rfl <;> rfl
theorem Sets.cellN (h : Sets w g M) {k : Nat} (h3 : k < 4) : w.cell? ⟨g, k, none⟩ = some (.int .i64 (maskI (M k))) := by
  have := h.cell (t := (k : Int)) (by omega) (by omega)
  rwa [Int.toNat_natCast] at this
theorem Sets.all (h : Sets w g M) : w.cell? ⟨g, 0, none⟩ = some (.int .i64 (maskI (M 0))) ∧ w.cell? ⟨g, 1, none⟩ = some (.int .i64 (maskI (M 1))) ∧ w.cell? ⟨g, 2, none⟩ = some (.int .i64 (maskI (M 2))) ∧ w.cell? ⟨g, 3, none⟩ = some (.int .i64 (maskI (M 3))) :=
  ⟨h.cell (t := 0) (by decide) (by decide), h.cell (t := 1) (by decide) (by decide), h.cell (t := 2) (by decide) (by decide), h.cell (t := 3) (by decide) (by decide)⟩
theorem Sets.frozen (h : Sets w g M) (i : Nat) : w.frozen? ⟨g, i, none⟩ = false := by
  unfold Sets at h
  simp [World.frozen?, h]
theorem Sets.below {B : Nat} (h : Sets w g M) (hb : Below B w w') (hg : g < B) : Sets w' g M := (hb.block g hg).trans h
theorem Sets.alloc (h : Sets w g M) (o : Obj) : Sets (w.alloc o) g M := (Below.heap_alloc w o g h.lt).trans h
theorem Sets.drewN (h : Sets w g M) (k : Nat) : Sets (w.drewN k) g M := h
theorem Sets.drew (h : Sets w g M) : Sets w.drew g M := h
/-- One of the four is stored. -/
theorem Sets.put {M' : Int → Int → Bool} {t : Int} (h : Sets w g M) (h0 : 0 ≤ t) (h3 : t ≤ 3) (S : Int → Bool) (hM : ∀ a u, 0 ≤ u → u ≤ 3 → M' a u = if a = t then S u else M a u) : Sets (w.setCell ⟨g, t.toNat, none⟩ (.int .i64 (maskI S))) g M' := by
  unfold Sets at *
  have e : ∀ a, maskI (M' a) = if a = t then maskI S else maskI (M a) := by
    intro a
    by_cases ha : a = t
    · rw [if_pos ha]; exact maskI_congr fun u h1 h2 => by rw [hM a u h1 h2, if_pos ha]
    · rw [if_neg ha]; exact maskI_congr fun u h1 h2 => by rw [hM a u h1 h2, if_neg ha]
  rw [e 0, e 1, e 2, e 3]
  have : t = 0 ∨ t = 1 ∨ t = 2 ∨ t = 3 := by omega
  rcases this with rfl | rfl | rfl | rfl <;> simp [World.setCell, Array.getElem?_modify, h]
end
end Go.Proofs.Ytfhofincbekadaa
