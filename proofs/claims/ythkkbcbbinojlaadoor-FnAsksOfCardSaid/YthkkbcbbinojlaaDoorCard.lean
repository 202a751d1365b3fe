/- What the laid tables of modes give: the cells of their variables, and how they read. -/
import Derived.Test.YthkkbcbbinojlaaDoorTabJ
import Derived.Test.YthkkbcbbinojlaaDoorRows
import Derived.ProofKit
import Derived.OpenShut
import Derived.ChangeVars
import Derived.LaidMore
namespace Go.Proofs.YthkkbcbbinojlaaDoor
open Go.RowKit
open Go.ChangeShapes Go.WideShapes Go.ChangeAt
open Tl (tog join)
set_option linter.unusedVariables false

section
variable {H : Type} {enc : TypeId × Value → H} {P : Program} {w : World} {base : Nat} {sp : Nat → Bool} {held : Bool} {fuel : Nat} {t e b : TypeId}
theorem drop_take_one {α : Type} {l : List α} {i j n : Nat} {v : α} (hj : j < n) (h : ((((l.drop i).take n).drop j).take 1) = [v]) : l[i + j]? = some v := by
  have h0 : ((((l.drop i).take n).drop j).take 1)[0]? = some v := by rw [h]; rfl
  rw [List.getElem?_take, if_pos (by omega), List.getElem?_drop, List.getElem?_take, if_pos (by omega), List.getElem?_drop] at h0
  simpa using h0
/-- A laid table of tables of bools: its cells. -/
theorem laid2_bool (ht : P.underlying t = some (.array 6 e)) (he : P.underlying e = some (.array 6 b)) (hb : P.underlying b = some .bool) (ce : P.cellsOf e = 6) (cb : P.cellsOf b = 1)
    {cs : List Value} {D : List (List Bool)} {q : List MemPlace} (h : DataW.trod enc P w base sp held fuel t cs = some (.agg (D.map fun r => .agg (r.map fun x => .lit (.bool x))), q)) :
    cs.length = P.cellsOf t ∧ ∀ (i j : Nat) (r : List Bool) (x : Bool), D[i]? = some r → r[j]? = some x → cs[i * 6 + j]? = some (.bool x) := by
  obtain ⟨xs, m, rfl, hx, hlen, hxl, hel⟩ := DataW.trod_array ht h
  simp only [Prod.mk.injEq, DataW.agg.injEq] at hx
  refine ⟨hlen, fun i j r x hr hxj => ?_⟩
  have e1 : (D.map fun r => (.agg (r.map fun x => .lit (.bool x)) : DataW H))[i]? = (xs.map (·.1))[i]? := by rw [hx.1]
  rw [List.getElem?_map, List.getElem?_map, hr] at e1
  cases hy : xs[i]? with
  | none => rw [hy] at e1; cases e1
  | some y =>
    rw [hy] at e1
    simp only [Option.map_some, Option.some.injEq] at e1
    have hi : i < 6 := by have := (List.getElem?_eq_some_iff.1 hy).1; omega
    have h1 := hel i hi
    rw [ce, hy] at h1
    obtain ⟨y1, y2⟩ := y
    simp only at e1
    subst e1
    obtain ⟨ys, m', rfl, hx2, _, hyl, hel2⟩ := DataW.trod_array he h1
    simp only [Prod.mk.injEq, DataW.agg.injEq] at hx2
    have e2 : (r.map fun x => (.lit (.bool x) : DataW H))[j]? = (ys.map (·.1))[j]? := by rw [hx2.1]
    rw [List.getElem?_map, List.getElem?_map, hxj] at e2
    cases hz : ys[j]? with
    | none => rw [hz] at e2; cases e2
    | some z =>
      rw [hz] at e2
      simp only [Option.map_some, Option.some.injEq] at e2
      have hj : j < 6 := by have := (List.getElem?_eq_some_iff.1 hz).1; omega
      have h2 := hel2 j hj
      rw [cb, hz, Nat.mul_one] at h2
      obtain ⟨b1, hb1, hb2⟩ := DataW.trod_bool hb h2
      rw [hb2] at e2
      simp only [DataW.lit.injEq, Lit.bool.injEq] at e2
      subst e2
      exact drop_take_one hj hb1
theorem laid2_int (ht : P.underlying t = some (.array 6 e)) (he : P.underlying e = some (.array 6 b)) (hb : P.underlying b = some (.int .i64)) (ce : P.cellsOf e = 6) (cb : P.cellsOf b = 1)
    {cs : List Value} {D : List (List Int)} {q : List MemPlace} (h : DataW.trod enc P w base sp held fuel t cs = some (.agg (D.map fun r => .agg (r.map fun x => .lit (.int .i64 x))), q)) :
    cs.length = P.cellsOf t ∧ ∀ (i j : Nat) (r : List Int) (x : Int), D[i]? = some r → r[j]? = some x → cs[i * 6 + j]? = some (.int .i64 x) := by
  obtain ⟨xs, m, rfl, hx, hlen, hxl, hel⟩ := DataW.trod_array ht h
  simp only [Prod.mk.injEq, DataW.agg.injEq] at hx
  refine ⟨hlen, fun i j r x hr hxj => ?_⟩
  have e1 : (D.map fun r => (.agg (r.map fun x => .lit (.int .i64 x)) : DataW H))[i]? = (xs.map (·.1))[i]? := by rw [hx.1]
  rw [List.getElem?_map, List.getElem?_map, hr] at e1
  cases hy : xs[i]? with
  | none => rw [hy] at e1; cases e1
  | some y =>
    rw [hy] at e1
    simp only [Option.map_some, Option.some.injEq] at e1
    have hi : i < 6 := by have := (List.getElem?_eq_some_iff.1 hy).1; omega
    have h1 := hel i hi
    rw [ce, hy] at h1
    obtain ⟨y1, y2⟩ := y
    simp only at e1
    subst e1
    obtain ⟨ys, m', rfl, hx2, _, hyl, hel2⟩ := DataW.trod_array he h1
    simp only [Prod.mk.injEq, DataW.agg.injEq] at hx2
    have e2 : (r.map fun x => (.lit (.int .i64 x) : DataW H))[j]? = (ys.map (·.1))[j]? := by rw [hx2.1]
    rw [List.getElem?_map, List.getElem?_map, hxj] at e2
    cases hz : ys[j]? with
    | none => rw [hz] at e2; cases e2
    | some z =>
      rw [hz] at e2
      simp only [Option.map_some, Option.some.injEq] at e2
      have hj : j < 6 := by have := (List.getElem?_eq_some_iff.1 hz).1; omega
      have h2 := hel2 j hj
      rw [cb, hz, Nat.mul_one] at h2
      obtain ⟨n1, hb1, hb2, _⟩ := DataW.trod_int hb h2
      rw [hb2] at e2
      simp only [DataW.lit.injEq, Lit.int.injEq] at e2
      obtain ⟨_, e2⟩ := e2
      subst e2
      exact drop_take_one hj hb1
end

def dataT : List (List Bool) := [[true, true, true, true, true, true], [true, true, true, true, true, false], [true, true, true, false, false, false], [true, true, false, true, false, false], [true, true, false, false, false, false], [true, false, false, false, false, false]]
def dataJ : List (List Int) := [[0, 1, 2, 3, 4, 5], [1, 1, 2, 3, 4, 5], [2, 2, 2, 4, 4, 5], [3, 3, 4, 3, 4, 5], [4, 4, 4, 4, 4, 5], [5, 5, 5, 5, 5, 5]]
def cellsT : Array Value := #[.bool true, .bool true, .bool true, .bool true, .bool true, .bool true, .bool true, .bool true, .bool true, .bool true, .bool true, .bool false, .bool true, .bool true, .bool true, .bool false, .bool false, .bool false, .bool true, .bool true, .bool false, .bool true, .bool false, .bool false, .bool true, .bool true, .bool false, .bool false, .bool false, .bool false, .bool true, .bool false, .bool false, .bool false, .bool false, .bool false]
def cellsJ : Array Value := #[.int .i64 0, .int .i64 1, .int .i64 2, .int .i64 3, .int .i64 4, .int .i64 5, .int .i64 1, .int .i64 1, .int .i64 2, .int .i64 3, .int .i64 4, .int .i64 5, .int .i64 2, .int .i64 2, .int .i64 2, .int .i64 4, .int .i64 4, .int .i64 5, .int .i64 3, .int .i64 3, .int .i64 4, .int .i64 3, .int .i64 4, .int .i64 5, .int .i64 4, .int .i64 4, .int .i64 4, .int .i64 4, .int .i64 4, .int .i64 5, .int .i64 5, .int .i64 5, .int .i64 5, .int .i64 5, .int .i64 5, .int .i64 5]
def nameT : String := "loop.example/treelocks/impl.together"
def nameJ : String := "loop.example/treelocks/impl.joined"
theorem gT : Tryd.prog.globalNamed "loop.example/treelocks/impl.together" = some 0 := by kernel_rfl
theorem gtT : (Tryd.prog.globals[0]?).map (·.type) = some 59 := by kernel_rfl
theorem gJ : Tryd.prog.globalNamed "loop.example/treelocks/impl.joined" = some 1 := by kernel_rfl
theorem gtJ : (Tryd.prog.globals[1]?).map (·.type) = some 61 := by kernel_rfl
theorem dataT_at : ∀ i j : Nat, i < 6 → j < 6 → ∃ r x, dataT[i]? = some r ∧ r[j]? = some x ∧ x = tog i j ∧ cellsT[i * 6 + j]? = some (.bool x) := by
  intro i j hi hj
  have hii : i = 0 ∨ i = 1 ∨ i = 2 ∨ i = 3 ∨ i = 4 ∨ i = 5 := by omega
  have hjj : j = 0 ∨ j = 1 ∨ j = 2 ∨ j = 3 ∨ j = 4 ∨ j = 5 := by omega
  rcases hii with rfl | rfl | rfl | rfl | rfl | rfl <;> rcases hjj with rfl | rfl | rfl | rfl | rfl | rfl <;> exact ⟨_, _, rfl, rfl, by decide, rfl⟩
theorem dataJ_at : ∀ i j : Nat, i < 6 → j < 6 → ∃ r x, dataJ[i]? = some r ∧ r[j]? = some x ∧ x = join i j ∧ cellsJ[i * 6 + j]? = some (.int .i64 x) := by
  intro i j hi hj
  have hii : i = 0 ∨ i = 1 ∨ i = 2 ∨ i = 3 ∨ i = 4 ∨ i = 5 := by omega
  have hjj : j = 0 ∨ j = 1 ∨ j = 2 ∨ j = 3 ∨ j = 4 ∨ j = 5 := by omega
  rcases hii with rfl | rfl | rfl | rfl | rfl | rfl <;> rcases hjj with rfl | rfl | rfl | rfl | rfl | rfl <;> exact ⟨_, _, rfl, rfl, by decide, rfl⟩

theorem ext36 {a b : Array Value} (ha : a.toList.length = 36) (hb : b.size = 36) (h : ∀ i j : Nat, i < 6 → j < 6 → ∃ x, a.toList[i * 6 + j]? = some x ∧ b[i * 6 + j]? = some x) : a = b := by
  apply Array.ext
  · rw [← Array.length_toList, ha, hb]
  · intro n h1 h2
    obtain ⟨x, hx1, hx2⟩ := h (n / 6) (n % 6) (by omega) (by omega)
    have e : n / 6 * 6 + n % 6 = n := by omega
    rw [e] at hx1 hx2
    rw [Array.getElem?_toList] at hx1
    rw [Array.getElem?_eq_getElem h1] at hx1
    rw [Array.getElem?_eq_getElem h2] at hx2
    exact Option.some.inj (hx1.trans hx2.symm)

theorem lt_of_var {W : World} {n : String} {g : Nat} {cs : Array Value} (hg : Tryd.prog.globalNamed n = some g) (h : W.var? Tryd.prog n = some cs) (hs : 0 < cs.size) : g < W.heap.size := by
  have := World.var?_cell hg h 0
  rw [Array.getElem?_eq_getElem hs] at this
  exact World.block_lt_of_cell? W ⟨g, 0, none⟩ this

/-- From the laid table of what goes together. -/
theorem cellsT_of {H : Type} {enc : TypeId × Value → H} {W W2 : World} {fuel : Nat} {q : List MemPlace} {sp : Nat → Bool} {held : Bool} {cs : Array Value}
    (h : DataW.trod enc Tryd.prog W2 0 sp held fuel 59 cs.toList = some (Rows.laid_loop_example_treelocks_impl_together, q)) : cs = cellsT := by
  obtain ⟨hl, hc⟩ := laid2_bool (D := dataT) Tryd.underlying59 Tryd.underlying58 Tryd.underlying4 (by kernel_rfl) (by kernel_rfl) h
  refine ext36 (by rw [hl]; kernel_rfl) (by rfl) fun i j hi hj => ?_
  obtain ⟨r, x, h1, h2, _, h4⟩ := dataT_at i j hi hj
  exact ⟨_, hc i j r x h1 h2, h4⟩
theorem cellsJ_of {H : Type} {enc : TypeId × Value → H} {W W2 : World} {fuel : Nat} {q : List MemPlace} {sp : Nat → Bool} {held : Bool} {cs : Array Value}
    (h : DataW.trod enc Tryd.prog W2 0 sp held fuel 61 cs.toList = some (Rows.laid_loop_example_treelocks_impl_joined, q)) : cs = cellsJ := by
  obtain ⟨hl, hc⟩ := laid2_int (D := dataJ) Tryd.underlying61 Tryd.underlying60 Tryd.underlying3 (by kernel_rfl) (by kernel_rfl) h
  refine ext36 (by rw [hl]; kernel_rfl) (by rfl) fun i j hi hj => ?_
  obtain ⟨r, x, h1, h2, _, h4⟩ := dataJ_at i j hi hj
  exact ⟨_, hc i j r x h1 h2, h4⟩
theorem tabT_of {W : World} (h : W.var? Tryd.prog "loop.example/treelocks/impl.together" = some cellsT) : TabT W :=
  ⟨lt_of_var gT h (by decide), fun i j hi hj => by
    obtain ⟨r, x, _, _, h3, h4⟩ := dataT_at i j hi hj
    rw [World.var?_cell gT h, h4, h3]⟩
theorem tabJ_of {W : World} (h : W.var? Tryd.prog "loop.example/treelocks/impl.joined" = some cellsJ) : TabJ W :=
  ⟨lt_of_var gJ h (by decide), fun i j hi hj => by
    obtain ⟨r, x, _, _, h3, h4⟩ := dataJ_at i j hi hj
    rw [World.var?_cell gJ h, h4, h3]⟩
theorem readsT {H : Type} (enc : TypeId × Value → H) (W : World) (sp : Nat → Bool) : DataW.trod enc Tryd.prog W 0 sp true 3 59 cellsT.toList = some (Rows.laid_loop_example_treelocks_impl_together, []) := by kernel_rfl
theorem readsJ {H : Type} (enc : TypeId × Value → H) (W : World) (sp : Nat → Bool) : DataW.trod enc Tryd.prog W 0 sp true 3 61 cellsJ.toList = some (Rows.laid_loop_example_treelocks_impl_joined, []) := by kernel_rfl
theorem var_below {W W' : World} {B : Nat} {n : String} {g : Nat} {cs : Array Value} (hg : Tryd.prog.globalNamed n = some g) (h : W.var? Tryd.prog n = some cs) (hb : Below B W W') (hl : g < B) : W'.var? Tryd.prog n = some cs := by
  simp only [World.var?, hg, Option.bind_some] at h ⊢
  rw [hb.block g hl]
  exact h
end Go.Proofs.YthkkbcbbinojlaaDoor
