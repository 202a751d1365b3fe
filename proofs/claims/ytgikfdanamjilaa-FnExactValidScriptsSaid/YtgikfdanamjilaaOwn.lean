/- Appending one element to a row of the call's own; taking the last one off. -/
import Derived.Test.YtgikfdanamjilaaBase
import Derived.Maps.AppendAt
namespace Go.Proofs.Ytgikfdanamjilaa
open Go.RowKit

/-- Two rows that lie in different blocks. -/
def Ap (v u : Value) : Prop := v.ownBlock = none ∨ u.ownBlock = none ∨ v.ownBlock ≠ u.ownBlock
theorem Ap.symm {v u : Value} (h : Ap v u) : Ap u v := by
  rcases h with h | h | h
  · exact .inr (.inl h)
  · exact .inl h
  · exact .inr (.inr fun e => h e.symm)
theorem Ap.kept {w w' : World} {v u : Value} (h : Ap v u) (hg : w.grownBy w' v.ownBlock) {base : Nat} {e : TypeId} {sz n : Nat} {xs : List Value} (ho : w.ownsRow base e sz u n xs) : w'.ownsRow base e sz u n xs := by
  rcases h with h | h | h
  · rw [h] at hg
    exact ho.kept hg (by cases u.ownBlock <;> simp)
  · exact ho.kept hg (.inl h)
  · exact ho.kept hg (.inr fun e => h e.symm)
theorem Ap.new {w : World} {v v' u : Value} (h : Ap v u) (hat : v'.ownBlock = v.ownBlock ∨ v'.ownBlock = some w.heap.size) {base : Nat} {e : TypeId} {sz n : Nat} {xs : List Value} (ho : w.ownsRow base e sz u n xs) : Ap v' u := by
  rcases hat with e | e
  · unfold Ap at *; rw [e]; exact h
  · right; right
    rw [e]
    intro e2
    have := (ho.lt _ e2.symm).2
    omega

theorem wpList_push {ops : Array Oper} {rest : List Oper} {o : Oper} {a : Act} {Q : Exit → Act → World → Prop} {W : World} (t e : TypeId) (i : TypeInfo) (z : Value) (sz bytes : Nat)
    (ht : Try.prog.underlying t = some (.slice e)) (hi : Try.prog.info? e = some i) (hz : i.zero = some z) (hsize : i.size = sz) (hby : i.bytes = bytes) (hzs : z.cells.size = sz) (hsz : 0 < sz) (hbb : bytes ≤ 64)
    (hgd : o.guard = none) (s x : Operand) (ho : o.op = .call { callee := .builtin .append, args := #[s, x], argTypes := #[t, t] })
    {base n : Nat} {A : Option Addr} {c : Nat} {xs new : List Value} {g : Nat} (hs : a.eval s = .slice A n c) (hown : W.ownsRow base e sz (.slice A n c) n xs)
    (hx : a.eval x = .slice (some ⟨g, 0, none⟩) 1 1) (hnew : ∀ j u, new[j]? = some u → W.cell? ((⟨g, 0, none⟩ : Addr).add j) = some u) (hnl : new.length = sz) (hone : ∀ u ∈ new, u.oneCell' = true)
    (hlen : n ≤ 1000000) (hbase : base ≤ W.heap.size)
    (h : ∀ A' c' w', w'.ownsRow base e sz (.slice A' (n + 1) c') (n + 1) (xs ++ new) → Below base W w' → (∀ {base2 : Nat} {e2 : TypeId} {sz2 n2 : Nat} {u : Value} {xs2 : List Value}, W.ownsRow base2 e2 sz2 u n2 xs2 → Ap (.slice A n c) u → w'.ownsRow base2 e2 sz2 u n2 xs2 ∧ Ap (.slice A' (n + 1) c') u) → wpList Try.prog ops Q rest (a.put o.dst (.slice A' (n + 1) c')) w') :
    wpList Try.prog ops Q (o :: rest) a W := by
  refine wpList_append_own_at W hgd s x t ho base e i z sz bytes ht hi hz hsize hby hzs hsz (.slice A n c) n xs hs hown ⟨g, 0, none⟩ 1 1 new hx (by rw [hnl, Nat.one_mul]) hnew hone (by unfold maxLen; omega) ?_ hbase ?_
  · calc (n + 1) * bytes ≤ 1000001 * 64 := Nat.mul_le_mul (by omega) hbb
      _ ≤ 140737488355328 := by decide
  · intro v' w' hown' hgrow hnil hat
    obtain ⟨A', c', rfl, _⟩ := own_slice hown'
    exact h A' c' w' hown' ⟨hgrow.os, hgrow.tape, hgrow.output, hgrow.size, fun k hk => hgrow.block k (by omega) (fun e => by have := (hown.lt k e.symm).1; omega)⟩ (fun ho hap => ⟨hap.kept hgrow ho, hap.new hat ho⟩)

/-- The same as one step of a region that draws its order; the new element lies in a block g of its own. -/
theorem step_push {ops : Array Oper} {o : Oper} {a : Act} {K : Act → World → Prop} {Q : Exit → Act → World → Prop} {E : Prop} {W : World} (t e : TypeId) (i : TypeInfo) (z : Value) (sz bytes : Nat)
    (ht : Try.prog.underlying t = some (.slice e)) (hi : Try.prog.info? e = some i) (hz : i.zero = some z) (hsize : i.size = sz) (hby : i.bytes = bytes) (hzs : z.cells.size = sz) (hsz : 0 < sz) (hbb : bytes ≤ 64)
    (hgd : o.guard = none) (s x : Operand) (ho : o.op = .call { callee := .builtin .append, args := #[s, x], argTypes := #[t, t] })
    {base n : Nat} {A : Option Addr} {c : Nat} {xs new : List Value} {g : Nat} (hs : a.eval s = .slice A n c) (hown : W.ownsRow base e sz (.slice A n c) n xs)
    (hx : a.eval x = .slice (some ⟨g, 0, none⟩) 1 1) (hnew : ∀ j u, new[j]? = some u → W.cell? ((⟨g, 0, none⟩ : Addr).add j) = some u) (hnl : new.length = sz) (hone : ∀ u ∈ new, u.oneCell' = true)
    (hlen : n ≤ 1000000) (hbase : base ≤ W.heap.size)
    (h : ∀ A' c' w', w'.ownsRow base e sz (.slice A' (n + 1) c') (n + 1) (xs ++ new) → Below base W w' → (∀ {base2 : Nat} {e2 : TypeId} {sz2 n2 : Nat} {u : Value} {xs2 : List Value}, W.ownsRow base2 e2 sz2 u n2 xs2 → Ap (.slice A n c) u → w'.ownsRow base2 e2 sz2 u n2 xs2 ∧ Ap (.slice A' (n + 1) c') u) → K (a.put o.dst (.slice A' (n + 1) c')) w') :
    if Region.wanted o (yielded ops a.tmps) = true then Oper.wp Try.prog o a W K Q else E := by
  have hw : Region.wanted o (yielded ops a.tmps) = true := by simp [Region.wanted, hgd]
  rw [if_pos hw]
  obtain ⟨v', w', hrun, hown', hgrow, _, hat⟩ := run_append_own_at (P := Try.prog) W base t o.type e i z sz bytes ht hi hz hsize hby hzs hsz (.slice A n c) n xs hown ⟨g, 0, none⟩ 1 1 new (by rw [hnl, Nat.one_mul]) hnew hone (by unfold maxLen; omega)
    (calc (n + 1) * bytes ≤ 1000001 * 64 := Nat.mul_le_mul (by omega) hbb
      _ ≤ 140737488355328 := by decide) hbase
  obtain ⟨A', c', rfl, _⟩ := own_slice hown'
  unfold Oper.wp execOp
  simp only [ho, resolve, invoke, builtin, Sem.run_bind, Sem.run_pure, Result.andThen_ok, List.map_toArray, List.map_cons, List.map_nil, hs, hx, hrun]
  exact h A' c' w' hown' ⟨hgrow.os, hgrow.tape, hgrow.output, hgrow.size, fun k hk => hgrow.block k (by omega) (fun e => by have := (hown.lt k e.symm).1; omega)⟩ (fun ho hap => ⟨hap.kept hgrow ho, hap.new hat ho⟩)
theorem news_of {w : World} {g : Nat} {cs : Array Value} {t : TypeId} {fr : Nat × Nat} (h : w.heap[g]? = some (.cells cs t fr)) : ∀ j u, cs.toList[j]? = some u → w.cell? ((⟨g, 0, none⟩ : Addr).add j) = some u := by
  intro j u hj
  have e : (⟨g, 0, none⟩ : Addr).add j = ⟨g, j, none⟩ := by
    unfold Addr.add
    split
    · rename_i h0; subst h0; rfl
    · simp
  rw [e, cell_of_row w g j _ _ _ h]
  simpa using hj

theorem info_int : ∃ i, Try.prog.info? 3 = some i ∧ i.zero = some (.int .i64 0) ∧ i.size = 1 ∧ i.bytes = 8 := by
  obtain ⟨i0, hi, hz0, hz1, hz2⟩ := info_parts Try.infoInt
  exact ⟨i0, hi, hz0, hz1, hz2⟩

theorem size_setCell (w : World) (a : Addr) (v : Value) : (w.setCell a v).heap.size = w.heap.size := by simp [World.setCell]
/-- 'out = append(out, y)' on ints: y lies in a new block of one cell. -/
theorem wpList_push_int {ops : Array Oper} {rest : List Oper} {o : Oper} {a : Act} {Q : Exit → Act → World → Prop} {W : World}
    (hgd : o.guard = none) (s x : Operand) (ho : o.op = .call { callee := .builtin .append, args := #[s, x], argTypes := #[63, 63] })
    {base : Nat} {A : Option Addr} {c : Nat} {xs : List Int} {y : Int} (hs : a.eval s = .slice A xs.length c) (hown : W.ownsRow base 3 1 (.slice A xs.length c) xs.length (ints xs))
    {g : Nat} (hx : a.eval x = .slice (some ⟨g, 0, none⟩) 1 1) (hgs : g = W.heap.size) (hlen : xs.length ≤ 1000000) (hbase : base ≤ W.heap.size)
    (h : ∀ A' c' w', w'.ownsRow base 3 1 (.slice A' (xs.length + 1) c') (xs.length + 1) (ints (xs ++ [y])) → Below base W w' → (∀ {base2 : Nat} {e2 : TypeId} {sz2 n2 : Nat} {u : Value} {xs2 : List Value}, W.ownsRow base2 e2 sz2 u n2 xs2 → Ap (.slice A xs.length c) u → w'.ownsRow base2 e2 sz2 u n2 xs2 ∧ Ap (.slice A' (xs.length + 1) c') u) → wpList Try.prog ops Q rest (a.put o.dst (.slice A' (xs.length + 1) c')) w') :
    wpList Try.prog ops Q (o :: rest) a (W.alloc (.cells #[.int .i64 y] 3)) := by
  subst hgs
  obtain ⟨i0, hi, hz0, hz1, hz2⟩ := info_int
  refine wpList_push 63 3 i0 (.int .i64 0) 1 8 Try.underlying63 hi hz0 hz1 hz2 rfl (by decide) (by decide) hgd s x ho hs (hown.alloc _) hx (cell_one_new' _ _ _) rfl (by intro u hu; simp at hu; subst hu; rfl) hlen (by simp; omega) ?_
  intro A' c' w' ho' hb' hg'
  exact h A' c' w' (by rw [ints_snoc]; exact ho') (Below.trans ((Below.refl _ _).alloc hbase _) hb') (fun ho hap => hg' (ho.alloc _) hap)

/-- The last element taken off. -/
theorem own_pop {w : World} {base : Nat} {e : TypeId} {sz n c : Nat} {A : Option Addr} {xs last : List Value} (h : w.ownsRow base e sz (.slice A (n + 1) c) (n + 1) (xs ++ last)) (hl : last.length = sz) :
    w.ownsRow base e sz (.slice A n c) n xs := by
  obtain ⟨h1, h2⟩ := h
  have hxs : xs.length = n * sz := by rw [List.length_append, hl, Nat.succ_mul] at h1; omega
  rcases h2 with ⟨_, h0⟩ | ⟨g, cap, cur, hv, hg, hh, hn, hcap, hsz, htake⟩
  · omega
  · injection hv with e1 e2 e3
    subst e1 e3
    refine ⟨hxs, .inr ⟨g, c, cur, rfl, hg, hh, by omega, hcap, hsz, ?_⟩⟩
    have h3 : (cur.toList.take ((n + 1) * sz)).take (n * sz) = (xs ++ last).take (n * sz) := by rw [htake]
    rw [List.take_take, Nat.min_eq_left (Nat.mul_le_mul_right _ (by omega)), ← hxs, List.take_left] at h3
    rw [← hxs]; exact h3
/-- Where an owned row of at least one element lies. -/
theorem own_addr {w : World} {base : Nat} {e : TypeId} {sz n c : Nat} {A : Option Addr} {xs : List Value} (h : w.ownsRow base e sz (.slice A n c) n xs) (hn : 0 < n) :
    ∃ g, A = some ⟨g, 0, none⟩ ∧ base ≤ g ∧ g < w.heap.size ∧ ∀ j u, xs[j]? = some u → w.cell? ⟨g, j, none⟩ = some u := by
  rcases h.2 with ⟨_, h0⟩ | ⟨g, cap, cur, hv, hg, hh, _⟩
  · omega
  · injection hv with e1 e2 e3
    subst e1
    refine ⟨g, rfl, hg, (Array.getElem?_eq_some_iff.1 hh).1, fun j u hj => ?_⟩
    have := h.cells (g := g) rfl j u hj
    have e : (⟨g, 0, none⟩ : Addr).add j = ⟨g, j, none⟩ := by
      unfold Addr.add
      split
      · rename_i h0; subst h0; rfl
      · simp
    rw [← e]; exact this
/-- A row of one element that a literal has just laid. -/
theorem own_lit1 (w : World) (e : TypeId) (u : Value) {base : Nat} (hb : base ≤ w.heap.size) : (w.alloc (.cells #[u] e)).ownsRow base e 1 (.slice (some ⟨w.heap.size, 0, none⟩) 1 1) 1 [u] :=
  ⟨rfl, .inr ⟨w.heap.size, 1, #[u], rfl, hb, heap_alloc_new w _, Nat.le_refl _, by unfold maxLen; omega, rfl, rfl⟩⟩
theorem own_lit1' (w : World) (o : Obj) (e : TypeId) (u : Value) {base : Nat} (hb : base ≤ w.heap.size + 1) : ((w.alloc o).alloc (.cells #[u] e)).ownsRow base e 1 (.slice (some ⟨w.heap.size + 1, 0, none⟩) 1 1) 1 [u] := by
  have h := own_lit1 (w.alloc o) e u (base := base) (by simpa using hb)
  simpa using h
/-- An empty literal. -/
theorem own_lit0 (w : World) (e : TypeId) (sz : Nat) {base : Nat} (hb : base ≤ w.heap.size) : (w.alloc (.cells #[] e)).ownsRow base e sz (.slice (some ⟨w.heap.size, 0, none⟩) 0 0) 0 [] :=
  ⟨by simp, .inr ⟨w.heap.size, 0, #[], rfl, hb, heap_alloc_new w _, Nat.le_refl _, by unfold maxLen; omega, by simp, by simp⟩⟩
/-- One cell of an owned row is stored. -/
theorem own_set {w : World} {base : Nat} {e : TypeId} {sz n c g j : Nat} {xs : List Value} (h : w.ownsRow base e sz (.slice (some ⟨g, 0, none⟩) n c) n xs) (u : Value) :
    (w.setCell ⟨g, j, none⟩ u).ownsRow base e sz (.slice (some ⟨g, 0, none⟩) n c) n (xs.set j u) := by
  obtain ⟨h1, h2⟩ := h
  rcases h2 with ⟨h0, _⟩ | ⟨g', cap, cur, hv, hg, hh, hn, hcap, hsz, htake⟩
  · cases h0
  · injection hv with e1 e2 e3
    injection e1 with e1
    injection e1 with e1
    subst e1 e3
    refine ⟨by rw [List.length_set]; exact h1, .inr ⟨g, c, cur.setIfInBounds j u, rfl, hg, ?_, hn, hcap, by simpa using hsz, ?_⟩⟩
    · simp [World.setCell, Array.getElem?_modify, hh]
    · rw [Array.toList_setIfInBounds, List.take_set, htake]
theorem own_frozen {w : World} {base : Nat} {e : TypeId} {sz n c g : Nat} {xs : List Value} (h : w.ownsRow base e sz (.slice (some ⟨g, 0, none⟩) n c) n xs) (i : Nat) : w.frozen? ⟨g, i, none⟩ = false := by
  rcases h.2 with ⟨h0, _⟩ | ⟨g', cap, cur, hv, _, hh, _⟩
  · cases h0
  · injection hv with e1
    injection e1 with e1
    injection e1 with e1
    subst e1
    simp [World.frozen?, hh]
theorem flat_set {α : Type} (enc : α → List Value) (sz : Nat) (he : ∀ x, (enc x).length = sz) : ∀ (xs : List α) (k : Nat) (x : α), k < xs.length → (xs.set k x).flatMap enc = (xs.flatMap enc).take (k * sz) ++ enc x ++ (xs.flatMap enc).drop ((k + 1) * sz)
  | [], k, x, h => by simp at h
  | y :: r, 0, x, _ => by
    rw [List.set_cons_zero, List.flatMap_cons, List.flatMap_cons, Nat.zero_mul, List.take_zero, List.nil_append, Nat.zero_add, Nat.one_mul, ← he y, List.drop_left]
  | y :: r, k + 1, x, h => by
    have hlen : (y :: r).length = r.length + 1 := rfl
    rw [List.set_cons_succ, List.flatMap_cons, List.flatMap_cons, flat_set enc sz he r k x (by omega)]
    rw [List.take_append, List.drop_append, he, List.take_of_length_le (l := enc y) (by rw [he, Nat.succ_mul]; omega), List.drop_of_length_le (l := enc y) (by rw [he, Nat.succ_mul]; omega)]
    have e1 : (k + 1) * sz - sz = k * sz := by rw [Nat.succ_mul]; omega
    have e2 : (k + 1 + 1) * sz - sz = (k + 1) * sz := by rw [Nat.succ_mul (k + 1)]; omega
    rw [e1, e2]
    simp [List.append_assoc]
/-- The cells of a literal of ints. -/
theorem lit_ints (w : World) (xs : List Int) (e : TypeId) {g : Nat} (hg : g < w.heap.size) : ∀ k, k < xs.length → ∃ b off x, (some (⟨w.heap.size, 0, none⟩ : Addr)) = some ⟨b, off, none⟩ ∧ b < (w.alloc (.cells (ints xs).toArray e)).heap.size ∧ b ≠ g ∧ xs[k]? = some x ∧
    (w.alloc (.cells (ints xs).toArray e)).cell? ⟨b, off + k, none⟩ = some (.int .i64 x) := by
  intro k hk
  refine ⟨w.heap.size, 0, xs[k], rfl, by simp, by omega, List.getElem?_eq_getElem hk, ?_⟩
  rw [cell_of_row _ w.heap.size (0 + k) _ _ _ (heap_alloc_new w _)]
  simp [ints, hk]
end Go.Proofs.Ytgikfdanamjilaa
