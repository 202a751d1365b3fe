/- Lists of lists of ints: owned and read. -/
import Derived.Test.YtfhofincbekadaaOwn
import Derived.Test.YtfhofincbekadaaLeaf
namespace Go.Proofs.Ytfhofincbekadaa
open Go.RowKit

/-- A new row of rows of ints. -/
def OwnLL (w : World) (base : Nat) (v : Value) (n : Nat) (ps : List (List Int)) : Prop :=
  ∃ vs : List Value, w.ownsRow base 32 1 v n vs ∧ vs.length = ps.length ∧ ∀ (i : Nat) (u : Value) (p : List Int), vs[i]? = some u → ps[i]? = some p → (∃ A c, u = .slice A p.length c) ∧ w.ownsRow base 3 1 u p.length (ints p) ∧ Ap v u
theorem OwnLL.below {w w' : World} {base B : Nat} {v : Value} {n : Nat} {ps : List (List Int)} (h : OwnLL w base v n ps) (hb : Below B w w') (hB : w.heap.size ≤ B) : OwnLL w' base v n ps := by
  obtain ⟨vs, h1, h2, h3⟩ := h
  exact ⟨vs, own_below h1 hb hB, h2, fun i u p hu hp => ⟨(h3 i u p hu hp).1, own_below (h3 i u p hu hp).2.1 hb hB, (h3 i u p hu hp).2.2⟩⟩
theorem OwnLL.base {w : World} {base base' : Nat} {v : Value} {n : Nat} {ps : List (List Int)} (h : OwnLL w base v n ps) (hb : base' ≤ base) : OwnLL w base' v n ps := by
  obtain ⟨vs, h1, h2, h3⟩ := h
  exact ⟨vs, own_base h1 hb, h2, fun i u p hu hp => ⟨(h3 i u p hu hp).1, own_base (h3 i u p hu hp).2.1 hb, (h3 i u p hu hp).2.2⟩⟩
theorem OwnLL.nil (w : World) (base : Nat) {v : Value} (h : w.ownsRow base 32 1 v 0 []) : OwnLL w base v 0 [] := ⟨[], h, rfl, fun i u p hu => by simp at hu⟩

/-- A row of rows of ints that is read. -/
def RdLL (w : World) (B : Nat) (A : Option Addr) (ps : List (List Int)) : Prop :=
  ∃ vs : List Value, vs.length = ps.length ∧ Rd w B 1 A ps.length vs ∧ ∀ (i : Nat) (u : Value) (p : List Int), vs[i]? = some u → ps[i]? = some p → ∃ A c, u = .slice A p.length c ∧ Rd w B 1 A p.length (ints p)
theorem RdLL.below {w w' : World} {B : Nat} {A : Option Addr} {ps : List (List Int)} (h : RdLL w B A ps) (hb : Below B w w') : RdLL w' B A ps := by
  obtain ⟨vs, h1, h2, h3⟩ := h
  exact ⟨vs, h1, h2.below hb, fun i u p hu hp => by obtain ⟨A, c, e, hr⟩ := h3 i u p hu hp; exact ⟨A, c, e, hr.below hb⟩⟩
theorem RdLL.more {w : World} {B B' : Nat} {A : Option Addr} {ps : List (List Int)} (h : RdLL w B A ps) (hB : B ≤ B') : RdLL w B' A ps := by
  obtain ⟨vs, h1, h2, h3⟩ := h
  exact ⟨vs, h1, h2.more hB, fun i u p hu hp => by obtain ⟨A, c, e, hr⟩ := h3 i u p hu hp; exact ⟨A, c, e, hr.more hB⟩⟩
theorem RdLL.step {w w' : World} {A : Option Addr} {ps : List (List Int)} (h : RdLL w w.heap.size A ps) (hb : Below w.heap.size w w') : RdLL w' w'.heap.size A ps := (h.below hb).more hb.size
theorem RdLL.of_own {w : World} {base c : Nat} {A : Option Addr} {ps : List (List Int)} (h : OwnLL w base (.slice A ps.length c) ps.length ps) : RdLL w w.heap.size A ps := by
  obtain ⟨vs, h1, h2, h3⟩ := h
  refine ⟨vs, h2, Rd.of_own h1, fun i u p hu hp => ?_⟩
  obtain ⟨⟨A', c', rfl⟩, h4, _⟩ := h3 i u p hu hp
  exact ⟨A', c', rfl, Rd.of_own h4⟩
/-- The element at k. -/
theorem RdLL.at_ {w : World} {B : Nat} {A : Option Addr} {ps : List (List Int)} (h : RdLL w B A ps) {k : Nat} (hk : k < ps.length) :
    ∃ b off p A' c', A = some ⟨b, off, none⟩ ∧ b < B ∧ ps[k]? = some p ∧ w.cell? ⟨b, off + k, none⟩ = some (.slice A' p.length c') ∧ Rd w B 1 A' p.length (ints p) := by
  obtain ⟨vs, h1, h2, h3⟩ := h
  have hv := List.getElem?_eq_getElem (l := vs) (i := k) (by omega)
  have hp := List.getElem?_eq_getElem (l := ps) (i := k) hk
  obtain ⟨A', c', e, hr⟩ := h3 k _ _ hv hp
  obtain ⟨b, off, e1, e2, e3⟩ := h2.2 k _ hv
  exact ⟨b, off, _, A', c', e1, e2, hp, by rw [← e]; exact e3, hr⟩

theorem Try.infoLL : (Try.prog.info? 32).map (fun i => (i.zero, i.size, i.bytes)) = some (some (.slice none 0 0), 1, 24) := by kernel_rfl
theorem info_ll : ∃ i, Try.prog.info? 32 = some i ∧ i.zero = some (.slice none 0 0) ∧ i.size = 1 ∧ i.bytes = 24 := by
  obtain ⟨i0, hi, hz0, hz1, hz2⟩ := info_parts Try.infoLL
  exact ⟨i0, hi, hz0, hz1, hz2⟩
theorem own_lit2 (w : World) (e : TypeId) (u v : Value) {base : Nat} (hb : base ≤ w.heap.size) : (w.alloc (.cells #[u, v] e)).ownsRow base e 1 (.slice (some ⟨w.heap.size, 0, none⟩) 2 2) 2 [u, v] :=
  ⟨rfl, .inr ⟨w.heap.size, 2, #[u, v], rfl, hb, heap_alloc_new w _, Nat.le_refl _, by unfold maxLen; omega, rfl, rfl⟩⟩
/-- 'out = append(out, []int{a, b})'. -/
theorem wpList_push_ll {ops : Array Oper} {rest : List Oper} {o : Oper} {a : Act} {Q : Exit → Act → World → Prop} {W0 : World}
    (hgd : o.guard = none) (s x : Operand) (ho : o.op = .call { callee := .builtin .append, args := #[s, x], argTypes := #[25, 25] })
    {base g : Nat} {A : Option Addr} {c : Nat} {ps : List (List Int)} {a0 b0 : Int} (hs : a.eval s = .slice A ps.length c) (hown : OwnLL W0 base (.slice A ps.length c) ps.length ps)
    (hx : a.eval x = .slice (some ⟨g, 0, none⟩) 1 1) (hg : g = W0.heap.size + 1) (hlen : ps.length ≤ 1000000) (hbase : base ≤ W0.heap.size)
    (h : ∀ A' c' w', OwnLL w' base (.slice A' (ps.length + 1) c') (ps.length + 1) (ps ++ [[a0, b0]]) → Below base W0 w' → wpList Try.prog ops Q rest (a.put o.dst (.slice A' (ps.length + 1) c')) w') :
    wpList Try.prog ops Q (o :: rest) a ((W0.alloc (.cells #[.int .i64 a0, .int .i64 b0] 3)).alloc (.cells #[.slice (some ⟨W0.heap.size, 0, none⟩) 2 2] 32)) := by
  obtain ⟨vs, h1, h2, h3⟩ := hown
  obtain ⟨i0, hi, hz0, hz1, hz2⟩ := info_ll
  have hsz : (W0.alloc (.cells #[.int .i64 a0, .int .i64 b0] 3)).heap.size = W0.heap.size + 1 := by simp
  rw [← hsz] at hg
  subst hg
  refine wpList_push 25 32 i0 (.slice none 0 0) 1 24 Try.underlying25 hi hz0 hz1 hz2 rfl (by decide) (by decide) hgd s x ho hs ((h1.alloc _).alloc _) hx (cell_one_new' _ _ _) rfl (by intro u hu; simp at hu; subst hu; rfl) hlen (by simp; omega) ?_
  intro A' c' w' ho' hb' hg'
  have hnew := (own_lit2 W0 3 (.int .i64 a0) (.int .i64 b0) hbase).alloc (.cells #[.slice (some ⟨W0.heap.size, 0, none⟩) 2 2] 32)
  have hap : Ap (.slice A ps.length c) (.slice (some ⟨W0.heap.size, 0, none⟩) 2 2) := by
    cases hk : (Value.slice A ps.length c).ownBlock with
    | none => exact .inl hk
    | some k =>
      have hlt := (h1.lt k hk).2
      refine .inr (.inr ?_)
      rw [hk]
      intro e
      have : k = W0.heap.size := Option.some.inj e
      omega
  refine h A' c' w' ⟨vs ++ [.slice (some ⟨W0.heap.size, 0, none⟩) 2 2], ho', by simp [h2], fun i u p hu hp => ?_⟩ (((Below.refl _ _).alloc hbase _).alloc (by simp; omega) _ |>.trans hb')
  by_cases hl : i < vs.length
  · rw [List.getElem?_append_left hl] at hu
    rw [List.getElem?_append_left (by omega)] at hp
    obtain ⟨e, ho1, ha1⟩ := h3 i u p hu hp
    have := hg' ((ho1.alloc _).alloc _) ha1
    exact ⟨e, this.1, this.2⟩
  · rw [List.getElem?_append_right (by omega)] at hu hp
    have hi0 : i - vs.length = 0 := by
      have := (List.getElem?_eq_some_iff.1 hu).1
      simp at this
      omega
    rw [hi0] at hu
    rw [← h2, hi0] at hp
    have e1 := Option.some.inj hu
    have e2 := Option.some.inj hp
    subst e1 e2
    have := hg' hnew hap
    exact ⟨⟨_, _, rfl⟩, this.1, this.2⟩
end Go.Proofs.Ytfhofincbekadaa
