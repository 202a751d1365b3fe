/- Rows that an append to another row leaves. -/
import Derived.Test.YtfhofincbekadaaLL
namespace Go.Proofs.Ytfhofincbekadaa
open Go.RowKit

/-- Each row that is owned at w0 and lies apart from v0 is owned at w and lies apart from v. -/
def Keeps (w0 : World) (v0 : Value) (w : World) (v : Value) : Prop := ∀ (base2 : Nat) (e2 : TypeId) (sz2 n2 : Nat) (u : Value) (xs2 : List Value), w0.ownsRow base2 e2 sz2 u n2 xs2 → Ap v0 u → w.ownsRow base2 e2 sz2 u n2 xs2 ∧ Ap v u
theorem Keeps.refl (w : World) (v : Value) : Keeps w v w v := fun _ _ _ _ _ _ h ha => ⟨h, ha⟩
theorem Keeps.trans {w0 w1 w2 : World} {v0 v1 v2 : Value} (h : Keeps w0 v0 w1 v1) (h' : Keeps w1 v1 w2 v2) : Keeps w0 v0 w2 v2 := fun b e s n u xs ho ha => h' b e s n u xs (h b e s n u xs ho ha).1 (h b e s n u xs ho ha).2
theorem ap_base {w : World} {base : Nat} {e : TypeId} {sz n : Nat} {u v0 : Value} {xs : List Value} (h : w.ownsRow base e sz u n xs) (hk : ∀ k, v0.ownBlock = some k → k < base) : Ap v0 u := by
  cases hv : v0.ownBlock with
  | none => exact .inl hv
  | some k =>
    cases hu : u.ownBlock with
    | none => exact .inr (.inl hu)
    | some k2 =>
      have h1 := (h.lt k2 hu).1
      have h2 := hk k hv
      refine .inr (.inr ?_)
      rw [hv, hu]
      intro e
      have : k = k2 := Option.some.inj e
      omega
theorem Keeps.ll {w0 w : World} {v0 v : Value} {base : Nat} {u : Value} {n : Nat} {ps : List (List Int)} (h : Keeps w0 v0 w v) (hl : OwnLL w0 base u n ps) (hk : ∀ k, v0.ownBlock = some k → k < base) : OwnLL w base u n ps := by
  obtain ⟨vs, h1, h2, h3⟩ := hl
  exact ⟨vs, (h _ _ _ _ _ _ h1 (ap_base h1 hk)).1, h2, fun i x p hx hp => ⟨(h3 i x p hx hp).1, (h _ _ _ _ _ _ (h3 i x p hx hp).2.1 (ap_base (h3 i x p hx hp).2.1 hk)).1, (h3 i x p hx hp).2.2⟩⟩
/-- What lies at k, in each world that keeps the rows. -/
theorem OwnLL.cells {w : World} {base c n : Nat} {A : Option Addr} {ps : List (List Int)} (h : OwnLL w base (.slice A n c) n ps) {k : Nat} {p : List Int} (hp : ps[k]? = some p) :
    ∃ b off A' c', A = some ⟨b, off, none⟩ ∧ b < w.heap.size ∧ ∀ (w' : World) (v v' : Value), Keeps w v w' v' → (∀ j, v.ownBlock = some j → j < base) →
      w'.cell? ⟨b, off + k, none⟩ = some (.slice A' p.length c') ∧ Rd w' w'.heap.size 1 A' p.length (ints p) := by
  obtain ⟨vs, h1, h2, h3⟩ := h
  have hk := (List.getElem?_eq_some_iff.1 hp).1
  have hv := List.getElem?_eq_getElem (l := vs) (i := k) (by omega)
  obtain ⟨⟨A', c', e⟩, ho, _⟩ := h3 k _ _ hv hp
  obtain ⟨b, off, e1, e2, _⟩ := (Rd.of_own h1).2 k _ hv
  refine ⟨b, off, A', c', e1, e2, fun w' v v' hK hb => ⟨?_, ?_⟩⟩
  · obtain ⟨b', off', e3, _, e4⟩ := (Rd.of_own (hK _ _ _ _ _ _ h1 (ap_base h1 hb)).1).2 k _ hv
    rw [e1] at e3
    injection e3 with e3
    injection e3 with e5 e6
    subst e5 e6
    rw [e4, e]
  · rw [e] at ho
    exact Rd.of_own (hK _ _ _ _ _ _ ho (ap_base ho hb)).1
theorem Rd.pair {w : World} {B b off : Nat} {x y : Int} (h : Rd w B 1 (some ⟨b, off, none⟩) 2 (ints [x, y])) : w.cell? ⟨b, off, none⟩ = some (.int .i64 x) ∧ w.cell? ⟨b, off + 1, none⟩ = some (.int .i64 y) := by
  obtain ⟨b1, o1, e1, _, h1⟩ := h.2 0 (.int .i64 x) rfl
  obtain ⟨b2, o2, e2, _, h2⟩ := h.2 1 (.int .i64 y) rfl
  injection e1 with e1
  injection e1 with e3 e4
  injection e2 with e2
  injection e2 with e5 e6
  subst e3 e4 e5 e6
  exact ⟨h1, h2⟩
end Go.Proofs.Ytfhofincbekadaa
