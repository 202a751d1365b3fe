/- Lists of impl.Lock: a whole slice appended, a copy, one set. -/
import Derived.Test.YtgofokifcplmoaaDoorLks
import Derived.Test.YtgofokifcplmoaaDoorOwn2
import Derived.Lib.SliceRun
namespace Go.Proofs.YtgofokifcplmoaaDoor
open Go.RowKit
open Tl (Lk)

theorem Rd.lk_len {w : World} {B : Nat} {A : Option Addr} {n : Nat} {ws : List Lk} (h : Rd w B 3 A n (lks ws)) : n = ws.length := by
  have := h.1; rw [lks_len] at this; omega
theorem Rd.lk_nil {w : World} {B : Nat} {n : Nat} {ws : List Lk} (h : Rd w B 3 none n (lks ws)) : ws = [] := by
  cases ws with
  | nil => rfl
  | cons x r =>
    obtain ⟨b, off, y, e, _⟩ := h.lk (k := 0) (by simp)
    cases e
theorem lks_set {ws : List Lk} {k : Nat} (x : Lk) (hk : k < ws.length) : setAll (lks ws) (k * 3) (lkC x) = lks (ws.set k x) := flat_setAll lkC 3 (fun _ => rfl) x hk
theorem wpList_join_lk {ops : Array Oper} {rest : List Oper} {o : Oper} {a : Act} {Q : Exit → Act → World → Prop} {W : World}
    (hgd : o.guard = none) (s x : Operand) (ho : o.op = .call { callee := .builtin .append, args := #[s, x], argTypes := #[26, 26] })
    {base n m B g : Nat} {A2 : Option Addr} {c c2 : Nat} {xs ys : List Lk} (hs : a.eval s = .slice (some ⟨g, 0, none⟩) n c) (hown : W.ownsRow base 33 3 (.slice (some ⟨g, 0, none⟩) n c) n (lks xs))
    (hx : a.eval x = .slice A2 m c2) (hR : Rd W B 3 A2 m (lks ys)) (hlen : n + m ≤ 1000000) (hbase : base ≤ W.heap.size)
    (h : ∀ A' c' w', A' ≠ none → w'.ownsRow base 33 3 (.slice A' (n + m) c') (n + m) (lks (xs ++ ys)) → Below base W w' → (∀ {base2 : Nat} {e2 : TypeId} {sz2 n2 : Nat} {u : Value} {xs2 : List Value}, W.ownsRow base2 e2 sz2 u n2 xs2 → Ap (.slice (some ⟨g, 0, none⟩) n c) u → w'.ownsRow base2 e2 sz2 u n2 xs2 ∧ Ap (.slice A' (n + m) c') u) → wpList Tryd.prog ops Q rest (a.put o.dst (.slice A' (n + m) c')) w') :
    wpList Tryd.prog ops Q (o :: rest) a W := by
  obtain ⟨i0, hi, hz0, hz1, hz2⟩ := info_lk
  refine wpList_join 26 33 i0 (.agg #[.int .i64 0, .int .i64 0, .int .i64 0]) 3 24 Tryd.underlying26 hi hz0 hz1 hz2 rfl (by decide) (by decide) hgd s x ho hs hown hx hR (lks_one ys) hlen hbase ?_
  intro A' c' w' hA ho' hb' hg'
  exact h A' c' w' hA (by rw [lks_append]; exact ho') hb' hg'
theorem step_join_lk {ops : Array Oper} {o : Oper} {a : Act} {K : Act → World → Prop} {Q : Exit → Act → World → Prop} {E : Prop} {W : World}
    (hgd : o.guard = none) (s x : Operand) (ho : o.op = .call { callee := .builtin .append, args := #[s, x], argTypes := #[26, 26] })
    {base n m B g : Nat} {A2 : Option Addr} {c c2 : Nat} {xs ys : List Lk} (hs : a.eval s = .slice (some ⟨g, 0, none⟩) n c) (hown : W.ownsRow base 33 3 (.slice (some ⟨g, 0, none⟩) n c) n (lks xs))
    (hx : a.eval x = .slice A2 m c2) (hR : Rd W B 3 A2 m (lks ys)) (hlen : n + m ≤ 1000000) (hbase : base ≤ W.heap.size)
    (h : ∀ A' c' w', A' ≠ none → w'.ownsRow base 33 3 (.slice A' (n + m) c') (n + m) (lks (xs ++ ys)) → Below base W w' → (∀ {base2 : Nat} {e2 : TypeId} {sz2 n2 : Nat} {u : Value} {xs2 : List Value}, W.ownsRow base2 e2 sz2 u n2 xs2 → Ap (.slice (some ⟨g, 0, none⟩) n c) u → w'.ownsRow base2 e2 sz2 u n2 xs2 ∧ Ap (.slice A' (n + m) c') u) → K (a.put o.dst (.slice A' (n + m) c')) w') :
    if Region.wanted o (yielded ops a.tmps) = true then Oper.wp Tryd.prog o a W K Q else E := by
  have hw : Region.wanted o (yielded ops a.tmps) = true := by simp [Region.wanted, hgd]
  rw [if_pos hw]
  obtain ⟨i0, hi, hz0, hz1, hz2⟩ := info_lk
  obtain ⟨A', c', w', hr, hA, h2, h3, h4⟩ := run_join W 26 o.type 33 i0 (.agg #[.int .i64 0, .int .i64 0, .int .i64 0]) 3 24 Tryd.underlying26 hi hz0 hz1 hz2 rfl (by decide) (by decide) hown (c2 := c2) hR (lks_one ys) hlen hbase
  unfold Oper.wp execOp
  simp only [ho, resolve, invoke, builtin, Sem.run_bind, Sem.run_pure, Result.andThen_ok, List.map_toArray, List.map_cons, List.map_nil, hs, hx, hr]
  exact h A' c' w' hA (by rw [lks_append]; exact h2) h3 h4
end Go.Proofs.YtgofokifcplmoaaDoor
