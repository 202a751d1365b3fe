/- Lists of impl.Do: a whole slice appended, a copy, one set. -/
import Derived.Test.YtgikfdanamjilaaDws
import Derived.Test.YtgikfdanamjilaaOwn2
import Derived.Lib.SliceRun
namespace Go.Proofs.Ytgikfdanamjilaa
open Go.RowKit
open Tl (Do)

theorem Rd.dw_len {w : World} {B : Nat} {A : Option Addr} {n : Nat} {ws : List Do} (h : Rd w B 2 A n (dws ws)) : n = ws.length := by
  have := h.1; rw [dws_len] at this; omega
theorem Rd.dw_nil {w : World} {B : Nat} {n : Nat} {ws : List Do} (h : Rd w B 2 none n (dws ws)) : ws = [] := by
  cases ws with
  | nil => rfl
  | cons x r =>
    obtain ⟨b, off, y, e, _⟩ := h.dw (k := 0) (by simp)
    cases e
theorem dws_set {ws : List Do} {k : Nat} (x : Do) (hk : k < ws.length) : setAll (dws ws) (k * 2) (dwC x) = dws (ws.set k x) := flat_setAll dwC 2 (fun _ => rfl) x hk
theorem wpList_join_dw {ops : Array Oper} {rest : List Oper} {o : Oper} {a : Act} {Q : Exit → Act → World → Prop} {W : World}
    (hgd : o.guard = none) (s x : Operand) (ho : o.op = .call { callee := .builtin .append, args := #[s, x], argTypes := #[28, 28] })
    {base n m B g : Nat} {A2 : Option Addr} {c c2 : Nat} {xs ys : List Do} (hs : a.eval s = .slice (some ⟨g, 0, none⟩) n c) (hown : W.ownsRow base 46 2 (.slice (some ⟨g, 0, none⟩) n c) n (dws xs))
    (hx : a.eval x = .slice A2 m c2) (hR : Rd W B 2 A2 m (dws ys)) (hlen : n + m ≤ 1000000) (hbase : base ≤ W.heap.size)
    (h : ∀ A' c' w', A' ≠ none → w'.ownsRow base 46 2 (.slice A' (n + m) c') (n + m) (dws (xs ++ ys)) → Below base W w' → (∀ {base2 : Nat} {e2 : TypeId} {sz2 n2 : Nat} {u : Value} {xs2 : List Value}, W.ownsRow base2 e2 sz2 u n2 xs2 → Ap (.slice (some ⟨g, 0, none⟩) n c) u → w'.ownsRow base2 e2 sz2 u n2 xs2 ∧ Ap (.slice A' (n + m) c') u) → wpList Try.prog ops Q rest (a.put o.dst (.slice A' (n + m) c')) w') :
    wpList Try.prog ops Q (o :: rest) a W := by
  obtain ⟨i0, hi, hz0, hz1, hz2⟩ := info_dw
  refine wpList_join 28 46 i0 (.agg #[.int .i64 0, .int .i64 0]) 2 16 Try.underlying28 hi hz0 hz1 hz2 rfl (by decide) (by decide) hgd s x ho hs hown hx hR (dws_one ys) hlen hbase ?_
  intro A' c' w' hA ho' hb' hg'
  exact h A' c' w' hA (by rw [dws_append]; exact ho') hb' hg'
theorem step_join_dw {ops : Array Oper} {o : Oper} {a : Act} {K : Act → World → Prop} {Q : Exit → Act → World → Prop} {E : Prop} {W : World}
    (hgd : o.guard = none) (s x : Operand) (ho : o.op = .call { callee := .builtin .append, args := #[s, x], argTypes := #[28, 28] })
    {base n m B g : Nat} {A2 : Option Addr} {c c2 : Nat} {xs ys : List Do} (hs : a.eval s = .slice (some ⟨g, 0, none⟩) n c) (hown : W.ownsRow base 46 2 (.slice (some ⟨g, 0, none⟩) n c) n (dws xs))
    (hx : a.eval x = .slice A2 m c2) (hR : Rd W B 2 A2 m (dws ys)) (hlen : n + m ≤ 1000000) (hbase : base ≤ W.heap.size)
    (h : ∀ A' c' w', A' ≠ none → w'.ownsRow base 46 2 (.slice A' (n + m) c') (n + m) (dws (xs ++ ys)) → Below base W w' → (∀ {base2 : Nat} {e2 : TypeId} {sz2 n2 : Nat} {u : Value} {xs2 : List Value}, W.ownsRow base2 e2 sz2 u n2 xs2 → Ap (.slice (some ⟨g, 0, none⟩) n c) u → w'.ownsRow base2 e2 sz2 u n2 xs2 ∧ Ap (.slice A' (n + m) c') u) → K (a.put o.dst (.slice A' (n + m) c')) w') :
    if Region.wanted o (yielded ops a.tmps) = true then Oper.wp Try.prog o a W K Q else E := by
  have hw : Region.wanted o (yielded ops a.tmps) = true := by simp [Region.wanted, hgd]
  rw [if_pos hw]
  obtain ⟨i0, hi, hz0, hz1, hz2⟩ := info_dw
  obtain ⟨A', c', w', hr, hA, h2, h3, h4⟩ := run_join W 28 o.type 46 i0 (.agg #[.int .i64 0, .int .i64 0]) 2 16 Try.underlying28 hi hz0 hz1 hz2 rfl (by decide) (by decide) hown (c2 := c2) hR (dws_one ys) hlen hbase
  unfold Oper.wp execOp
  simp only [ho, resolve, invoke, builtin, Sem.run_bind, Sem.run_pure, Result.andThen_ok, List.map_toArray, List.map_cons, List.map_nil, hs, hx, hr]
  exact h A' c' w' hA (by rw [dws_append]; exact h2) h3 h4
end Go.Proofs.Ytgikfdanamjilaa
