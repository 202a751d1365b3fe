/- Lists of impl.Node: a whole slice appended, a copy, one set. -/
import Derived.Test.YtgikfdanamjilaaNds
import Derived.Test.YtgikfdanamjilaaOwn2
import Derived.Lib.SliceRun
namespace Go.Proofs.Ytgikfdanamjilaa
open Go.RowKit
open Tl (Nd)

theorem Rd.nd_len {w : World} {B : Nat} {A : Option Addr} {n : Nat} {ws : List Nd} (h : Rd w B 3 A n (nds ws)) : n = ws.length := by
  have := h.1; rw [nds_len] at this; omega
theorem Rd.nd_nil {w : World} {B : Nat} {n : Nat} {ws : List Nd} (h : Rd w B 3 none n (nds ws)) : ws = [] := by
  cases ws with
  | nil => rfl
  | cons x r =>
    obtain ⟨b, off, y, e, _⟩ := h.nd (k := 0) (by simp)
    cases e
theorem nds_set {ws : List Nd} {k : Nat} (x : Nd) (hk : k < ws.length) : setAll (nds ws) (k * 3) (ndC x) = nds (ws.set k x) := flat_setAll ndC 3 (fun _ => rfl) x hk
theorem wpList_join_nd {ops : Array Oper} {rest : List Oper} {o : Oper} {a : Act} {Q : Exit → Act → World → Prop} {W : World}
    (hgd : o.guard = none) (s x : Operand) (ho : o.op = .call { callee := .builtin .append, args := #[s, x], argTypes := #[23, 23] })
    {base n m B g : Nat} {A2 : Option Addr} {c c2 : Nat} {xs ys : List Nd} (hs : a.eval s = .slice (some ⟨g, 0, none⟩) n c) (hown : W.ownsRow base 52 3 (.slice (some ⟨g, 0, none⟩) n c) n (nds xs))
    (hx : a.eval x = .slice A2 m c2) (hR : Rd W B 3 A2 m (nds ys)) (hlen : n + m ≤ 1000000) (hbase : base ≤ W.heap.size)
    (h : ∀ A' c' w', A' ≠ none → w'.ownsRow base 52 3 (.slice A' (n + m) c') (n + m) (nds (xs ++ ys)) → Below base W w' → (∀ {base2 : Nat} {e2 : TypeId} {sz2 n2 : Nat} {u : Value} {xs2 : List Value}, W.ownsRow base2 e2 sz2 u n2 xs2 → Ap (.slice (some ⟨g, 0, none⟩) n c) u → w'.ownsRow base2 e2 sz2 u n2 xs2 ∧ Ap (.slice A' (n + m) c') u) → wpList Try.prog ops Q rest (a.put o.dst (.slice A' (n + m) c')) w') :
    wpList Try.prog ops Q (o :: rest) a W := by
  obtain ⟨i0, hi, hz0, hz1, hz2⟩ := info_nd
  refine wpList_join 23 52 i0 (.agg #[.int .i64 0, .string ByteArray.empty, .int .i64 0]) 3 32 Try.underlying23 hi hz0 hz1 hz2 rfl (by decide) (by decide) hgd s x ho hs hown hx hR (nds_one ys) hlen hbase ?_
  intro A' c' w' hA ho' hb' hg'
  exact h A' c' w' hA (by rw [nds_append]; exact ho') hb' hg'
theorem step_join_nd {ops : Array Oper} {o : Oper} {a : Act} {K : Act → World → Prop} {Q : Exit → Act → World → Prop} {E : Prop} {W : World}
    (hgd : o.guard = none) (s x : Operand) (ho : o.op = .call { callee := .builtin .append, args := #[s, x], argTypes := #[23, 23] })
    {base n m B g : Nat} {A2 : Option Addr} {c c2 : Nat} {xs ys : List Nd} (hs : a.eval s = .slice (some ⟨g, 0, none⟩) n c) (hown : W.ownsRow base 52 3 (.slice (some ⟨g, 0, none⟩) n c) n (nds xs))
    (hx : a.eval x = .slice A2 m c2) (hR : Rd W B 3 A2 m (nds ys)) (hlen : n + m ≤ 1000000) (hbase : base ≤ W.heap.size)
    (h : ∀ A' c' w', A' ≠ none → w'.ownsRow base 52 3 (.slice A' (n + m) c') (n + m) (nds (xs ++ ys)) → Below base W w' → (∀ {base2 : Nat} {e2 : TypeId} {sz2 n2 : Nat} {u : Value} {xs2 : List Value}, W.ownsRow base2 e2 sz2 u n2 xs2 → Ap (.slice (some ⟨g, 0, none⟩) n c) u → w'.ownsRow base2 e2 sz2 u n2 xs2 ∧ Ap (.slice A' (n + m) c') u) → K (a.put o.dst (.slice A' (n + m) c')) w') :
    if Region.wanted o (yielded ops a.tmps) = true then Oper.wp Try.prog o a W K Q else E := by
  have hw : Region.wanted o (yielded ops a.tmps) = true := by simp [Region.wanted, hgd]
  rw [if_pos hw]
  obtain ⟨i0, hi, hz0, hz1, hz2⟩ := info_nd
  obtain ⟨A', c', w', hr, hA, h2, h3, h4⟩ := run_join W 23 o.type 52 i0 (.agg #[.int .i64 0, .string ByteArray.empty, .int .i64 0]) 3 32 Try.underlying23 hi hz0 hz1 hz2 rfl (by decide) (by decide) hown (c2 := c2) hR (nds_one ys) hlen hbase
  unfold Oper.wp execOp
  simp only [ho, resolve, invoke, builtin, Sem.run_bind, Sem.run_pure, Result.andThen_ok, List.map_toArray, List.map_cons, List.map_nil, hs, hx, hr]
  exact h A' c' w' hA (by rw [nds_append]; exact h2) h3 h4
end Go.Proofs.Ytgikfdanamjilaa
