/- Lists of impl.Step: a whole slice appended, a copy, one set. -/
import Derived.Test.YtpbhphpmegcenaaDoorSts
import Derived.Test.YtpbhphpmegcenaaDoorOwn2
import Derived.Lib.SliceRun
namespace Go.Proofs.YtpbhphpmegcenaaDoor
open Go.RowKit
open Tl (St)

theorem Rd.st_len {w : World} {B : Nat} {A : Option Addr} {n : Nat} {ws : List St} (h : Rd w B 4 A n (sts ws)) : n = ws.length := by
  have := h.1; rw [sts_len] at this; omega
theorem Rd.st_nil {w : World} {B : Nat} {n : Nat} {ws : List St} (h : Rd w B 4 none n (sts ws)) : ws = [] := by
  cases ws with
  | nil => rfl
  | cons x r =>
    obtain ⟨b, off, y, e, _⟩ := h.st (k := 0) (by simp)
    cases e
theorem sts_set {ws : List St} {k : Nat} (x : St) (hk : k < ws.length) : setAll (sts ws) (k * 4) (stC x) = sts (ws.set k x) := flat_setAll stC 4 (fun _ => rfl) x hk
theorem wpList_join_st {ops : Array Oper} {rest : List Oper} {o : Oper} {a : Act} {Q : Exit → Act → World → Prop} {W : World}
    (hgd : o.guard = none) (s x : Operand) (ho : o.op = .call { callee := .builtin .append, args := #[s, x], argTypes := #[23, 23] })
    {base n m B g : Nat} {A2 : Option Addr} {c c2 : Nat} {xs ys : List St} (hs : a.eval s = .slice (some ⟨g, 0, none⟩) n c) (hown : W.ownsRow base 29 4 (.slice (some ⟨g, 0, none⟩) n c) n (sts xs))
    (hx : a.eval x = .slice A2 m c2) (hR : Rd W B 4 A2 m (sts ys)) (hlen : n + m ≤ 1000000) (hbase : base ≤ W.heap.size)
    (h : ∀ A' c' w', A' ≠ none → w'.ownsRow base 29 4 (.slice A' (n + m) c') (n + m) (sts (xs ++ ys)) → Below base W w' → (∀ {base2 : Nat} {e2 : TypeId} {sz2 n2 : Nat} {u : Value} {xs2 : List Value}, W.ownsRow base2 e2 sz2 u n2 xs2 → Ap (.slice (some ⟨g, 0, none⟩) n c) u → w'.ownsRow base2 e2 sz2 u n2 xs2 ∧ Ap (.slice A' (n + m) c') u) → wpList Tryd.prog ops Q rest (a.put o.dst (.slice A' (n + m) c')) w') :
    wpList Tryd.prog ops Q (o :: rest) a W := by
  obtain ⟨i0, hi, hz0, hz1, hz2⟩ := info_st
  refine wpList_join 23 29 i0 (.agg #[.int .i64 0, .bool false, .int .i64 0, .int .i64 0]) 4 32 Tryd.underlying23 hi hz0 hz1 hz2 rfl (by decide) (by decide) hgd s x ho hs hown hx hR (sts_one ys) hlen hbase ?_
  intro A' c' w' hA ho' hb' hg'
  exact h A' c' w' hA (by rw [sts_append]; exact ho') hb' hg'
theorem step_join_st {ops : Array Oper} {o : Oper} {a : Act} {K : Act → World → Prop} {Q : Exit → Act → World → Prop} {E : Prop} {W : World}
    (hgd : o.guard = none) (s x : Operand) (ho : o.op = .call { callee := .builtin .append, args := #[s, x], argTypes := #[23, 23] })
    {base n m B g : Nat} {A2 : Option Addr} {c c2 : Nat} {xs ys : List St} (hs : a.eval s = .slice (some ⟨g, 0, none⟩) n c) (hown : W.ownsRow base 29 4 (.slice (some ⟨g, 0, none⟩) n c) n (sts xs))
    (hx : a.eval x = .slice A2 m c2) (hR : Rd W B 4 A2 m (sts ys)) (hlen : n + m ≤ 1000000) (hbase : base ≤ W.heap.size)
    (h : ∀ A' c' w', A' ≠ none → w'.ownsRow base 29 4 (.slice A' (n + m) c') (n + m) (sts (xs ++ ys)) → Below base W w' → (∀ {base2 : Nat} {e2 : TypeId} {sz2 n2 : Nat} {u : Value} {xs2 : List Value}, W.ownsRow base2 e2 sz2 u n2 xs2 → Ap (.slice (some ⟨g, 0, none⟩) n c) u → w'.ownsRow base2 e2 sz2 u n2 xs2 ∧ Ap (.slice A' (n + m) c') u) → K (a.put o.dst (.slice A' (n + m) c')) w') :
    if Region.wanted o (yielded ops a.tmps) = true then Oper.wp Tryd.prog o a W K Q else E := by
  have hw : Region.wanted o (yielded ops a.tmps) = true := by simp [Region.wanted, hgd]
  rw [if_pos hw]
  obtain ⟨i0, hi, hz0, hz1, hz2⟩ := info_st
  obtain ⟨A', c', w', hr, hA, h2, h3, h4⟩ := run_join W 23 o.type 29 i0 (.agg #[.int .i64 0, .bool false, .int .i64 0, .int .i64 0]) 4 32 Tryd.underlying23 hi hz0 hz1 hz2 rfl (by decide) (by decide) hown (c2 := c2) hR (sts_one ys) hlen hbase
  unfold Oper.wp execOp
  simp only [ho, resolve, invoke, builtin, Sem.run_bind, Sem.run_pure, Result.andThen_ok, List.map_toArray, List.map_cons, List.map_nil, hs, hx, hr]
  exact h A' c' w' hA (by rw [sts_append]; exact h2) h3 h4
end Go.Proofs.YtpbhphpmegcenaaDoor
