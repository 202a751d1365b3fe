/- Lists of impl.Lock: a whole slice appended, a copy, one set. -/
import Derived.Test.YthkkbcbbinojlaaDoorLks
import Derived.Test.YthkkbcbbinojlaaDoorOwn2
import Derived.Lib.SliceRun
namespace Go.Proofs.YthkkbcbbinojlaaDoor
open Go.RowKit
open Tl (Lk)

theorem Rd.lk_len {w : World} {B : Nat} {A : Option Addr} {n : Nat} {ws : List Lk} (h : Rd w B 3 A n (lks ws)) : n = ws.length := by
  have := h.1; rw [lks_len] at this; omega
theorem Rd.lk_nil {w : World} {B : Nat} {n : Nat} {ws : List Lk} (h : Rd w B 3 none n (lks ws)) : ws = [] := by
  cases ws with
  | nil => rfl
  | cons x r =>
    obtain ⟨b, off, y, e, _⟩ := h.lk (k := 0) (by simp)
    cases e
theorem lks_set {ws : List Lk} {k : Nat} (x : Lk) (hk : k < ws.length) : setAll (lks ws) (k * 3) (lkC x) = lks (ws.set k x) := flat_setAll lkC 3 (fun _ => rfl) x hk
theorem wpList_join_lk {ops : Array Oper} {rest : List Oper} {o : Oper} {a : Act} {Q : Exit → Act → World → Prop} {W : World}
    (hgd : o.guard = none) (s x : Operand) (ho : o.op = .call { callee := .builtin .append, args := #[s, x], argTypes := #[23, 23] })
    {base n m B g : Nat} {A2 : Option Addr} {c c2 : Nat} {xs ys : List Lk} (hs : a.eval s = .slice (some ⟨g, 0, none⟩) n c) (hown : W.ownsRow base 36 3 (.slice (some ⟨g, 0, none⟩) n c) n (lks xs))
    (hx : a.eval x = .slice A2 m c2) (hR : Rd W B 3 A2 m (lks ys)) (hlen : n + m ≤ 1000000) (hbase : base ≤ W.heap.size)
    (h : ∀ A' c' w', A' ≠ none → w'.ownsRow base 36 3 (.slice A' (n + m) c') (n + m) (lks (xs ++ ys)) → Below base W w' → (∀ {base2 : Nat} {e2 : TypeId} {sz2 n2 : Nat} {u : Value} {xs2 : List Value}, W.ownsRow base2 e2 sz2 u n2 xs2 → Ap (.slice (some ⟨g, 0, none⟩) n c) u → w'.ownsRow base2 e2 sz2 u n2 xs2 ∧ Ap (.slice A' (n + m) c') u) → wpList Tryd.prog ops Q rest (a.put o.dst (.slice A' (n + m) c')) w') :
    wpList Tryd.prog ops Q (o :: rest) a W := by
  obtain ⟨i0, hi, hz0, hz1, hz2⟩ := info_lk
  refine wpList_join 23 36 i0 (.agg #[.int .i64 0, .int .i64 0, .int .i64 0]) 3 24 Tryd.underlying23 hi hz0 hz1 hz2 rfl (by decide) (by decide) hgd s x ho hs hown hx hR (lks_one ys) hlen hbase ?_
  intro A' c' w' hA ho' hb' hg'
  exact h A' c' w' hA (by rw [lks_append]; exact ho') hb' hg'
theorem step_join_lk {ops : Array Oper} {o : Oper} {a : Act} {K : Act → World → Prop} {Q : Exit → Act → World → Prop} {E : Prop} {W : World}
    (hgd : o.guard = none) (s x : Operand) (ho : o.op = .call { callee := .builtin .append, args := #[s, x], argTypes := #[23, 23] })
    {base n m B g : Nat} {A2 : Option Addr} {c c2 : Nat} {xs ys : List Lk} (hs : a.eval s = .slice (some ⟨g, 0, none⟩) n c) (hown : W.ownsRow base 36 3 (.slice (some ⟨g, 0, none⟩) n c) n (lks xs))
    (hx : a.eval x = .slice A2 m c2) (hR : Rd W B 3 A2 m (lks ys)) (hlen : n + m ≤ 1000000) (hbase : base ≤ W.heap.size)
    (h : ∀ A' c' w', A' ≠ none → w'.ownsRow base 36 3 (.slice A' (n + m) c') (n + m) (lks (xs ++ ys)) → Below base W w' → (∀ {base2 : Nat} {e2 : TypeId} {sz2 n2 : Nat} {u : Value} {xs2 : List Value}, W.ownsRow base2 e2 sz2 u n2 xs2 → Ap (.slice (some ⟨g, 0, none⟩) n c) u → w'.ownsRow base2 e2 sz2 u n2 xs2 ∧ Ap (.slice A' (n + m) c') u) → K (a.put o.dst (.slice A' (n + m) c')) w') :
    if Region.wanted o (yielded ops a.tmps) = true then Oper.wp Tryd.prog o a W K Q else E := by
  have hw : Region.wanted o (yielded ops a.tmps) = true := by simp [Region.wanted, hgd]
  rw [if_pos hw]
  obtain ⟨i0, hi, hz0, hz1, hz2⟩ := info_lk
  obtain ⟨A', c', w', hr, hA, h2, h3, h4⟩ := run_join W 23 o.type 36 i0 (.agg #[.int .i64 0, .int .i64 0, .int .i64 0]) 3 24 Tryd.underlying23 hi hz0 hz1 hz2 rfl (by decide) (by decide) hown (c2 := c2) hR (lks_one ys) hlen hbase
  unfold Oper.wp execOp
  simp only [ho, resolve, invoke, builtin, Sem.run_bind, Sem.run_pure, Result.andThen_ok, List.map_toArray, List.map_cons, List.map_nil, hs, hx, hr]
  exact h A' c' w' hA (by rw [lks_append]; exact h2) h3 h4
theorem cloneLk_any (A : Option Addr) (c : Nat) (ws : List Lk) (w : World) (hn : ws.length ≤ 100000) (hr : Rd w w.heap.size 3 A ws.length (lks ws)) :
    Calls Tryd.prog 28 #[.slice A ws.length c] w (PLks w ws) := by
  cases A with
  | none =>
    have h0 := hr.lk_nil
    subst h0
    have hq := fun (w : World) => Go.Lib.run_eql_slice_nil (P := Tryd.prog) w 23 36 none 0 c 0 0 Tryd.underlying23
    go_enter Tryd.func28, Tryd.ntmps28
    go_wp2
    go_ret
    exact ⟨none, 0, rfl, World.ownsRow_nil _ _ _ _, Below.refl _ _⟩
  | some ad =>
    have hb0 := (Below.refl w.heap.size w).alloc (Nat.le_refl _) (.cells #[] 36)
    have hr1 := hr.below hb0
    have hown := own_lit0 w 36 3 (Nat.le_refl _)
    have hq := fun (w : World) => Go.Lib.run_eql_slice_nil (P := Tryd.prog) w 23 36 (some ad) ws.length c 0 0 Tryd.underlying23
    clear hr
    go_enter Tryd.func28, Tryd.ntmps28
    go_wp2_with (at_builtin; refine wpList_join_lk (xs := []) rfl _ _ rfl rfl hown rfl hr1 (by omega) (by simp) ?_; intro A' c' w' _ ho' hb' _)
    have hb2 := hb0.trans hb'
    simp only [Nat.zero_add, List.nil_append] at ho'
    clear hb0 hb' hr1 hown
    go_wp2
    go_ret
    exact ⟨A', c', by simp, ho', hb2⟩
end Go.Proofs.YthkkbcbbinojlaaDoor
