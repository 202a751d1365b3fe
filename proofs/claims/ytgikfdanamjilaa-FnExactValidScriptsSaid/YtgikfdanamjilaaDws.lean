/- Lists of impl.Do in memory. -/
import Derived.Test.YtgikfdanamjilaaOwn
import Derived.Test.YtgikfdanamjilaaPScripts
namespace Go.Proofs.Ytgikfdanamjilaa
open Go.RowKit
open Tl (Do)

def dwC (x : Do) : List Value := [.int .i64 (x.node), .int .i64 (x.add)]
def dws (xs : List Do) : List Value := xs.flatMap dwC
theorem dws_len (xs : List Do) : (dws xs).length = xs.length * 2 := flat_len dwC 2 (fun _ => rfl) xs
theorem dws_snoc (xs : List Do) (x : Do) : dws (xs ++ [x]) = dws xs ++ dwC x := flat_snoc dwC xs x
theorem dws_append (xs ys : List Do) : dws (xs ++ ys) = dws xs ++ dws ys := by simp [dws]
theorem dws_one (xs : List Do) : ∀ u ∈ dws xs, u.oneCell' = true := by
  intro u hu
  obtain ⟨x, _, hx⟩ := List.mem_flatMap.1 hu
  simp [dwC] at hx
  rcases hx with rfl | rfl <;> rfl
theorem dws_take (xs : List Do) (k : Nat) : (dws xs).take (k * 2) = dws (xs.take k) := flat_take dwC 2 (fun _ => rfl) xs k
theorem Rd.dw {w : World} {B : Nat} {A : Option Addr} {m : Nat} {xs : List Do} (h : Rd w B 2 A m (dws xs)) {k : Nat} (hk : k < xs.length) :
    ∃ b off x, A = some ⟨b, off, none⟩ ∧ b < B ∧ xs[k]? = some x ∧ w.cell? ⟨b, off + k * 2, none⟩ = some (.int .i64 (x.node)) ∧ w.cell? ⟨b, off + k * 2 + 1, none⟩ = some (.int .i64 (x.add)) := by
  have hx := List.getElem?_eq_getElem hk
  obtain ⟨b0, off0, h10, h20, h30⟩ := h.2 (k * 2 + 0) _ (flat_get dwC 2 (fun _ => rfl) xs k 0 _ hx (by omega))
  obtain ⟨b1, off1, h11, h21, h31⟩ := h.2 (k * 2 + 1) _ (flat_get dwC 2 (fun _ => rfl) xs k 1 _ hx (by omega))
  subst h10
  injection h11 with h11
  injection h11 with e1 e2
  subst e1 e2
  exact ⟨b0, off0, xs[k], rfl, h20, hx, h30, h31⟩
theorem Try.infoDw : (Try.prog.info? 46).map (fun i => (i.zero, i.size, i.bytes)) = some (some (.agg #[.int .i64 0, .int .i64 0]), 2, 16) := by kernel_rfl
theorem info_dw : ∃ i, Try.prog.info? 46 = some i ∧ i.zero = some (.agg #[.int .i64 0, .int .i64 0]) ∧ i.size = 2 ∧ i.bytes = 16 := by
  obtain ⟨i0, hi, hz0, hz1, hz2⟩ := info_parts Try.infoDw
  exact ⟨i0, hi, hz0, hz1, hz2⟩
/-- A function's result is a new slice that reads xs; nothing that was there has turned. -/
def PDws (w : World) (xs : List Do) (e : Ending) (w' : World) : Prop :=
  ∃ A c, e = .returned (.slice A xs.length c) ∧ w'.ownsRow w.heap.size 46 2 (.slice A xs.length c) xs.length (dws xs) ∧ Below w.heap.size w w'
/-- Append of one, the new one in a block g of its own. -/
theorem wpList_push_dw {ops : Array Oper} {rest : List Oper} {o : Oper} {a : Act} {Q : Exit → Act → World → Prop} {W : World}
    (hgd : o.guard = none) (s x : Operand) (ho : o.op = .call { callee := .builtin .append, args := #[s, x], argTypes := #[28, 28] })
    {base m : Nat} {A : Option Addr} {c : Nat} {xs : List Do} (y : Do) (hs : a.eval s = .slice A m c) (hown : W.ownsRow base 46 2 (.slice A m c) m (dws xs))
    {g : Nat} (hx : a.eval x = .slice (some ⟨g, 0, none⟩) 1 1) (hnew : W.heap[g]? = some (.cells (dwC y).toArray 46 (0, 0))) (hlen : m ≤ 1000000) (hbase : base ≤ W.heap.size)
    (h : ∀ A' c' w', w'.ownsRow base 46 2 (.slice A' (m + 1) c') (m + 1) (dws (xs ++ [y])) → Below base W w' → (∀ {base2 : Nat} {e2 : TypeId} {sz2 n2 : Nat} {u : Value} {xs2 : List Value}, W.ownsRow base2 e2 sz2 u n2 xs2 → Ap (.slice A m c) u → w'.ownsRow base2 e2 sz2 u n2 xs2 ∧ Ap (.slice A' (m + 1) c') u) → wpList Try.prog ops Q rest (a.put o.dst (.slice A' (m + 1) c')) w') :
    wpList Try.prog ops Q (o :: rest) a W := by
  obtain ⟨i0, hi, hz0, hz1, hz2⟩ := info_dw
  refine wpList_push 28 46 i0 (.agg #[.int .i64 0, .int .i64 0]) 2 16 Try.underlying28 hi hz0 hz1 hz2 rfl (by decide) (by decide) hgd s x ho hs hown hx (new := dwC y) (by simpa using news_of hnew) rfl (by intro u hu; simp [dwC] at hu; rcases hu with rfl | rfl <;> rfl) hlen hbase ?_
  intro A' c' w' ho' hb' hg'
  exact h A' c' w' (by rw [dws_snoc]; exact ho') hb' hg'
theorem step_push_dw {ops : Array Oper} {o : Oper} {a : Act} {K : Act → World → Prop} {Q : Exit → Act → World → Prop} {E : Prop} {W : World}
    (hgd : o.guard = none) (s x : Operand) (ho : o.op = .call { callee := .builtin .append, args := #[s, x], argTypes := #[28, 28] })
    {base m : Nat} {A : Option Addr} {c : Nat} {xs : List Do} (y : Do) (hs : a.eval s = .slice A m c) (hown : W.ownsRow base 46 2 (.slice A m c) m (dws xs))
    {g : Nat} (hx : a.eval x = .slice (some ⟨g, 0, none⟩) 1 1) (hnew : W.heap[g]? = some (.cells (dwC y).toArray 46 (0, 0))) (hlen : m ≤ 1000000) (hbase : base ≤ W.heap.size)
    (h : ∀ A' c' w', w'.ownsRow base 46 2 (.slice A' (m + 1) c') (m + 1) (dws (xs ++ [y])) → Below base W w' → (∀ {base2 : Nat} {e2 : TypeId} {sz2 n2 : Nat} {u : Value} {xs2 : List Value}, W.ownsRow base2 e2 sz2 u n2 xs2 → Ap (.slice A m c) u → w'.ownsRow base2 e2 sz2 u n2 xs2 ∧ Ap (.slice A' (m + 1) c') u) → K (a.put o.dst (.slice A' (m + 1) c')) w') :
    if Region.wanted o (yielded ops a.tmps) = true then Oper.wp Try.prog o a W K Q else E := by
  obtain ⟨i0, hi, hz0, hz1, hz2⟩ := info_dw
  refine step_push 28 46 i0 (.agg #[.int .i64 0, .int .i64 0]) 2 16 Try.underlying28 hi hz0 hz1 hz2 rfl (by decide) (by decide) hgd s x ho hs hown hx (new := dwC y) (by simpa using news_of hnew) rfl (by intro u hu; simp [dwC] at hu; rcases hu with rfl | rfl <;> rfl) hlen hbase ?_
  intro A' c' w' ho' hb' hg'
  exact h A' c' w' (by rw [dws_snoc]; exact ho') hb' hg'
end Go.Proofs.Ytgikfdanamjilaa
