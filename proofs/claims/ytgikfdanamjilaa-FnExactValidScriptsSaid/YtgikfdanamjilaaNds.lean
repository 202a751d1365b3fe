/- Lists of impl.Node in memory. -/
import Derived.Test.YtgikfdanamjilaaOwn
import Derived.Test.YtgikfdanamjilaaPTree
namespace Go.Proofs.Ytgikfdanamjilaa
open Go.RowKit
open Tl (Nd)

def ndC (x : Nd) : List Value := [.int .i64 (x.parent), .string (⟨x.name.toArray⟩), .int .i64 (x.value)]
def nds (xs : List Nd) : List Value := xs.flatMap ndC
theorem nds_len (xs : List Nd) : (nds xs).length = xs.length * 3 := flat_len ndC 3 (fun _ => rfl) xs
theorem nds_snoc (xs : List Nd) (x : Nd) : nds (xs ++ [x]) = nds xs ++ ndC x := flat_snoc ndC xs x
theorem nds_append (xs ys : List Nd) : nds (xs ++ ys) = nds xs ++ nds ys := by simp [nds]
theorem nds_one (xs : List Nd) : ∀ u ∈ nds xs, u.oneCell' = true := by
  intro u hu
  obtain ⟨x, _, hx⟩ := List.mem_flatMap.1 hu
  simp [ndC] at hx
  rcases hx with rfl | rfl | rfl <;> rfl
theorem nds_take (xs : List Nd) (k : Nat) : (nds xs).take (k * 3) = nds (xs.take k) := flat_take ndC 3 (fun _ => rfl) xs k
theorem Rd.nd {w : World} {B : Nat} {A : Option Addr} {m : Nat} {xs : List Nd} (h : Rd w B 3 A m (nds xs)) {k : Nat} (hk : k < xs.length) :
    ∃ b off x, A = some ⟨b, off, none⟩ ∧ b < B ∧ xs[k]? = some x ∧ w.cell? ⟨b, off + k * 3, none⟩ = some (.int .i64 (x.parent)) ∧ w.cell? ⟨b, off + k * 3 + 1, none⟩ = some (.string (⟨x.name.toArray⟩)) ∧ w.cell? ⟨b, off + k * 3 + 2, none⟩ = some (.int .i64 (x.value)) := by
  have hx := List.getElem?_eq_getElem hk
  obtain ⟨b0, off0, h10, h20, h30⟩ := h.2 (k * 3 + 0) _ (flat_get ndC 3 (fun _ => rfl) xs k 0 _ hx (by omega))
  obtain ⟨b1, off1, h11, h21, h31⟩ := h.2 (k * 3 + 1) _ (flat_get ndC 3 (fun _ => rfl) xs k 1 _ hx (by omega))
  obtain ⟨b2, off2, h12, h22, h32⟩ := h.2 (k * 3 + 2) _ (flat_get ndC 3 (fun _ => rfl) xs k 2 _ hx (by omega))
  subst h10
  injection h11 with h11
  injection h11 with e1 e2
  subst e1 e2
  injection h12 with h12
  injection h12 with e1 e2
  subst e1 e2
  exact ⟨b0, off0, xs[k], rfl, h20, hx, h30, h31, h32⟩
theorem Try.infoNd : (Try.prog.info? 52).map (fun i => (i.zero, i.size, i.bytes)) = some (some (.agg #[.int .i64 0, .string ByteArray.empty, .int .i64 0]), 3, 32) := by kernel_rfl
theorem info_nd : ∃ i, Try.prog.info? 52 = some i ∧ i.zero = some (.agg #[.int .i64 0, .string ByteArray.empty, .int .i64 0]) ∧ i.size = 3 ∧ i.bytes = 32 := by
  obtain ⟨i0, hi, hz0, hz1, hz2⟩ := info_parts Try.infoNd
  exact ⟨i0, hi, hz0, hz1, hz2⟩
/-- A function's result is a new slice that reads xs; nothing that was there has turned. -/
def PNds (w : World) (xs : List Nd) (e : Ending) (w' : World) : Prop :=
  ∃ A c, e = .returned (.slice A xs.length c) ∧ w'.ownsRow w.heap.size 52 3 (.slice A xs.length c) xs.length (nds xs) ∧ Below w.heap.size w w'
/-- Append of one, the new one in a block g of its own. -/
theorem wpList_push_nd {ops : Array Oper} {rest : List Oper} {o : Oper} {a : Act} {Q : Exit → Act → World → Prop} {W : World}
    (hgd : o.guard = none) (s x : Operand) (ho : o.op = .call { callee := .builtin .append, args := #[s, x], argTypes := #[23, 23] })
    {base m : Nat} {A : Option Addr} {c : Nat} {xs : List Nd} (y : Nd) (hs : a.eval s = .slice A m c) (hown : W.ownsRow base 52 3 (.slice A m c) m (nds xs))
    {g : Nat} (hx : a.eval x = .slice (some ⟨g, 0, none⟩) 1 1) (hnew : W.heap[g]? = some (.cells (ndC y).toArray 52 (0, 0))) (hlen : m ≤ 1000000) (hbase : base ≤ W.heap.size)
    (h : ∀ A' c' w', w'.ownsRow base 52 3 (.slice A' (m + 1) c') (m + 1) (nds (xs ++ [y])) → Below base W w' → (∀ {base2 : Nat} {e2 : TypeId} {sz2 n2 : Nat} {u : Value} {xs2 : List Value}, W.ownsRow base2 e2 sz2 u n2 xs2 → Ap (.slice A m c) u → w'.ownsRow base2 e2 sz2 u n2 xs2 ∧ Ap (.slice A' (m + 1) c') u) → wpList Try.prog ops Q rest (a.put o.dst (.slice A' (m + 1) c')) w') :
    wpList Try.prog ops Q (o :: rest) a W := by
  obtain ⟨i0, hi, hz0, hz1, hz2⟩ := info_nd
  refine wpList_push 23 52 i0 (.agg #[.int .i64 0, .string ByteArray.empty, .int .i64 0]) 3 32 Try.underlying23 hi hz0 hz1 hz2 rfl (by decide) (by decide) hgd s x ho hs hown hx (new := ndC y) (by simpa using news_of hnew) rfl (by intro u hu; simp [ndC] at hu; rcases hu with rfl | rfl | rfl <;> rfl) hlen hbase ?_
  intro A' c' w' ho' hb' hg'
  exact h A' c' w' (by rw [nds_snoc]; exact ho') hb' hg'
theorem step_push_nd {ops : Array Oper} {o : Oper} {a : Act} {K : Act → World → Prop} {Q : Exit → Act → World → Prop} {E : Prop} {W : World}
    (hgd : o.guard = none) (s x : Operand) (ho : o.op = .call { callee := .builtin .append, args := #[s, x], argTypes := #[23, 23] })
    {base m : Nat} {A : Option Addr} {c : Nat} {xs : List Nd} (y : Nd) (hs : a.eval s = .slice A m c) (hown : W.ownsRow base 52 3 (.slice A m c) m (nds xs))
    {g : Nat} (hx : a.eval x = .slice (some ⟨g, 0, none⟩) 1 1) (hnew : W.heap[g]? = some (.cells (ndC y).toArray 52 (0, 0))) (hlen : m ≤ 1000000) (hbase : base ≤ W.heap.size)
    (h : ∀ A' c' w', w'.ownsRow base 52 3 (.slice A' (m + 1) c') (m + 1) (nds (xs ++ [y])) → Below base W w' → (∀ {base2 : Nat} {e2 : TypeId} {sz2 n2 : Nat} {u : Value} {xs2 : List Value}, W.ownsRow base2 e2 sz2 u n2 xs2 → Ap (.slice A m c) u → w'.ownsRow base2 e2 sz2 u n2 xs2 ∧ Ap (.slice A' (m + 1) c') u) → K (a.put o.dst (.slice A' (m + 1) c')) w') :
    if Region.wanted o (yielded ops a.tmps) = true then Oper.wp Try.prog o a W K Q else E := by
  obtain ⟨i0, hi, hz0, hz1, hz2⟩ := info_nd
  refine step_push 23 52 i0 (.agg #[.int .i64 0, .string ByteArray.empty, .int .i64 0]) 3 32 Try.underlying23 hi hz0 hz1 hz2 rfl (by decide) (by decide) hgd s x ho hs hown hx (new := ndC y) (by simpa using news_of hnew) rfl (by intro u hu; simp [ndC] at hu; rcases hu with rfl | rfl | rfl <;> rfl) hlen hbase ?_
  intro A' c' w' ho' hb' hg'
  exact h A' c' w' (by rw [nds_snoc]; exact ho') hb' hg'
end Go.Proofs.Ytgikfdanamjilaa
