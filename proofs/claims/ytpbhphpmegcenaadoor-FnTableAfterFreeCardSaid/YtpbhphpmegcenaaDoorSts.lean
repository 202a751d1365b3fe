/- Lists of impl.Step in memory. -/
import Derived.Test.YtpbhphpmegcenaaDoorOwn
import Derived.Test.YtpbhphpmegcenaaDoorPSteps
namespace Go.Proofs.YtpbhphpmegcenaaDoor
open Go.RowKit
open Tl (St)

def stC (x : St) : List Value := [.int .i64 (x.who), .bool (x.free), .int .i64 (x.node), .int .i64 (x.mode)]
def sts (xs : List St) : List Value := xs.flatMap stC
theorem sts_len (xs : List St) : (sts xs).length = xs.length * 4 := flat_len stC 4 (fun _ => rfl) xs
theorem sts_snoc (xs : List St) (x : St) : sts (xs ++ [x]) = sts xs ++ stC x := flat_snoc stC xs x
theorem sts_append (xs ys : List St) : sts (xs ++ ys) = sts xs ++ sts ys := by simp [sts]
theorem sts_one (xs : List St) : ∀ u ∈ sts xs, u.oneCell' = true := by
  intro u hu
  obtain ⟨x, _, hx⟩ := List.mem_flatMap.1 hu
  simp [stC] at hx
  rcases hx with rfl | rfl | rfl | rfl <;> rfl
theorem sts_take (xs : List St) (k : Nat) : (sts xs).take (k * 4) = sts (xs.take k) := flat_take stC 4 (fun _ => rfl) xs k
theorem Rd.st {w : World} {B : Nat} {A : Option Addr} {m : Nat} {xs : List St} (h : Rd w B 4 A m (sts xs)) {k : Nat} (hk : k < xs.length) :
    ∃ b off x, A = some ⟨b, off, none⟩ ∧ b < B ∧ xs[k]? = some x ∧ w.cell? ⟨b, off + k * 4, none⟩ = some (.int .i64 (x.who)) ∧ w.cell? ⟨b, off + k * 4 + 1, none⟩ = some (.bool (x.free)) ∧ w.cell? ⟨b, off + k * 4 + 2, none⟩ = some (.int .i64 (x.node)) ∧ w.cell? ⟨b, off + k * 4 + 3, none⟩ = some (.int .i64 (x.mode)) := by
  have hx := List.getElem?_eq_getElem hk
  obtain ⟨b0, off0, h10, h20, h30⟩ := h.2 (k * 4 + 0) _ (flat_get stC 4 (fun _ => rfl) xs k 0 _ hx (by omega))
  obtain ⟨b1, off1, h11, h21, h31⟩ := h.2 (k * 4 + 1) _ (flat_get stC 4 (fun _ => rfl) xs k 1 _ hx (by omega))
  obtain ⟨b2, off2, h12, h22, h32⟩ := h.2 (k * 4 + 2) _ (flat_get stC 4 (fun _ => rfl) xs k 2 _ hx (by omega))
  obtain ⟨b3, off3, h13, h23, h33⟩ := h.2 (k * 4 + 3) _ (flat_get stC 4 (fun _ => rfl) xs k 3 _ hx (by omega))
  subst h10
  injection h11 with h11
  injection h11 with e1 e2
  subst e1 e2
  injection h12 with h12
  injection h12 with e1 e2
  subst e1 e2
  injection h13 with h13
  injection h13 with e1 e2
  subst e1 e2
  exact ⟨b0, off0, xs[k], rfl, h20, hx, h30, h31, h32, h33⟩
theorem Tryd.infoSt : (Tryd.prog.info? 29).map (fun i => (i.zero, i.size, i.bytes)) = some (some (.agg #[.int .i64 0, .bool false, .int .i64 0, .int .i64 0]), 4, 32) := by kernel_rfl
theorem info_st : ∃ i, Tryd.prog.info? 29 = some i ∧ i.zero = some (.agg #[.int .i64 0, .bool false, .int .i64 0, .int .i64 0]) ∧ i.size = 4 ∧ i.bytes = 32 := by
  obtain ⟨i0, hi, hz0, hz1, hz2⟩ := info_parts Tryd.infoSt
  exact ⟨i0, hi, hz0, hz1, hz2⟩
/-- A function's result is a new slice that reads xs; nothing that was there has turned. -/
def PSts (w : World) (xs : List St) (e : Ending) (w' : World) : Prop :=
  ∃ A c, e = .returned (.slice A xs.length c) ∧ w'.ownsRow w.heap.size 29 4 (.slice A xs.length c) xs.length (sts xs) ∧ Below w.heap.size w w'
/-- Append of one, the new one in a block g of its own. -/
theorem wpList_push_st {ops : Array Oper} {rest : List Oper} {o : Oper} {a : Act} {Q : Exit → Act → World → Prop} {W : World}
    (hgd : o.guard = none) (s x : Operand) (ho : o.op = .call { callee := .builtin .append, args := #[s, x], argTypes := #[23, 23] })
    {base m : Nat} {A : Option Addr} {c : Nat} {xs : List St} (y : St) (hs : a.eval s = .slice A m c) (hown : W.ownsRow base 29 4 (.slice A m c) m (sts xs))
    {g : Nat} (hx : a.eval x = .slice (some ⟨g, 0, none⟩) 1 1) (hnew : W.heap[g]? = some (.cells (stC y).toArray 29 (0, 0))) (hlen : m ≤ 1000000) (hbase : base ≤ W.heap.size)
    (h : ∀ A' c' w', w'.ownsRow base 29 4 (.slice A' (m + 1) c') (m + 1) (sts (xs ++ [y])) → Below base W w' → (∀ {base2 : Nat} {e2 : TypeId} {sz2 n2 : Nat} {u : Value} {xs2 : List Value}, W.ownsRow base2 e2 sz2 u n2 xs2 → Ap (.slice A m c) u → w'.ownsRow base2 e2 sz2 u n2 xs2 ∧ Ap (.slice A' (m + 1) c') u) → wpList Tryd.prog ops Q rest (a.put o.dst (.slice A' (m + 1) c')) w') :
    wpList Tryd.prog ops Q (o :: rest) a W := by
  obtain ⟨i0, hi, hz0, hz1, hz2⟩ := info_st
  refine wpList_push 23 29 i0 (.agg #[.int .i64 0, .bool false, .int .i64 0, .int .i64 0]) 4 32 Tryd.underlying23 hi hz0 hz1 hz2 rfl (by decide) (by decide) hgd s x ho hs hown hx (new := stC y) (by simpa using news_of hnew) rfl (by intro u hu; simp [stC] at hu; rcases hu with rfl | rfl | rfl | rfl <;> rfl) hlen hbase ?_
  intro A' c' w' ho' hb' hg'
  exact h A' c' w' (by rw [sts_snoc]; exact ho') hb' hg'
theorem step_push_st {ops : Array Oper} {o : Oper} {a : Act} {K : Act → World → Prop} {Q : Exit → Act → World → Prop} {E : Prop} {W : World}
    (hgd : o.guard = none) (s x : Operand) (ho : o.op = .call { callee := .builtin .append, args := #[s, x], argTypes := #[23, 23] })
    {base m : Nat} {A : Option Addr} {c : Nat} {xs : List St} (y : St) (hs : a.eval s = .slice A m c) (hown : W.ownsRow base 29 4 (.slice A m c) m (sts xs))
    {g : Nat} (hx : a.eval x = .slice (some ⟨g, 0, none⟩) 1 1) (hnew : W.heap[g]? = some (.cells (stC y).toArray 29 (0, 0))) (hlen : m ≤ 1000000) (hbase : base ≤ W.heap.size)
    (h : ∀ A' c' w', w'.ownsRow base 29 4 (.slice A' (m + 1) c') (m + 1) (sts (xs ++ [y])) → Below base W w' → (∀ {base2 : Nat} {e2 : TypeId} {sz2 n2 : Nat} {u : Value} {xs2 : List Value}, W.ownsRow base2 e2 sz2 u n2 xs2 → Ap (.slice A m c) u → w'.ownsRow base2 e2 sz2 u n2 xs2 ∧ Ap (.slice A' (m + 1) c') u) → K (a.put o.dst (.slice A' (m + 1) c')) w') :
    if Region.wanted o (yielded ops a.tmps) = true then Oper.wp Tryd.prog o a W K Q else E := by
  obtain ⟨i0, hi, hz0, hz1, hz2⟩ := info_st
  refine step_push 23 29 i0 (.agg #[.int .i64 0, .bool false, .int .i64 0, .int .i64 0]) 4 32 Tryd.underlying23 hi hz0 hz1 hz2 rfl (by decide) (by decide) hgd s x ho hs hown hx (new := stC y) (by simpa using news_of hnew) rfl (by intro u hu; simp [stC] at hu; rcases hu with rfl | rfl | rfl | rfl <;> rfl) hlen hbase ?_
  intro A' c' w' ho' hb' hg'
  exact h A' c' w' (by rw [sts_snoc]; exact ho') hb' hg'
end Go.Proofs.YtpbhphpmegcenaaDoor
