/- Lists of impl.Access in memory. -/
import Derived.Test.YtpbhphpmegcenaaDoorOwn
import Derived.Test.YtpbhphpmegcenaaDoorPSerial
namespace Go.Proofs.YtpbhphpmegcenaaDoor
open Go.RowKit
open Tl (Ac)

def acC (x : Ac) : List Value := [.int .i64 (x.who), .int .i64 (x.node), .bool (x.write)]
def acs (xs : List Ac) : List Value := xs.flatMap acC
theorem acs_len (xs : List Ac) : (acs xs).length = xs.length * 3 := flat_len acC 3 (fun _ => rfl) xs
theorem acs_snoc (xs : List Ac) (x : Ac) : acs (xs ++ [x]) = acs xs ++ acC x := flat_snoc acC xs x
theorem acs_append (xs ys : List Ac) : acs (xs ++ ys) = acs xs ++ acs ys := by simp [acs]
theorem acs_one (xs : List Ac) : ∀ u ∈ acs xs, u.oneCell' = true := by
  intro u hu
  obtain ⟨x, _, hx⟩ := List.mem_flatMap.1 hu
  simp [acC] at hx
  rcases hx with rfl | rfl | rfl <;> rfl
theorem acs_take (xs : List Ac) (k : Nat) : (acs xs).take (k * 3) = acs (xs.take k) := flat_take acC 3 (fun _ => rfl) xs k
theorem Rd.ac {w : World} {B : Nat} {A : Option Addr} {m : Nat} {xs : List Ac} (h : Rd w B 3 A m (acs xs)) {k : Nat} (hk : k < xs.length) :
    ∃ b off x, A = some ⟨b, off, none⟩ ∧ b < B ∧ xs[k]? = some x ∧ w.cell? ⟨b, off + k * 3, none⟩ = some (.int .i64 (x.who)) ∧ w.cell? ⟨b, off + k * 3 + 1, none⟩ = some (.int .i64 (x.node)) ∧ w.cell? ⟨b, off + k * 3 + 2, none⟩ = some (.bool (x.write)) := by
  have hx := List.getElem?_eq_getElem hk
  obtain ⟨b0, off0, h10, h20, h30⟩ := h.2 (k * 3 + 0) _ (flat_get acC 3 (fun _ => rfl) xs k 0 _ hx (by omega))
  obtain ⟨b1, off1, h11, h21, h31⟩ := h.2 (k * 3 + 1) _ (flat_get acC 3 (fun _ => rfl) xs k 1 _ hx (by omega))
  obtain ⟨b2, off2, h12, h22, h32⟩ := h.2 (k * 3 + 2) _ (flat_get acC 3 (fun _ => rfl) xs k 2 _ hx (by omega))
  subst h10
  injection h11 with h11
  injection h11 with e1 e2
  subst e1 e2
  injection h12 with h12
  injection h12 with e1 e2
  subst e1 e2
  exact ⟨b0, off0, xs[k], rfl, h20, hx, h30, h31, h32⟩
theorem Tryd.infoAc : (Tryd.prog.info? 61).map (fun i => (i.zero, i.size, i.bytes)) = some (some (.agg #[.int .i64 0, .int .i64 0, .bool false]), 3, 24) := by kernel_rfl
theorem info_ac : ∃ i, Tryd.prog.info? 61 = some i ∧ i.zero = some (.agg #[.int .i64 0, .int .i64 0, .bool false]) ∧ i.size = 3 ∧ i.bytes = 24 := by
  obtain ⟨i0, hi, hz0, hz1, hz2⟩ := info_parts Tryd.infoAc
  exact ⟨i0, hi, hz0, hz1, hz2⟩
/-- A function's result is a new slice that reads xs; nothing that was there has turned. -/
def PAcs (w : World) (xs : List Ac) (e : Ending) (w' : World) : Prop :=
  ∃ A c, e = .returned (.slice A xs.length c) ∧ w'.ownsRow w.heap.size 61 3 (.slice A xs.length c) xs.length (acs xs) ∧ Below w.heap.size w w'
/-- Append of one, the new one in a block g of its own. -/
theorem wpList_push_ac {ops : Array Oper} {rest : List Oper} {o : Oper} {a : Act} {Q : Exit → Act → World → Prop} {W : World}
    (hgd : o.guard = none) (s x : Operand) (ho : o.op = .call { callee := .builtin .append, args := #[s, x], argTypes := #[32, 32] })
    {base m : Nat} {A : Option Addr} {c : Nat} {xs : List Ac} (y : Ac) (hs : a.eval s = .slice A m c) (hown : W.ownsRow base 61 3 (.slice A m c) m (acs xs))
    {g : Nat} (hx : a.eval x = .slice (some ⟨g, 0, none⟩) 1 1) (hnew : W.heap[g]? = some (.cells (acC y).toArray 61 (0, 0))) (hlen : m ≤ 1000000) (hbase : base ≤ W.heap.size)
    (h : ∀ A' c' w', w'.ownsRow base 61 3 (.slice A' (m + 1) c') (m + 1) (acs (xs ++ [y])) → Below base W w' → (∀ {base2 : Nat} {e2 : TypeId} {sz2 n2 : Nat} {u : Value} {xs2 : List Value}, W.ownsRow base2 e2 sz2 u n2 xs2 → Ap (.slice A m c) u → w'.ownsRow base2 e2 sz2 u n2 xs2 ∧ Ap (.slice A' (m + 1) c') u) → wpList Tryd.prog ops Q rest (a.put o.dst (.slice A' (m + 1) c')) w') :
    wpList Tryd.prog ops Q (o :: rest) a W := by
  obtain ⟨i0, hi, hz0, hz1, hz2⟩ := info_ac
  refine wpList_push 32 61 i0 (.agg #[.int .i64 0, .int .i64 0, .bool false]) 3 24 Tryd.underlying32 hi hz0 hz1 hz2 rfl (by decide) (by decide) hgd s x ho hs hown hx (new := acC y) (by simpa using news_of hnew) rfl (by intro u hu; simp [acC] at hu; rcases hu with rfl | rfl | rfl <;> rfl) hlen hbase ?_
  intro A' c' w' ho' hb' hg'
  exact h A' c' w' (by rw [acs_snoc]; exact ho') hb' hg'
theorem step_push_ac {ops : Array Oper} {o : Oper} {a : Act} {K : Act → World → Prop} {Q : Exit → Act → World → Prop} {E : Prop} {W : World}
    (hgd : o.guard = none) (s x : Operand) (ho : o.op = .call { callee := .builtin .append, args := #[s, x], argTypes := #[32, 32] })
    {base m : Nat} {A : Option Addr} {c : Nat} {xs : List Ac} (y : Ac) (hs : a.eval s = .slice A m c) (hown : W.ownsRow base 61 3 (.slice A m c) m (acs xs))
    {g : Nat} (hx : a.eval x = .slice (some ⟨g, 0, none⟩) 1 1) (hnew : W.heap[g]? = some (.cells (acC y).toArray 61 (0, 0))) (hlen : m ≤ 1000000) (hbase : base ≤ W.heap.size)
    (h : ∀ A' c' w', w'.ownsRow base 61 3 (.slice A' (m + 1) c') (m + 1) (acs (xs ++ [y])) → Below base W w' → (∀ {base2 : Nat} {e2 : TypeId} {sz2 n2 : Nat} {u : Value} {xs2 : List Value}, W.ownsRow base2 e2 sz2 u n2 xs2 → Ap (.slice A m c) u → w'.ownsRow base2 e2 sz2 u n2 xs2 ∧ Ap (.slice A' (m + 1) c') u) → K (a.put o.dst (.slice A' (m + 1) c')) w') :
    if Region.wanted o (yielded ops a.tmps) = true then Oper.wp Tryd.prog o a W K Q else E := by
  obtain ⟨i0, hi, hz0, hz1, hz2⟩ := info_ac
  refine step_push 32 61 i0 (.agg #[.int .i64 0, .int .i64 0, .bool false]) 3 24 Tryd.underlying32 hi hz0 hz1 hz2 rfl (by decide) (by decide) hgd s x ho hs hown hx (new := acC y) (by simpa using news_of hnew) rfl (by intro u hu; simp [acC] at hu; rcases hu with rfl | rfl | rfl <;> rfl) hlen hbase ?_
  intro A' c' w' ho' hb' hg'
  exact h A' c' w' (by rw [acs_snoc]; exact ho') hb' hg'
end Go.Proofs.YtpbhphpmegcenaaDoor
