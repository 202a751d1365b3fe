/- Lists of waits in memory. -/
import Derived.Test.YthkkbcbbinojlaaDoorOwn
import Derived.Test.YthkkbcbbinojlaaDoorPWaits
namespace Go.Proofs.YthkkbcbbinojlaaDoor
open Go.RowKit
open Tl (Wt)

def wtC (x : Wt) : List Value := [.int .i64 x.who, .int .i64 x.to]
def wts (ws : List Wt) : List Value := ws.flatMap wtC
theorem wts_len (ws : List Wt) : (wts ws).length = ws.length * 2 := flat_len wtC 2 (fun _ => rfl) ws
theorem wts_snoc (ws : List Wt) (x : Wt) : wts (ws ++ [x]) = wts ws ++ [.int .i64 x.who, .int .i64 x.to] := flat_snoc wtC ws x
theorem wts_one (ws : List Wt) : ∀ u ∈ wts ws, u.oneCell' = true := by
  intro u hu
  obtain ⟨x, _, hx⟩ := List.mem_flatMap.1 hu
  simp [wtC] at hx
  rcases hx with rfl | rfl <;> rfl
theorem wts_take (ws : List Wt) (k : Nat) : (wts ws).take (k * 2) = wts (ws.take k) := flat_take wtC 2 (fun _ => rfl) ws k
theorem Rd.wt {w : World} {B : Nat} {A : Option Addr} {n : Nat} {ws : List Wt} (h : Rd w B 2 A n (wts ws)) {k : Nat} (hk : k < ws.length) :
    ∃ b off x, A = some ⟨b, off, none⟩ ∧ b < B ∧ ws[k]? = some x ∧ w.cell? ⟨b, off + k * 2, none⟩ = some (.int .i64 x.who) ∧ w.cell? ⟨b, off + k * 2 + 1, none⟩ = some (.int .i64 x.to) := by
  have hx := List.getElem?_eq_getElem hk
  obtain ⟨b, off, h1, h2, h3⟩ := h.2 (k * 2 + 0) _ (flat_get wtC 2 (fun _ => rfl) ws k 0 _ hx (by omega))
  obtain ⟨b', off', h1', h2', h3'⟩ := h.2 (k * 2 + 1) _ (flat_get wtC 2 (fun _ => rfl) ws k 1 _ hx (by omega))
  subst h1
  injection h1' with h1'
  injection h1' with e1 e2
  subst e1 e2
  exact ⟨b, off, ws[k], rfl, h2, hx, h3, h3'⟩
theorem Rd.wt_len {w : World} {B : Nat} {A : Option Addr} {n : Nat} {ws : List Wt} (h : Rd w B 2 A n (wts ws)) : n = ws.length := by
  have := h.1; rw [wts_len] at this; omega
theorem Tryd.infoWait : (Tryd.prog.info? 38).map (fun i => (i.zero, i.size, i.bytes)) = some (some (.agg #[.int .i64 0, .int .i64 0]), 2, 16) := by kernel_rfl
/-- A function's result is a new slice of waits that reads ws; nothing that was there has turned. -/
def PWts (w : World) (ws : List Wt) (e : Ending) (w' : World) : Prop :=
  ∃ A c, e = .returned (.slice A ws.length c) ∧ w'.ownsRow w.heap.size 38 2 (.slice A ws.length c) ws.length (wts ws) ∧ Below w.heap.size w w'
theorem set_two {a b : Value} : ∀ {l : List Value} {i : Nat}, i + 1 < l.length → (l.set i a).set (i + 1) b = l.take i ++ [a, b] ++ l.drop (i + 2)
  | [], i, h => by simp at h
  | [_], i, h => by simp at h
  | _ :: _ :: _, 0, _ => rfl
  | x :: y :: r, i + 1, h => by
    have := set_two (a := a) (b := b) (l := y :: r) (i := i) (by simp at h ⊢; omega)
    rw [List.set_cons_succ, List.set_cons_succ, this]
    simp
theorem wts_set {ws : List Wt} {k : Nat} {x : Wt} (hk : k < ws.length) : ((wts ws).set (k * 2) (.int .i64 x.who)).set (k * 2 + 1) (.int .i64 x.to) = wts (ws.set k x) := by
  have hl := wts_len ws
  rw [set_two (by omega)]
  have := flat_set wtC 2 (fun _ => rfl) ws k x hk
  unfold wts
  rw [this]
  have e : (k + 1) * 2 = k * 2 + 2 := by omega
  rw [e]
  rfl
theorem info_wait : ∃ i, Tryd.prog.info? 38 = some i ∧ i.zero = some (.agg #[.int .i64 0, .int .i64 0]) ∧ i.size = 2 ∧ i.bytes = 16 := by
  obtain ⟨i0, hi, hz0, hz1, hz2⟩ := info_parts Tryd.infoWait
  exact ⟨i0, hi, hz0, hz1, hz2⟩
/-- 'out = append(out, Wait{..})': the new one lies in a new block of two cells. -/
theorem wpList_push_wt {ops : Array Oper} {rest : List Oper} {o : Oper} {a : Act} {Q : Exit → Act → World → Prop} {W : World}
    (hgd : o.guard = none) (s x : Operand) (ho : o.op = .call { callee := .builtin .append, args := #[s, x], argTypes := #[29, 29] })
    {base : Nat} {A : Option Addr} {c : Nat} {xs : List Wt} {y1 y2 : Int} (hs : a.eval s = .slice A xs.length c) (hown : W.ownsRow base 38 2 (.slice A xs.length c) xs.length (wts xs))
    {g : Nat} (hx : a.eval x = .slice (some ⟨g, 0, none⟩) 1 1) (hgs : g = W.heap.size) (hlen : xs.length ≤ 1000000) (hbase : base ≤ W.heap.size)
    (h : ∀ A' c' w', w'.ownsRow base 38 2 (.slice A' (xs.length + 1) c') (xs.length + 1) (wts (xs ++ [⟨y1, y2⟩])) → Below base W w' → (∀ {base2 : Nat} {e2 : TypeId} {sz2 n2 : Nat} {u : Value} {xs2 : List Value}, W.ownsRow base2 e2 sz2 u n2 xs2 → Ap (.slice A xs.length c) u → w'.ownsRow base2 e2 sz2 u n2 xs2 ∧ Ap (.slice A' (xs.length + 1) c') u) → wpList Tryd.prog ops Q rest (a.put o.dst (.slice A' (xs.length + 1) c')) w') :
    wpList Tryd.prog ops Q (o :: rest) a (W.alloc (.cells #[.int .i64 y1, .int .i64 y2] 38)) := by
  subst hgs
  obtain ⟨i0, hi, hz0, hz1, hz2⟩ := info_wait
  refine wpList_push 29 38 i0 (.agg #[.int .i64 0, .int .i64 0]) 2 16 Tryd.underlying29 hi hz0 hz1 hz2 rfl (by decide) (by decide) hgd s x ho hs (hown.alloc _) hx (cell_two_new _ _ _ _) rfl (by intro u hu; simp at hu; rcases hu with rfl | rfl <;> rfl) hlen (by simp; omega) ?_
  intro A' c' w' ho' hb' hg'
  exact h A' c' w' (by rw [wts_snoc]; exact ho') (Below.trans ((Below.refl _ _).alloc hbase _) hb') (fun ho hap => hg' (ho.alloc _) hap)
theorem step_push_wt {ops : Array Oper} {o : Oper} {a : Act} {K : Act → World → Prop} {Q : Exit → Act → World → Prop} {E : Prop} {W : World}
    (hgd : o.guard = none) (s x : Operand) (ho : o.op = .call { callee := .builtin .append, args := #[s, x], argTypes := #[29, 29] })
    {base n : Nat} {A : Option Addr} {c : Nat} {xs : List Wt} {y1 y2 : Int} (hs : a.eval s = .slice A n c) (hown : W.ownsRow base 38 2 (.slice A n c) n (wts xs))
    {g : Nat} (hx : a.eval x = .slice (some ⟨g, 0, none⟩) 1 1) (hnew : W.heap[g]? = some (.cells #[.int .i64 y1, .int .i64 y2] 38 (0, 0))) (hlen : n ≤ 1000000) (hbase : base ≤ W.heap.size)
    (h : ∀ A' c' w', w'.ownsRow base 38 2 (.slice A' (n + 1) c') (n + 1) (wts (xs ++ [⟨y1, y2⟩])) → Below base W w' → (∀ {base2 : Nat} {e2 : TypeId} {sz2 n2 : Nat} {u : Value} {xs2 : List Value}, W.ownsRow base2 e2 sz2 u n2 xs2 → Ap (.slice A n c) u → w'.ownsRow base2 e2 sz2 u n2 xs2 ∧ Ap (.slice A' (n + 1) c') u) → K (a.put o.dst (.slice A' (n + 1) c')) w') :
    if Region.wanted o (yielded ops a.tmps) = true then Oper.wp Tryd.prog o a W K Q else E := by
  obtain ⟨i0, hi, hz0, hz1, hz2⟩ := info_wait
  refine step_push 29 38 i0 (.agg #[.int .i64 0, .int .i64 0]) 2 16 Tryd.underlying29 hi hz0 hz1 hz2 rfl (by decide) (by decide) hgd s x ho hs hown hx (new := [.int .i64 y1, .int .i64 y2]) (news_of hnew) rfl (by intro u hu; simp at hu; rcases hu with rfl | rfl <;> rfl) hlen hbase ?_
  intro A' c' w' ho' hb' hg'
  exact h A' c' w' (by rw [wts_snoc]; exact ho') hb' hg'
end Go.Proofs.YthkkbcbbinojlaaDoor
