/- Owned rows: a part of one; the rest cleared; a whole slice appended. -/
import Derived.Test.YtgikfdanamjilaaOwn
import Derived.Deep.AppendSrc
namespace Go.Proofs.Ytgikfdanamjilaa
open Go.RowKit

theorem own_take {w : World} {base : Nat} {e : TypeId} {sz n c : Nat} {A : Option Addr} {xs : List Value} (h : w.ownsRow base e sz (.slice A n c) n xs) {k : Nat} (hk : k ≤ n) :
    w.ownsRow base e sz (.slice A k c) k (xs.take (k * sz)) := by
  obtain ⟨h1, h2⟩ := h
  have hkn : k * sz ≤ n * sz := Nat.mul_le_mul_right _ hk
  refine ⟨by rw [List.length_take, h1]; exact Nat.min_eq_left hkn, ?_⟩
  rcases h2 with ⟨hv, h0⟩ | ⟨g, cap, cur, hv, hg, hh, hn, hcap, hsz, htake⟩
  · injection hv with e1 e2 e3
    subst e1 e3
    left
    have : k = 0 := by omega
    subst this
    exact ⟨rfl, rfl⟩
  · injection hv with e1 e2 e3
    subst e1 e3
    refine .inr ⟨g, c, cur, rfl, hg, hh, by omega, hcap, hsz, ?_⟩
    rw [← htake, List.take_take, Nat.min_eq_left hkn]

theorem own_at {w : World} {base : Nat} {e : TypeId} {sz n c g : Nat} {xs : List Value} (h : w.ownsRow base e sz (.slice (some ⟨g, 0, none⟩) n c) n xs) {j : Nat} {u : Value} (hj : xs[j]? = some u) : w.cell? ⟨g, j, none⟩ = some u := by
  have := h.cells (g := g) rfl j u hj
  have e : (⟨g, 0, none⟩ : Addr).add j = ⟨g, j, none⟩ := by
    unfold Addr.add
    split
    · rename_i h0; subst h0; rfl
    · simp
  rw [← e]; exact this
theorem grown_setCell' (w : World) (a : Addr) (v : Value) : w.grownBy (w.setCell a v) (some a.block) :=
  ⟨rfl, rfl, rfl, by simp [World.setCell], fun k _ hne => Below.heap_setCell w a v k (fun e => hne (by rw [e]))⟩
theorem grown_setCells (g : Nat) : ∀ (vs : List Value) (o : Nat) (w : World), w.grownBy (w.setCells g o vs) (some g)
  | [], _, w => grown_refl w _
  | v :: r, o, w => grown_trans (grown_setCell' w ⟨g, o, none⟩ v) (grown_setCells g r (o + 1) _)
theorem own_setCells {base : Nat} {e : TypeId} {sz n c g : Nat} : ∀ (vs : List Value) (o : Nat) {w : World} {xs : List Value}, w.ownsRow base e sz (.slice (some ⟨g, 0, none⟩) n c) n xs →
    ∃ ys, (w.setCells g o vs).ownsRow base e sz (.slice (some ⟨g, 0, none⟩) n c) n ys ∧ ys.take o = xs.take o
  | [], _, _, xs, h => ⟨xs, h, rfl⟩
  | v :: r, o, w, xs, h => by
    obtain ⟨ys, h1, h2⟩ := own_setCells r (o + 1) (own_set h v (j := o))
    refine ⟨ys, h1, ?_⟩
    have := congrArg (List.take o) h2
    rw [List.take_take, List.take_take, Nat.min_eq_left (by omega)] at this
    rw [this, List.take_set_of_le (Nat.le_refl o)]
theorem below_setCells_own {B g : Nat} (hg : B ≤ g) : ∀ (vs : List Value) (o : Nat) (w : World), Below B w (w.setCells g o vs)
  | [], _, w => Below.refl _ w
  | v :: r, o, w => ((Below.refl B w).setCell (p := ⟨g, o, none⟩) hg v).trans (below_setCells_own hg r (o + 1) _)
/-- Behind a clearing from o on, the first k elements are as they were. -/
theorem own_cleared {w : World} {base : Nat} {e : TypeId} {sz n c g : Nat} {xs : List Value} (h : w.ownsRow base e sz (.slice (some ⟨g, 0, none⟩) n c) n xs) {k o : Nat} (hk : k ≤ n) (ho : k * sz ≤ o) (vs : List Value) :
    (w.setCells g o vs).ownsRow base e sz (.slice (some ⟨g, 0, none⟩) k c) k (xs.take (k * sz)) := by
  obtain ⟨ys, h1, h2⟩ := own_setCells vs o h
  have h3 := own_take h1 hk
  have := congrArg (List.take (k * sz)) h2
  rw [List.take_take, List.take_take, Nat.min_eq_left ho] at this
  rw [this] at h3
  exact h3

theorem zeroCells_len (z : Array Value) (n : Nat) : (Builtin.zeroCells z n).toList.length = n * z.size := by simp [Builtin.zeroCells]
theorem zeroCells_mem {z : Array Value} {n : Nat} {u : Value} (hz : 0 < z.size) (h : u ∈ (Builtin.zeroCells z n).toList) : u ∈ z.toList := by
  simp only [Builtin.zeroCells, Array.toList_map, Array.toList_range, List.mem_map, List.mem_range] at h
  obtain ⟨i, _, rfl⟩ := h
  have hm : i % z.size < z.size := Nat.mod_lt _ hz
  rw [getElem!_pos z (i % z.size) hm]
  simp
/-- 'clear(s)': some cells are laid anew, as many as there are. -/
theorem run_clear (w : World) (t e : TypeId) (z : Value) (sz : Nat) (ht : Try.prog.underlying t = some (.slice e)) (hv : ∀ w, (zeroValue e).run Try.prog w = .ok z w) (hzs : z.cells.size = sz) (hsz : 0 < sz) (hone : ∀ u ∈ z.cells.toList, u.oneCell' = true) (b o n c : Nat)
    (hc : ∀ j, j < n * sz → (w.cell? ⟨b, o + j, none⟩).isSome = true) (hf : ∀ j, j < n * sz → w.frozen? ⟨b, o + j, none⟩ = false) :
    ∃ vs, ∀ ty, (Builtin.clear_ #[t] ty #[.slice (some ⟨b, o, none⟩) n c]).run Try.prog w = .ok (.tuple #[]) (w.setCells b o vs) := by
  cases n with
  | zero => exact ⟨[], fun ty => by simp [Builtin.clear_, run_underlying ht, World.setCells]⟩
  | succ m =>
    refine ⟨(Builtin.zeroCells z.cells (m + 1)).toList, fun ty => ?_⟩
    have hlen := zeroCells_len z.cells (m + 1)
    rw [hzs] at hlen
    have hst := run_storeCells_cells (P := Try.prog) b o (Builtin.zeroCells z.cells (m + 1)).toList 0 w (by rw [hlen]; simpa using hc) (by rw [hlen]; simpa using hf) (fun u hu => hone u (zeroCells_mem (by omega) hu))
    simp only [Nat.add_zero] at hst
    simp [Builtin.clear_, run_underlying ht, hv, hst]

/-- 'append(s, x...)': s a row of the call's own, x a slice that is read (or nil). -/
theorem run_join (W : World) (t ty e : TypeId) (i : TypeInfo) (z : Value) (sz bytes : Nat)
    (ht : Try.prog.underlying t = some (.slice e)) (hi : Try.prog.info? e = some i) (hz : i.zero = some z) (hsize : i.size = sz) (hby : i.bytes = bytes) (hzs : z.cells.size = sz) (hsz : 0 < sz) (hbb : bytes ≤ 64)
    {base n m B : Nat} {g : Nat} {A2 : Option Addr} {c c2 : Nat} {xs new : List Value} (hown : W.ownsRow base e sz (.slice (some ⟨g, 0, none⟩) n c) n xs)
    (hR : Rd W B sz A2 m new) (hone : ∀ u ∈ new, u.oneCell' = true) (hlen : n + m ≤ 1000000) (hbase : base ≤ W.heap.size) :
    ∃ A' c' w', (Builtin.append_ #[t, t] ty #[.slice (some ⟨g, 0, none⟩) n c, .slice A2 m c2]).run Try.prog W = .ok (.slice A' (n + m) c') w' ∧ A' ≠ none ∧ w'.ownsRow base e sz (.slice A' (n + m) c') (n + m) (xs ++ new) ∧ Below base W w' ∧
      (∀ {base2 : Nat} {e2 : TypeId} {sz2 n2 : Nat} {u : Value} {xs2 : List Value}, W.ownsRow base2 e2 sz2 u n2 xs2 → Ap (.slice (some ⟨g, 0, none⟩) n c) u → w'.ownsRow base2 e2 sz2 u n2 xs2 ∧ Ap (.slice A' (n + m) c') u) := by
  cases A2 with
  | none =>
    have hn0 : new = [] := by
      cases hnew : new with
      | nil => rfl
      | cons a r =>
        obtain ⟨b, off, e1, _⟩ := hR.2 0 a (by rw [hnew]; rfl)
        cases e1
    have hm : m = 0 := by
      have := hR.1
      rw [hn0] at this
      rcases Nat.eq_zero_or_pos m with h0 | h0
      · exact h0
      · have := Nat.mul_pos h0 hsz
        simp at *
        omega
    subst hm hn0
    have hr := run_append_room_src (P := Try.prog) W t t ty e i ht hi g 0 n c (.slice none 0 c2) 0 [] (Src.ofNil W ht c2) (by
      rcases hown.2 with ⟨h0, _⟩ | ⟨g', cap, cur, hv, _, _, hnc, _⟩
      · cases h0
      · injection hv with _ _ e3
        omega) (by simp) (by simp)
    refine ⟨_, _, W, hr, by simp, ?_, Below.refl _ _, fun ho ha => ⟨ho, ha⟩⟩
    simpa using hown
  | some ad =>
    have hnews : ∀ j u, new[j]? = some u → W.cell? (ad.add j) = some u := by
      intro j u hj
      obtain ⟨b, off, e1, _, hc⟩ := hR.2 j u hj
      obtain rfl := Option.some.inj e1
      have e2 : (⟨b, off, none⟩ : Addr).add j = ⟨b, off + j, none⟩ := by
        unfold Addr.add
        split
        · rename_i h0; subst h0; simp
        · rfl
      rw [e2]; exact hc
    obtain ⟨v', w', hrun, hown', hgrow, hnil, hat⟩ := run_append_own_at (P := Try.prog) W base t ty e i z sz bytes ht hi hz hsize hby hzs hsz (.slice (some ⟨g, 0, none⟩) n c) n xs hown ad m c2 new hR.1 hnews hone (by unfold maxLen; omega)
      (calc (n + m) * bytes ≤ 1000000 * 64 := Nat.mul_le_mul (by omega) hbb
        _ ≤ 140737488355328 := by decide) hbase
    obtain ⟨A', c', rfl, _⟩ := own_slice hown'
    refine ⟨A', c', w', hrun, ?_, hown', ⟨hgrow.os, hgrow.tape, hgrow.output, hgrow.size, fun k hk => hgrow.block k (by omega) (fun e => by have := (hown.lt k e.symm).1; omega)⟩, fun ho hap => ⟨hap.kept hgrow ho, hap.new hat ho⟩⟩
    intro hA
    subst hA
    rcases hown'.2 with ⟨hv, h0⟩ | ⟨g', cap, cur, hv, _⟩
    · have := (hnil.1 hv).1
      cases this
    · cases hv

theorem wpList_join {ops : Array Oper} {rest : List Oper} {o : Oper} {a : Act} {Q : Exit → Act → World → Prop} {W : World} (t e : TypeId) (i : TypeInfo) (z : Value) (sz bytes : Nat)
    (ht : Try.prog.underlying t = some (.slice e)) (hi : Try.prog.info? e = some i) (hz : i.zero = some z) (hsize : i.size = sz) (hby : i.bytes = bytes) (hzs : z.cells.size = sz) (hsz : 0 < sz) (hbb : bytes ≤ 64)
    (hgd : o.guard = none) (s x : Operand) (ho : o.op = .call { callee := .builtin .append, args := #[s, x], argTypes := #[t, t] })
    {base n m B g : Nat} {A2 : Option Addr} {c c2 : Nat} {xs new : List Value} (hs : a.eval s = .slice (some ⟨g, 0, none⟩) n c) (hown : W.ownsRow base e sz (.slice (some ⟨g, 0, none⟩) n c) n xs)
    (hx : a.eval x = .slice A2 m c2) (hR : Rd W B sz A2 m new) (hone : ∀ u ∈ new, u.oneCell' = true) (hlen : n + m ≤ 1000000) (hbase : base ≤ W.heap.size)
    (h : ∀ A' c' w', A' ≠ none → w'.ownsRow base e sz (.slice A' (n + m) c') (n + m) (xs ++ new) → Below base W w' → (∀ {base2 : Nat} {e2 : TypeId} {sz2 n2 : Nat} {u : Value} {xs2 : List Value}, W.ownsRow base2 e2 sz2 u n2 xs2 → Ap (.slice (some ⟨g, 0, none⟩) n c) u → w'.ownsRow base2 e2 sz2 u n2 xs2 ∧ Ap (.slice A' (n + m) c') u) → wpList Try.prog ops Q rest (a.put o.dst (.slice A' (n + m) c')) w') :
    wpList Try.prog ops Q (o :: rest) a W := by
  refine wpList_plain hgd fun K hK => ?_
  obtain ⟨A', c', w', hr, hA, h2, h3, h4⟩ := run_join W t o.type e i z sz bytes ht hi hz hsize hby hzs hsz hbb hown (c2 := c2) hR hone hlen hbase
  unfold Oper.wp execOp
  simp only [ho, resolve, invoke, builtin, Sem.run_bind, Sem.run_pure, Result.andThen_ok, List.map_toArray, List.map_cons, List.map_nil, hs, hx, hr]
  exact hK _ _ (h A' c' w' hA h2 h3 h4)
/-- Cells stored one after the other. -/
def setAll : List Value → Nat → List Value → List Value
  | l, _, [] => l
  | l, i, v :: r => setAll (l.set i v) (i + 1) r
theorem setAll_eq : ∀ (vs l : List Value) (i : Nat), i + vs.length ≤ l.length → setAll l i vs = l.take i ++ vs ++ l.drop (i + vs.length)
  | [], l, i, _ => by simp [setAll]
  | v :: r, l, i, h => by
    simp only [List.length_cons] at h
    have h1 : (l.set i v).take (i + 1) = l.take i ++ [v] := by
      have : (l.set i v)[i]? = some v := by rw [List.getElem?_set_self (by omega)]
      rw [List.take_add_one, this, List.take_set_of_le (Nat.le_refl i)]
      rfl
    have h2 : (l.set i v).drop (i + 1 + r.length) = l.drop (i + 1 + r.length) := List.drop_set_of_lt (by omega)
    show setAll (l.set i v) (i + 1) r = _
    rw [setAll_eq r (l.set i v) (i + 1) (by rw [List.length_set]; omega), h1, h2]
    have e : i + 1 + r.length = i + (v :: r).length := by simp only [List.length_cons]; omega
    rw [e]
    simp
theorem flat_setAll {α : Type} (enc : α → List Value) (sz : Nat) (he : ∀ x, (enc x).length = sz) {xs : List α} {k : Nat} (x : α) (hk : k < xs.length) : setAll (xs.flatMap enc) (k * sz) (enc x) = (xs.set k x).flatMap enc := by
  have hl := flat_len enc sz he xs
  have h2 : (k + 1) * sz ≤ xs.length * sz := Nat.mul_le_mul_right _ hk
  rw [Nat.succ_mul] at h2
  rw [setAll_eq _ _ _ (by rw [he, hl]; exact h2), flat_set enc sz he xs k x hk, he, Nat.succ_mul]
end Go.Proofs.Ytgikfdanamjilaa
