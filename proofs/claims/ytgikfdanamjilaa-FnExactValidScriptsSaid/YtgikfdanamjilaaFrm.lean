/- Arguments of the laws package's own types, opened: nodes; rows of dos. -/
import Derived.Test.YtgikfdanamjilaaSc
import Derived.Test.YtgikfdanamjilaaNds2
import Derived.Deep.SlicePairs
import Derived.Deep.Strs
import Derived.ProofKit
namespace Go.Proofs.Ytgikfdanamjilaa
open Go.ChangeShapes Go.WideShapes Go.RowKit Go.Deep
open Tl (Do Nd)
set_option maxRecDepth 100000

theorem node_shape : ∃ f0 f1 f2 : Field, Try.prog.underlying 49 = some (.struct #[f0, f1, f2]) ∧ f0.offset = 0 ∧ f1.offset = 1 ∧ f2.offset = 2 ∧ f0.type = 3 ∧ f1.type = 9 ∧ f2.type = 3 :=
  ⟨_, _, _, Try.underlying49, rfl, rfl, rfl, rfl, rfl, rfl⟩
theorem do_shape : ∃ f0 f1 : Field, Try.prog.underlying 68 = some (.struct #[f0, f1]) ∧ f0.offset = 0 ∧ f1.offset = 1 ∧ f0.type = 3 ∧ f1.type = 3 :=
  ⟨_, _, Try.underlying68, rfl, rfl, rfl, rfl⟩
theorem cells_node : Try.prog.cellsOf 49 = 3 := by kernel_rfl
theorem cells_do : Try.prog.cellsOf 68 = 2 := by kernel_rfl
theorem cells_int : Try.prog.cellsOf 3 = 1 := by kernel_rfl
theorem cells_string : Try.prog.cellsOf 9 = 1 := by kernel_rfl
theorem cells_row : Try.prog.cellsOf 51 = 1 := by kernel_rfl

theorem addr_plain {w : World} {a : Addr} {j : Nat} {v v0 : Value} (h0 : w.cell? (a.add 0) = some v0) (h : w.cell? (a.add j) = some v) : ∃ b off, a = ⟨b, off, none⟩ ∧ b < w.heap.size ∧ w.cell? ⟨b, off + j, none⟩ = some v := by
  have hs := World.cell?_spot h0
  have hb := World.block_lt_of_cell? w _ h
  rw [Addr.add_zero'] at hs
  obtain ⟨b, off, spot⟩ := a
  have hspot : spot = none := hs
  subst hspot
  rw [Addr.add_lit] at h hb
  exact ⟨b, off, rfl, hb, h⟩

section
variable {H : Type} {enc : TypeId × Value → H} {W : World} {spare : Nat → Bool} {held : Bool}

theorem open_nodes {fuel : Nat} {A : Option Addr} {len cap : Nat} {x : DataW H × List MemPlace} (h : DataW.trod enc Try.prog W 0 spare held fuel 30 [.slice A len cap] = some x) :
    ∃ t : List Nd, len = t.length ∧ len ≤ cap ∧ len ≤ maxLen ∧ Rd W W.heap.size 3 A len (nds t) ∧ ∀ y ∈ t, y.name.length ≤ maxLen := by
  rcases open_slice Try.underlying30 h with ⟨hcs, _⟩ | ⟨a, len', cap', m, n, D, Pl, hcs, _, hl, hm, hmm, _, hx⟩
  · simp at hcs
    obtain ⟨rfl, rfl, rfl⟩ := hcs
    exact ⟨[], rfl, Nat.le_refl _, by unfold maxLen; omega, Rd.nil _ _ _ _, by simp⟩
  · simp at hcs
    obtain ⟨rfl, rfl, rfl⟩ := hcs
    have hlm : len ≤ m := by rw [hmm]; split <;> omega
    obtain ⟨f0, f1, f2, hun, o0, o1, o2, t0, t1, t2⟩ := node_shape
    have each : ∀ i, i < len → ∃ q : Nd, W.cell? (a.add (i * 3)) = some (.int .i64 q.parent) ∧ W.cell? (a.add (i * 3 + 1)) = some (.string ⟨q.name.toArray⟩) ∧ W.cell? (a.add (i * 3 + 2)) = some (.int .i64 q.value) ∧ q.name.length ≤ maxLen := by
      intro i hi
      obtain ⟨cs', h1, h2⟩ := hx i (by omega)
      rw [cells_node] at h1
      obtain ⟨_, hlen, hcell⟩ := World.cells?_some h1
      obtain ⟨y0, y1, y2, k, _, _, g0, g1, g2⟩ := trod_struct3 hun h2
      match cs', hlen with
      | [v0, v1, v2], _ =>
        rw [o0, t0, cells_int] at g0
        rw [o1, t1, cells_string] at g1
        rw [o2, t2, cells_int] at g2
        obtain ⟨p, e0, _, _⟩ := DataW.trod_int Try.underlying3 g0
        obtain ⟨s, e1, _, hs⟩ := DataW.trod_string Try.underlying9 g1
        obtain ⟨v, e2, _, _⟩ := DataW.trod_int Try.underlying3 g2
        simp at e0 e1 e2
        subst e0 e1 e2
        have c0 := hcell 0 (by omega)
        have c1 := hcell 1 (by omega)
        have c2 := hcell 2 (by omega)
        rw [add_add] at c0 c1 c2
        exact ⟨⟨p, s.data.toList, v⟩, by simpa using c0, by simpa using c1, by simpa using c2, by simpa using hs⟩
    obtain ⟨q, hq⟩ := @choose_lt Nd ⟨⟨0, [], 0⟩⟩ _ _ each
    have hln : ((List.range len).map q).length = len := by simp
    refine ⟨(List.range len).map q, hln.symm, hl, by omega, ⟨by rw [nds_len, hln], ?_⟩, ?_⟩
    · intro j u hj
      have hjl : j < len * 3 := by
        have := (List.getElem?_eq_some_iff.1 hj).1
        rw [nds_len, hln] at this; exact this
      have hz := (hq 0 (by omega)).1
      rw [Nat.zero_mul] at hz
      have hi : j / 3 < len := by omega
      have hr : j % 3 < 3 := Nat.mod_lt _ (by omega)
      have hji : j = j / 3 * 3 + j % 3 := by omega
      have hqi : ((List.range len).map q)[j / 3]? = some (q (j / 3)) := by simp [hi]
      obtain ⟨c0, c1, c2, _⟩ := hq (j / 3) hi
      have hc : W.cell? (a.add j) = some u := by
        rw [hji, nds, flat_get ndC 3 (fun _ => rfl) _ _ _ _ hqi hr] at hj
        rw [hji]
        rcases (by omega : j % 3 = 0 ∨ j % 3 = 1 ∨ j % 3 = 2) with e | e | e
        all_goals rw [e] at hj ⊢; simp [ndC] at hj; subst hj; assumption
      obtain ⟨b, off, rfl, hb, hc2⟩ := addr_plain hz hc
      exact ⟨b, off, rfl, hb, hc2⟩
    · intro y hy
      simp at hy
      obtain ⟨i, hi, rfl⟩ := hy
      exact (hq i hi).2.2.2

theorem open_dos {fuel : Nat} {v : Value} {x : DataW H × List MemPlace} (h : DataW.trod enc Try.prog W 0 spare held fuel 51 [v] = some x) :
    ∃ (A : Option Addr) (cap : Nat) (p : List Do), v = .slice A p.length cap ∧ p.length ≤ maxLen ∧ Rd W W.heap.size 2 A p.length (dws p) := by
  obtain ⟨f0, f1, hun, o0, o1, t0, t1⟩ := do_shape
  rcases open_slice_pairs Try.underlying51 hun cells_do o0 o1 (by rw [t0]; exact cells_int) (by rw [t1]; exact cells_int) h with ⟨hcs, _⟩ | ⟨a, len, cap, m, n, V0, V1, D0, D1, P0, P1, hcs, _, hl, hm, hmm, _, hx⟩
  · simp at hcs
    subst hcs
    exact ⟨none, 0, [], rfl, by simp, Rd.nil _ _ _ _⟩
  · simp at hcs
    subst hcs
    have hlm : len ≤ m := by rw [hmm]; split <;> omega
    have each : ∀ i, i < len → ∃ q : Do, W.cell? (a.add (i * 2)) = some (.int .i64 q.node) ∧ W.cell? (a.add (i * 2 + 1)) = some (.int .i64 q.add) := by
      intro i hi
      obtain ⟨c0, c1, g0, g1⟩ := hx i (by omega)
      rw [t0] at g0
      rw [t1] at g1
      obtain ⟨p, e0, _, _⟩ := DataW.trod_int Try.underlying3 g0
      obtain ⟨q, e1, _, _⟩ := DataW.trod_int Try.underlying3 g1
      simp at e0 e1
      exact ⟨⟨p, q⟩, by rw [c0, e0], by rw [c1, e1]⟩
    obtain ⟨q, hq⟩ := @choose_lt Do ⟨⟨0, 0⟩⟩ _ _ each
    have hln : ((List.range len).map q).length = len := by simp
    refine ⟨some a, cap, (List.range len).map q, by rw [hln], by rw [hln]; omega, ⟨by rw [dws_len], ?_⟩⟩
    intro j u hj
    have hjl : j < len * 2 := by
      have := (List.getElem?_eq_some_iff.1 hj).1
      rw [dws_len, hln] at this; exact this
    have hz := (hq 0 (by omega)).1
    rw [Nat.zero_mul] at hz
    have hi : j / 2 < len := by omega
    have hr : j % 2 < 2 := Nat.mod_lt _ (by omega)
    have hji : j = j / 2 * 2 + j % 2 := by omega
    have hqi : ((List.range len).map q)[j / 2]? = some (q (j / 2)) := by simp [hi]
    obtain ⟨c0, c1⟩ := hq (j / 2) hi
    have hc : W.cell? (a.add j) = some u := by
      rw [hji, dws, flat_get dwC 2 (fun _ => rfl) _ _ _ _ hqi hr] at hj
      rw [hji]
      rcases (by omega : j % 2 = 0 ∨ j % 2 = 1) with e | e
      all_goals rw [e] at hj ⊢; simp [dwC] at hj; subst hj; assumption
    obtain ⟨b, off, rfl, hb, hc2⟩ := addr_plain hz hc
    exact ⟨b, off, rfl, hb, hc2⟩

theorem open_doss {fuel : Nat} {A : Option Addr} {len cap : Nat} {x : DataW H × List MemPlace} (h : DataW.trod enc Try.prog W 0 spare held fuel 31 [.slice A len cap] = some x) :
    ∃ ss : List (List Do), len = ss.length ∧ len ≤ maxLen ∧ RdSS W W.heap.size A ss ∧ ∀ p ∈ ss, p.length ≤ maxLen := by
  rcases open_slice1 Try.underlying31 cells_row h with ⟨hcs, _⟩ | ⟨a, len', cap', m, n, V, D, Pl, hcs, _, hl, hm, hmm, _, hx⟩
  · simp at hcs
    obtain ⟨rfl, rfl, rfl⟩ := hcs
    exact ⟨[], rfl, by unfold maxLen; omega, RdSS.nil _ _ _, by simp⟩
  · simp at hcs
    obtain ⟨rfl, rfl, rfl⟩ := hcs
    have hlm : len ≤ m := by rw [hmm]; split <;> omega
    have each : ∀ i, i < len → ∃ p : List Do, (∃ A c, V i = .slice A p.length c ∧ Rd W W.heap.size 2 A p.length (dws p)) ∧ p.length ≤ maxLen := by
      intro i hi
      obtain ⟨A2, c2, p, e, hp, hr⟩ := open_dos (hx i (by omega)).2
      exact ⟨p, ⟨A2, c2, e, hr⟩, hp⟩
    obtain ⟨q, hq⟩ := @choose_lt (List Do) ⟨[]⟩ _ _ each
    have hln : ((List.range len).map q).length = len := by simp
    refine ⟨(List.range len).map q, hln.symm, by omega, ⟨(List.range len).map V, by simp, ⟨by simp, ?_⟩, ?_⟩, ?_⟩
    · intro j u hj
      have hjl : j < len := by
        have := (List.getElem?_eq_some_iff.1 hj).1
        simpa using this
      simp [hjl] at hj
      subst hj
      obtain ⟨b, off, rfl, hb, hc2⟩ := addr_plain (hx 0 (by omega)).1 (hx j (by omega)).1
      exact ⟨b, off, rfl, hb, hc2⟩
    · intro i u p hu hp
      have hil : i < len := by
        have := (List.getElem?_eq_some_iff.1 hu).1
        simpa using this
      simp [hil] at hu hp
      subst hu hp
      exact (hq i hil).1
    · intro p hp
      simp at hp
      obtain ⟨i, hi, rfl⟩ := hp
      exact (hq i hi).2
end
end Go.Proofs.Ytgikfdanamjilaa
