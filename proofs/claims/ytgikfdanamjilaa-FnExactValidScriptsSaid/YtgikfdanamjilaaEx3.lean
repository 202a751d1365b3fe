/- The laws package's copy of a list of rows: toDoSS. -/
import Derived.Test.YtgikfdanamjilaaEx2
namespace Go.Proofs.Ytgikfdanamjilaa
open Go.RowKit
set_option maxRecDepth 100000
open Tl (Do Nd)

theorem Try.infoSS' : (Try.prog.info? 28).map (fun i => (i.zero, i.size, i.bytes)) = some (some (.slice none 0 0), 1, 24) := by kernel_rfl
theorem info_ss' : ∃ i, Try.prog.info? 28 = some i ∧ i.zero = some (.slice none 0 0) ∧ i.size = 1 ∧ i.bytes = 24 := by
  obtain ⟨i0, hi, hz0, hz1, hz2⟩ := info_parts Try.infoSS'
  exact ⟨i0, hi, hz0, hz1, hz2⟩
theorem made_ss (n : Nat) : (madeCells (Value.slice none 0 0).cells (n * 1)).toList = List.replicate n (.slice none 0 0) := by
  have h := made_flat (Value.slice none 0 0).cells [.slice none 0 0] rfl (by decide) n
  have h2 := flat_rep (fun v : Value => [v]) (.slice none 0 0) n
  rw [h2] at h
  have e : (List.replicate n (Value.slice none 0 0)).flatMap (fun v : Value => [v]) = List.replicate n (Value.slice none 0 0) := by simp
  rw [e] at h
  exact h

/-- The parts of a row that is being filled: of those below k each lies in a block behind the row's. -/
def Parts (w : World) (base : Nat) (vs : List Value) (ss : List (List Do)) (k : Nat) : Prop :=
  ∀ (i : Nat) (u : Value) (p : List Do), i < k → vs[i]? = some u → ss[i]? = some p → (∃ A c, u = .slice A p.length c) ∧ w.ownsRow base 46 2 u p.length (dws p)
theorem Parts.zero (w : World) (base : Nat) (vs : List Value) (ss : List (List Do)) : Parts w base vs ss 0 := fun i _ _ h => absurd h (Nat.not_lt_zero i)
theorem Parts.below {w w' : World} {base B k : Nat} {vs : List Value} {ss : List (List Do)} (h : Parts w base vs ss k) (hb : Below B w w') (hB : w.heap.size ≤ B) : Parts w' base vs ss k :=
  fun i u p hi hu hp => ⟨(h i u p hi hu hp).1, own_below (h i u p hi hu hp).2 hb hB⟩
theorem Parts.put {w : World} {base D k : Nat} {vs : List Value} {ss : List (List Do)} (h : Parts w base vs ss k) (hD : D < base) {A : Option Addr} {c : Nat} {q : List Do} (hq : ss[k]? = some q)
    (ho : w.ownsRow base 46 2 (.slice A q.length c) q.length (dws q)) : Parts (w.setCell ⟨D, k, none⟩ (.slice A q.length c)) base (vs.set k (.slice A q.length c)) ss (k + 1) := by
  intro i u p hi hu hp
  by_cases e : k = i
  · subst e
    obtain rfl := Option.some.inj (hq.symm.trans hp)
    rw [List.getElem?_set] at hu
    simp only [if_true] at hu
    split at hu
    · obtain rfl := Option.some.inj hu
      exact ⟨⟨A, c, rfl⟩, ownsRow_setCell_below ho hD _⟩
    · cases hu
  · rw [List.getElem?_set_ne e] at hu
    have h1 := h i u p (by omega) hu hp
    exact ⟨h1.1, ownsRow_setCell_below h1.2 hD _⟩
theorem Parts.rd {w : World} {base b2 c : Nat} {A : Option Addr} {vs : List Value} {ss : List (List Do)} (h : Parts w base vs ss ss.length) (hl : vs.length = ss.length)
    (ho : w.ownsRow b2 28 1 (.slice A ss.length c) ss.length vs) : RdSS w w.heap.size A ss := by
  refine ⟨vs, hl, Rd.of_own ho, fun i u p hu hp => ?_⟩
  obtain ⟨⟨A', c', rfl⟩, h2⟩ := h i u p (List.getElem?_eq_some_iff.1 hp).1 hu hp
  exact ⟨A', c', rfl, Rd.of_own h2⟩

def PRdSS (w : World) (ss : List (List Do)) (e : Ending) (w' : World) : Prop := ∃ A c, e = .returned (.slice A ss.length c) ∧ RdSS w' w'.heap.size A ss ∧ Below w.heap.size w w'

set_option maxHeartbeats 1000000 in
theorem toDoSS_any (A : Option Addr) (c : Nat) (ss : List (List Do)) (w : World) (hn : ss.length ≤ 2000000) (hall : ∀ p ∈ ss, p.length ≤ 2000000) (hr : RdSS w w.heap.size A ss) :
    Calls Try.prog 11 #[.slice A ss.length c] w (PRdSS w ss) := by
  obtain ⟨i0, hi, hz0, hz1, hz2⟩ := info_ss'
  have HA := Lib.hid hall
  clear hall
  go_enter Try.func11, Try.ntmps11
  go_wp2_with (at_make; refine wpList_make_full _ rfl _ _ 24 rfl w.heap.size 28 i0 (.slice none 0 0) 1 Try.underlying24 hi hz0 hz1 .i64 .i64 _ _ ss.length rfl rfl rfl rfl (by rw [hz2]; omega) (by unfold maxLen; omega) (Nat.le_refl _) ?_; intro w1 hown hg1)
  rw [made_ss] at hown
  have hb1 : Below w.heap.size w w1 := ⟨hg1.os, hg1.tape, hg1.output, hg1.size, fun k hk => hg1.block k hk (by simp)⟩
  have hlt1 : w.heap.size < w1.heap.size := (hown.lt w.heap.size rfl).2
  obtain ⟨D, hD⟩ : ∃ D, D = w.heap.size := ⟨_, rfl⟩
  rw [← hD] at hown ⊢
  rw [← hD] at hlt1
  have HD := Lib.hid hD
  clear hD hg1
  go_wp2
  go_loopg [4] ss.length (fun gk i wr => ∃ (k : Nat) (vs : List Value), k ≤ ss.length ∧ gk = ss.length - k ∧ i = .int .i64 k ∧ Hid (vs.length = ss.length) ∧ D < wr.heap.size ∧ Parts wr (D + 1) vs ss k ∧
    wr.ownsRow D 28 1 (.slice (some ⟨D, 0, none⟩) ss.length ss.length) ss.length vs ∧ Below w.heap.size w wr)
  case atStart => exact ⟨0, List.replicate ss.length (.slice none 0 0), Nat.zero_le _, rfl, rfl, (show _ = _ by simp), hlt1, Parts.zero _ _ _ _, hown, hb1⟩
  case round =>
    clear hown hb1 hlt1
    obtain ⟨k, vs, hk, rfl, rfl, HV, hDl, hpt, hown, hb⟩ := hrel
    by_cases hlt : k < ss.length
    · obtain ⟨b, off, p, A2, c2, rfl, hbl, hp, hc1, hrp⟩ := hr.at_ hlt
      have hc1 := (hb.cell (p := ⟨b, off + k, none⟩) hbl).trans hc1
      have hrp := hrp.below hb |>.more hb.size
      have hpl : p.length ≤ 2000000 := HA.out p (List.mem_of_getElem? hp)
      have HP := Lib.hid hp
      clear hp
      go_wp2_with fail
      refine (toDoS_any A2 c2 p _ hpl hrp).mono ?_
      rintro e w2 ⟨A3, c3, rfl, ho2, hb2⟩
      have hown2 := own_below hown hb2 (Nat.le_refl _)
      have hpt2 := hpt.below hb2 (Nat.le_refl _)
      have hb3 := below_then hb hb2 hb.size
      have hDl2 : D < w2.heap.size := Nat.lt_of_lt_of_le hDl hb2.size
      obtain ⟨y, hy⟩ : ∃ y, vs[k]? = some y := ⟨_, List.getElem?_eq_getElem (by have := HV.out; omega)⟩
      have hd1 : w2.cell? ⟨D, k, none⟩ = some y := own_at hown2 hy
      have hf1 := own_frozen hown2 k
      have HPT := Lib.hid (hpt2.put (Nat.lt_succ_self D) HP.out (own_base ho2 hDl))
      have HO := Lib.hid (own_set hown2 (.slice A3 p.length c3) (j := k))
      have HB := Lib.hid (hb3.setCell (p := ⟨D, k, none⟩) (Nat.le_of_eq HD.out.symm) (.slice A3 p.length c3))
      have HV2 : Hid ((vs.set k (.slice A3 p.length c3)).length = ss.length) := by show _ = _; rw [List.length_set]; exact HV.out
      have HDL : Hid (D < (w2.setCell ⟨D, k, none⟩ (.slice A3 p.length c3)).heap.size) := by show _ < _; rw [size_setCell]; exact hDl2
      clear hown hb hown2 hy hr ho2 hb2 hb3 hpt hpt2 hDl hDl2 hrp hpl
      go_wp2
      go_roundg (ss.length - (k + 1))
      case measure => omega
      case rel => exact ⟨k + 1, vs.set k (.slice A3 p.length c3), by omega, rfl, by go_num, HV2, HDL.out, HPT.out, HO.out, HB.out⟩
    · have hkl : k = ss.length := by omega
      rw [hkl] at hpt
      have HE : Hid (PRdSS w ss (.returned (.slice (some ⟨D, 0, none⟩) ss.length ss.length)) wr) := ⟨_, _, rfl, hpt.rd HV.out hown, hb⟩
      clear hkl hpt
      go_wp2
      go_ret
      exact HE.out
end Go.Proofs.Ytgikfdanamjilaa
