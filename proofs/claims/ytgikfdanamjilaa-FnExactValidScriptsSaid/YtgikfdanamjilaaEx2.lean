/- The laws package's copies of rows: toNodeS, toDoS. -/
import Derived.Test.YtgikfdanamjilaaEx1
namespace Go.Proofs.Ytgikfdanamjilaa
open Go.RowKit
set_option maxRecDepth 100000
open Tl (Do Nd)

/-- A row of new zeros, whatever the element. -/
theorem made_flat (zs : Array Value) (l : List Value) (hz : zs.toList = l) (hl : 0 < zs.size) (n : Nat) : (madeCells zs (n * zs.size)).toList = (List.replicate n l).flatten := by
  subst hz
  apply List.ext_getElem
  · simp [madeCells]
  · intro i h1 h2
    have hlen : ∀ m, (List.replicate m zs.toList).flatten.length = m * zs.size := by intro m; simp
    have hget : ∀ (m i : Nat) (h : i < (List.replicate m zs.toList).flatten.length), (List.replicate m zs.toList).flatten[i] = zs[i % zs.size]'(Nat.mod_lt _ hl) := by
      intro m
      induction m with
      | zero => intro i h; simp at h
      | succ m ih =>
        intro i h
        simp only [List.replicate_succ, List.flatten_cons]
        by_cases hi : i < zs.toList.length
        · rw [List.getElem_append_left hi]
          have : i % zs.size = i := Nat.mod_eq_of_lt (by simpa using hi)
          simp [this]
        · rw [List.getElem_append_right (by omega)]
          rw [ih]
          have hi2 : zs.size ≤ i := by simpa using hi
          have e : (i - zs.toList.length) % zs.size = i % zs.size := by
            rw [Array.length_toList]
            exact (Nat.mod_eq_sub_mod hi2).symm
          simp only [e]
    rw [hget]
    have hm : i % zs.size < zs.size := Nat.mod_lt _ hl
    simp [madeCells, getElem!_pos, hm]
theorem flat_rep {α : Type} (enc : α → List Value) (x : α) : ∀ n : Nat, (List.replicate n (enc x)).flatten = (List.replicate n x).flatMap enc
  | 0 => rfl
  | n + 1 => by simp only [List.replicate_succ, List.flatten_cons, List.flatMap_cons, flat_rep enc x n]
theorem made_nds (n : Nat) : (madeCells (Value.agg #[.int .i64 0, .string ByteArray.empty, .int .i64 0]).cells (n * 3)).toList = nds (List.replicate n ⟨0, [], 0⟩) := by
  have h := made_flat (Value.agg #[.int .i64 0, .string ByteArray.empty, .int .i64 0]).cells (ndC ⟨0, [], 0⟩) rfl (by decide) n
  rw [flat_rep] at h
  exact h
theorem made_dws (n : Nat) : (madeCells (Value.agg #[.int .i64 0, .int .i64 0]).cells (n * 2)).toList = dws (List.replicate n ⟨0, 0⟩) := by
  have h := made_flat (Value.agg #[.int .i64 0, .int .i64 0]).cells (dwC ⟨0, 0⟩) rfl (by decide) n
  rw [flat_rep] at h
  exact h
theorem take_set_step {α : Type} {l m : List α} {k : Nat} {x : α} (hlen : l.length = m.length) (h : l.take k = m.take k) (hx : m[k]? = some x) : (l.set k x).take (k + 1) = m.take (k + 1) := by
  have hk := (List.getElem?_eq_some_iff.1 hx).1
  rw [List.take_add_one, List.take_add_one, List.take_set_of_le (Nat.le_refl k), h, hx, List.getElem?_set_self (by omega)]

set_option maxHeartbeats 1000000 in
theorem toDoS_any (A : Option Addr) (c : Nat) (p : List Do) (w : World) (hn : p.length ≤ 2000000) (hr : Rd w w.heap.size 2 A p.length (dws p)) :
    Calls Try.prog 24 #[.slice A p.length c] w (PDws w p) := by
  obtain ⟨i0, hi, hz0, hz1, hz2⟩ := info_dw
  go_enter Try.func24, Try.ntmps24
  go_wp2_with (at_make; refine wpList_make_full _ rfl _ _ 28 rfl w.heap.size 46 i0 (.agg #[.int .i64 0, .int .i64 0]) 2 Try.underlying28 hi hz0 hz1 .i64 .i64 _ _ p.length rfl rfl rfl rfl (by rw [hz2]; omega) (by unfold maxLen; omega) (Nat.le_refl _) ?_; intro w1 hown hg1)
  rw [made_dws] at hown
  have hb1 : Below w.heap.size w w1 := ⟨hg1.os, hg1.tape, hg1.output, hg1.size, fun k hk => hg1.block k hk (by simp)⟩
  obtain ⟨D, hD⟩ : ∃ D, D = w.heap.size := ⟨_, rfl⟩
  rw [← hD] at hown ⊢
  have HD := Lib.hid hD
  clear hD hg1
  go_wp2
  go_loopg [4] p.length (fun gk i wr => ∃ (k : Nat) (ds : List Do), k ≤ p.length ∧ gk = p.length - k ∧ i = .int .i64 k ∧ Hid (ds.length = p.length ∧ ds.take k = p.take k) ∧
    wr.ownsRow D 46 2 (.slice (some ⟨D, 0, none⟩) p.length p.length) p.length (dws ds) ∧ Below w.heap.size w wr)
  case atStart => exact ⟨0, List.replicate p.length ⟨0, 0⟩, Nat.zero_le _, rfl, rfl, ⟨by simp, rfl⟩, hown, hb1⟩
  case round =>
    clear hown hb1
    obtain ⟨k, ds, hk, rfl, rfl, HDS, hown, hb⟩ := hrel
    by_cases hlt : k < p.length
    · obtain ⟨b, off, x, rfl, hbl, hx, hc1, hc2⟩ := (hr.below hb).dw hlt
      have HX := Lib.hid hx
      clear hx
      go_wp2_with fail
      refine (toDo_any _ _ _).mono ?_
      rintro e w2 ⟨rfl, hb2⟩
      have hown2 := own_below hown hb2 (Nat.le_refl _)
      have hb3 := below_then hb hb2 hb.size
      obtain ⟨y, hy⟩ : ∃ y, ds[k]? = some y := ⟨_, List.getElem?_eq_getElem (by have := HDS.out.1; omega)⟩
      have hd1 : w2.cell? ⟨D, k * 2, none⟩ = some (.int .i64 y.node) := own_at hown2 (flat_get dwC 2 (fun _ => rfl) ds k 0 _ hy (by omega))
      have hd2 : w2.cell? ⟨D, k * 2 + 1, none⟩ = some (.int .i64 y.add) := own_at hown2 (flat_get dwC 2 (fun _ => rfl) ds k 1 _ hy (by omega))
      have hf1 := own_frozen hown2 (k * 2)
      have hf2 := own_frozen hown2 (k * 2 + 1)
      have ho5 := (own_set (own_set hown2 (.int .i64 x.node) (j := k * 2)) (.int .i64 x.add) (j := k * 2 + 1))
      have hset : setAll (dws ds) (k * 2) (dwC x) = dws (ds.set k x) := dws_set x (by have := HDS.out.1; omega)
      have ho6 : _ := (show World.ownsRow _ D 46 2 (.slice (some ⟨D, 0, none⟩) p.length p.length) p.length (setAll (dws ds) (k * 2) (dwC x)) from ho5)
      rw [hset] at ho6
      have HO := Lib.hid ho6
      have HB := Lib.hid (((((hb3).setCell (p := ⟨D, k * 2, none⟩) (Nat.le_of_eq HD.out.symm) (.int .i64 x.node))).setCell (p := ⟨D, k * 2 + 1, none⟩) (Nat.le_of_eq HD.out.symm) (.int .i64 x.add)))
      have HDS2 : Hid ((ds.set k x).length = p.length ∧ (ds.set k x).take (k + 1) = p.take (k + 1)) := ⟨by rw [List.length_set]; exact HDS.out.1, take_set_step HDS.out.1 HDS.out.2 HX.out⟩
      clear hown hb hown2 hy hr ho5 ho6 hset hb2 hb3
      go_wp2
      go_roundg (p.length - (k + 1))
      case measure => omega
      case rel => exact ⟨k + 1, ds.set k x, by omega, rfl, by go_num, HDS2, HO.out, HB.out⟩
    · have hkl : k = p.length := by omega
      have hds : ds = p := by
        have h := HDS.out
        rw [hkl, List.take_of_length_le (Nat.le_of_eq h.1), List.take_of_length_le (Nat.le_refl _)] at h
        exact h.2
      subst hds
      have HE : Hid (PDws w ds (.returned (.slice (some ⟨D, 0, none⟩) ds.length ds.length)) wr) := ⟨_, _, rfl, by rw [← HD.out]; exact hown, hb⟩
      clear hkl
      go_wp2
      go_ret
      exact HE.out
set_option maxHeartbeats 1000000 in
theorem toNodeS_any (A : Option Addr) (c : Nat) (p : List Nd) (w : World) (hn : p.length ≤ 2000000) (hr : Rd w w.heap.size 3 A p.length (nds p)) :
    Calls Try.prog 10 #[.slice A p.length c] w (PNds w p) := by
  obtain ⟨i0, hi, hz0, hz1, hz2⟩ := info_nd
  go_enter Try.func10, Try.ntmps10
  go_wp2_with (at_make; refine wpList_make_full _ rfl _ _ 23 rfl w.heap.size 52 i0 (.agg #[.int .i64 0, .string ByteArray.empty, .int .i64 0]) 3 Try.underlying23 hi hz0 hz1 .i64 .i64 _ _ p.length rfl rfl rfl rfl (by rw [hz2]; omega) (by unfold maxLen; omega) (Nat.le_refl _) ?_; intro w1 hown hg1)
  rw [made_nds] at hown
  have hb1 : Below w.heap.size w w1 := ⟨hg1.os, hg1.tape, hg1.output, hg1.size, fun k hk => hg1.block k hk (by simp)⟩
  obtain ⟨D, hD⟩ : ∃ D, D = w.heap.size := ⟨_, rfl⟩
  rw [← hD] at hown ⊢
  have HD := Lib.hid hD
  clear hD hg1
  go_wp2
  go_loopg [4] p.length (fun gk i wr => ∃ (k : Nat) (ds : List Nd), k ≤ p.length ∧ gk = p.length - k ∧ i = .int .i64 k ∧ Hid (ds.length = p.length ∧ ds.take k = p.take k) ∧
    wr.ownsRow D 52 3 (.slice (some ⟨D, 0, none⟩) p.length p.length) p.length (nds ds) ∧ Below w.heap.size w wr)
  case atStart => exact ⟨0, List.replicate p.length ⟨0, [], 0⟩, Nat.zero_le _, rfl, rfl, ⟨by simp, rfl⟩, hown, hb1⟩
  case round =>
    clear hown hb1
    obtain ⟨k, ds, hk, rfl, rfl, HDS, hown, hb⟩ := hrel
    by_cases hlt : k < p.length
    · obtain ⟨b, off, x, rfl, hbl, hx, hc1, hc2, hc3⟩ := (hr.below hb).nd hlt
      have HX := Lib.hid hx
      clear hx
      go_wp2_with fail
      refine (toNode_any _ _ _ _).mono ?_
      rintro e w2 ⟨rfl, hb2⟩
      have hown2 := own_below hown hb2 (Nat.le_refl _)
      have hb3 := below_then hb hb2 hb.size
      obtain ⟨y, hy⟩ : ∃ y, ds[k]? = some y := ⟨_, List.getElem?_eq_getElem (by have := HDS.out.1; omega)⟩
      have hd1 : w2.cell? ⟨D, k * 3, none⟩ = some (.int .i64 y.parent) := own_at hown2 (flat_get ndC 3 (fun _ => rfl) ds k 0 _ hy (by omega))
      have hd2 : w2.cell? ⟨D, k * 3 + 1, none⟩ = some (.string ⟨y.name.toArray⟩) := own_at hown2 (flat_get ndC 3 (fun _ => rfl) ds k 1 _ hy (by omega))
      have hd3 : w2.cell? ⟨D, k * 3 + 2, none⟩ = some (.int .i64 y.value) := own_at hown2 (flat_get ndC 3 (fun _ => rfl) ds k 2 _ hy (by omega))
      have hf1 := own_frozen hown2 (k * 3)
      have hf2 := own_frozen hown2 (k * 3 + 1)
      have hf3 := own_frozen hown2 (k * 3 + 2)
      have ho5 := (own_set (own_set (own_set hown2 (.int .i64 x.parent) (j := k * 3)) (.string ⟨x.name.toArray⟩) (j := k * 3 + 1)) (.int .i64 x.value) (j := k * 3 + 2))
      have hset : setAll (nds ds) (k * 3) (ndC x) = nds (ds.set k x) := nds_set x (by have := HDS.out.1; omega)
      have ho6 : _ := (show World.ownsRow _ D 52 3 (.slice (some ⟨D, 0, none⟩) p.length p.length) p.length (setAll (nds ds) (k * 3) (ndC x)) from ho5)
      rw [hset] at ho6
      have HO := Lib.hid ho6
      have HB := Lib.hid (((((((hb3).setCell (p := ⟨D, k * 3, none⟩) (Nat.le_of_eq HD.out.symm) (.int .i64 x.parent))).setCell (p := ⟨D, k * 3 + 1, none⟩) (Nat.le_of_eq HD.out.symm) (.string ⟨x.name.toArray⟩))).setCell (p := ⟨D, k * 3 + 2, none⟩) (Nat.le_of_eq HD.out.symm) (.int .i64 x.value)))
      have HDS2 : Hid ((ds.set k x).length = p.length ∧ (ds.set k x).take (k + 1) = p.take (k + 1)) := ⟨by rw [List.length_set]; exact HDS.out.1, take_set_step HDS.out.1 HDS.out.2 HX.out⟩
      clear hown hb hown2 hy hr ho5 ho6 hset hb2 hb3
      go_wp2
      go_roundg (p.length - (k + 1))
      case measure => omega
      case rel => exact ⟨k + 1, ds.set k x, by omega, rfl, by go_num, HDS2, HO.out, HB.out⟩
    · have hkl : k = p.length := by omega
      have hds : ds = p := by
        have h := HDS.out
        rw [hkl, List.take_of_length_le (Nat.le_of_eq h.1), List.take_of_length_le (Nat.le_refl _)] at h
        exact h.2
      subst hds
      have HE : Hid (PNds w ds (.returned (.slice (some ⟨D, 0, none⟩) ds.length ds.length)) wr) := ⟨_, _, rfl, by rw [← HD.out]; exact hown, hb⟩
      clear hkl
      go_wp2
      go_ret
      exact HE.out
end Go.Proofs.Ytgikfdanamjilaa
