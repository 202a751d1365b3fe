/- Contracts: the draws of trees that may be invalid. -/
import Derived.Test.YtgikfdanamjilaaDrawN
namespace Go.Proofs.Ytgikfdanamjilaa
open Go.RowKit
set_option maxRecDepth 100000
open Tl (Nd nameOk kid path validN validN_iff nodeOk nodesOk ValidN Grows)

/-- What a draw of a tree leaves: a slice that reads as a tree, not in the reader's block. -/
def TreeAt (w : World) (g : Nat) (A : Option Addr) (c : Nat) (t : List Nd) : Prop := t.length ≤ c ∧ Rd w w.heap.size 3 A t.length (nds t) ∧ (∀ ad, A = some ad → g < ad.block) ∧ t.length ≤ 13 ∧ Short t
def PTree (w : World) (g p : Nat) (e : Ending) (w' : World) : Prop :=
  ∃ (t : List Nd) (A : Option Addr) (c p' : Nat), e = .returned (.slice A t.length c) ∧ TreeAt w' g A c t ∧ Reader w' g p' ∧ p' ≤ p + 120 ∧ w.grownBy w' (some g)
theorem TreeAt.own {w : World} {g base c : Nat} {A : Option Addr} {t : List Nd} (h : w.ownsRow base 52 3 (.slice A t.length c) t.length (nds t)) (hg : g < base) (hl : t.length ≤ 13) (hS : Short t) : TreeAt w g A c t := by
  refine ⟨own_cap h, Rd.of_own h, ?_, hl, hS⟩
  rintro ad rfl
  rcases h.2 with ⟨hv, _⟩ | ⟨gr, cap, cur, hv, hb, _⟩
  · cases hv
  · injection hv with e1
    injection e1 with e1
    subst e1
    exact Nat.lt_of_lt_of_le hg hb
theorem Rd.grown_off {w w' : World} {B sz n g : Nat} {A : Option Addr} {xs : List Value} (h : Rd w B sz A n xs) (hg : w.grownBy w' (some g)) (hA : ∀ ad, A = some ad → g < ad.block) (hB : B ≤ w.heap.size) : Rd w' B sz A n xs :=
  ⟨h.1, fun j u hj => by
    obtain ⟨b, off, e, hb, hc⟩ := h.2 j u hj
    have hne := hA _ e
    exact ⟨b, off, e, hb, (World.cell?_of_block (a := ⟨b, off + j, none⟩) (hg.block b (by omega) (fun e => by injection e with e; simp only at hne; omega))).trans hc⟩⟩
theorem TreeAt.grown {w w' : World} {g c : Nat} {A : Option Addr} {t : List Nd} (h : TreeAt w g A c t) (hg : w.grownBy w' (some g)) : TreeAt w' g A c t :=
  ⟨h.1, (h.2.1.grown_off hg h.2.2.1 (Nat.le_refl _)).more hg.size, h.2.2.1, h.2.2.2⟩
theorem TreeAt.below {w w' : World} {g c : Nat} {A : Option Addr} {t : List Nd} (h : TreeAt w g A c t) (hb : Below w.heap.size w w') : TreeAt w' g A c t :=
  ⟨h.1, h.2.1.step hb, h.2.2.1, h.2.2.2⟩
theorem Rd.drop1 {w : World} {B n b off : Nat} {t : List Nd} (h : Rd w B 3 (some ⟨b, off, none⟩) n (nds t)) (hn : n = t.length) : Rd w B 3 (some ⟨b, off + 3, none⟩) (n - 1) (nds t.tail) := by
  subst hn
  refine ⟨by rw [nds_len]; simp, fun j u hj => ?_⟩
  cases t with
  | nil => simp [nds] at hj
  | cons x r =>
    obtain ⟨b', off', e, hb, hc⟩ := h.2 (j + 3) u (by
      show ((x :: r).flatMap ndC)[j + 3]? = some u
      rw [List.flatMap_cons, List.getElem?_append_right (by simp [ndC])]
      simpa [ndC, nds] using hj)
    injection e with e
    injection e with e1 e2
    subst e1 e2
    exact ⟨b, off + 3, rfl, hb, by rw [show off + 3 + j = off + (j + 3) by omega]; exact hc⟩

theorem flat_set_at {α : Type} (enc : α → List Value) (sz : Nat) (he : ∀ x, (enc x).length = sz) : ∀ (xs : List α) (k j : Nat) (x x' : α) (v : Value), xs[k]? = some x → j < sz → (enc x).set j v = enc x' → (xs.flatMap enc).set (k * sz + j) v = (xs.set k x').flatMap enc
  | [], k, j, x, x', v, h, _, _ => by simp at h
  | y :: r, 0, j, x, x', v, h, hj, hs => by
    simp at h
    subst h
    rw [List.flatMap_cons, List.set_cons_zero, List.flatMap_cons, Nat.zero_mul, Nat.zero_add, List.set_append_left (h := by rw [he]; exact hj), hs]
  | y :: r, k + 1, j, x, x', v, h, hj, hs => by
    have e : (k + 1) * sz + j - (enc y).length = k * sz + j := by rw [he, Nat.succ_mul]; omega
    rw [List.flatMap_cons, List.set_cons_succ, List.flatMap_cons, List.set_append_right (h := by rw [he, Nat.succ_mul]; omega), e, flat_set_at enc sz he r k j x x' v (by simpa using h) hj hs]
theorem nds_put0 {t : List Nd} {k : Nat} {x : Nd} (h : t[k]? = some x) (v : Int) : (nds t).set (k * 3) (.int .i64 v) = nds (t.set k ⟨v, x.name, x.value⟩) :=
  flat_set_at ndC 3 (fun _ => rfl) t k 0 x _ _ h (by omega) rfl
theorem nds_put1 {t : List Nd} {k : Nat} {x : Nd} (h : t[k]? = some x) (s : List UInt8) : (nds t).set (k * 3 + 1) (.string ⟨s.toArray⟩) = nds (t.set k ⟨x.parent, s, x.value⟩) :=
  flat_set_at ndC 3 (fun _ => rfl) t k 1 x _ _ h (by omega) rfl
theorem nds_put2 {t : List Nd} {k : Nat} {x : Nd} (h : t[k]? = some x) (v : Int) : (nds t).set (k * 3 + 2) (.int .i64 v) = nds (t.set k ⟨x.parent, x.name, v⟩) :=
  flat_set_at ndC 3 (fun _ => rfl) t k 2 x _ _ h (by omega) rfl
theorem short_set {t : List Nd} (h : Short t) {k : Nat} {y : Nd} (hy : y.name.length ≤ 2000000) : Short (t.set k y) := by
  intro n hn
  rcases List.mem_or_eq_of_mem_set hn with h1 | h1
  · exact h n h1
  · rw [h1]; exact hy

theorem anyTree_any (g p : Nat) (w : World) (hr : Reader w g p) (hp : p ≤ 1000) : Calls Try.prog 15 #[.pointer (some ⟨g, 0, none⟩)] w (PTree w g p) := by
  have hgl := hr.lt
  go_enter Try.func15, Try.ntmps15
  go_wp2_with fail
  refine (someTree_any g p _ hr hp).mono ?_
  rintro e w1 ⟨t, A, c, q, rfl, hown, hl1, hl2, hS, hrd, hq, hgw⟩
  have HS := Lib.hid hS
  clear hr hS
  go_wp2_with fail
  refine (pick_any g q (t.length : Int) _ hrd (by omega) (by omega)).mono ?_
  rintro e w2 ⟨a, rfl, ha0, ha1, _, hrd2, hg2⟩
  have ha := ha1 (by omega)
  obtain ⟨k, rfl⟩ := Int.eq_ofNat_of_zero_le ha0
  have hk : k < t.length := by omega
  have hown2 := own_grown hown hg2 hgl
  have hgw2 := grown_trans hgw hg2
  clear hown hgw hrd hg2 ha1 ha ha0
  go_wp2_with fail
  refine (pick_any g (q + 1) 30 _ hrd2 (by omega) (by omega)).mono ?_
  rintro e w3 ⟨d, rfl, hd0, hd1, _, hrd3, hg3⟩
  have hown3 := own_grown hown2 hg3 hgl
  have hgw3 := grown_trans hgw2 hg3
  clear hown2 hgw2 hrd2 hg3 hd1
  obtain ⟨gr, rfl, hgr1, hgr2, hgc⟩ := own_addr hown3 (by omega)
  obtain ⟨x, hx⟩ : ∃ x, t[k]? = some x := ⟨_, List.getElem?_eq_getElem hk⟩
  have hc0 := hgc (k * 3 + 0) _ (flat_get ndC 3 (fun _ => rfl) t k 0 _ hx (by omega))
  have hc1 := hgc (k * 3 + 1) _ (flat_get ndC 3 (fun _ => rfl) t k 1 _ hx (by omega))
  have hc2 := hgc (k * 3 + 2) _ (flat_get ndC 3 (fun _ => rfl) t k 2 _ hx (by omega))
  simp at hc0 hc1 hc2
  have HX := Lib.hid hx
  have hcap := own_cap hown3
  clear hgc hx
  have hf := own_frozen hown3
  by_cases h0 : d = 0
  · subst h0
    go_wp2_with fail
    refine (pick_any g (q + 1 + 1) 6 _ hrd3 (by omega) (by omega)).mono ?_
    rintro e w4 ⟨y, rfl, hy0, hy1, _, hrd4, hg4⟩
    have hy := hy1 (by omega)
    have hown4 := own_grown hown3 hg4 hgl
    have hgw4 := grown_trans hgw3 hg4
    have hd0 : w4.cell? ⟨gr, k * 3, none⟩ = some (.int .i64 x.parent) := own_at hown4 (flat_get ndC 3 (fun _ => rfl) t k 0 _ HX.out (by omega))
    have hf4 := own_frozen hown4 (k * 3)
    have ho5 := own_set hown4 (.int .i64 (y - 1)) (j := k * 3)
    rw [nds_put0 HX.out] at ho5
    have hbw := (Below.refl w.heap.size w4).setCell (p := ⟨gr, k * 3, none⟩) hgr1 (.int .i64 (y - 1))
    have hrd5 := hrd4.below hbw hgl
    have hgw5 := grown_then hgw4 hbw
    have hl5 : (t.set k ⟨y - 1, x.name, x.value⟩).length = t.length := List.length_set
    rw [← hl5] at ho5
    have HS5 := short_set HS.out (k := k) (y := ⟨y - 1, x.name, x.value⟩) (show x.name.length ≤ 2000000 from HS.out.get HX.out)
    clear hy1 hown3 hgw3 hrd3 hg4 hf hc0 hc1 hc2 hrd4 hgw4 hown4
    go_wp2
    go_ret
    exact ⟨_, _, c, _, ret_slice hl5.symm, TreeAt.own ho5 hgl (by omega) HS5, hrd5, by omega, hgw5⟩
  · by_cases h1 : d = 1
    · subst h1
      go_wp2_with fail
      have hrd4 := hrd3.grown (World.grownBy_alloc w3 (.cells (strs [[], [65], [97, 98, 99, 100, 101], [97]]).toArray 9) none) (by simp)
      refine (of_any g (q + 1 + 1) (some ⟨w3.heap.size, 0, none⟩) 4 [[], [65], [97, 98, 99, 100, 101], [97]] _ hrd4 (by omega) (by simp) (by simp) (lit_strs w3 [[], [65], [97, 98, 99, 100, 101], [97]] 9 (g := g) hrd3.lt)).mono ?_
      rintro e w4 ⟨y, rfl, hy, hrd5, hg5⟩
      have hyl : y.length ≤ 5 := by
        simp at hy
        rcases hy with rfl | rfl | rfl | rfl <;> simp
      have hown4 := own_grown (hown3.alloc (.cells (strs [[], [65], [97, 98, 99, 100, 101], [97]]).toArray 9)) hg5 hgl
      have hgw4 := grown_trans (grown_alloc hgw3 (.cells (strs [[], [65], [97, 98, 99, 100, 101], [97]]).toArray 9)) hg5
      have hd1 : w4.cell? ⟨gr, k * 3 + 1, none⟩ = some (.string ⟨x.name.toArray⟩) := own_at hown4 (flat_get ndC 3 (fun _ => rfl) t k 1 _ HX.out (by omega))
      have hf4 := own_frozen hown4 (k * 3 + 1)
      have ho5 := own_set hown4 (.string ⟨y.toArray⟩) (j := k * 3 + 1)
      rw [nds_put1 HX.out] at ho5
      have hbw := (Below.refl w.heap.size w4).setCell (p := ⟨gr, k * 3 + 1, none⟩) hgr1 (.string ⟨y.toArray⟩)
      have hrd6 := hrd5.below hbw hgl
      have hgw5 := grown_then hgw4 hbw
      have hl5 : (t.set k ⟨x.parent, y, x.value⟩).length = t.length := List.length_set
      rw [← hl5] at ho5
      have HS5 := short_set HS.out (k := k) (y := ⟨x.parent, y, x.value⟩) (by simp only; omega)
      clear hy hown3 hgw3 hrd3 hrd4 hg5 hf hc0 hc1 hc2 hrd5 hgw4 hown4
      go_wp2
      go_ret
      exact ⟨_, _, c, _, ret_slice hl5.symm, TreeAt.own ho5 hgl (by omega) HS5, hrd6, by omega, hgw5⟩
    · by_cases h2 : d = 2
      · subst h2
        go_wp2_with fail
        have hrd4 := hrd3.grown (World.grownBy_alloc w3 (.cells (ints [1001, -1001]).toArray 3) none) (by simp)
        refine (one_any g (q + 1 + 1) (some ⟨w3.heap.size, 0, none⟩) 2 [1001, -1001] _ hrd4 (by omega) (by simp) (by simp) (lit_ints w3 [1001, -1001] 3 (g := g) hrd3.lt)).mono ?_
        rintro e w4 ⟨y, rfl, hy, hrd5, hg5⟩
        have hown4 := own_grown (hown3.alloc (.cells (ints [1001, -1001]).toArray 3)) hg5 hgl
        have hgw4 := grown_trans (grown_alloc hgw3 (.cells (ints [1001, -1001]).toArray 3)) hg5
        have hd2 : w4.cell? ⟨gr, k * 3 + 2, none⟩ = some (.int .i64 x.value) := own_at hown4 (flat_get ndC 3 (fun _ => rfl) t k 2 _ HX.out (by omega))
        have hf4 := own_frozen hown4 (k * 3 + 2)
        have ho5 := own_set hown4 (.int .i64 y) (j := k * 3 + 2)
        rw [nds_put2 HX.out] at ho5
        have hbw := (Below.refl w.heap.size w4).setCell (p := ⟨gr, k * 3 + 2, none⟩) hgr1 (.int .i64 y)
        have hrd6 := hrd5.below hbw hgl
        have hgw5 := grown_then hgw4 hbw
        have hl5 : (t.set k ⟨x.parent, x.name, y⟩).length = t.length := List.length_set
        rw [← hl5] at ho5
        have HS5 := short_set HS.out (k := k) (y := ⟨x.parent, x.name, y⟩) (show x.name.length ≤ 2000000 from HS.out.get HX.out)
        clear hy hown3 hgw3 hrd3 hrd4 hg5 hf hc0 hc1 hc2 hrd5 hgw4 hown4
        go_wp2
        go_ret
        exact ⟨_, _, c, _, ret_slice hl5.symm, TreeAt.own ho5 hgl (by omega) HS5, hrd6, by omega, hgw5⟩
      · by_cases h3 : d = 3
        · subst h3
          have hr1 := Rd.of_own hown3
          have htl : t.tail.length = t.length - 1 := by simp
          have HS5 : Short t.tail := fun n hn => HS.out n (List.mem_of_mem_tail hn)
          have hr2 := hr1.drop1 rfl
          simp only [Nat.zero_add] at hr2
          go_wp2
          · go_ret
            have hnil : t.tail = [] := List.eq_nil_of_length_eq_zero (by omega)
            refine ⟨t.tail, _, _, _, ret_slice htl.symm, ⟨by omega, ?_, ?_, by omega, HS5⟩, hrd3, by omega, hgw3⟩
            · rw [hnil]; exact Rd.nil _ _ _ _
            · rintro ad had
              injection had with had
              subst had
              exact Nat.lt_of_lt_of_le hgl hgr1
          · go_ret
            refine ⟨t.tail, _, _, _, ret_slice htl.symm, ⟨by omega, by rw [htl]; exact hr2, ?_, by omega, HS5⟩, hrd3, by omega, hgw3⟩
            rintro ad had
            injection had with had
            subst had
            exact Nat.lt_of_lt_of_le hgl hgr1
        · by_cases h4 : d = 4
          · subst h4
            clear hf hc0 hc1 hc2 hcap
            go_wp2
            go_loopg [3] (13 - t.length) (fun gk sv wr => ∃ (t2 : List Nd) (A : Option Addr) (c2 : Nat), sv = .slice A t2.length c2 ∧ gk = 13 - t2.length ∧ t2.length ≤ 13 ∧ Hid (Short t2) ∧
              wr.ownsRow w.heap.size 52 3 sv t2.length (nds t2) ∧ Reader wr g (q + 1 + 1) ∧ w.grownBy wr (some g))
            case atStart => exact ⟨t, _, c, rfl, rfl, by omega, HS, hown3, hrd3, hgw3⟩
            case round =>
              clear hown3 hrd3 hgw3 hgr1 hgr2 HS HX hk
              obtain ⟨t2, A, c2, rfl, rfl, hl3, HS2, hown, hrd, hgw⟩ := hrel
              have hgs := hgw.size
              by_cases hlt : t2.length < 13
              · go_wp2_with (at_builtin; refine wpList_push_nd rfl _ _ rfl ⟨0, [113], 0⟩ rfl (hown.alloc _) rfl (heap_alloc_new wr _) (by omega) (by simp; omega) ?_; intro A3 c3 w3 ho3 hb3 _)
                have hb4 := ((Below.refl w.heap.size wr).alloc hgs (.cells (ndC ⟨0, [113], 0⟩).toArray 52)).trans hb3
                have hrd4 := hrd.below hb4 hgl
                have hgw4 := grown_then hgw hb4
                have HS3 : Hid (Short (t2 ++ [⟨0, [113], 0⟩])) := short_snoc HS2.out (by simp)
                have hle : (t2 ++ [(⟨0, [113], 0⟩ : Nd)]).length = t2.length + 1 := by simp
                rw [← hle] at ho3 ⊢
                clear hb3 hb4 hown hrd hgw
                go_wp2
                go_roundg (13 - (t2.length + 1))
                case measure => omega
                case rel => exact ⟨_, A3, c3, rfl, by rw [hle], by omega, HS3, ho3, hrd4, hgw4⟩
              · go_wp2
                go_ret
                exact ⟨t2, A, c2, _, rfl, TreeAt.own hown hgl (by omega) HS2.out, hrd, by omega, hgw⟩
          · have h0' : (d == 0) = false := by simp [h0]
            have h1' : (d == 1) = false := by simp [h1]
            have h2' : (d == 2) = false := by simp [h2]
            have h3' : (d == 3) = false := by simp [h3]
            have h4' : (d == 4) = false := by simp [h4]
            clear h0 h1 h2 h3 h4
            go_wp2
            go_ret
            exact ⟨t, _, c, _, rfl, TreeAt.own hown3 hgl (by omega) HS.out, hrd3, by omega, hgw3⟩
end Go.Proofs.Ytgikfdanamjilaa
