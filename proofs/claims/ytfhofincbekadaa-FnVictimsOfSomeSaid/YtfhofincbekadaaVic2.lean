/- Contract: slices.DeleteFunc at waits, with the predicate of VictimsOf. -/
import Derived.Test.YtfhofincbekadaaVic1
namespace Go.Proofs.Ytfhofincbekadaa
open Go.RowKit
open Tl (Wt okW validW validW_iff dropW)

structure DelInv (ws : List Wt) (v : Int) (i j : Nat) (cur : List Wt) : Prop where
  len : cur.length = ws.length
  lt : i < j
  le : j ≤ ws.length
  pre : cur.take i = (ws.take j).filter (fun x => !hitW v x)
  post : cur.drop j = ws.drop j
section
variable {ws cur : List Wt} {v : Int} {i j k : Nat} {x : Wt}
theorem DelInv.start (hx : ws[k]? = some x) (hh : hitW v x = true) (hm : ∀ x ∈ ws.take k, hitW v x = false) : DelInv ws v k (k + 1) ws := by
  have hk := (List.getElem?_eq_some_iff.1 hx).1
  refine ⟨rfl, by omega, by omega, ?_, rfl⟩
  rw [take_succ_of hx, List.filter_append]
  simp only [List.filter_cons, hh, Bool.not_true, Bool.false_eq_true, if_false, List.filter_nil, List.append_nil]
  rw [List.filter_eq_self.2]
  intro y hy
  simp [hm y hy]
theorem DelInv.get (h : DelInv ws v i j cur) : cur[j]? = ws[j]? := by
  have h1 : (cur.drop j)[0]? = (ws.drop j)[0]? := by rw [h.post]
  rw [List.getElem?_drop, List.getElem?_drop] at h1
  simpa using h1
theorem DelInv.skip (h : DelInv ws v i j cur) (hx : ws[j]? = some x) (hh : hitW v x = true) : DelInv ws v i (j + 1) cur := by
  have hk := (List.getElem?_eq_some_iff.1 hx).1
  have hl := h.lt
  refine ⟨h.len, by omega, by omega, ?_, ?_⟩
  · rw [take_succ_of hx, List.filter_append, h.pre]
    simp [hh]
  · rw [← List.drop_drop, ← List.drop_drop, h.post]
theorem DelInv.keep (h : DelInv ws v i j cur) (hx : ws[j]? = some x) (hh : hitW v x = false) : DelInv ws v (i + 1) (j + 1) (cur.set i x) := by
  have hk := (List.getElem?_eq_some_iff.1 hx).1
  have hl := h.lt
  have hlen := h.len
  refine ⟨by rw [List.length_set]; exact hlen, by omega, by omega, ?_, ?_⟩
  · rw [take_succ_of hx, List.filter_append, ← h.pre]
    have h1 : (cur.set i x)[i]? = some x := by rw [List.getElem?_set_self (by omega)]
    rw [take_succ_of h1, List.take_set_of_le (Nat.le_refl i)]
    simp [hh]
  · rw [List.drop_set_of_lt (by omega), ← List.drop_drop, ← List.drop_drop, h.post]
theorem DelInv.end_ (h : DelInv ws v i j cur) (hj : ¬ j < ws.length) : cur.take i = dropW ws v := by
  rw [h.pre, take_all hj]
  unfold dropW
  congr 1
  funext y
  simp [hitW]
theorem DelInv.size (h : DelInv ws v i j cur) (hj : ¬ j < ws.length) : i = (dropW ws v).length := by
  rw [← h.end_ hj, List.length_take, h.len]
  have := h.lt
  have := h.le
  omega
end

def PDelW (w : World) (base g c : Nat) (ds : List Wt) (e : Ending) (w' : World) : Prop :=
  e = .returned (.slice (some ⟨g, 0, none⟩) ds.length c) ∧ w'.ownsRow base 40 2 (.slice (some ⟨g, 0, none⟩) ds.length c) ds.length (wts ds) ∧ w.grownBy w' (some g)

set_option maxRecDepth 100000 in
theorem deleteFuncW_any (g c base : Nat) (ws : List Wt) (v : Int) (B : Nat) (w : World) (hn : ws.length ≤ 100000) (hown : w.ownsRow base 40 2 (.slice (some ⟨g, 0, none⟩) ws.length c) ws.length (wts ws))
    (hB : B < w.heap.size) (hne : g ≠ B) (hc : w.cell? ⟨B, 0, none⟩ = some (.int .i64 v)) (hsome : ∃ x ∈ ws, hitW v x = true) :
    Calls Try.prog 54 #[.slice (some ⟨g, 0, none⟩) ws.length c, .func (.func 55) #[] #[.pointer (some ⟨B, 0, none⟩)]] w (PDelW w base g c (dropW ws v)) := by
  have hlc : ws.length ≤ c := by
    obtain ⟨_, _, hv2, hc2⟩ := own_slice hown
    injection hv2 with _ _ e3
    omega
  have hgl : g < w.heap.size := (hown.lt g rfl).2
  go_enter Try.func54, Try.ntmps54
  go_wp2_with fail
  refine (idxFuncW_any (some ⟨g, 0, none⟩) c ws v B w hn (Rd.of_own hown) hB hc hsome).mono ?_
  rintro e w1 ⟨k, rfl, ⟨x0, hx0, hh0⟩, hm0, hb1⟩
  have HI : Hid (DelInv ws v k (k + 1) ws) := DelInv.start hx0 hh0 hm0
  have hkl := (List.getElem?_eq_some_iff.1 hx0).1
  have hown1 := own_below hown hb1 (Nat.le_refl _)
  have hg1 : w.grownBy w1 (some g) := grown_of_below hb1 _
  have hk1 : ((k : Int) == -1) = false := by simp
  clear hown hsome hx0 hh0 hm0 hb1
  go_wp2
  clear hk1
  go_loopg [5, 6, 7] (ws.length - (k + 1)) (fun gk s5 s6 _ wr => ∃ (i j : Nat) (cur : List Wt), s5 = .int .i64 i ∧ s6 = .int .i64 j ∧ j ≤ ws.length ∧ gk = ws.length - j ∧ Hid (DelInv ws v i j cur) ∧
    wr.ownsRow base 40 2 (.slice (some ⟨g, 0, none⟩) ws.length c) ws.length (wts cur) ∧ w.grownBy wr (some g))
  case atStart => exact ⟨k, k + 1, ws, rfl, by go_num, by omega, rfl, HI, hown1, hg1⟩
  case round =>
    clear HI hown1 hg1 hkl
    obtain ⟨i, j, cur, rfl, rfl, hj, rfl, HI, hown, hgr⟩ := hrel
    have hij := HI.out.lt
    have hcl := HI.out.len
    by_cases hlt : j < ws.length
    · obtain ⟨x, hx⟩ : ∃ x, ws[j]? = some x := ⟨_, List.getElem?_eq_getElem hlt⟩
      have hxc : cur[j]? = some x := by rw [HI.out.get]; exact hx
      obtain ⟨y, hy⟩ : ∃ y, cur[i]? = some y := ⟨_, List.getElem?_eq_getElem (by omega)⟩
      have hc0 := own_at hown (flat_get wtC 2 (fun _ => rfl) cur j 0 _ hxc (by omega))
      have hc1 := own_at hown (flat_get wtC 2 (fun _ => rfl) cur j 1 _ hxc (by omega))
      simp only [Nat.add_zero] at hc0
      have HX := Lib.hid hx
      have HY := Lib.hid hy
      have HCL := Lib.hid hcl
      have hcw := hgr.cell (a := ⟨B, 0, none⟩) hc (by intro e; injection e with e; exact hne e.symm)
      have hBw : B < (wr.alloc (.cells #[.int .i64 x.who, .int .i64 x.to] 40)).heap.size := by have := hgr.size; simp; omega
      have hcw2 := (World.cell?_alloc_lt wr (.cells #[.int .i64 x.who, .int .i64 x.to] 40) ⟨B, 0, none⟩ (by have := hgr.size; simp only; omega)).trans hcw
      clear hx hy hxc hcl
      go_wp2_with fail
      refine (vicPred_any x v B _ hBw hcw2).mono ?_
      rintro e w2 ⟨rfl, hb2⟩
      have hown2 := own_below (hown.alloc (.cells #[.int .i64 x.who, .int .i64 x.to] 40)) hb2 (Nat.le_refl _)
      have hgr2 := grown_trans (grown_alloc hgr (.cells #[.int .i64 x.who, .int .i64 x.to] 40)) (grown_of_below hb2 (some g))
      have hz0 := (hb2.cell (p := ⟨wr.heap.size, 0, none⟩) (by simp)).trans (cell_two_new wr (.int .i64 x.who) (.int .i64 x.to) 40 0 _ rfl)
      have hz1 := (hb2.cell (p := ⟨wr.heap.size, 1, none⟩) (by simp)).trans (cell_two_new wr (.int .i64 x.who) (.int .i64 x.to) 40 1 _ rfl)
      clear hcw hcw2 hc0 hc1 hown hgr hb2
      cases hh : hitW v x
      · have HH := Lib.hid hh
        clear hh
        have hd0 := own_at hown2 (flat_get wtC 2 (fun _ => rfl) cur i 0 _ HY.out (by omega))
        have hd1 := own_at hown2 (flat_get wtC 2 (fun _ => rfl) cur i 1 _ HY.out (by omega))
        simp only [Nat.add_zero] at hd0
        have hf0 := own_frozen hown2 (i * 2)
        have hf1 := own_frozen hown2 (i * 2 + 1)
        have ho3 := own_set (own_set hown2 (.int .i64 x.who) (j := i * 2)) (.int .i64 x.to) (j := i * 2 + 1)
        rw [wts_set (x := x) (by rw [HCL.out]; omega)] at ho3
        have hgr3 := grown_trans hgr2 (grown_trans (grown_setCell' w2 ⟨g, i * 2, none⟩ (.int .i64 x.who)) (grown_setCell' _ ⟨g, i * 2 + 1, none⟩ (.int .i64 x.to)))
        go_wp2
        go_roundg (ws.length - (j + 1))
        case measure => omega
        case rel => exact ⟨i + 1, j + 1, cur.set i x, by go_num, by go_num, by omega, rfl, HI.out.keep HX.out HH.out, ho3, hgr3⟩
      · have HH := Lib.hid hh
        clear hh
        go_wp2
        go_roundg (ws.length - (j + 1))
        case measure => omega
        case rel => exact ⟨i, j + 1, cur, rfl, by go_num, by omega, rfl, HI.out.skip HX.out HH.out, hown2, hgr2⟩
    · have HE := Lib.hid (HI.out.end_ hlt)
      have HS := Lib.hid (HI.out.size hlt)
      have hwl : (wts cur).length = ws.length * 2 := by rw [wts_len, hcl]
      obtain ⟨vs, hclr⟩ := run_clear wr 34 40 (.agg #[.int .i64 0, .int .i64 0]) 2 Try.underlying34 Try.zeroValue40 rfl (by decide) (by intro u hu; simp [Value.cells] at hu; rcases hu with rfl | rfl <;> rfl) g (i * 2) (ws.length - i) (c - i)
        (fun t ht => by rw [own_at hown (List.getElem?_eq_getElem (l := wts cur) (i := i * 2 + t) (by rw [hwl]; omega))]; rfl) (fun t _ => own_frozen hown _)
      have ho5 := own_cleared hown (k := i) (o := i * 2) (by omega) (Nat.le_refl _) vs
      rw [wts_take, HE.out] at ho5
      have hg5 := grown_trans hgr (grown_setCells g vs (i * 2) wr)
      obtain ⟨w9, hw9⟩ : ∃ w9, w9 = wr.setCells g (i * 2) vs := ⟨_, rfl⟩
      rw [← hw9] at hclr ho5 hg5
      have HCL := Lib.hid hcl
      clear hown hgr hwl hw9 hcl
      go_wp2
      go_ret
      rw [HS.out] at ho5 ⊢
      exact ⟨rfl, ho5, hg5⟩
end Go.Proofs.Ytfhofincbekadaa
