/- Contracts: DeadlockOf of both. -/
import Derived.Test.YtfhofincbekadaaWaitsC
namespace Go.Proofs.Ytfhofincbekadaa
open Go.RowKit
open Tl (Wt okW validW validW_iff T4 waitsFor deadOf mem_T4 mem_waitsFor)

/-- What WaitsFor and DeadlockOf answer. -/
noncomputable def wfL (ws : List Wt) (who : Int) : List Int := if validW ws then waitsFor ws who else []
noncomputable def dlL (ws : List Wt) : List Int := if validW ws then deadOf ws else []
theorem wfL_len (ws : List Wt) (who : Int) : (wfL ws who).length ≤ 4 := by
  unfold wfL waitsFor
  split
  · exact List.length_filter_le _ _
  · simp
theorem dlL_eq (ws : List Wt) : T4.filter (fun t => decide (t ∈ wfL ws t)) = dlL ws := by
  unfold wfL dlL
  split
  · unfold deadOf
    refine List.filter_congr fun t ht => ?_
    rw [Bool.eq_iff_iff]
    simp only [decide_eq_true_eq, mem_waitsFor]
    exact ⟨fun h => h.2, fun h => ⟨mem_T4.1 ht, h⟩⟩
  · simp
theorem waitsFor_any' (A : Option Addr) (c : Nat) (ws : List Wt) (who : Int) (w : World) (hn : ws.length ≤ 100000) (hr : Rd w w.heap.size 2 A ws.length (wts ws)) :
    Calls Try.prog 23 #[.slice A ws.length c, .int .i64 who] w (PInts w (wfL ws who)) := waitsFor_any A c ws who w hn hr
theorem swaitsFor_any' (A : Option Addr) (c : Nat) (ws : List Wt) (who : Int) (w : World) (hn : ws.length ≤ 100000) (hr : Rd w w.heap.size 2 A ws.length (wts ws)) :
    Calls Try.prog 24 #[.slice A ws.length c, .int .i64 who] w (PInts w (wfL ws who)) := swaitsFor_any A c ws who w hn hr

theorem Marks.put {w : World} {g : Nat} {S S' : Int → Bool} {k : Nat} {b : Bool} (h : Marks w g S) (hk : k < 4) (hS : ∀ t : Int, S' t = if t = k then b else S t) : Marks (w.setCell ⟨g, k, none⟩ (.bool b)) g S' := by
  unfold Marks at *
  have hkk : k = 0 ∨ k = 1 ∨ k = 2 ∨ k = 3 := by omega
  rcases hkk with rfl | rfl | rfl | rfl <;> simp [World.setCell, Array.getElem?_modify, h, hS]

theorem deadlockOf_any (A : Option Addr) (c : Nat) (ws : List Wt) (w : World) (hn : ws.length ≤ 100000) (hr : Rd w w.heap.size 2 A ws.length (wts ws)) :
    Calls Try.prog 28 #[.slice A ws.length c] w (PInts w (dlL ws)) := by
  go_enter Try.func28, Try.ntmps28
  go_wp2
  go_loopg [5] 4 (fun gk i wr => ∃ (k : Nat) (S : Int → Bool), k ≤ 4 ∧ gk = 4 - k ∧ i = .int .i64 k ∧ (∀ t : Int, S t = (decide (t < k) && decide (t ∈ wfL ws t))) ∧ Marks wr w.heap.size S ∧ Below w.heap.size w wr)
  case atStart =>
    refine ⟨0, fun t => decide (t < 0) && decide (t ∈ wfL ws t), by omega, rfl, rfl, fun t => rfl, ?_, (Below.refl _ _).alloc (Nat.le_refl _) _⟩
    exact heap_alloc_new w _
  case round =>
    obtain ⟨k, S, hk, rfl, rfl, hS, hmk, hb⟩ := hrel
    by_cases hlt : k < 4
    · have HS := Lib.hid hS
      clear hS
      have hl := wfL_len ws (k : Int)
      go_wp2_with fail
      refine (waitsFor_any' A c ws (k : Int) _ hn ((hr.below hb).more hb.size)).mono ?_
      rintro e w1 ⟨A1, c1, rfl, ho1, hb1⟩
      have hrs := Rd.of_own ho1
      go_wp2_with fail
      refine (sContains_any A1 c1 (wfL ws k) (k : Int) _ (by omega) hrs).mono ?_
      rintro e w2 ⟨rfl, rfl⟩
      have hmk1 := hmk.below hb1 hmk.lt
      have hbb := hb.trans (hb1.mono hb.size)
      have hfz := hmk1.frozen k
      have hc0 := hmk1.cell (t := (k : Int)) (by omega) (by omega)
      rw [Int.toNat_natCast] at hc0
      clear hmk hb hb1 ho1 hrs
      generalize hbv : decide ((k : Int) ∈ wfL ws k) = bv
      have HB := Lib.hid hbv
      clear hbv
      go_wp2
      go_roundg (4 - (k + 1))
      case measure => omega
      case rel =>
        refine ⟨k + 1, fun t => if t = (k : Int) then bv else S t, by omega, rfl, by go_num, ?_, hmk1.put hlt (fun t => rfl), hbb.setCell (by simp) _⟩
        intro t
        show (if t = (k : Int) then bv else S t) = _
        rw [HS.out t]
        by_cases ht : t = (k : Int)
        · subst ht
          rw [if_pos rfl, ← HB.out]
          have : decide ((k : Int) < ((k + 1 : Nat) : Int)) = true := by simp; omega
          rw [this, Bool.true_and]
        · rw [if_neg ht]
          congr 1
          rw [Bool.eq_iff_iff, decide_eq_true_eq, decide_eq_true_eq]
          omega
    · obtain ⟨hm0, hm1, hm2, hm3⟩ := hmk.all
      have HE : Hid (T4.filter S = dlL ws) := by
        rw [← dlL_eq]
        refine List.filter_congr fun t ht => ?_
        rw [hS t]
        have := mem_T4.1 ht
        have h1 : decide (t < (k : Int)) = true := by simp; omega
        rw [h1, Bool.true_and]
      clear hS
      go_wp2_with fail
      refine (marked_any S _).mono ?_
      rintro e w2 ⟨A2, c2, rfl, ho2, hb2⟩
      have hb3 := hb.trans (hb2.mono hb.size)
      have ho3 := own_base (base' := w.heap.size) ho2 hb.size
      clear ho2 hb2 hm0 hm1 hm2 hm3 hmk
      rw [HE.out] at ho3 ⊢
      go_wp2
      go_ret
      exact ⟨A2, c2, rfl, ho3, hb3⟩

theorem sdeadlockOf_any (A : Option Addr) (c : Nat) (ws : List Wt) (w : World) (hn : ws.length ≤ 100000) (hr : Rd w w.heap.size 2 A ws.length (wts ws)) :
    Calls Try.prog 29 #[.slice A ws.length c] w (PInts w (dlL ws)) := by
  go_enter Try.func29, Try.ntmps29
  go_wp2_with fail
  have hb0 := (Below.refl w.heap.size w).alloc (Nat.le_refl _) (.cells #[] 3)
  refine (svalidWaits_any A c ws _ hn ((hr.below hb0).more hb0.size)).mono ?_
  rintro e w1 ⟨rfl, hb1⟩
  have ho1 := own_below (own_lit0 w 3 1 (Nat.le_refl _)) hb1 (Nat.le_refl _)
  have hb2 := hb0.trans (hb1.mono hb0.size)
  clear hb0 hb1
  cases hv : validW ws
  · have HD : Hid (dlL ws = []) := by simp [dlL, Hid, hv]
    go_wp2
    go_ret
    rw [HD.out]
    exact ⟨none, 0, rfl, World.ownsRow_nil _ _ _ _, hb2⟩
  · have hok := (validW_iff.1 hv).2
    have hwf : ∀ t, wfL ws t = waitsFor ws t := fun t => by simp [wfL, hv]
    have HV := Lib.hid hv
    have HF := Lib.hid hwf
    clear hv hwf
    go_wp2
    go_loopg [3, 4] 4 (fun gk v i wr => ∃ (k : Nat) (A : Option Addr) (c : Nat), k ≤ 4 ∧ gk = 4 - k ∧ i = .int .i64 k ∧ v = .slice A ((T4.take k).filter (fun t => decide (t ∈ wfL ws t))).length c ∧
      wr.ownsRow w.heap.size 3 1 v ((T4.take k).filter (fun t => decide (t ∈ wfL ws t))).length (ints ((T4.take k).filter (fun t => decide (t ∈ wfL ws t)))) ∧ Below w.heap.size w wr)
    case atStart => exact ⟨0, _, 0, by omega, rfl, rfl, rfl, ho1, hb2⟩
    case round =>
      clear ho1 hb2
      obtain ⟨k, A1, c1, hk, rfl, rfl, rfl, hown, hb⟩ := hrel
      have hl := filter_T4_len (fun t => decide (t ∈ wfL ws t)) k
      by_cases hlt : k < 4
      · have hl2 := wfL_len ws (k : Int)
        cases hS : decide ((k : Int) ∈ wfL ws k)
        · have HS := Lib.hid (filter_snoc_no (S := fun t => decide (t ∈ wfL ws t)) hlt hS)
          go_wp2_with fail
          refine (reached_any A c ws (k : Int) _ hn hok ((hr.below hb).more hb.size)).mono ?_
          rintro e w2 ⟨A2, c2, rfl, ho2, hb2⟩
          rw [← HF.out] at ho2 ⊢
          have hrs := Rd.of_own ho2
          have hown2 := own_below hown hb2 (Nat.le_refl _)
          have hb3 := hb.trans (hb2.mono hb.size)
          clear ho2 hb2 hown hb
          go_wp2_with fail
          refine (sisIn_any A2 c2 (wfL ws k) (k : Int) _ (by omega) hrs).mono ?_
          rintro e w' ⟨rfl, rfl⟩
          rw [hS]
          clear hrs
          go_wp2
          go_roundg (4 - (k + 1))
          case measure => omega
          case rel => exact ⟨k + 1, A1, c1, by omega, rfl, by go_num, by rw [HS.out], by rw [HS.out]; exact hown2, hb3⟩
        · have HS := Lib.hid (filter_snoc_yes (S := fun t => decide (t ∈ wfL ws t)) hlt hS)
          go_wp2_with fail
          refine (reached_any A c ws (k : Int) _ hn hok ((hr.below hb).more hb.size)).mono ?_
          rintro e w2 ⟨A2, c2, rfl, ho2, hb2⟩
          rw [← HF.out] at ho2 ⊢
          have hrs := Rd.of_own ho2
          have hown2 := own_below hown hb2 (Nat.le_refl _)
          have hb3 := hb.trans (hb2.mono hb.size)
          clear ho2 hb2 hown hb
          go_wp2_with fail
          refine (sisIn_any A2 c2 (wfL ws k) (k : Int) _ (by omega) hrs).mono ?_
          rintro e w' ⟨rfl, rfl⟩
          rw [hS]
          clear hrs
          go_wp2_with (at_builtin; refine wpList_push_int rfl _ _ rfl rfl hown2 rfl rfl (by omega) hb3.size ?_; intro A' c' w' ho' hb' _)
          have hb4 := hb3.trans hb'
          clear hb3 hb' hown2
          go_wp2
          go_roundg (4 - (k + 1))
          case measure => omega
          case rel => exact ⟨k + 1, A', c', by omega, rfl, by go_num, by rw [HS.out]; simp, by rw [HS.out]; simpa using ho', hb4⟩
      · have HE := Lib.hid ((filter_T4_all (S := fun t => decide (t ∈ wfL ws t)) hlt).trans (dlL_eq ws))
        go_wp2
        go_ret
        rw [HE.out] at hown
        exact ⟨A1, c1, ret_slice (by rw [HE.out]), hown, hb⟩
end Go.Proofs.Ytfhofincbekadaa
