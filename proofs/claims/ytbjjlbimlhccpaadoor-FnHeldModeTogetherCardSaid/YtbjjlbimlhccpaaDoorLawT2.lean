/- The walks of FnHeldMode, FnHeldModeTogether. -/
import Derived.Test.YtbjjlbimlhccpaaDoorTabKit
import Derived.Deep.RegionHeld3
namespace Go.Proofs.YtbjjlbimlhccpaaDoor
open Go.RowKit
open Tl (Lk okM okL validT validT_iff held held_ok held_mem held_pos held_tog at_ at_iff tog)

theorem held_any {l : List Lk} (hv : validT l = true) (who node : Int) : (l.any (at_ who node)) = (held l who node != 0) := by
  have hv' := validT_iff.1 hv
  rw [Bool.eq_iff_iff]
  simp only [List.any_eq_true, bne_iff_ne, ne_eq]
  constructor
  · rintro ⟨x, hx, ha⟩
    obtain ⟨rfl, rfl⟩ := at_iff.1 ha
    rw [held_mem hv'.2.2 hx]
    have := hv'.2.1 x hx
    unfold okL at this
    omega
  · intro h
    obtain ⟨x, hx, h1, h2, _⟩ := held_pos h
    exact ⟨x, hx, at_iff.2 ⟨h1, h2⟩⟩
theorem any_take_succ {l : List Lk} {k : Nat} {x : Lk} (hx : l[k]? = some x) (p : Lk → Bool) : (l.take (k + 1)).any p = ((l.take k).any p || p x) := by
  rw [take_succ_of hx, List.any_append]; simp

set_option maxHeartbeats 1000000 in
set_option maxRecDepth 100000 in
theorem law_FnHeldModeTogether (A : Option Addr) (n c : Nat) (w : World) (h : Code8 w A n c) (hT : TabT w) : Calls Tryd.prog 6 #[.slice A n c] w (PBool w true) := by
  have hle : (n : Int) ≤ 1048576 := by have := h.le; omega
  go_enter Tryd.func6, Tryd.ntmps6
  go_wp2_with fail
  refine (drawHeldMode_any A n c _ h).mono ?_
  rintro e w1 ⟨ls, A1, c1, who, node, rfl, ho1, hl1, hb1⟩
  have hr1 := Rd.of_own ho1
  have hcap := own_cap ho1
  have hT1 := hT.step hb1
  clear h ho1 hT
  go_wp2_with fail
  refine (heldMode_any A1 c1 ls who node _ (by omega) hcap hT1 hr1).mono ?_
  rintro e w2 ⟨rfl, hb2⟩
  have hr1 := hr1.step hb2
  have hT1 := hT1.step hb2
  have hb2 := below_then hb1 hb2 hb1.size
  clear hb1
  go_wp2_with fail
  refine (sheldMode_any A1 c1 ls who node _ (by omega) hr1).mono ?_
  rintro e w3 ⟨rfl, hb3⟩
  have hr1 := hr1.step hb3
  have hT1 := hT1.step hb3
  have hb3 := below_then hb2 hb3 hb2.size
  have hne : (heldM ls who node != heldM ls who node) = false := by simp
  have heq : (heldM ls who node == heldM ls who node) = true := by simp
  clear hb2
  cases hv : validT ls
  · have hm := heldM_not hv who node
    rw [hm] at hne heq ⊢
    have HM := Lib.hid hm
    clear hv hm
    go_wp2_with fail
    refine (sheldMode_any A1 c1 ls who node _ (by omega) hr1).mono ?_
    rintro e w4 ⟨rfl, hb4⟩
    rw [HM.out]
    have hb4 := below_then hb3 hb4 hb3.size
    go_wp2
    go_ret
    exact ⟨rfl, hb4⟩
  · have HV := Lib.hid hv
    have hmo := heldM_ok hv who node
    have hm0 : 0 ≤ heldM ls who node := by unfold okM at hmo; omega
    have HMO := Lib.hid hmo
    clear hv hmo
    go_wp2
    clear hne heq
    go_loopg [7] 4 (fun gk tv wr => ∃ t : Nat, t ≤ 4 ∧ gk = 4 - t ∧ tv = .int .i64 t ∧ Below w3.heap.size w3 wr)
    case atStart => exact ⟨0, by omega, rfl, rfl, Below.refl _ _⟩
    case round =>
      obtain ⟨t, ht, rfl, rfl, hbw⟩ := hrel
      by_cases hlt : t < 4
      · by_cases htw : (t : Int) = who
        · have htw' : ((t : Int) != who) = false := by simp [htw]
          clear htw
          go_wp2
          go_roundg (4 - (t + 1))
          case measure => omega
          case rel => exact ⟨t + 1, by omega, rfl, by go_num, hbw⟩
        · have htw' : ((t : Int) != who) = true := by simp [htw]
          have HTG : Hid (tog (heldM ls who node) (heldM ls (t : Int) node) = true) := by
            show _ = true
            rw [heldM_valid HV.out, heldM_valid HV.out]
            exact held_tog HV.out (fun e => htw e.symm)
          have HMT := Lib.hid (heldM_ok HV.out (t : Int) node)
          have hrw := (hr1.below hbw).more hbw.size
          have hTw := hT1.below hbw (Nat.le_refl _)
          clear htw
          go_wp2_with fail
          refine (heldMode_any A1 c1 ls (t : Int) node _ (by omega) hcap hTw hrw).mono ?_
          rintro e w5 ⟨rfl, hb5⟩
          have hb6 := hbw.trans (hb5.mono hbw.size)
          have hTx := hTw.step hb5
          clear hbw hb5 hTw hrw
          go_wp2_with fail
          refine (goTogether_any HMO.out HMT.out _ hTx).mono ?_
          rintro e w6 ⟨rfl, rfl⟩
          rw [HTG.out]
          go_wp2
          go_roundg (4 - (t + 1))
          case measure => omega
          case rel => exact ⟨t + 1, by omega, rfl, by go_num, hb6⟩
      · have hb7 := below_then hb3 hbw hb3.size
        go_wp2
        go_ret
        exact ⟨rfl, hb7⟩

set_option maxHeartbeats 1000000 in
set_option maxRecDepth 100000 in
theorem law_FnHeldMode (A : Option Addr) (n c : Nat) (w : World) (h : Code8 w A n c) (hT : TabT w) : Calls Tryd.prog 5 #[.slice A n c] w (PBool w true) := by
  have hle : (n : Int) ≤ 1048576 := by have := h.le; omega
  go_enter Tryd.func5, Tryd.ntmps5
  go_wp2_with fail
  refine (drawHeldMode_any A n c _ h).mono ?_
  rintro e w1 ⟨ls, A1, c1, who, node, rfl, ho1, hl1, hb1⟩
  have hr1 := Rd.of_own ho1
  have hcap := own_cap ho1
  have hT1 := hT.step hb1
  clear h ho1 hT
  go_wp2_with fail
  refine (heldMode_any A1 c1 ls who node _ (by omega) hcap hT1 hr1).mono ?_
  rintro e w2 ⟨rfl, hb2⟩
  have hr1 := hr1.step hb2
  have hT1 := hT1.step hb2
  have hb2 := below_then hb1 hb2 hb1.size
  clear hb1
  go_wp2_with fail
  refine (sheldMode_any A1 c1 ls who node _ (by omega) hr1).mono ?_
  rintro e w3 ⟨rfl, hb3⟩
  have hr1 := hr1.step hb3
  have hT1 := hT1.step hb3
  have hb3 := below_then hb2 hb3 hb2.size
  have hne : (heldM ls who node != heldM ls who node) = false := by simp
  have heq : (heldM ls who node == heldM ls who node) = true := by simp
  clear hb2
  cases hv : validT ls
  · have hm := heldM_not hv who node
    rw [hm] at hne heq ⊢
    have HM := Lib.hid hm
    clear hv hm
    go_wp2_with fail
    refine (sheldMode_any A1 c1 ls who node _ (by omega) hr1).mono ?_
    rintro e w4 ⟨rfl, hb4⟩
    rw [HM.out]
    have hb4 := below_then hb3 hb4 hb3.size
    go_wp2
    go_ret
    exact ⟨rfl, hb4⟩
  · have HV := Lib.hid hv
    have hmo := heldM_ok hv who node
    have hm0 : 0 ≤ heldM ls who node := by unfold okM at hmo; omega
    have HS : Hid (ls.any (at_ who node) = (heldM ls who node != 0)) := by show _ = _; rw [heldM_valid hv, held_any hv]
    clear hv hmo
    go_wp2
    clear hne heq
    go_loopg [7, 8] ls.length (fun gk sv iv wr => ∃ k : Nat, k ≤ ls.length ∧ gk = ls.length - k ∧ iv = .int .i64 k ∧ sv = .bool ((ls.take k).any (at_ who node)) ∧ Below w3.heap.size w3 wr)
    case atStart => exact ⟨0, by omega, rfl, rfl, rfl, Below.refl _ _⟩
    case round =>
      obtain ⟨k, hk, rfl, rfl, rfl, hbw⟩ := hrel
      by_cases hlt : k < ls.length
      · obtain ⟨b, off, x, rfl, hbl, hx, hc1, hc2, hc3⟩ := (hr1.below hbw).lk hlt
        have HA := Lib.hid (any_take_succ hx (at_ who node))
        have HH : Hid (heldM ls x.who x.node = x.mode) := by
          show _ = _
          rw [heldM_valid HV.out]
          exact held_mem (validT_iff.1 HV.out).2.2 (List.mem_of_getElem? hx)
        have hrw := (hr1.below hbw).more hbw.size
        have hTw := hT1.below hbw (Nat.le_refl _)
        have hmm : (x.mode != x.mode) = false := by simp
        obtain ⟨sb, hsb⟩ : ∃ sb, sb = (ls.take k).any (at_ who node) := ⟨_, rfl⟩
        have HSB := Lib.hid hsb
        rw [← hsb]
        have HAT : Hid (at_ who node x = (decide (x.who = who) && decide (x.node = node))) := rfl
        have hbl2 : b < wr.heap.size := Nat.lt_of_lt_of_le hbl hbw.size
        have hTd : TabT wr.drew := ⟨hTw.lt, hTw.cell⟩
        have hrd : Rd wr.drew wr.drew.heap.size 3 (some ⟨b, off, none⟩) ls.length (lks ls) := hrw
        have hcase : ∃ nb : Bool, nb = (sb || at_ who node x) ∧ ((sb = true ∧ nb = true) ∨ (sb = false ∧ (x.who == who) = false ∧ nb = false) ∨ (sb = false ∧ (x.who == who) = true ∧ (x.node == node) = nb)) := by
          refine ⟨_, rfl, ?_⟩
          cases sb
          · by_cases h1 : x.who = who
            · refine .inr (.inr ⟨rfl, by simp [h1], ?_⟩)
              rw [HAT.out]
              simp only [Bool.false_or, h1, decide_true, Bool.true_and]
              by_cases h2 : x.node = node <;> simp [h2]
            · exact .inr (.inl ⟨rfl, by simp [h1], by rw [HAT.out]; simp [h1]⟩)
          · exact .inl ⟨rfl, rfl⟩
        obtain ⟨nb, hnb, hcs⟩ := hcase
        have HN : Hid ((ls.take (k + 1)).any (at_ who node) = nb) := by show _ = _; rw [HA.out, ← HSB.out, hnb]
        clear hx hsb hnb
        rcases hcs with ⟨rfl, rfl⟩ | ⟨rfl, hw1, rfl⟩ | ⟨rfl, hw1, hw2⟩
        all_goals
          go_wp2
          go_region_held3 (fun w' => w'.cell? ⟨b, off + k * 3, none⟩ = some (.int .i64 x.who) ∧ w'.cell? ⟨b, off + k * 3 + 1, none⟩ = some (.int .i64 x.node) ∧ w'.cell? ⟨b, off + k * 3 + 2, none⟩ = some (.int .i64 x.mode))
            (first
              | go_keep
              | (go_split_ands
                 refine ⟨?_, ?_, ?_⟩
                 · (rw [hb'.cell hbl2]; assumption)
                 · (rw [hb'.cell hbl2]; assumption)
                 · (rw [hb'.cell hbl2]; assumption)))
            ((go_at_call 19; refine (heldMode_any (some ⟨b, off, none⟩) c1 ls x.who x.node _ (by omega) hcap hTd hrd).mono ?_; rintro e w' ⟨rfl, hb'⟩; rw [HH.out]))
          have hb9 := (hbw.drew).trans (hb'.mono hbw.size)
          go_wp2
          go_roundg (ls.length - (k + 1))
          case measure => omega
          case rel => exact ⟨k + 1, by omega, rfl, by go_num, by rw [HN.out], hb9⟩
      · rw [take_all hlt]
        have hb7 := below_then hb3 hbw hb3.size
        rw [HS.out]
        go_wp2
        go_ret
        exact ⟨ret_bool (by simp), hb7⟩
end Go.Proofs.YtbjjlbimlhccpaaDoor
