/- Contracts: AccessesOf, of both packages. -/
import Derived.Test.YtpbhphpmegcenaaDoorStC
import Derived.Test.YtpbhphpmegcenaaDoorAcs
import Derived.Test.YtpbhphpmegcenaaDoorTabG
import Derived.Deep.RegionHeld3
namespace Go.Proofs.YtpbhphpmegcenaaDoor
open Go.RowKit
open Tl (Lk St Ac validS accsOf accessesOf acOf)

theorem accessesOf_yes {ss : List St} (h : validS ss = true) : accessesOf ss = accsOf ss := by unfold accessesOf; rw [if_pos h]
theorem accessesOf_no {ss : List St} (h : validS ss = false) : accessesOf ss = [] := by unfold accessesOf; rw [h]; rfl

theorem accessesOf_le {ss : List St} {n : Nat} (h : ss.length ≤ n) : (accessesOf ss).length ≤ n := by
  have h1 := Tl.accsOf_len_le ss ss.length
  rw [List.take_length] at h1
  unfold accessesOf
  split
  · omega
  · simp

set_option maxHeartbeats 1000000 in
set_option maxRecDepth 100000 in
theorem accessesOf_any (A : Option Addr) (c : Nat) (ss : List St) (w : World) (hn : ss.length ≤ 100000) (hT : TabT w) (hJ : TabJ w) (hr : Rd w w.heap.size 4 A ss.length (sts ss)) :
    Calls Tryd.prog 21 #[.slice A ss.length c] w (PAcs w (accessesOf ss)) := by
  cases hv : validS ss
  · rw [accessesOf_no hv]
    go_enter Tryd.func21, Tryd.ntmps21
    go_wp2_with fail
    refine (validSteps_any A c ss _ hn hT hJ hr).mono ?_
    rintro e w1 ⟨rfl, hb1⟩
    rw [hv]
    go_wp2
    go_ret
    exact ⟨none, 0, rfl, World.ownsRow_nil _ _ _ _, hb1⟩
  · rw [accessesOf_yes hv]
    go_enter Tryd.func21, Tryd.ntmps21
    go_wp2_with fail
    refine (validSteps_any A c ss _ hn hT hJ hr).mono ?_
    rintro e w1 ⟨rfl, hb1⟩
    rw [hv]
    have hr1 := hr.step hb1
    clear hv hr hT hJ
    go_wp2
    go_loopg [3, 11] ss.length (fun gk ov s13 wr => ∃ (k m : Nat) (A' : Option Addr) (c' : Nat), k ≤ ss.length ∧ gk = ss.length - k ∧ s13 = .int .i64 k ∧ ov = .slice A' m c' ∧ Hid (m = (accsOf (ss.take k)).length) ∧
      wr.ownsRow w1.heap.size 61 3 ov m (acs (accsOf (ss.take k))) ∧ Below w1.heap.size w1 wr)
    case atStart => exact ⟨0, 0, none, 0, Nat.zero_le _, rfl, rfl, rfl, rfl, World.ownsRow_nil _ _ _ _, Below.refl _ _⟩
    case round =>
      obtain ⟨k, m, A', c', hk, rfl, rfl, rfl, HM, hown, hb⟩ := hrel
      by_cases hlt : k < ss.length
      · obtain ⟨b, off, s, rfl, hbl, hx, hc1, hc2, hc3, hc4⟩ := (hr1.below hb).st hlt
        have hml := Tl.accsOf_len_le ss k
        have hb2 := hb.alloc hb.size (.cells #[.int .i64 s.who, .bool s.free, .int .i64 s.node, .int .i64 s.mode] 29)
        have hown2 := hown.alloc (.cells #[.int .i64 s.who, .bool s.free, .int .i64 s.node, .int .i64 s.mode] 29)
        have hz := cell4_new wr (.int .i64 s.who) (.bool s.free) (.int .i64 s.node) (.int .i64 s.mode) 29
        have hz0 := hz 0 _ rfl
        have hz1 := hz 1 _ rfl
        have hz2 := hz 2 _ rfl
        have hz3 := hz 3 _ rfl
        clear hz hown
        cases hf : s.free with
        | true =>
          have HN := Lib.hid (Tl.accsOf_skip hx hf)
          rw [hf] at hb2 hown2 hz0 hz1 hz2 hz3 hc2
          clear hx hf
          go_wp2
          go_roundg (ss.length - (k + 1))
          case measure => omega
          case rel => exact ⟨k + 1, m, A', c', by omega, rfl, by go_num, rfl, by rw [HN.out]; exact HM, by rw [HN.out]; exact hown2, hb2⟩
        | false =>
          have HN := Lib.hid (Tl.accsOf_take hx hf)
          rw [hf] at hb2 hown2 hz0 hz1 hz2 hz3 hc2
          obtain rfl := HM.out
          obtain ⟨bw, hbw⟩ : ∃ bw, bw = (s.mode == 5) := ⟨_, rfl⟩
          have hbe : decide (s.mode = 5) = bw := by rw [hbw]; simp [Bool.beq_eq_decide_eq]
          have HBE : Hid (acOf s = ⟨s.who, s.node, bw⟩) := by show _ = _; unfold acOf; rw [hbe]
          have hbw' := hbw.symm
          clear HM hx hf hbe hbw
          go_wp2_with (at_builtin; refine wpList_push_ac rfl _ _ rfl ⟨s.who, s.node, bw⟩ rfl (hown2.alloc _) rfl (by first | exact heap_alloc_new2 wr _ _ | exact heap_alloc_new _ _) (by omega) (by simp; have := hb.size; omega) ?_; intro A2 c2 w2 ho2 hb3 _)
          have hb4 := (hb2.alloc hb2.size (.cells #[.int .i64 s.who, .int .i64 s.node, .bool bw] 61)).trans hb3
          rw [← HBE.out, ← HN.out] at ho2
          clear hown2 hb hb2 hb3 hc1 hc2 hc3 hc4 hz0 hz1 hz2 hz3
          go_wp2
          go_roundg (ss.length - (k + 1))
          case measure => omega
          case rel => exact ⟨k + 1, (accsOf (ss.take k)).length + 1, A2, c2, by omega, rfl, by go_num, rfl, by show _ = _; rw [HN.out, List.length_append]; rfl, ho2, hb4⟩
      · rw [take_all hlt] at hown HM
        have hb4 := below_then hb1 hb hb1.size
        have ho4 := own_base hown hb1.size
        obtain rfl := HM.out
        clear HM hown hb
        go_wp2
        go_ret
        exact ⟨A', c', rfl, ho4, hb4⟩
set_option maxHeartbeats 1000000 in
set_option maxRecDepth 100000 in
theorem saccessesOf_any (A : Option Addr) (c : Nat) (ss : List St) (w : World) (hn : ss.length ≤ 100000) (hr : Rd w w.heap.size 4 A ss.length (sts ss)) :
    Calls Tryd.prog 23 #[.slice A ss.length c] w (PAcs w (accessesOf ss)) := by
  have hb0 := (Below.refl w.heap.size w).alloc (Nat.le_refl _) (.cells #[] 61)
  have hr0 := (hr.below hb0).more hb0.size
  cases hv : validS ss
  · rw [accessesOf_no hv]
    go_enter Tryd.func23, Tryd.ntmps23
    go_wp2_with fail
    refine (svalidSteps0_any A c ss _ hn hr0).mono ?_
    rintro e w1 ⟨rfl, hb1⟩
    have hb2 := hb0.trans (hb1.mono hb0.size)
    rw [hv]
    go_wp2
    go_ret
    exact ⟨none, 0, rfl, World.ownsRow_nil _ _ _ _, hb2⟩
  · rw [accessesOf_yes hv]
    go_enter Tryd.func23, Tryd.ntmps23
    go_wp2_with fail
    refine (svalidSteps0_any A c ss _ hn hr0).mono ?_
    rintro e w1 ⟨rfl, hb1⟩
    have hb2 := hb0.trans (hb1.mono hb0.size)
    have hown0 := own_below (own_lit0 w 61 3 (base := w.heap.size) (Nat.le_refl _)) hb1 (Nat.le_refl _)
    rw [hv]
    have hrk := hr
    clear hv hr hr0 hb0 hb1
    go_wp2
    go_loopg [3, 4] ss.length (fun gk ov s13 wr => ∃ (k m : Nat) (A' : Option Addr) (c' : Nat), k ≤ ss.length ∧ gk = ss.length - k ∧ s13 = .int .i64 k ∧ ov = .slice A' m c' ∧ Hid (m = (accsOf (ss.take k)).length) ∧
      wr.ownsRow w.heap.size 61 3 ov m (acs (accsOf (ss.take k))) ∧ Below w.heap.size w wr)
    case atStart => exact ⟨0, 0, _, 0, Nat.zero_le _, rfl, rfl, rfl, rfl, hown0, hb2⟩
    case round =>
      clear hown0 hb2
      obtain ⟨k, m, A', c', hk, rfl, rfl, rfl, HM, hown, hb⟩ := hrel
      by_cases hlt : k < ss.length
      · obtain ⟨b, off, s, rfl, hbl, hx, hc1, hc2, hc3, hc4⟩ := (hrk.below hb).st hlt
        have hml := Tl.accsOf_len_le ss k
        cases hf : s.free with
        | true =>
          have HN := Lib.hid (Tl.accsOf_skip hx hf)
          rw [hf] at hc2
          clear hx hf
          go_wp2
          go_roundg (ss.length - (k + 1))
          case measure => omega
          case rel => exact ⟨k + 1, m, A', c', by omega, rfl, by go_num, rfl, by rw [HN.out]; exact HM, by rw [HN.out]; exact hown, hb⟩
        | false =>
          have HN := Lib.hid (Tl.accsOf_take hx hf)
          rw [hf] at hc2
          obtain rfl := HM.out
          obtain ⟨bw, hbw⟩ : ∃ bw, bw = (s.mode == 5) := ⟨_, rfl⟩
          have hbe : decide (s.mode = 5) = bw := by rw [hbw]; simp [Bool.beq_eq_decide_eq]
          have HBE : Hid (acOf s = ⟨s.who, s.node, bw⟩) := by show _ = _; unfold acOf; rw [hbe]
          have hbw' := hbw.symm
          have hi0 : (0 : Int) ≤ (k : Int) := by omega
          have hi1 : (k : Int) < (ss.length : Int) := by omega
          clear HM hx hf hbe hbw
          go_wp2
          go_region_held3 (fun w' => w'.cell? ⟨b, off + k * 4, none⟩ = some (.int .i64 s.who) ∧ w'.cell? ⟨b, off + k * 4 + 2, none⟩ = some (.int .i64 s.node) ∧ w'.cell? ⟨b, off + k * 4 + 3, none⟩ = some (.int .i64 s.mode))
            (first | go_keep | exact ⟨(hb4.cell (p := ⟨b, off + k * 4, none⟩) hbl).trans ((hb.cell (p := ⟨b, off + k * 4, none⟩) hbl).symm.trans hc1), (hb4.cell (p := ⟨b, off + k * 4 + 2, none⟩) hbl).trans ((hb.cell (p := ⟨b, off + k * 4 + 2, none⟩) hbl).symm.trans hc3), (hb4.cell (p := ⟨b, off + k * 4 + 3, none⟩) hbl).trans ((hb.cell (p := ⟨b, off + k * 4 + 3, none⟩) hbl).symm.trans hc4)⟩)
            (first
              | (refine step_push_ac (by rfl) _ _ (by rfl) ⟨s.who, s.node, bw⟩ (by rfl) (hown.drew.alloc _) (by rfl) (heap_alloc_new wr.drew _) (by omega) (by simp; have := hb.size; omega) ?_; intro A2 c2 w2 ho2 hb3 _; have hb4 := (hb.drew.alloc hb.size (.cells #[.int .i64 s.who, .int .i64 s.node, .bool bw] 61)).trans hb3))
          rw [← HBE.out, ← HN.out] at ho2
          clear hown hb hb3 hc1 hc2 hc3 hc4
          go_wp2
          go_roundg (ss.length - (k + 1))
          case measure => omega
          case rel => exact ⟨k + 1, (accsOf (ss.take k)).length + 1, A2, c2, by omega, rfl, by go_num, rfl, by show _ = _; rw [HN.out, List.length_append]; rfl, ho2, hb4⟩
      · rw [take_all hlt] at hown HM
        obtain rfl := HM.out
        clear HM
        go_wp2
        go_ret
        exact ⟨A', c', rfl, hown, hb⟩
end Go.Proofs.YtpbhphpmegcenaaDoor
