/- Contracts: LockBlockers, of both packages; spec.validAsk. -/
import Derived.Test.YthkkbcbbinojlaaDoorTabD
import Derived.Test.YthkkbcbbinojlaaDoorTabJ
namespace Go.Proofs.YthkkbcbbinojlaaDoor
open Go.RowKit
open Tl (Lk okM okL tog join validT validT_iff at_ at_iff held held_ok askOk askOk_iff T4 blockers blockersOf lockBlockers join_ok)

theorem T4_get {k : Nat} (hk : k < 4) : T4[k]? = some (k : Int) := by
  have hkk : k = 0 ∨ k = 1 ∨ k = 2 ∨ k = 3 := by omega
  rcases hkk with rfl | rfl | rfl | rfl <;> rfl
theorem filter_snoc_yes {S : Int → Bool} {k : Nat} (hk : k < 4) (h : S k = true) : (T4.take (k + 1)).filter S = (T4.take k).filter S ++ [(k : Int)] := by
  rw [take_succ_of (T4_get hk), List.filter_append]; simp [h]
theorem filter_snoc_no {S : Int → Bool} {k : Nat} (hk : k < 4) (h : S k = false) : (T4.take (k + 1)).filter S = (T4.take k).filter S := by
  rw [take_succ_of (T4_get hk), List.filter_append]; simp [h]
theorem filter_T4_all {S : Int → Bool} {k : Nat} (h : ¬ k < 4) : (T4.take k).filter S = T4.filter S := by
  rw [List.take_of_length_le (by simp [T4]; omega)]
theorem filter_T4_len (S : Int → Bool) (k : Nat) : ((T4.take k).filter S).length ≤ 4 := by
  have h1 := List.length_filter_le S (T4.take k)
  have h2 : (T4.take k).length ≤ 4 := by rw [List.length_take]; exact Nat.min_le_right _ _
  omega
/-- Does one stand in the way? -/
def inWay (l : List Lk) (who node want : Int) (t : Int) : Bool := decide (t ≠ who) && !tog (held l t node) want
theorem blockersOf_eq (l : List Lk) (who node want : Int) : blockersOf l who node want = T4.filter (inWay l who node want) := rfl
theorem blockersOf_len (l : List Lk) (who node want : Int) : (blockersOf l who node want).length ≤ 4 := List.length_filter_le _ _
theorem lockBlockers_len (l : List Lk) (who node mode : Int) : (lockBlockers l who node mode).length ≤ 4 := by
  unfold lockBlockers
  split
  · exact blockersOf_len _ _ _ _
  · simp

set_option maxHeartbeats 1000000 in
set_option maxRecDepth 100000 in
theorem lockBlockers_any (A : Option Addr) (c : Nat) (l : List Lk) (who node mode : Int) (w : World) (hn : l.length ≤ 100000) (hcap : l.length ≤ c) (hT : TabT w) (hJ : TabJ w) (hr : Rd w w.heap.size 3 A l.length (lks l)) :
    Calls Tryd.prog 13 #[.slice A l.length c, .int .i64 who, .int .i64 node, .int .i64 mode] w (PInts w (lockBlockers l who node mode)) := by
  cases hv : validT l
  · have he : lockBlockers l who node mode = [] := by simp [lockBlockers, hv]
    rw [he]
    clear he
    go_enter Tryd.func13, Tryd.ntmps13
    go_wp2_with fail
    refine (validTable_any A c l _ hn hcap hT hr).mono ?_
    rintro e w1 ⟨rfl, hb1⟩
    rw [hv]
    go_wp2
    go_ret
    exact ⟨none, 0, rfl, World.ownsRow_nil _ _ _ _, hb1⟩
  · cases ha : askOk who node mode
    · have he : lockBlockers l who node mode = [] := by simp [lockBlockers, ha]
      rw [he]
      clear he
      go_enter Tryd.func13, Tryd.ntmps13
      go_wp2_with fail
      refine (validTable_any A c l _ hn hcap hT hr).mono ?_
      rintro e w1 ⟨rfl, hb1⟩
      rw [hv]
      go_wp2_with fail
      refine (isAsk_any who node mode _).mono ?_
      rintro e w2 ⟨rfl, rfl⟩
      rw [ha]
      go_wp2
      go_ret
      exact ⟨none, 0, rfl, World.ownsRow_nil _ _ _ _, hb1⟩
    · have he : lockBlockers l who node mode = T4.filter (inWay l who node (join (held l who node) mode)) := by simp [lockBlockers, ha, hv, blockers, blockersOf_eq]
      rw [he]
      have hlo := (validT_iff.1 hv).2.1
      have hmo := (askOk_iff.1 ha).mode
      have hwant := join_ok (held_ok hlo who node) hmo
      have HLO := Lib.hid hlo
      have HMO := Lib.hid hmo
      have HHO := Lib.hid (held_ok hlo who node)
      clear he
      go_enter Tryd.func13, Tryd.ntmps13
      go_wp2_with fail
      refine (validTable_any A c l _ hn hcap hT hr).mono ?_
      rintro e w1 ⟨rfl, hb1⟩
      have hr1 := hr.step hb1
      have hT1 := hT.step hb1
      have hJ1 := hJ.step hb1
      rw [hv]
      go_wp2_with fail
      refine (isAsk_any who node mode _).mono ?_
      rintro e w2 ⟨rfl, rfl⟩
      rw [ha]
      clear hv ha hlo hmo
      go_wp2_with fail
      refine (heldIn_any A c l who node _ hn hr1).mono ?_
      rintro e w2 ⟨rfl, hb2⟩
      have hr2 := hr1.step hb2
      have hT2 := hT1.step hb2
      have hJ2 := hJ1.step hb2
      have hb3 := below_then hb1 hb2 hb1.size
      clear hb1 hb2 hr1 hT1 hJ1 hr hT hJ
      go_wp2_with fail
      refine (joinModes_any HHO.out HMO.out _ hJ2).mono ?_
      rintro e w3 ⟨rfl, rfl⟩
      obtain ⟨want, hwe⟩ : ∃ want, want = join (held l who node) mode := ⟨_, rfl⟩
      rw [← hwe] at hwant ⊢
      have HWM := Lib.hid hwant
      have HWE := Lib.hid hwe
      clear hwe hwant hJ2
      go_wp2
      go_loopg [10, 28] 4 (fun gk v s28 wr => ∃ (k : Nat) (A' : Option Addr) (c' : Nat), k ≤ 4 ∧ gk = 4 - k ∧ s28 = .int .i64 k ∧ v = .slice A' ((T4.take k).filter (inWay l who node want)).length c' ∧
        wr.ownsRow w2.heap.size 3 1 v ((T4.take k).filter (inWay l who node want)).length (ints ((T4.take k).filter (inWay l who node want))) ∧ Below w2.heap.size w2 wr)
      case atStart => exact ⟨0, none, 0, by omega, rfl, rfl, rfl, World.ownsRow_nil _ _ _ _, Below.refl _ _⟩
      case round =>
        obtain ⟨k, A', c', hk, rfl, rfl, rfl, hown, hb⟩ := hrel
        have hl := filter_T4_len (inWay l who node want) k
        by_cases hlt : k < 4
        · by_cases hkw : (k : Int) = who
          · have hkw' : ((k : Int) != who) = false := by simp [hkw]
            have HS := Lib.hid (filter_snoc_no (S := inWay l who node want) hlt (by simp [inWay, hkw]))
            clear hkw
            go_wp2
            go_roundg (4 - (k + 1))
            case measure => omega
            case rel => exact ⟨k + 1, A', c', by omega, rfl, by go_num, by rw [HS.out], by rw [HS.out]; exact hown, hb⟩
          · have hkw' : ((k : Int) != who) = true := by simp [hkw]
            have HKW := Lib.hid hkw
            have hr3 := (hr2.below hb).more hb.size
            clear hkw
            go_wp2_with fail
            refine (heldIn_any A c l (k : Int) node _ hn hr3).mono ?_
            rintro e w4 ⟨rfl, hb4⟩
            have hown4 := own_below hown hb4 (Nat.le_refl _)
            have hb5 := below_then hb hb4 hb.size
            clear hown hb hb4 hr3
            go_wp2_with fail
            refine (goTogether_any (held_ok HLO.out (k : Int) node) HWM.out _ (hT2.below hb5 (Nat.le_refl _))).mono ?_
            rintro e w5 ⟨rfl, rfl⟩
            cases hS : tog (held l (k : Int) node) want
            · have HS := Lib.hid (filter_snoc_yes (S := inWay l who node want) hlt (by simp [inWay, HKW.out, hS]))
              clear hS
              go_wp2_with (at_builtin; refine wpList_push_int rfl _ _ rfl rfl hown4 rfl rfl (by omega) hb5.size ?_; intro A2 c2 w6 ho2 hb2 _)
              have hb6 := hb5.trans hb2
              clear hown4 hb5 hb2
              go_wp2
              go_roundg (4 - (k + 1))
              case measure => omega
              case rel => exact ⟨k + 1, A2, c2, by omega, rfl, by go_num, by rw [HS.out]; simp, by rw [HS.out]; simpa using ho2, hb6⟩
            · have HS := Lib.hid (filter_snoc_no (S := inWay l who node want) hlt (by simp [inWay, hS]))
              clear hS
              go_wp2
              go_roundg (4 - (k + 1))
              case measure => omega
              case rel => exact ⟨k + 1, A', c', by omega, rfl, by go_num, by rw [HS.out], by rw [HS.out]; exact hown4, hb5⟩
        · have HE := Lib.hid (filter_T4_all (S := inWay l who node want) hlt)
          have hb6 := below_then hb3 hb hb3.size
          have ho6 := own_base hown hb3.size
          clear hb hown
          go_wp2
          go_ret
          rw [HE.out] at ho6
          rw [← HWE.out]
          exact ⟨A', c', ret_slice (by rw [HE.out]), ho6, hb6⟩

theorem validAsk_any (A : Option Addr) (c : Nat) (l : List Lk) (who node mode : Int) (w : World) (hn : l.length ≤ 100000) (hr : Rd w w.heap.size 3 A l.length (lks l)) :
    Calls Tryd.prog 23 #[.slice A l.length c, .int .i64 who, .int .i64 node, .int .i64 mode] w (PBool w (validT l && askOk who node mode)) := by
  have HA : Hid (askOk who node mode = (decide (0 ≤ who ∧ who ≤ 3) && (decide (0 ≤ node ∧ node ≤ 11) && decide (1 ≤ mode ∧ mode ≤ 5)))) := by
    show _ = _
    unfold askOk
    rw [Bool.eq_iff_iff]
    simp only [Bool.and_eq_true, decide_eq_true_eq]
    omega
  rw [HA.out]
  obtain ⟨b1, h1⟩ : ∃ b1, b1 = decide (0 ≤ who ∧ who ≤ 3) := ⟨_, rfl⟩
  obtain ⟨b2, h2⟩ : ∃ b2, b2 = decide (0 ≤ node ∧ node ≤ 11) := ⟨_, rfl⟩
  obtain ⟨b3, h3⟩ : ∃ b3, b3 = decide (1 ≤ mode ∧ mode ≤ 5) := ⟨_, rfl⟩
  obtain ⟨b0, h0⟩ : ∃ b0, b0 = validT l := ⟨_, rfl⟩
  rw [← h0, ← h1, ← h2, ← h3]
  have H0 := Lib.hid h0
  have H1 := Lib.hid h1
  have H2 := Lib.hid h2
  have H3 := Lib.hid h3
  clear h0 h1 h2 h3 HA
  go_enter Tryd.func23, Tryd.ntmps23
  go_wp2_with fail
  refine (svalidTable0_any A c l _ hn hr).mono ?_
  rintro e w1 ⟨rfl, hb1⟩
  rw [← H0.out]
  cases b0
  · go_wp2
    go_ret
    exact ⟨rfl, hb1⟩
  · go_wp2_with fail
    refine (inRange_any who 0 3 _).mono ?_
    rintro e w' ⟨rfl, rfl⟩
    rw [← H1.out]
    cases b1
    · go_wp2
      go_ret
      exact ⟨rfl, hb1⟩
    · go_wp2_with fail
      refine (inRange_any node 0 11 _).mono ?_
      rintro e w' ⟨rfl, rfl⟩
      rw [← H2.out]
      cases b2
      · go_wp2
        go_ret
        exact ⟨rfl, hb1⟩
      · go_wp2_with fail
        refine (inRange_any mode 1 5 _).mono ?_
        rintro e w' ⟨rfl, rfl⟩
        rw [← H3.out]
        go_wp2
        go_ret
        exact ⟨rfl, hb1⟩

theorem sblockers_any (A : Option Addr) (c : Nat) (l : List Lk) (who node want : Int) (w : World) (hn : l.length ≤ 100000) (hlo : ∀ x ∈ l, okL x) (hwm : okM want) (hr : Rd w w.heap.size 3 A l.length (lks l)) :
    Calls Tryd.prog 34 #[.slice A l.length c, .int .i64 who, .int .i64 node, .int .i64 want] w (PInts w (blockersOf l who node want)) := by
  rw [blockersOf_eq]
  have HLO := Lib.hid hlo
  have HWM := Lib.hid hwm
  clear hlo hwm
  go_enter Tryd.func34, Tryd.ntmps34
  go_wp2
  go_loopg [9, 10] 4 (fun gk v s28 wr => ∃ (k : Nat) (A' : Option Addr) (c' : Nat), k ≤ 4 ∧ gk = 4 - k ∧ s28 = .int .i64 k ∧ v = .slice A' ((T4.take k).filter (inWay l who node want)).length c' ∧
    wr.ownsRow w.heap.size 3 1 v ((T4.take k).filter (inWay l who node want)).length (ints ((T4.take k).filter (inWay l who node want))) ∧ Below w.heap.size w wr)
  case atStart => exact ⟨0, _, 0, by omega, rfl, rfl, rfl, own_lit0 w 3 1 (Nat.le_refl _), (Below.refl _ _).alloc (Nat.le_refl _) _⟩
  case round =>
    obtain ⟨k, A', c', hk, rfl, rfl, rfl, hown, hb⟩ := hrel
    have hl := filter_T4_len (inWay l who node want) k
    by_cases hlt : k < 4
    · by_cases hkw : (k : Int) = who
      · have hkw' : ((k : Int) != who) = false := by simp [hkw]
        have HS := Lib.hid (filter_snoc_no (S := inWay l who node want) hlt (by simp [inWay, hkw]))
        clear hkw
        go_wp2
        go_roundg (4 - (k + 1))
        case measure => omega
        case rel => exact ⟨k + 1, A', c', by omega, rfl, by go_num, by rw [HS.out], by rw [HS.out]; exact hown, hb⟩
      · have hkw' : ((k : Int) != who) = true := by simp [hkw]
        have HKW := Lib.hid hkw
        have hr3 := hr.below hb
        clear hkw
        go_wp2_with fail
        refine (sheld_any A c l (k : Int) node _ hn hr3).mono ?_
        rintro e w4 ⟨rfl, rfl⟩
        go_wp2_with fail
        refine (sgoTogether_any (held_ok HLO.out (k : Int) node) HWM.out _).mono ?_
        rintro e w5 ⟨rfl, rfl⟩
        cases hS : tog (held l (k : Int) node) want
        · have HS := Lib.hid (filter_snoc_yes (S := inWay l who node want) hlt (by simp [inWay, HKW.out, hS]))
          clear hS hr3
          go_wp2_with (at_builtin; refine wpList_push_int rfl _ _ rfl rfl hown rfl rfl (by omega) hb.size ?_; intro A2 c2 w6 ho2 hb2 _)
          have hb6 := hb.trans hb2
          clear hown hb hb2
          go_wp2
          go_roundg (4 - (k + 1))
          case measure => omega
          case rel => exact ⟨k + 1, A2, c2, by omega, rfl, by go_num, by rw [HS.out]; simp, by rw [HS.out]; simpa using ho2, hb6⟩
        · have HS := Lib.hid (filter_snoc_no (S := inWay l who node want) hlt (by simp [inWay, hS]))
          clear hS hr3
          go_wp2
          go_roundg (4 - (k + 1))
          case measure => omega
          case rel => exact ⟨k + 1, A', c', by omega, rfl, by go_num, by rw [HS.out], by rw [HS.out]; exact hown, hb⟩
    · have HE := Lib.hid (filter_T4_all (S := inWay l who node want) hlt)
      go_wp2
      go_ret
      rw [HE.out] at hown
      exact ⟨A', c', ret_slice (by rw [HE.out]), hown, hb⟩

theorem slockBlockers_any (A : Option Addr) (c : Nat) (l : List Lk) (who node mode : Int) (w : World) (hn : l.length ≤ 100000) (hr : Rd w w.heap.size 3 A l.length (lks l)) :
    Calls Tryd.prog 24 #[.slice A l.length c, .int .i64 who, .int .i64 node, .int .i64 mode] w (PInts w (lockBlockers l who node mode)) := by
  cases hv : (validT l && askOk who node mode)
  · have he : lockBlockers l who node mode = [] := by unfold lockBlockers; rw [hv]; rfl
    rw [he]
    clear he
    go_enter Tryd.func24, Tryd.ntmps24
    go_wp2_with fail
    refine (validAsk_any A c l who node mode _ hn hr).mono ?_
    rintro e w1 ⟨rfl, hb1⟩
    rw [hv]
    go_wp2
    go_ret
    exact ⟨none, 0, rfl, World.ownsRow_nil _ _ _ _, hb1⟩
  · have he : lockBlockers l who node mode = blockersOf l who node (join (held l who node) mode) := by unfold lockBlockers; rw [hv]; rfl
    rw [he]
    have hv2 := (Bool.and_eq_true _ _ ▸ hv : validT l = true ∧ askOk who node mode = true)
    have hlo := (validT_iff.1 hv2.1).2.1
    have hmo := (askOk_iff.1 hv2.2).mode
    have HLO := Lib.hid hlo
    have HMO := Lib.hid hmo
    have HHO := Lib.hid (held_ok hlo who node)
    have HWM := Lib.hid (join_ok (held_ok hlo who node) hmo)
    clear he hv2 hlo hmo
    go_enter Tryd.func24, Tryd.ntmps24
    go_wp2_with fail
    refine (validAsk_any A c l who node mode _ hn hr).mono ?_
    rintro e w1 ⟨rfl, hb1⟩
    rw [hv]
    clear hv
    have hr1 := hr.step hb1
    go_wp2_with fail
    refine (sheld_any A c l who node _ hn hr1).mono ?_
    rintro e w2 ⟨rfl, rfl⟩
    go_wp2_with fail
    refine (sjoined_any HHO.out HMO.out _).mono ?_
    rintro e w2 ⟨rfl, rfl⟩
    go_wp2_with fail
    refine (sblockers_any A c l who node _ _ hn HLO.out HWM.out hr1).mono ?_
    rintro e w2 ⟨A2, c2, rfl, ho2, hb2⟩
    have hb3 := below_then hb1 hb2 hb1.size
    have ho3 := own_base ho2 hb1.size
    clear ho2 hb2
    go_wp2
    go_ret
    exact ⟨A2, c2, rfl, ho3, hb3⟩
end Go.Proofs.YthkkbcbbinojlaaDoor
