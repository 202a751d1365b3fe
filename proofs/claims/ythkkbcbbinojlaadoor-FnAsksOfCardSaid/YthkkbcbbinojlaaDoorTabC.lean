/- Contracts: spec.validTable, spec.ValidTable. -/
import Derived.Test.YthkkbcbbinojlaaDoorTabB
namespace Go.Proofs.YthkkbcbbinojlaaDoor
open Go.RowKit
open Tl (Lk okM okL tog fits fitAll validT validT_iff askOk askOk_iff)

theorem sgoTogether_q {a b : Int} {w : World} {n : Nat} {t : Bool} (ha : okM a) (hb : okM b) (ht : tog a b = t) :
    Calls Tryd.prog 33 #[.int .i64 a, .int .i64 b] (w.drewN n) fun e w'' => e = .returned (.bool t) ∧ ∃ m, w'' = w.drewN m :=
  quiet_same (sgoTogether_any ha hb _) (by rw [ht])

set_option maxHeartbeats 1000000 in
set_option maxRecDepth 100000 in
theorem svalidTable0_any (A : Option Addr) (c : Nat) (l : List Lk) (w : World) (hn : l.length ≤ 100000) (hr : Rd w w.heap.size 3 A l.length (lks l)) :
    Calls Tryd.prog 20 #[.slice A l.length c] w (PBool w (validT l)) := by
  go_enter Tryd.func20, Tryd.ntmps20
  go_wp2
  go_loopg [3, 4] l.length (fun gk s3 _ wr => ∃ k : Nat, k ≤ l.length ∧ gk = l.length - k ∧ s3 = .int .i64 k ∧ Hid (okTo l k) ∧ Below w.heap.size w wr)
  case atStart => exact ⟨0, Nat.zero_le _, rfl, rfl, okTo_zero l, Below.refl _ _⟩
  case round =>
    obtain ⟨k, hk, rfl, rfl, HO, hb⟩ := hrel
    by_cases hlt : k < l.length
    · obtain ⟨b, off, x, rfl, hbl, hx, hc1, hc2, hc3⟩ := (hr.below hb).lk hlt
      have HX := Lib.hid hx
      clear hx
      have HW1 : Hid (okL x ↔ (0 ≤ x.who ∧ x.who ≤ 3) ∧ (0 ≤ x.node ∧ x.node ≤ 11) ∧ (1 ≤ x.mode ∧ x.mode ≤ 5)) := by
        show _ ↔ _
        unfold okL
        constructor
        · intro h; exact ⟨⟨h.1, h.2.1⟩, ⟨h.2.2.1, h.2.2.2.1⟩, h.2.2.2.2⟩
        · intro h; exact ⟨h.1.1, h.1.2, h.2.1.1, h.2.1.2, h.2.2⟩
      by_cases h1 : 0 ≤ x.who ∧ x.who ≤ 3
      · have H1 := Lib.hid (decide_eq_true h1)
        by_cases h2 : 0 ≤ x.node ∧ x.node ≤ 11
        · have H2 := Lib.hid (decide_eq_true h2)
          by_cases h3 : 1 ≤ x.mode ∧ x.mode ≤ 5
          · have H3 := Lib.hid (decide_eq_true h3)
            have hxo : okL x := HW1.out.2 ⟨h1, h2, h3⟩
            have HXO := Lib.hid hxo
            have HXM := Lib.hid hxo.mode
            clear h1 h2 h3 hxo
            go_wp2_with fail
            refine (inRange_any x.who 0 3 _).mono ?_
            rintro e w' ⟨rfl, rfl⟩
            rw [H1.out]
            go_wp2_with fail
            refine (inRange_any x.node 0 11 _).mono ?_
            rintro e w' ⟨rfl, rfl⟩
            rw [H2.out]
            go_wp2_with fail
            refine (inRange_any x.mode 1 5 _).mono ?_
            rintro e w' ⟨rfl, rfl⟩
            rw [H3.out]
            go_wp2
            obtain ⟨wo, rfl⟩ : ∃ wo : World, wo = wr := ⟨_, rfl⟩
            go_loopg [4] k (fun gj s4 wr => ∃ j : Nat, j ≤ k ∧ gj = k - j ∧ s4 = .int .i64 j ∧ Hid (∀ y ∈ l.take j, fits x y) ∧ Below wo.heap.size wo wr)
            case atStart => exact ⟨0, Nat.zero_le _, rfl, rfl, (by show ∀ y ∈ l.take 0, fits x y; simp), Below.refl _ _⟩
            case round =>
              obtain ⟨j, hj, rfl, rfl, HF, hb5⟩ := hrel
              have hb6 := below_then hb hb5 hb.size
              by_cases hjk : j < k
              · obtain ⟨b', off', y, hA, hbl', hy, hd1, hd2, hd3⟩ := (hr.below hb6).lk (k := j) (by omega)
                injection hA with hA
                injection hA with e1 e2
                subst e1 e2
                have hv1 := (hb6.cell (p := ⟨b, off + k * 3, none⟩) hbl).trans ((hb.cell (p := ⟨b, off + k * 3, none⟩) hbl).symm.trans hc1)
                have hv2 := (hb6.cell (p := ⟨b, off + k * 3 + 1, none⟩) hbl).trans ((hb.cell (p := ⟨b, off + k * 3 + 1, none⟩) hbl).symm.trans hc2)
                have hv3 := (hb6.cell (p := ⟨b, off + k * 3 + 2, none⟩) hbl).trans ((hb.cell (p := ⟨b, off + k * 3 + 2, none⟩) hbl).symm.trans hc3)
                have hyo : okL y := HO.out.1 y (by rw [List.mem_iff_getElem?]; exact ⟨j, by rw [List.getElem?_take, if_pos hjk]; exact hy⟩)
                have HYM := Lib.hid hyo.mode
                have HY := Lib.hid hy
                clear hy hyo hc1 hc2 hc3
                by_cases hnd : x.node = y.node
                · have hnd' : (y.node == x.node) = true := by simp [hnd]
                  by_cases hwh : x.who = y.who
                  · have hwh' : (y.who == x.who) = true := by simp [hwh]
                    have HNF := Lib.hid (not_fits_who hnd hwh)
                    clear hnd hwh
                    go_wp2
                    go_quiet (fail)
                    go_wp2
                    go_ret
                    exact ⟨ret_bool (not_validT_fit HX.out HY.out hjk HNF.out).symm, below_drewN hb6 _⟩
                  · have hwh' : (y.who == x.who) = false := by simp; exact fun e => hwh e.symm
                    have HW := Lib.hid hwh
                    have HND := Lib.hid hnd
                    clear hnd hwh
                    cases htg : tog x.mode y.mode
                    · have HNF := Lib.hid (not_fits_tog HND.out htg)
                      have HTG := Lib.hid ((Tl.tog_comm (a := y.mode) (b := x.mode)).trans htg)
                      clear htg
                      go_wp2
                      go_quiet ((go_at_call 33; exact sgoTogether_q HYM.out HXM.out HTG.out))
                      go_wp2
                      go_ret
                      exact ⟨ret_bool (not_validT_fit HX.out HY.out hjk HNF.out).symm, below_drewN hb6 _⟩
                    · have HFT := Lib.hid (fits_ok HW.out htg)
                      have HTG := Lib.hid ((Tl.tog_comm (a := y.mode) (b := x.mode)).trans htg)
                      clear htg
                      go_wp2
                      go_quiet ((go_at_call 33; exact sgoTogether_q HYM.out HXM.out HTG.out))
                      go_wp2
                      go_roundg (k - (j + 1))
                      case measure => omega
                      case rel => exact ⟨j + 1, by omega, rfl, by go_num, all_take_succ HY.out HF.out HFT.out, below_drewN hb5 _⟩
                · have hnd' : (y.node == x.node) = false := by simp; exact fun e => hnd e.symm
                  have HFT := Lib.hid (fits_other hnd)
                  clear hnd
                  go_wp2
                  go_quiet (fail)
                  go_wp2
                  go_roundg (k - (j + 1))
                  case measure => omega
                  case rel => exact ⟨j + 1, by omega, rfl, by go_num, all_take_succ HY.out HF.out HFT.out, below_drewN hb5 _⟩
              · have hjk' : j = k := by omega
                have HF2 : Hid (∀ y ∈ l.take k, fits x y) := by rw [← hjk']; exact HF
                go_wp2
                go_roundg (l.length - (k + 1))
                case measure => omega
                case rel => exact ⟨k + 1, by omega, rfl, by go_num, okTo_succ HX.out HO.out HXO.out HF2.out, hb6⟩
          · have H3 := Lib.hid (decide_eq_false h3)
            have HNO := Lib.hid (not_validT_ok HX.out (fun h => h3 (HW1.out.1 h).2.2))
            clear h1 h2 h3
            go_wp2_with fail
            refine (inRange_any x.who 0 3 _).mono ?_
            rintro e w' ⟨rfl, rfl⟩
            rw [H1.out]
            go_wp2_with fail
            refine (inRange_any x.node 0 11 _).mono ?_
            rintro e w' ⟨rfl, rfl⟩
            rw [H2.out]
            go_wp2_with fail
            refine (inRange_any x.mode 1 5 _).mono ?_
            rintro e w' ⟨rfl, rfl⟩
            rw [H3.out]
            go_wp2
            go_ret
            exact ⟨ret_bool HNO.out.symm, hb⟩
        · have H2 := Lib.hid (decide_eq_false h2)
          have HNO := Lib.hid (not_validT_ok HX.out (fun h => h2 (HW1.out.1 h).2.1))
          clear h1 h2
          go_wp2_with fail
          refine (inRange_any x.who 0 3 _).mono ?_
          rintro e w' ⟨rfl, rfl⟩
          rw [H1.out]
          go_wp2_with fail
          refine (inRange_any x.node 0 11 _).mono ?_
          rintro e w' ⟨rfl, rfl⟩
          rw [H2.out]
          go_wp2
          go_ret
          exact ⟨ret_bool HNO.out.symm, hb⟩
      · have H1 := Lib.hid (decide_eq_false h1)
        have HNO := Lib.hid (not_validT_ok HX.out (fun h => h1 (HW1.out.1 h).1))
        clear h1
        go_wp2_with fail
        refine (inRange_any x.who 0 3 _).mono ?_
        rintro e w' ⟨rfl, rfl⟩
        rw [H1.out]
        go_wp2
        go_ret
        exact ⟨ret_bool HNO.out.symm, hb⟩
    · have HE := Lib.hid (okTo_all hlt HO.out)
      go_wp2
      go_ret
      exact ⟨ret_bool (by rw [HE.out, Bool.eq_iff_iff, decide_eq_true_eq, decide_eq_true_eq]; omega), hb⟩
theorem svalidTable_any (A : Option Addr) (c : Nat) (l : List Lk) (w : World) (hn : l.length ≤ 100000) (hr : Rd w w.heap.size 3 A l.length (lks l)) :
    Calls Tryd.prog 8 #[.slice A l.length c] w (PBool w (validT l)) := by
  go_enter Tryd.func8, Tryd.ntmps8
  go_wp2_with fail
  refine (svalidTable0_any A c l _ hn hr).mono ?_
  rintro e w1 ⟨rfl, hb1⟩
  go_wp2
  go_ret
  exact ⟨rfl, hb1⟩
end Go.Proofs.YthkkbcbbinojlaaDoor
