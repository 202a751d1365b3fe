/- The walk of the law FnAsksOf. -/
import Derived.Test.YthkkbcbbinojlaaDoorAskKit
import Derived.Test.YthkkbcbbinojlaaDoorWaitsA
namespace Go.Proofs.YthkkbcbbinojlaaDoor
open Go.RowKit
open Tl (Lk Wt okM okL validT validT_iff askOk takeLock takeAll grantAll asksOf asksW asksOk lockBlockers blockers asksW_snoc)

/-- A wait of an ask, by its place. -/
theorem asksW_at {ls qs : List Lk} {i j : Nat} {x : Lk} {z : Int} (hx : qs[i]? = some x) (hz : (blockers ls x.who x.node x.mode)[j]? = some z) : (asksW ls qs)[(asksW ls (qs.take i)).length + j]? = some ⟨x.who, z⟩ := by
  have h1 : asksW ls qs = asksW ls (qs.take (i + 1)) ++ asksW ls (qs.drop (i + 1)) := by
    have h2 : asksW ls (qs.take (i + 1) ++ qs.drop (i + 1)) = asksW ls (qs.take (i + 1)) ++ asksW ls (qs.drop (i + 1)) := by unfold asksW; rw [List.flatMap_append]
    rw [List.take_append_drop] at h2
    exact h2
  have hj := (List.getElem?_eq_some_iff.1 hz).1
  rw [h1, asksW_snoc hx, List.append_assoc, List.getElem?_append_right (by omega), Nat.add_sub_cancel_left, List.getElem?_append_left (by rw [List.length_map]; exact hj), List.getElem?_map, hz]
  rfl

set_option maxHeartbeats 2000000 in
set_option maxRecDepth 100000 in
theorem law_FnAsksOf (A : Option Addr) (n c : Nat) (w : World) (h : Code8 w A n c) (hT : TabT w) (hJ : TabJ w) : Calls Tryd.prog 4 #[.slice A n c] w (PBool w true) := by
  have hle : (n : Int) ≤ 1048576 := by have := h.le; omega
  go_enter Tryd.func4, Tryd.ntmps4
  go_wp2_with fail
  refine (drawAsksOf_any A n c _ h).mono ?_
  rintro e w1 ⟨ls, A1, c1, qs, A2, c2, rfl, ho1, hl1, hq1, hql, hb1⟩
  have hr1 := Rd.of_own ho1
  have hs1 := Rd.of_own hq1
  have hcap := own_cap2 ho1
  have hT1 := hT.step hb1
  have hJ1 := hJ.step hb1
  clear h ho1 hq1 hT hJ
  cases hqs : asksOf ls qs with
  | none =>
    have HQ := Lib.hid hqs
    clear hqs
    go_wp2_with fail
    refine (asks_no (c' := c2) (by omega) hcap (by omega) hT1 hJ1 hr1 hs1 HQ.out).mono ?_
    rintro e w2 ⟨A3, c3, rfl, hx2, hb2⟩
    have hr2 := hr1.step hb2
    have hs2 := hs1.step hb2
    have hb2 := below_then hb1 hb2 hb1.size
    go_wp2_with fail
    refine (sasks_no (c' := c2) (by omega) (by omega) hr2 hs2 HQ.out).mono ?_
    rintro e w3 ⟨A4, c4, rfl, hy3, hb3⟩
    have hx3 := hx2.step hb3
    have hb3 := below_then hb2 hb3 hb2.size
    clear hx2 hr1 hr2 hs1 hs2 hT1 hJ1 hb1 hb2
    go_wp2_with fail
    refine (equalWaits_none A3 c3 A4 c4 _ hx3 hy3).mono ?_
    rintro e w4 ⟨rfl, hb4⟩
    have hx4 := hx3.step hb4
    have hy4 := hy3.step hb4
    have hb4 := below_then hb3 hb4 hb3.size
    clear hx3 hy3 hb3
    go_wp2_with fail
    refine (equalWaits_none A3 c3 A4 c4 _ hx4 hy4).mono ?_
    rintro e w5 ⟨rfl, hb5⟩
    have hb5 := below_then hb4 hb5 hb4.size
    go_wp2
    go_ret
    exact ⟨rfl, hb5⟩
  | some m =>
    have HQ := Lib.hid hqs
    have hml : m.length ≤ 12 := by
      obtain ⟨h1, h2⟩ := asks_some hqs
      rw [h2]
      exact Tl.asksW_length (Tl.asksOk_iff.1 h1).2.1 (Tl.asksOk_iff.1 h1).2.2
    clear hqs
    go_wp2_with fail
    refine (asks_yes (c' := c2) (by omega) hcap (by omega) hT1 hJ1 hr1 hs1 HQ.out).mono ?_
    rintro e w2 ⟨A3, c3, rfl, hx2, hb2⟩
    have hr2 := hr1.step hb2
    have hs2 := hs1.step hb2
    have hT2 := hT1.step hb2
    have hJ2 := hJ1.step hb2
    have hb2 := below_then hb1 hb2 hb1.size
    clear hr1 hs1 hT1 hJ1 hb1
    go_wp2_with fail
    refine (sasks_yes (c' := c2) (by omega) (by omega) hr2 hs2 HQ.out).mono ?_
    rintro e w3 ⟨A4, c4, rfl, hy3, hb3⟩
    have hr3 := hr2.step hb3
    have hs3 := hs2.step hb3
    have hT3 := hT2.step hb3
    have hJ3 := hJ2.step hb3
    have hx3 := hx2.step hb3
    have hb3 := below_then hb2 hb3 hb2.size
    clear hx2 hr2 hs2 hT2 hJ2 hb2
    go_wp2_with fail
    refine (equalWaits_same A3 c3 m A4 c4 _ (by omega) hx3 hy3).mono ?_
    rintro e w4 ⟨rfl, hb4⟩
    have hr4 := hr3.step hb4
    have hs4 := hs3.step hb4
    have hT4 := hT3.step hb4
    have hJ4 := hJ3.step hb4
    have hx4 := hx3.step hb4
    have hb4 := below_then hb3 hb4 hb3.size
    clear hx3 hy3 hr3 hs3 hT3 hJ3 hb3
    obtain ⟨hok, hmw⟩ := asks_some HQ.out
    have HV : Hid (validT ls = true) := (Tl.asksOk_iff.1 hok).1
    have HAK := Lib.hid (Tl.asksOk_iff.1 hok).2.1
    have HMW := Lib.hid hmw
    have HVW : Hid (Tl.validW m = true) := by show _ = _; rw [hmw]; exact Tl.asksW_valid hok
    clear hok hmw
    go_wp2
    go_loopg [9, 10] qs.length (fun gk kv iv wr => ∃ i : Nat, gk = qs.length - i ∧ i ≤ qs.length ∧ kv = .int .i64 ((asksW ls (qs.take i)).length : Nat) ∧ iv = .int .i64 i ∧ Below w4.heap.size w4 wr)
    case atStart => exact ⟨0, rfl, by omega, rfl, rfl, Below.refl _ _⟩
    case round =>
      obtain ⟨i, rfl, hi, rfl, rfl, hb⟩ := hrel
      by_cases hlt : i < qs.length
      · obtain ⟨w5, hw5⟩ : ∃ w5, wr.drew = w5 := ⟨_, rfl⟩
        have hb5 := hb.drew
        rw [hw5] at hb5
        obtain ⟨b, off, x, rfl, hbl, hx, hc1, hc2, hc3⟩ := (hs4.below hb5).lk hlt
        have HAO : Hid (askOk x.who x.node x.mode = true) := HAK.out x (List.mem_of_getElem? hx)
        have HX := Lib.hid hx
        have hT5 := hT4.below hb5 (Nat.le_refl _)
        have hJ5 := hJ4.below hb5 (Nat.le_refl _)
        have hr5 := (hr4.below hb5).more hb5.size
        have hi0 : (0 : Int) ≤ (i : Int) := by omega
        have hi1 : (i : Int) < (qs.length : Int) := by omega
        clear hx hb
        go_wp2
        refine still_tail_as2 16 (by kernel_rfl) (by kernel_rfl) hw5 ?_
        clear hw5
        simp only [List.take_succ_cons, List.take_zero, List.drop_succ_cons, List.drop_zero]
        repeat still_step
        try refine wpStill_nil ?_
        go_wp2_with fail
        refine (lockBlockers_any A1 c1 ls x.who x.node x.mode _ (by omega) hcap hT5 hJ5 hr5).mono ?_
        rintro e w6 ⟨A6, c6, rfl, ho6, hb6⟩
        have hbl6 := lockBlockers_len ls x.who x.node x.mode
        have HBE := Lib.hid (lockBlockers_eq HV.out HAO.out)
        have HSN := Lib.hid (congrArg List.length (asksW_snoc (l := ls) HX.out))
        obtain ⟨bs, hbs⟩ : ∃ bs, lockBlockers ls x.who x.node x.mode = bs := ⟨_, rfl⟩
        rw [hbs] at ho6 hbl6 HBE ⊢
        have hl6 := Rd.of_own ho6
        have hb7 := hb5.trans (hb6.mono hb5.size)
        obtain ⟨N, hN⟩ : ∃ N, (asksW ls (qs.take i)).length = N := ⟨_, rfl⟩
        have HN := Lib.hid hN
        have hNl : N ≤ 12 := by
          rw [← hN]
          have hnd := (Tl.asksOk_iff.1 (asks_some HQ.out).1).2.2
          exact Tl.asksW_length (fun a ha => HAK.out a (List.mem_of_mem_take ha)) (hnd.sublist ((List.take_sublist _ _).map _))
        rw [hN]
        clear hbs ho6 hb6 hT5 hJ5 hr5 hc1 hc2 hc3 hb5 hN
        go_wp2
        go_loopg [9, 12] bs.length (fun gk2 kv jv wr2 => ∃ j : Nat, gk2 = bs.length - j ∧ j ≤ bs.length ∧ kv = .int .i64 ((N + j : Nat) : Int) ∧ jv = .int .i64 j ∧ Below w6.heap.size w6 wr2)
        case atStart => exact ⟨0, rfl, by omega, rfl, rfl, Below.refl _ _⟩
        case round =>
          obtain ⟨j, rfl, hj, rfl, rfl, hb8⟩ := hrel
          have hb9 := below_then hb7 hb8 hb7.size
          by_cases hlj : j < bs.length
          · obtain ⟨b6, off6, z, rfl, hb6l, hz, hcz⟩ := (hl6.below hb8).int hlj
            have hmk : m[N + j]? = some ⟨x.who, z⟩ := by
              rw [HMW.out, ← HN.out]
              exact asksW_at HX.out (by rw [← HBE.out]; exact hz)
            have hml2 := (List.getElem?_eq_some_iff.1 hmk).1
            obtain ⟨b3, off3, y, rfl, hb3l, hy, hd1, hd2⟩ := (hx4.below hb9).wt hml2
            obtain rfl := Option.some.inj (hy.symm.trans hmk)
            obtain ⟨bx, offx, x2, hbx, _, hx2, he1, _, _⟩ := (hs4.below hb9).lk hlt
            obtain ⟨rfl, rfl⟩ : b = bx ∧ off = offx := by simpa using hbx
            obtain rfl := Option.some.inj (hx2.symm.trans HX.out)
            simp only at hd1 hd2
            obtain ⟨K, hK⟩ : ∃ K, N + j = K := ⟨_, rfl⟩
            rw [hK] at hd1 hd2 hml2 ⊢
            have HK := Lib.hid hK
            have hk0 : (0 : Int) ≤ (K : Int) := by omega
            have hk1 : (K : Int) < (m.length : Int) := by omega
            have hk2 : decide ((m.length : Int) ≤ (K : Int)) = false := by rw [decide_eq_false_iff_not]; omega
            have hj0 : (0 : Int) ≤ (j : Int) := by omega
            have hj1 : (j : Int) < (bs.length : Int) := by omega
            clear hz hmk hy hx2 hbx hK
            go_wp2
            go_quiet (fail)
            go_wp2
            go_roundg (bs.length - (j + 1))
            case measure => omega
            case rel => exact ⟨j + 1, rfl, by omega, by rw [← HK.out]; go_num, by go_num, below_drewN hb8 _⟩
          · obtain rfl : j = bs.length := by omega
            have hkn : N + bs.length = (asksW ls (qs.take (i + 1))).length := by
              rw [HSN.out, List.length_append, List.length_map, ← HBE.out, HN.out]
            rw [hkn]
            clear hkn
            go_wp2
            go_roundg (qs.length - (i + 1))
            case measure => omega
            case rel => exact ⟨i + 1, rfl, by omega, rfl, by go_num, hb9⟩
      · have hke : (asksW ls (qs.take i)).length = m.length := by rw [List.take_of_length_le (by omega), HMW.out]
        rw [hke]
        have hmm : ((m.length : Int) == (m.length : Int)) = true := by simp
        have hb6 := below_then hb4 hb hb4.size
        have hx6 := hx4.step hb
        clear hke
        go_wp2_with fail
        refine (validWaits_any A3 c3 m _ (by omega) hx6).mono ?_
        rintro e w7 ⟨rfl, hb7⟩
        have hb7 := below_then hb6 hb7 hb6.size
        rw [HVW.out]
        go_wp2
        go_ret
        exact ⟨rfl, hb7⟩
end Go.Proofs.YthkkbcbbinojlaaDoor
