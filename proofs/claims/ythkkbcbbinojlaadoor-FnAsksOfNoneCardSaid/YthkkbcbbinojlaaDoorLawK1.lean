/- The walk of the law FnAsksOfNone. -/
import Derived.Test.YthkkbcbbinojlaaDoorAskKit
namespace Go.Proofs.YthkkbcbbinojlaaDoor
open Go.RowKit
open Tl (Lk Wt okM okL validT validT_iff askOk takeLock takeAll grantAll asksOf asksW asksOk)

set_option maxHeartbeats 2000000 in
set_option maxRecDepth 100000 in
theorem law_FnAsksOfNone (A : Option Addr) (n c : Nat) (w : World) (h : Code8 w A n c) (hT : TabT w) (hJ : TabJ w) : Calls Tryd.prog 5 #[.slice A n c] w (PBool w true) := by
  have hle : (n : Int) ≤ 1048576 := by have := h.le; omega
  go_enter Tryd.func5, Tryd.ntmps5
  go_wp2_with fail
  refine (drawAsksOf_any A n c _ h).mono ?_
  rintro e w1 ⟨ls, A1, c1, qs, A2, c2, rfl, ho1, hl1, hq1, hql, hb1⟩
  have hr1 := Rd.of_own ho1
  have hs1 := Rd.of_own hq1
  have hcap := own_cap2 ho1
  have hT1 := hT.step hb1
  have hJ1 := hJ.step hb1
  clear h ho1 hq1 hT hJ
  cases hqs : asksOf ls qs with
  | none =>
    have HQ := Lib.hid hqs
    clear hqs
    go_wp2_with fail
    refine (asks_no (c' := c2) (by omega) hcap (by omega) hT1 hJ1 hr1 hs1 HQ.out).mono ?_
    rintro e w2 ⟨A3, c3, rfl, hx2, hb2⟩
    have hr2 := hr1.step hb2
    have hs2 := hs1.step hb2
    have hb2 := below_then hb1 hb2 hb1.size
    go_wp2_with fail
    refine (sasks_no (c' := c2) (by omega) (by omega) hr2 hs2 HQ.out).mono ?_
    rintro e w3 ⟨A4, c4, rfl, hy3, hb3⟩
    have hx3 := hx2.step hb3
    have hb3 := below_then hb2 hb3 hb2.size
    clear hx2 hr1 hr2 hs1 hs2 hT1 hJ1 hb1 hb2
    go_wp2_with fail
    refine (equalWaits_none A3 c3 A4 c4 _ hx3 hy3).mono ?_
    rintro e w4 ⟨rfl, hb4⟩
    have hx4 := hx3.step hb4
    have hy4 := hy3.step hb4
    have hb4 := below_then hb3 hb4 hb3.size
    clear hx3 hy3 hb3
    go_wp2_with fail
    refine (equalWaits_none A3 c3 A4 c4 _ hx4 hy4).mono ?_
    rintro e w5 ⟨rfl, hb5⟩
    have hb5 := below_then hb4 hb5 hb4.size
    go_wp2
    go_ret
    exact ⟨rfl, hb5⟩
  | some m =>
    have HQ := Lib.hid hqs
    have hml : m.length ≤ 12 := by
      obtain ⟨h1, h2⟩ := asks_some hqs
      rw [h2]
      exact Tl.asksW_length (Tl.asksOk_iff.1 h1).2.1 (Tl.asksOk_iff.1 h1).2.2
    clear hqs
    go_wp2_with fail
    refine (asks_yes (c' := c2) (by omega) hcap (by omega) hT1 hJ1 hr1 hs1 HQ.out).mono ?_
    rintro e w2 ⟨A3, c3, rfl, hx2, hb2⟩
    have hr2 := hr1.step hb2
    have hs2 := hs1.step hb2
    have hT2 := hT1.step hb2
    have hJ2 := hJ1.step hb2
    have hb2 := below_then hb1 hb2 hb1.size
    clear hr1 hs1 hT1 hJ1 hb1
    go_wp2_with fail
    refine (sasks_yes (c' := c2) (by omega) (by omega) hr2 hs2 HQ.out).mono ?_
    rintro e w3 ⟨A4, c4, rfl, hy3, hb3⟩
    have hr3 := hr2.step hb3
    have hs3 := hs2.step hb3
    have hT3 := hT2.step hb3
    have hJ3 := hJ2.step hb3
    have hx3 := hx2.step hb3
    have hb3 := below_then hb2 hb3 hb2.size
    clear hx2 hr2 hs2 hT2 hJ2 hb2
    go_wp2_with fail
    refine (equalWaits_same A3 c3 m A4 c4 _ (by omega) hx3 hy3).mono ?_
    rintro e w4 ⟨rfl, hb4⟩
    have hr4 := hr3.step hb4
    have hs4 := hs3.step hb4
    have hT4 := hT3.step hb4
    have hJ4 := hJ3.step hb4
    have hx4 := hx3.step hb4
    have hb4 := below_then hb3 hb4 hb3.size
    clear hx3 hy3 hr3 hs3 hT3 hJ3 hb3
    go_wp2_with fail
    refine (takeAll_any A1 c1 ls A2 c2 qs _ (by omega) hcap (by omega) hT4 hJ4 hr4 hs4).mono ?_
    rintro e w5 ⟨A5, c5, rfl, _, hb5⟩
    have hs5 := hs4.step hb5
    have hT5 := hT4.step hb5
    have hJ5 := hJ4.step hb5
    have hb5 := below_then hb4 hb5 hb4.size
    obtain ⟨fine, hfine⟩ : ∃ fine, (takeAll ls qs).isSome = fine := ⟨_, rfl⟩
    have HF : Hid (fine = true → m = []) := fun h => asks_taken HQ.out (hfine.trans h)
    rw [hfine]
    clear hfine hx4 hr4 hs4 hT4 hJ4 hb4
    have HE := Lib.hid (Tl.asks_empty (asks_some HQ.out).1)
    go_wp2_with fail
    refine (asks_yes (A := none) (c := 0) (ls := []) (c' := c2) (by simp) (by simp) (by omega) hT5 hJ5 (Rd.nil _ _ _ _) hs5 HE.out).mono ?_
    rintro e w6 ⟨A6, c6, rfl, _, hb6⟩
    have hb6 := below_then hb5 hb6 hb5.size
    cases fine
    · go_wp2
      go_ret
      exact ⟨rfl, hb6⟩
    · have hm0 : m = [] := HF.out rfl
      subst hm0
      go_wp2
      go_ret
      exact ⟨rfl, hb6⟩
end Go.Proofs.YthkkbcbbinojlaaDoor
