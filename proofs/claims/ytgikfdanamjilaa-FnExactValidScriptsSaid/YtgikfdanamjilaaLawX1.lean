/- The walk of the law FnExactValidScripts. -/
import Derived.Test.YtgikfdanamjilaaEx6
import Derived.Test.YtgikfdanamjilaaTreF
namespace Go.Proofs.Ytgikfdanamjilaa
open Go.RowKit
set_option maxRecDepth 100000
open Tl (Do Nd validSc)

set_option maxHeartbeats 1000000 in
theorem law_FnExactValidScripts (A : Option Addr) (c : Nat) (t : List Nd) (A' : Option Addr) (c' : Nat) (ss : List (List Do)) (w : World) (hn : t.length ≤ 9223372036854775807) (hS : ∀ x ∈ t, x.name.length ≤ 9223372036854775807)
    (hn' : ss.length ≤ 9223372036854775807) (hS' : ∀ p ∈ ss, p.length ≤ 9223372036854775807) (hr : Rd w w.heap.size 3 A t.length (nds t)) (hs : RdSS w w.heap.size A' ss) :
    Calls Try.prog 4 #[.slice A t.length c, .slice A' ss.length c'] w (PBool w true) := by
  have HS := Lib.hid hS
  have HS' := Lib.hid hS'
  clear hS hS'
  go_enter Try.func4, Try.ntmps4
  go_wp2_with fail
  refine (szNodeS_any A c t 1048576 _ (by omega) (by omega) hn HS.out hr).mono ?_
  rintro e w1 ⟨r, rfl, hb1, hr1, hr2⟩
  have HT := Lib.hid hr2
  clear hr2
  by_cases hneg : r < 0
  · go_wp2
    go_ret
    exact ⟨rfl, hb1⟩
  · have hneg' : 0 ≤ r := by omega
    obtain ⟨htl, htn⟩ := HT.out hneg'
    have HTN := Lib.hid htn
    clear htn HT
    go_wp2_with fail
    refine (szDoSS_any A' c' ss r _ hneg' hr1 hn' HS'.out (hs.step hb1)).mono ?_
    rintro e w2 ⟨r2, rfl, hb2, hr3, hr4⟩
    have hb2 := below_then hb1 hb2 hb1.size
    have HT := Lib.hid hr4
    clear hr4 hb1
    by_cases hneg2 : r2 < 0
    · go_wp2
      go_ret
      exact ⟨rfl, hb2⟩
    · obtain ⟨hsl, hsp⟩ := HT.out (by omega)
      have HSP : Hid (∀ p ∈ ss, p.length ≤ 2000000) := fun p hp => Nat.le_trans (hsp p hp) (by omega)
      have HSH : Hid (Short t) := fun x hx => Nat.le_trans (HTN.out x hx) (by omega)
      have htl2 : t.length ≤ 2000000 := by omega
      have hsl2 : ss.length ≤ 2000000 := by omega
      clear hsp HT hn hn'
      go_wp2_with fail
      refine (toNodeS_any A c t _ htl2 (hr.step hb2)).mono ?_
      rintro e w3 ⟨A3, c3, rfl, ho3, hb3⟩
      have hcap3 := own_cap ho3
      have hr3 := Rd.of_own ho3
      have hb3 := below_then hb2 hb3 hb2.size
      clear ho3 hb2
      go_wp2_with fail
      refine (toDoSS_any A' c' ss _ hsl2 HSP.out (hs.step hb3)).mono ?_
      rintro e w4 ⟨A4, c4, rfl, hs4, hb4⟩
      have hr4 := hr3.step hb4
      have hb4 := below_then hb3 hb4 hb3.size
      clear hr3 hb3
      go_wp2_with fail
      refine (svalidScripts_any A3 c3 t A4 c4 ss _ htl2 hcap3 HSH.out hsl2 hr4 hs4).mono ?_
      rintro e w5 ⟨rfl, hb5⟩
      have hb5 := below_then hb4 hb5 hb4.size
      clear hr4 hs4 hb4
      go_wp2_with fail
      refine (toNodeS_any A c t _ htl2 (hr.step hb5)).mono ?_
      rintro e w6 ⟨A6, c6, rfl, ho6, hb6⟩
      have hcap6 := own_cap ho6
      have hr6 := Rd.of_own ho6
      have hb6 := below_then hb5 hb6 hb5.size
      clear ho6 hb5
      go_wp2_with fail
      refine (toDoSS_any A' c' ss _ hsl2 HSP.out (hs.step hb6)).mono ?_
      rintro e w7 ⟨A7, c7, rfl, hs7, hb7⟩
      have hr7 := hr6.step hb7
      have hb7 := below_then hb6 hb7 hb6.size
      clear hr6 hb6
      go_wp2_with fail
      refine (validScripts_any A6 c6 t A7 c7 ss _ htl2 hcap6 HSH.out hsl2 hr7 hs7).mono ?_
      rintro e w8 ⟨rfl, hb8⟩
      have hr8 := hr7.step hb8
      have hs8 := hs7.step hb8
      have hb8 := below_then hb7 hb8 hb7.size
      have hsame : (validSc t ss != validSc t ss) = false := by simp
      clear hr7 hs7 hb7
      go_wp2_with fail
      refine (toNodeS_any A c t _ htl2 (hr.step hb8)).mono ?_
      rintro e w9 ⟨A9, c9, rfl, ho9, hb9⟩
      have hr8 := hr8.step hb9
      have hs8 := hs8.step hb9
      have hr9 := Rd.of_own ho9
      have hb9 := below_then hb8 hb9 hb8.size
      clear ho9 hb8
      go_wp2_with fail
      refine (eqNodeS_any A6 c6 t A9 c9 _ htl2 hr8 hr9).mono ?_
      rintro e w10 ⟨rfl, hb10⟩
      have hs10 := hs8.step hb10
      have hb10 := below_then hb9 hb10 hb9.size
      clear hr8 hr9 hs8 hb9
      go_wp2_with fail
      refine (toDoSS_any A' c' ss _ hsl2 HSP.out (hs.step hb10)).mono ?_
      rintro e w11 ⟨A11, c11, rfl, hs11, hb11⟩
      have hs10 := hs10.step hb11
      have hb11 := below_then hb10 hb11 hb10.size
      clear hb10
      go_wp2_with fail
      refine (eqDoSS_any A7 c7 ss A11 c11 _ hsl2 HSP.out hs10 hs11).mono ?_
      rintro e w12 ⟨rfl, hb12⟩
      have hb12 := below_then hb11 hb12 hb11.size
      clear hs10 hs11 hb11 hr hs
      go_wp2
      go_ret
      exact ⟨rfl, hb12⟩
end Go.Proofs.Ytgikfdanamjilaa
