/- The draw of scripts with a tree; the walk of the law FnValidScripts. -/
import Derived.Test.YtgofokifcplmoaaSs
import Derived.Test.YtgofokifcplmoaaTreKit
namespace Go.Proofs.Ytgofokifcplmoaa
open Go.RowKit
open Tl (Do Nd validN validSc)

def PDrawS (w : World) (e : Ending) (w' : World) : Prop := ∃ (t : List Nd) (A : Option Addr) (c : Nat) (ss : List (List Do)) (A' : Option Addr) (c' : Nat), e = .returned (.tuple #[.slice A t.length c, .slice A' ss.length c']) ∧ TreeW w' A c t ∧ OwnSS w' w.heap.size (.slice A' ss.length c') ss.length ss ∧ ss.length ≤ 5 ∧ Below w.heap.size w w'
theorem drawValidScripts_any (A : Option Addr) (n c : Nat) (w : World) (h : Code8 w A n c) : Calls Try.prog 15 #[.slice A n c] w (PDrawS w) := by
  go_enter Try.func15, Try.ntmps15
  go_wp2_with fail
  refine (newReader_any A n c _ h).mono ?_
  rintro e w1 ⟨g, rfl, hr1, hg, hb1⟩
  go_wp2_with fail
  refine (anyTree_any g 0 _ hr1 (by omega)).mono ?_
  rintro e w2 ⟨t, A2, c2, q, rfl, ht2, hr2, hq2, hg2⟩
  have hb3 := hb1.trans (grown_below hg2 hg hb1.size)
  have htl := ht2.2.2.2.1
  clear hg2 hr1
  go_wp2_with fail
  refine (someScripts_any g q A2 c2 t _ hr2 (by omega) (by omega)).mono ?_
  rintro e w3 ⟨ss, A3, c3, q3, rfl, ho3, hl3, hr3, hg3⟩
  have hb4 := hb3.trans (grown_below hg3 hg hb3.size)
  have hw := TreeW.of (ht2.grown hg3)
  have ho4 := ho3.base hb3.size
  clear hr2 ht2 hg3 hb3 ho3
  go_wp2
  refine bodyPost_ret (v := .tuple #[.slice A2 t.length c2, .slice A3 ss.length c3]) (by simp [results, Try.results15, go_sem]) rfl ?_
  exact ⟨t, A2, c2, ss, A3, c3, rfl, hw, ho4, hl3, hb4⟩

set_option maxHeartbeats 1000000 in
set_option maxRecDepth 100000 in
theorem law_FnValidScripts (A : Option Addr) (n c : Nat) (w : World) (h : Code8 w A n c) : Calls Try.prog 3 #[.slice A n c] w (PBool w true) := by
  have hle : (n : Int) ≤ 1048576 := by have := h.le; omega
  go_enter Try.func3, Try.ntmps3
  go_wp2_with fail
  refine (drawValidScripts_any A n c _ h).mono ?_
  rintro e w1 ⟨t, A1, c1, ss, A2, c2, rfl, ht1, ho1, hl, hb1⟩
  have hcap2 : ss.length ≤ c2 := by
    obtain ⟨vs, h1, _⟩ := ho1
    exact own_cap h1
  have hs1 := RdSS.of_own ho1
  clear h ho1
  go_wp2_with fail
  refine (validScripts_any A1 c1 t A2 c2 ss _ ht1.len5 ht1.cap ht1.short (by omega) ht1.rd hs1).mono ?_
  rintro e w2 ⟨rfl, hb2⟩
  have ht2 := ht1.step hb2
  have hs2 := hs1.step hb2
  have hb2 := below_then hb1 hb2 hb1.size
  clear ht1 hs1 hb1
  go_wp2_with fail
  refine (svalidScripts_any A1 c1 t A2 c2 ss _ ht2.len5 ht2.cap ht2.short (by omega) ht2.rd hs2).mono ?_
  rintro e w3 ⟨rfl, hb3⟩
  have ht3 := ht2.step hb3
  have hs3 := hs2.step hb3
  have hb3 := below_then hb2 hb3 hb2.size
  clear ht2 hs2 hb2
  have hsame : (validSc t ss != validSc t ss) = false := by simp
  have HCL := Lib.hid (svalidScripts_any A1 c1 t A2 c2 ss w3 ht3.len5 ht3.cap ht3.short (by omega) ht3.rd hs3)
  cases hv : validSc t ss
  · have HV := Lib.hid hv
    clear hv
    go_wp2_with fail
    refine HCL.out.mono ?_
    rintro e w5 ⟨rfl, hb5⟩
    have hb5 := below_then hb3 hb5 hb3.size
    rw [HV.out]
    go_wp2
    go_ret
    exact ⟨rfl, hb5⟩
  · have HV := Lib.hid hv
    clear hv
    by_cases h0 : ss.length = 0
    · have hz : ((ss.length : Int) == 0) = true := by rw [h0]; rfl
      clear h0
      go_wp2_with fail
      refine HCL.out.mono ?_
      rintro e w5 ⟨rfl, hb5⟩
      have hb5 := below_then hb3 hb5 hb3.size
      rw [HV.out]
      go_wp2
      go_ret
      exact ⟨rfl, hb5⟩
    · obtain ⟨L, hL⟩ : ∃ L, ss.length = L + 1 := ⟨ss.length - 1, by omega⟩
      have htk : (ss.take L).length = L := by rw [List.length_take]; omega
      have hst := hs3.take (k := L) (by omega)
      have HT : Hid (validSc t (ss.take L) = true) := Tl.validSc_take HV.out L
      have HN : Hid (validSc t [] = true) := Tl.validSc_nil HV.out
      have hv1 := validScripts_any A1 c1 t A2 c2 (ss.take L) w3 ht3.len5 ht3.cap ht3.short (by omega) ht3.rd hst
      rw [htk, HT.out] at hv1
      have HV1 := Lib.hid hv1
      have hL4 : L ≤ 4 := by omega
      rw [hL] at hcap2 ⊢
      clear hst hv1 htk h0 hL
      go_wp2_with fail
      refine HV1.out.mono ?_
      rintro e w5 ⟨rfl, hb5⟩
      have ht5 := ht3.step hb5
      have hb5 := below_then hb3 hb5 hb3.size
      go_wp2_with fail
      refine (validScripts_any A1 c1 t none 0 [] _ ht5.len5 ht5.cap ht5.short (by simp) ht5.rd (RdSS.nil _ _ _)).mono ?_
      rintro e w6 ⟨rfl, hb6⟩
      have hb6 := below_then hb5 hb6 hb5.size
      rw [HN.out]
      go_wp2
      go_ret
      exact ⟨rfl, hb6⟩
end Go.Proofs.Ytgofokifcplmoaa
