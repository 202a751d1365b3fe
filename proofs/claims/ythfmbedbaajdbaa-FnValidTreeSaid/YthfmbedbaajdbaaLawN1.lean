/- The walk of the law FnValidTree. -/
import Derived.Test.YthfmbedbaajdbaaTreKit
namespace Go.Proofs.Ythfmbedbaajdbaa
open Go.RowKit
open Tl (Nd validN validN_iff ValidN)

theorem valid_take {t : List Nd} (h : validN t = true) {k : Nat} (h1 : 1 ≤ k) (hk : k ≤ t.length) : validN (t.take k) = true := validN_iff.2 ((validN_iff.1 h).take h1 hk)

set_option maxRecDepth 100000 in
theorem law_FnValidTree (A : Option Addr) (n c : Nat) (w : World) (h : Code8 w A n c) : Calls Try.prog 3 #[.slice A n c] w (PBool w true) := by
  have hle : (n : Int) ≤ 1048576 := by have := h.le; omega
  go_enter Try.func3, Try.ntmps3
  go_wp2_with fail
  refine (drawValidTree_any A n c _ h).mono ?_
  rintro e w1 ⟨t, A1, c1, rfl, ht1, hb1⟩
  clear h
  go_wp2_with fail
  refine ht1.valid.mono ?_
  rintro e w2 ⟨rfl, hb2⟩
  have ht2 := ht1.step hb2
  have hb2 := below_then hb1 hb2 hb1.size
  clear ht1 hb1
  go_wp2_with fail
  refine ht2.svalid.mono ?_
  rintro e w3 ⟨rfl, hb3⟩
  have ht3 := ht2.step hb3
  have hb3 := below_then hb2 hb3 hb2.size
  have hlen := ht3.len
  have hcap := ht3.cap
  clear ht2 hb2
  cases hv : validN t
  · have HV := Lib.hid hv
    clear hv
    go_wp2_with fail
    refine ht3.svalid.mono ?_
    rintro e w4 ⟨rfl, hb4⟩
    have hb4 := below_then hb3 hb4 hb3.size
    rw [HV.out]
    go_wp2
    go_ret
    exact ⟨rfl, hb4⟩
  · have HV := Lib.hid hv
    clear hv
    by_cases h2 : t.length < 2
    · go_wp2_with fail
      refine ht3.svalid.mono ?_
      rintro e w4 ⟨rfl, hb4⟩
      have hb4 := below_then hb3 hb4 hb3.size
      rw [HV.out]
      go_wp2
      go_ret
      exact ⟨rfl, hb4⟩
    · have h2' : 2 ≤ t.length := by omega
      have h2c : t.length - 1 ≤ c1 := by omega
      have h1c : 1 ≤ c1 := by omega
      go_wp2_with fail
      refine (ht3.valid_at (m := t.length - 1) (by omega)).mono ?_
      rintro e w4 ⟨rfl, hb4⟩
      have ht4 := ht3.step hb4
      have hb4 := below_then hb3 hb4 hb3.size
      rw [valid_take HV.out (by omega) (by omega)]
      go_wp2_with fail
      refine (ht4.valid_at (m := 1) (by omega)).mono ?_
      rintro e w5 ⟨rfl, hb5⟩
      have hb5 := below_then hb4 hb5 hb4.size
      rw [valid_take HV.out (by omega) (by omega)]
      go_wp2
      go_ret
      exact ⟨rfl, hb5⟩
end Go.Proofs.Ythfmbedbaajdbaa
