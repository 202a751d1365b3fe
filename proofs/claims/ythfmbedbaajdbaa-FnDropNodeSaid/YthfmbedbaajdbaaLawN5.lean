/- The walk of the law FnIsAbove. -/
import Derived.Test.YthfmbedbaajdbaaTreKit
import Derived.Test.YthfmbedbaajdbaaPTree3
namespace Go.Proofs.Ythfmbedbaajdbaa
open Go.RowKit
open Tl (Nd kid path validN validN_iff ValidN above above_iff)

theorem aboveN_in {t : List Nd} {a i : Int} (h1 : isN t a = true) (h2 : isN t i = true) : aboveN t a i = above t a i := by simp [aboveN, h1, h2]
theorem aboveN_self {t : List Nd} {a : Int} (h1 : isN t a = true) : aboveN t a a = true := by
  rw [aboveN_in h1 h1, above_iff]
  exact Tl.self_mem_path (isN_grows h1) (isN_iff.1 h1).1.1
theorem aboveN_root {t : List Nd} {i : Int} (h : isN t i = true) : aboveN t 0 i = true := by
  have h1 := isN_iff.1 h
  have h0 : isN t 0 = true := isN_iff.2 ⟨⟨by omega, by omega⟩, h1.2⟩
  rw [aboveN_in h0 h, above_iff]
  exact Tl.root_mem (isN_grows h) i h1.1.1 h1.1.2
theorem aboveN_zero {t : List Nd} {a : Int} (h : isN t a = true) (hne : a ≠ 0) : aboveN t a 0 = false := by
  have h1 := isN_iff.1 h
  have h0 : isN t 0 = true := isN_iff.2 ⟨⟨by omega, by omega⟩, h1.2⟩
  rw [aboveN_in h h0, Tl.above_false, Tl.path_zero (isN_grows h)]
  simpa using hne
theorem isN_parent {t : List Nd} {j : Nat} {n : Nd} (h : isN t (j : Int) = true) (hj : j ≠ 0) (hn : t[j]? = some n) : isN t n.parent = true := by
  have h1 := isN_iff.1 h
  rw [isN_iff]
  refine ⟨?_, h1.2⟩
  rcases isN_grows h j n hn with h2 | h2 <;> omega
theorem aboveN_up {t : List Nd} {a : Int} {j : Nat} {n : Nd} (h : isN t a = true) (h2 : isN t (j : Int) = true) (hj : j ≠ 0) (hn : t[j]? = some n) (hne : a ≠ j) : aboveN t a (j : Int) = aboveN t a n.parent := by
  have hp := isN_parent h2 hj hn
  rw [aboveN_in h h2, aboveN_in h hp, Bool.eq_iff_iff, above_iff, above_iff, Tl.mem_path_step (isN_grows h) (by omega), Tl.par_of hn]
  constructor
  · rintro (h3 | h3)
    · exact absurd h3 hne
    · exact h3.2
  · intro h3
    exact .inr ⟨(isN_iff.1 hp).1.1, h3⟩

set_option maxHeartbeats 1000000 in
set_option maxRecDepth 100000 in
theorem law_FnIsAbove (A : Option Addr) (n c : Nat) (w : World) (h : Code8 w A n c) : Calls Try.prog 7 #[.slice A n c] w (PBool w true) := by
  have hle : (n : Int) ≤ 1048576 := by have := h.le; omega
  go_enter Try.func7, Try.ntmps7
  go_wp2_with fail
  refine (drawIsAbove_any A n c _ h).mono ?_
  rintro e w1 ⟨t, A1, c1, a, i, rfl, ht1, ha, hi, hb1⟩
  clear h
  go_wp2_with fail
  refine (isAbove_any A1 c1 t a i _ ht1.len5 ht1.cap ht1.short ht1.rd).mono ?_
  rintro e w2 ⟨rfl, hb2⟩
  have ht2 := ht1.step hb2
  have hb2 := below_then hb1 hb2 hb1.size
  clear ht1 hb1
  go_wp2_with fail
  refine (sisAbove_any A1 c1 t a i _ ht2.len5 ht2.cap ht2.short ht2.rd).mono ?_
  rintro e w3 ⟨rfl, hb3⟩
  have ht3 := ht2.step hb3
  have hb3 := below_then hb2 hb3 hb2.size
  have hlen := ht3.len
  have hcap := ht3.cap
  have hsame : (aboveN t a i != aboveN t a i) = false := by simp
  clear ht2 hb2
  go_wp2_with fail
  refine ht3.valid.mono ?_
  rintro e w4 ⟨rfl, hb4⟩
  have ht4 := ht3.step hb4
  have hb4 := below_then hb3 hb4 hb3.size
  clear ht3 hb3
  have HCL := Lib.hid (sisAbove_any A1 c1 t a i w4 ht4.len5 ht4.cap ht4.short ht4.rd)
  by_cases hin : (0 ≤ a ∧ a < (t.length : Int)) ∧ (0 ≤ i ∧ i < (t.length : Int)) ∧ validN t = true
  · obtain ⟨⟨ha0, ha1⟩, ⟨hi0, hi1⟩, hv⟩ := hin
    have HNA := Lib.hid (isN_iff.2 ⟨⟨ha0, ha1⟩, hv⟩)
    have HNI := Lib.hid (isN_iff.2 ⟨⟨hi0, hi1⟩, hv⟩)
    rw [hv]
    clear hv
    by_cases hai : a = i
    · have hai' : (a == i) = true := by simp [hai]
      have HE : Hid (aboveN t a i = true) := by show _ = _; rw [← hai]; exact aboveN_self HNA.out
      clear hai
      go_wp2
      go_ret
      exact ⟨ret_bool HE.out, hb4⟩
    · have hai' : (a == i) = false := by simp [hai]
      obtain ⟨j, rfl⟩ := Int.eq_ofNat_of_zero_le hi0
      have hjl : j < t.length := by omega
      by_cases hj : j = 0
      · have hj0 : ¬ (0 : Int) < (j : Int) := by omega
        have HE : Hid (aboveN t a (j : Int) = false) := by
          subst hj
          exact aboveN_zero HNA.out hai
        have HR : Hid (aboveN t 0 (j : Int) = true) := aboveN_root HNI.out
        rw [HE.out]
        clear hai hj
        go_wp2_with fail
        refine (isAbove_any A1 c1 t 0 j _ ht4.len5 ht4.cap ht4.short ht4.rd).mono ?_
        rintro e w5 ⟨rfl, hb5⟩
        have hb5 := below_then hb4 hb5 hb4.size
        rw [HR.out]
        go_wp2
        go_ret
        exact ⟨rfl, hb5⟩
      · have hj0 : (0 : Int) < (j : Int) := by omega
        obtain ⟨b, off, y, rfl, hbl, hy, hc1, hc2, hc3⟩ := ht4.at_ hjl
        have HE := Lib.hid (aboveN_up HNA.out HNI.out hj hy hai)
        have HR : Hid (aboveN t 0 (j : Int) = true) := aboveN_root HNI.out
        clear hai hj hy
        go_wp2_with fail
        refine (isAbove_any _ c1 t a y.parent _ ht4.len5 ht4.cap ht4.short ht4.rd).mono ?_
        rintro e w5 ⟨rfl, hb5⟩
        have ht5 := ht4.step hb5
        have hb5 := below_then hb4 hb5 hb4.size
        rw [HE.out]
        have hss : (aboveN t a y.parent == aboveN t a y.parent) = true := by simp
        clear ht4 hb4 hc1 hc2 hc3
        go_wp2_with fail
        refine (isAbove_any _ c1 t 0 j _ ht5.len5 ht5.cap ht5.short ht5.rd).mono ?_
        rintro e w6 ⟨rfl, hb6⟩
        have hb6 := below_then hb5 hb6 hb5.size
        rw [HR.out]
        go_wp2
        go_ret
        exact ⟨rfl, hb6⟩
  · cases hv : validN t
    · clear hin
      go_wp2_with fail
      refine HCL.out.mono ?_
      rintro e w5 ⟨rfl, hb5⟩
      have hb5 := below_then hb4 hb5 hb4.size
      go_wp2
      go_ret
      exact ⟨ret_bool (by simp), hb5⟩
    · by_cases h1 : a < 0
      · clear hin
        go_wp2_with fail
        refine HCL.out.mono ?_
        rintro e w5 ⟨rfl, hb5⟩
        have hb5 := below_then hb4 hb5 hb4.size
        go_wp2
        go_ret
        exact ⟨ret_bool (by simp), hb5⟩
      · by_cases h2 : (t.length : Int) ≤ a
        · have h1' : 0 ≤ a := by omega
          clear hin h1
          go_wp2_with fail
          refine HCL.out.mono ?_
          rintro e w5 ⟨rfl, hb5⟩
          have hb5 := below_then hb4 hb5 hb4.size
          go_wp2
          go_ret
          exact ⟨ret_bool (by simp), hb5⟩
        · by_cases h3 : i < 0
          · have h1' : 0 ≤ a := by omega
            have h2' : a < (t.length : Int) := by omega
            clear hin h1 h2
            go_wp2_with fail
            refine HCL.out.mono ?_
            rintro e w5 ⟨rfl, hb5⟩
            have hb5 := below_then hb4 hb5 hb4.size
            go_wp2
            go_ret
            exact ⟨ret_bool (by simp), hb5⟩
          · have h1' : 0 ≤ a := by omega
            have h2' : a < (t.length : Int) := by omega
            have h3' : 0 ≤ i := by omega
            have h4' : (t.length : Int) ≤ i := by
              apply Classical.byContradiction
              intro hc
              exact hin ⟨⟨h1', h2'⟩, ⟨h3', by omega⟩, hv⟩
            clear hin h1 h2 h3
            go_wp2_with fail
            refine HCL.out.mono ?_
            rintro e w5 ⟨rfl, hb5⟩
            have hb5 := below_then hb4 hb5 hb4.size
            go_wp2
            go_ret
            exact ⟨ret_bool (by simp), hb5⟩
end Go.Proofs.Ythfmbedbaajdbaa
