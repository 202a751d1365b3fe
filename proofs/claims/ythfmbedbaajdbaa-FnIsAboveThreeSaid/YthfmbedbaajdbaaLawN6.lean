/- The walk of the law FnIsAboveBoth. -/
import Derived.Test.YthfmbedbaajdbaaLawN5
namespace Go.Proofs.Ythfmbedbaajdbaa
open Go.RowKit
open Tl (Nd kid path validN validN_iff ValidN above above_iff)

theorem aboveN_yes {t : List Nd} {a i : Int} (h : aboveN t a i = true) : isN t a = true ∧ isN t i = true ∧ a ∈ path t i := by
  unfold aboveN at h
  simp only [Bool.and_eq_true] at h
  exact ⟨h.1, h.2.1, above_iff.1 h.2.2⟩
theorem aboveN_le {t : List Nd} {a i : Int} (h : aboveN t a i = true) : a ≤ i := by
  obtain ⟨_, h2, h3⟩ := aboveN_yes h
  exact (Tl.mem_path_le (isN_grows h2) i (isN_iff.1 h2).1.1 a h3).2
theorem aboveN_both {t : List Nd} {a i : Int} (h : aboveN t a i = true) : aboveN t i a = (a == i) := by
  obtain ⟨h1, h2, h3⟩ := aboveN_yes h
  rw [Bool.eq_iff_iff]
  constructor
  · intro h4
    have h5 := aboveN_le h
    have h6 := aboveN_le h4
    have : a = i := by omega
    simp [this]
  · intro h4
    have : a = i := by simpa using h4
    subst this
    exact h
theorem aboveN_trans {t : List Nd} {a b i : Int} (h : aboveN t a b = true) (h2 : aboveN t b i = true) : aboveN t a i = true := by
  obtain ⟨h3, _, h4⟩ := aboveN_yes h
  obtain ⟨_, h5, h6⟩ := aboveN_yes h2
  rw [aboveN_in h3 h5, above_iff]
  exact Tl.above_trans (isN_grows h3) (isN_iff.1 h5).1.1 h4 h6

set_option maxHeartbeats 1000000 in
set_option maxRecDepth 100000 in
theorem law_FnIsAboveBoth (A : Option Addr) (n c : Nat) (w : World) (h : Code8 w A n c) : Calls Try.prog 8 #[.slice A n c] w (PBool w true) := by
  have hle : (n : Int) ≤ 1048576 := by have := h.le; omega
  go_enter Try.func8, Try.ntmps8
  go_wp2_with fail
  refine (drawIsAbove_any A n c _ h).mono ?_
  rintro e w1 ⟨t, A1, c1, a, i, rfl, ht1, ha, hi, hb1⟩
  clear h
  go_wp2_with fail
  refine (isAbove_any A1 c1 t a i _ ht1.len5 ht1.cap ht1.short ht1.rd).mono ?_
  rintro e w2 ⟨rfl, hb2⟩
  have ht2 := ht1.step hb2
  have hb2 := below_then hb1 hb2 hb1.size
  clear ht1 hb1
  go_wp2_with fail
  refine (sisAbove_any A1 c1 t a i _ ht2.len5 ht2.cap ht2.short ht2.rd).mono ?_
  rintro e w3 ⟨rfl, hb3⟩
  have ht3 := ht2.step hb3
  have hb3 := below_then hb2 hb3 hb2.size
  clear ht2 hb2
  cases hv : aboveN t a i
  · have HV := Lib.hid hv
    clear hv
    go_wp2_with fail
    refine (sisAbove_any A1 c1 t a i _ ht3.len5 ht3.cap ht3.short ht3.rd).mono ?_
    rintro e w5 ⟨rfl, hb5⟩
    have hb5 := below_then hb3 hb5 hb3.size
    rw [HV.out]
    go_wp2
    go_ret
    exact ⟨rfl, hb5⟩
  · have HB := Lib.hid (aboveN_both hv)
    have hai := aboveN_le hv
    clear hv
    go_wp2_with fail
    refine (isAbove_any A1 c1 t i a _ ht3.len5 ht3.cap ht3.short ht3.rd).mono ?_
    rintro e w5 ⟨rfl, hb5⟩
    have hb5 := below_then hb3 hb5 hb3.size
    rw [HB.out]
    have hss : ((a == i) == (a == i)) = true := by simp
    go_wp2
    go_ret
    exact ⟨rfl, hb5⟩

set_option maxHeartbeats 1000000 in
set_option maxRecDepth 100000 in
theorem law_FnIsAboveThree (A : Option Addr) (n c : Nat) (w : World) (h : Code8 w A n c) : Calls Try.prog 9 #[.slice A n c] w (PBool w true) := by
  have hle : (n : Int) ≤ 1048576 := by have := h.le; omega
  go_enter Try.func9, Try.ntmps9
  go_wp2_with fail
  refine (drawIsAbove_any A n c _ h).mono ?_
  rintro e w1 ⟨t, A1, c1, a, i, rfl, ht1, ha, hi, hb1⟩
  clear h
  go_wp2_with fail
  refine (isAbove_any A1 c1 t a i _ ht1.len5 ht1.cap ht1.short ht1.rd).mono ?_
  rintro e w2 ⟨rfl, hb2⟩
  have ht2 := ht1.step hb2
  have hb2 := below_then hb1 hb2 hb1.size
  clear ht1 hb1
  go_wp2_with fail
  refine (sisAbove_any A1 c1 t a i _ ht2.len5 ht2.cap ht2.short ht2.rd).mono ?_
  rintro e w3 ⟨rfl, hb3⟩
  have ht3 := ht2.step hb3
  have hb3 := below_then hb2 hb3 hb2.size
  have hlen := ht3.len
  clear ht2 hb2
  cases hv : aboveN t a i
  · have HV := Lib.hid hv
    clear hv
    go_wp2_with fail
    refine (sisAbove_any A1 c1 t a i _ ht3.len5 ht3.cap ht3.short ht3.rd).mono ?_
    rintro e w5 ⟨rfl, hb5⟩
    have hb5 := below_then hb3 hb5 hb3.size
    rw [HV.out]
    go_wp2
    go_ret
    exact ⟨rfl, hb5⟩
  · have HV := Lib.hid hv
    clear hv
    go_wp2
    go_loopg [7] t.length (fun gk i wr => ∃ k : Nat, gk = t.length - k ∧ i = .int .i64 k ∧ TreeW wr A1 c1 t ∧ Below w.heap.size w wr)
    case atStart => exact ⟨0, rfl, rfl, ht3, hb3⟩
    case round =>
      clear ht3 hb3
      obtain ⟨k, rfl, rfl, ht, hb⟩ := hrel
      by_cases hlt : k < t.length
      · go_wp2_with fail
        refine (isAbove_any A1 c1 t i k _ ht.len5 ht.cap ht.short ht.rd).mono ?_
        rintro e w5 ⟨rfl, hb5⟩
        have ht5 := ht.step hb5
        have hb5 := below_then hb hb5 hb.size
        clear ht hb
        cases hv2 : aboveN t i k
        · clear hv2
          go_wp2
          go_roundg (t.length - (k + 1))
          case measure => omega
          case rel => exact ⟨k + 1, rfl, by go_num, ht5, hb5⟩
        · have HE := Lib.hid (aboveN_trans HV.out hv2)
          clear hv2
          go_wp2_with fail
          refine (isAbove_any A1 c1 t a k _ ht5.len5 ht5.cap ht5.short ht5.rd).mono ?_
          rintro e w6 ⟨rfl, hb6⟩
          have ht6 := ht5.step hb6
          have hb6 := below_then hb5 hb6 hb5.size
          rw [HE.out]
          clear ht5 hb5
          go_wp2
          go_roundg (t.length - (k + 1))
          case measure => omega
          case rel => exact ⟨k + 1, rfl, by go_num, ht6, hb6⟩
      · go_wp2
        go_ret
        exact ⟨rfl, hb⟩
end Go.Proofs.Ythfmbedbaajdbaa
