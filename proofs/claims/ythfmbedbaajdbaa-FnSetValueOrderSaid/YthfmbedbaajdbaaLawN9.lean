/- The walk of the law FnSetValueOrder. -/
import Derived.Test.YthfmbedbaajdbaaLawN8
namespace Go.Proofs.Ythfmbedbaajdbaa
open Go.RowKit
open Tl (Nd validN validN_iff ValidN setVal)

theorem setV_other {t : List Nd} {k o : Nat} {v : Int} (h : isN t (k : Int) = true) (hm : validN (setVal t k v) = true) (hv : -1000 ≤ v ∧ v ≤ 1000) (ho : o < t.length) (hne : o ≠ k) :
    setV (setVal t k v) (o : Int) 3 = some (setVal (setVal t k v) o 3) ∧ setV t (o : Int) 3 = some (setVal t o 3) ∧ setV (setVal t o 3) (k : Int) v = some (setVal (setVal t k v) o 3) := by
  have hvt := (isN_iff.1 h).2
  have hi := (isN_iff.1 h).1
  have h1 : isN (setVal t k v) (o : Int) = true := isN_iff.2 ⟨by rw [setVal_len]; omega, hm⟩
  have h2 : isN t (o : Int) = true := isN_iff.2 ⟨by omega, hvt⟩
  have h3 : isN (setVal t o 3) (k : Int) = true := isN_iff.2 ⟨by rw [setVal_len]; exact hi, validN_iff.2 (Tl.setVal_valid (validN_iff.1 hvt) o (by omega))⟩
  refine ⟨?_, ?_, ?_⟩
  · rw [setV_yes h1 (by omega), Int.toNat_natCast]
  · rw [setV_yes h2 (by omega), Int.toNat_natCast]
  · rw [setV_yes h3 hv, Int.toNat_natCast, Tl.setVal_comm hne]
theorem setV_range {t m : List Nd} {i v : Int} (h : setV t i v = some m) : -1000 ≤ v ∧ v ≤ 1000 := by
  unfold setV at h
  split at h
  · rename_i h1
    simp only [Bool.and_eq_true, decide_eq_true_eq] at h1
    exact h1.2
  · cases h

set_option maxHeartbeats 1000000 in
set_option maxRecDepth 100000 in
theorem law_FnSetValueOrder (A : Option Addr) (n c : Nat) (w : World) (h : Code8 w A n c) : Calls Try.prog 11 #[.slice A n c] w (PBool w true) := by
  have hle : (n : Int) ≤ 1048576 := by have := h.le; omega
  go_enter Try.func11, Try.ntmps11
  go_wp2_with fail
  refine (drawSetValue_any A n c _ h).mono ?_
  rintro e w1 ⟨t, A1, c1, a, v, rfl, ht1, ha, hv, hb1⟩
  clear h
  cases ht : setV t a v with
  | none =>
    have HT := Lib.hid ht
    clear ht
    go_wp2_with fail
    refine (ht1.set_no HT.out).mono ?_
    rintro e w2 ⟨A2, c2, rfl, _, hb2⟩
    have ht2 := ht1.step hb2
    have hb2 := below_then hb1 hb2 hb1.size
    clear ht1 hb1
    go_wp2_with fail
    refine (ht2.sset_no HT.out).mono ?_
    rintro e w3 ⟨A3, c3, rfl, _, hb3⟩
    have hb3 := below_then hb2 hb3 hb2.size
    clear ht2 hb2
    go_wp2_with fail
    refine (equal_none A2 c2 A3 c3 _).mono ?_
    rintro e w4 ⟨rfl, hb4⟩
    have hb4 := below_then hb3 hb4 hb3.size
    clear hb3
    go_wp2_with fail
    refine (equal_none A2 c2 A3 c3 _).mono ?_
    rintro e w5 ⟨rfl, hb5⟩
    have hb5 := below_then hb4 hb5 hb4.size
    go_wp2
    go_ret
    exact ⟨rfl, hb5⟩
  | some m =>
    have HT := Lib.hid ht
    have HR := Lib.hid (setV_range ht)
    obtain ⟨k, rfl, hk, hnk, hme, hmv⟩ := setV_some ht
    have HML : Hid (m.length = t.length) := by show _ = _; rw [hme, setVal_len]
    have HMS : Hid (Short t → Short m) := by
      intro hS
      rw [hme]
      exact setVal_short hS k v
    have HN := Lib.hid hnk
    have HME := Lib.hid hme
    have HMV := Lib.hid hmv
    clear ht hnk hme hmv
    go_wp2_with fail
    refine (ht1.set_yes HT.out).mono ?_
    rintro e w2 ⟨A2, c2, rfl, ho2, hb2⟩
    have ht2 := ht1.step hb2
    have hb2 := below_then hb1 hb2 hb1.size
    have hm2 := TreeW.own ho2 (by rw [HML.out]; exact ht2.len) (HMS.out ht2.short)
    clear ht1 hb1 ho2
    go_wp2_with fail
    refine (ht2.sset_yes HT.out).mono ?_
    rintro e w3 ⟨A3, c3, rfl, ho3, hb3⟩
    have ht3 := ht2.step hb3
    have hm3 := hm2.step hb3
    have hw3 := Rd.of_own ho3
    have hb3 := below_then hb2 hb3 hb2.size
    clear ht2 hb2 hm2 ho3
    go_wp2_with fail
    refine (equalNodes_same A2 c2 m A3 c3 _ hm3.len5 hm3.rd hw3).mono ?_
    rintro e w4 ⟨rfl, hb4⟩
    have ht4 := ht3.step hb4
    have hm4 := hm3.step hb4
    have hw4 := hw3.step hb4
    have hb4 := below_then hb3 hb4 hb3.size
    have htl := ht4.len
    clear ht3 hb3 hm3 hw3
    by_cases h2 : t.length < 2
    · go_wp2_with fail
      refine (equalNodes_same A2 c2 m A3 c3 _ hm4.len5 hm4.rd hw4).mono ?_
      rintro e w5 ⟨rfl, hb5⟩
      have hb5 := below_then hb4 hb5 hb4.size
      go_wp2
      go_ret
      exact ⟨rfl, hb5⟩
    · have h2' : 2 ≤ t.length := by omega
      have hmod0 : 0 ≤ ((k : Int) + 1) % (t.length : Int) := Int.emod_nonneg _ (by omega)
      have hmod1 : ((k : Int) + 1) % (t.length : Int) < (t.length : Int) := Int.emod_lt_of_pos _ (by omega)
      have hmodn : ((k : Int) + 1) % (t.length : Int) ≠ k := by
        by_cases e : k + 1 = t.length
        · have : ((k : Int) + 1) % (t.length : Int) = 0 := by
            have e2 : (k : Int) + 1 = (t.length : Int) := by omega
            rw [e2, Int.emod_self]
          rw [this]; omega
        · rw [Int.emod_eq_of_lt (by omega) (by omega)]; omega
      obtain ⟨o, ho⟩ : ∃ o : Nat, ((k : Int) + 1) % (t.length : Int) = o := Int.eq_ofNat_of_zero_le hmod0
      have hol : o < t.length := by omega
      have hok : o ≠ k := by omega
      have HO := Lib.hid (setV_other HN.out (by rw [← HME.out]; exact HMV.out) HR.out hol hok)
      have HO1 : Hid (setV m (o : Int) 3 = some (setVal (setVal t k v) o 3)) := by show _ = _; rw [HME.out]; exact HO.out.1
      have HL1 : Hid ((setVal (setVal t k v) o 3).length = t.length) := by show _ = _; rw [setVal_len, setVal_len]
      have HL2 : Hid ((setVal t o 3).length = t.length) := by show _ = _; rw [setVal_len]
      have HOE := Lib.hid ho
      clear hmod0 hmod1 hmodn hol hok ho
      have hmod0 : 0 ≤ ((k : Int) + 1) % (t.length : Int) := Int.emod_nonneg _ (by omega)
      have hmod1 : ((k : Int) + 1) % (t.length : Int) < (t.length : Int) := Int.emod_lt_of_pos _ (by omega)
      go_wp2_with fail
      rw [HOE.out]
      clear hmod0 hmod1
      refine (hm4.set_yes HO1.out).mono ?_
      rintro e w5 ⟨A5, c5, rfl, ho5, hb5⟩
      have ht5 := ht4.step hb5
      have hx5 := Rd.of_own ho5
      have hb5 := below_then hb4 hb5 hb4.size
      clear hm4 ht4 hb4 ho5 hw4
      go_wp2_with fail
      refine (ht5.set_yes HO.out.2.1).mono ?_
      rintro e w6 ⟨A6, c6, rfl, ho6, hb6⟩
      have ht6 := TreeW.own ho6 (by rw [HL2.out]; exact htl) (setVal_short ht5.short o 3)
      have hx6 := hx5.step hb6
      have hb6 := below_then hb5 hb6 hb5.size
      clear ht5 hb5 ho6 hx5
      go_wp2_with fail
      refine (ht6.set_yes HO.out.2.2).mono ?_
      rintro e w7 ⟨A7, c7, rfl, ho7, hb7⟩
      have hx7 := hx6.step hb7
      have hy7 := Rd.of_own ho7
      have hb7 := below_then hb6 hb7 hb6.size
      clear ht6 hb6 ho7 hx6
      go_wp2_with fail
      refine (equalNodes_same A5 c5 _ A7 c7 _ (by rw [HL1.out]; omega) hx7 hy7).mono ?_
      rintro e w8 ⟨rfl, hb8⟩
      have hb8 := below_then hb7 hb8 hb7.size
      go_wp2
      go_ret
      exact ⟨rfl, hb8⟩
end Go.Proofs.Ythfmbedbaajdbaa
