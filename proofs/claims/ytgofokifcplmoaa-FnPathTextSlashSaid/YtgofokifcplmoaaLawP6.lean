/- The walks of the laws FnPathTextKid and FnPathTextSlash. -/
import Derived.Test.YtgofokifcplmoaaPathKit
import Derived.Test.YtgofokifcplmoaaTreP
import Derived.IntWalk
namespace Go.Proofs.Ytgofokifcplmoaa
open Go.RowKit
open Tl (Nd path validN validN_iff ValidN Grows pathText nameOf slashes par)

theorem pathText_ne {t : List Nd} {a : Int} (h : isN t a = true) : pathText t a ≠ [] := by
  have h1 := (isN_iff.1 h).1
  have hg := isN_grows h
  by_cases h0 : a = 0
  · unfold pathText; rw [if_pos h0]; simp
  · obtain ⟨j, rfl, hj⟩ := isN_nat h
    have hx : t[j]? = some t[j] := List.getElem?_eq_getElem hj
    have hp : 0 ≤ par t (j : Int) := by
      rw [Tl.par_of hx]
      rcases hg j _ hx with h3 | h3
      · omega
      · exact h3.1
    rw [Tl.pathText_kid hg (by omega) hp]
    simp
theorem textN_ne {t : List Nd} {a : Int} (h : isN t a = true) : (textN t a == []) = false := by
  rw [textN_in h, beq_eq_false_iff_ne]
  exact pathText_ne h
theorem textOf_len {t : List Nd} (hS : Short t) : ∀ l : List Int, (textOf t l).length ≤ l.length * 2000001
  | [] => by simp [textOf]
  | x :: l => by
    have h1 := textOf_len hS l
    have h2 : (nameOf t x).length ≤ 2000000 := by
      unfold nameOf
      split
      · rename_i n hn
        exact hS.get hn
      · simp
    have h3 : textOf t (x :: l) = (47 :: nameOf t x) ++ textOf t l := by simp [textOf]
    rw [h3, List.length_append, List.length_cons, List.length_cons]
    omega
theorem textN_len {t : List Nd} (hS : Short t) (a : Int) : (textN t a).length ≤ 20000000 := by
  cases h : isN t a
  · rw [textN_no h]; simp
  · rw [textN_in h]
    unfold pathText
    split
    · simp
    · have h1 := textOf_len hS (path t a).tail
      have h2 := pathN_len t a
      rw [pathN_in h] at h2
      have h3 : (path t a).tail.length ≤ 5 := by rw [List.length_tail]; omega
      have h4 : (textOf t (path t a).tail).length ≤ 5 * 2000001 := Nat.le_trans h1 (Nat.mul_le_mul_right _ h3)
      exact Nat.le_trans h4 (by omega)
theorem textN_kid {t : List Nd} {j : Nat} {x : Nd} (h : isN t (j : Int) = true) (hj : 1 ≤ j) (hx : t[j]? = some x) : isN t x.parent = true ∧ textN t (j : Int) = (if x.parent = 0 then [] else textN t x.parent) ++ 47 :: x.name := by
  have hg := isN_grows h
  have hp : 0 ≤ x.parent ∧ x.parent < j := by
    rcases hg j _ hx with h3 | h3
    · omega
    · exact h3
  have hjl := (List.getElem?_eq_some_iff.1 hx).1
  have hN : isN t x.parent = true := isN_of (isN_iff.1 h).2 hp.1 (by omega)
  refine ⟨hN, ?_⟩
  have h1 := Tl.pathText_kid hg (i := (j : Int)) (by omega) (by rw [Tl.par_of hx]; exact hp.1)
  rw [textN_in h, textN_in hN, h1, Tl.par_of hx, nameOf_get hx]

set_option maxHeartbeats 1000000 in
set_option maxRecDepth 100000 in
theorem law_FnPathTextKid (A : Option Addr) (n c : Nat) (w : World) (h : Code8 w A n c) : Calls Try.prog 13 #[.slice A n c] w (PBool w true) := by
  have hle : (n : Int) ≤ 1048576 := by have := h.le; omega
  go_enter Try.func13, Try.ntmps13
  go_wp2_with fail
  refine (drawPathText_any A n c _ h).mono ?_
  rintro e w1 ⟨t, A1, c1, a, rfl, ht1, ha, hb1⟩
  clear h
  go_wp2_with fail
  refine (pathText_any A1 c1 t a _ ht1.len4 ht1.cap ht1.short ht1.rd).mono ?_
  rintro e w2 ⟨rfl, hb2⟩
  have ht2 := ht1.step hb2
  have hb2 := below_then hb1 hb2 hb1.size
  clear ht1 hb1
  go_wp2_with fail
  refine (spathText_any A1 c1 t a _ ht2.len4 ht2.cap ht2.short ht2.rd).mono ?_
  rintro e w3 ⟨rfl, hb3⟩
  have ht3 := ht2.step hb3
  have hb3 := below_then hb2 hb3 hb2.size
  have htl := ht3.len
  have hsame : (textN t a != textN t a) = false := by simp
  have hsame2 : (textN t a == textN t a) = true := by simp
  clear ht2 hb2
  cases hin : isN t a
  · have hz : (textN t a == []) = true := by rw [textN_no hin]; rfl
    clear hin
    go_wp2_with fail
    refine (spathText_any A1 c1 t a _ ht3.len4 ht3.cap ht3.short ht3.rd).mono ?_
    rintro e w5 ⟨rfl, hb5⟩
    have hb5 := below_then hb3 hb5 hb3.size
    go_wp2
    go_ret
    exact ⟨rfl, hb5⟩
  · have HA := Lib.hid hin
    have hz := textN_ne hin
    obtain ⟨j, rfl, hj⟩ := isN_nat hin
    clear hin
    by_cases hj0 : j = 0
    · have hlt : (j : Int) < 1 := by omega
      clear hj0
      go_wp2_with fail
      refine (spathText_any A1 c1 t (j : Int) _ ht3.len4 ht3.cap ht3.short ht3.rd).mono ?_
      rintro e w5 ⟨rfl, hb5⟩
      have hb5 := below_then hb3 hb5 hb3.size
      go_wp2
      go_ret
      exact ⟨rfl, hb5⟩
    · have hj1 : 1 ≤ j := by omega
      obtain ⟨b, off, x, rfl, hbl, hx, hc1, hc2, hc3⟩ := ht3.at_ hj
      obtain ⟨HNp, htk⟩ := textN_kid HA.out hj1 hx
      have hsz : x.name.length ≤ 2000000 := ht3.short.get hx
      have htp := textN_len ht3.short x.parent
      have HTK := Lib.hid htk
      have hj1' : (1 : Int) ≤ (j : Int) := by omega
      clear hx hc3 HNp htk hj1
      go_wp2_with fail
      refine (pathText_any (some ⟨b, off, none⟩) c1 t x.parent _ ht3.len4 ht3.cap ht3.short ht3.rd).mono ?_
      rintro e w4 ⟨rfl, hb4⟩
      have hc1b := (hb4.cell (p := ⟨b, off + j * 3, none⟩) hbl).trans hc1
      have hc2b := (hb4.cell (p := ⟨b, off + j * 3 + 1, none⟩) hbl).trans hc2
      have hb4 := below_then hb3 hb4 hb3.size
      clear ht3 hb3 hc1 hc2
      by_cases hp0 : x.parent = 0
      · have hp0' : (x.parent == 0) = true := by simp [hp0]
        have hadd := fun w : World => add_bytes Try.prog [47] x.name (by simp; omega) w
        have heq : (textN t (j : Int) == 47 :: x.name) = true := by rw [HTK.out, if_pos hp0]; simp
        clear hp0
        go_wp2
        go_ret
        exact ⟨rfl, hb4⟩
      · have hp0' : (x.parent == 0) = false := by simp [hp0]
        have hadd1 := fun w : World => add_bytes Try.prog (textN t x.parent) [47] (by simp; omega) w
        have hadd2 := fun w : World => add_bytes Try.prog (textN t x.parent ++ [47]) x.name (by simp; omega) w
        have heq : (textN t (j : Int) == textN t x.parent ++ 47 :: x.name) = true := by rw [HTK.out, if_neg hp0]; simp
        clear hp0
        go_wp2
        go_ret
        exact ⟨rfl, hb4⟩

theorem slashes_succ {l : List UInt8} {k : Nat} {z : UInt8} (hz : l[k]? = some z) : slashes (l.take (k + 1)) = slashes (l.take k) + (if z = 47 then 1 else 0) := by
  obtain ⟨hk, rfl⟩ := List.getElem?_eq_some_iff.1 hz
  rw [List.take_add_one, List.getElem?_eq_getElem hk, Tl.slashes_append]
  congr 1
  by_cases h : l[k] = 47 <;> simp [slashes, h]
theorem slashes_text {t : List Nd} {a : Int} (h : isN t a = true) : slashes (textN t a) = max 1 ((pathN t a).length - 1) := by
  rw [textN_in h, pathN_in h]
  exact Tl.slashes_path (validN_iff.1 (isN_iff.1 h).2) (isN_iff.1 h).1.1 (isN_iff.1 h).1.2

set_option maxHeartbeats 1000000 in
set_option maxRecDepth 100000 in
theorem law_FnPathTextSlash (A : Option Addr) (n c : Nat) (w : World) (h : Code8 w A n c) : Calls Try.prog 14 #[.slice A n c] w (PBool w true) := by
  have hle : (n : Int) ≤ 1048576 := by have := h.le; omega
  go_enter Try.func14, Try.ntmps14
  go_wp2_with fail
  refine (drawPathText_any A n c _ h).mono ?_
  rintro e w1 ⟨t, A1, c1, a, rfl, ht1, ha, hb1⟩
  clear h
  go_wp2_with fail
  refine (pathText_any A1 c1 t a _ ht1.len4 ht1.cap ht1.short ht1.rd).mono ?_
  rintro e w2 ⟨rfl, hb2⟩
  have ht2 := ht1.step hb2
  have hb2 := below_then hb1 hb2 hb1.size
  clear ht1 hb1
  go_wp2_with fail
  refine (spathText_any A1 c1 t a _ ht2.len4 ht2.cap ht2.short ht2.rd).mono ?_
  rintro e w3 ⟨rfl, hb3⟩
  have ht3 := ht2.step hb3
  have hb3 := below_then hb2 hb3 hb2.size
  have htl := ht3.len
  have hsame : (textN t a != textN t a) = false := by simp
  have hsame2 : (textN t a == textN t a) = true := by simp
  clear ht2 hb2
  cases hin : isN t a
  · have hz : (textN t a == []) = true := by rw [textN_no hin]; rfl
    clear hin
    go_wp2_with fail
    refine (spathText_any A1 c1 t a _ ht3.len4 ht3.cap ht3.short ht3.rd).mono ?_
    rintro e w5 ⟨rfl, hb5⟩
    have hb5 := below_then hb3 hb5 hb3.size
    go_wp2
    go_ret
    exact ⟨rfl, hb5⟩
  · have HA := Lib.hid hin
    have hz := textN_ne hin
    have hlen := textN_len ht3.short a
    clear hin
    go_wp2
    obtain ⟨s, hs⟩ : ∃ s : ByteArray, (⟨(textN t a).toArray⟩ : ByteArray) = s := ⟨_, rfl⟩
    have hsl : s.data.toList = textN t a := by rw [← hs]
    have hsz := size_toList s
    have hsz2 : s.size ≤ 20000000 := by rw [← hsz, hsl]; exact hlen
    have HSL := Lib.hid hsl
    rw [hs]
    clear hs hz hsame hsame2 hlen hsl hsz
    go_loopg [6, 7] s.size (fun gk nv iv wr => ∃ k m : Nat, gk = s.size - k ∧ k ≤ s.size ∧ m ≤ k ∧ iv = .int .i64 k ∧ nv = .int .i64 m ∧ Hid (m = slashes (s.data.toList.take k)) ∧ w3 = wr)
    case atStart => exact ⟨0, 0, rfl, by omega, by omega, rfl, rfl, (show _ = _ by simp [slashes]), rfl⟩
    case round =>
      obtain ⟨k, m, rfl, hkl, hmk, rfl, rfl, HM, rfl⟩ := hrel
      by_cases hlt : k < s.size
      · have hg := get_toList s k hlt
        have hsu := slashes_succ hg
        by_cases hc : (s[k]'hlt) = 47
        · have hc' : (((s[k]'hlt).toNat : Int) == 47) = true := by rw [hc]; rfl
          have HM2 : Hid (m + 1 = slashes (s.data.toList.take (k + 1))) := by show _ = _; rw [hsu, if_pos hc, HM.out]
          clear hg hsu hc
          go_wp2
          go_roundg (s.size - (k + 1))
          case measure => omega
          case rel => exact ⟨k + 1, m + 1, rfl, by omega, by omega, by go_num, by go_num, HM2, rfl⟩
        · have hc' : (((s[k]'hlt).toNat : Int) == 47) = false := by
            rw [beq_eq_false_iff_ne]
            intro e
            exact hc (UInt8.toNat_inj.1 (by simpa using (by exact_mod_cast e : (s[k]'hlt).toNat = 47)))
          have HM2 : Hid (m = slashes (s.data.toList.take (k + 1))) := by show _ = _; rw [hsu, if_neg hc, HM.out]; rfl
          clear hg hsu hc
          go_wp2
          go_roundg (s.size - (k + 1))
          case measure => omega
          case rel => exact ⟨k + 1, m, rfl, by omega, by omega, by go_num, rfl, HM2, rfl⟩
      · have hm : m = max 1 ((pathN t a).length - 1) := by
          rw [HM.out, List.take_of_length_le (by rw [size_toList]; omega), HSL.out]
          exact slashes_text HA.out
        have hpl := pathN_len t a
        have hpp := pathN_pos HA.out
        go_wp2_with fail
        refine (pathTo_any A1 c1 t a _ ht3.len4 ht3.cap ht3.short ht3.rd).mono ?_
        rintro e w4 ⟨A4, c4, rfl, ho4, hb4⟩
        have hb4 := below_then hb3 hb4 hb3.size
        clear ho4
        go_wp2
        all_goals (go_ret; refine ⟨ret_bool ?_, hb4⟩; first | (rw [beq_iff_eq]; omega) | (simp; omega))
end Go.Proofs.Ytgofokifcplmoaa
