/- The walk of the law FnAddNodeTwice. -/
import Derived.Test.YthfmbedbaajdbaaTreKit2
namespace Go.Proofs.Ythfmbedbaajdbaa
open Go.RowKit
open Tl (Nd validN validN_iff ValidN kid)

theorem addT_kid {t m : List Nd} {p v : Int} {s : List UInt8} (h : addT t ⟨p, s, v⟩ = some m) : kid t p s = -1 ∧ 0 ≤ p ∧ p < t.length := by
  obtain ⟨h1, h2, h3⟩ := addT_some h
  have hV := validN_iff.1 h2
  have hl := (validN_iff.1 h1).1.1
  have hg : m[t.length]? = some ⟨p, s, v⟩ := by rw [h3]; simp
  have ho := hV.2 t.length _ (by rw [h3, List.length_append]; simp) hg
  have ht : m.take t.length = t := by rw [h3]; simp
  rcases ho.2 with h4 | h4
  · have := h4.1; omega
  · rw [ht] at h4
    exact ⟨h4.2.2.2.2.1, h4.2.1, h4.2.2.1⟩
theorem addT_again {t m : List Nd} {p v v2 : Int} {s : List UInt8} (h : addT t ⟨p, s, v⟩ = some m) : addT m ⟨p, s, v2⟩ = none := by
  obtain ⟨h1, h2, h3⟩ := addT_some h
  cases h5 : addT m ⟨p, s, v2⟩ with
  | none => rfl
  | some m2 =>
    have h6 := (addT_kid h5).1
    rw [Tl.kid_none_iff] at h6
    exact absurd ⟨rfl, rfl⟩ (h6 ⟨p, s, v⟩ (by rw [h3]; simp))

set_option maxHeartbeats 1000000 in
set_option maxRecDepth 100000 in
theorem law_FnAddNodeTwice (A : Option Addr) (n c : Nat) (w : World) (h : Code8 w A n c) : Calls Try.prog 12 #[.slice A n c] w (PBool w true) := by
  have hle : (n : Int) ≤ 1048576 := by have := h.le; omega
  go_enter Try.func12, Try.ntmps12
  go_wp2_with fail
  refine (drawAddNode_any A n c _ h).mono ?_
  rintro e w1 ⟨t, A1, c1, x, s, v, rfl, ht1, hx, hs, hv, hb1⟩
  have hs2 : s.length ≤ 2000000 := by omega
  clear h
  cases ht : addT t ⟨x, s, v⟩ with
  | none =>
    have HT := Lib.hid ht
    clear ht
    go_wp2_with fail
    refine (ht1.add_no hs2 HT.out).mono ?_
    rintro e w2 ⟨A2, c2, rfl, _, hb2⟩
    have ht2 := ht1.step hb2
    have hb2 := below_then hb1 hb2 hb1.size
    clear ht1 hb1
    go_wp2_with fail
    refine (ht2.sadd_no hs2 HT.out).mono ?_
    rintro e w3 ⟨A3, c3, rfl, _, hb3⟩
    have hb3 := below_then hb2 hb3 hb2.size
    clear ht2 hb2
    go_wp2_with fail
    refine (equal_none A2 c2 A3 c3 _).mono ?_
    rintro e w4 ⟨rfl, hb4⟩
    have hb4 := below_then hb3 hb4 hb3.size
    clear hb3
    go_wp2_with fail
    refine (equal_none A2 c2 A3 c3 _).mono ?_
    rintro e w5 ⟨rfl, hb5⟩
    have hb5 := below_then hb4 hb5 hb4.size
    go_wp2
    go_ret
    exact ⟨rfl, hb5⟩
  | some m =>
    have HT := Lib.hid ht
    have hml : m.length ≤ 13 := by have := (validN_iff.1 (addT_some ht).2.1).1; omega
    have HMS : Hid (Short t → Short m) := by
      intro hS
      rw [(addT_some ht).2.2]
      exact short_snoc hS hs2
    have HK : Hid (kidOf t x s = -1) := by
      show _ = _
      unfold kidOf
      rw [(addT_kid ht).1]; simp
    clear ht
    go_wp2_with fail
    refine (ht1.add_yes hs2 HT.out).mono ?_
    rintro e w2 ⟨A2, c2, rfl, ho2, hb2⟩
    have ht2 := ht1.step hb2
    have hb2 := below_then hb1 hb2 hb1.size
    have hm2 := TreeW.own ho2 hml (HMS.out ht2.short)
    clear ht1 hb1 ho2
    go_wp2_with fail
    refine (ht2.sadd_yes hs2 HT.out).mono ?_
    rintro e w3 ⟨A3, c3, rfl, ho3, hb3⟩
    have ht3 := ht2.step hb3
    have hm3 := hm2.step hb3
    have hw3 := Rd.of_own ho3
    have hb3 := below_then hb2 hb3 hb2.size
    clear ht2 hb2 hm2 ho3
    go_wp2_with fail
    refine (equalNodes_same A2 c2 m A3 c3 _ hm3.len5 hm3.rd hw3).mono ?_
    rintro e w4 ⟨rfl, hb4⟩
    have ht4 := ht3.step hb4
    have hm4 := hm3.step hb4
    have hb4 := below_then hb3 hb4 hb3.size
    clear ht3 hb3 hm3 hw3
    have hnn : ((t.length : Int) != (t.length : Int)) = false := by simp
    go_wp2_with fail
    refine (hm4.add_no hs2 (addT_again HT.out)).mono ?_
    rintro e w5 ⟨A5, c5, rfl, _, hb5⟩
    have ht5 := ht4.step hb5
    have hb5 := below_then hb4 hb5 hb4.size
    clear ht4 hb4 hm4
    go_wp2_with fail
    refine (kidOf_any A1 c1 t x s _ ht5.len5 ht5.cap ht5.short ht5.rd).mono ?_
    rintro e w6 ⟨rfl, hb6⟩
    have hb6 := below_then hb5 hb6 hb5.size
    rw [HK.out]
    go_wp2
    go_ret
    exact ⟨rfl, hb6⟩
end Go.Proofs.Ythfmbedbaajdbaa
