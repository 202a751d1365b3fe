/- The walk of the law FnAddNode. -/
import Derived.Test.YthfmbedbaajdbaaLawN10
namespace Go.Proofs.Ythfmbedbaajdbaa
open Go.RowKit
open Tl (Nd validN validN_iff ValidN kid dropT)

theorem addT_drop {t m : List Nd} {p v : Int} {s : List UInt8} (h : addT t ⟨p, s, v⟩ = some m) : dropN m (t.length : Int) = some t := by
  obtain ⟨h1, h2, h3⟩ := addT_some h
  have hl := (validN_iff.1 h1).1.1
  have hml : m.length = t.length + 1 := by rw [h3]; simp
  have hi : isN m (t.length : Int) = true := isN_iff.2 ⟨⟨by omega, by omega⟩, h2⟩
  rw [dropN_yes hi (by omega), h3]
  have h2' := h2
  rw [h3] at h2'
  rw [Tl.add_drop (validN_iff.1 h2') (validN_iff.1 h1)]
theorem addT_found {t m : List Nd} {p v : Int} {s : List UInt8} (h : addT t ⟨p, s, v⟩ = some m) : kidOf m p s = t.length := by
  obtain ⟨h1, h2, h3⟩ := addT_some h
  have hk := addT_kid h
  have hl := (validN_iff.1 h1).1.1
  have hml : m.length = t.length + 1 := by rw [h3]; simp
  have hi : isN m p = true := isN_iff.2 ⟨⟨hk.2.1, by omega⟩, h2⟩
  have hg : m[t.length]? = some ⟨p, s, v⟩ := by rw [h3]; simp
  unfold kidOf
  rw [if_pos hi]
  exact Tl.kid_self (validN_iff.1 h2) hl hg

set_option maxHeartbeats 1000000 in
set_option maxRecDepth 100000 in
theorem law_FnAddNode (A : Option Addr) (n c : Nat) (w : World) (h : Code8 w A n c) : Calls Try.prog 13 #[.slice A n c] w (PBool w true) := by
  have hle : (n : Int) ≤ 1048576 := by have := h.le; omega
  go_enter Try.func13, Try.ntmps13
  go_wp2_with fail
  refine (drawAddNode_any A n c _ h).mono ?_
  rintro e w1 ⟨t, A1, c1, x, s, v, rfl, ht1, hx, hs, hv, hb1⟩
  have hs2 : s.length ≤ 2000000 := by omega
  clear h
  cases ht : addT t ⟨x, s, v⟩ with
  | none =>
    have HT := Lib.hid ht
    clear ht
    go_wp2_with fail
    refine (ht1.add_no hs2 HT.out).mono ?_
    rintro e w2 ⟨A2, c2, rfl, _, hb2⟩
    have ht2 := ht1.step hb2
    have hb2 := below_then hb1 hb2 hb1.size
    clear ht1 hb1
    go_wp2_with fail
    refine (ht2.sadd_no hs2 HT.out).mono ?_
    rintro e w3 ⟨A3, c3, rfl, _, hb3⟩
    have hb3 := below_then hb2 hb3 hb2.size
    clear ht2 hb2
    go_wp2_with fail
    refine (equal_none A2 c2 A3 c3 _).mono ?_
    rintro e w4 ⟨rfl, hb4⟩
    have hb4 := below_then hb3 hb4 hb3.size
    clear hb3
    go_wp2_with fail
    refine (equal_none A2 c2 A3 c3 _).mono ?_
    rintro e w5 ⟨rfl, hb5⟩
    have hb5 := below_then hb4 hb5 hb4.size
    go_wp2
    go_ret
    exact ⟨rfl, hb5⟩
  | some m =>
    have HT := Lib.hid ht
    have hml : m.length ≤ 13 := by have := (validN_iff.1 (addT_some ht).2.1).1; omega
    have HMS : Hid (Short t → Short m) := by
      intro hS
      rw [(addT_some ht).2.2]
      exact short_snoc hS hs2
    have HK := Lib.hid (addT_found ht)
    have HD := Lib.hid (addT_drop ht)
    have HMV := Lib.hid (addT_some ht).2.1
    clear ht
    go_wp2_with fail
    refine (ht1.add_yes hs2 HT.out).mono ?_
    rintro e w2 ⟨A2, c2, rfl, ho2, hb2⟩
    have ht2 := ht1.step hb2
    have hb2 := below_then hb1 hb2 hb1.size
    have hm2 := TreeW.own ho2 hml (HMS.out ht2.short)
    clear ht1 hb1 ho2
    go_wp2_with fail
    refine (ht2.sadd_yes hs2 HT.out).mono ?_
    rintro e w3 ⟨A3, c3, rfl, ho3, hb3⟩
    have ht3 := ht2.step hb3
    have hm3 := hm2.step hb3
    have hw3 := Rd.of_own ho3
    have hb3 := below_then hb2 hb3 hb2.size
    clear ht2 hb2 hm2 ho3
    go_wp2_with fail
    refine (equalNodes_same A2 c2 m A3 c3 _ hm3.len5 hm3.rd hw3).mono ?_
    rintro e w4 ⟨rfl, hb4⟩
    have ht4 := ht3.step hb4
    have hm4 := hm3.step hb4
    have hb4 := below_then hb3 hb4 hb3.size
    clear ht3 hb3 hm3 hw3
    have hnn : ((t.length : Int) != (t.length : Int)) = false := by simp
    have hne : ((t.length : Int) == (t.length : Int)) = true := by simp
    go_wp2_with fail
    refine (hm4.drop_yes HD.out).mono ?_
    rintro e w5 ⟨A5, c5, rfl, ho5, hb5⟩
    have ht5 := ht4.step hb5
    have hm5 := hm4.step hb5
    have hback := Rd.of_own ho5
    have hb5 := below_then hb4 hb5 hb4.size
    clear ht4 hb4 hm4 ho5
    go_wp2_with fail
    refine (kidOf_any A2 c2 m x s _ hm5.len5 hm5.cap hm5.short hm5.rd).mono ?_
    rintro e w6 ⟨rfl, hb6⟩
    have ht6 := ht5.step hb6
    have hm6 := hm5.step hb6
    have hback6 := hback.step hb6
    have hb6 := below_then hb5 hb6 hb5.size
    rw [HK.out]
    clear ht5 hb5 hm5 hback
    go_wp2_with fail
    refine (equalNodes_same A5 c5 t A1 c1 _ ht6.len5 hback6 ht6.rd).mono ?_
    rintro e w7 ⟨rfl, hb7⟩
    have hm7 := hm6.step hb7
    have hb7 := below_then hb6 hb7 hb6.size
    clear ht6 hb6 hm6 hback6
    go_wp2_with fail
    refine hm7.valid.mono ?_
    rintro e w8 ⟨rfl, hb8⟩
    have hb8 := below_then hb7 hb8 hb7.size
    rw [HMV.out]
    go_wp2
    go_ret
    exact ⟨rfl, hb8⟩
end Go.Proofs.Ythfmbedbaajdbaa
