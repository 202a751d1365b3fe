/- The walk of the law FnDropNode. -/
import Derived.Test.YthfmbedbaajdbaaTreKit2
import Derived.Test.YthfmbedbaajdbaaTreJ
import Derived.Test.YthfmbedbaajdbaaLawN5
import Derived.Test.YthfmbedbaajdbaaExt
namespace Go.Proofs.Ythfmbedbaajdbaa
open Go.RowKit
open Tl (Nd validN validN_iff ValidN kid dropT rank above pathText)

theorem dropN_some {t m : List Nd} {a : Int} (h : dropN t a = some m) : isN t a = true ∧ 0 < a ∧ m = dropT t a := by
  unfold dropN at h
  split at h
  · rename_i h1
    simp only [Bool.and_eq_true, decide_eq_true_eq] at h1
    have := (isN_iff.1 h1.1).1.1
    exact ⟨h1.1, by omega, (Option.some.inj h).symm⟩
  · cases h
theorem drop_at {t m : List Nd} {a : Int} (h : dropN t a = some m) {i : Nat} {x : Nd} (hx : t[i]? = some x) (hk : aboveN t a (i : Int) = false) :
    rank t a i < m.length ∧ (∃ p, m[rank t a i]? = some ⟨p, x.name, x.value⟩) ∧ textN m (rank t a i : Int) = textN t (i : Int) ∧ rank t a (i + 1) = rank t a i + 1 := by
  obtain ⟨h1, h2, h3⟩ := dropN_some h
  have hV := validN_iff.1 (isN_iff.1 h1).2
  have hi := (List.getElem?_eq_some_iff.1 hx).1
  have hni : isN t (i : Int) = true := isN_iff.2 ⟨⟨by omega, by omega⟩, (isN_iff.1 h1).2⟩
  rw [aboveN_in h1 hni] at hk
  have hr := Tl.rank_lt t a hi hk
  have hl : m.length = rank t a t.length := by rw [h3]; exact Tl.dropTo_length t a _ (Nat.le_refl _)
  have hm : ValidN m := by rw [h3]; exact Tl.drop_valid hV h2
  have hnm : isN m (rank t a i : Int) = true := isN_iff.2 ⟨⟨by omega, by omega⟩, validN_iff.2 hm⟩
  refine ⟨by omega, ⟨_, by rw [h3]; exact Tl.dropTo_get t a _ (Nat.le_refl _) i x hi hx hk⟩, ?_, ?_⟩
  · unfold textN
    rw [if_pos hnm, if_pos hni, h3]
    exact Tl.drop_text hV h2 hi hk
  · rw [Tl.rank_succ, hk]; simp
theorem drop_gone {t m : List Nd} {a : Int} (h : dropN t a = some m) {i : Nat} {x : Nd} (hx : t[i]? = some x) (hk : aboveN t a (i : Int) = true) : rank t a (i + 1) = rank t a i := by
  obtain ⟨h1, h2, h3⟩ := dropN_some h
  have hi := (List.getElem?_eq_some_iff.1 hx).1
  have hni : isN t (i : Int) = true := isN_iff.2 ⟨⟨by omega, by omega⟩, (isN_iff.1 h1).2⟩
  rw [aboveN_in h1 hni] at hk
  rw [Tl.rank_succ, hk]; simp

set_option maxHeartbeats 2000000 in
set_option maxRecDepth 100000 in
theorem law_FnDropNode (A : Option Addr) (n c : Nat) (w : World) (h : Code8 w A n c) : Calls Try.prog 14 #[.slice A n c] w (PBool w true) := by
  have hle : (n : Int) ≤ 1048576 := by have := h.le; omega
  go_enter Try.func14, Try.ntmps14
  go_wp2_with fail
  refine (drawDropNode_any A n c _ h).mono ?_
  rintro e w1 ⟨t, A1, c1, a, rfl, ht1, ha, hb1⟩
  clear h
  cases ht : dropN t a with
  | none =>
    have HT := Lib.hid ht
    clear ht
    go_wp2_with fail
    refine (ht1.drop_no HT.out).mono ?_
    rintro e w2 ⟨A2, c2, rfl, _, hb2⟩
    have ht2 := ht1.step hb2
    have hb2 := below_then hb1 hb2 hb1.size
    clear ht1 hb1
    go_wp2_with fail
    refine (ht2.sdrop_no HT.out).mono ?_
    rintro e w3 ⟨A3, c3, rfl, _, hb3⟩
    have hb3 := below_then hb2 hb3 hb2.size
    clear ht2 hb2
    go_wp2_with fail
    refine (equal_none A2 c2 A3 c3 _).mono ?_
    rintro e w4 ⟨rfl, hb4⟩
    have hb4 := below_then hb3 hb4 hb3.size
    clear hb3
    go_wp2_with fail
    refine (equal_none A2 c2 A3 c3 _).mono ?_
    rintro e w5 ⟨rfl, hb5⟩
    have hb5 := below_then hb4 hb5 hb4.size
    go_wp2
    go_ret
    exact ⟨rfl, hb5⟩
  | some m =>
    have HT := Lib.hid ht
    have hd := dropN_some ht
    have HV : Hid (validN t = true) := (isN_iff.1 hd.1).2
    have HMV : Hid (validN m = true) := by
      show _ = _
      rw [hd.2.2]
      exact validN_iff.2 (Tl.drop_valid (validN_iff.1 HV.out) hd.2.1)
    have hml : m.length ≤ 13 := by have := (validN_iff.1 HMV.out).1; omega
    have HMS : Hid (Short t → Short m) := by
      intro hS
      rw [hd.2.2]
      exact dropT_short hS a _
    have HML : Hid (m.length = rank t a t.length) := by
      show _ = _
      rw [hd.2.2]
      exact Tl.dropTo_length t a _ (Nat.le_refl _)
    clear ht hd
    go_wp2_with fail
    refine (ht1.drop_yes HT.out).mono ?_
    rintro e w2 ⟨A2, c2, rfl, ho2, hb2⟩
    have ht2 := ht1.step hb2
    have hb2 := below_then hb1 hb2 hb1.size
    have hm2 := TreeW.own ho2 hml (HMS.out ht2.short)
    clear ht1 hb1 ho2
    go_wp2_with fail
    refine (ht2.sdrop_yes HT.out).mono ?_
    rintro e w3 ⟨A3, c3, rfl, ho3, hb3⟩
    have ht3 := ht2.step hb3
    have hm3 := hm2.step hb3
    have hw3 := Rd.of_own ho3
    have hb3 := below_then hb2 hb3 hb2.size
    clear ht2 hb2 hm2 ho3
    go_wp2_with fail
    refine (equalNodes_same A2 c2 m A3 c3 _ hm3.len5 hm3.rd hw3).mono ?_
    rintro e w4 ⟨rfl, hb4⟩
    have ht4 := ht3.step hb4
    have hm4 := hm3.step hb4
    have hb4 := below_then hb3 hb4 hb3.size
    have htl := ht4.len
    clear ht3 hb3 hm3 hw3
    go_wp2
    go_loopg [9, 10] t.length (fun gk kv iv wr => ∃ (i k : Nat), gk = t.length - i ∧ iv = .int .i64 i ∧ kv = .int .i64 k ∧ k ≤ i ∧ i ≤ t.length ∧ Hid (k = rank t a i) ∧ TreeW wr A1 c1 t ∧ TreeW wr A2 c2 m ∧ Below w.heap.size w wr)
    case atStart => exact ⟨0, 0, rfl, rfl, rfl, by omega, by omega, (show 0 = _ by simp [rank]), ht4, hm4, hb4⟩
    case round =>
      clear ht4 hm4 hb4
      obtain ⟨i, k, rfl, rfl, rfl, hki, hil, HK, htw, hmw, hb⟩ := hrel
      by_cases hlt : i < t.length
      · go_wp2_with fail
        refine (isAbove_any A1 c1 t a i _ htw.len5 htw.cap htw.short htw.rd).mono ?_
        rintro e w5 ⟨rfl, hb5⟩
        have ht5 := htw.step hb5
        have hm5 := hmw.step hb5
        have hb5 := below_then hb hb5 hb.size
        clear htw hmw hb
        cases hab : aboveN t a i
        · obtain ⟨b, off, x, rfl, hbl, hx, hc1, hc2, hc3⟩ := ht5.at_ hlt
          obtain ⟨hkm, ⟨p, hmk⟩, htx, hrk⟩ := drop_at HT.out hx hab
          rw [← HK.out] at hkm hmk htx hrk
          obtain ⟨b', off', y, rfl, hbl', hy, hd1, hd2, hd3⟩ := hm5.at_ hkm
          obtain rfl := Option.some.inj (hy.symm.trans hmk)
          simp only at hd2 hd3
          have HK2 : Hid (k + 1 = rank t a (i + 1)) := hrk.symm
          have HTX := Lib.hid htx
          have hdk : decide ((m.length : Int) ≤ (k : Int)) = false := by rw [decide_eq_false_iff_not]; omega
          have hdkn : decide (m.length ≤ k) = false := by rw [decide_eq_false_iff_not]; omega
          have HRT := Lib.hid (fun z : Ext w5 => z.rd ht5.rd)
          have HRM := Lib.hid (fun z : Ext w5 => z.rd hm5.rd)
          have HST := Lib.hid ht5.short
          have HSM := Lib.hid hm5.short
          obtain ⟨tx, htxe⟩ : ∃ tx, textN t (i : Int) = tx := ⟨_, rfl⟩
          have hE2 := fun z : Ext w5 => z.cell hc2 hbl
          have hE3 := fun z : Ext w5 => z.cell hc3 hbl
          have hF2 := fun z : Ext w5 => z.cell hd2 hbl'
          have hF3 := fun z : Ext w5 => z.cell hd3 hbl'
          have hT1 : Value.string ⟨(textN m (k : Int)).toArray⟩ = .string ⟨tx.toArray⟩ := by rw [htx, htxe]
          have hT2 : Value.string ⟨(textN t (i : Int)).toArray⟩ = .string ⟨tx.toArray⟩ := by rw [htxe]
          have HT1 := Lib.hid hT1
          have HT2 := Lib.hid hT2
          have ht4 := ht5.len4
          have hm4 := hm5.len4
          have htc := ht5.cap
          have hmc := hm5.cap
          clear hab hx hy hmk htx hrk htxe hc1 hd1 hc2 hc3 hd2 hd3 hT1 hT2
          go_wp2
          refine ext_region (by kernel_rfl) (by kernel_rfl) ?_
          repeat (go_big_quiet_step (first
            | (go_at_call_of 34 m; exact ext_call (pathText_any (some ⟨b', off', none⟩) c2 m k _ hm4 hmc HSM.out (HRM.out _)) HT1.out)
            | (go_at_call_of 34 t; exact ext_call (pathText_any (some ⟨b, off, none⟩) c1 t i _ ht4 htc HST.out (HRT.out _)) HT2.out)))
          refine wpQuiet_nil ?_
          rintro w' ⟨z, rfl⟩
          have ht9 := ht5.step z.below
          have hm9 := hm5.step z.below
          have hb9 := below_then hb5 z.below hb5.size
          clear hE2 hE3 hF2 hF3
          go_wp2
          go_roundg (t.length - (i + 1))
          case measure => omega
          case rel => exact ⟨i + 1, k + 1, rfl, by go_num, by go_num, by omega, by omega, HK2, ht9, hm9, hb9⟩
        · obtain ⟨x, hx⟩ : ∃ x, t[i]? = some x := ⟨_, List.getElem?_eq_getElem hlt⟩
          have HK2 : Hid (k = rank t a (i + 1)) := by show _ = _; rw [drop_gone HT.out hx hab]; exact HK.out
          clear hab hx
          go_wp2
          go_roundg (t.length - (i + 1))
          case measure => omega
          case rel => exact ⟨i + 1, k, rfl, by go_num, rfl, by omega, by omega, HK2, ht5, hm5, hb5⟩
      · have hke : (k : Int) = (m.length : Int) := by
          have h1 := HK.out
          have h2 := HML.out
          have h3 : i = t.length := by omega
          rw [h3] at h1
          omega
        have hke' : ((k : Int) == (m.length : Int)) = true := by simp [hke]
        clear hke
        go_wp2_with fail
        refine hmw.valid.mono ?_
        rintro e w8 ⟨rfl, hb8⟩
        have hb8 := below_then hb hb8 hb.size
        rw [HMV.out]
        go_wp2
        go_ret
        exact ⟨rfl, hb8⟩
end Go.Proofs.Ythfmbedbaajdbaa
