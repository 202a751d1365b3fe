/- The walk of the law FnSetValue. -/
import Derived.Test.YthfmbedbaajdbaaTreKit2
namespace Go.Proofs.Ythfmbedbaajdbaa
open Go.RowKit
open Tl (Nd validN validN_iff ValidN setVal)

theorem setV_some {t m : List Nd} {i v : Int} (h : setV t i v = some m) : ∃ k : Nat, i = k ∧ k < t.length ∧ isN t i = true ∧ m = setVal t k v ∧ validN m = true := by
  unfold setV at h
  split at h
  · rename_i h1
    simp only [Bool.and_eq_true, decide_eq_true_eq] at h1
    obtain ⟨k, rfl, hk⟩ := isN_nat h1.1
    obtain rfl := Option.some.inj h
    rw [Int.toNat_natCast]
    exact ⟨k, rfl, hk, h1.1, rfl, validN_iff.2 (Tl.setVal_valid (validN_iff.1 (isN_iff.1 h1.1).2) k h1.2)⟩
  · cases h
theorem setV_back {t : List Nd} {k : Nat} {x : Nd} {v : Int} (h : isN t (k : Int) = true) (hx : t[k]? = some x) (hm : validN (setVal t k v) = true) : setV (setVal t k v) (k : Int) x.value = some t := by
  have h1 : isN (setVal t k v) (k : Int) = true := isN_iff.2 ⟨by rw [setVal_len]; exact (isN_iff.1 h).1, hm⟩
  have hv := ((validN_iff.1 (isN_iff.1 h).2).2 k x (List.getElem?_eq_some_iff.1 hx).1 hx).1
  rw [setV_yes h1 hv, Int.toNat_natCast, Tl.setVal_back hx]
theorem setVal_get {t : List Nd} {k i : Nat} (v : Int) (h : i ≠ k) : (setVal t k v)[i]? = t[i]? := by
  unfold setVal
  rw [List.getElem?_modify]
  have : ¬ k = i := fun e => h e.symm
  simp only [this, if_false]
  cases t[i]? <;> rfl
theorem setVal_at {t : List Nd} {k : Nat} {x : Nd} (v : Int) (h : t[k]? = some x) : (setVal t k v)[k]? = some ⟨x.parent, x.name, v⟩ := by
  unfold setVal
  rw [List.getElem?_modify, h]; simp

set_option maxHeartbeats 800000 in
set_option maxRecDepth 100000 in
theorem law_FnSetValue (A : Option Addr) (n c : Nat) (w : World) (h : Code8 w A n c) : Calls Try.prog 10 #[.slice A n c] w (PBool w true) := by
  have hle : (n : Int) ≤ 1048576 := by have := h.le; omega
  go_enter Try.func10, Try.ntmps10
  go_wp2_with fail
  refine (drawSetValue_any A n c _ h).mono ?_
  rintro e w1 ⟨t, A1, c1, a, v, rfl, ht1, ha, hv, hb1⟩
  clear h
  cases ht : setV t a v with
  | none =>
    have HT := Lib.hid ht
    clear ht
    go_wp2_with fail
    refine (ht1.set_no HT.out).mono ?_
    rintro e w2 ⟨A2, c2, rfl, _, hb2⟩
    have ht2 := ht1.step hb2
    have hb2 := below_then hb1 hb2 hb1.size
    clear ht1 hb1
    go_wp2_with fail
    refine (ht2.sset_no HT.out).mono ?_
    rintro e w3 ⟨A3, c3, rfl, _, hb3⟩
    have hb3 := below_then hb2 hb3 hb2.size
    clear ht2 hb2
    go_wp2_with fail
    refine (equal_none A2 c2 A3 c3 _).mono ?_
    rintro e w4 ⟨rfl, hb4⟩
    have hb4 := below_then hb3 hb4 hb3.size
    clear hb3
    go_wp2_with fail
    refine (equal_none A2 c2 A3 c3 _).mono ?_
    rintro e w5 ⟨rfl, hb5⟩
    have hb5 := below_then hb4 hb5 hb4.size
    go_wp2
    go_ret
    exact ⟨rfl, hb5⟩
  | some m =>
    have HT := Lib.hid ht
    obtain ⟨k, rfl, hk, hnk, hme, hmv⟩ := setV_some ht
    obtain ⟨x, hx⟩ : ∃ x, t[k]? = some x := ⟨_, List.getElem?_eq_getElem hk⟩
    have HML : Hid (m.length = t.length) := by show _ = _; rw [hme, setVal_len]
    have HMS : Hid (Short t → Short m) := by
      intro hS
      rw [hme]
      exact setVal_short hS k v
    have HB : Hid (setV m (k : Int) x.value = some t) := by
      show _ = _
      rw [hme]
      exact setV_back hnk hx (by rw [← hme]; exact hmv)
    have HG : Hid (∀ i : Nat, i ≠ k → m[i]? = t[i]?) := by
      intro i hi
      rw [hme]
      exact setVal_get v hi
    have HAT : Hid (m[k]? = some ⟨x.parent, x.name, v⟩) := by
      show _ = _
      rw [hme]
      exact setVal_at v hx
    have HX := Lib.hid hx
    have hk0 : ¬ (k : Int) < 0 := by omega
    have hk1 : (k : Int) < (t.length : Int) := by omega
    clear ht hnk hme hmv hx
    go_wp2_with fail
    refine (ht1.set_yes HT.out).mono ?_
    rintro e w2 ⟨A2, c2, rfl, ho2, hb2⟩
    have ht2 := ht1.step hb2
    have hb2 := below_then hb1 hb2 hb1.size
    have hm2 := TreeW.own ho2 (by rw [HML.out]; exact ht2.len) (HMS.out ht2.short)
    clear ht1 hb1 ho2
    go_wp2_with fail
    refine (ht2.sset_yes HT.out).mono ?_
    rintro e w3 ⟨A3, c3, rfl, ho3, hb3⟩
    have ht3 := ht2.step hb3
    have hm3 := hm2.step hb3
    have hw3 := Rd.of_own ho3
    have hb3 := below_then hb2 hb3 hb2.size
    clear ht2 hb2 hm2 ho3
    go_wp2_with fail
    refine (equalNodes_same A2 c2 m A3 c3 _ hm3.len5 hm3.rd hw3).mono ?_
    rintro e w4 ⟨rfl, hb4⟩
    have ht4 := ht3.step hb4
    have hm4 := hm3.step hb4
    have hb4 := below_then hb3 hb4 hb3.size
    have htl := ht4.len
    clear ht3 hb3 hm3 hw3
    obtain ⟨b, off, x2, rfl, hbl, hx2, hc1, hc2, hc3⟩ := ht4.at_ hk
    obtain rfl := Option.some.inj (hx2.symm.trans HX.out)
    clear hx2
    go_wp2_with fail
    refine (hm4.set_yes HB.out).mono ?_
    rintro e w5 ⟨A5, c5, rfl, ho5, hb5⟩
    have ht5 := ht4.step hb5
    have hm5 := hm4.step hb5
    have hback := Rd.of_own ho5
    have hb5 := below_then hb4 hb5 hb4.size
    clear ht4 hb4 hm4 ho5 hc1 hc2 hc3
    go_wp2
    go_loopg [12] t.length (fun gk iv wr => ∃ i : Nat, gk = t.length - i ∧ iv = .int .i64 i ∧ TreeW wr (some ⟨b, off, none⟩) c1 t ∧ TreeW wr A2 c2 m ∧ Rd wr wr.heap.size 3 A5 t.length (nds t) ∧ Below w.heap.size w wr)
    case atStart => exact ⟨0, rfl, rfl, ht5, hm5, hback, hb5⟩
    case round =>
      clear ht5 hm5 hback hb5
      obtain ⟨i, rfl, rfl, htw, hmw, hbk, hbw⟩ := hrel
      by_cases hlt : i < t.length
      · have hd1 : decide ((m.length : Int) ≤ (i : Int)) = false := by rw [decide_eq_false_iff_not, HML.out]; omega
        have hd1n : decide (m.length ≤ i) = false := by rw [decide_eq_false_iff_not, HML.out]; omega
        have him : i < m.length := by rw [HML.out]; exact hlt
        have next : ∀ q, TreeW (wr.drewN q) (some ⟨b, off, none⟩) c1 t ∧ TreeW (wr.drewN q) A2 c2 m ∧ Rd (wr.drewN q) (wr.drewN q).heap.size 3 A5 t.length (nds t) ∧ Below w.heap.size w (wr.drewN q) := fun q => ⟨htw.drewN q, hmw.drewN q, hbk, below_drewN hbw q⟩
        have NEXT := Lib.hid next
        clear next
        by_cases hik : i = k
        · have hik' : ((i : Int) != (k : Int)) = false := by simp [hik]
          have hikn : (i != k) = false := by simp [hik]
          clear hik
          go_wp2
          go_quiet (fail)
          go_wp2
          go_roundg (t.length - (i + 1))
          case measure => omega
          case rel => exact ⟨i + 1, rfl, by go_num, NEXT.out _⟩
        · have hik' : ((i : Int) != (k : Int)) = true := by simp; omega
          have hikn : (i != k) = true := by simp; omega
          obtain ⟨b1, off1, y, hA1, _, hy, hd2, hd3, hd4⟩ := htw.at_ hlt
          injection hA1 with hA1
          injection hA1 with e1 e2
          subst e1 e2
          obtain ⟨b2, off2, y2, rfl, _, hy2, hd5, hd6, hd7⟩ := hmw.at_ him
          have e := HG.out i hik
          rw [hy, hy2] at e
          obtain rfl := Option.some.inj e
          clear hik hy hy2 e
          go_wp2
          go_quiet (fail)
          go_wp2
          go_roundg (t.length - (i + 1))
          case measure => omega
          case rel => exact ⟨i + 1, rfl, by go_num, NEXT.out _⟩
      · have hkm : k < m.length := by rw [HML.out]; exact hk
        obtain ⟨b1, off1, y, hA1, _, hy, hd2, hd3, hd4⟩ := htw.at_ hk
        injection hA1 with hA1
        injection hA1 with e1 e2
        subst e1 e2
        obtain rfl := Option.some.inj (hy.symm.trans HX.out)
        obtain ⟨b2, off2, y2, rfl, _, hy2, hd5, hd6, hd7⟩ := hmw.at_ hkm
        obtain rfl := Option.some.inj (hy2.symm.trans HAT.out)
        simp only at hd6 hd7
        have hvv : (v == v) = true := by simp
        have hnn : (y.name == y.name) = true := by simp
        have htr := htw.rd
        have ht13 : t.length ≤ 100000 := by omega
        clear hy hy2 hmw htw
        go_wp2
        go_quiet ((go_at_call 27; exact equalNodes_q rfl rfl rfl ht13 hbk htr))
        go_wp2
        go_ret
        exact ⟨rfl, below_drewN hbw _⟩
end Go.Proofs.Ythfmbedbaajdbaa
