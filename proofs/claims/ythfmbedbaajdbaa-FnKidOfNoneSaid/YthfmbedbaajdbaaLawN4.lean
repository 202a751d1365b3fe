/- The walk of the law FnKidOfNone. -/
import Derived.Test.YthfmbedbaajdbaaLawN3
namespace Go.Proofs.Ythfmbedbaajdbaa
open Go.RowKit
open Tl (Nd kid validN validN_iff ValidN)

/-- Is there such a kid among the nodes 1 .. k-1? -/
def someKid (t : List Nd) (x : Int) (s : List UInt8) (k : Nat) : Prop := ∃ (j : Nat) (n : Nd), 1 ≤ j ∧ j < k ∧ t[j]? = some n ∧ isKid x s n = true
theorem someKid_one (t : List Nd) (x : Int) (s : List UInt8) : ¬ someKid t x s 1 := by rintro ⟨j, n, h1, h2, _⟩; omega
theorem someKid_up {t : List Nd} {x : Int} {s : List UInt8} {k : Nat} (h : someKid t x s k) : someKid t x s (k + 1) := by
  obtain ⟨j, n, h1, h2, h3⟩ := h
  exact ⟨j, n, h1, by omega, h3⟩
theorem someKid_here {t : List Nd} {x : Int} {s : List UInt8} {k : Nat} {n : Nd} (hk : 1 ≤ k) (hn : t[k]? = some n) (h : isKid x s n = true) : someKid t x s (k + 1) := ⟨k, n, hk, by omega, hn, h⟩
theorem someKid_not {t : List Nd} {x : Int} {s : List UInt8} {k : Nat} {n : Nd} (h0 : ¬ someKid t x s k) (hn : t[k]? = some n) (h : isKid x s n = false) : ¬ someKid t x s (k + 1) := by
  rintro ⟨j, m, h1, h2, h3, h4⟩
  by_cases e : j = k
  · subst e
    obtain rfl := Option.some.inj (h3.symm.trans hn)
    rw [h] at h4; cases h4
  · exact h0 ⟨j, m, h1, by omega, h3, h4⟩
theorem someKid_end {t : List Nd} {x : Int} {s : List UInt8} {k : Nat} (hx : isN t x = true) (hk : t.length ≤ k) : someKid t x s k ↔ 0 ≤ kidOf t x s := by
  have e : kidOf t x s = kid t x s := by unfold kidOf; rw [if_pos hx]
  rw [e]
  constructor
  · rintro ⟨j, n, h1, h2, h3, h4⟩
    rcases Tl.kid_cases t x s with ⟨_, h⟩ | ⟨q, m, h5, _⟩
    · exact absurd (isKid_iff.1 h4) (h n (List.mem_of_getElem? h3))
    · omega
  · intro h
    rcases Tl.kid_cases t x s with ⟨h1, _⟩ | ⟨q, m, h5, h6, h7, h8, _⟩
    · omega
    · refine ⟨q, m, ?_, ?_, h6, isKid_iff.2 ⟨h7, h8⟩⟩
      · apply Classical.byContradiction
        intro hc
        have : q = 0 := by omega
        subst this
        have := root_no_kid (s := s) hx m h6
        rw [isKid_iff.2 ⟨h7, h8⟩] at this
        cases this
      · have := (List.getElem?_eq_some_iff.1 h6).1; omega

set_option maxHeartbeats 1000000 in
set_option maxRecDepth 100000 in
theorem law_FnKidOfNone (A : Option Addr) (n c : Nat) (w : World) (h : Code8 w A n c) : Calls Try.prog 6 #[.slice A n c] w (PBool w true) := by
  have hle : (n : Int) ≤ 1048576 := by have := h.le; omega
  go_enter Try.func6, Try.ntmps6
  go_wp2_with fail
  refine (drawKidOf_any A n c _ h).mono ?_
  rintro e w1 ⟨t, A1, c1, x, s, rfl, ht1, hx, hs, hb1⟩
  clear h
  go_wp2_with fail
  refine (kidOf_any A1 c1 t x s _ ht1.len5 ht1.cap ht1.short ht1.rd).mono ?_
  rintro e w2 ⟨rfl, hb2⟩
  have ht2 := ht1.step hb2
  have hb2 := below_then hb1 hb2 hb1.size
  clear ht1 hb1
  go_wp2_with fail
  refine (skidOf_any A1 c1 t x s _ ht2.len5 ht2.cap ht2.short ht2.rd).mono ?_
  rintro e w3 ⟨rfl, hb3⟩
  have ht3 := ht2.step hb3
  have hb3 := below_then hb2 hb3 hb2.size
  have hlen := ht3.len
  have hcap := ht3.cap
  have hsame : (kidOf t x s != kidOf t x s) = false := by simp
  clear ht2 hb2
  go_wp2_with fail
  refine ht3.valid.mono ?_
  rintro e w4 ⟨rfl, hb4⟩
  have ht4 := ht3.step hb4
  have hb4 := below_then hb3 hb4 hb3.size
  clear ht3 hb3
  cases hn : isN t x
  · have hcl := skidOf_any A1 c1 t x s w4 ht4.len5 ht4.cap ht4.short ht4.rd
    have HCL := Lib.hid hcl
    clear hcl
    cases hv : validN t
    · go_wp2_with fail
      refine HCL.out.mono ?_
      rintro e w5 ⟨rfl, hb5⟩
      have hb5 := below_then hb4 hb5 hb4.size
      go_wp2
      go_ret
      exact ⟨ret_bool (by simp), hb5⟩
    · by_cases h0 : x < 0
      · clear hn hv
        go_wp2_with fail
        refine HCL.out.mono ?_
        rintro e w5 ⟨rfl, hb5⟩
        have hb5 := below_then hb4 hb5 hb4.size
        go_wp2
        go_ret
        exact ⟨ret_bool (by simp), hb5⟩
      · have h1 : (t.length : Int) ≤ x := by
          apply Classical.byContradiction
          intro hc
          have : isN t x = true := isN_iff.2 ⟨⟨by omega, by omega⟩, hv⟩
          rw [hn] at this; cases this
        have h0' : 0 ≤ x := by omega
        clear hn hv h0
        go_wp2_with fail
        refine HCL.out.mono ?_
        rintro e w5 ⟨rfl, hb5⟩
        have hb5 := below_then hb4 hb5 hb4.size
        go_wp2
        go_ret
        exact ⟨ret_bool (by simp), hb5⟩
  · have HN := Lib.hid hn
    have hv := (isN_iff.1 hn).2
    have hx0 := (isN_iff.1 hn).1.1
    have hx1 := (isN_iff.1 hn).1.2
    rw [hv]
    clear hn hv
    obtain ⟨kv, hkv⟩ : ∃ kv, kidOf t x s = kv := ⟨_, rfl⟩
    rw [hkv]
    have HKV := Lib.hid hkv
    clear hsame hkv
    go_wp2
    go_loopg [7, 8] (t.length - 1) (fun gk sv i wr => ∃ (k : Nat) (sb : Bool), 1 ≤ k ∧ gk = t.length - k ∧ i = .int .i64 k ∧ sv = .bool sb ∧ Hid (sb = true ↔ someKid t x s k) ∧ TreeW wr A1 c1 t ∧ Below w.heap.size w wr)
    case atStart => exact ⟨1, false, by omega, rfl, rfl, rfl, (show (false = true) ↔ _ from ⟨fun h => (by cases h), fun h => absurd h (someKid_one _ _ _)⟩), ht4, hb4⟩
    case round =>
      clear ht4 hb4
      obtain ⟨k, sb, hk, rfl, rfl, rfl, HSB, ht, hb⟩ := hrel
      by_cases hlt : k < t.length
      · obtain ⟨b, off, y, rfl, hbl, hy, hc1, hc2, hc3⟩ := ht.at_ hlt
        have HY := Lib.hid hy
        clear hy
        cases sb
        · have HNO := Lib.hid (show ¬ someKid t x s k from fun h => by have := HSB.out.2 h; cases this)
          by_cases h1 : y.parent = x
          · have h1' : (y.parent == x) = true := by simp [h1]
            by_cases h2 : y.name = s
            · have h2' : (y.name == s) = true := by simp [h2]
              have HA := Lib.hid (someKid_here hk HY.out (isKid_iff.2 ⟨h1, h2⟩))
              clear h1 h2
              go_wp2
              go_roundg (t.length - (k + 1))
              case measure => omega
              case rel => exact ⟨k + 1, true, by omega, rfl, by go_num, rfl, (show (true = true) ↔ _ from ⟨fun _ => HA.out, fun _ => rfl⟩), ht, hb⟩
            · have h2' : (y.name == s) = false := by simp [h2]
              have HA := Lib.hid (someKid_not HNO.out HY.out (isKid_not.2 fun h => h2 h.2))
              clear h1 h2
              go_wp2
              go_roundg (t.length - (k + 1))
              case measure => omega
              case rel => exact ⟨k + 1, false, by omega, rfl, by go_num, rfl, (show (false = true) ↔ _ from ⟨fun h => (by cases h), fun h => absurd h HA.out⟩), ht, hb⟩
          · have h1' : (y.parent == x) = false := by simp [h1]
            have HA := Lib.hid (someKid_not HNO.out HY.out (isKid_not.2 fun h => h1 h.1))
            clear h1
            go_wp2
            go_roundg (t.length - (k + 1))
            case measure => omega
            case rel => exact ⟨k + 1, false, by omega, rfl, by go_num, rfl, (show (false = true) ↔ _ from ⟨fun h => (by cases h), fun h => absurd h HA.out⟩), ht, hb⟩
        · have HA := Lib.hid (someKid_up (HSB.out.1 rfl))
          go_wp2
          go_roundg (t.length - (k + 1))
          case measure => omega
          case rel => exact ⟨k + 1, true, by omega, rfl, by go_num, rfl, (show (true = true) ↔ _ from ⟨fun _ => HA.out, fun _ => rfl⟩), ht, hb⟩
      · have HE : Hid (sb = decide (0 ≤ kv)) := by
          show _ = _
          have h1 := HSB.out.trans (someKid_end HN.out (by omega))
          rw [HKV.out] at h1
          rw [Bool.eq_iff_iff, decide_eq_true_iff]
          exact h1
        go_wp2
        go_ret
        exact ⟨ret_bool (by rw [HE.out]; simp), hb⟩
end Go.Proofs.Ythfmbedbaajdbaa
