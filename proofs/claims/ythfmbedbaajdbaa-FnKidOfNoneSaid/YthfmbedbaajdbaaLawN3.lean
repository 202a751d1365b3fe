/- The walk of the law FnKidOf. -/
import Derived.Test.YthfmbedbaajdbaaTreKit
import Derived.Deep.RegionHeld3
namespace Go.Proofs.Ythfmbedbaajdbaa
open Go.RowKit
open Tl (Nd kid validN validN_iff ValidN)

theorem kidOf_self {t : List Nd} (hv : validN t = true) {i : Nat} {n : Nd} (hi : 1 ≤ i) (hn : t[i]? = some n) : kidOf t n.parent n.name = i := by
  have hl := (List.getElem?_eq_some_iff.1 hn).1
  have hV := validN_iff.1 hv
  have hp : isN t n.parent = true := by
    rw [isN_iff]
    refine ⟨?_, hv⟩
    rcases hV.grows i n hn with h | h <;> omega
  unfold kidOf
  rw [if_pos hp]
  exact Tl.kid_self hV hi hn
theorem kidOf_cases (t : List Nd) (x : Int) (s : List UInt8) : kidOf t x s = -1 ∨ ∃ (k : Nat) (n : Nd), kidOf t x s = k ∧ k < t.length ∧ t[k]? = some n ∧ n.parent = x ∧ n.name = s := by
  unfold kidOf
  split
  · rcases Tl.kid_cases t x s with ⟨h, _⟩ | ⟨k, n, h1, h2, h3, h4, _⟩
    · exact .inl h
    · exact .inr ⟨k, n, h1, (List.getElem?_eq_some_iff.1 h2).1, h2, h3, h4⟩
  · exact .inl rfl

set_option maxHeartbeats 1000000 in
set_option maxRecDepth 100000 in
theorem law_FnKidOf (A : Option Addr) (n c : Nat) (w : World) (h : Code8 w A n c) : Calls Try.prog 5 #[.slice A n c] w (PBool w true) := by
  have hle : (n : Int) ≤ 1048576 := by have := h.le; omega
  go_enter Try.func5, Try.ntmps5
  go_wp2_with fail
  refine (drawKidOf_any A n c _ h).mono ?_
  rintro e w1 ⟨t, A1, c1, x, s, rfl, ht1, hx, hs, hb1⟩
  clear h
  go_wp2_with fail
  refine (kidOf_any A1 c1 t x s _ ht1.len5 ht1.cap ht1.short ht1.rd).mono ?_
  rintro e w2 ⟨rfl, hb2⟩
  have ht2 := ht1.step hb2
  have hb2 := below_then hb1 hb2 hb1.size
  clear ht1 hb1
  go_wp2_with fail
  refine (skidOf_any A1 c1 t x s _ ht2.len5 ht2.cap ht2.short ht2.rd).mono ?_
  rintro e w3 ⟨rfl, hb3⟩
  have ht3 := ht2.step hb3
  have hb3 := below_then hb2 hb3 hb2.size
  have hlen := ht3.len
  have hcap := ht3.cap
  have hsame : (kidOf t x s != kidOf t x s) = false := by simp
  clear ht2 hb2
  go_wp2_with fail
  refine ht3.valid.mono ?_
  rintro e w4 ⟨rfl, hb4⟩
  have ht4 := ht3.step hb4
  have hb4 := below_then hb3 hb4 hb3.size
  clear ht3 hb3
  cases hv : validN t
  · go_wp2_with fail
    refine (skidOf_any A1 c1 t x s _ ht4.len5 ht4.cap ht4.short ht4.rd).mono ?_
    rintro e w5 ⟨rfl, hb5⟩
    have hb5 := below_then hb4 hb5 hb4.size
    go_wp2
    go_ret
    exact ⟨ret_bool (by simp), hb5⟩
  · have HV := Lib.hid hv
    obtain ⟨kv, hkv⟩ : ∃ kv, kidOf t x s = kv := ⟨_, rfl⟩
    have hkc := kidOf_cases t x s
    rw [hkv] at hkc ⊢
    have HKC := Lib.hid hkc
    clear hv hkc hkv hsame
    go_wp2
    go_loopg [7] (t.length - 1) (fun gk i wr => ∃ k : Nat, 1 ≤ k ∧ gk = t.length - k ∧ i = .int .i64 k ∧ TreeW wr A1 c1 t ∧ Below w.heap.size w wr)
    case atStart => exact ⟨1, by omega, rfl, rfl, ht4, hb4⟩
    case round =>
      clear ht4 hb4
      obtain ⟨k, hk, rfl, rfl, ht, hb⟩ := hrel
      by_cases hlt : k < t.length
      · obtain ⟨b, off, y, rfl, hbl, hy, hc1, hc2, hc3⟩ := ht.at_ hlt
        have HY := Lib.hid hy
        clear hy
        have HK := Lib.hid (kidOf_self HV.out hk HY.out)
        have htd := ht.drewN 0
        have hrd : Rd wr.drew wr.heap.size 3 (some ⟨b, off, none⟩) t.length (nds t) := ht.rd
        have hS := Lib.hid ht.short
        have hnk : ((k : Int) != (k : Int)) = false := by simp
        go_wp2
        go_region_held3 (fun w' => w'.cell? ⟨b, off + k * 3, none⟩ = some (.int .i64 y.parent) ∧ w'.cell? ⟨b, off + k * 3 + 1, none⟩ = some (.string ⟨y.name.toArray⟩))
          (first
            | go_keep
            | (go_split_ands
               refine ⟨?_, ?_⟩
               · (rw [hb'.cell hbl]; assumption)
               · (rw [hb'.cell hbl]; assumption)))
          ((go_at_call 19; refine (kidOf_any (some ⟨b, off, none⟩) c1 t y.parent y.name _ (by omega) hcap hS.out hrd).mono ?_; rintro e w' ⟨rfl, hb'⟩; rw [HK.out]))
        have ht9 := TreeW.step (w := wr.drew) ⟨ht.cap, ht.rd, ht.len, ht.short⟩ hb'
        have hb9 := (hb.drew).trans (hb'.mono hb.size)
        clear ht hb hb' hc1 hc2 hc3 htd hrd
        go_wp2
        go_roundg (t.length - (k + 1))
        case measure => omega
        case rel => exact ⟨k + 1, by omega, rfl, by go_num, ht9, hb9⟩
      · rcases HKC.out with rfl | ⟨kn, y, rfl, hkn, hy, hyp, hys⟩
        · go_wp2
          go_ret
          exact ⟨rfl, hb⟩
        · obtain ⟨b, off, y2, rfl, hbl, hy2, hc1, hc2, hc3⟩ := ht.at_ hkn
          obtain rfl := Option.some.inj (hy.symm.trans hy2)
          have hp' : (y.parent == x) = true := by simp [hyp]
          have hs' : (y.name == s) = true := by simp [hys]
          clear hy hy2 hyp hys HKC ht
          go_wp2
          go_ret
          exact ⟨rfl, hb⟩
end Go.Proofs.Ythfmbedbaajdbaa
