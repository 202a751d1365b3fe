/- The walk of the law FnPathToShort. -/
import Derived.Test.YtgofokifcplmoaaPathKit
import Derived.Deep.RegionHeld3
import Derived.IntWalk
namespace Go.Proofs.Ytgofokifcplmoaa
open Go.RowKit
open Tl (Nd path validN validN_iff ValidN Grows above above_iff meet par)

theorem ints_take (xs : List Int) (k : Nat) : (ints xs).take (k * 1) = ints (xs.take k) := by
  unfold ints; rw [Nat.mul_one, List.map_take]
theorem equalInts_at (A : Option Addr) (c : Nat) (xs : List Int) (n : Nat) (A' : Option Addr) (c' n' : Nat) (w : World) {B : Nat} (hx : xs.length = n) (hx' : xs.length = n') (hn : xs.length ≤ 100000) (hr : Rd w B 1 A n (ints xs)) (hr' : Rd w B 1 A' n' (ints xs)) :
    Calls Try.prog 24 #[.slice A n c, .slice A' n' c'] w (PBool w true) := by
  subst hx
  subst hx'
  exact equalInts_same A c xs A' c' w hn hr hr'
/-- The way of the parent. -/
theorem pathN_parent {t : List Nd} {a : Int} (h : isN t a = true) (h2 : 2 ≤ (pathN t a).length) : ∃ (j : Nat) (x : Nd), a = j ∧ j < t.length ∧ t[j]? = some x ∧ isN t x.parent = true ∧ pathN t x.parent = (pathN t a).take ((pathN t a).length - 1) ∧ (pathN t x.parent).length = (pathN t a).length - 1 := by
  obtain ⟨j, rfl, hj⟩ := isN_nat h
  have hx : t[j]? = some t[j] := List.getElem?_eq_getElem hj
  have hg := isN_grows h
  have hs := Tl.path_step hg (i := (j : Int)) (by omega)
  rw [Tl.par_of hx] at hs
  rw [pathN_in h] at h2 ⊢
  have hp : 0 ≤ t[j].parent := by
    rcases hg j _ hx with h3 | h3
    · obtain ⟨rfl, _⟩ := h3
      rw [show ((0 : Nat) : Int) = 0 from rfl, Tl.path_zero hg] at h2
      simp at h2
    · exact h3.1
  have hlt : t[j].parent < j := by
    rcases hg j _ hx with h3 | h3
    · omega
    · exact h3.2
  have hN : isN t t[j].parent = true := isN_of (isN_iff.1 h).2 hp (by omega)
  refine ⟨j, t[j], rfl, hj, hx, hN, ?_, ?_⟩
  · rw [pathN_in hN, hs]; simp
  · rw [pathN_in hN, hs]; simp

set_option maxHeartbeats 1000000 in
set_option maxRecDepth 100000 in
theorem law_FnPathToShort (A : Option Addr) (n c : Nat) (w : World) (h : Code8 w A n c) : Calls Try.prog 8 #[.slice A n c] w (PBool w true) := by
  have hle : (n : Int) ≤ 1048576 := by have := h.le; omega
  go_enter Try.func8, Try.ntmps8
  go_wp2_with fail
  refine (drawPathTo_any A n c _ h).mono ?_
  rintro e w1 ⟨t, A1, c1, a, rfl, ht1, ha, hb1⟩
  clear h
  go_wp2_with fail
  refine (pathTo_any A1 c1 t a _ ht1.len4 ht1.cap ht1.short ht1.rd).mono ?_
  rintro e w2 ⟨A2, c2, rfl, ho2, hb2⟩
  have ht2 := ht1.step hb2
  have hr2 := Rd.of_own ho2
  have hcap2 := own_cap ho2
  have hb2 := below_then hb1 hb2 hb1.size
  clear ht1 hb1 ho2
  go_wp2_with fail
  refine (spathTo_any A1 c1 t a _ ht2.len4 ht2.cap ht2.short ht2.rd).mono ?_
  rintro e w3 ⟨A3, c3, rfl, ho3, hb3⟩
  have ht3 := ht2.step hb3
  have hr3 := hr2.step hb3
  have hs3 := Rd.of_own ho3
  have hb3 := below_then hb2 hb3 hb2.size
  have hpl := pathN_len t a
  clear ht2 hb2 hr2 ho3
  go_wp2_with fail
  refine (equalInts_same A2 c2 (pathN t a) A3 c3 _ (by omega) hr3 hs3).mono ?_
  rintro e w4 ⟨rfl, hb4⟩
  have ht4 := ht3.step hb4
  have hr4 := hr3.step hb4
  have hb4 := below_then hb3 hb4 hb3.size
  have htl := ht4.len
  clear ht3 hb3 hr3 hs3
  by_cases hl2 : (pathN t a).length < 2
  · go_wp2_with fail
    refine (spathTo_any A1 c1 t a _ ht4.len4 ht4.cap ht4.short ht4.rd).mono ?_
    rintro e w5 ⟨A5, c5, rfl, ho5, hb5⟩
    have hr5 := hr4.step hb5
    have hs5 := Rd.of_own ho5
    have hb5 := below_then hb4 hb5 hb4.size
    go_wp2_with fail
    refine (equalInts_same A2 c2 (pathN t a) A5 c5 _ (by omega) hr5 hs5).mono ?_
    rintro e w6 ⟨rfl, hb6⟩
    have hb6 := below_then hb5 hb6 hb5.size
    go_wp2
    go_ret
    exact ⟨rfl, hb6⟩
  · have hN : isN t a = true := by
      cases hin : isN t a
      · rw [pathN_no hin] at hl2; simp at hl2
      · rfl
    obtain ⟨j, x, rfl, hj, hx, hNp, hpp, hpl2⟩ := pathN_parent hN (by omega)
    obtain ⟨b, off, y, rfl, hbl, hy, hc1, hc2, hc3⟩ := ht4.at_ hj
    obtain rfl := Option.some.inj (hy.symm.trans hx)
    obtain ⟨L, hL⟩ : ∃ L, (pathN t (j : Int)).length - 1 = L := ⟨_, rfl⟩
    have hs1 : IntKind.i64.wrap (((pathN t (j : Int)).length : Int) - 1) = (L : Int) := by rw [IntWalk.i64_in _ (by omega)]; omega
    have hs2 : (0 : Int) ≤ (L : Int) := by omega
    have hs3 : (L : Int) ≤ (c2 : Int) := by omega
    have hs4 : L ≤ c2 := by omega
    have hLp : L ≤ (pathN t (j : Int)).length := by omega
    rw [hL] at hpl2 hpp
    have HPP := Lib.hid hpp
    have HPL := Lib.hid hpl2
    have hle5 : (pathN t y.parent).length ≤ 5 := pathN_len t y.parent
    have hl4 := ht4.len4
    have hcp := ht4.cap
    have HS := Lib.hid ht4.short
    have HR := Lib.hid ht4.rd
    have HR4 := Lib.hid hr4
    clear hx hy hN hNp hpp hpl2 hc2 hc3 hL
    go_wp2
    go_region_held3 (fun w' => w'.cell? ⟨b, off + j * 3, none⟩ = some (.int .i64 y.parent))
      (first
        | go_keep
        | (rw [hb7.cell (Nat.lt_of_lt_of_le hbl hb6.size), hb6.cell hbl]; assumption)
        | (rw [hb6.cell hbl]; assumption))
      ((first
        | (go_at_call 23; refine (pathTo_any (some ⟨b, off, none⟩) c1 t y.parent _ hl4 hcp HS.out (HR.out.step ((Below.refl _ _).drew))).mono ?_; rintro e w6 ⟨A6, c6, rfl, ho6, hb6⟩)
        | (have hZ := ho6; go_at_call 24; refine (equalInts_at A6 c6 (pathN t y.parent) _ A2 c2 _ _ rfl HPL.out (by omega) (Rd.of_own hZ) (by rw [HPP.out, ← ints_take]; exact ((HR4.out.step ((Below.refl _ _).drew)).step hb6).take (by omega))).mono ?_; rintro e w7 ⟨rfl, hb7⟩)))
    have hb8 := (hb4.drew).trans (hb6.mono hb4.size)
    have hb9 := below_then hb8 hb7 hb8.size
    go_wp2
    go_ret
    exact ⟨rfl, hb9⟩
end Go.Proofs.Ytgofokifcplmoaa
