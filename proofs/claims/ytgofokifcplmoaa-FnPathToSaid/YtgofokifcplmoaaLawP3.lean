/- The walk of the law FnPathTo. -/
import Derived.Test.YtgofokifcplmoaaPathKit
import Derived.BigQuiet
import Derived.IntWalk
namespace Go.Proofs.Ytgofokifcplmoaa
open Go.RowKit
open Tl (Nd path validN validN_iff ValidN Grows above above_iff meet par)

set_option maxHeartbeats 1000000 in
set_option maxRecDepth 100000 in
theorem law_FnPathTo (A : Option Addr) (n c : Nat) (w : World) (h : Code8 w A n c) : Calls Try.prog 7 #[.slice A n c] w (PBool w true) := by
  have hle : (n : Int) ≤ 1048576 := by have := h.le; omega
  go_enter Try.func7, Try.ntmps7
  go_wp2_with fail
  refine (drawPathTo_any A n c _ h).mono ?_
  rintro e w1 ⟨t, A1, c1, a, rfl, ht1, ha, hb1⟩
  clear h
  go_wp2_with fail
  refine (pathTo_any A1 c1 t a _ ht1.len4 ht1.cap ht1.short ht1.rd).mono ?_
  rintro e w2 ⟨A2, c2, rfl, ho2, hb2⟩
  have ht2 := ht1.step hb2
  have hr2 := Rd.of_own ho2
  have hb2 := below_then hb1 hb2 hb1.size
  clear ht1 hb1 ho2
  go_wp2_with fail
  refine (spathTo_any A1 c1 t a _ ht2.len4 ht2.cap ht2.short ht2.rd).mono ?_
  rintro e w3 ⟨A3, c3, rfl, ho3, hb3⟩
  have ht3 := ht2.step hb3
  have hr3 := hr2.step hb3
  have hs3 := Rd.of_own ho3
  have hb3 := below_then hb2 hb3 hb2.size
  have hpl := pathN_len t a
  clear ht2 hb2 hr2 ho3
  go_wp2_with fail
  refine (equalInts_same A2 c2 (pathN t a) A3 c3 _ (by omega) hr3 hs3).mono ?_
  rintro e w4 ⟨rfl, hb4⟩
  have ht4 := ht3.step hb4
  have hr4 := hr3.step hb4
  have hb4 := below_then hb3 hb4 hb3.size
  have htl := ht4.len
  clear ht3 hb3 hr3 hs3
  cases hin : isN t a
  · have hz : (((pathN t a).length : Int) == 0) = true := by rw [pathN_no hin]; rfl
    clear hin
    go_wp2_with fail
    refine (spathTo_any A1 c1 t a _ ht4.len4 ht4.cap ht4.short ht4.rd).mono ?_
    rintro e w5 ⟨A5, c5, rfl, ho5, hb5⟩
    have hr5 := hr4.step hb5
    have hs5 := Rd.of_own ho5
    have hb5 := below_then hb4 hb5 hb4.size
    go_wp2_with fail
    refine (equalInts_same A2 c2 (pathN t a) A5 c5 _ (by omega) hr5 hs5).mono ?_
    rintro e w6 ⟨rfl, hb6⟩
    have hb6 := below_then hb5 hb6 hb5.size
    go_wp2
    go_ret
    exact ⟨rfl, hb6⟩
  · have HA := Lib.hid hin
    have hz : (((pathN t a).length : Int) == 0) = false := by have := pathN_pos hin; rw [beq_eq_false_iff_ne]; omega
    have hpp := pathN_pos hin
    have HG := Lib.hid (isN_grows hin)
    clear hin
    go_wp2
    go_loopg [6] ((pathN t a).length - 1) (fun gk iv wr => ∃ k : Nat, gk = (pathN t a).length - (k + 1) ∧ iv = .int .i64 ((k : Int) + 1) ∧ k + 1 ≤ (pathN t a).length ∧ TreeW wr A1 c1 t ∧ Rd wr wr.heap.size 1 A2 (pathN t a).length (ints (pathN t a)) ∧ Below w.heap.size w wr)
    case atStart => exact ⟨0, by first | rfl | omega, rfl, by omega, ht4, hr4, hb4⟩
    case round =>
      clear ht4 hr4 hb4 hz
      obtain ⟨k, rfl, rfl, hkl, ht, hr, hb⟩ := hrel
      by_cases hlt : k + 1 < (pathN t a).length
      · obtain ⟨bp, offp, z, rfl, hbpl, hz, hcz⟩ := hr.int hlt
        obtain ⟨bq, offq, zq, hbq, hbql, hzq, hczq⟩ := hr.int (k := k) (by omega)
        obtain ⟨rfl, rfl⟩ : bp = bq ∧ offp = offq := by simpa using hbq
        rw [pathN_in HA.out] at hz hzq
        obtain ⟨j, x, rfl, hjl, hx⟩ := path_nodes HA.out hz
        have ha0 := (isN_iff.1 HA.out).1.1
        have hpar : zq = x.parent := by
          have h1 := path_ahead HG.out a ha0 k (j : Int) hz
          rw [hzq, Tl.par_of hx] at h1
          exact Option.some.inj h1
        subst hpar
        obtain ⟨b, off, y, rfl, hbl, hy, hc1, hc2, hc3⟩ := ht.at_ hjl
        obtain rfl := Option.some.inj (hy.symm.trans hx)
        have hg1 : decide ((j : Int) < 0) = false := by rw [decide_eq_false_iff_not]; omega
        have hg2 : decide ((t.length : Int) ≤ (j : Int)) = false := by rw [decide_eq_false_iff_not]; omega
        have hg3 : (y.parent != y.parent) = false := by simp
        have hs1 : IntKind.i64.wrap ((k : Int) + 1 - 1) = (k : Int) := by rw [IntWalk.i64_in _ (by omega)]; omega
        have hs1b : IntKind.i64.wrap (k : Int) = (k : Int) := by rw [IntWalk.i64_in _ (by omega)]
        have hs4 : k < (pathN t a).length := by omega
        have hs5 : (0 : Int) ≤ (k : Int) + 1 := by omega
        have hs6 : ((k : Int) + 1).toNat = k + 1 := by omega
        clear hz hzq hx hy hc2 hc3 hbq
        go_wp2
        go_quiet (fail)
        clear hs1 hs1b hs4 hs5 hs6 hg1 hg2 hg3
        go_wp2
        go_roundg ((pathN t a).length - (k + 2))
        case measure => omega
        case rel => exact ⟨k + 1, rfl, by go_num, by omega, ht.step (below_drewN (Below.refl _ _) _), hr.step (below_drewN (Below.refl _ _) _), below_drewN hb _⟩
      · obtain ⟨b, off, z, rfl, hbl, hz, hcz⟩ := hr.int (k := 0) (by omega)
        obtain ⟨bq, offq, zq, hbq, hbql, hzq, hczq⟩ := hr.int (k := (pathN t a).length - 1) (by omega)
        obtain ⟨rfl, rfl⟩ : b = bq ∧ off = offq := by simpa using hbq
        have ha0 := (isN_iff.1 HA.out).1
        have hz0 : z = 0 := by
          obtain ⟨r, hr⟩ := Tl.path_head HG.out a ha0.1 ha0.2
          rw [pathN_in HA.out, hr] at hz
          simpa using hz.symm
        have hza : a = zq := by
          rw [pathN_in HA.out, path_last HG.out ha0.1] at hzq
          exact Option.some.inj hzq
        subst hz0
        subst hza
        have hs1 : IntKind.i64.wrap (((pathN t a).length : Int) - 1) = ((pathN t a).length : Int) - 1 := by exact IntWalk.i64_in _ (by omega)
        have hs2 : (0 : Int) ≤ ((pathN t a).length : Int) - 1 := by omega
        have hs3 : (((pathN t a).length : Int) - 1).toNat = (pathN t a).length - 1 := by omega
        have hss : (a == a) = true := by simp
        have hs4 : (pathN t a).length - 1 < (pathN t a).length := by omega
        have hs5 : 0 < (pathN t a).length := by omega
        rw [Nat.add_zero] at hcz
        have hd5 : decide (((pathN t a).length : Int) ≤ 5) = true := by rw [decide_eq_true_eq]; omega
        clear hz hzq hbq ha0
        go_wp2
        go_ret
        exact ⟨rfl, hb⟩
end Go.Proofs.Ytgofokifcplmoaa
