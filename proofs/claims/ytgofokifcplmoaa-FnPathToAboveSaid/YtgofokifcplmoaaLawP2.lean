/- The walks of the laws FnPathToAbove and FnPathTo. -/
import Derived.Test.YtgofokifcplmoaaPathKit
namespace Go.Proofs.Ytgofokifcplmoaa
open Go.RowKit
open Tl (Nd path validN validN_iff ValidN Grows above above_iff meet par)

set_option maxHeartbeats 1000000 in
set_option maxRecDepth 100000 in
theorem law_FnPathToAbove (A : Option Addr) (n c : Nat) (w : World) (h : Code8 w A n c) : Calls Try.prog 10 #[.slice A n c] w (PBool w true) := by
  have hle : (n : Int) ≤ 1048576 := by have := h.le; omega
  go_enter Try.func10, Try.ntmps10
  go_wp2_with fail
  refine (drawPathTo_any A n c _ h).mono ?_
  rintro e w1 ⟨t, A1, c1, a, rfl, ht1, ha, hb1⟩
  clear h
  go_wp2_with fail
  refine (pathTo_any A1 c1 t a _ ht1.len4 ht1.cap ht1.short ht1.rd).mono ?_
  rintro e w2 ⟨A2, c2, rfl, ho2, hb2⟩
  have ht2 := ht1.step hb2
  have hr2 := Rd.of_own ho2
  have hb2 := below_then hb1 hb2 hb1.size
  clear ht1 hb1 ho2
  go_wp2_with fail
  refine (spathTo_any A1 c1 t a _ ht2.len4 ht2.cap ht2.short ht2.rd).mono ?_
  rintro e w3 ⟨A3, c3, rfl, ho3, hb3⟩
  have ht3 := ht2.step hb3
  have hr3 := hr2.step hb3
  have hs3 := Rd.of_own ho3
  have hb3 := below_then hb2 hb3 hb2.size
  have hpl := pathN_len t a
  clear ht2 hb2 hr2 ho3
  go_wp2_with fail
  refine (equalInts_same A2 c2 (pathN t a) A3 c3 _ (by omega) hr3 hs3).mono ?_
  rintro e w4 ⟨rfl, hb4⟩
  have ht4 := ht3.step hb4
  have hr4 := hr3.step hb4
  have hb4 := below_then hb3 hb4 hb3.size
  have htl := ht4.len
  clear ht3 hb3 hr3 hs3
  cases hin : isN t a
  · have hz : (((pathN t a).length : Int) == 0) = true := by rw [pathN_no hin]; rfl
    clear hin
    go_wp2_with fail
    refine (spathTo_any A1 c1 t a _ ht4.len4 ht4.cap ht4.short ht4.rd).mono ?_
    rintro e w5 ⟨A5, c5, rfl, ho5, hb5⟩
    have hr5 := hr4.step hb5
    have hs5 := Rd.of_own ho5
    have hb5 := below_then hb4 hb5 hb4.size
    go_wp2_with fail
    refine (equalInts_same A2 c2 (pathN t a) A5 c5 _ (by omega) hr5 hs5).mono ?_
    rintro e w6 ⟨rfl, hb6⟩
    have hb6 := below_then hb5 hb6 hb5.size
    go_wp2
    go_ret
    exact ⟨rfl, hb6⟩
  · have HA := Lib.hid hin
    have hz : (((pathN t a).length : Int) == 0) = false := by have := pathN_pos hin; rw [beq_eq_false_iff_ne]; omega
    clear hin
    go_wp2
    go_loopg [6] t.length (fun gk iv wr => ∃ k : Nat, gk = t.length - k ∧ iv = .int .i64 k ∧ TreeW wr A1 c1 t ∧ Rd wr wr.heap.size 1 A2 (pathN t a).length (ints (pathN t a)) ∧ Below w.heap.size w wr)
    case atStart => exact ⟨0, rfl, rfl, ht4, hr4, hb4⟩
    case round =>
      clear ht4 hr4 hb4 hz
      obtain ⟨k, rfl, rfl, ht, hr, hb⟩ := hrel
      by_cases hlt : k < t.length
      · have HK := Lib.hid (isN_of (i := (k : Int)) (isN_iff.1 HA.out).2 (by omega) (by omega))
        have hss : (aboveN t (k : Int) a != aboveN t (k : Int) a) = false := by simp
        go_wp2_with fail
        refine (isAbove_any A1 c1 t k a _ ht.len5 ht.cap ht.short ht.rd).mono ?_
        rintro e w5 ⟨rfl, hb5⟩
        have ht5 := ht.step hb5
        have hr5 := hr.step hb5
        have hb5 := below_then hb hb5 hb.size
        clear ht hr hb
        go_wp2_with fail
        refine (lisIn_any A2 c2 (pathN t a) k _ (by omega) hr5).mono ?_
        rintro e w6 ⟨rfl, rfl⟩
        rw [mem_pathN HA.out HK.out]
        go_wp2
        go_roundg (t.length - (k + 1))
        case measure => omega
        case rel => exact ⟨k + 1, rfl, by go_num, ht5, hr5, hb5⟩
      · go_wp2
        go_ret
        exact ⟨rfl, hb⟩
end Go.Proofs.Ytgofokifcplmoaa
