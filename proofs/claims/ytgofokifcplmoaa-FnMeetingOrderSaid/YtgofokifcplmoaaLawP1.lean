/- The walks of the laws FnMeeting and FnMeetingOrder. -/
import Derived.Test.YtgofokifcplmoaaPathKit
namespace Go.Proofs.Ytgofokifcplmoaa
open Go.RowKit
open Tl (Nd path validN validN_iff ValidN Grows above above_iff meet par)

set_option maxHeartbeats 1000000 in
set_option maxRecDepth 100000 in
theorem law_FnMeeting (A : Option Addr) (n c : Nat) (w : World) (h : Code8 w A n c) : Calls Try.prog 5 #[.slice A n c] w (PBool w true) := by
  have hle : (n : Int) ≤ 1048576 := by have := h.le; omega
  go_enter Try.func5, Try.ntmps5
  go_wp2_with fail
  refine (drawMeeting_any A n c _ h).mono ?_
  rintro e w1 ⟨t, A1, c1, a, i, rfl, ht1, ha, hi, hb1⟩
  clear h
  go_wp2_with fail
  refine (meeting_any A1 c1 t a i _ ht1.len4 ht1.cap ht1.short ht1.rd).mono ?_
  rintro e w2 ⟨rfl, hb2⟩
  have ht2 := ht1.step hb2
  have hb2 := below_then hb1 hb2 hb1.size
  clear ht1 hb1
  go_wp2_with fail
  refine (smeeting_any A1 c1 t a i _ ht2.len4 ht2.cap ht2.short ht2.rd).mono ?_
  rintro e w3 ⟨rfl, hb3⟩
  have ht3 := ht2.step hb3
  have hb3 := below_then hb2 hb3 hb2.size
  have hlen := ht3.len
  clear ht2 hb2
  by_cases hin : isN t a = true ∧ isN t i = true
  · have HA := Lib.hid hin.1
    have HI := Lib.hid hin.2
    have hp0 := (meetN_pos HA.out HI.out).1
    have hsame : (meetN t a i != meetN t a i) = false := by simp
    clear hin
    go_wp2
    go_loopg [7] t.length (fun gk iv wr => ∃ k : Nat, gk = t.length - k ∧ iv = .int .i64 k ∧ TreeW wr A1 c1 t ∧ Below w.heap.size w wr)
    case atStart => exact ⟨0, rfl, rfl, ht3, hb3⟩
    case round =>
      clear ht3 hb3 hsame
      obtain ⟨k, rfl, rfl, ht, hb⟩ := hrel
      by_cases hlt : k < t.length
      · go_wp2_with fail
        refine (isAbove_any A1 c1 t k a _ ht.len5 ht.cap ht.short ht.rd).mono ?_
        rintro e w4 ⟨rfl, hb4⟩
        have ht4 := ht.step hb4
        have hb4 := below_then hb hb4 hb.size
        clear ht hb
        cases h1 : aboveN t k a
        · clear h1
          go_wp2
          go_roundg (t.length - (k + 1))
          case measure => omega
          case rel => exact ⟨k + 1, rfl, by go_num, ht4, hb4⟩
        · have H1 := Lib.hid h1
          clear h1
          go_wp2_with fail
          refine (isAbove_any A1 c1 t k i _ ht4.len5 ht4.cap ht4.short ht4.rd).mono ?_
          rintro e w5 ⟨rfl, hb5⟩
          have ht5 := ht4.step hb5
          have hb5 := below_then hb4 hb5 hb4.size
          clear ht4 hb4
          cases h2 : aboveN t k i
          · clear h2
            go_wp2
            go_roundg (t.length - (k + 1))
            case measure => omega
            case rel => exact ⟨k + 1, rfl, by go_num, ht5, hb5⟩
          · have hmax := meetN_max HA.out HI.out (aboveN_mem H1.out) (aboveN_mem h2)
            clear h2
            go_wp2
            go_roundg (t.length - (k + 1))
            case measure => omega
            case rel => exact ⟨k + 1, rfl, by go_num, ht5, hb5⟩
      · have HM := Lib.hid (meetN_isN HA.out HI.out)
        have HQ := Lib.hid (meetN_pos HA.out HI.out)
        go_wp2_with fail
        refine (isAbove_any A1 c1 t (meetN t a i) a _ ht.len5 ht.cap ht.short ht.rd).mono ?_
        rintro e w4 ⟨rfl, hb4⟩
        have ht4 := ht.step hb4
        have hb4 := below_then hb hb4 hb.size
        clear ht hb
        rw [aboveN_of HM.out HA.out HQ.out.2.2.1]
        go_wp2_with fail
        refine (isAbove_any A1 c1 t (meetN t a i) i _ ht4.len5 ht4.cap ht4.short ht4.rd).mono ?_
        rintro e w5 ⟨rfl, hb5⟩
        have hb5 := below_then hb4 hb5 hb4.size
        rw [aboveN_of HM.out HI.out HQ.out.2.2.2]
        go_wp2
        go_ret
        exact ⟨rfl, hb5⟩
  · have HE := Lib.hid (meetN_neg hin)
    clear hin
    rw [HE.out]
    go_wp2_with fail
    refine (smeeting_any A1 c1 t a i _ ht3.len4 ht3.cap ht3.short ht3.rd).mono ?_
    rintro e w5 ⟨rfl, hb5⟩
    have hb5 := below_then hb3 hb5 hb3.size
    rw [HE.out]
    go_wp2
    go_ret
    exact ⟨rfl, hb5⟩

set_option maxHeartbeats 1000000 in
set_option maxRecDepth 100000 in
theorem law_FnMeetingOrder (A : Option Addr) (n c : Nat) (w : World) (h : Code8 w A n c) : Calls Try.prog 6 #[.slice A n c] w (PBool w true) := by
  have hle : (n : Int) ≤ 1048576 := by have := h.le; omega
  go_enter Try.func6, Try.ntmps6
  go_wp2_with fail
  refine (drawMeeting_any A n c _ h).mono ?_
  rintro e w1 ⟨t, A1, c1, a, i, rfl, ht1, ha, hi, hb1⟩
  clear h
  go_wp2_with fail
  refine (meeting_any A1 c1 t a i _ ht1.len4 ht1.cap ht1.short ht1.rd).mono ?_
  rintro e w2 ⟨rfl, hb2⟩
  have ht2 := ht1.step hb2
  have hb2 := below_then hb1 hb2 hb1.size
  clear ht1 hb1
  go_wp2_with fail
  refine (smeeting_any A1 c1 t a i _ ht2.len4 ht2.cap ht2.short ht2.rd).mono ?_
  rintro e w3 ⟨rfl, hb3⟩
  have ht3 := ht2.step hb3
  have hb3 := below_then hb2 hb3 hb2.size
  have hlen := ht3.len
  clear ht2 hb2
  by_cases hin : isN t a = true ∧ isN t i = true
  · have HA := Lib.hid hin.1
    have HI := Lib.hid hin.2
    have hp0 := (meetN_pos HA.out HI.out).1
    have hsame : (meetN t a i != meetN t a i) = false := by simp
    have hsame2 : (meetN t a i == meetN t a i) = true := by simp
    have hsame3 : (a == a) = true := by simp
    clear hin
    go_wp2_with fail
    refine (meeting_any A1 c1 t i a _ ht3.len4 ht3.cap ht3.short ht3.rd).mono ?_
    rintro e w4 ⟨rfl, hb4⟩
    have ht4 := ht3.step hb4
    have hb4 := below_then hb3 hb4 hb3.size
    clear ht3 hb3
    rw [meetN_comm HA.out HI.out]
    go_wp2_with fail
    refine (meeting_any A1 c1 t a a _ ht4.len4 ht4.cap ht4.short ht4.rd).mono ?_
    rintro e w5 ⟨rfl, hb5⟩
    have ht5 := ht4.step hb5
    have hb5 := below_then hb4 hb5 hb4.size
    clear ht4 hb4
    rw [meetN_self HA.out]
    go_wp2_with fail
    refine (isAbove_any A1 c1 t a i _ ht5.len5 ht5.cap ht5.short ht5.rd).mono ?_
    rintro e w6 ⟨rfl, hb6⟩
    have ht6 := ht5.step hb6
    have hb6 := below_then hb5 hb6 hb5.size
    clear ht5 hb5
    have hss : ((meetN t a i == a) == (meetN t a i == a)) = true := by simp
    rw [meetN_above HA.out HI.out]
    go_wp2_with fail
    refine (meeting_any A1 c1 t 0 i _ ht6.len4 ht6.cap ht6.short ht6.rd).mono ?_
    rintro e w7 ⟨rfl, hb7⟩
    have hb7 := below_then hb6 hb7 hb6.size
    rw [meetN_root HI.out]
    go_wp2
    go_ret
    exact ⟨rfl, hb7⟩
  · have HE := Lib.hid (meetN_neg hin)
    clear hin
    rw [HE.out]
    go_wp2_with fail
    refine (smeeting_any A1 c1 t a i _ ht3.len4 ht3.cap ht3.short ht3.rd).mono ?_
    rintro e w5 ⟨rfl, hb5⟩
    have hb5 := below_then hb3 hb5 hb3.size
    rw [HE.out]
    go_wp2
    go_ret
    exact ⟨rfl, hb5⟩
end Go.Proofs.Ytgofokifcplmoaa
