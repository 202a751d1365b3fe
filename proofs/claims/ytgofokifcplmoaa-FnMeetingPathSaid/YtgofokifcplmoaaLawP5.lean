/- The walk of the law FnMeetingPath. -/
import Derived.Test.YtgofokifcplmoaaPathKit
namespace Go.Proofs.Ytgofokifcplmoaa
open Go.RowKit
open Tl (Nd path validN validN_iff ValidN Grows above above_iff meet par)

theorem sorted_take {l : List Int} (hs : l.Pairwise (· < ·)) {k : Nat} {z : Int} (hz : l[k]? = some z) : ∀ n ∈ l.take k, n ≤ z := by
  intro n hn
  obtain ⟨i, hi, rfl⟩ := List.getElem_of_mem hn
  obtain ⟨hk, rfl⟩ := List.getElem?_eq_some_iff.1 hz
  rw [List.getElem_take]
  rw [List.length_take] at hi
  exact Int.le_of_lt (List.pairwise_iff_getElem.1 hs i k (by omega) hk (by omega))
/-- The last of a way that lies on the other, so far. -/
def LastIn (p q : List Int) (last : Int) : Prop := (∀ n ∈ p, n ∈ q → n ≤ last) ∧ (last = -1 ∨ (last ∈ p ∧ last ∈ q))
theorem LastIn.skip {p q : List Int} {k : Nat} {z last : Int} (h : LastIn (p.take k) q last) (hz : p[k]? = some z) (hq : z ∉ q) : LastIn (p.take (k + 1)) q last := by
  obtain ⟨hk, rfl⟩ := List.getElem?_eq_some_iff.1 hz
  rw [List.take_add_one, List.getElem?_eq_getElem hk]
  refine ⟨?_, ?_⟩
  · intro n hn hn2
    simp only [Option.toList_some, List.mem_append, List.mem_singleton] at hn
    rcases hn with hn | rfl
    · exact h.1 n hn hn2
    · exact absurd hn2 hq
  · rcases h.2 with h1 | h1
    · exact .inl h1
    · exact .inr ⟨List.mem_append_left _ h1.1, h1.2⟩
theorem LastIn.hit {p q : List Int} {k : Nat} {z last : Int} (_h : LastIn (p.take k) q last) (hs : p.Pairwise (· < ·)) (hz : p[k]? = some z) (hq : z ∈ q) : LastIn (p.take (k + 1)) q z := by
  have hso := sorted_take hs hz
  obtain ⟨hk, rfl⟩ := List.getElem?_eq_some_iff.1 hz
  rw [List.take_add_one, List.getElem?_eq_getElem hk]
  refine ⟨?_, .inr ⟨List.mem_append_right _ (by simp), hq⟩⟩
  intro n hn _
  simp only [Option.toList_some, List.mem_append, List.mem_singleton] at hn
  rcases hn with hn | rfl
  · exact hso n hn
  · exact Int.le_refl _
theorem LastIn.meet {t : List Nd} {a b last : Int} (h1 : isN t a = true) (h2 : isN t b = true) (h : LastIn (pathN t a) (pathN t b) last) : last = meetN t a b := by
  have ha := (isN_iff.1 h1).1
  have hb := (isN_iff.1 h2).1
  rw [pathN_in h1, pathN_in h2] at h
  have h0 := h.1 0 (Tl.root_mem (isN_grows h1) a ha.1 ha.2) (Tl.root_mem (isN_grows h1) b hb.1 hb.2)
  rcases h.2 with h3 | h3
  · omega
  · exact (meetN_eq h1 h2 h3.1 h3.2 h.1).symm

set_option maxHeartbeats 1000000 in
set_option maxRecDepth 100000 in
theorem law_FnMeetingPath (A : Option Addr) (n c : Nat) (w : World) (h : Code8 w A n c) : Calls Try.prog 9 #[.slice A n c] w (PBool w true) := by
  have hle : (n : Int) ≤ 1048576 := by have := h.le; omega
  go_enter Try.func9, Try.ntmps9
  go_wp2_with fail
  refine (drawMeeting_any A n c _ h).mono ?_
  rintro e w1 ⟨t, A1, c1, a, i, rfl, ht1, ha, hi, hb1⟩
  clear h
  go_wp2_with fail
  refine (meeting_any A1 c1 t a i _ ht1.len4 ht1.cap ht1.short ht1.rd).mono ?_
  rintro e w2 ⟨rfl, hb2⟩
  have ht2 := ht1.step hb2
  have hb2 := below_then hb1 hb2 hb1.size
  clear ht1 hb1
  go_wp2_with fail
  refine (smeeting_any A1 c1 t a i _ ht2.len4 ht2.cap ht2.short ht2.rd).mono ?_
  rintro e w3 ⟨rfl, hb3⟩
  have ht3 := ht2.step hb3
  have hb3 := below_then hb2 hb3 hb2.size
  have hlen := ht3.len
  clear ht2 hb2
  by_cases hin : isN t a = true ∧ isN t i = true
  · have HA := Lib.hid hin.1
    have HI := Lib.hid hin.2
    have hp0 := (meetN_pos HA.out HI.out).1
    have hsame : (meetN t a i != meetN t a i) = false := by simp
    have HS1 : Hid ((pathN t a).Pairwise (· < ·)) := by
      show _
      rw [pathN_in HA.out]
      exact Tl.path_sorted (isN_grows HA.out) a (isN_iff.1 HA.out).1.1
    have hl1 := pathN_len t a
    have hl2 := pathN_len t i
    clear hin
    go_wp2_with fail
    refine (pathTo_any A1 c1 t a _ ht3.len4 ht3.cap ht3.short ht3.rd).mono ?_
    rintro e w4 ⟨A4, c4, rfl, ho4, hb4⟩
    have ht4 := ht3.step hb4
    have hx4 := Rd.of_own ho4
    have hb4 := below_then hb3 hb4 hb3.size
    clear ht3 hb3 ho4
    go_wp2_with fail
    refine (pathTo_any A1 c1 t i _ ht4.len4 ht4.cap ht4.short ht4.rd).mono ?_
    rintro e w5 ⟨A5, c5, rfl, ho5, hb5⟩
    have hx5 := hx4.step hb5
    have hy5 := Rd.of_own ho5
    have hb5 := below_then hb4 hb5 hb4.size
    clear ht4 hb4 ho5 hx4
    go_wp2
    go_loopg [9, 10] (pathN t a).length (fun gk lv iv wr => ∃ (k : Nat) (last : Int), gk = (pathN t a).length - k ∧ k ≤ (pathN t a).length ∧ lv = .int .i64 last ∧ iv = .int .i64 k ∧ Hid (LastIn ((pathN t a).take k) (pathN t i) last) ∧ w5 = wr)
    case atStart => exact ⟨0, -1, rfl, by omega, rfl, rfl, (show LastIn _ _ _ from ⟨by simp, .inl rfl⟩), rfl⟩
    case round =>
      obtain ⟨k, last, rfl, hkl, rfl, rfl, HL, rfl⟩ := hrel
      by_cases hlt : k < (pathN t a).length
      · obtain ⟨b, off, z, rfl, hbl, hz, hcz⟩ := hx5.int hlt
        have HZ := Lib.hid hz
        clear hz
        go_wp2_with fail
        refine (lisIn_any A5 c5 (pathN t i) z _ (by omega) hy5).mono ?_
        rintro e w6 ⟨rfl, rfl⟩
        by_cases hzi : z ∈ pathN t i
        · have HL2 := Lib.hid (HL.out.hit HS1.out HZ.out hzi)
          rw [decide_eq_true hzi]
          clear hzi
          go_wp2
          go_roundg ((pathN t a).length - (k + 1))
          case measure => omega
          case rel => exact ⟨k + 1, z, rfl, by omega, rfl, by go_num, HL2, rfl⟩
        · have HL2 := Lib.hid (HL.out.skip HZ.out hzi)
          rw [decide_eq_false hzi]
          clear hzi
          go_wp2
          go_roundg ((pathN t a).length - (k + 1))
          case measure => omega
          case rel => exact ⟨k + 1, last, rfl, by omega, rfl, by go_num, HL2, rfl⟩
      · have hle2 : last = meetN t a i := by
          have h5 := HL.out
          rw [List.take_of_length_le (by omega)] at h5
          exact h5.meet HA.out HI.out
        subst hle2
        have hsm : (meetN t a i == meetN t a i) = true := by simp
        go_wp2
        go_ret
        exact ⟨rfl, hb5⟩
  · have HE := Lib.hid (meetN_neg hin)
    clear hin
    rw [HE.out]
    go_wp2_with fail
    refine (smeeting_any A1 c1 t a i _ ht3.len4 ht3.cap ht3.short ht3.rd).mono ?_
    rintro e w5 ⟨rfl, hb5⟩
    have hb5 := below_then hb3 hb5 hb3.size
    rw [HE.out]
    go_wp2
    go_ret
    exact ⟨rfl, hb5⟩
end Go.Proofs.Ytgofokifcplmoaa
