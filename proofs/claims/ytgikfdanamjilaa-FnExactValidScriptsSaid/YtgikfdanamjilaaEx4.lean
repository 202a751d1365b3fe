/- The laws package's own types: sizes of rows; equality of equal rows. -/
import Derived.Test.YtgikfdanamjilaaEx3
import Derived.Test.YtgikfdanamjilaaExt
namespace Go.Proofs.Ytgikfdanamjilaa
open Go.RowKit
set_option maxRecDepth 100000
open Tl (Do Nd)

/-- What the sizes tell: nothing turned; within L if the answer is not negative. -/
def PSz (w : World) (L : Int) (p : Prop) (e : Ending) (w' : World) : Prop := ∃ r : Int, e = .returned (.int .i64 r) ∧ Below w.heap.size w w' ∧ r ≤ L ∧ (0 ≤ r → p)

theorem szNodeS_any (A : Option Addr) (c : Nat) (t : List Nd) (L : Int) (w : World) (h0 : 0 ≤ L) (h1 : L ≤ 1048576) (hn : t.length ≤ 9223372036854775807) (hS : ∀ x ∈ t, x.name.length ≤ 9223372036854775807)
    (hr : Rd w w.heap.size 3 A t.length (nds t)) :
    Calls Try.prog 8 #[.slice A t.length c, .int .i64 L] w (PSz w L (t.length ≤ 1048576 ∧ ∀ x ∈ t, x.name.length ≤ 1048576)) := by
  have HS := Lib.hid hS
  clear hS
  by_cases hlt : L - (t.length : Int) < 0
  · go_enter Try.func8, Try.ntmps8
    go_wp2
    go_ret
    exact ⟨-1, rfl, Below.refl _ _, by omega, by omega⟩
  · go_enter Try.func8, Try.ntmps8
    go_wp2
    go_loopg [1, 5] t.length (fun gk v i wr => ∃ (k : Nat) (l : Int), k ≤ t.length ∧ gk = t.length - k ∧ v = .int .i64 l ∧ i = .int .i64 k ∧ 0 ≤ l ∧ l ≤ L ∧ Hid (∀ x ∈ t.take k, x.name.length ≤ 1048576) ∧ Below w.heap.size w wr)
    case atStart => exact ⟨0, L - (t.length : Int), Nat.zero_le _, rfl, rfl, rfl, by omega, by omega, (show ∀ x ∈ t.take 0, _ by simp), Below.refl _ _⟩
    case round =>
      obtain ⟨k, l, hk, rfl, rfl, rfl, hl0, hl1, HT, hb⟩ := hrel
      by_cases hlk : k < t.length
      · obtain ⟨b, off, x, rfl, hbl, hx, hc1, hc2, hc3⟩ := (hr.below hb).nd hlk
        have HX := Lib.hid hx
        clear hx hr
        go_wp2_with fail
        refine (szNode_any _ _ _ _ _ hl0 (by omega) (by have := HS.out x (List.mem_of_getElem? HX.out); simpa [ByteArray.size] using this)).mono ?_
        rintro e w2 ⟨r, rfl, hb2, hr1, hr2⟩
        have hb3 := below_then hb hb2 hb.size
        by_cases hneg : r < 0
        · clear hr2
          go_wp2
          go_ret
          exact ⟨-1, rfl, hb3, by omega, by omega⟩
        · have hsz : x.name.length ≤ 1048576 := by
            have := hr2 (by omega)
            simp [ByteArray.size] at this
            omega
          have HT2 : Hid (∀ x ∈ t.take (k + 1), x.name.length ≤ 1048576) := all_succ_sc (p := fun x : Nd => x.name.length ≤ 1048576) HX.out HT.out hsz
          clear hr2 hsz
          go_wp2
          go_roundg (t.length - (k + 1))
          case measure => omega
          case rel => exact ⟨k + 1, r, by omega, rfl, rfl, by go_num, by omega, by omega, HT2, hb3⟩
      · have HE : Hid (t.length ≤ 1048576 ∧ ∀ x ∈ t, x.name.length ≤ 1048576) := by
          refine ⟨by omega, ?_⟩
          have h := HT.out
          rw [List.take_of_length_le (by omega)] at h
          exact h
        go_wp2
        go_ret
        exact ⟨l, rfl, hb, hl1, fun _ => HE.out⟩

theorem szDoSS_any (A : Option Addr) (c : Nat) (ss : List (List Do)) (L : Int) (w : World) (h0 : 0 ≤ L) (h1 : L ≤ 1048576) (hn : ss.length ≤ 9223372036854775807) (hS : ∀ p ∈ ss, p.length ≤ 9223372036854775807)
    (hr : RdSS w w.heap.size A ss) :
    Calls Try.prog 9 #[.slice A ss.length c, .int .i64 L] w (PSz w L (ss.length ≤ 1048576 ∧ ∀ p ∈ ss, p.length ≤ 1048576)) := by
  have HS := Lib.hid hS
  clear hS
  by_cases hlt : L - (ss.length : Int) < 0
  · go_enter Try.func9, Try.ntmps9
    go_wp2
    go_ret
    exact ⟨-1, rfl, Below.refl _ _, by omega, by omega⟩
  · go_enter Try.func9, Try.ntmps9
    go_wp2
    go_loopg [1, 5] ss.length (fun gk v i wr => ∃ (k : Nat) (l : Int), k ≤ ss.length ∧ gk = ss.length - k ∧ v = .int .i64 l ∧ i = .int .i64 k ∧ 0 ≤ l ∧ l ≤ L ∧ Hid (∀ p ∈ ss.take k, p.length ≤ 1048576) ∧ Below w.heap.size w wr)
    case atStart => exact ⟨0, L - (ss.length : Int), Nat.zero_le _, rfl, rfl, rfl, by omega, by omega, (show ∀ p ∈ ss.take 0, _ by simp), Below.refl _ _⟩
    case round =>
      obtain ⟨k, l, hk, rfl, rfl, rfl, hl0, hl1, HT, hb⟩ := hrel
      by_cases hlk : k < ss.length
      · obtain ⟨b, off, p, A2, c2, rfl, hbl, hp, hc0, hrp⟩ := hr.at_ hlk
        have hc1 := (hb.cell (p := ⟨b, off + k, none⟩) hbl).trans hc0
        have HP := Lib.hid hp
        have hpl := HS.out p (List.mem_of_getElem? hp)
        clear hp hr hc0 hrp
        go_wp2_with fail
        refine (szDoS_any A2 p.length c2 _ _ hl0 (by omega) hpl).mono ?_
        rintro e w2 ⟨r, rfl, hb2, hr1, hr2⟩
        have hb3 := below_then hb hb2 hb.size
        by_cases hneg : r < 0
        · clear hr2
          go_wp2
          go_ret
          exact ⟨-1, rfl, hb3, by omega, by omega⟩
        · have hsz : p.length ≤ 1048576 := by
            have := hr2 (by omega)
            omega
          have HT2 : Hid (∀ p ∈ ss.take (k + 1), p.length ≤ 1048576) := all_succ_sc (p := fun p : List Do => p.length ≤ 1048576) HP.out HT.out hsz
          clear hr2 hsz
          go_wp2
          go_roundg (ss.length - (k + 1))
          case measure => omega
          case rel => exact ⟨k + 1, r, by omega, rfl, rfl, by go_num, by omega, by omega, HT2, hb3⟩
      · have HE : Hid (ss.length ≤ 1048576 ∧ ∀ p ∈ ss, p.length ≤ 1048576) := by
          refine ⟨by omega, ?_⟩
          have h := HT.out
          rw [List.take_of_length_le (by omega)] at h
          exact h
        go_wp2
        go_ret
        exact ⟨l, rfl, hb, hl1, fun _ => HE.out⟩
end Go.Proofs.Ytgikfdanamjilaa
