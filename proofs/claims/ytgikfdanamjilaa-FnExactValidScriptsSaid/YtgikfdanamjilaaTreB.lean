/- Contracts on kids: impl.kidIn, spec.kid. -/
import Derived.Test.YtgikfdanamjilaaTreA
namespace Go.Proofs.Ytgikfdanamjilaa
open Go.RowKit
open Tl (Nd nameOk kid kidFrom)

/-- Has a node this parent and name? -/
def isKid (p : Int) (s : List UInt8) (n : Nd) : Bool := decide (n.parent = p ∧ n.name = s)
theorem isKid_iff {p : Int} {s : List UInt8} {n : Nd} : isKid p s n = true ↔ n.parent = p ∧ n.name = s := by simp [isKid]
theorem isKid_not {p : Int} {s : List UInt8} {n : Nd} : isKid p s n = false ↔ ¬ (n.parent = p ∧ n.name = s) := by
  rw [Bool.eq_false_iff, ne_eq, isKid_iff]
theorem kid_hit {t : List Nd} {p : Int} {s : List UInt8} {k : Nat} {n : Nd} (hn : t[k]? = some n) (h : isKid p s n = true) (hm : ∀ m ∈ t.take k, isKid p s m = false) : kid t p s = k := by
  have h' := isKid_iff.1 h
  rcases Tl.kid_cases t p s with ⟨_, h2⟩ | ⟨j, m, h1, h2, h3, h4, h5⟩
  · exact absurd h' (h2 n (List.mem_of_getElem? hn))
  · rw [h1]
    rcases Nat.lt_trichotomy j k with h6 | h6 | h6
    · have := hm m (List.mem_iff_getElem?.2 ⟨j, by rw [List.getElem?_take, if_pos h6]; exact h2⟩)
      exact absurd ⟨h3, h4⟩ (isKid_not.1 this)
    · omega
    · exact absurd h' (h5 k n h6 hn)
theorem kid_miss {t : List Nd} {p : Int} {s : List UInt8} (hm : ∀ m ∈ t, isKid p s m = false) : kid t p s = -1 :=
  Tl.kid_none_iff.2 fun n hn => isKid_not.1 (hm n hn)

theorem kidIn_any (A : Option Addr) (c : Nat) (t : List Nd) (p : Int) (s : List UInt8) (w : World) (hn : t.length ≤ 2000000) (hr : Rd w w.heap.size 3 A t.length (nds t)) :
    Calls Try.prog 32 #[.slice A t.length c, .int .i64 p, .string ⟨s.toArray⟩] w fun e w' => e = .returned (.int .i64 (kid t p s)) ∧ Below w.heap.size w w' := by
  go_enter Try.func32, Try.ntmps32
  go_wp2
  go_loopg [11] t.length (fun gk i wr => ∃ k : Nat, k ≤ t.length ∧ gk = t.length - k ∧ i = .int .i64 k ∧ Hid (∀ m ∈ t.take k, isKid p s m = false) ∧ Below w.heap.size w wr)
  case atStart => exact ⟨0, Nat.zero_le _, rfl, rfl, (show ∀ m ∈ t.take 0, isKid p s m = false by simp), Below.refl _ _⟩
  case round =>
    obtain ⟨k, hk, rfl, rfl, HM, hb⟩ := hrel
    by_cases hlt : k < t.length
    · obtain ⟨b, off, x, rfl, hbl, hx, hc1, hc2, hc3⟩ := (hr.below hb).nd hlt
      have HX := Lib.hid hx
      have hb2 := hb.alloc hb.size (.cells #[.int .i64 x.parent, .string ⟨x.name.toArray⟩, .int .i64 x.value] 52)
      clear hr hx
      by_cases h1 : x.parent = p
      · have h1' : (x.parent == p) = true := by simp [h1]
        by_cases h2 : x.name = s
        · have h2' : (x.name == s) = true := by simp [h2]
          have HH := Lib.hid (kid_hit HX.out (isKid_iff.2 ⟨h1, h2⟩) HM.out)
          clear h1 h2
          go_wp2
          go_ret
          exact ⟨ret_int HH.out.symm, hb2⟩
        · have h2' : (x.name == s) = false := by simp [h2]
          have HA : Hid (isKid p s x = false) := isKid_not.2 (fun h => h2 h.2)
          clear h1 h2
          go_wp2
          go_roundg (t.length - (k + 1))
          case measure => omega
          case rel => exact ⟨k + 1, by omega, rfl, by go_num, all_take_suc (p := fun m => isKid p s m = false) HX.out HM.out HA.out, hb2⟩
      · have h1' : (x.parent == p) = false := by simp [h1]
        have HA : Hid (isKid p s x = false) := isKid_not.2 (fun h => h1 h.1)
        clear h1
        go_wp2
        go_roundg (t.length - (k + 1))
        case measure => omega
        case rel => exact ⟨k + 1, by omega, rfl, by go_num, all_take_suc (p := fun m => isKid p s m = false) HX.out HM.out HA.out, hb2⟩
    · have HH := Lib.hid (kid_miss (t := t) (p := p) (s := s) (by have := HM.out; rw [take_all hlt] at this; exact this))
      go_wp2
      go_ret
      exact ⟨ret_int HH.out.symm, hb⟩

/-- The reference's kid, which leaves node 0 out. -/
theorem kid_of_tail {t : List Nd} {p : Int} {s : List UInt8} (h0 : ∀ n, t[0]? = some n → isKid p s n = false) {k : Nat} (hm : ∀ j m, 1 ≤ j → j < k → t[j]? = some m → isKid p s m = false) : ∀ m ∈ t.take k, isKid p s m = false := by
  intro m hm2
  obtain ⟨j, hj⟩ := List.mem_iff_getElem?.1 hm2
  rw [List.getElem?_take] at hj
  split at hj
  · rename_i hjk
    by_cases hj0 : j = 0
    · subst hj0; exact h0 m hj
    · exact hm j m (by omega) hjk hj
  · cases hj

theorem skid_any (A : Option Addr) (c : Nat) (t : List Nd) (p : Int) (s : List UInt8) (w : World) {B : Nat} (hn : t.length ≤ 2000000) (h0 : ∀ n, t[0]? = some n → isKid p s n = false) (hr : Rd w B 3 A t.length (nds t)) :
    Calls Try.prog 41 #[.slice A t.length c, .int .i64 p, .string ⟨s.toArray⟩] w fun e w' => e = .returned (.int .i64 (kid t p s)) ∧ w = w' := by
  have H0 := Lib.hid h0
  clear h0
  go_enter Try.func41, Try.ntmps41
  go_wp2
  go_loopg [7] (t.length - 1) (fun gk i wr => ∃ k : Nat, 1 ≤ k ∧ gk = t.length - k ∧ i = .int .i64 k ∧ Hid (∀ j m, 1 ≤ j → j < k → t[j]? = some m → isKid p s m = false) ∧ w = wr)
  case atStart => exact ⟨1, by omega, rfl, rfl, (show ∀ j m, 1 ≤ j → j < 1 → t[j]? = some m → isKid p s m = false by intro j m h1 h2; omega), rfl⟩
  case round =>
    obtain ⟨k, hk, rfl, rfl, HM, rfl⟩ := hrel
    by_cases hlt : k < t.length
    · obtain ⟨b, off, x, rfl, hbl, hx, hc1, hc2, hc3⟩ := hr.nd hlt
      have HX := Lib.hid hx
      clear hr hx
      have next : isKid p s x = false → ∀ j m, 1 ≤ j → j < k + 1 → t[j]? = some m → isKid p s m = false := by
        intro hf j m h1 h2 hj
        by_cases hjk : j = k
        · subst hjk
          obtain rfl := Option.some.inj (hj.symm.trans HX.out)
          exact hf
        · exact HM.out j m h1 (by omega) hj
      have NEXT := Lib.hid next
      clear next
      by_cases h1 : x.parent = p
      · have h1' : (x.parent == p) = true := by simp [h1]
        by_cases h2 : x.name = s
        · have h2' : (x.name == s) = true := by simp [h2]
          have HH := Lib.hid (kid_hit HX.out (isKid_iff.2 ⟨h1, h2⟩) (kid_of_tail H0.out HM.out))
          clear h1 h2
          go_wp2
          go_ret
          exact ⟨ret_int HH.out.symm, rfl⟩
        · have h2' : (x.name == s) = false := by simp [h2]
          have HA : Hid (isKid p s x = false) := isKid_not.2 (fun h => h2 h.2)
          clear h1 h2
          go_wp2
          go_roundg (t.length - (k + 1))
          case measure => omega
          case rel => exact ⟨k + 1, by omega, rfl, by go_num, NEXT.out HA.out, rfl⟩
      · have h1' : (x.parent == p) = false := by simp [h1]
        have HA : Hid (isKid p s x = false) := isKid_not.2 (fun h => h1 h.1)
        clear h1
        go_wp2
        go_roundg (t.length - (k + 1))
        case measure => omega
        case rel => exact ⟨k + 1, by omega, rfl, by go_num, NEXT.out HA.out, rfl⟩
    · have HH := Lib.hid (kid_miss (t := t) (p := p) (s := s) (by have := kid_of_tail H0.out HM.out; rw [take_all hlt] at this; exact this))
      go_wp2
      go_ret
      exact ⟨ret_int HH.out.symm, rfl⟩
end Go.Proofs.Ytgikfdanamjilaa
