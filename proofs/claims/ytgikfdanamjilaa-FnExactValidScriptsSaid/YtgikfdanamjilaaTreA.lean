/- Contracts on names: impl.isName, spec.validName. -/
import Derived.Test.YtgikfdanamjilaaNds2
import Derived.Test.YtgikfdanamjilaaLeaf
import Derived.Test.YtgikfdanamjilaaPTree2
namespace Go.Proofs.Ytgikfdanamjilaa
open Go.RowKit
open Tl (Nd nameOk)

def okCh (c : UInt8) : Bool := decide (97 ≤ c.toNat ∧ c.toNat ≤ 122)
theorem size_toList (s : ByteArray) : s.data.toList.length = s.size := Array.length_toList
theorem get_toList (s : ByteArray) (k : Nat) (h : k < s.size) : s.data.toList[k]? = some (s[k]'h) := by
  rw [List.getElem?_eq_getElem (by rw [size_toList]; exact h)]; rfl
theorem name_short {s : List UInt8} (h : ¬ (1 ≤ s.length ∧ s.length ≤ 4)) : nameOk s = false := by simp [nameOk, h]
theorem name_bad {s : List UInt8} {k : Nat} {c : UInt8} (h : s[k]? = some c) (hc : okCh c = false) : nameOk s = false := by
  rw [Bool.eq_false_iff]
  intro hn
  simp only [nameOk, Bool.and_eq_true, List.all_eq_true] at hn
  have := hn.2 c (List.mem_of_getElem? h)
  have h2 : okCh c = true := this
  rw [hc] at h2; cases h2
theorem name_good {s : List UInt8} (h : 1 ≤ s.length ∧ s.length ≤ 4) (hc : ∀ c ∈ s, okCh c = true) : nameOk s = true := by
  simp only [nameOk, Bool.and_eq_true, List.all_eq_true]
  exact ⟨by simpa using h, hc⟩

theorem all_take_suc {α : Type} {p : α → Prop} {l : List α} {k : Nat} {x : α} (hx : l[k]? = some x) (h : ∀ y ∈ l.take k, p y) (hp : p x) : ∀ y ∈ l.take (k + 1), p y := by
  rw [take_succ_of hx]
  intro y hy
  rcases List.mem_append.1 hy with hy | hy
  · exact h y hy
  · simp at hy; subst hy; exact hp

theorem wrap_byte (c : UInt8) : wrap64 (c.toNat : Int) = (c.toNat : Int) := by
  have := c.toNat_lt
  unfold wrap64
  omega

theorem isName_any (s : ByteArray) (w : World) (hs : s.size ≤ 2000000) : Calls Try.prog 31 #[.string s] w fun e w' => e = .returned (.bool (nameOk s.data.toList)) ∧ w = w' := by
  have hsz := size_toList s
  by_cases hl : 1 ≤ s.size ∧ s.size ≤ 4
  · go_enter Try.func31, Try.ntmps31
    go_wp2_with fail
    refine (within_any _ _ _ _).mono ?_
    rintro e w1 ⟨rfl, rfl⟩
    have hd : decide ((1 : Int) ≤ (s.size : Int) ∧ (s.size : Int) ≤ 4) = true := by simp; omega
    rw [hd]
    go_wp2
    go_loopg [10] s.size (fun gk i wr => ∃ k : Nat, k ≤ s.size ∧ gk = s.size - k ∧ i = .int .i64 k ∧ Hid (∀ c ∈ s.data.toList.take k, okCh c = true) ∧ w = wr)
    case atStart => exact ⟨0, Nat.zero_le _, rfl, rfl, (show ∀ c ∈ s.data.toList.take 0, okCh c = true by simp), rfl⟩
    case round =>
      obtain ⟨k, hk, rfl, rfl, HM, rfl⟩ := hrel
      by_cases hlt : k < s.size
      · have hg := Lib.hid (get_toList s k hlt)
        go_wp2
        · go_ret
          have h2 : (97 : Int) ≤ ((s[k]'hlt).toNat : Int) := by assumption
          have h3 : ((s[k]'hlt).toNat : Int) < 97 ∨ (122 : Int) < ((s[k]'hlt).toNat : Int) := by assumption
          exact ⟨ret_bool (name_bad hg.out (by simp [okCh]; omega)).symm, rfl⟩
        · have h2 : (97 : Int) ≤ ((s[k]'hlt).toNat : Int) := by assumption
          have h3 : (97 : Int) ≤ ((s[k]'hlt).toNat : Int) ∧ ((s[k]'hlt).toNat : Int) ≤ 122 := by assumption
          go_roundg (s.size - (k + 1))
          case measure => omega
          case rel => exact ⟨k + 1, by omega, rfl, by go_num, all_take_suc (p := fun c => okCh c = true) hg.out HM.out (by simp [okCh]; omega), rfl⟩
        · go_ret
          have h3 : ((s[k]'hlt).toNat : Int) < 97 := by assumption
          exact ⟨ret_bool (name_bad hg.out (by simp [okCh]; omega)).symm, rfl⟩
      · go_wp2
        go_ret
        refine ⟨ret_bool ?_, rfl⟩
        have hm := HM.out
        rw [take_all (by rw [hsz]; exact hlt)] at hm
        exact (name_good (by rw [hsz]; exact hl) hm).symm
  · go_enter Try.func31, Try.ntmps31
    go_wp2_with fail
    refine (within_any _ _ _ _).mono ?_
    rintro e w1 ⟨rfl, rfl⟩
    have hd : decide ((1 : Int) ≤ (s.size : Int) ∧ (s.size : Int) ≤ 4) = false := by simp; omega
    rw [hd]
    go_wp2
    go_ret
    exact ⟨ret_bool (name_short (by rw [hsz]; exact hl)).symm, rfl⟩

theorem validName_any (s : ByteArray) (w : World) (hs : s.size ≤ 2000000) : Calls Try.prog 40 #[.string s] w fun e w' => e = .returned (.bool (nameOk s.data.toList)) ∧ w = w' := by
  have hsz := size_toList s
  go_enter Try.func40, Try.ntmps40
  go_wp2
  go_loopg [3] s.size (fun gk i wr => ∃ k : Nat, k ≤ s.size ∧ gk = s.size - k ∧ i = .int .i64 k ∧ Hid (∀ c ∈ s.data.toList.take k, okCh c = true) ∧ w = wr)
  case atStart => exact ⟨0, Nat.zero_le _, rfl, rfl, (show ∀ c ∈ s.data.toList.take 0, okCh c = true by simp), rfl⟩
  case round =>
    obtain ⟨k, hk, rfl, rfl, HM, rfl⟩ := hrel
    by_cases hlt : k < s.size
    · have hg := Lib.hid (get_toList s k hlt)
      have hwr : wrap64 ((s[k]'hlt).toNat : Int) = ((s[k]'hlt).toNat : Int) := wrap_byte _
      go_wp2_with fail
      rw [hwr]
      refine (inRange_any _ _ _ _).mono ?_
      rintro e w1 ⟨rfl, rfl⟩
      by_cases hd : (97 : Int) ≤ ((s[k]'hlt).toNat : Int) ∧ ((s[k]'hlt).toNat : Int) ≤ 122
      · have HD : Hid (okCh (s[k]'hlt) = true) := by show _ = _; simp [okCh]; omega
        rw [decide_eq_true hd]
        clear hd
        go_wp2
        go_roundg (s.size - (k + 1))
        case measure => omega
        case rel => exact ⟨k + 1, by omega, rfl, by go_num, all_take_suc (p := fun c => okCh c = true) hg.out HM.out HD.out, rfl⟩
      · have HD : Hid (okCh (s[k]'hlt) = false) := by show _ = _; simp [okCh]; omega
        rw [decide_eq_false hd]
        clear hd
        go_wp2
        go_ret
        exact ⟨ret_bool (name_bad hg.out HD.out).symm, rfl⟩
    · go_wp2_with fail
      refine (inRange_any _ _ _ _).mono ?_
      rintro e w1 ⟨rfl, rfl⟩
      have hm := HM.out
      rw [take_all (by rw [hsz]; exact hlt)] at hm
      have HE : Hid (decide ((1 : Int) ≤ (s.size : Int) ∧ (s.size : Int) ≤ 4) = nameOk s.data.toList) := by
        show _ = _
        by_cases hl : 1 ≤ s.size ∧ s.size ≤ 4
        · rw [name_good (by rw [hsz]; exact hl) hm]; simp; omega
        · rw [name_short (by rw [hsz]; exact hl)]; simp; omega
      clear hm
      rw [HE.out]
      go_wp2
      go_ret
      exact ⟨rfl, rfl⟩

/-- All names are short. -/
def Short (t : List Nd) : Prop := ∀ n ∈ t, n.name.length ≤ 2000000
theorem Short.get {t : List Nd} (h : Short t) {k : Nat} {n : Nd} (hn : t[k]? = some n) : n.name.length ≤ 2000000 := h n (List.mem_of_getElem? hn)
theorem Short.take {t : List Nd} (h : Short t) (k : Nat) : Short (t.take k) := fun n hn => h n (List.mem_of_mem_take hn)
theorem isName_at (s : List UInt8) (w : World) (hs : s.length ≤ 2000000) : Calls Try.prog 31 #[.string ⟨s.toArray⟩] w fun e w' => e = .returned (.bool (nameOk s)) ∧ w = w' := by
  have h := isName_any ⟨s.toArray⟩ w (by simpa [ByteArray.size] using hs)
  simpa using h
theorem validName_at (s : List UInt8) (w : World) (hs : s.length ≤ 2000000) : Calls Try.prog 40 #[.string ⟨s.toArray⟩] w fun e w' => e = .returned (.bool (nameOk s)) ∧ w = w' := by
  have h := validName_any ⟨s.toArray⟩ w (by simpa [ByteArray.size] using hs)
  simpa using h
end Go.Proofs.Ytgikfdanamjilaa
