/- Contracts: isNode, KidOf, reaches / above, IsAbove, of both packages. -/
import Derived.Test.YtgofokifcplmoaaTreD
namespace Go.Proofs.Ytgofokifcplmoaa
open Go.RowKit
set_option maxRecDepth 100000
open Tl (Nd nameOk kid path validN validN_iff nodeOk nodesOk ValidN Grows above above_iff)

/-- Is there a node with this number? -/
def inT (t : List Nd) (i : Int) : Bool := decide (0 ≤ i ∧ i ≤ (t.length : Int) - 1)
theorem inT_iff {t : List Nd} {i : Int} : inT t i = true ↔ 0 ≤ i ∧ i < (t.length : Int) := by simp [inT]; omega
noncomputable def isN (t : List Nd) (i : Int) : Bool := inT t i && validN t
theorem isN_iff {t : List Nd} {i : Int} : isN t i = true ↔ (0 ≤ i ∧ i < (t.length : Int)) ∧ validN t = true := by simp [isN, inT_iff]
theorem isN_nat {t : List Nd} {i : Int} (h : isN t i = true) : ∃ k : Nat, i = k ∧ k < t.length := by
  have h1 := (isN_iff.1 h).1
  obtain ⟨k, rfl⟩ := Int.eq_ofNat_of_zero_le h1.1
  exact ⟨k, rfl, by omega⟩
theorem isN_grows {t : List Nd} {i : Int} (h : isN t i = true) : Grows t := (validN_iff.1 (isN_iff.1 h).2).grows

theorem isNode_any (A : Option Addr) (c : Nat) (t : List Nd) (i : Int) (w : World) (hn : t.length ≤ 100000) (hcap : t.length ≤ c) (hS : Short t) (hr : Rd w w.heap.size 3 A t.length (nds t)) :
    Calls Try.prog 48 #[.slice A t.length c, .int .i64 i] w (PBool w (isN t i)) := by
  go_enter Try.func48, Try.ntmps48
  go_wp2_with fail
  refine (within_any _ _ _ _).mono ?_
  rintro e w1 ⟨rfl, rfl⟩
  by_cases hi : 0 ≤ i ∧ i ≤ (t.length : Int) - 1
  · have HE : Hid (isN t i = validN t) := by show _ = _; simp [isN, inT, hi]
    rw [decide_eq_true hi]
    clear hi
    go_wp2_with fail
    refine (validTree_any A c t _ hn hcap hS hr).mono ?_
    rintro e w1 ⟨rfl, hb1⟩
    go_wp2
    go_ret
    exact ⟨ret_bool HE.out.symm, hb1⟩
  · have HE : Hid (isN t i = false) := by show _ = _; simp [isN, inT, hi]
    rw [decide_eq_false hi]
    clear hi
    go_wp2
    go_ret
    exact ⟨ret_bool HE.out.symm, Below.refl _ _⟩

def PIn (w : World) (r : Int) (e : Ending) (w' : World) : Prop := e = .returned (.int .i64 r) ∧ Below w.heap.size w w'
noncomputable def kidOf (t : List Nd) (i : Int) (s : List UInt8) : Int := if isN t i then kid t i s else -1
theorem root_no_kid {t : List Nd} {i : Int} {s : List UInt8} (h : isN t i = true) : ∀ n, t[0]? = some n → isKid i s n = false := by
  intro n hn
  rw [isKid_not]
  rintro ⟨h1, _⟩
  have hi := (isN_iff.1 h).1
  rcases isN_grows h 0 n hn with h2 | h2 <;> omega

theorem up_mem {t : List Nd} (hg : Grows t) {j : Nat} {n : Nd} (hn : t[j]? = some n) {a : Int} (h0 : 0 ≤ a) (ha : a < j) : 0 ≤ n.parent ∧ n.parent < j ∧ (a ∈ path t (j : Int) ↔ a ∈ path t n.parent) := by
  have hl := (List.getElem?_eq_some_iff.1 hn).1
  have hg' : Grows (t.take t.length) := by rw [List.take_length]; exact hg
  rcases up_cases hg' hl hn with ⟨h1, _⟩ | ⟨h1, h2, h3⟩
  · omega
  · refine ⟨h1, h2, ?_⟩
    rw [h3, List.mem_append, List.mem_singleton]
    constructor
    · rintro (h | h)
      · exact h
      · omega
    · exact .inl
theorem mem_stop {t : List Nd} (hg : Grows t) {j : Nat} {a : Int} (ha : ¬ a < j) : (a ∈ path t (j : Int)) ↔ (j : Int) = a := by
  constructor
  · intro h
    have := (Tl.mem_path_le hg (j : Int) (by omega) a h).2
    omega
  · rintro rfl
    exact Tl.self_mem_path hg (by omega)

theorem reaches_any (A : Option Addr) (c : Nat) (t : List Nd) (a : Int) (j : Nat) (w : World) {B : Nat} (_hn : t.length ≤ 100000) (hg : Grows t) (h0 : 0 ≤ a) (hj : j < t.length) (hr : Rd w B 3 A t.length (nds t)) :
    Calls Try.prog 49 #[.slice A t.length c, .int .i64 a, .int .i64 j] w fun e w' => e = .returned (.bool (above t a j)) ∧ w = w' := by
  have HG := Lib.hid hg
  clear hg
  go_enter Try.func49, Try.ntmps49
  go_wp2
  go_loopg [2] j (fun gk l wr => l = .int .i64 gk ∧ gk ≤ j ∧ Hid (a ∈ path t (j : Int) ↔ a ∈ path t (gk : Int)) ∧ w = wr)
  case atStart => exact ⟨rfl, Nat.le_refl _, Iff.rfl, rfl⟩
  case round =>
    obtain ⟨rfl, hgk, HM, rfl⟩ := hrel
    by_cases hlt : a < (gk : Int)
    · obtain ⟨b, off, x, rfl, hbl, hx, hc1, hc2, hc3⟩ := hr.nd (k := gk) (by omega)
      have hgl : gk < t.length := by omega
      obtain ⟨h1, h2, h3⟩ := up_mem HG.out hx h0 hlt
      obtain ⟨pn, hpn⟩ := Int.eq_ofNat_of_zero_le h1
      rw [hpn] at h2 h3 hc1
      have HM2 : Hid (a ∈ path t (j : Int) ↔ a ∈ path t (pn : Int)) := HM.out.trans h3
      clear hr hx h1 h3 hpn
      go_wp2
      go_roundg pn
      case measure => omega
      case rel => exact ⟨rfl, by omega, HM2, rfl⟩
    · have HE : Hid (((gk : Int) == a) = above t a j) := by
        show _ = _
        have h1 := HM.out.trans (mem_stop HG.out hlt)
        rw [Bool.eq_iff_iff, above_iff, h1]
        simp
      go_wp2
      go_ret
      exact ⟨ret_bool HE.out, rfl⟩
theorem sabove_any (A : Option Addr) (c : Nat) (t : List Nd) (a : Int) (j : Nat) (w : World) {B : Nat} (_hn : t.length ≤ 100000) (hg : Grows t) (h0 : 0 ≤ a) (hj : j < t.length) (hr : Rd w B 3 A t.length (nds t)) :
    Calls Try.prog 51 #[.slice A t.length c, .int .i64 a, .int .i64 j] w fun e w' => e = .returned (.bool (above t a j)) ∧ w = w' := by
  have HG := Lib.hid hg
  clear hg
  go_enter Try.func51, Try.ntmps51
  go_wp2
  go_loopg [2] j (fun gk l wr => l = .int .i64 gk ∧ gk ≤ j ∧ Hid (a ∈ path t (j : Int) ↔ a ∈ path t (gk : Int)) ∧ w = wr)
  case atStart => exact ⟨rfl, Nat.le_refl _, Iff.rfl, rfl⟩
  case round =>
    obtain ⟨rfl, hgk, HM, rfl⟩ := hrel
    by_cases hlt : a < (gk : Int)
    · obtain ⟨b, off, x, rfl, hbl, hx, hc1, hc2, hc3⟩ := hr.nd (k := gk) (by omega)
      have hgl : gk < t.length := by omega
      obtain ⟨h1, h2, h3⟩ := up_mem HG.out hx h0 hlt
      obtain ⟨pn, hpn⟩ := Int.eq_ofNat_of_zero_le h1
      rw [hpn] at h2 h3 hc1
      have HM2 : Hid (a ∈ path t (j : Int) ↔ a ∈ path t (pn : Int)) := HM.out.trans h3
      clear hr hx h1 h3 hpn
      go_wp2
      go_roundg pn
      case measure => omega
      case rel => exact ⟨rfl, by omega, HM2, rfl⟩
    · have HE : Hid (((gk : Int) == a) = above t a j) := by
        show _ = _
        have h1 := HM.out.trans (mem_stop HG.out hlt)
        rw [Bool.eq_iff_iff, above_iff, h1]
        simp
      go_wp2
      go_ret
      exact ⟨ret_bool HE.out, rfl⟩

noncomputable def aboveN (t : List Nd) (a i : Int) : Bool := isN t a && (isN t i && above t a i)
theorem isAbove_any (A : Option Addr) (c : Nat) (t : List Nd) (a i : Int) (w : World) (hn : t.length ≤ 100000) (hcap : t.length ≤ c) (hS : Short t) (hr : Rd w w.heap.size 3 A t.length (nds t)) :
    Calls Try.prog 21 #[.slice A t.length c, .int .i64 a, .int .i64 i] w (PBool w (aboveN t a i)) := by
  go_enter Try.func21, Try.ntmps21
  go_wp2_with fail
  refine (isNode_any A c t a _ hn hcap hS hr).mono ?_
  rintro e w1 ⟨rfl, hb1⟩
  have hr1 := hr.step hb1
  cases hv : isN t a
  · have HE : Hid (aboveN t a i = false) := by show _ = _; simp [aboveN, hv]
    clear hv
    go_wp2
    go_ret
    exact ⟨ret_bool HE.out.symm, hb1⟩
  · have HV := Lib.hid hv
    clear hv
    go_wp2_with fail
    refine (isNode_any A c t i _ hn hcap hS hr1).mono ?_
    rintro e w2 ⟨rfl, hb2⟩
    have hr2 := hr1.step hb2
    have hb3 := below_then hb1 hb2 hb1.size
    cases hv2 : isN t i
    · have HE : Hid (aboveN t a i = false) := by show _ = _; simp [aboveN, hv2]
      clear hv2
      go_wp2
      go_ret
      exact ⟨ret_bool HE.out.symm, hb3⟩
    · have HE : Hid (aboveN t a i = above t a i) := by show _ = _; simp [aboveN, hv2, HV.out]
      obtain ⟨j, rfl, hj⟩ := isN_nat hv2
      clear hv2
      go_wp2_with fail
      refine (reaches_any A c t a j _ hn (isN_grows HV.out) ((isN_iff.1 HV.out).1.1) hj hr2).mono ?_
      rintro e w3 ⟨rfl, rfl⟩
      go_wp2
      go_ret
      exact ⟨ret_bool HE.out.symm, hb3⟩
end Go.Proofs.Ytgofokifcplmoaa
