/- Contract: impl.SerialOrder. -/
import Derived.Test.YtfhofincbekadaaSerC
import Derived.BigQuiet
namespace Go.Proofs.Ytfhofincbekadaa
open Go.RowKit
open Tl (Ac okA validA validA_iff clash must takes clashes T4 mem_T4 free free_iff serial serialGo serialOk allDone allDone_iff must_takes)

/-- Those that take part and are not done. -/
def leftOf (xs : List Ac) (done : List Int) (t : Int) : Bool := takes xs t && !decide (t ∈ done)
theorem leftOf_nil (xs : List Ac) (t : Int) : leftOf xs [] t = takes xs t := by simp [leftOf]
theorem leftOf_snoc (xs : List Ac) (done : List Int) (u t : Int) : leftOf xs (done ++ [u]) t = (!decide (t = u) && leftOf xs done t) := by
  unfold leftOf
  by_cases h : t = u <;> by_cases h2 : t ∈ done <;> simp [h, h2]
/-- Is another one ahead of t left? -/
def ahead (xs : List Ac) (done : List Int) (t : Int) : Bool := T4.any fun a => leftOf xs done a && must xs a t
theorem free_left (xs : List Ac) (done : List Int) (t : Int) : free xs done t = (leftOf xs done t && !ahead xs done t) := by
  rw [Bool.eq_iff_iff, free_iff]
  simp only [leftOf, ahead, Bool.and_eq_true, Bool.not_eq_true', decide_eq_false_iff_not, List.any_eq_false, not_and, Bool.not_eq_true, and_assoc]
  constructor
  · rintro ⟨h1, h2, h3⟩
    refine ⟨h1, h2, fun a ha h4 h5 => ?_⟩
    rcases h3 a ha with h | h
    · exact absurd h h5
    · exact h
  · rintro ⟨h1, h2, h3⟩
    refine ⟨h1, h2, fun a ha => ?_⟩
    by_cases hd : a ∈ done
    · exact .inl hd
    · cases hm : must xs a t
      · exact .inr rfl
      · exact absurd (h3 a ha (must_takes hm).1 hd) (by rw [hm]; simp)
def nextI : Option Int → Int
  | none => -1
  | some t => t
def nextAt (xs : List Ac) (done : List Int) (k : Nat) : Int := nextI ((T4.drop k).find? (free xs done))
theorem T4_drop {k : Nat} (hk : k < 4) : T4.drop k = (k : Int) :: T4.drop (k + 1) := by
  have hkk : k = 0 ∨ k = 1 ∨ k = 2 ∨ k = 3 := by omega
  rcases hkk with rfl | rfl | rfl | rfl <;> rfl
theorem nextAt_hit {xs : List Ac} {done : List Int} {k : Nat} (hk : k < 4) (h : free xs done k = true) : nextAt xs done k = k := by
  unfold nextAt; rw [T4_drop hk, List.find?_cons, h]; rfl
theorem nextAt_skip {xs : List Ac} {done : List Int} {k : Nat} (hk : k < 4) (h : free xs done k = false) : nextAt xs done k = nextAt xs done (k + 1) := by
  unfold nextAt; rw [T4_drop hk, List.find?_cons, h]
theorem nextAt_end (xs : List Ac) (done : List Int) : nextAt xs done 4 = -1 := rfl
theorem nextAt_all {xs : List Ac} {done : List Int} : nextAt xs done 0 = nextI (T4.find? (free xs done)) := rfl

/-- Where the search for an order stands. -/
def SerAt (xs : List Ac) (done : List Int) (n : Nat) : Prop := Tl.Good xs done ∧ serialGo xs n done = serial xs ∧ 4 ≤ n + done.length
theorem SerAt.start (xs : List Ac) : SerAt xs [] 4 := ⟨Tl.good_nil xs, rfl, by simp⟩
theorem SerAt.ends {xs : List Ac} {done : List Int} {n : Nat} (h : SerAt xs done n) (hf : T4.find? (free xs done) = none) : serial xs = done := by
  rw [← h.2.1]
  cases n with
  | zero => rfl
  | succ n => unfold serialGo; rw [hf]
theorem SerAt.next {xs : List Ac} (hok : ∀ x ∈ xs, okA x) {done : List Int} {n : Nat} (h : SerAt xs done n) {t : Int} (hf : T4.find? (free xs done) = some t) : ∃ m, n = m + 1 ∧ SerAt xs (done ++ [t]) m ∧ done.length < 4 ∧ 0 ≤ t ∧ t ≤ 3 := by
  have hg := Tl.good_step hok h.1 (List.find?_some hf)
  have hl := Tl.good_length hok hg
  have ht := mem_T4.1 (List.mem_of_find?_eq_some hf)
  simp at hl
  have h3 := h.2.2
  cases n with
  | zero => omega
  | succ n =>
    refine ⟨n, rfl, ⟨hg, ?_, by simp; omega⟩, by omega, ht⟩
    have h2 := h.2.1
    unfold serialGo at h2
    rw [hf] at h2
    exact h2
/-- Nobody is left. -/
theorem SerAt.over {xs : List Ac} (hok : ∀ x ∈ xs, okA x) {done : List Int} {n : Nat} (h : SerAt xs done n) (hz : maskI (leftOf xs done) = 0) : serial xs = done ∧ serialOk xs = true := by
  have hz' : (maskI (leftOf xs done) != 0) = false := by rw [hz]; rfl
  rw [maskI_zero] at hz'
  simp only [Bool.or_eq_false_iff] at hz'
  have hall : ∀ t, takes xs t = true → t ∈ done := by
    intro t ht
    have h4 := mem_T4.1 (Tl.takes_T4 hok ht)
    have hl : leftOf xs done t = false := by
      have : t = 0 ∨ t = 1 ∨ t = 2 ∨ t = 3 := by omega
      rcases this with rfl | rfl | rfl | rfl
      · exact hz'.1
      · exact hz'.2.1
      · exact hz'.2.2.1
      · exact hz'.2.2.2
    simpa [leftOf, ht] using hl
  have hs : serial xs = done := h.ends (by
    rw [List.find?_eq_none]
    intro t _ hf
    exact (free_iff.1 hf).2.1 (hall t (free_iff.1 hf).1))
  exact ⟨hs, by unfold serialOk; rw [hs]; exact (allDone_iff hok).2 hall⟩
/-- Somebody is left, and none may come next. -/
theorem SerAt.stuck {xs : List Ac} (hok : ∀ x ∈ xs, okA x) {done : List Int} {n : Nat} (h : SerAt xs done n) (hz : maskI (leftOf xs done) ≠ 0) (hf : T4.find? (free xs done) = none) : serialOk xs = false := by
  have hs := h.ends hf
  cases hc : serialOk xs with
  | false => rfl
  | true =>
    exfalso
    apply hz
    unfold serialOk at hc
    rw [hs] at hc
    have hall := (allDone_iff hok).1 hc
    rw [show maskI (leftOf xs done) = maskI (fun _ => false) from maskI_congr fun t _ _ => by
      unfold leftOf
      cases ht : takes xs t
      · rfl
      · simp [hall t ht]]
    rfl

def sres (xs : List Ac) : List Int := if validA xs && serialOk xs then serial xs else []
theorem sres_len (xs : List Ac) : (sres xs).length ≤ 4 := by
  unfold sres
  split
  · rename_i h
    simp at h
    exact Tl.good_length (validA_iff.1 h.1).2 (Tl.serial_good (validA_iff.1 h.1).2)
  · simp
def PSer (w : World) (xs : List Ac) (e : Ending) (w' : World) : Prop :=
  ∃ A c, e = .returned (.tuple #[.slice A (sres xs).length c, .bool (validA xs && serialOk xs)]) ∧ w'.ownsRow w.heap.size 3 1 (.slice A (sres xs).length c) (sres xs).length (ints (sres xs)) ∧ Below w.heap.size w w'

theorem takes_snoc {xs : List Ac} {k : Nat} {x : Ac} (hx : xs[k]? = some x) (u : Int) : takes (xs.take (k + 1)) u = (decide (u = x.who) || takes (xs.take k) u) := by
  rw [take_succ_of hx]
  unfold takes
  rw [List.any_append]
  simp [Bool.or_comm, eq_comm]
end Go.Proofs.Ytfhofincbekadaa
