/- Contracts of the small functions that only read: within, inRange, isIn, equalInts, placeOf, slices.Index, slices.Contains. -/
import Derived.Test.YtgofokifcplmoaaBase
namespace Go.Proofs.Ytgofokifcplmoaa
open Go.RowKit

theorem within_any (x a b : Int) (w : World) : Calls Try.prog 44 #[.int .i64 x, .int .i64 a, .int .i64 b] w fun e w' => e = .returned (.bool (decide (a ≤ x ∧ x ≤ b))) ∧ w = w' := by
  go_enter Try.func44, Try.ntmps44
  go_wp2
  all_goals go_ret
  · exact ⟨by simp [*], rfl⟩
  · exact ⟨by simp; omega, rfl⟩
theorem inRange_any (x a b : Int) (w : World) : Calls Try.prog 50 #[.int .i64 x, .int .i64 a, .int .i64 b] w fun e w' => e = .returned (.bool (decide (a ≤ x ∧ x ≤ b))) ∧ w = w' := by
  go_enter Try.func50, Try.ntmps50
  go_wp2
  all_goals go_ret
  · exact ⟨by simp [*], rfl⟩
  · exact ⟨by simp; omega, rfl⟩

theorem take_succ_of {α : Type} {l : List α} {k : Nat} {x : α} (h : l[k]? = some x) : l.take (k + 1) = l.take k ++ [x] := by
  obtain ⟨hk, rfl⟩ := List.getElem?_eq_some_iff.1 h
  exact List.take_succ_eq_append_getElem hk
theorem take_all {α : Type} {l : List α} {k : Nat} (h : ¬ k < l.length) : l.take k = l := List.take_of_length_le (by omega)

theorem lisIn_any (A : Option Addr) (c : Nat) (xs : List Int) (t : Int) (w : World) {B : Nat} (hn : xs.length ≤ 100000) (hr : Rd w B 1 A xs.length (ints xs)) :
    Calls Try.prog 26 #[.slice A xs.length c, .int .i64 t] w fun e w' => e = .returned (.bool (decide (t ∈ xs))) ∧ w = w' := by
  go_enter Try.func26, Try.ntmps26
  go_wp2
  go_loop [5] (fun i => ∃ k : Nat, k ≤ xs.length ∧ i = .int .i64 k ∧ t ∉ xs.take k) (fun i => xs.length - (intOf i).toNat)
  case atStart => exact ⟨0, Nat.zero_le _, rfl, by simp⟩
  case round =>
    obtain ⟨k, hk, rfl, hm⟩ := hrel
    by_cases hlt : k < xs.length
    · obtain ⟨b, off, x, rfl, _, hx, hc⟩ := hr.int hlt
      clear hr
      go_wp2
      · go_ret
        rename_i h _
        have hxt : x = t := by simpa using h
        exact ⟨ret_bool (by rw [eq_comm, decide_eq_true_eq, ← hxt]; exact List.mem_of_getElem? hx), rfl⟩
      · go_round
        case rel =>
          have hxt : (x == t) = false := by assumption
          refine ⟨k + 1, by omega, by go_num, ?_⟩
          rw [take_succ_of hx, List.mem_append]
          rintro (h | h)
          · exact hm h
          · simp at h; subst h; simp at hxt
        case measure => simp [intOf]; omega
    · go_wp2
      go_ret
      rw [take_all hlt] at hm
      exact ⟨ret_bool (by simp [hm]), rfl⟩
theorem equalInts_any (A : Option Addr) (c : Nat) (xs : List Int) (A' : Option Addr) (c' : Nat) (ys : List Int) (w : World) {B : Nat} (hn : xs.length ≤ 100000) (hr : Rd w B 1 A xs.length (ints xs)) (hr' : Rd w B 1 A' ys.length (ints ys)) :
    Calls Try.prog 24 #[.slice A xs.length c, .slice A' ys.length c'] w fun e w' => e = .returned (.bool (decide (xs = ys))) ∧ ∃ m, w' = w.drewN m := by
  by_cases hl : xs.length = ys.length
  · have hl1 : ((xs.length : Int) != (ys.length : Int)) = false := by simp [hl]
    go_enter Try.func24, Try.ntmps24
    go_wp2
    go_loopw [5] (fun i wr => ∃ k : Nat, k ≤ xs.length ∧ i = .int .i64 k ∧ xs.take k = ys.take k ∧ ∃ m, wr = w.drewN m) (fun i _ => xs.length - (intOf i).toNat)
    case atStart => exact ⟨0, Nat.zero_le _, rfl, by simp, 0, rfl⟩
    case round =>
      obtain ⟨k, hk, rfl, hm, m, rfl⟩ := hrel
      have HL := Lib.hid hl
      have HM := Lib.hid hm
      clear hl hm
      by_cases hlt : k < xs.length
      · obtain ⟨b, off, x, rfl, _, hx, hc⟩ := hr.int hlt
        obtain ⟨b', off', y, rfl, _, hy, hc'⟩ := hr'.int (k := k) (by rw [← HL.out]; exact hlt)
        have hlt' : (k : Int) < (ys.length : Int) := by rw [← HL.out]; omega
        clear hr hr'
        go_wp2
        go_quiet (fail)
        go_wp2
        · go_ret
          have hxy : (x != y) = true := by assumption
          refine ⟨ret_bool ?_, _, World.drewN_drewN _ _ _⟩
          rw [eq_comm, decide_eq_false_iff_not]
          intro e
          subst e
          have e2 := Option.some.inj (hx.symm.trans hy)
          simp [e2] at hxy
        · go_roundw
          case rel =>
            have hxy : (x != y) = false := by assumption
            have e2 : x = y := by simpa using hxy
            exact ⟨k + 1, by omega, by go_num, by rw [take_succ_of hx, take_succ_of hy, HM.out, e2], _, (by first | rfl | exact World.drewN_drewN _ _ _)⟩
          case measure => simp [intOf]; omega
      · go_wp2
        go_ret
        have e : xs = ys := by
          have hm := HM.out
          rw [take_all hlt, take_all (by rw [← HL.out]; exact hlt)] at hm
          exact hm
        exact ⟨ret_bool (by simp [e]), _, rfl⟩
  · have hl1 : ((xs.length : Int) != (ys.length : Int)) = true := by simp; omega
    go_enter Try.func24, Try.ntmps24
    go_wp2
    go_ret
    exact ⟨ret_bool (by rw [eq_comm, decide_eq_false_iff_not]; intro e; exact hl (by rw [e])), 0, rfl⟩
/-- A contract of a function that leaves the world alone, in a region whose order is open. -/
theorem quiet_same {f : FuncId} {args : Array Value} {w : World} {n : Nat} {v u : Value} (h : Calls Try.prog f args (w.drewN n) fun e w' => e = .returned v ∧ w.drewN n = w') (hv : v = u) :
    Calls Try.prog f args (w.drewN n) fun e w'' => e = .returned u ∧ ∃ m, w'' = w.drewN m :=
  h.mono fun _ _ ⟨he, hm⟩ => ⟨by rw [he, hv], n, hm.symm⟩
/-- A contract of a function that draws, in a region whose order is open. -/
theorem quiet_draw {f : FuncId} {args : Array Value} {w : World} {n : Nat} {v u : Value} (h : Calls Try.prog f args (w.drewN n) fun e w' => e = .returned v ∧ ∃ m, w' = (w.drewN n).drewN m) (hv : v = u) :
    Calls Try.prog f args (w.drewN n) fun e w'' => e = .returned u ∧ ∃ m, w'' = w.drewN m :=
  h.mono fun _ _ ⟨he, m, hm⟩ => ⟨by rw [he, hv], n + m, by rw [hm]; exact World.drewN_drewN _ _ _⟩
theorem inRange_yes {x a b : Int} {w : World} {n : Nat} (h : a ≤ x ∧ x ≤ b) : Calls Try.prog 50 #[.int .i64 x, .int .i64 a, .int .i64 b] (w.drewN n) fun e w'' => e = .returned (.bool true) ∧ ∃ m, w'' = w.drewN m :=
  quiet_same (inRange_any x a b _) (by simp [h])
theorem inRange_no {x a b : Int} {w : World} {n : Nat} (h : ¬ (a ≤ x ∧ x ≤ b)) : Calls Try.prog 50 #[.int .i64 x, .int .i64 a, .int .i64 b] (w.drewN n) fun e w'' => e = .returned (.bool false) ∧ ∃ m, w'' = w.drewN m :=
  quiet_same (inRange_any x a b _) (by simp only [Value.bool.injEq]; simpa using h)
theorem lisIn_q {A : Option Addr} {c : Nat} {xs : List Int} {t : Int} {w : World} {n B : Nat} (b : Bool) (hn : xs.length ≤ 100000) (hr : Rd w B 1 A xs.length (ints xs)) (hb : decide (t ∈ xs) = b) :
    Calls Try.prog 26 #[.slice A xs.length c, .int .i64 t] (w.drewN n) fun e w'' => e = .returned (.bool b) ∧ ∃ m, w'' = w.drewN m :=
  quiet_same (lisIn_any A c xs t _ hn (hr.drewN n)) (by rw [hb])
/-- Equal lists are equal. -/
theorem equalInts_same (A : Option Addr) (c : Nat) (xs : List Int) (A' : Option Addr) (c' : Nat) (w : World) {B : Nat} (hn : xs.length ≤ 100000) (hr : Rd w B 1 A xs.length (ints xs)) (hr' : Rd w B 1 A' xs.length (ints xs)) :
    Calls Try.prog 24 #[.slice A xs.length c, .slice A' xs.length c'] w (PBool w true) :=
  (equalInts_any A c xs A' c' xs w hn hr hr').mono fun _ _ ⟨he, m, hm⟩ => ⟨by rw [he]; simp, by rw [hm]; exact below_drewN (Below.refl _ _) m⟩
end Go.Proofs.Ytgofokifcplmoaa
