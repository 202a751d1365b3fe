/- Contract: equalWaits at equal lists. -/
import Derived.Test.YthkkbcbbinojlaaDoorWts
import Derived.BigQuiet
namespace Go.Proofs.YthkkbcbbinojlaaDoor
open Go.RowKit
open Tl (Wt)

theorem equalWaits_same (A : Option Addr) (c : Nat) (xs : List Wt) (A' : Option Addr) (c' : Nat) (w : World) {B : Nat} (hn : xs.length ≤ 100000) (hr : Rd w B 2 A xs.length (wts xs)) (hr' : Rd w B 2 A' xs.length (wts xs)) :
    Calls Tryd.prog 12 #[.slice A xs.length c, .slice A' xs.length c'] w (PBool w true) := by
  have hl1 : ((xs.length : Int) != (xs.length : Int)) = false := by simp
  go_enter Tryd.func12, Tryd.ntmps12
  go_wp2
  go_loopg [5] xs.length (fun gk i wr => ∃ k : Nat, k ≤ xs.length ∧ gk = xs.length - k ∧ i = .int .i64 k ∧ ∃ m, wr = w.drewN m)
  case atStart => exact ⟨0, Nat.zero_le _, rfl, rfl, 0, rfl⟩
  case round =>
    obtain ⟨k, hk, rfl, rfl, m, rfl⟩ := hrel
    by_cases hlt : k < xs.length
    · obtain ⟨b, off, x, rfl, _, hx, hc1, hc2⟩ := hr.wt hlt
      obtain ⟨b', off', y, rfl, _, hy, hd1, hd2⟩ := hr'.wt hlt
      obtain rfl : x = y := Option.some.inj (hx.symm.trans hy)
      clear hr hr' hx hy
      go_wp2
      go_quiet (fail)
      go_wp2
      go_roundg (xs.length - (k + 1))
      case measure => omega
      case rel => exact ⟨k + 1, by omega, rfl, by go_num, _, (by first | rfl | exact World.drewN_drewN _ _ _)⟩
    · go_wp2
      go_ret
      exact ⟨rfl, below_drewN (Below.refl _ _) _⟩
end Go.Proofs.YthkkbcbbinojlaaDoor
