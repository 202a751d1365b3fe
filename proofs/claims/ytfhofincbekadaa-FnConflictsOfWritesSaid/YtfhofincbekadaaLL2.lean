/- Contract: equalLists, at equal lists. -/
import Derived.Test.YtfhofincbekadaaLL
import Derived.BigQuiet
namespace Go.Proofs.Ytfhofincbekadaa
open Go.RowKit

theorem equalLists_same (A : Option Addr) (c : Nat) (ps : List (List Int)) (A' : Option Addr) (c' : Nat) (w : World) (hn : ps.length ≤ 100000) (hall : ∀ p ∈ ps, p.length ≤ 100000) (hr : RdLL w w.heap.size A ps) (hr' : RdLL w w.heap.size A' ps) :
    Calls Try.prog 18 #[.slice A ps.length c, .slice A' ps.length c'] w (PBool w true) := by
  have hne : ((ps.length : Int) != (ps.length : Int)) = false := by simp
  go_enter Try.func18, Try.ntmps18
  go_wp2
  go_loopg [5] ps.length (fun gk iv wr => ∃ k : Nat, k ≤ ps.length ∧ gk = ps.length - k ∧ iv = .int .i64 k ∧ Below w.heap.size w wr)
  case atStart => exact ⟨0, Nat.zero_le _, rfl, rfl, Below.refl _ _⟩
  case round =>
    obtain ⟨k, hk, rfl, rfl, hb⟩ := hrel
    by_cases hlt : k < ps.length
    · obtain ⟨b, off, p, A1, c1, rfl, hbl, hp, hc1, hr1⟩ := (hr.below hb).at_ hlt
      obtain ⟨b2, off2, p2, A2, c2, rfl, hbl2, hp2, hc2, hr2⟩ := (hr'.below hb).at_ hlt
      have e := Option.some.inj (hp.symm.trans hp2)
      subst e
      have hpl := hall p (List.mem_of_getElem? hp)
      clear hp hp2 hall
      go_wp2
      go_quiet ((go_at_call 21; exact quiet_draw (v := .bool (decide (p = p))) (u := .bool true) (equalInts_any A1 c1 p A2 c2 p _ hpl (hr1.drewN _) (hr2.drewN _)) (by simp)))
      go_wp2
      go_roundg (ps.length - (k + 1))
      case measure => omega
      case rel => exact ⟨k + 1, by omega, rfl, by go_num, below_drewN hb _⟩
    · go_wp2
      go_ret
      exact ⟨rfl, hb⟩
end Go.Proofs.Ytfhofincbekadaa
