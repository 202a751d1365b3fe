/- Contracts: FreeLocks, of both packages; equalLocks at equal lists. -/
import Derived.Test.YtpbhphpmegcenaaDoorTabC
import Derived.Test.YtpbhphpmegcenaaDoorPTable2
namespace Go.Proofs.YtpbhphpmegcenaaDoor
open Go.RowKit
open Tl (Lk okM okL validT validT_iff freeT)

theorem heap_alloc_new2 (w : World) (o o' : Obj) : ((w.alloc o).alloc o').heap[w.heap.size + 1]? = some o' := by
  rw [show w.heap.size + 1 = (w.alloc o).heap.size by simp]
  exact heap_alloc_new _ _
theorem freeT_yes {l : List Lk} {k : Nat} {x : Lk} {v : Int} (hx : l[k]? = some x) (h1 : x.who ≠ v) : freeT (l.take (k + 1)) v = freeT (l.take k) v ++ [x] := by
  unfold freeT; rw [take_succ_of hx, List.filter_append]; simp [h1]
theorem freeT_no {l : List Lk} {k : Nat} {x : Lk} {v : Int} (hx : l[k]? = some x) (h : x.who = v) : freeT (l.take (k + 1)) v = freeT (l.take k) v := by
  unfold freeT; rw [take_succ_of hx, List.filter_append]; simp [h]
theorem freeT_len (l : List Lk) (v : Int) (k : Nat) : (freeT (l.take k) v).length ≤ k := by
  unfold freeT
  exact Nat.le_trans (List.length_filter_le _ _) (by rw [List.length_take]; exact Nat.min_le_left _ _)
def freeL (l : List Lk) (who : Int) : List Lk := if validT l then freeT l who else []
theorem freeL_valid {l : List Lk} (h : validT l = true) (who : Int) : freeL l who = freeT l who := by unfold freeL; rw [h, if_pos rfl]
theorem freeL_len (l : List Lk) (who : Int) : (freeL l who).length ≤ l.length := by
  unfold freeL freeT
  split
  · exact List.length_filter_le _ _
  · simp

theorem equalLocks_same (A : Option Addr) (c : Nat) (xs : List Lk) (A' : Option Addr) (c' : Nat) (w : World) {B : Nat} (hn : xs.length ≤ 100000) (hr : Rd w B 3 A xs.length (lks xs)) (hr' : Rd w B 3 A' xs.length (lks xs)) :
    Calls Tryd.prog 39 #[.slice A xs.length c, .slice A' xs.length c'] w (PBool w true) := by
  have hl1 : ((xs.length : Int) != (xs.length : Int)) = false := by simp
  go_enter Tryd.func39, Tryd.ntmps39
  go_wp2
  go_loopg [5] xs.length (fun gk i wr => ∃ k : Nat, k ≤ xs.length ∧ gk = xs.length - k ∧ i = .int .i64 k ∧ ∃ m, wr = w.drewN m)
  case atStart => exact ⟨0, Nat.zero_le _, rfl, rfl, 0, rfl⟩
  case round =>
    obtain ⟨k, hk, rfl, rfl, m, rfl⟩ := hrel
    by_cases hlt : k < xs.length
    · obtain ⟨b, off, x, rfl, _, hx, hc1, hc2, hc3⟩ := hr.lk hlt
      obtain ⟨b', off', y, rfl, _, hy, hd1, hd2, hd3⟩ := hr'.lk hlt
      obtain rfl : x = y := Option.some.inj (hx.symm.trans hy)
      clear hr hr' hx hy
      go_wp2
      go_quiet (fail)
      go_wp2
      go_roundg (xs.length - (k + 1))
      case measure => omega
      case rel => exact ⟨k + 1, by omega, rfl, by go_num, _, (by first | rfl | exact World.drewN_drewN _ _ _)⟩
    · go_wp2
      go_ret
      exact ⟨rfl, below_drewN (Below.refl _ _) _⟩
end Go.Proofs.YtpbhphpmegcenaaDoor
