/- Contracts: FreeLocks, of both packages; equalLocks at equal lists. -/
import Derived.Test.YthkkbcbbinojlaaDoorTabC
import Derived.Test.YthkkbcbbinojlaaDoorPTable2
namespace Go.Proofs.YthkkbcbbinojlaaDoor
open Go.RowKit
open Tl (Lk okM okL validT validT_iff freeT)

theorem heap_alloc_new2 (w : World) (o o' : Obj) : ((w.alloc o).alloc o').heap[w.heap.size + 1]? = some o' := by
  rw [show w.heap.size + 1 = (w.alloc o).heap.size by simp]
  exact heap_alloc_new _ _
theorem freeT_yes {l : List Lk} {k : Nat} {x : Lk} {v : Int} (hx : l[k]? = some x) (h1 : x.who ≠ v) : freeT (l.take (k + 1)) v = freeT (l.take k) v ++ [x] := by
  unfold freeT; rw [take_succ_of hx, List.filter_append]; simp [h1]
theorem freeT_no {l : List Lk} {k : Nat} {x : Lk} {v : Int} (hx : l[k]? = some x) (h : x.who = v) : freeT (l.take (k + 1)) v = freeT (l.take k) v := by
  unfold freeT; rw [take_succ_of hx, List.filter_append]; simp [h]
theorem freeT_len (l : List Lk) (v : Int) (k : Nat) : (freeT (l.take k) v).length ≤ k := by
  unfold freeT
  exact Nat.le_trans (List.length_filter_le _ _) (by rw [List.length_take]; exact Nat.min_le_left _ _)
def freeL (l : List Lk) (who : Int) : List Lk := if validT l then freeT l who else []
theorem freeL_valid {l : List Lk} (h : validT l = true) (who : Int) : freeL l who = freeT l who := by unfold freeL; rw [h, if_pos rfl]
theorem freeL_len (l : List Lk) (who : Int) : (freeL l who).length ≤ l.length := by
  unfold freeL freeT
  split
  · exact List.length_filter_le _ _
  · simp

end Go.Proofs.YthkkbcbbinojlaaDoor
