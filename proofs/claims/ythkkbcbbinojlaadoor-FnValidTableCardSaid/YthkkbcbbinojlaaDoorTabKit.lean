/- Small things that the laws on tables need. -/
import Derived.Test.YthkkbcbbinojlaaDoorDrawT
import Derived.Test.YthkkbcbbinojlaaDoorLawKit
import Derived.Test.YthkkbcbbinojlaaDoorTabG
namespace Go.Proofs.YthkkbcbbinojlaaDoor
open Go.RowKit
open Tl (Lk okM okL validT validT_iff held held_ok)

theorem own_cap {w : World} {base : Nat} {e : TypeId} {sz n c : Nat} {A : Option Addr} {xs : List Value} (h : w.ownsRow base e sz (.slice A n c) n xs) : n ≤ c := by
  obtain ⟨_, _, hv, hc⟩ := own_slice h
  injection hv with _ _ e3
  omega
theorem heldM_valid {l : List Lk} (h : validT l = true) (who node : Int) : heldM l who node = held l who node := by unfold heldM; rw [h, if_pos rfl]
theorem heldM_not {l : List Lk} (h : validT l = false) (who node : Int) : heldM l who node = -1 := by unfold heldM; rw [h]; rfl
theorem heldM_ok {l : List Lk} (h : validT l = true) (who node : Int) : okM (heldM l who node) := by rw [heldM_valid h]; exact held_ok (validT_iff.1 h).2.1 who node
end Go.Proofs.YthkkbcbbinojlaaDoor
