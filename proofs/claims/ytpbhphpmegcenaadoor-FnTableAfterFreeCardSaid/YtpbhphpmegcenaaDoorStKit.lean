/- Small things that the laws on schedules need. -/
import Derived.Test.YtpbhphpmegcenaaDoorDrawS2
import Derived.Test.YtpbhphpmegcenaaDoorLawKit
import Derived.Test.YtpbhphpmegcenaaDoorStC
import Derived.Test.YtpbhphpmegcenaaDoorTabG
import Derived.IntWalk
namespace Go.Proofs.YtpbhphpmegcenaaDoor
open Go.RowKit
open Tl (St Lk validT validT_iff validS tableAfter)

theorem own_cap {w : World} {base : Nat} {e : TypeId} {sz n c : Nat} {A : Option Addr} {xs : List Value} (h : w.ownsRow base e sz (.slice A n c) n xs) : n ≤ c := by
  obtain ⟨_, _, hv, hc⟩ := own_slice h
  injection hv with _ _ e3
  omega
theorem sts_take_init {init : List St} {s : St} : (sts (init ++ [s])).take (init.length * 4) = sts init := by
  rw [sts_take, List.take_left]
theorem valid_init {init : List St} {s : St} (h : validS (init ++ [s]) = true) : validS init = true := by
  have := Tl.validS_take h init.length
  rwa [List.take_left] at this
theorem tableAfter_len48 (ss : List St) : ((tableAfter ss).getD []).length ≤ 48 := by
  cases h : tableAfter ss with
  | none => simp
  | some m => exact (validT_iff.1 (Tl.tableAfter_valid h)).1
theorem some_of_parts {α : Type} {o : Option (List α)} {m : List α} (h1 : m = o.getD []) (h2 : true = o.isSome) : o = some m := by
  cases o with
  | none => cases h2
  | some q => rw [h1]; rfl
end Go.Proofs.YtpbhphpmegcenaaDoor
