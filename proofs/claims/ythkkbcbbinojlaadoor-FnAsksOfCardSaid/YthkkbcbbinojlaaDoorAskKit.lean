/- Words for the laws on asks. -/
import Derived.Test.YthkkbcbbinojlaaDoorDrawK
import Derived.Test.YthkkbcbbinojlaaDoorAskB
import Derived.Test.YthkkbcbbinojlaaDoorEqW
import Derived.Test.YthkkbcbbinojlaaDoorLawKit
namespace Go.Proofs.YthkkbcbbinojlaaDoor
open Go.RowKit
open Tl (Lk Wt okM okL validT validT_iff askOk takeLock takeAll grantAll asksOf asksW asksOk)

def AskNo (w : World) (e : Ending) (w' : World) : Prop := ∃ A c, e = .returned (.tuple #[.slice A 0 c, .bool false]) ∧ Rd w' w'.heap.size 2 A ([] : List Wt).length (wts []) ∧ Below w.heap.size w w'
def AskYes (w : World) (m : List Wt) (e : Ending) (w' : World) : Prop := ∃ A c, e = .returned (.tuple #[.slice A m.length c, .bool true]) ∧ Rd w' w'.heap.size 2 A m.length (wts m) ∧ Below w.heap.size w w'
theorem AskNo.of {w : World} {e : Ending} {w' : World} (h : PAskR w none e w') : AskNo w e w' := by
  obtain ⟨A', c', h1, h2, h3⟩ := h
  exact ⟨A', c', h1, Rd.of_own h2, h3⟩
theorem AskYes.of {w : World} {m : List Wt} {e : Ending} {w' : World} (h : PAskR w (some m) e w') : AskYes w m e w' := by
  obtain ⟨A', c', h1, h2, h3⟩ := h
  exact ⟨A', c', h1, Rd.of_own h2, h3⟩
section
variable {A : Option Addr} {c : Nat} {ls : List Lk} {A' : Option Addr} {c' : Nat} {qs : List Lk} {w : World}
theorem asks_no (hn : ls.length ≤ 100000) (hcap : ls.length ≤ c) (hn' : qs.length ≤ 100000) (hT : TabT w) (hJ : TabJ w) (hr : Rd w w.heap.size 3 A ls.length (lks ls)) (hr' : Rd w w.heap.size 3 A' qs.length (lks qs)) (hq : asksOf ls qs = none) :
    Calls Tryd.prog 10 #[.slice A ls.length c, .slice A' qs.length c'] w (AskNo w) := by
  have h := asksOf_any A c ls A' c' qs w hn hcap hn' hT hJ hr hr'
  rw [hq] at h
  exact h.mono fun _ _ => AskNo.of
theorem asks_yes {m : List Wt} (hn : ls.length ≤ 100000) (hcap : ls.length ≤ c) (hn' : qs.length ≤ 100000) (hT : TabT w) (hJ : TabJ w) (hr : Rd w w.heap.size 3 A ls.length (lks ls)) (hr' : Rd w w.heap.size 3 A' qs.length (lks qs)) (hq : asksOf ls qs = some m) :
    Calls Tryd.prog 10 #[.slice A ls.length c, .slice A' qs.length c'] w (AskYes w m) := by
  have h := asksOf_any A c ls A' c' qs w hn hcap hn' hT hJ hr hr'
  rw [hq] at h
  exact h.mono fun _ _ => AskYes.of
theorem sasks_no (hn : ls.length ≤ 100000) (hn' : qs.length ≤ 100000) (hr : Rd w w.heap.size 3 A ls.length (lks ls)) (hr' : Rd w w.heap.size 3 A' qs.length (lks qs)) (hq : asksOf ls qs = none) :
    Calls Tryd.prog 11 #[.slice A ls.length c, .slice A' qs.length c'] w (AskNo w) := by
  have h := sasksOf_any A c ls A' c' qs w hn hn' hr hr'
  rw [hq] at h
  exact h.mono fun _ _ => AskNo.of
theorem sasks_yes {m : List Wt} (hn : ls.length ≤ 100000) (hn' : qs.length ≤ 100000) (hr : Rd w w.heap.size 3 A ls.length (lks ls)) (hr' : Rd w w.heap.size 3 A' qs.length (lks qs)) (hq : asksOf ls qs = some m) :
    Calls Tryd.prog 11 #[.slice A ls.length c, .slice A' qs.length c'] w (AskYes w m) := by
  have h := sasksOf_any A c ls A' c' qs w hn hn' hr hr'
  rw [hq] at h
  exact h.mono fun _ _ => AskYes.of
end
theorem equalWaits_none (A : Option Addr) (c : Nat) (A' : Option Addr) (c' : Nat) (w : World) (hr : Rd w w.heap.size 2 A ([] : List Wt).length (wts [])) (hr' : Rd w w.heap.size 2 A' ([] : List Wt).length (wts [])) : Calls Tryd.prog 12 #[.slice A 0 c, .slice A' 0 c'] w (PBool w true) :=
  equalWaits_same A c [] A' c' w (by simp) hr hr'
theorem asks_some {ls qs : List Lk} {m : List Wt} (h : asksOf ls qs = some m) : asksOk ls qs = true ∧ m = asksW ls qs := by
  unfold asksOf at h
  split at h
  · rename_i h1
    exact ⟨h1, (Option.some.inj h).symm⟩
  · cases h
theorem asks_taken {ls qs : List Lk} {m : List Wt} (h : asksOf ls qs = some m) (h2 : (takeAll ls qs).isSome = true) : m = [] := by
  obtain ⟨h1, rfl⟩ := asks_some h
  obtain ⟨l2, hl2⟩ := Option.isSome_iff_exists.1 h2
  exact Tl.asks_none (Tl.asksOk_iff.1 h1).1 hl2
end Go.Proofs.YthkkbcbbinojlaaDoor
