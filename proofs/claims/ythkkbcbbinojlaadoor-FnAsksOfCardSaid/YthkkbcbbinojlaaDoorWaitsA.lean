/- Contracts: valid waits. -/
import Derived.Test.YthkkbcbbinojlaaDoorWts
import Derived.Test.YthkkbcbbinojlaaDoorLeaf
namespace Go.Proofs.YthkkbcbbinojlaaDoor
open Go.RowKit
open Tl (Wt okW validW validW_iff)

theorem take_ok {α : Type} {p : α → Prop} {l : List α} {k : Nat} {x : α} (hx : l[k]? = some x) (h : ∀ y ∈ l.take k, p y) (hp : p x) : ∀ y ∈ l.take (k + 1), p y := by
  intro y hy
  rw [take_succ_of hx] at hy
  rcases List.mem_append.1 hy with hy | hy
  · exact h y hy
  · simp at hy; subst hy; exact hp

theorem not_validW {ws : List Wt} {k : Nat} {x : Wt} (hx : ws[k]? = some x) (h : ¬ okW x) : validW ws = false := by
  rw [Bool.eq_false_iff]
  intro hv
  exact h ((validW_iff.1 hv).2 x (List.mem_of_getElem? hx))

theorem validWaits_any (A : Option Addr) (c : Nat) (ws : List Wt) (w : World) (hn : ws.length ≤ 100000) (hr : Rd w w.heap.size 2 A ws.length (wts ws)) :
    Calls Tryd.prog 14 #[.slice A ws.length c] w (PBool w (validW ws)) := by
  by_cases h12 : ws.length ≤ 12
  · have h12' : (ws.length : Int) ≤ 12 := by omega
    go_enter Tryd.func14, Tryd.ntmps14
    go_wp2
    go_loopw [10] (fun i wr => ∃ k : Nat, k ≤ ws.length ∧ i = .int .i64 k ∧ (∀ x ∈ ws.take k, okW x) ∧ Below w.heap.size w wr) (fun i _ => ws.length - (intOf i).toNat)
    case atStart => exact ⟨0, Nat.zero_le _, rfl, by simp, Below.refl _ _⟩
    case round =>
      obtain ⟨k, hk, rfl, hm, hb⟩ := hrel
      by_cases hlt : k < ws.length
      · obtain ⟨b, off, x, rfl, _, hx, hc1, hc2⟩ := (hr.below hb).wt hlt
        clear hr
        have hb1 := hb.alloc (o := .cells #[.int .i64 x.who, .int .i64 x.to] 38) hb.size
        go_wp2
        all_goals first
          | (go_ret
             exact ⟨ret_bool (not_validW hx (by unfold okW; first | omega | (have he : x.who = x.to := by simpa using (by assumption : (x.who == x.to) = true)); omega)).symm, hb1⟩)
          | (go_roundw
             case rel =>
               have hne : (x.who == x.to) = false := by assumption
               exact ⟨k + 1, by omega, by go_num, take_ok hx hm (by unfold okW; simp at hne; omega), hb1⟩
             case measure => simp [intOf]; omega)
      · go_wp2
        go_ret
        rw [take_all hlt] at hm
        exact ⟨ret_bool (validW_iff.2 ⟨h12, hm⟩).symm, hb⟩
  · have h12' : ¬ (ws.length : Int) ≤ 12 := by omega
    go_enter Tryd.func14, Tryd.ntmps14
    go_wp2
    go_ret
    exact ⟨ret_bool (by rw [eq_comm, Bool.eq_false_iff]; intro hv; exact h12 (validW_iff.1 hv).1), Below.refl _ _⟩

end Go.Proofs.YthkkbcbbinojlaaDoor
