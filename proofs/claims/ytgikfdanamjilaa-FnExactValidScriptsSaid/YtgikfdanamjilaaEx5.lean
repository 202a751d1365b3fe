/- The laws package's own types: equality of equal rows. -/
import Derived.Test.YtgikfdanamjilaaEx4
namespace Go.Proofs.Ytgikfdanamjilaa
open Go.RowKit
set_option maxRecDepth 100000
open Tl (Do Nd)

theorem eqDoS_any (A : Option Addr) (c : Nat) (p : List Do) (A' : Option Addr) (c' : Nat) (w : World) (hn : p.length ≤ 2000000) (hr : Rd w w.heap.size 2 A p.length (dws p)) (hr' : Rd w w.heap.size 2 A' p.length (dws p)) :
    Calls Try.prog 26 #[.slice A p.length c, .slice A' p.length c'] w (PBool w true) := by
  have hl1 : ((p.length : Int) != (p.length : Int)) = false := by simp
  go_enter Try.func26, Try.ntmps26
  go_wp2
  go_loopg [5] p.length (fun gk i wr => ∃ k : Nat, k ≤ p.length ∧ gk = p.length - k ∧ i = .int .i64 k ∧ Below w.heap.size w wr)
  case atStart => exact ⟨0, Nat.zero_le _, rfl, rfl, Below.refl _ _⟩
  case round =>
    obtain ⟨k, hk, rfl, rfl, hb⟩ := hrel
    by_cases hlt : k < p.length
    · obtain ⟨b, off, x, rfl, hbl, hx, hc1, hc2⟩ := (hr.step hb).dw hlt
      obtain ⟨b', off', y, rfl, hbl', hy, hd1, hd2⟩ := (hr'.step hb).dw hlt
      obtain rfl : x = y := Option.some.inj (hx.symm.trans hy)
      have i0 : (0 : Int) ≤ (k : Int) := by omega
      have i1 : (k : Int) < (p.length : Int) := by omega
      have z1 := fun z : Ext wr => z.cell hc1 hbl
      have z2 := fun z : Ext wr => z.cell hc2 hbl
      have z3 := fun z : Ext wr => z.cell hd1 hbl'
      have z4 := fun z : Ext wr => z.cell hd2 hbl'
      clear hr hr' hx hy
      go_wp2
      refine ext_region (by kernel_rfl) (by kernel_rfl) ?_
      repeat (go_big_quiet_step (first | (go_at_call 36; exact ext_call (eqDo_any _ _ _) rfl)))
      refine wpQuiet_nil ?_
      rintro w' ⟨z, rfl⟩
      have hb2 := hb.trans (z.below.mono hb.size)
      go_wp2
      go_roundg (p.length - (k + 1))
      case measure => omega
      case rel => exact ⟨k + 1, by omega, rfl, by go_num, hb2⟩
    · go_wp2
      go_ret
      exact ⟨rfl, hb⟩
theorem eqNodeS_any (A : Option Addr) (c : Nat) (p : List Nd) (A' : Option Addr) (c' : Nat) (w : World) (hn : p.length ≤ 2000000) (hr : Rd w w.heap.size 3 A p.length (nds p)) (hr' : Rd w w.heap.size 3 A' p.length (nds p)) :
    Calls Try.prog 12 #[.slice A p.length c, .slice A' p.length c'] w (PBool w true) := by
  have hl1 : ((p.length : Int) != (p.length : Int)) = false := by simp
  go_enter Try.func12, Try.ntmps12
  go_wp2
  go_loopg [5] p.length (fun gk i wr => ∃ k : Nat, k ≤ p.length ∧ gk = p.length - k ∧ i = .int .i64 k ∧ Below w.heap.size w wr)
  case atStart => exact ⟨0, Nat.zero_le _, rfl, rfl, Below.refl _ _⟩
  case round =>
    obtain ⟨k, hk, rfl, rfl, hb⟩ := hrel
    by_cases hlt : k < p.length
    · obtain ⟨b, off, x, rfl, hbl, hx, hc1, hc2, hc3⟩ := (hr.step hb).nd hlt
      obtain ⟨b', off', y, rfl, hbl', hy, hd1, hd2, hd3⟩ := (hr'.step hb).nd hlt
      obtain rfl : x = y := Option.some.inj (hx.symm.trans hy)
      have i0 : (0 : Int) ≤ (k : Int) := by omega
      have i1 : (k : Int) < (p.length : Int) := by omega
      have z1 := fun z : Ext wr => z.cell hc1 hbl
      have z2 := fun z : Ext wr => z.cell hc2 hbl
      have z3 := fun z : Ext wr => z.cell hd1 hbl'
      have z4 := fun z : Ext wr => z.cell hd2 hbl'
      have z5 := fun z : Ext wr => z.cell hc3 hbl
      have z6 := fun z : Ext wr => z.cell hd3 hbl'
      clear hr hr' hx hy
      go_wp2
      refine ext_region (by kernel_rfl) (by kernel_rfl) ?_
      repeat (go_big_quiet_step (first | (go_at_call 25; exact ext_call (eqNode_any _ _ _ _) rfl)))
      refine wpQuiet_nil ?_
      rintro w' ⟨z, rfl⟩
      have hb2 := hb.trans (z.below.mono hb.size)
      go_wp2
      go_roundg (p.length - (k + 1))
      case measure => omega
      case rel => exact ⟨k + 1, by omega, rfl, by go_num, hb2⟩
    · go_wp2
      go_ret
      exact ⟨rfl, hb⟩
end Go.Proofs.Ytgikfdanamjilaa
