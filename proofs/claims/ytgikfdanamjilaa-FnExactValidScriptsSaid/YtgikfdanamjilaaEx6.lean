/- The laws package's own types: equality of equal lists of rows. -/
import Derived.Test.YtgikfdanamjilaaEx5
namespace Go.Proofs.Ytgikfdanamjilaa
open Go.RowKit
set_option maxRecDepth 100000
open Tl (Do Nd)

theorem eqDoSS_any (A : Option Addr) (c : Nat) (ss : List (List Do)) (A' : Option Addr) (c' : Nat) (w : World) (hn : ss.length ≤ 2000000) (hall : ∀ p ∈ ss, p.length ≤ 2000000) (hr : RdSS w w.heap.size A ss) (hr' : RdSS w w.heap.size A' ss) :
    Calls Try.prog 13 #[.slice A ss.length c, .slice A' ss.length c'] w (PBool w true) := by
  have hl1 : ((ss.length : Int) != (ss.length : Int)) = false := by simp
  have HA := Lib.hid hall
  clear hall
  go_enter Try.func13, Try.ntmps13
  go_wp2
  go_loopg [5] ss.length (fun gk i wr => ∃ k : Nat, k ≤ ss.length ∧ gk = ss.length - k ∧ i = .int .i64 k ∧ Below w.heap.size w wr)
  case atStart => exact ⟨0, Nat.zero_le _, rfl, rfl, Below.refl _ _⟩
  case round =>
    obtain ⟨k, hk, rfl, rfl, hb⟩ := hrel
    by_cases hlt : k < ss.length
    · obtain ⟨b, off, p, A2, c2, rfl, hbl, hx, hc1, hrp⟩ := (hr.step hb).at_ hlt
      obtain ⟨b', off', q, A3, c3, rfl, hbl', hy, hd1, hrq⟩ := (hr'.step hb).at_ hlt
      obtain rfl : p = q := Option.some.inj (hx.symm.trans hy)
      have HP := Lib.hid (HA.out p (List.mem_of_getElem? hx))
      have i0 : (0 : Int) ≤ (k : Int) := by omega
      have i1 : (k : Int) < (ss.length : Int) := by omega
      have z1 := fun z : Ext wr => z.cell hc1 hbl
      have z3 := fun z : Ext wr => z.cell hd1 hbl'
      have H1 := Lib.hid hrp
      have H2 := Lib.hid hrq
      clear hr hr' hx hy hrp hrq
      go_wp2
      refine ext_region (by kernel_rfl) (by kernel_rfl) ?_
      repeat (go_big_quiet_step (first | (go_at_call 26; exact ext_call (eqDoS_any A2 c2 p A3 c3 _ HP.out (Ext.rd _ H1.out) (Ext.rd _ H2.out)) rfl)))
      refine wpQuiet_nil ?_
      rintro w' ⟨z, rfl⟩
      have hb2 := hb.trans (z.below.mono hb.size)
      go_wp2
      go_roundg (ss.length - (k + 1))
      case measure => omega
      case rel => exact ⟨k + 1, by omega, rfl, by go_num, hb2⟩
    · go_wp2
      go_ret
      exact ⟨rfl, hb⟩
end Go.Proofs.Ytgikfdanamjilaa
