/- Contracts: impl.TableAfter, impl.ValidSteps. -/
import Derived.Test.YtpbhphpmegcenaaDoorStA
import Derived.Test.YtpbhphpmegcenaaDoorPSteps2
namespace Go.Proofs.YtpbhphpmegcenaaDoor
open Go.RowKit
open Tl (Lk St okM okL validT validT_iff dropL hasL doSt runS tableAfter validS)

theorem PTake.own {w : World} {r : Option (List Lk)} {e : Ending} {w' : World} (h : PTake w r e w') : ∃ A c, e = .returned (.tuple #[.slice A (r.getD []).length c, .bool r.isSome]) ∧ w'.ownsRow w.heap.size 46 3 (.slice A (r.getD []).length c) (r.getD []).length (lks (r.getD [])) ∧ Below w.heap.size w w' := h

set_option maxHeartbeats 1000000 in
set_option maxRecDepth 100000 in
theorem tableAfter_any (A : Option Addr) (c : Nat) (ss : List St) (w : World) (hn : ss.length ≤ 100000) (hT : TabT w) (hJ : TabJ w) (hr : Rd w w.heap.size 4 A ss.length (sts ss)) :
    Calls Tryd.prog 37 #[.slice A ss.length c] w (PTake w (tableAfter ss)) := by
  by_cases h16 : ss.length ≤ 16
  · have h16' : (ss.length : Int) ≤ 16 := by omega
    rw [Tl.tableAfter_le h16]
    go_enter Tryd.func37, Tryd.ntmps37
    go_wp2
    go_loopg [4, 14] ss.length (fun gk ov s13 wr => ∃ (k : Nat) (l : List Lk) (A' : Option Addr) (c' : Nat), k ≤ ss.length ∧ gk = ss.length - k ∧ s13 = .int .i64 k ∧ ov = .slice A' l.length c' ∧ Hid (runS [] (ss.take k) = some l) ∧
      wr.ownsRow w.heap.size 46 3 ov l.length (lks l) ∧ Below w.heap.size w wr)
    case atStart => exact ⟨0, [], none, 0, Nat.zero_le _, rfl, rfl, rfl, rfl, World.ownsRow_nil _ _ _ _, Below.refl _ _⟩
    case round =>
      obtain ⟨k, l, A', c', hk, rfl, rfl, rfl, HR, hown, hb⟩ := hrel
      by_cases hlt : k < ss.length
      · obtain ⟨b, off, s, rfl, hbl, hx, hc1, hc2, hc3, hc4⟩ := (hr.below hb).st hlt
        have HX := Lib.hid hx
        have hlv := Tl.runS_valid _ Tl.validT_nil HR.out
        have hl48 := (validT_iff.1 hlv).1
        have hcap : l.length ≤ c' := by obtain ⟨_, _, hv, hc⟩ := own_slice hown; injection hv with _ _ e3; omega
        have HLV := Lib.hid hlv
        have hb1 := hb.alloc hb.size (.cells #[.int .i64 s.who, .bool s.free, .int .i64 s.node, .int .i64 s.mode] 29)
        have hT1 := hT.below hb1 (Nat.le_refl _)
        have hJ1 := hJ.below hb1 (Nat.le_refl _)
        have hrl := Rd.of_own (hown.alloc (.cells #[.int .i64 s.who, .bool s.free, .int .i64 s.node, .int .i64 s.mode] 29))
        clear hx hlv hown
        go_wp2_with fail
        refine (doStep_any A' c' l s _ (by omega) hcap HLV.out hT1 hJ1 hrl).mono ?_
        rintro e w1 ⟨A2, c2, rfl, ho2, hb2⟩
        have hb3 := below_then hb1 hb2 hb1.size
        cases hd : doSt l s with
        | none =>
          have HN := Lib.hid (Tl.runS_none_step HX.out HR.out hd)
          simp only [Option.isSome_none]
          clear hd ho2
          go_wp2
          go_ret2
          rw [HN.out]
          exact PTake.none_ hb3
        | some m =>
          have HM := Lib.hid (Tl.runS_some_step HX.out HR.out hd)
          rw [hd] at ho2
          have ho3 := own_base ho2 hb1.size
          simp only [Option.isSome_some, Option.getD_some] at ho3 ⊢
          clear hd ho2
          go_wp2
          go_roundg (ss.length - (k + 1))
          case measure => omega
          case rel => exact ⟨k + 1, m, A2, c2, by omega, rfl, by go_num, rfl, HM, ho3, hb3⟩
      · have HE : Hid (runS [] ss = some l) := by have := HR.out; rw [take_all hlt] at this; exact this
        go_wp2
        go_ret2
        rw [HE.out]
        exact ⟨A', c', rfl, hown, hb⟩
  · have h16' : ¬ (ss.length : Int) ≤ 16 := by omega
    rw [Tl.tableAfter_gt h16]
    go_enter Tryd.func37, Tryd.ntmps37
    go_wp2
    go_ret2
    exact PTake.none_ (Below.refl _ _)

theorem validSteps_any (A : Option Addr) (c : Nat) (ss : List St) (w : World) (hn : ss.length ≤ 100000) (hT : TabT w) (hJ : TabJ w) (hr : Rd w w.heap.size 4 A ss.length (sts ss)) :
    Calls Tryd.prog 19 #[.slice A ss.length c] w (PBool w (validS ss)) := by
  go_enter Tryd.func19, Tryd.ntmps19
  go_wp2_with fail
  refine (tableAfter_any A c ss _ hn hT hJ hr).mono ?_
  rintro e w1 ⟨A1, c1, rfl, ho1, hb1⟩
  clear ho1
  go_wp2
  go_ret
  exact ⟨rfl, hb1⟩
end Go.Proofs.YtpbhphpmegcenaaDoor
