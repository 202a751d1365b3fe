/- Contract: spec.ConflictsOf. -/
import Derived.Test.YtfhofincbekadaaConf
namespace Go.Proofs.Ytfhofincbekadaa
open Go.RowKit
open Tl (Ac okA validA validA_iff clash must takes clashes T4 mem_T4 conflicts)

set_option maxHeartbeats 2000000 in
set_option maxRecDepth 100000 in
theorem sconflictsOf_any (A : Option Addr) (c : Nat) (xs : List Ac) (w : World) (hn : xs.length ≤ 100000) (hr : Rd w w.heap.size 3 A xs.length (acs xs)) :
    Calls Try.prog 19 #[.slice A xs.length c] w (PConf w xs) := by
  go_enter Try.func19, Try.ntmps19
  go_wp2_with fail
  have hr0 := hr.step ((Below.refl w.heap.size w).alloc (Nat.le_refl _) (.cells #[] 32))
  refine (svalidAccesses_any A c xs _ hn hr0).mono ?_
  rintro e w1 ⟨rfl, hb1⟩
  have hown1 := own_below (own_lit0 w 32 1 (Nat.le_refl _)) hb1 (Nat.le_refl _)
  have hb2 := ((Below.refl w.heap.size w).alloc (Nat.le_refl _) (.cells #[] 32)).trans (hb1.mono (by simp))
  clear hb1 hr0
  cases hv : validA xs
  · go_wp2
    go_ret
    have : cres xs = [] := by simp [cres, hv]
    exact ⟨none, 0, by rw [this]; rfl, by rw [this]; exact OwnLL.nil _ _ (World.ownsRow_nil _ _ _ _), hb2⟩
  · have HV := Lib.hid hv
    clear hv
    go_wp2
    go_loopg [3, 4] 4 (fun gk ov iv wr => ∃ (a m : Nat) (A' : Option Addr) (c' : Nat), a ≤ 4 ∧ gk = 4 - a ∧ iv = .int .i64 a ∧ ov = .slice A' m c' ∧ Hid (m = (cTo xs a 0).length) ∧ OwnLL wr w.heap.size ov m (cTo xs a 0) ∧ Below w.heap.size w wr)
    case atStart => exact ⟨0, 0, _, 0, by omega, rfl, rfl, rfl, rfl, OwnLL.nil _ _ hown1, hb2⟩
    case round =>
      clear hown1 hb2
      obtain ⟨a, m, A', c', ha, rfl, rfl, rfl, HM, hown, hb⟩ := hrel
      by_cases ha4 : a < 4
      · have hd : decide ((a : Int) < 4) = true := by simp; omega
        go_wp2
        clear hd
        obtain ⟨wo, rfl⟩ : ∃ wo : World, wo = wr := ⟨_, rfl⟩
        go_loopg [3, 5] 4 (fun gk ov iv wr => ∃ (b m : Nat) (A' : Option Addr) (c' : Nat), b ≤ 4 ∧ gk = 4 - b ∧ iv = .int .i64 b ∧ ov = .slice A' m c' ∧ Hid (m = (cTo xs a b).length) ∧ OwnLL wr w.heap.size ov m (cTo xs a b) ∧ Below w.heap.size w wr)
        case atStart => exact ⟨0, m, A', c', by omega, rfl, rfl, rfl, HM, hown, hb⟩
        case round =>
          clear hown hb HM
          obtain ⟨b, m, A', c', hb4, rfl, rfl, rfl, HM, hown, hb⟩ := hrel
          by_cases hlt : b < 4
          · have hlen := cTo_len xs ha hb4
            have hr1 := (hr.below hb).more hb.size
            go_wp2_with fail
            refine (mustFollow_any A c xs (a : Int) (b : Int) _ hn hr1).mono ?_
            rintro e w6 ⟨rfl, hb6⟩
            have hown2 := hown.below hb6 (Nat.le_refl _)
            have hb7 := below_then hb hb6 hb.size
            clear hown hb6 hb hr1
            cases hm : must xs (a : Int) (b : Int)
            · have HN := Lib.hid (cTo_no hlt hm)
              clear hm
              go_wp2
              go_roundg (4 - (b + 1))
              case measure => omega
              case rel => exact ⟨b + 1, m, A', c', by omega, rfl, by go_num, rfl, by rw [HN.out]; exact HM, by rw [HN.out]; exact hown2, hb7⟩
            · have HN := Lib.hid (cTo_yes hlt hm)
              obtain rfl := HM.out
              clear HM hm
              go_wp2_with (at_builtin; go_loud (refine wpList_push_ll (a0 := (a : Int)) (b0 := (b : Int)) rfl _ _ rfl rfl hown2 rfl rfl (by omega) hb7.size ?_); intro A2 c2 w7 ho7 hb9)
              have hb8 := hb7.trans hb9
              rw [← HN.out] at ho7
              clear hown2 hb7 hb9
              go_wp2
              go_roundg (4 - (b + 1))
              case measure => omega
              case rel => exact ⟨b + 1, (cTo xs a b).length + 1, A2, c2, by omega, rfl, by go_num, rfl, by show _ = _; rw [HN.out, List.length_append]; rfl, ho7, hb8⟩
          · have HN := Lib.hid (cTo_next xs ha4 hlt)
            go_wp2
            go_roundg (4 - (a + 1))
            case measure => omega
            case rel => exact ⟨a + 1, m, A', c', by omega, rfl, by go_num, rfl, by rw [← HN.out]; exact HM, by rw [← HN.out]; exact hown, hb⟩
      · have HE := Lib.hid (cTo_end xs ha4)
        have hm := HM.out
        rw [HE.out] at hown hm
        have hcr : cres xs = cfl xs := by unfold cres; rw [HV.out]; rfl
        rw [← hcr] at hown hm
        subst hm
        clear hcr
        go_wp2
        go_ret
        exact ⟨A', c', rfl, hown, hb⟩
end Go.Proofs.Ytfhofincbekadaa
