/- The walk of FnVictimsOfNone. -/
import Derived.Test.YtfhofincbekadaaVicKit
import Derived.Deep.RegionHeld3
namespace Go.Proofs.Ytfhofincbekadaa
open Go.RowKit
open Tl (Wt okW validW validW_iff dropW victims deadOf mem_deadOf)

def upW (x : Wt) : Wt := ⟨if x.to < x.who then x.to else x.who, if x.who < x.to then x.to else x.who⟩
theorem vicL_up {ws : List Wt} (h : validW ws = true) : vicL (ws.map upW) = [] := by
  have hok := (validW_iff.1 h).2
  unfold vicL
  split
  · rw [victims_nil_iff]
    refine Tl.deadOf_up ?_
    intro x hx
    obtain ⟨y, hy, rfl⟩ := List.mem_map.1 hx
    have := hok y hy
    unfold okW at this
    show (if y.to < y.who then y.to else y.who) < (if y.who < y.to then y.to else y.who)
    split <;> split <;> omega
  · rfl

set_option maxHeartbeats 1000000 in
set_option maxRecDepth 100000 in
theorem law_FnVictimsOfNone (A : Option Addr) (n c : Nat) (w : World) (h : Code8 w A n c) : Calls Try.prog 12 #[.slice A n c] w (PBool w true) := by
  have hle : (n : Int) ≤ 1048576 := by have := h.le; omega
  go_enter Try.func12, Try.ntmps12
  go_wp2_with fail
  refine (drawVictimsOf_any A n c _ h).mono ?_
  rintro e w1 ⟨ws, A1, c1, rfl, ho1, hl1, hb1⟩
  have hr1 := Rd.of_own ho1
  have hle2 := vicL_len ws
  clear h ho1
  go_wp2_with fail
  refine (victimsOf_any A1 c1 ws _ (by omega) hr1).mono ?_
  rintro e w2 ⟨A2, c2, rfl, ho2, hb2⟩
  have hr2 := Rd.of_own ho2
  have hr1 := hr1.step hb2
  have hb2 := below_then hb1 hb2 hb1.size
  clear ho2 hb1
  go_wp2_with fail
  refine (svictimsOf_any A1 c1 ws _ (by omega) hr1).mono ?_
  rintro e w3 ⟨A3, c3, rfl, ho3, hb3⟩
  have hr3 := Rd.of_own ho3
  have hr1 := hr1.step hb3
  have hr2 := hr2.step hb3
  have hb3 := below_then hb2 hb3 hb2.size
  clear ho3 hb2
  go_wp2_with fail
  refine (equalInts_same A2 c2 (vicL ws) A3 c3 _ (by omega) hr2 hr3).mono ?_
  rintro e w4 ⟨rfl, hb4⟩
  have hr1 := hr1.step hb4
  have hr2 := hr2.step hb4
  have hb4 := below_then hb3 hb4 hb3.size
  clear hr3 hb3
  go_wp2_with fail
  refine (validWaits_any A1 c1 ws _ (by omega) hr1).mono ?_
  rintro e w5 ⟨rfl, hb5⟩
  have hr1 := hr1.step hb5
  have hr2 := hr2.step hb5
  have hb5 := below_then hb4 hb5 hb4.size
  clear hb4
  cases hv : validW ws
  · have HV := Lib.hid hv
    clear hv
    go_wp2_with fail
    refine (svictimsOf_any A1 c1 ws _ (by omega) hr1).mono ?_
    rintro e w6 ⟨A3, c3, rfl, ho3, hb6⟩
    have hr3 := Rd.of_own ho3
    have hr2 := hr2.step hb6
    have hb6 := below_then hb5 hb6 hb5.size
    clear ho3 hb5
    go_wp2_with fail
    refine (equalInts_same A2 c2 (vicL ws) A3 c3 _ (by omega) hr2 hr3).mono ?_
    rintro e w7 ⟨rfl, hb7⟩
    have hb7 := below_then hb6 hb7 hb6.size
    go_wp2
    go_ret
    exact ⟨rfl, hb7⟩
  · have HV := Lib.hid hv
    clear hv
    go_wp2
    go_loopg [5, 6] ws.length (fun gk v i wr => ∃ (k : Nat) (A : Option Addr) (c : Nat), k ≤ ws.length ∧ gk = ws.length - k ∧ i = .int .i64 k ∧ v = .slice A k c ∧
      wr.ownsRow w5.heap.size 40 2 v k (wts ((ws.take k).map upW)) ∧ Below w5.heap.size w5 wr)
    case atStart => exact ⟨0, _, 0, by omega, rfl, rfl, rfl, own_lit0 w5 40 2 (Nat.le_refl _), (Below.refl _ _).alloc (Nat.le_refl _) _⟩
    case round =>
      obtain ⟨k, A6, c6, hk, rfl, rfl, rfl, hown, hbw⟩ := hrel
      by_cases hlt : k < ws.length
      · obtain ⟨b, off, x, rfl, hbl2, hx, hc1, hc2⟩ := (hr1.below hbw).wt hlt
        have HN : Hid ((ws.take (k + 1)).map upW = (ws.take k).map upW ++ [⟨if x.to < x.who then x.to else x.who, if x.who < x.to then x.to else x.who⟩]) := by show _ = _; rw [take_succ_of hx, List.map_append]; rfl
        have hbs := hbw.size
        clear hx
        go_wp2
        go_region_held3 (fun w' => w'.cell? ⟨b, off + k * 2, none⟩ = some (.int .i64 x.who) ∧ w'.cell? ⟨b, off + k * 2 + 1, none⟩ = some (.int .i64 x.to))
          (first
            | go_keep
            | (go_split_ands
               refine ⟨?_, ?_⟩
               · (rw [hb'.cell hbl2]; assumption)
               · (rw [hb'.cell hbl2]; assumption)))
          ((refine step_push_wt (xs := (ws.take k).map upW) (y1 := if x.to < x.who then x.to else x.who) (y2 := if x.who < x.to then x.to else x.who) (by rfl) _ _ (by rfl) (by rfl) ((hown.alloc _).drew) (by rfl) (heap_alloc_new wr _) (by omega) (by simp; omega) ?_; intro A' c' w' ho' hb' _))
        all_goals
          have hb7 := ((hbw.alloc hbs (.cells #[.int .i64 (if x.to < x.who then x.to else x.who), .int .i64 (if x.who < x.to then x.to else x.who)] 40)).drew).trans hb'
          clear hown hbw hb' hc1 hc2
          rw [← HN.out] at ho'
          go_wp2
        all_goals
          go_roundg (ws.length - (k + 1))
          case measure => omega
          case rel => exact ⟨k + 1, A', c', by omega, rfl, by go_num, rfl, ho', hb7⟩
      · have hke : k = ws.length := by omega
        subst hke
        rw [List.take_length] at hown
        have hr3 := Rd.of_own hown
        have hlm : (ws.map upW).length = ws.length := by rw [List.length_map]
        have hcl := victimsOf_any A6 c6 (ws.map upW) wr (by rw [hlm]; omega) (by rw [hlm]; exact hr3)
        rw [hlm, vicL_up HV.out] at hcl
        have HC := Lib.hid hcl
        clear hcl hlm hr3 hown
        go_wp2_with fail
        refine HC.out.mono ?_
        rintro e w6 ⟨A7, c7, rfl, ho7, hb6⟩
        have hb7 := below_then (below_then hb5 hbw hb5.size) hb6 (Nat.le_trans hb5.size hbw.size)
        clear ho7 hb6 HC
        go_wp2
        go_ret
        exact ⟨rfl, hb7⟩
end Go.Proofs.Ytfhofincbekadaa
