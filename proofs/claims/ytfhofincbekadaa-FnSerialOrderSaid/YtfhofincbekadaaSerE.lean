/- Contract: impl.SerialOrder (the walk). -/
import Derived.Test.YtfhofincbekadaaSerD
namespace Go.Proofs.Ytfhofincbekadaa
open Go.RowKit
open Tl (Ac okA validA validA_iff clash must takes clashes T4 mem_T4 free free_iff serial serialGo serialOk allDone allDone_iff must_takes)

theorem ahead_eq {M : Int → Int → Bool} {xs : List Ac} {done : List Int} {t : Int} (hM : ∀ a b : Int, 0 ≤ b → b ≤ 3 → M a b = must xs a b) (h0 : 0 ≤ t) (h3 : t ≤ 3) : (T4.any fun a => leftOf xs done a && M a t) = ahead xs done t := by
  unfold ahead
  congr 1
  funext a
  rw [hM a t h0 h3]

set_option maxHeartbeats 2000000 in
set_option maxRecDepth 100000 in
theorem serialOrder_any (A : Option Addr) (c : Nat) (xs : List Ac) (w : World) (hn : xs.length ≤ 100000) (hcap : xs.length ≤ c) (hr : Rd w w.heap.size 3 A xs.length (acs xs)) :
    Calls Try.prog 31 #[.slice A xs.length c] w (PSer w xs) := by
  cases hv : validA xs
  · go_enter Try.func31, Try.ntmps31
    go_wp2_with fail
    refine (validAccesses_any A c xs _ hn hr).mono ?_
    rintro e w1 ⟨rfl, hb1⟩
    rw [hv]
    go_wp2
    go_ret2
    have : sres xs = [] := by simp [sres, hv]
    exact ⟨none, 0, by rw [this, hv]; rfl, by rw [this]; exact World.ownsRow_nil _ _ _ _, hb1⟩
  · have hok := (validA_iff.1 hv).2
    go_enter Try.func31, Try.ntmps31
    go_wp2_with fail
    refine (validAccesses_any A c xs _ hn hr).mono ?_
    rintro e w1 ⟨rfl, hb1⟩
    rw [hv]
    have HV := Lib.hid hv
    have hr1 := hr.step hb1
    clear hv
    go_wp2_with fail
    refine (behindOf_any A c xs w1 hn hcap hok hr1).mono ?_
    rintro e w2 ⟨rfl, hb2⟩
    have hr2 := hr1.step hb2
    have hB2 := below_then hb1 hb2 hb1.size
    clear hb1 hb2 hr1
    go_wp2
    have hbk := (show Blk (w2.alloc (.cells #[.int .i64 (maskI (must xs 0)), .int .i64 (maskI (must xs 1)), .int .i64 (maskI (must xs 2)), .int .i64 (maskI (must xs 3))] 50)) w2.heap.size _ _ from heap_alloc_new w2 _)
    have hB3 := hB2.alloc (o := .cells #[.int .i64 (maskI (must xs 0)), .int .i64 (maskI (must xs 1)), .int .i64 (maskI (must xs 2)), .int .i64 (maskI (must xs 3))] 50) hB2.size
    obtain ⟨w3, hw3⟩ : ∃ w3 : World, w3 = w2.alloc (.cells #[.int .i64 (maskI (must xs 0)), .int .i64 (maskI (must xs 1)), .int .i64 (maskI (must xs 2)), .int .i64 (maskI (must xs 3))] 50) := ⟨_, rfl⟩
    rw [← hw3] at hbk hB3 ⊢
    have hsz3 : w.heap.size ≤ w2.heap.size := hB2.size
    clear hw3 hB2 hr2
    obtain ⟨g2, hg2⟩ : ∃ g2, g2 = w2.heap.size := ⟨_, rfl⟩
    rw [← hg2] at hbk hsz3 ⊢
    clear hg2
    go_loopg [5, 18] xs.length (fun gk lv iv wr => ∃ k : Nat, k ≤ xs.length ∧ gk = xs.length - k ∧ iv = .int .i64 k ∧ lv = .int .i64 (maskI (takes (xs.take k))) ∧ Blk wr g2 #[.int .i64 (maskI (must xs 0)), .int .i64 (maskI (must xs 1)), .int .i64 (maskI (must xs 2)), .int .i64 (maskI (must xs 3))] 50 ∧ Below w.heap.size w wr)
    case atStart => exact ⟨0, Nat.zero_le _, rfl, rfl, rfl, hbk, hB3⟩
    case round =>
      clear hbk hB3
      obtain ⟨k, hk, rfl, rfl, rfl, hbk, hb⟩ := hrel
      by_cases hlt : k < xs.length
      · obtain ⟨b, off, x, rfl, hbl, hx, hx1, hx2, hx3⟩ := (hr.below hb).ac hlt
        have hxo := hok x (List.mem_of_getElem? hx)
        have hw0 : 0 ≤ x.who := hxo.1
        have hw3 : x.who ≤ 3 := hxo.2.1
        have hor := mask_or (S := takes (xs.take k)) hw0 hw3
        have HN : Hid (maskI (takes (xs.take (k + 1))) = maskI (fun u => decide (u = x.who) || takes (xs.take k) u)) := maskI_congr fun u _ _ => takes_snoc hx u
        clear hx hxo hok
        go_wp2
        go_roundg (xs.length - (k + 1))
        case measure => omega
        case rel => exact ⟨k + 1, by omega, rfl, by go_num, by rw [HN.out], hbk.alloc _, hb.alloc hb.size _⟩
      · have HL : Hid (maskI (takes (xs.take k)) = maskI (leftOf xs [])) := by
          show _ = _
          rw [List.take_of_length_le (by omega)]
          exact maskI_congr fun u _ _ => (leftOf_nil xs u).symm
        rw [HL.out]
        clear HL
        go_wp2
        clear hlt hk
        obtain ⟨wo, rfl⟩ : ∃ wo : World, wo = wr := ⟨_, rfl⟩
        go_loopg [5, 8] 4 (fun gk lv ov wr => ∃ (done : List Int) (n : Nat) (A' : Option Addr) (c' : Nat), gk = n ∧ n ≤ 4 ∧ lv = .int .i64 (maskI (leftOf xs done)) ∧ ov = .slice A' done.length c' ∧ Hid (SerAt xs done n) ∧
          wr.ownsRow (g2 + 1) 3 1 ov done.length (ints done) ∧ Blk wr g2 #[.int .i64 (maskI (must xs 0)), .int .i64 (maskI (must xs 1)), .int .i64 (maskI (must xs 2)), .int .i64 (maskI (must xs 3))] 50 ∧ Below w.heap.size w wr)
        case atStart => exact ⟨[], 4, none, 0, rfl, Nat.le_refl _, rfl, rfl, SerAt.start xs, World.ownsRow_nil _ _ _ _, hbk, hb⟩
        case round =>
          clear hbk hb
          obtain ⟨done, n, A', c', rfl, hn4, rfl, rfl, HS, hown, hbk, hb⟩ := hrel
          have hlim := maskI_le (leftOf xs done)
          by_cases hz : maskI (leftOf xs done) = 0
          · have HF := Lib.hid (HS.out.over hok hz)
            rw [hz]
            clear hz hlim
            go_wp2
            go_ret2
            have : sres xs = done := by unfold sres; rw [HV.out, HF.out.2, HF.out.1]; rfl
            exact ⟨A', c', by rw [this, HV.out, HF.out.2]; rfl, by rw [this]; exact own_base hown (by omega), hb⟩
          · have hzb : (maskI (leftOf xs done) != 0) = true := by simp [hz]
            have HZ := Lib.hid hz
            clear hz
            go_wp2
            obtain ⟨wq, rfl⟩ : ∃ wq : World, wq = wr := ⟨_, rfl⟩
            clear hzb hlim
            go_loopg [9, 10] 4 (fun gk nv tv wr => ∃ k : Nat, k ≤ 4 ∧ gk = k ∧ tv = .int .i64 ((k : Int) - 1) ∧ nv = .int .i64 (nextAt xs done k) ∧ 
              wr.ownsRow (g2 + 1) 3 1 (.slice A' done.length c') done.length (ints done) ∧ Blk wr g2 #[.int .i64 (maskI (must xs 0)), .int .i64 (maskI (must xs 1)), .int .i64 (maskI (must xs 2)), .int .i64 (maskI (must xs 3))] 50 ∧ Below w.heap.size w wr)
            case atStart => exact ⟨4, Nat.le_refl _, rfl, rfl, rfl, hown, hbk, hb⟩
            case round =>
              clear hown hbk hb
              obtain ⟨k, hk, rfl, rfl, rfl, hown, hbk, hb⟩ := hrel
              rcases gk with _ | m
              · rw [show (((0 : Nat) : Int) - 1) = -1 from rfl]
                cases hf : T4.find? (free xs done) with
                | none =>
                  have HF := Lib.hid (HS.out.stuck hok HZ.out hf)
                  rw [nextAt_all, hf]
                  rw [show nextI (none : Option Int) = -1 from rfl]
                  clear hf
                  go_wp2
                  go_ret2
                  have : sres xs = [] := by unfold sres; rw [HV.out, HF.out]; rfl
                  exact ⟨none, 0, by rw [this, HF.out]; simp, by rw [this]; exact World.ownsRow_nil _ _ _ _, hb⟩
                | some t =>
                  obtain ⟨m, hm, hS2, hl4, ht0, ht3⟩ := HS.out.next hok hf
                  have HS2 := Lib.hid hS2
                  have hnt : ¬ t < 0 := by omega
                  have han := mask_andNot (S := leftOf xs done) ht0 ht3
                  have HN : Hid (maskI (leftOf xs (done ++ [t])) = maskI (fun u => !decide (u = t) && leftOf xs done u)) := maskI_congr fun u _ _ => leftOf_snoc xs done t u
                  rw [nextAt_all, hf]
                  rw [show nextI (some t) = t from rfl]
                  have hbase : g2 + 1 ≤ wr.heap.size := hbk.lt
                  clear hf hS2 HS
                  go_wp2_with (at_builtin; refine wpList_push_int rfl _ _ rfl rfl hown rfl rfl (by omega) hbase ?_; intro A2 c2 w7 ho7 hb7 _)
                  have hbk7 := hbk.below hb7 (by omega)
                  have hb8 := hb.trans (hb7.mono (show w.heap.size ≤ g2 + 1 by omega))
                  clear hown hb7
                  go_wp2
                  go_roundg m
                  case measure => omega
                  case rel => exact ⟨done ++ [t], m, A2, c2, rfl, by omega, by rw [HN.out], by simp, HS2, by simpa [ints] using ho7, hbk7, hb8⟩
              · have hm4 : m < 4 := by omega
                rw [show (((m + 1 : Nat) : Int) - 1) = (m : Int) by omega]
                have hand := mask_and_nat (S := leftOf xs done) hm4
                cases hL : leftOf xs done (m : Int)
                · rw [hL] at hand
                  have HN : Hid (nextAt xs done m = nextAt xs done (m + 1)) := nextAt_skip hm4 (by rw [free_left, hL]; rfl)
                  clear hL
                  go_wp2
                  go_roundg m
                  case measure => omega
                  case rel => exact ⟨m, by omega, rfl, by go_num, by rw [HN.out], hown, hbk, hb⟩
                · rw [hL] at hand
                  have HA : Hid ((T4.any fun a => leftOf xs done a && must xs a (m : Int)) = ahead xs done m) := rfl
                  have hc0 : wr.cell? ⟨g2, 0, none⟩ = some (.int .i64 (maskI (must xs 0))) := hbk.cell 0
                  have hc1 : wr.cell? ⟨g2, 1, none⟩ = some (.int .i64 (maskI (must xs 1))) := hbk.cell 1
                  have hc2 : wr.cell? ⟨g2, 2, none⟩ = some (.int .i64 (maskI (must xs 2))) := hbk.cell 2
                  have hc3 : wr.cell? ⟨g2, 3, none⟩ = some (.int .i64 (maskI (must xs 3))) := hbk.cell 3
                  have HL := Lib.hid hL
                  clear hL
                  have hcl := isBehind_any (must xs) (leftOf xs done) m wr (by omega) (by omega)
                  rw [HA.out] at hcl
                  cases hA : ahead xs done (m : Int)
                  · have HN : Hid (nextAt xs done m = m) := nextAt_hit hm4 (by rw [free_left, HL.out, hA]; rfl)
                    rw [hA] at hcl
                    have HC := Lib.hid hcl
                    clear hA hcl
                    go_wp2_with fail
                    refine HC.out.mono ?_
                    rintro e w6 ⟨rfl, hb6⟩
                    clear HC hc0 hc1 hc2 hc3
                    go_wp2
                    go_roundg m
                    case measure => omega
                    case rel => exact ⟨m, by omega, rfl, by go_num, by rw [HN.out], own_below hown hb6 (Nat.le_refl _), hbk.below hb6 hbk.lt, below_then hb hb6 hb.size⟩
                  · have HN : Hid (nextAt xs done m = nextAt xs done (m + 1)) := nextAt_skip hm4 (by rw [free_left, HL.out, hA]; rfl)
                    rw [hA] at hcl
                    have HC := Lib.hid hcl
                    clear hA hcl
                    go_wp2_with fail
                    refine HC.out.mono ?_
                    rintro e w6 ⟨rfl, hb6⟩
                    clear HC hc0 hc1 hc2 hc3
                    go_wp2
                    go_roundg m
                    case measure => omega
                    case rel => exact ⟨m, by omega, rfl, by go_num, by rw [HN.out], own_below hown hb6 (Nat.le_refl _), hbk.below hb6 hbk.lt, below_then hb hb6 hb.size⟩
end Go.Proofs.Ytfhofincbekadaa
