/- The walk of FnSerialOrderSerial. -/
import Derived.Test.YtfhofincbekadaaSerG
import Derived.Test.YtfhofincbekadaaDrawA
import Derived.Test.YtfhofincbekadaaPSerial2
import Derived.Test.YtfhofincbekadaaLawA2
namespace Go.Proofs.Ytfhofincbekadaa
open Go.RowKit
open Tl (Ac okA validA validA_iff T4 serial serialOk sortA upTo)

def whoIs (t : Int) (xs : List Ac) : List Ac := xs.filter fun x => decide (x.who = t)
def sortTo (xs : List Ac) (t k : Nat) : List Ac := ((T4.take t).flatMap fun u => whoIs u xs) ++ whoIs t (xs.take k)
theorem sortTo_zero (xs : List Ac) (t : Nat) : sortTo xs t 0 = (T4.take t).flatMap fun u => whoIs u xs := by simp [sortTo, whoIs]
theorem sortTo_next (xs : List Ac) {t k : Nat} (ht : t < 4) (hk : ¬ k < xs.length) : sortTo xs t k = sortTo xs (t + 1) 0 := by
  rw [sortTo_zero, T4_take_succ ht, List.flatMap_append]
  unfold sortTo
  rw [show xs.take k = xs from List.take_of_length_le (by omega)]
  simp
theorem sortTo_yes {xs : List Ac} {t k : Nat} {x : Ac} (hx : xs[k]? = some x) (h : x.who = t) : sortTo xs t (k + 1) = sortTo xs t k ++ [x] := by
  unfold sortTo whoIs; rw [take_succ_of hx, List.filter_append]; simp [h]
theorem sortTo_no {xs : List Ac} {t k : Nat} {x : Ac} (hx : xs[k]? = some x) (h : ¬ x.who = t) : sortTo xs t (k + 1) = sortTo xs t k := by
  unfold sortTo whoIs; rw [take_succ_of hx, List.filter_append]; simp [h]
theorem sortTo_end (xs : List Ac) {t : Nat} (ht : ¬ t < 4) : sortTo xs t 0 = sortA xs := by
  rw [sortTo_zero, List.take_of_length_le (by simp [T4]; omega)]; rfl
theorem sortTo_len (xs : List Ac) (t k : Nat) (ht : t ≤ 4) : (sortTo xs t k).length ≤ 4 * xs.length + xs.length := by
  have hw : ∀ u ys, (whoIs u ys).length ≤ ys.length := fun u ys => List.length_filter_le _ _
  have h1 : ((T4.take t).flatMap fun u => whoIs u xs).length ≤ 4 * xs.length := by
    have : t = 0 ∨ t = 1 ∨ t = 2 ∨ t = 3 ∨ t = 4 := by omega
    have := hw 0 xs; have := hw 1 xs; have := hw 2 xs; have := hw 3 xs
    rcases ‹t = 0 ∨ _› with rfl | rfl | rfl | rfl | rfl <;> simp [T4] <;> omega
  have h2 := hw t (xs.take k)
  have h3 : (xs.take k).length ≤ xs.length := by simp; omega
  unfold sortTo
  rw [List.length_append]
  omega

set_option maxHeartbeats 2000000 in
set_option maxRecDepth 100000 in
theorem law_FnSerialOrderSerial (A : Option Addr) (n c : Nat) (w : World) (h : Code8 w A n c) : Calls Try.prog 10 #[.slice A n c] w (PBool w true) := by
  have hle : (n : Int) ≤ 1048576 := by have := h.le; omega
  go_enter Try.func10, Try.ntmps10
  go_wp2_with fail
  refine (drawSerialOrder_any A n c _ h).mono ?_
  rintro e w1 ⟨xs, A1, c1, rfl, ho1, hl1, hb1⟩
  have hr1 := Rd.of_own ho1
  have hcap := own_cap ho1
  have hle2 := sres_len xs
  clear h ho1
  go_wp2_with fail
  refine (serialOrder_any A1 c1 xs _ (by omega) hcap hr1).mono ?_
  rintro e w2 ⟨A2, c2, rfl, ho2, hb2⟩
  have hr2 := Rd.of_own ho2
  have hr1 := hr1.step hb2
  have hb2 := below_then hb1 hb2 hb1.size
  clear ho2 hb1
  go_wp2_with fail
  refine (sserialOrder_any A1 c1 xs _ (by omega) hr1).mono ?_
  rintro e w3 ⟨A3, c3, rfl, ho3, hb3⟩
  have hr3 := Rd.of_own ho3
  have hr1 := hr1.step hb3
  have hr2 := hr2.step hb3
  have hb3 := below_then hb2 hb3 hb2.size
  clear ho3 hb2
  go_wp2_with fail
  refine (equalInts_same A2 c2 (sres xs) A3 c3 _ (by omega) hr2 hr3).mono ?_
  rintro e w4 ⟨rfl, hb4⟩
  have hr1 := hr1.step hb4
  have hr2 := hr2.step hb4
  have hr3 := hr3.step hb4
  have hb4 := below_then hb3 hb4 hb3.size
  clear hb3
  obtain ⟨sb, hsb⟩ : ∃ sb, (validA xs && serialOk xs) = sb := ⟨_, rfl⟩
  rw [hsb]
  have hse : (sb != sb) = false := by cases sb <;> rfl
  have hsq : (sb == sb) = true := by cases sb <;> rfl
  clear hsb
  go_wp2_with fail
  refine (validAccesses_any A1 c1 xs _ (by omega) hr1).mono ?_
  rintro e w5 ⟨rfl, hb5⟩
  have hr1 := hr1.step hb5
  have hr2 := hr2.step hb5
  have hr3 := hr3.step hb5
  have hb5 := below_then hb4 hb5 hb4.size
  clear hb4
  cases hv : validA xs
  · clear hv
    go_wp2_with fail
    refine (equalInts_same A2 c2 (sres xs) A3 c3 _ (by omega) hr2 hr3).mono ?_
    rintro e w7 ⟨rfl, hb7⟩
    have hb7 := below_then hb5 hb7 hb5.size
    go_wp2
    go_ret
    exact ⟨rfl, hb7⟩
  · have HV := Lib.hid hv
    clear hv hr2 hr3
    go_wp2
    go_loopg [8, 9] 4 (fun gk v tv wr => ∃ (t m : Nat) (A : Option Addr) (c : Nat), t ≤ 4 ∧ gk = 4 - t ∧ tv = .int .i64 t ∧ v = .slice A m c ∧ m = (sortTo xs t 0).length ∧
      wr.ownsRow w5.heap.size 30 3 v m (acs (sortTo xs t 0)) ∧ Below w5.heap.size w5 wr)
    case atStart => exact ⟨0, 0, _, 0, by omega, rfl, rfl, rfl, rfl, own_lit0 w5 30 3 (Nat.le_refl _), (Below.refl _ _).alloc (Nat.le_refl _) _⟩
    case round =>
      obtain ⟨t, m, A6, c6, ht, rfl, rfl, rfl, hm, hown, hbw⟩ := hrel
      by_cases ht4 : t < 4
      · have hd : decide ((t : Int) < 4) = true := by simp; omega
        have HM := Lib.hid hm
        clear hm
        go_wp2
        clear hd
        obtain ⟨wo, rfl⟩ : ∃ wo : World, wo = wr := ⟨_, rfl⟩
        go_loopg [8, 10] xs.length (fun gi v iv wr => ∃ (k m : Nat) (A : Option Addr) (c : Nat), k ≤ xs.length ∧ gi = xs.length - k ∧ iv = .int .i64 k ∧ v = .slice A m c ∧ Hid (m = (sortTo xs t k).length) ∧
          wr.ownsRow w5.heap.size 30 3 v m (acs (sortTo xs t k)) ∧ Below w5.heap.size w5 wr)
        case atStart => exact ⟨0, m, _, _, Nat.zero_le _, rfl, rfl, rfl, HM, hown, hbw⟩
        case round =>
          clear hown hbw HM
          obtain ⟨k, m, A6, c6, hk, rfl, rfl, rfl, HM, hown, hbw⟩ := hrel
          by_cases hlk : k < xs.length
          · obtain ⟨b, off, x, rfl, hbl, hx, hx1, hx2, hx3⟩ := ((hr1.below hbw).more hbw.size).ac hlk
            have hml : m ≤ 100 := by have := HM.out; have := sortTo_len xs t k ht; omega
            by_cases hw : x.who = (t : Int)
            · have hw1 : (x.who == (t : Int)) = true := by simp [hw]
              have HN := Lib.hid (sortTo_yes hx hw)
              have hsz := hbw.size
              clear hx hw
              go_wp2_with (at_builtin; refine wpList_push_ac rfl _ _ rfl x rfl (hown.alloc _) rfl (heap_alloc_new wr _) (by omega) (by simp; omega) ?_; intro A' c' w' ho' hb' _)
              have hb7 := (hbw.alloc hsz (.cells #[.int .i64 x.who, .int .i64 x.node, .bool x.write] 30)).trans hb'
              rw [← HN.out] at ho'
              clear hown hbw hb'
              go_wp2
              go_roundg (xs.length - (k + 1))
              case measure => omega
              case rel => exact ⟨k + 1, m + 1, A', c', by omega, rfl, by go_num, rfl, by show _ = _; rw [HN.out, List.length_append, HM.out]; rfl, ho', hb7⟩
            · have hw1 : (x.who == (t : Int)) = false := by simp [hw]
              have HN := Lib.hid (sortTo_no hx hw)
              clear hx hw
              go_wp2
              go_roundg (xs.length - (k + 1))
              case measure => omega
              case rel => exact ⟨k + 1, m, A6, c6, by omega, rfl, by go_num, rfl, by show _ = _; rw [HN.out]; exact HM.out, by rw [HN.out]; exact hown, hbw⟩
          · have HN := Lib.hid (sortTo_next xs ht4 hlk)
            go_wp2
            go_roundg (4 - (t + 1))
            case measure => omega
            case rel => exact ⟨t + 1, m, A6, c6, by omega, rfl, by go_num, rfl, by rw [← HN.out]; exact HM.out, by rw [← HN.out]; exact hown, hbw⟩
      · rw [sortTo_end xs ht4] at hown hm
        subst hm
        have hok := (validA_iff.1 HV.out).2
        have hsl : (sortA xs).length ≤ 17 := Nat.le_trans Tl.sortA_len hl1
        have hr6 := Rd.of_own hown
        have hcap6 := own_cap hown
        have hc := serialOrder_any A6 c6 (sortA xs) wr (by omega) hcap6 hr6
        have HC := Lib.hid hc
        clear hc hown hr6
        go_wp2_with fail
        refine HC.out.mono ?_
        rintro e w6 ⟨A7, c7, rfl, ho7, hb6⟩
        have hs : sres (sortA xs) = upTo (sortA xs) 4 := by unfold sres; rw [Tl.sortA_valid HV.out, Tl.sortA_serialOk hok, Tl.sortA_serial hok]; rfl
        have hfine : (validA (sortA xs) && serialOk (sortA xs)) = true := by rw [Tl.sortA_valid HV.out, Tl.sortA_serialOk hok]; rfl
        have hll := sres_len (sortA xs)
        rw [hs] at ho7 hll ⊢
        rw [hfine]
        have hr7 := Rd.of_own ho7
        have hb7 := below_then (below_then hb5 hbw hb5.size) hb6 (Nat.le_trans hb5.size hbw.size)
        clear HC ho7 hb6 hs hfine hbw
        clear hr1 hcap hcap6 hle hle2
        go_wp2
        obtain ⟨wo, rfl⟩ : ∃ wo : World, wo = wr := ⟨_, rfl⟩
        go_loopg [13] 5 (fun gk iv wr => ∃ k : Nat, k ≤ 4 ∧ gk = 5 - k ∧ iv = .int .i64 ((k : Int) + 1) ∧ Below w6.heap.size w6 wr)
        case atStart => exact ⟨0, by omega, rfl, rfl, Below.refl _ _⟩
        case round =>
          obtain ⟨k, hk, rfl, rfl, hbx⟩ := hrel
          by_cases hlk : k + 1 < (upTo (sortA xs) 4).length
          · obtain ⟨b, off, y, rfl, hbl, hy, hy1⟩ := (hr7.below hbx).int hlk
            obtain ⟨b2, off2, x, hA, hbl2, hx, hx1⟩ := (hr7.below hbx).int (k := k) (by omega)
            injection hA with hA
            injection hA with e1 e2
            subst e1 e2
            have hup := Tl.upTo_up (sortA xs) hx hy
            have hno : decide (y ≤ x) = false := by simp; omega
            have hd : decide ((k : Int) + 1 < ((upTo (sortA xs) 4).length : Int)) = true := by simp; omega
            have hin1 : (0 : Int) ≤ (k : Int) + 1 := by omega
            have hin2 : (k : Int) + 1 < ((upTo (sortA xs) 4).length : Int) := by omega
            have hin3 : (k : Int) < ((upTo (sortA xs) 4).length : Int) := by omega
            have htn : ((k : Int) + 1).toNat = k + 1 := by omega
            have hwr : IntKind.i64.wrap ((k : Int) + 1 - 1) = (k : Int) := by rw [IntWalk.i64_in _ (by omega)]; omega
            clear hx hy hup
            go_wp2
            go_quiet (fail)
            go_wp2
            go_roundg (5 - (k + 1))
            case measure => omega
            case rel => exact ⟨k + 1, by omega, rfl, by go_num, below_drewN hbx _⟩
          · go_wp2
            go_ret
            exact ⟨rfl, below_then hb7 hbx hb7.size⟩
end Go.Proofs.Ytfhofincbekadaa
