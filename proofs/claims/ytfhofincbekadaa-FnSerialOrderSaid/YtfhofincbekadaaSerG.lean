/- Contract: spec.SerialOrder. -/
import Derived.Test.YtfhofincbekadaaSerF
namespace Go.Proofs.Ytfhofincbekadaa
open Go.RowKit
open Tl (Ac okA validA validA_iff clash must takes clashes T4 mem_T4 free free_iff serial serialGo serialOk allDone allDone_iff must_takes)

def doneTo (xs : List Ac) (k : Nat) : Bool := (T4.take k).all fun t => !takes xs t || decide (t ∈ serial xs)
theorem doneTo_succ (xs : List Ac) {k : Nat} (hk : k < 4) : doneTo xs (k + 1) = (doneTo xs k && (!takes xs k || decide ((k : Int) ∈ serial xs))) := by
  unfold doneTo; rw [T4_take_succ hk, List.all_append]; simp
theorem doneTo_four (xs : List Ac) {k : Nat} (hk : 4 ≤ k) : doneTo xs k = serialOk xs := by
  unfold doneTo serialOk allDone
  rw [List.take_of_length_le (by simpa [T4] using hk)]
  simp
theorem serialOk_not {xs : List Ac} {k : Nat} (hk : k < 4) (ht : takes xs k = true) (hi : decide ((k : Int) ∈ serial xs) = false) : serialOk xs = false := by
  unfold serialOk allDone
  rw [List.all_eq_false]
  exact ⟨(k : Int), mem_T4.2 (by omega), by simp [ht, of_decide_eq_false hi]⟩

set_option maxHeartbeats 2000000 in
set_option maxRecDepth 100000 in
theorem sserialOrder_any (A : Option Addr) (c : Nat) (xs : List Ac) (w : World) (hn : xs.length ≤ 100000) (hr : Rd w w.heap.size 3 A xs.length (acs xs)) :
    Calls Try.prog 32 #[.slice A xs.length c] w (PSer w xs) := by
  cases hv : validA xs
  · go_enter Try.func32, Try.ntmps32
    go_wp2_with fail
    refine (svalidAccesses_any A c xs _ hn hr).mono ?_
    rintro e w1 ⟨rfl, hb1⟩
    rw [hv]
    go_wp2
    go_ret2
    have : sres xs = [] := by simp [sres, hv]
    exact ⟨none, 0, by rw [this, hv]; rfl, by rw [this]; exact World.ownsRow_nil _ _ _ _, hb1⟩
  · have hok := (validA_iff.1 hv).2
    go_enter Try.func32, Try.ntmps32
    go_wp2_with fail
    refine (svalidAccesses_any A c xs _ hn hr).mono ?_
    rintro e w1 ⟨rfl, hb1⟩
    rw [hv]
    have HV := Lib.hid hv
    have hr1 := hr.step hb1
    clear hv
    go_wp2_with fail
    refine (serial_any A c xs w1 hn hok hr1).mono ?_
    rintro e w2 ⟨A2, c2, rfl, hown, hb2⟩
    have hb3 := below_then hb1 hb2 hb1.size
    have hown2 := own_base hown hb1.size
    have hsl : (serial xs).length ≤ 4 := Tl.good_length hok (Tl.serial_good hok)
    clear hb1 hb2 hr1 hown
    go_wp2
    go_loopg [5] 4 (fun gk tv wr => ∃ k : Nat, k ≤ 4 ∧ gk = 4 - k ∧ tv = .int .i64 k ∧ Hid (doneTo xs k = true) ∧ 
      wr.ownsRow w.heap.size 3 1 (.slice A2 (serial xs).length c2) (serial xs).length (ints (serial xs)) ∧ Below w.heap.size w wr)
    case atStart => exact ⟨0, Nat.zero_le _, rfl, rfl, rfl, hown2, hb3⟩
    case round =>
      clear hown2 hb3
      obtain ⟨k, hk, rfl, rfl, HD, hown, hb⟩ := hrel
      by_cases hk4 : k < 4
      · have HU := Lib.hid (doneTo_succ xs hk4)
        have hr1 := (hr.below hb).more hb.size
        have hro := Rd.of_own hown
        go_wp2_with fail
        refine (takesPart_any A c xs (k : Int) _ hn hr1).mono ?_
        rintro e w' ⟨rfl, rfl⟩
        cases ht : takes xs (k : Int)
        · rw [ht, HD.out] at HU
          clear ht hro hr1
          go_wp2
          go_roundg (4 - (k + 1))
          case measure => omega
          case rel => exact ⟨k + 1, by omega, rfl, by go_num, by show _ = _; rw [HU.out]; rfl, hown, hb⟩
        · have HT := Lib.hid ht
          rw [ht, HD.out] at HU
          clear ht
          go_wp2_with fail
          refine (sisIn_any A2 c2 (serial xs) (k : Int) _ (by omega) hro).mono ?_
          rintro e w' ⟨rfl, rfl⟩
          cases hi : decide ((k : Int) ∈ serial xs)
          · have HN := Lib.hid (serialOk_not hk4 HT.out hi)
            clear hi hro hr1
            go_wp2
            go_ret2
            have : sres xs = [] := by unfold sres; rw [HV.out, HN.out]; rfl
            exact ⟨none, 0, by rw [this, HN.out]; simp, by rw [this]; exact World.ownsRow_nil _ _ _ _, hb⟩
          · rw [hi] at HU
            clear hi hro hr1
            go_wp2
            go_roundg (4 - (k + 1))
            case measure => omega
            case rel => exact ⟨k + 1, by omega, rfl, by go_num, by show _ = _; rw [HU.out]; rfl, hown, hb⟩
      · have HN := Lib.hid ((doneTo_four xs (k := k) (by omega)).symm.trans HD.out)
        go_wp2
        go_ret2
        have : sres xs = serial xs := by unfold sres; rw [HV.out, HN.out]; rfl
        exact ⟨A2, c2, by rw [this, HV.out, HN.out]; rfl, by rw [this]; exact hown, hb⟩
end Go.Proofs.Ytfhofincbekadaa
