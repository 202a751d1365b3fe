/- The walk of FnFreeLocksBlock. -/
import Derived.Test.YtbjjlbimlhccpaaDoorLawT5
namespace Go.Proofs.YtbjjlbimlhccpaaDoor
open Go.RowKit
open Tl (Lk okM okL validT validT_iff held held_ok tog join join_ok askOk askOk_iff lockBlockers blockers mem_blockers T4 freeAll freeT takeLock)

theorem freeAll_succ {l : List Lk} {ts : List Int} {k : Nat} {t : Int} (ht : ts[k]? = some t) : freeAll l (ts.take (k + 1)) = freeT (freeAll l (ts.take k)) t := by
  unfold freeAll
  rw [take_succ_of ht, List.foldl_append]
  rfl

set_option maxHeartbeats 1000000 in
set_option maxRecDepth 100000 in
theorem law_FnFreeLocksBlock (A : Option Addr) (n c : Nat) (w : World) (h : Code8 w A n c) (hT : TabT w) (hJ : TabJ w) : Calls Tryd.prog 14 #[.slice A n c] w (PBool w true) := by
  have hle : (n : Int) ≤ 1048576 := by have := h.le; omega
  go_enter Tryd.func14, Tryd.ntmps14
  go_wp2_with fail
  refine (drawLockBlockers_any A n c _ h).mono ?_
  rintro e w1 ⟨ls, A1, c1, who, node, mode, rfl, ho1, hl1, hb1⟩
  have hr1 := Rd.of_own ho1
  have hcap := own_cap ho1
  have hT1 := hT.step hb1
  have hJ1 := hJ.step hb1
  have hbl := lockBlockers_len ls who node mode
  clear h ho1 hT hJ
  go_wp2_with fail
  refine (lockBlockers_any A1 c1 ls who node mode _ (by omega) hcap hT1 hJ1 hr1).mono ?_
  rintro e w2 ⟨A2, c2, rfl, ho2, hb2⟩
  have hr2 := Rd.of_own ho2
  have hr1 := hr1.step hb2
  have hT1 := hT1.step hb2
  have hJ1 := hJ1.step hb2
  have hb2 := below_then hb1 hb2 hb1.size
  clear hb1 ho2
  go_wp2_with fail
  refine (slockBlockers_any A1 c1 ls who node mode _ (by omega) hr1).mono ?_
  rintro e w3 ⟨A4, c4, rfl, ho4, hb3⟩
  have hr4 := Rd.of_own ho4
  have hr1 := hr1.step hb3
  have hr2 := hr2.step hb3
  have hT1 := hT1.step hb3
  have hJ1 := hJ1.step hb3
  have hb3 := below_then hb2 hb3 hb2.size
  clear hb2 ho4
  go_wp2_with fail
  refine (equalInts_same A2 c2 (lockBlockers ls who node mode) A4 c4 _ (by omega) hr2 hr4).mono ?_
  rintro e w5 ⟨rfl, hb5⟩
  have hr1 := hr1.step hb5
  have hr2 := hr2.step hb5
  have hT1 := hT1.step hb5
  have hJ1 := hJ1.step hb5
  have hb5 := below_then hb3 hb5 hb3.size
  clear hb3 hr4
  by_cases hnil : lockBlockers ls who node mode = []
  · have hz : (((lockBlockers ls who node mode).length : Int) == 0) = true := by rw [hnil]; rfl
    clear hnil
    go_wp2_with fail
    refine (slockBlockers_any A1 c1 ls who node mode _ (by omega) hr1).mono ?_
    rintro e w6 ⟨A6, c6, rfl, ho6, hb6⟩
    have hr6 := Rd.of_own ho6
    have hr2 := hr2.step hb6
    have hb6 := below_then hb5 hb6 hb5.size
    clear ho6 hb5
    go_wp2_with fail
    refine (equalInts_same A2 c2 (lockBlockers ls who node mode) A6 c6 _ (by omega) hr2 hr6).mono ?_
    rintro e w7 ⟨rfl, hb7⟩
    have hb7 := below_then hb6 hb7 hb6.size
    go_wp2
    go_ret
    exact ⟨rfl, hb7⟩
  · have hz : (((lockBlockers ls who node mode).length : Int) == 0) = false := by
      cases hq : lockBlockers ls who node mode with
      | nil => exact absurd hq hnil
      | cons a r => simp; omega
    obtain ⟨hv, ha⟩ := lockBlockers_some hnil
    have HV := Lib.hid hv
    have HA := Lib.hid ha
    have HB := Lib.hid (lockBlockers_valid hv ha)
    have hmo := (askOk_iff.1 ha).mode
    have HMO := Lib.hid hmo
    have HHO := Lib.hid (heldM_ok hv who node)
    clear hnil hv ha hmo
    obtain ⟨ts, hts⟩ : ∃ ts, ts = lockBlockers ls who node mode := ⟨_, rfl⟩
    have HTS : Hid (ts = blockers ls who node mode) := by show ts = _; rw [hts, HB.out]
    have hl48 : ls.length ≤ 48 := (validT_iff.1 HV.out).1
    have HLEN : Hid (∀ us, (freeAll ls us).length ≤ 48) := by
      show ∀ us, _
      intro us
      exact (validT_iff.1 (Tl.freeAll_valid HV.out us)).1
    rw [← hts] at hr2 hbl hz ⊢
    clear hts
    go_wp2
    clear hz
    go_loopg [8, 9] ts.length (fun gk v iv wr => ∃ (k : Nat) (A : Option Addr) (c m : Nat), k ≤ ts.length ∧ gk = ts.length - k ∧ iv = .int .i64 k ∧ v = .slice A m c ∧ Hid (m = (freeAll ls (ts.take k)).length) ∧ m ≤ c ∧
      Rd wr wr.heap.size 3 A m (lks (freeAll ls (ts.take k))) ∧ Below w5.heap.size w5 wr)
    case atStart => exact ⟨0, A1, c1, ls.length, by omega, rfl, rfl, rfl, rfl, hcap, hr1, Below.refl _ _⟩
    case round =>
      obtain ⟨k, A6, c6, m, hk, rfl, rfl, rfl, HM, hcap6, hr6, hbw⟩ := hrel
      have hlen6 := HLEN.out (ts.take k)
      have hTw := hT1.below hbw (Nat.le_refl _)
      have hJw := hJ1.below hbw (Nat.le_refl _)
      by_cases hlt : k < ts.length
      · obtain ⟨b, off, x, rfl, hbl2, hx, hcx⟩ := (hr2.below hbw).int hlt
        have HN := Lib.hid (freeAll_succ (l := ls) hx)
        have HVK := Lib.hid (Tl.freeAll_valid HV.out (ts.take k))
        obtain rfl := HM.out
        have HFE := Lib.hid (freeL_valid HVK.out x)
        clear HM hx
        go_wp2_with fail
        refine (freeLocks_any A6 c6 (freeAll ls (ts.take k)) x _ (by omega) hcap6 hTw hr6).mono ?_
        rintro e w7 ⟨A7, c7, rfl, ho7, hb7⟩
        rw [HFE.out, ← HN.out] at ho7
        rw [HFE.out, ← HN.out]
        have hr7 := Rd.of_own ho7
        have hcap7 := own_cap ho7
        have hb8 := hbw.trans (hb7.mono hbw.size)
        clear ho7 hr6 hbw hb7 hTw hJw hcx
        go_wp2
        go_roundg (ts.length - (k + 1))
        case measure => omega
        case rel => exact ⟨k + 1, A7, c7, _, by omega, rfl, by go_num, rfl, rfl, hcap7, hr7, hb8⟩
      · rw [take_all hlt] at hr6 HM hlen6
        have HBL : Hid (lockBlockers (freeAll ls ts) who node mode = []) := by
          show _ = []
          rw [lockBlockers_valid (Tl.freeAll_valid HV.out ts) HA.out, HTS.out]
          exact Tl.blockers_freeAll (validT_iff.1 HV.out).2.1 HMO.out
        have HTK : Hid ((takeLock (freeAll ls ts) who node mode).isSome = true) := by
          show _ = true
          rw [HTS.out]
          exact Tl.takeLock_freeAll HV.out HA.out
        have hb7 := below_then hb5 hbw hb5.size
        obtain rfl := HM.out
        clear HM hbw
        go_wp2_with fail
        refine (takeLock_any A6 c6 (freeAll ls ts) who node mode _ (by omega) hcap6 hTw hJw hr6).mono ?_
        rintro e w8 ⟨A8, c8, rfl, ho8, hb8⟩
        rw [HTK.out]
        have hr6 := hr6.step hb8
        have hTw := hTw.step hb8
        have hJw := hJw.step hb8
        have hb9 := below_then hb7 hb8 hb7.size
        clear ho8 hb8 hb7
        go_wp2_with fail
        refine (lockBlockers_any A6 c6 (freeAll ls ts) who node mode _ (by omega) hcap6 hTw hJw hr6).mono ?_
        rintro e w9 ⟨A9, c9, rfl, ho9, hb10⟩
        rw [HBL.out]
        have hb11 := below_then hb9 hb10 hb9.size
        clear ho9
        go_wp2
        go_ret
        exact ⟨rfl, hb11⟩
end Go.Proofs.YtbjjlbimlhccpaaDoor
