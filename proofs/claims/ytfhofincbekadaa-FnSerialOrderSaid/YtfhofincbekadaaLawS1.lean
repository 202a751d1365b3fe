/- The walk of FnSerialOrder. -/
import Derived.Test.YtfhofincbekadaaLawS3
namespace Go.Proofs.Ytfhofincbekadaa
open Go.RowKit
open Tl (Ac okA validA validA_iff T4 serial serialOk Wt pairWaits conflicts Good takes must)

theorem placeOf_eq {xs : List Int} (hn : xs.Nodup) {j : Nat} {t : Int} (h : xs[j]? = some t) : placeOf xs t = j := by
  have hf : xs.findIdx? (fun x => decide (x = t)) = some j := by
    rw [List.findIdx?_eq_some_iff_getElem]
    obtain ⟨h1, h2⟩ := List.getElem?_eq_some_iff.1 h
    refine ⟨h1, by simp [h2], ?_⟩
    intro i hi
    simp only [decide_eq_true_eq]
    intro he
    have := Tl.nodup_inj hn (i := i) (j := j) (a := t) (List.getElem?_eq_some_iff.2 ⟨by omega, he⟩) h
    omega
  simp [placeOf, hf]
theorem placeOf_q {A : Option Addr} {c : Nat} {xs : List Int} {t : Int} {w : World} {n B : Nat} (hn : xs.length ≤ 100000) (hr : Rd w B 1 A xs.length (ints xs)) :
    Calls Try.prog 33 #[.slice A xs.length c, .int .i64 t] (w.drewN n) fun e w'' => e = .returned (.int .i64 (placeOf xs t)) ∧ ∃ m, w'' = w.drewN m :=
  quiet_same (placeOf_any A c xs t _ hn (hr.drewN n)) rfl
theorem serial_order {xs : List Ac} (hv : validA xs = true) (ho : serialOk xs = true) {q : Int × Int} {k : Nat} (hq : (pairWaits xs)[k]? = some ⟨q.1, q.2⟩) : 0 ≤ placeOf (serial xs) q.1 ∧ placeOf (serial xs) q.1 < placeOf (serial xs) q.2 := by
  have hok := (validA_iff.1 hv).2
  have hg := Tl.serial_good hok
  have hm : must xs q.1 q.2 = true := (Tl.mem_pairWaits hok).1 (List.mem_of_getElem? hq)
  have hall := (Tl.allDone_iff hok).1 ho
  obtain ⟨j, hj⟩ := List.mem_iff_getElem?.1 (hall _ (Tl.must_takes hm).2)
  obtain ⟨i, hij, hi⟩ := hg.order j _ _ hj hm
  rw [placeOf_eq hg.nodup hi, placeOf_eq hg.nodup hj]
  omega
theorem serial_all {xs : List Ac} (hv : validA xs = true) (ho : serialOk xs = true) {x : Ac} (hx : x ∈ xs) : x.who ∈ serial xs :=
  (Tl.allDone_iff (validA_iff.1 hv).2).1 ho _ (Tl.takes_iff.2 ⟨x, hx, rfl⟩)

set_option maxHeartbeats 2000000 in
set_option maxRecDepth 100000 in
theorem law_FnSerialOrder (A : Option Addr) (n c : Nat) (w : World) (h : Code8 w A n c) : Calls Try.prog 11 #[.slice A n c] w (PBool w true) := by
  have hle : (n : Int) ≤ 1048576 := by have := h.le; omega
  go_enter Try.func11, Try.ntmps11
  go_wp2_with fail
  refine (drawSerialOrder_any A n c _ h).mono ?_
  rintro e w1 ⟨xs, A1, c1, rfl, ho1, hl1, hb1⟩
  have hr1 := Rd.of_own ho1
  have hcap := own_cap ho1
  have hle2 := sres_len xs
  clear h ho1
  go_wp2_with fail
  refine (serialOrder_any A1 c1 xs _ (by omega) hcap hr1).mono ?_
  rintro e w2 ⟨A2, c2, rfl, ho2, hb2⟩
  have hr2 := Rd.of_own ho2
  have hr1 := hr1.step hb2
  have hb2 := below_then hb1 hb2 hb1.size
  clear ho2 hb1
  go_wp2_with fail
  refine (sserialOrder_any A1 c1 xs _ (by omega) hr1).mono ?_
  rintro e w3 ⟨A3, c3, rfl, ho3, hb3⟩
  have hr3 := Rd.of_own ho3
  have hr1 := hr1.step hb3
  have hr2 := hr2.step hb3
  have hb3 := below_then hb2 hb3 hb2.size
  clear ho3 hb2
  go_wp2_with fail
  refine (equalInts_same A2 c2 (sres xs) A3 c3 _ (by omega) hr2 hr3).mono ?_
  rintro e w4 ⟨rfl, hb4⟩
  have hr1 := hr1.step hb4
  have hr2 := hr2.step hb4
  have hr3 := hr3.step hb4
  have hb4 := below_then hb3 hb4 hb3.size
  clear hb3
  obtain ⟨sb, hsb⟩ : ∃ sb, (validA xs && serialOk xs) = sb := ⟨_, rfl⟩
  rw [hsb]
  have HSB := Lib.hid hsb
  have hse : (sb != sb) = false := by cases sb <;> rfl
  have hsq : (sb == sb) = true := by cases sb <;> rfl
  clear hsb
  cases sb
  · go_wp2_with fail
    refine (equalInts_same A2 c2 (sres xs) A3 c3 _ (by omega) hr2 hr3).mono ?_
    rintro e w7 ⟨rfl, hb7⟩
    have hb7 := below_then hb4 hb7 hb4.size
    go_wp2
    go_ret
    exact ⟨rfl, hb7⟩
  · have hsp := HSB.out
    rw [Bool.and_eq_true] at hsp
    have HV := Lib.hid hsp.1
    have HO2 := Lib.hid hsp.2
    have hse2 : sres xs = serial xs := by unfold sres; rw [HSB.out]; rfl
    have hcr : cres xs = cfl xs := by unfold cres; rw [HV.out]; rfl
    have hlen := cres_len xs
    rw [hse2] at hr2 hle2 ⊢
    clear hr3 hsp hse2
    go_wp2_with fail
    refine (conflictsOf_any A1 c1 xs _ (by omega) hcap hr1).mono ?_
    rintro e w6 ⟨A6, c6, rfl, ho6, hb6⟩
    rw [hcr] at ho6 hlen ⊢
    have hrl := RdLL.of_own ho6
    have hr1 := hr1.step hb6
    have hr2 := hr2.step hb6
    have hb6 := below_then hb4 hb6 hb4.size
    clear ho6 hcr hb4
    go_wp2
    go_loopg [9] (cfl xs).length (fun gk iv wr => ∃ k : Nat, k ≤ (cfl xs).length ∧ gk = (cfl xs).length - k ∧ iv = .int .i64 k ∧ Below w6.heap.size w6 wr)
    case atStart => exact ⟨0, by omega, rfl, rfl, Below.refl _ _⟩
    case round =>
      obtain ⟨k, hk, rfl, rfl, hbw⟩ := hrel
      by_cases hlt : k < (cfl xs).length
      · obtain ⟨b, off, p, A8, c8, rfl, hbl, hp, hc0, hr8⟩ := (hrl.below hbw).at_ hlt
        obtain ⟨q, rfl, hq⟩ := cfl_at hp
        obtain ⟨b1, off1, z1, rfl, hbl1, hz1, hc1⟩ := hr8.int (k := 0) (by simp)
        obtain ⟨hc1, hc2⟩ := Rd.pair hr8
        obtain ⟨hpl0, hpl1⟩ := serial_order HV.out HO2.out hq
        have hr2w := hr2.below hbw
        simp only [List.length_cons, List.length_nil] at hc0
        simp at hc0
        clear hp hq hz1 hr8
        go_wp2
        go_quiet ((go_at_call 33; exact placeOf_q (by omega) hr2w))
        go_wp2
        go_roundg ((cfl xs).length - (k + 1))
        case measure => omega
        case rel => exact ⟨k + 1, by omega, rfl, by go_num, below_drewN hbw _⟩
      · go_wp2
        obtain ⟨w0, rfl⟩ : ∃ w0 : World, w0 = wr := ⟨_, rfl⟩
        have hb7 := below_then hb6 hbw hb6.size
        have hr1 := (hr1.below hbw).more hbw.size
        have hr2 := (hr2.below hbw).more hbw.size
        clear hbw hrl hb6
        go_loopg [10] xs.length (fun gk iv wr => ∃ k : Nat, k ≤ xs.length ∧ gk = xs.length - k ∧ iv = .int .i64 k ∧ Below w0.heap.size w0 wr)
        case atStart => exact ⟨0, by omega, rfl, rfl, Below.refl _ _⟩
        case round =>
          obtain ⟨j, hj, rfl, rfl, hbw⟩ := hrel
          by_cases hlj : j < xs.length
          · obtain ⟨b, off, x, rfl, hbl, hx, hx1, hx2, hx3⟩ := (hr1.below hbw).ac hlj
            have hin : decide (x.who ∈ serial xs) = true := by simpa using serial_all HV.out HO2.out (List.mem_of_getElem? hx)
            have hr2w := hr2.below hbw
            clear hx
            go_wp2_with fail
            refine (lisIn_any A2 c2 (serial xs) x.who _ (by omega) hr2w).mono ?_
            rintro e w7 ⟨rfl, rfl⟩
            rw [hin]
            clear hin
            go_wp2
            go_roundg (xs.length - (j + 1))
            case measure => omega
            case rel => exact ⟨j + 1, by omega, rfl, by go_num, hbw⟩
          · have hb8 := below_then hb7 hbw hb7.size
            go_wp2
            go_ret
            exact ⟨ret_bool (decide_eq_true (by omega)), hb8⟩
end Go.Proofs.Ytfhofincbekadaa
