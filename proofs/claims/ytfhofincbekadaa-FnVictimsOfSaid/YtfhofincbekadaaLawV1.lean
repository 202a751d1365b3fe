/- The walk of FnVictimsOf. -/
import Derived.Test.YtfhofincbekadaaVicKit
namespace Go.Proofs.Ytfhofincbekadaa
open Go.RowKit
open Tl (Wt okW validW validW_iff dropW victims deadOf mem_deadOf)

set_option maxHeartbeats 1000000 in
set_option maxRecDepth 100000 in
theorem law_FnVictimsOf (A : Option Addr) (n c : Nat) (w : World) (h : Code8 w A n c) : Calls Try.prog 13 #[.slice A n c] w (PBool w true) := by
  have hle : (n : Int) ≤ 1048576 := by have := h.le; omega
  go_enter Try.func13, Try.ntmps13
  go_wp2_with fail
  refine (drawVictimsOf_any A n c _ h).mono ?_
  rintro e w1 ⟨ws, A1, c1, rfl, ho1, hl1, hb1⟩
  have hr1 := Rd.of_own ho1
  have hle2 := vicL_len ws
  clear h ho1
  go_wp2_with fail
  refine (victimsOf_any A1 c1 ws _ (by omega) hr1).mono ?_
  rintro e w2 ⟨A2, c2, rfl, ho2, hb2⟩
  have hr2 := Rd.of_own ho2
  have hr1 := hr1.step hb2
  have hb2 := below_then hb1 hb2 hb1.size
  clear ho2 hb1
  go_wp2_with fail
  refine (svictimsOf_any A1 c1 ws _ (by omega) hr1).mono ?_
  rintro e w3 ⟨A3, c3, rfl, ho3, hb3⟩
  have hr3 := Rd.of_own ho3
  have hr1 := hr1.step hb3
  have hr2 := hr2.step hb3
  have hb3 := below_then hb2 hb3 hb2.size
  clear ho3 hb2
  go_wp2_with fail
  refine (equalInts_same A2 c2 (vicL ws) A3 c3 _ (by omega) hr2 hr3).mono ?_
  rintro e w4 ⟨rfl, hb4⟩
  have hr1 := hr1.step hb4
  have hr2 := hr2.step hb4
  have hb4 := below_then hb3 hb4 hb3.size
  clear hr3 hb3
  go_wp2_with fail
  refine (validWaits_any A1 c1 ws _ (by omega) hr1).mono ?_
  rintro e w5 ⟨rfl, hb5⟩
  have hr1 := hr1.step hb5
  have hr2 := hr2.step hb5
  have hb5 := below_then hb4 hb5 hb4.size
  clear hb4
  cases hv : validW ws
  · have HV := Lib.hid hv
    clear hv
    go_wp2_with fail
    refine (svictimsOf_any A1 c1 ws _ (by omega) hr1).mono ?_
    rintro e w6 ⟨A3, c3, rfl, ho3, hb6⟩
    have hr3 := Rd.of_own ho3
    have hr2 := hr2.step hb6
    have hb6 := below_then hb5 hb6 hb5.size
    clear ho3 hb5
    go_wp2_with fail
    refine (equalInts_same A2 c2 (vicL ws) A3 c3 _ (by omega) hr2 hr3).mono ?_
    rintro e w7 ⟨rfl, hb7⟩
    have hb7 := below_then hb6 hb7 hb6.size
    go_wp2
    go_ret
    exact ⟨rfl, hb7⟩
  · have HV := Lib.hid hv
    clear hv
    go_wp2
    go_loopg [5, 6] ws.length (fun gk v i wr => ∃ (k m : Nat) (A : Option Addr) (c : Nat), k ≤ ws.length ∧ gk = ws.length - k ∧ i = .int .i64 k ∧ v = .slice A m c ∧ Hid (m = (leftWs (vicL ws) (ws.take k)).length) ∧
      wr.ownsRow w5.heap.size 40 2 v m (wts (leftWs (vicL ws) (ws.take k))) ∧ Below w5.heap.size w5 wr)
    case atStart => exact ⟨0, 0, _, 0, by omega, rfl, rfl, rfl, rfl, own_lit0 w5 40 2 (Nat.le_refl _), (Below.refl _ _).alloc (Nat.le_refl _) _⟩
    case round =>
      obtain ⟨k, m, A6, c6, hk, rfl, rfl, rfl, HM, hown, hbw⟩ := hrel
      by_cases hlt : k < ws.length
      · obtain ⟨b, off, x, rfl, hbl2, hx, hc1, hc2⟩ := (hr1.below hbw).wt hlt
        have hr2w := hr2.below hbw
        have hml := leftWs_len (vicL ws) ws k
        by_cases h1 : x.who ∈ vicL ws
        · have h1' : decide (x.who ∈ vicL ws) = true := by simp [h1]
          have HN := Lib.hid (leftWs_no hx (.inl h1))
          have H1 := Lib.hid h1'
          clear hx h1 h1'
          go_wp2_with fail
          refine (lisIn_any A2 c2 (vicL ws) x.who _ (by omega) hr2w).mono ?_
          rintro e w7 ⟨rfl, rfl⟩
          rw [H1.out]
          go_wp2
          go_roundg (ws.length - (k + 1))
          case measure => omega
          case rel => exact ⟨k + 1, m, A6, c6, by omega, rfl, by go_num, rfl, by rw [HN.out]; exact HM, by rw [HN.out]; exact hown, hbw⟩
        · have h1' : decide (x.who ∈ vicL ws) = false := by simp [h1]
          have H1 := Lib.hid h1'
          by_cases h2 : x.to ∈ vicL ws
          · have h2' : decide (x.to ∈ vicL ws) = true := by simp [h2]
            have HN := Lib.hid (leftWs_no hx (.inr h2))
            have H2 := Lib.hid h2'
            clear hx h1 h1' h2 h2'
            go_wp2_with fail
            refine (lisIn_any A2 c2 (vicL ws) x.who _ (by omega) hr2w).mono ?_
            rintro e w7 ⟨rfl, rfl⟩
            rw [H1.out]
            go_wp2_with fail
            refine (lisIn_any A2 c2 (vicL ws) x.to _ (by omega) hr2w).mono ?_
            rintro e w7 ⟨rfl, rfl⟩
            rw [H2.out]
            go_wp2
            go_roundg (ws.length - (k + 1))
            case measure => omega
            case rel => exact ⟨k + 1, m, A6, c6, by omega, rfl, by go_num, rfl, by rw [HN.out]; exact HM, by rw [HN.out]; exact hown, hbw⟩
          · have h2' : decide (x.to ∈ vicL ws) = false := by simp [h2]
            have HN := Lib.hid (leftWs_yes hx h1 h2)
            have H2 := Lib.hid h2'
            clear hx h1 h1' h2 h2'
            go_wp2_with fail
            refine (lisIn_any A2 c2 (vicL ws) x.who _ (by omega) hr2w).mono ?_
            rintro e w7 ⟨rfl, rfl⟩
            rw [H1.out]
            go_wp2_with fail
            refine (lisIn_any A2 c2 (vicL ws) x.to _ (by omega) hr2w).mono ?_
            rintro e w7 ⟨rfl, rfl⟩
            rw [H2.out]
            obtain rfl := HM.out
            clear HM
            go_wp2_with (at_builtin; refine wpList_push_wt rfl _ _ rfl rfl hown rfl rfl (by omega) hbw.size ?_; intro A' c' w' ho' hb' _)
            have hb7 := hbw.trans hb'
            rw [← HN.out] at ho'
            clear hown hbw hb' hc1 hc2 hr2w
            go_wp2
            go_roundg (ws.length - (k + 1))
            case measure => omega
            case rel => exact ⟨k + 1, (leftWs (vicL ws) (ws.take k)).length + 1, A', c', by omega, rfl, by go_num, rfl, by show _ = _; rw [HN.out, List.length_append]; rfl, ho', hb7⟩
      · rw [take_all hlt] at hown HM
        obtain rfl := HM.out
        have HD := Lib.hid (leftWs_dead HV.out)
        have hr7 := Rd.of_own hown
        have hr1w := (hr1.below hbw).more hbw.size
        have hb7 := below_then hb5 hbw hb5.size
        have hll := Nat.le_trans (List.length_filter_le (fun x : Wt => decide (x.who ∉ vicL ws ∧ x.to ∉ vicL ws)) ws) (by omega : ws.length ≤ 100000)
        have hvd : (((vicL ws).length : Int) == 0) = (((dlL ws).length : Int) == 0) := by
          rw [vicL_valid HV.out, dlL_valid HV.out, Bool.eq_iff_iff]
          simpa using victims_nil_iff ws
        have HVD := Lib.hid hvd
        clear HM hown hbw hvd
        go_wp2_with fail
        refine (deadlockOf_any A6 c6 (leftWs (vicL ws) ws) wr hll hr7).mono ?_
        rintro e w8 ⟨A8, c8, rfl, ho8, hb8⟩
        have hr1w := hr1w.step hb8
        have hb9 := below_then hb7 hb8 hb7.size
        rw [HD.out]
        simp only [List.length_nil]
        clear ho8 hb8 hb7 hr7
        go_wp2_with fail
        refine (deadlockOf_any A1 c1 ws _ (by omega) hr1w).mono ?_
        rintro e w9 ⟨A9, c9, rfl, ho9, hb10⟩
        have hb11 := below_then hb9 hb10 hb9.size
        clear ho9
        go_wp2
        go_ret
        rw [HVD.out]
        exact ⟨by simp, hb11⟩
end Go.Proofs.Ytfhofincbekadaa
