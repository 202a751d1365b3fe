/- The walk of FnSerialOrderNone. -/
import Derived.Test.YtfhofincbekadaaSerG
import Derived.Test.YtfhofincbekadaaDrawA
import Derived.Test.YtfhofincbekadaaConf
import Derived.Test.YtfhofincbekadaaLL2
import Derived.Test.YtfhofincbekadaaLawA3
import Derived.Test.YtfhofincbekadaaKeep
namespace Go.Proofs.Ytfhofincbekadaa
open Go.RowKit
open Tl (Ac okA validA validA_iff T4 serial serialOk Wt pairWaits conflicts)

theorem cfl_at {xs : List Ac} {k : Nat} {p : List Int} (h : (cfl xs)[k]? = some p) : ∃ q : Int × Int, p = [q.1, q.2] ∧ (pairWaits xs)[k]? = some ⟨q.1, q.2⟩ := by
  unfold cfl at h
  rw [List.getElem?_map] at h
  unfold pairWaits
  rw [List.getElem?_map]
  cases hq : (conflicts xs)[k]? with
  | none => rw [hq] at h; cases h
  | some q => rw [hq] at h; exact ⟨q, (Option.some.inj h).symm, rfl⟩

set_option maxHeartbeats 2000000 in
set_option maxRecDepth 100000 in
theorem law_FnSerialOrderNone (A : Option Addr) (n c : Nat) (w : World) (h : Code8 w A n c) : Calls Try.prog 14 #[.slice A n c] w (PBool w true) := by
  have hle : (n : Int) ≤ 1048576 := by have := h.le; omega
  go_enter Try.func14, Try.ntmps14
  go_wp2_with fail
  refine (drawSerialOrder_any A n c _ h).mono ?_
  rintro e w1 ⟨xs, A1, c1, rfl, ho1, hl1, hb1⟩
  have hr1 := Rd.of_own ho1
  have hcap := own_cap ho1
  have hle2 := sres_len xs
  clear h ho1
  go_wp2_with fail
  refine (serialOrder_any A1 c1 xs _ (by omega) hcap hr1).mono ?_
  rintro e w2 ⟨A2, c2, rfl, ho2, hb2⟩
  have hr2 := Rd.of_own ho2
  have hr1 := hr1.step hb2
  have hb2 := below_then hb1 hb2 hb1.size
  clear ho2 hb1
  go_wp2_with fail
  refine (sserialOrder_any A1 c1 xs _ (by omega) hr1).mono ?_
  rintro e w3 ⟨A3, c3, rfl, ho3, hb3⟩
  have hr3 := Rd.of_own ho3
  have hr1 := hr1.step hb3
  have hr2 := hr2.step hb3
  have hb3 := below_then hb2 hb3 hb2.size
  clear ho3 hb2
  go_wp2_with fail
  refine (equalInts_same A2 c2 (sres xs) A3 c3 _ (by omega) hr2 hr3).mono ?_
  rintro e w4 ⟨rfl, hb4⟩
  have hr1 := hr1.step hb4
  have hr2 := hr2.step hb4
  have hr3 := hr3.step hb4
  have hb4 := below_then hb3 hb4 hb3.size
  clear hb3
  obtain ⟨sb, hsb⟩ : ∃ sb, (validA xs && serialOk xs) = sb := ⟨_, rfl⟩
  rw [hsb]
  have HSB := Lib.hid hsb
  have hse : (sb != sb) = false := by cases sb <;> rfl
  have hsq : (sb == sb) = true := by cases sb <;> rfl
  clear hsb
  go_wp2_with fail
  refine (validAccesses_any A1 c1 xs _ (by omega) hr1).mono ?_
  rintro e w5 ⟨rfl, hb5⟩
  have hr1 := hr1.step hb5
  have hr2 := hr2.step hb5
  have hr3 := hr3.step hb5
  have hb5 := below_then hb4 hb5 hb4.size
  clear hb4
  cases hv : validA xs
  · clear hv
    go_wp2_with fail
    refine (equalInts_same A2 c2 (sres xs) A3 c3 _ (by omega) hr2 hr3).mono ?_
    rintro e w7 ⟨rfl, hb7⟩
    have hb7 := below_then hb5 hb7 hb5.size
    go_wp2
    go_ret
    exact ⟨rfl, hb7⟩
  · have HV := Lib.hid hv
    clear hv hr2 hr3
    have hcr : cres xs = cfl xs := by unfold cres; rw [HV.out]; rfl
    have hlen := cres_len xs
    go_wp2_with fail
    have hr1' := hr1.step ((Below.refl w5.heap.size w5).alloc (Nat.le_refl _) (.cells #[] 40))
    refine (conflictsOf_any A1 c1 xs _ (by omega) hcap hr1').mono ?_
    rintro e w6 ⟨A6, c6, rfl, ho6, hb6⟩
    rw [hcr] at ho6 hlen ⊢
    have HO : Hid (OwnLL w6 (w5.heap.size + 1) (.slice A6 (cfl xs).length c6) (cfl xs).length (cfl xs)) := by show OwnLL _ _ _ _ _; simpa using ho6
    have hown := own_below (own_lit0 w5 40 2 (Nat.le_refl _)) hb6 (Nat.le_refl _)
    have hb7 := ((Below.refl w5.heap.size w5).alloc (Nat.le_refl _) (.cells #[] 40)).trans (hb6.mono (by simp))
    have HP : Hid ((pairWaits xs).length = (cfl xs).length) := by show _ = _; unfold pairWaits cfl; simp
    clear ho6 hb6 hr1' hr1 hcr
    go_wp2
    go_loopg [8, 10] (cfl xs).length (fun gk v iv wr => ∃ (k : Nat) (A : Option Addr) (c : Nat), k ≤ (cfl xs).length ∧ gk = (cfl xs).length - k ∧ iv = .int .i64 k ∧ v = .slice A k c ∧
      wr.ownsRow w5.heap.size 40 2 v k (wts ((pairWaits xs).take k)) ∧ Hid (Keeps w6 (.slice (some ⟨w5.heap.size, 0, none⟩) 0 0) wr v) ∧ Below w5.heap.size w5 wr)
    case atStart => exact ⟨0, _, 0, by omega, rfl, rfl, rfl, hown, Keeps.refl _ _, hb7⟩
    case round =>
      clear hown
      obtain ⟨k, A7, c7, hk, rfl, rfl, rfl, hown, HK, hbw⟩ := hrel
      by_cases hlt : k < (cfl xs).length
      · have hp := List.getElem?_eq_getElem (l := cfl xs) (i := k) hlt
        obtain ⟨q, hpq, hq⟩ := cfl_at hp
        rw [hpq] at hp
        obtain ⟨b, off, A8, c8, hA, hbl, hcell⟩ := HO.out.cells hp
        have hv0 : ∀ j, (Value.slice (some ⟨w5.heap.size, 0, none⟩) 0 0).ownBlock = some j → j < w5.heap.size + 1 := by
          intro j hj
          have : w5.heap.size = j := by simpa [Value.ownBlock] using hj
          omega
        obtain ⟨hc0, hr8⟩ := hcell wr _ _ HK.out hv0
        obtain ⟨b1, off1, z1, hA8, hbl1, hz1, hc1⟩ := hr8.int (k := 0) (by simp)
        subst hA8
        obtain ⟨hc1, hc2⟩ := Rd.pair hr8
        have HC : Hid (∀ (w' : World) (v' : Value), Keeps w6 (.slice (some ⟨w5.heap.size, 0, none⟩) 0 0) w' v' → w'.cell? ⟨b, off + k, none⟩ = some (.slice (some ⟨b1, off1, none⟩) 2 c8) ∧ w'.cell? ⟨b1, off1, none⟩ = some (.int .i64 q.1) ∧ w'.cell? ⟨b1, off1 + 1, none⟩ = some (.int .i64 q.2)) := fun w' v' hK => ⟨(hcell w' _ _ hK hv0).1, Rd.pair (hcell w' _ _ hK hv0).2⟩
        subst hA
        clear hcell hv0 hz1 hpq
        have HN : Hid ((pairWaits xs).take (k + 1) = (pairWaits xs).take k ++ [⟨q.1, q.2⟩]) := take_succ_of hq
        have hl2 : (([q.1, q.2] : List Int).length : Int) = 2 := rfl
        simp only [List.length_cons, List.length_nil] at hc0
        simp at hc0
        have hbs := hbw.size
        clear hp hq hr8
        go_wp2
        go_region_held3 (fun w' => w'.cell? ⟨b, off + k, none⟩ = some (.slice (some ⟨b1, off1, none⟩) 2 c8) ∧ w'.cell? ⟨b1, off1, none⟩ = some (.int .i64 q.1) ∧ w'.cell? ⟨b1, off1 + 1, none⟩ = some (.int .i64 q.2))
          (first
            | go_keep
            | exact hS)
          ((refine step_push_wt (xs := (pairWaits xs).take k) (y1 := q.1) (y2 := q.2) (by rfl) _ _ (by rfl) (by rfl) ((hown.alloc _).drew) (by rfl) (heap_alloc_new wr _) (by omega) (by simp; omega) ?_; intro A' c' w' ho' hb' hk'
            have hK2 : Keeps w6 (.slice (some ⟨w5.heap.size, 0, none⟩) 0 0) w' (.slice A' (k + 1) c') := HK.out.trans fun b2 e2 s2 n2 u2 x2 ho ha => hk' ((ho.alloc _).drew) ha
            have hS := HC.out w' _ hK2
            have HK2 := Lib.hid hK2
            clear hk' hK2))
        have hb8 := ((hbw.alloc hbs (.cells #[.int .i64 q.1, .int .i64 q.2] 40)).drew).trans hb'
        rw [← HN.out] at ho'
        clear hown hbw hb' hc0 hc1 hc2
        go_wp2
        go_roundg ((cfl xs).length - (k + 1))
        case measure => omega
        case rel => exact ⟨k + 1, A', c', by omega, rfl, by go_num, rfl, ho', HK2, hb8⟩
      · have hke : k = (cfl xs).length := by omega
        subst hke
        have hok := (validA_iff.1 HV.out).2
        rw [← HP.out, List.take_length] at hown
        have hr9 := Rd.of_own hown
        have hcl := deadlockOf_any A7 c7 (pairWaits xs) wr (by rw [HP.out]; omega) hr9
        rw [HP.out] at hcl
        have HC := Lib.hid hcl
        have hd : dlL (pairWaits xs) = Tl.deadOf (pairWaits xs) := by unfold dlL; rw [Tl.pairWaits_valid hok, if_pos rfl]
        have hdl : (((dlL (pairWaits xs)).length : Int) == 0) = sb := by
          have h1 := Tl.serialOk_iff hok
          have h2 := HSB.out
          rw [HV.out, Bool.true_and] at h2
          rw [hd, ← h2, Bool.eq_iff_iff, h1]
          simp
        clear hd hcl hr9 hown hok
        go_wp2_with fail
        refine HC.out.mono ?_
        rintro e w8 ⟨A9, c9, rfl, ho9, hb9⟩
        have hb10 := below_then (below_then hb5 hbw hb5.size) hb9 (Nat.le_trans hb5.size hbw.size)
        clear ho9
        go_wp2
        go_ret
        exact ⟨rfl, hb10⟩
end Go.Proofs.Ytfhofincbekadaa
