/- The walk of the law FnLocksFor. -/
import Derived.Test.YtgofokifcplmoaaDoorPathKit
import Derived.Test.YtgofokifcplmoaaDoorTreL
import Derived.Test.YtgofokifcplmoaaDoorTabB
import Derived.Test.YtgofokifcplmoaaDoorLks2
import Derived.BigQuiet
import Derived.IntWalk
namespace Go.Proofs.YtgofokifcplmoaaDoor
open Go.RowKit
open Tl (Nd Lk path validN validN_iff ValidN Grows need askOk locksF par validT validT_iff)

theorem locksN_len (t : List Nd) (who node mode : Int) : (locksN t who node mode).length ≤ 5 := by
  unfold locksN
  split
  · rename_i h
    simp only [Bool.and_eq_true] at h
    have h1 := isN_iff.1 h.1
    rw [Tl.locksF_length t (isN_grows h.1) who mode h1.1.1]
    exact (path_len_le (validN_iff.1 h1.2) h1.1.1 h1.1.2).2
  · simp
/-- The locks, one by one. -/
theorem locksN_full {t : List Nd} {who a mode : Int} (h2 : (locksN t who a mode).length ≠ 0) : ∃ L, (pathN t a).length = L + 1 ∧ (locksN t who a mode).length = L + 1 ∧ (1 ≤ mode ∧ mode ≤ 5) ∧ validT (locksN t who a mode) = true ∧
    (∀ (k : Nat) (z : Int), k < L → (pathN t a)[k]? = some z → (locksN t who a mode)[k]? = some ⟨who, z, need mode⟩) ∧ (∀ z : Int, (pathN t a)[L]? = some z → (locksN t who a mode)[L]? = some ⟨who, z, mode⟩) := by
  cases h : isN t a
  · simp [locksN, h] at h2
  cases ha : askOk who a mode
  · simp [locksN, ha] at h2
  have hg := isN_grows h
  have h0 := (isN_iff.1 h).1
  have e1 : locksN t who a mode = locksF t who a mode := by simp [locksN, h, ha]
  rw [e1, pathN_in h]
  have hok := Tl.askOk_iff.1 ha
  have hok2 := hok
  unfold Tl.okL at hok
  simp only at hok
  have hpos := List.length_pos_iff.2 (Tl.path_ne_nil hg h0.1)
  obtain ⟨L, hL⟩ : ∃ L, (path t a).length = L + 1 := ⟨(path t a).length - 1, by omega⟩
  have hF := locksF_ups (who := who) (mode := mode) hL
  have hll : (locksF t who a mode).length = L + 1 := by rw [Tl.locksF_length t hg who mode h0.1]; exact hL
  have hsort := Tl.path_sorted hg a h0.1
  have hlast := path_last hg h0.1
  rw [hL, Nat.add_sub_cancel] at hlast
  have hat : ∀ (k : Nat) (z : Int), k < L → (path t a)[k]? = some z → (locksF t who a mode)[k]? = some ⟨who, z, need mode⟩ := by
    intro k z hk hz
    rw [hF, List.getElem?_append_left (by rw [ups_len, List.length_take]; omega)]
    unfold ups
    rw [List.getElem?_map, List.getElem?_take, if_pos hk, hz]; rfl
  have hend : ∀ z : Int, (path t a)[L]? = some z → (locksF t who a mode)[L]? = some ⟨who, z, mode⟩ := by
    intro z hz
    obtain rfl := Option.some.inj (hlast.symm.trans hz)
    have hul : (ups ((path t a).take L) who mode).length = L := by rw [ups_len, List.length_take]; omega
    rw [hF, List.getElem?_append_right (by omega), hul, Nat.sub_self]; rfl
  have hnode : ∀ (k : Nat) (x : Lk), (locksF t who a mode)[k]? = some x → (path t a)[k]? = some x.node ∧ x.who = who ∧ 1 ≤ x.mode ∧ x.mode ≤ 5 := by
    intro k x hx
    have hk : k < L + 1 := by rw [← hll]; exact (List.getElem?_eq_some_iff.1 hx).1
    have hz := List.getElem?_eq_getElem (l := path t a) (i := k) (by omega)
    by_cases hkL : k < L
    · have h5 := hat k _ hkL hz
      rw [hx] at h5
      obtain rfl := Option.some.inj h5
      have h6 := Tl.need_ok hok.2.2.2.2
      exact ⟨hz, rfl, by rcases h6 with h7 | h7 <;> simp only [h7] <;> omega, by rcases h6 with h7 | h7 <;> simp only [h7] <;> omega⟩
    · obtain rfl : k = L := by omega
      have h5 := hend _ hz
      rw [hx] at h5
      obtain rfl := Option.some.inj h5
      exact ⟨hz, rfl, hok.2.2.2.2.1, hok.2.2.2.2.2⟩
  refine ⟨L, hL, hll, hok.2.2.2.2, ?_, hat, hend⟩
  rw [validT_iff]
  have h12 := (path_len_le (validN_iff.1 (isN_iff.1 h).2) h0.1 h0.2).2
  refine ⟨by omega, ?_, ?_⟩
  · intro x hx
    obtain ⟨k, hk, rfl⟩ := List.getElem_of_mem hx
    have h5 := hnode k _ (List.getElem?_eq_getElem hk)
    have h6 := Tl.mem_path_le hg a h0.1 _ (List.mem_of_getElem? h5.1)
    unfold Tl.okL
    rw [h5.2.1]
    omega
  · unfold Tl.fitAll
    rw [List.pairwise_iff_getElem]
    intro i j hi hj hij e
    exfalso
    have h5 := (hnode i _ (List.getElem?_eq_getElem hi)).1
    have h6 := (hnode j _ (List.getElem?_eq_getElem hj)).1
    obtain ⟨hi', e5⟩ := List.getElem?_eq_some_iff.1 h5
    obtain ⟨hj', e6⟩ := List.getElem?_eq_some_iff.1 h6
    have h7 := List.pairwise_iff_getElem.1 hsort i j hi' hj' hij
    rw [e5, e6, e] at h7
    omega

set_option maxHeartbeats 1000000 in
set_option maxRecDepth 100000 in
theorem law_FnLocksFor (A : Option Addr) (n c : Nat) (w : World) (h : Code8 w A n c) (hT : TabT w) : Calls Tryd.prog 3 #[.slice A n c] w (PBool w true) := by
  have hle : (n : Int) ≤ 1048576 := by have := h.le; omega
  go_enter Tryd.func3, Tryd.ntmps3
  go_wp2_with fail
  refine (drawLocksFor_any A n c _ h).mono ?_
  rintro e w1 ⟨t, A1, c1, who, a, mode, rfl, ht1, ha, hb1⟩
  clear h
  go_wp2_with fail
  refine (locksFor_any A1 c1 t who a mode _ ht1.len4 ht1.cap ht1.short ht1.rd).mono ?_
  rintro e w2 ⟨A2, c2, rfl, ho2, hb2⟩
  have ht2 := ht1.step hb2
  have hr2 := Rd.of_own ho2
  have hcap2 := own_cap ho2
  have hb2 := below_then hb1 hb2 hb1.size
  clear ht1 hb1 ho2
  go_wp2_with fail
  refine (slocksFor_any A1 c1 t who a mode _ ht2.len4 ht2.cap ht2.short ht2.rd).mono ?_
  rintro e w3 ⟨A3, c3, rfl, ho3, hb3⟩
  have ht3 := ht2.step hb3
  have hr3 := hr2.step hb3
  have hs3 := Rd.of_own ho3
  have hb3 := below_then hb2 hb3 hb2.size
  have hpl := locksN_len t who a mode
  clear ht2 hb2 hr2 ho3
  go_wp2_with fail
  refine (equalLocks_same A2 c2 (locksN t who a mode) A3 c3 _ (by omega) hr3 hs3).mono ?_
  rintro e w4 ⟨rfl, hb4⟩
  have ht4 := ht3.step hb4
  have hr4 := hr3.step hb4
  have hb4 := below_then hb3 hb4 hb3.size
  have htl := ht4.len
  clear ht3 hb3 hr3 hs3
  by_cases hl2 : (locksN t who a mode).length = 0
  · have hz : (((locksN t who a mode).length : Int) == 0) = true := by rw [hl2]; rfl
    clear hl2
    go_wp2_with fail
    refine (slocksFor_any A1 c1 t who a mode _ ht4.len4 ht4.cap ht4.short ht4.rd).mono ?_
    rintro e w5 ⟨A5, c5, rfl, ho5, hb5⟩
    have hr5 := hr4.step hb5
    have hs5 := Rd.of_own ho5
    have hb5 := below_then hb4 hb5 hb4.size
    go_wp2_with fail
    refine (equalLocks_same A2 c2 (locksN t who a mode) A5 c5 _ (by omega) hr5 hs5).mono ?_
    rintro e w6 ⟨rfl, hb6⟩
    have hb6 := below_then hb5 hb6 hb5.size
    go_wp2
    go_ret
    exact ⟨rfl, hb6⟩
  · have hz : (((locksN t who a mode).length : Int) == 0) = false := by rw [beq_eq_false_iff_ne]; omega
    obtain ⟨L, hpl1, hpl2, hmd, hval, hat, hend⟩ := locksN_full hl2
    have HALL := Lib.hid (And.intro hpl1 (And.intro hpl2 (And.intro hval (And.intro hat hend))))
    clear hpl1 hpl2 hval hat hend hl2
    go_wp2_with fail
    refine (pathTo_any A1 c1 t a _ ht4.len4 ht4.cap ht4.short ht4.rd).mono ?_
    rintro e w5 ⟨A5, c5, rfl, ho5, hb5⟩
    have hr5 := hr4.step hb5
    have hs5 := Rd.of_own ho5
    have hb5 := below_then hb4 hb5 hb4.size
    obtain ⟨hpl1, hpl2, hval, hat, hend⟩ := HALL.out
    clear HALL
    obtain ⟨xs, hxs⟩ : ∃ xs, locksN t who a mode = xs := ⟨_, rfl⟩
    obtain ⟨ps, hps⟩ : ∃ ps, pathN t a = ps := ⟨_, rfl⟩
    rw [hxs] at hpl2 hval hat hend hr5 hcap2 ⊢
    rw [hps] at hpl1 hat hend hs5 ⊢
    have HL1 := Lib.hid hpl1
    have HL2 := Lib.hid hpl2
    have HVAL := Lib.hid hval
    have HAT := Lib.hid hat
    have HEND := Lib.hid hend
    have hL5 : L ≤ 4 := by rw [hxs, hpl2] at hpl; omega
    rw [hpl2] at hr5 hcap2 ⊢
    rw [hpl1] at hs5 ⊢
    clear ht4 hb4 hr4 ho5 hpl1 hpl2 hval hat hend hxs hps hpl hz
    go_wp2
    go_loopg [9] (L + 1) (fun gk iv wr => ∃ k : Nat, gk = L + 1 - k ∧ k ≤ L + 1 ∧ iv = .int .i64 k ∧ Below w5.heap.size w5 wr)
    case atStart => exact ⟨0, rfl, by omega, rfl, Below.refl _ _⟩
    case round =>
      obtain ⟨k, rfl, hk, rfl, hb⟩ := hrel
      have hrw := hr5.below hb
      have hsw := hs5.below hb
      by_cases hlt : k < L + 1
      · obtain ⟨bp, offp, z, rfl, hbpl, hz, hcz⟩ := hsw.int (k := k) (by rw [HL1.out]; omega)
        obtain ⟨bx, offx, x, rfl, hbxl, hx, hx1, hx2, hx3⟩ := hrw.lk (k := k) (by rw [HL2.out]; omega)
        have hk0 : (0 : Int) ≤ (k : Int) := by omega
        have hk1 : (k : Int) < (L : Int) + 1 := by omega
        have hk2 : decide ((L : Int) + 1 ≤ (k : Int)) = false := by rw [decide_eq_false_iff_not]; omega
        by_cases hkL : k < L
        · have e := HAT.out k z hkL hz
          obtain rfl := Option.some.inj (hx.symm.trans e)
          simp only at hx1 hx2 hx3
          have hkk : ((k : Int) == (L : Int)) = false := by rw [beq_eq_false_iff_ne]; omega
          clear hz hx e hkL hrw hsw
          go_wp2_with fail
          refine (needAbove_any mode _ hmd).mono ?_
          rintro e w6 ⟨rfl, rfl⟩
          go_wp2
          go_quiet (fail)
          go_wp2
          go_roundg (L + 1 - (k + 1))
          case measure => omega
          case rel => exact ⟨k + 1, rfl, by omega, by go_num, below_drewN hb _⟩
        · obtain rfl : k = L := by omega
          have e := HEND.out z hz
          obtain rfl := Option.some.inj (hx.symm.trans e)
          simp only at hx1 hx2 hx3
          have hkk : ((k : Int) == (k : Int)) = true := by simp
          clear hz hx e hkL hrw hsw
          go_wp2_with fail
          refine (needAbove_any mode _ hmd).mono ?_
          rintro e w6 ⟨rfl, rfl⟩
          go_wp2
          go_quiet (fail)
          go_wp2
          go_roundg (k + 1 - (k + 1))
          case measure => omega
          case rel => exact ⟨k + 1, rfl, by omega, by go_num, below_drewN hb _⟩
      · have hb6 := below_then hb5 hb hb5.size
        have hT6 := hT.below hb6 (Nat.le_refl _)
        have hee : (((L : Int) + 1) == ((L : Int) + 1)) = true := by simp
        have hrx : Rd wr wr.heap.size 3 A2 xs.length (lks xs) := by rw [HL2.out]; exact hr5.step hb
        have HV := validTable_any A2 c2 xs wr (by rw [HL2.out]; omega) (by rw [HL2.out]; omega) hT6 hrx
        rw [HL2.out, HVAL.out] at HV
        have HV := Lib.hid HV
        clear hrw hsw hrx
        go_wp2_with fail
        refine HV.out.mono ?_
        rintro e w7 ⟨rfl, hb7⟩
        have hb7 := below_then hb6 hb7 hb6.size
        go_wp2
        go_ret
        exact ⟨rfl, hb7⟩
end Go.Proofs.YtgofokifcplmoaaDoor
