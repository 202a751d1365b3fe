/- The walk of the law FnLocksForBelow. -/
import Derived.Test.YtgofokifcplmoaaPathKit
import Derived.Test.YtgofokifcplmoaaTreL
import Derived.Test.YtgofokifcplmoaaExt
import Derived.Test.YtgofokifcplmoaaLks2
import Derived.IntWalk
namespace Go.Proofs.Ytgofokifcplmoaa
open Go.RowKit
open Tl (Nd Lk path validN validN_iff ValidN Grows need askOk locksF par)

theorem equalLocks_at (A : Option Addr) (c : Nat) (xs : List Lk) (n : Nat) (A' : Option Addr) (c' n' : Nat) (w : World) {B : Nat} (hx : xs.length = n) (hx' : xs.length = n') (hn : xs.length ≤ 100000) (hr : Rd w B 3 A n (lks xs)) (hr' : Rd w B 3 A' n' (lks xs)) :
    Calls Try.prog 35 #[.slice A n c, .slice A' n' c'] w (PBool w true) := by
  subst hx
  subst hx'
  exact equalLocks_same A c xs A' c' w hn hr hr'
theorem locksN_len (t : List Nd) (who node mode : Int) : (locksN t who node mode).length ≤ 5 := by
  unfold locksN
  split
  · rename_i h
    simp only [Bool.and_eq_true] at h
    have h1 := isN_iff.1 h.1
    rw [Tl.locksF_length t (isN_grows h.1) who mode h1.1.1]
    exact (path_len_le (validN_iff.1 h1.2) h1.1.1 h1.1.2).2
  · simp
theorem askOk_up {who node p mode : Int} (h : askOk who node mode = true) (h1 : 0 ≤ p) (h2 : p < node) : askOk who p mode = true := by
  unfold askOk at *
  rw [decide_eq_true_eq] at *
  omega
/-- The locks for the parent. -/
theorem locksN_parent {t : List Nd} {who a mode : Int} (h2 : 2 ≤ (locksN t who a mode).length) : ∃ (j : Nat) (x : Nd) (M : Nat), a = j ∧ j < t.length ∧ t[j]? = some x ∧
    (locksN t who x.parent mode).length = M + 1 ∧ (locksN t who a mode).length = M + 2 ∧ (locksN t who a mode).take M = (locksN t who x.parent mode).take M := by
  cases h : isN t a
  · simp [locksN, h] at h2
  cases ha : askOk who a mode
  · simp [locksN, ha] at h2
  obtain ⟨j, rfl, hj⟩ := isN_nat h
  have hx : t[j]? = some t[j] := List.getElem?_eq_getElem hj
  have hg := isN_grows h
  have e1 : locksN t who (j : Int) mode = locksF t who (j : Int) mode := by simp [locksN, h, ha]
  rw [e1] at h2 ⊢
  have hl := Tl.locksF_length t hg who mode (node := (j : Int)) (by omega)
  have hp : 0 ≤ t[j].parent ∧ t[j].parent < j := by
    rcases hg j _ hx with h3 | h3
    · obtain ⟨rfl, _⟩ := h3
      rw [show ((0 : Nat) : Int) = 0 from rfl] at hl h2
      rw [Tl.path_zero hg] at hl
      simp at hl
      omega
    · exact h3
  have hN : isN t t[j].parent = true := isN_of (isN_iff.1 h).2 hp.1 (by omega)
  have e2 : locksN t who t[j].parent mode = locksF t who t[j].parent mode := by simp [locksN, hN, askOk_up ha hp.1 hp.2]
  have hb := Tl.locksF_below t hg who mode (node := (j : Int)) (by omega) (by rw [Tl.par_of hx]; exact hp.1)
  rw [Tl.par_of hx] at hb
  have hpp := Tl.locksF_length t hg who mode (node := t[j].parent) hp.1
  have hne := List.length_pos_iff.2 (Tl.path_ne_nil hg hp.1)
  refine ⟨j, t[j], (locksF t who t[j].parent mode).length - 1, rfl, hj, hx, ?_, ?_, ?_⟩
  · rw [e2]; omega
  · omega
  · rw [e2]; exact hb.2

set_option maxHeartbeats 1000000 in
set_option maxRecDepth 100000 in
theorem law_FnLocksForBelow (A : Option Addr) (n c : Nat) (w : World) (h : Code8 w A n c) : Calls Try.prog 12 #[.slice A n c] w (PBool w true) := by
  have hle : (n : Int) ≤ 1048576 := by have := h.le; omega
  go_enter Try.func12, Try.ntmps12
  go_wp2_with fail
  refine (drawLocksFor_any A n c _ h).mono ?_
  rintro e w1 ⟨t, A1, c1, who, a, mode, rfl, ht1, ha, hb1⟩
  clear h
  go_wp2_with fail
  refine (locksFor_any A1 c1 t who a mode _ ht1.len4 ht1.cap ht1.short ht1.rd).mono ?_
  rintro e w2 ⟨A2, c2, rfl, ho2, hb2⟩
  have ht2 := ht1.step hb2
  have hr2 := Rd.of_own ho2
  have hcap2 := own_cap ho2
  have hb2 := below_then hb1 hb2 hb1.size
  clear ht1 hb1 ho2
  go_wp2_with fail
  refine (slocksFor_any A1 c1 t who a mode _ ht2.len4 ht2.cap ht2.short ht2.rd).mono ?_
  rintro e w3 ⟨A3, c3, rfl, ho3, hb3⟩
  have ht3 := ht2.step hb3
  have hr3 := hr2.step hb3
  have hs3 := Rd.of_own ho3
  have hb3 := below_then hb2 hb3 hb2.size
  have hpl := locksN_len t who a mode
  clear ht2 hb2 hr2 ho3
  go_wp2_with fail
  refine (equalLocks_same A2 c2 (locksN t who a mode) A3 c3 _ (by omega) hr3 hs3).mono ?_
  rintro e w4 ⟨rfl, hb4⟩
  have ht4 := ht3.step hb4
  have hr4 := hr3.step hb4
  have hb4 := below_then hb3 hb4 hb3.size
  have htl := ht4.len
  clear ht3 hb3 hr3 hs3
  by_cases hl2 : (locksN t who a mode).length < 2
  · go_wp2_with fail
    refine (slocksFor_any A1 c1 t who a mode _ ht4.len4 ht4.cap ht4.short ht4.rd).mono ?_
    rintro e w5 ⟨A5, c5, rfl, ho5, hb5⟩
    have hr5 := hr4.step hb5
    have hs5 := Rd.of_own ho5
    have hb5 := below_then hb4 hb5 hb4.size
    go_wp2_with fail
    refine (equalLocks_same A2 c2 (locksN t who a mode) A5 c5 _ (by omega) hr5 hs5).mono ?_
    rintro e w6 ⟨rfl, hb6⟩
    have hb6 := below_then hb5 hb6 hb5.size
    go_wp2
    go_ret
    exact ⟨rfl, hb6⟩
  · obtain ⟨j, x, M, rfl, hj, hx, hpl1, hpl2, htk⟩ := locksN_parent (t := t) (who := who) (a := a) (mode := mode) (by omega)
    obtain ⟨b, off, y, rfl, hbl, hy, hc1, hc2, hc3⟩ := ht4.at_ hj
    obtain rfl := Option.some.inj (hy.symm.trans hx)
    have HTK := Lib.hid htk
    have HL1 := Lib.hid hpl1
    have HL2 := Lib.hid hpl2
    obtain ⟨xs, hxs⟩ : ∃ xs, locksN t who (j : Int) mode = xs := ⟨_, rfl⟩
    obtain ⟨ys, hys⟩ : ∃ ys, locksN t who y.parent mode = ys := ⟨_, rfl⟩
    have hM : M ≤ 3 := by omega
    rw [hxs] at hr4 HTK HL2 hl2 hcap2
    rw [hys] at HTK HL1
    have HYS := Lib.hid hys
    clear hx hy hpl1 hpl2 htk hc2 hc3 hpl hys
    rw [hxs]
    clear hxs
    go_wp2_with fail
    refine (locksFor_any (some ⟨b, off, none⟩) c1 t who y.parent mode _ ht4.len4 ht4.cap ht4.short ht4.rd).mono ?_
    rintro e w5 ⟨A5, c5, rfl, ho5, hb5⟩
    rw [HYS.out] at ho5 ⊢
    have hr5 := hr4.step hb5
    have hs5 := Rd.of_own ho5
    have hcap5 := own_cap ho5
    have hb5 := below_then hb4 hb5 hb4.size
    rw [HL1.out] at hs5 hcap5 ⊢
    rw [HL2.out] at hr5 hcap2 ⊢
    have hT1 : Rd w5 w5.heap.size 3 A2 M (lks (xs.take M)) := by rw [← lks_take]; exact hr5.take (by omega)
    have hT2 : Rd w5 w5.heap.size 3 A5 M (lks (xs.take M)) := by rw [HTK.out, ← lks_take]; exact hs5.take (by omega)
    have hTl : (xs.take M).length = M := by rw [List.length_take, HL2.out]; omega
    have HT1 := Lib.hid (fun z : Ext w5 => z.rd hT1)
    have HT2 := Lib.hid (fun z : Ext w5 => z.rd hT2)
    have HTL := Lib.hid hTl
    clear ht4 hb4 hr4 ho5 hc1 hl2 hT1 hT2 hTl hr5 hs5
    have hs1 : IntKind.i64.wrap ((M : Int) + 1 + 1) = (M : Int) + 2 := by rw [IntWalk.i64_in _ (by omega)]; omega
    have hs2 : (((M : Int) + 2) == ((M : Int) + 2)) = true := by simp
    have hs3 : (0 : Int) ≤ (M : Int) := by omega
    have hs4 : (M : Int) ≤ (c2 : Int) := by omega
    have hs5 : (M : Int) ≤ (c5 : Int) := by omega
    have hs6 : M ≤ c2 := by omega
    have hs7 : M ≤ c5 := by omega
    have hMl : (xs.take M).length ≤ 100000 := by rw [HTL.out]; omega
    go_wp2
    refine ext_region (by kernel_rfl) (by kernel_rfl) ?_
    repeat (go_big_quiet_step (first
      | (go_at_call_of 35 A2; exact ext_call (equalLocks_at A2 c2 (xs.take M) M A5 c5 M _ HTL.out HTL.out hMl (HT1.out _) (HT2.out _)) rfl)))
    refine wpQuiet_nil ?_
    rintro w' ⟨z, rfl⟩
    have hb9 := below_then hb5 z.below hb5.size
    go_wp2
    go_ret
    exact ⟨rfl, hb9⟩
end Go.Proofs.Ytgofokifcplmoaa
