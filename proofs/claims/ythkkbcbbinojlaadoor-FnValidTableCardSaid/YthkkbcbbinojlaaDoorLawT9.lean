/- The walk of FnValidTable. -/
import Derived.Test.YthkkbcbbinojlaaDoorTabKit
import Derived.Deep.RegionHeld3
import Derived.IntWalk
namespace Go.Proofs.YthkkbcbbinojlaaDoor
open Go.RowKit
open Tl (Lk okM okL validT validT_iff)

theorem Rd.drop {w : World} {B sz n b off : Nat} {xs : List Value} (h : Rd w B sz (some ⟨b, off, none⟩) n xs) {k : Nat} : Rd w B sz (some ⟨b, off + k * sz, none⟩) (n - k) (xs.drop (k * sz)) := by
  refine ⟨?_, fun j u hj => ?_⟩
  · rw [List.length_drop, h.1, Nat.sub_mul]
  · rw [List.getElem?_drop] at hj
    obtain ⟨b', off', e, hb, hc⟩ := h.2 _ u hj
    injection e with e
    injection e with e1 e2
    subst e1 e2
    exact ⟨b, off + k * sz, rfl, hb, by rw [Nat.add_assoc]; exact hc⟩
theorem own_some {w : World} {base : Nat} {e : TypeId} {sz n c : Nat} {A : Option Addr} {xs : List Value} (h : w.ownsRow base e sz (.slice A n c) n xs) (hne : A ≠ none) : ∃ g, A = some ⟨g, 0, none⟩ := by
  rcases h.2 with ⟨hv, _⟩ | ⟨g, cap, cur, hv, _⟩
  · injection hv with e1; exact absurd e1 hne
  · injection hv with e1; exact ⟨g, e1⟩
theorem lks_drop {l : List Lk} {k : Nat} (hk : k ≤ l.length) : (lks l).drop (k * 3) = lks (l.drop k) := by
  have h := congrArg (List.drop (k * 3)) (show lks (l.take k ++ l.drop k) = lks (l.take k) ++ lks (l.drop k) from lks_append _ _)
  rw [List.take_append_drop] at h
  rw [h, List.drop_append_of_le_length (by rw [lks_len, List.length_take]; omega), List.drop_of_length_le (by rw [lks_len, List.length_take]; omega), List.nil_append]

set_option maxHeartbeats 2000000 in
set_option maxRecDepth 100000 in
theorem law_FnValidTable (A : Option Addr) (n c : Nat) (w : World) (h : Code8 w A n c) (hT : TabT w) : Calls Tryd.prog 3 #[.slice A n c] w (PBool w true) := by
  have hle : (n : Int) ≤ 1048576 := by have := h.le; omega
  go_enter Tryd.func3, Tryd.ntmps3
  go_wp2_with fail
  refine (drawValidTable_any A n c _ h).mono ?_
  rintro e w1 ⟨ls, A1, c1, rfl, ho1, hl1, hb1⟩
  have hr1 := Rd.of_own ho1
  have hcap := own_cap ho1
  have hT1 := hT.step hb1
  clear h hT
  go_wp2_with fail
  refine (validTable_any A1 c1 ls _ (by omega) hcap hT1 hr1).mono ?_
  rintro e w2 ⟨rfl, hb2⟩
  have hr1 := hr1.step hb2
  have hT1 := hT1.step hb2
  have ho1 := own_below ho1 hb2 (Nat.le_refl _)
  have hb2 := below_then hb1 hb2 hb1.size
  clear hb1
  go_wp2_with fail
  refine (svalidTable_any A1 c1 ls _ (by omega) hr1).mono ?_
  rintro e w3 ⟨rfl, hb3⟩
  have hr1 := hr1.step hb3
  have hT1 := hT1.step hb3
  have ho1 := own_below ho1 hb3 (Nat.le_refl _)
  have hb3 := below_then hb2 hb3 hb2.size
  clear hb2
  cases hv : validT ls
  · have HV := Lib.hid hv
    have h1 : (false != false) = false := rfl
    clear hv ho1
    go_wp2_with fail
    refine (svalidTable_any A1 c1 ls _ (by omega) hr1).mono ?_
    rintro e w4 ⟨rfl, hb4⟩
    rw [HV.out]
    have hb4 := below_then hb3 hb4 hb3.size
    go_wp2
    go_ret
    exact ⟨rfl, hb4⟩
  · have HV := Lib.hid hv
    have h1 : (true != true) = false := rfl
    clear hv
    by_cases h0 : ls.length = 0
    · have hz : ((ls.length : Int) == 0) = true := by simp [h0]
      clear ho1 h0
      go_wp2_with fail
      refine (svalidTable_any A1 c1 ls _ (by omega) hr1).mono ?_
      rintro e w4 ⟨rfl, hb4⟩
      rw [HV.out]
      have hb4 := below_then hb3 hb4 hb3.size
      go_wp2
      go_ret
      exact ⟨rfl, hb4⟩
    · have hz : ((ls.length : Int) == 0) = false := beq_eq_false_iff_ne.2 (by omega)
      have hpos : 0 < ls.length := by omega
      obtain ⟨g, rfl, hg1, hg2, _⟩ := own_addr ho1 hpos
      have hmod : (n : Int) % (ls.length : Int) = ((n % ls.length : Nat) : Int) := by simp
      have hkl : n % ls.length < ls.length := Nat.mod_lt _ hpos
      obtain ⟨k, hk⟩ : ∃ k, k = n % ls.length := ⟨_, rfl⟩
      rw [← hk] at hmod hkl
      have HMOD := Lib.hid hmod
      clear hmod hk h0 ho1
      go_wp2
      rw [HMOD.out]
      have i0 : (0 : Int) ≤ (k : Int) := by omega
      have i1 : (k : Int) ≤ (c1 : Int) := by omega
      have i2 : (k : Int) + 1 ≤ (ls.length : Int) := by omega
      have i3 : (k : Int) + 1 ≤ (c1 : Int) := by omega
      have i4 : (0 : Int) ≤ (k : Int) + 1 := by omega
      have hw1 : IntKind.i64.wrap ((k : Int) + 1) = (k : Int) + 1 := by rw [IntWalk.i64_in _ (by omega)]
      have hb4 := (Below.refl w3.heap.size w3).alloc (Nat.le_refl _) (.cells #[] 36)
      have hb4' := (Below.refl w3.heap.size w3).drew.alloc (Nat.le_refl _) (.cells #[] 36)
      have hown := own_lit0 w3 36 3 (Nat.le_refl _)
      have hT4 := hT1.below hb4 (Nat.le_refl _)
      have hr4 := hr1.below hb4
      have hrt := hr4.take (k := k) (by omega)
      rw [lks_take] at hrt
      have hrd := hr4.drop (k := k + 1)
      rw [lks_drop (by omega), Nat.zero_add] at hrd
      obtain ⟨sub, hsub, hsl, HSUB⟩ : ∃ sub, ls.take k ++ ls.drop (k + 1) = sub ∧ k + (ls.length - (k + 1)) = sub.length ∧ Hid (validT sub = true) :=
        ⟨_, rfl, by rw [List.length_append, List.length_take, List.length_drop]; omega, Tl.validT_sub HV.out (Tl.take_drop_sublist ls k)⟩
      have HS1 := Lib.hid hsub
      have HS2 := Lib.hid hsl
      have hsm : sub.length ≤ 100000 := by omega
      clear hsub hsl hr1 hr4 hT4
      obtain ⟨Ad, hAd, hrd⟩ : ∃ Ad : Option Addr, (if c1 = k + 1 then (some ⟨g, 0, none⟩ : Option Addr) else some ⟨g, (k + 1) * 3, none⟩) = Ad ∧ Rd (w3.alloc (.cells #[] 36)) w3.heap.size 3 Ad (ls.length - (k + 1)) (lks (ls.drop (k + 1))) := by
        by_cases hkc : c1 = k + 1
        · refine ⟨_, rfl, ?_⟩
          rw [if_pos hkc, List.drop_of_length_le (by omega), show ls.length - (k + 1) = 0 by omega]
          exact Rd.nil _ _ _ _
        · refine ⟨_, rfl, ?_⟩
          rw [if_neg hkc]
          exact hrd
      go_region_held3 (fun _ => True) (first | trivial | go_keep)
          (first
            | (have hZ := hown; have hZ2 := hrt; refine step_join_lk (xs := []) (by rfl) _ _ (by rfl) (by rfl) hZ (by rfl) hZ2 (by omega) (by simp) ?_; intro A' c' w' hne ho' hb' _; rw [Nat.zero_add k, List.nil_append] at ho'; rw [Nat.zero_add k]; obtain ⟨g', rfl⟩ := own_some ho' hne; have hb5 := hb4'.trans hb'; have hrd5 := (show Rd (w3.drew.alloc (.cells #[] 36)) _ _ _ _ _ from hrd).below hb'; clear hZ hZ2 hne hb' hb4 hb4' hrd hrt hown)
            | (have hZ := ho'; have hZ2 := hrd5; refine step_join_lk (c2 := c1 - (k + 1)) (by rfl) _ _ (by rfl) (by rfl) hZ (by simp [Act.eval]) hZ2 (by omega) hb5.size ?_; intro A'' c'' w'' hne' ho'' hb'' _; rw [HS1.out, HS2.out] at ho''; rw [HS2.out]; have hb6 := hb5.trans hb''; have hr6 := Rd.of_own ho''; have hcap6 := own_cap ho''; have hT6 := hT1.below hb6 (Nat.le_refl _); clear hZ hZ2 hb'' hne' hb5 hrd5 ho'' ho')
            | (have hZ := hT8; go_at_call 7; refine (validTable_any none 0 [] _ (by simp) (by simp) hZ (Rd.nil _ _ _ _)).mono ?_; rintro e w9 ⟨rfl, hb9⟩; rw [Tl.validT_nil]; have hb10 := below_then hb8 hb9 hb8.size)
            | (have hZ := hT6; go_at_call 7; refine (validTable_any A'' c'' sub _ hsm hcap6 hZ hr6).mono ?_; rintro e w7 ⟨rfl, hb7⟩; rw [HSUB.out]; have hb8 := below_then hb6 hb7 hb6.size; have hT8 := hT6.step hb7))
      go_wp2
      go_ret
      exact ⟨rfl, below_then hb3 hb10 hb3.size⟩
end Go.Proofs.YthkkbcbbinojlaaDoor
