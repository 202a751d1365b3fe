/- The walk of FnFreeLocksTwice. -/
import Derived.Test.YtbjjlbimlhccpaaDoorTabKit
namespace Go.Proofs.YtbjjlbimlhccpaaDoor
open Go.RowKit
open Tl (Lk okM okL validT validT_iff freeT T4)

/-- The first k transactions freed. -/
def freeTo (l : List Lk) (k : Nat) : List Lk := (T4.take k).foldl freeT l
theorem freeTo_succ (l : List Lk) {k : Nat} (hk : k < 4) : freeTo l (k + 1) = freeT (freeTo l k) k := by
  unfold freeTo
  rw [take_succ_of (T4_get hk), List.foldl_append]
  rfl
theorem freeTo_valid {l : List Lk} (h : validT l = true) : ∀ k, k ≤ 4 → validT (freeTo l k) = true
  | 0, _ => h
  | k + 1, hk => by rw [freeTo_succ l (by omega)]; exact Tl.freeT_valid (freeTo_valid h k (by omega)) _
theorem freeTo_four {l : List Lk} (h : ∀ x ∈ l, okL x) : freeTo l 4 = [] := Tl.freeT_all h
theorem freeTo_len {l : List Lk} (h : validT l = true) {k : Nat} (hk : k ≤ 4) : (freeTo l k).length ≤ 48 := (validT_iff.1 (freeTo_valid h k hk)).1

set_option maxHeartbeats 1000000 in
set_option maxRecDepth 100000 in
theorem law_FnFreeLocksTwice (A : Option Addr) (n c : Nat) (w : World) (h : Code8 w A n c) (hT : TabT w) : Calls Tryd.prog 7 #[.slice A n c] w (PBool w true) := by
  have hle : (n : Int) ≤ 1048576 := by have := h.le; omega
  go_enter Tryd.func7, Tryd.ntmps7
  go_wp2_with fail
  refine (drawFreeLocks_any A n c _ h).mono ?_
  rintro e w1 ⟨ls, A1, c1, who, rfl, ho1, hl1, hb1⟩
  have hr1 := Rd.of_own ho1
  have hcap := own_cap ho1
  have hT1 := hT.step hb1
  have hfl := freeL_len ls who
  clear h ho1 hT
  go_wp2_with fail
  refine (freeLocks_any A1 c1 ls who _ (by omega) hcap hT1 hr1).mono ?_
  rintro e w2 ⟨A2, c2, rfl, ho2, hb2⟩
  have hr2 := Rd.of_own ho2
  have hcap2 := own_cap ho2
  have hr1 := hr1.step hb2
  have hT1 := hT1.step hb2
  have hb2 := below_then hb1 hb2 hb1.size
  clear hb1 ho2
  go_wp2_with fail
  refine (sfreeLocks_any A1 c1 ls who _ (by omega) hr1).mono ?_
  rintro e w3 ⟨A3, c3, rfl, ho3, hb3⟩
  have hr3 := Rd.of_own ho3
  have hr1 := hr1.step hb3
  have hr2 := hr2.step hb3
  have hT1 := hT1.step hb3
  have hb3 := below_then hb2 hb3 hb2.size
  clear hb2 ho3
  go_wp2_with fail
  refine (equalLocks_same A2 c2 (freeL ls who) A3 c3 _ (by omega) hr2 hr3).mono ?_
  rintro e w4 ⟨rfl, hb4⟩
  have hr1 := hr1.step hb4
  have hr2 := hr2.step hb4
  have hT1 := hT1.step hb4
  have hb4 := below_then hb3 hb4 hb3.size
  clear hb3 hr3
  go_wp2_with fail
  refine (validTable_any A1 c1 ls _ (by omega) hcap hT1 hr1).mono ?_
  rintro e w5 ⟨rfl, hb5⟩
  have hr1 := hr1.step hb5
  have hr2 := hr2.step hb5
  have hT1 := hT1.step hb5
  have hb5 := below_then hb4 hb5 hb4.size
  clear hb4
  cases hv : validT ls
  · clear hv
    go_wp2_with fail
    refine (sfreeLocks_any A1 c1 ls who _ (by omega) hr1).mono ?_
    rintro e w6 ⟨A6, c6, rfl, ho6, hb6⟩
    have hr6 := Rd.of_own ho6
    have hr2 := hr2.step hb6
    have hb6 := below_then hb5 hb6 hb5.size
    clear hb5 ho6
    go_wp2_with fail
    refine (equalLocks_same A2 c2 (freeL ls who) A6 c6 _ (by omega) hr2 hr6).mono ?_
    rintro e w7 ⟨rfl, hb7⟩
    have hb7 := below_then hb6 hb7 hb6.size
    go_wp2
    go_ret
    exact ⟨rfl, hb7⟩
  · have HV := Lib.hid hv
    clear hv
    go_wp2
    go_loopg [6, 7] 4 (fun gk v i wr => ∃ (k : Nat) (A : Option Addr) (c m : Nat), k ≤ 4 ∧ gk = 4 - k ∧ i = .int .i64 k ∧ v = .slice A m c ∧ Hid (m = (freeTo ls k).length) ∧ m ≤ c ∧
      Rd wr wr.heap.size 3 A m (lks (freeTo ls k)) ∧ Below w5.heap.size w5 wr)
    case atStart => exact ⟨0, A1, c1, ls.length, by omega, rfl, rfl, rfl, rfl, hcap, hr1, Below.refl _ _⟩
    case round =>
      obtain ⟨k, A6, c6, m, hk, rfl, rfl, rfl, HM, hcap6, hr6, hbw⟩ := hrel
      have hlen6 := freeTo_len HV.out hk
      by_cases hlt : k < 4
      · have HN := Lib.hid (freeTo_succ ls hlt)
        have HVK := Lib.hid (freeTo_valid HV.out k hk)
        have hTw := hT1.below hbw (Nat.le_refl _)
        obtain rfl := HM.out
        have HFE := Lib.hid (freeL_valid HVK.out (k : Int))
        clear HM
        go_wp2_with fail
        refine (freeLocks_any A6 c6 (freeTo ls k) (k : Int) _ (by omega) hcap6 hTw hr6).mono ?_
        rintro e w7 ⟨A7, c7, rfl, ho7, hb7⟩
        rw [HFE.out, ← HN.out] at ho7
        rw [HFE.out, ← HN.out]
        have hr7 := Rd.of_own ho7
        have hcap7 := own_cap ho7
        have hb8 := hbw.trans (hb7.mono hbw.size)
        clear ho7 hr6 hbw hb7 hTw
        go_wp2
        go_roundg (4 - (k + 1))
        case measure => omega
        case rel => exact ⟨k + 1, A7, c7, _, by omega, rfl, by go_num, rfl, rfl, hcap7, hr7, hb8⟩
      · have hk4 : k = 4 := by omega
        subst hk4
        have hm0 : m = 0 := by rw [HM.out, freeTo_four (validT_iff.1 HV.out).2.1]; rfl
        subst hm0
        have HVF : Hid (validT (freeL ls who) = true) := by show _ = true; rw [freeL_valid HV.out]; exact Tl.freeT_valid HV.out who
        have HFF : Hid (freeL (freeL ls who) who = freeL ls who) := by show _ = _; rw [freeL_valid HVF.out, freeL_valid HV.out]; exact Tl.freeT_freeT ls who
        have hb7 := below_then hb5 hbw hb5.size
        have hr2w := (hr2.below hbw).more hbw.size
        have hTw := hT1.below hbw (Nat.le_refl _)
        clear hr6 HM hbw
        go_wp2_with fail
        refine (freeLocks_any A2 c2 (freeL ls who) who _ (by omega) hcap2 hTw hr2w).mono ?_
        rintro e w8 ⟨A8, c8, rfl, ho8, hb8⟩
        rw [HFF.out] at ho8 ⊢
        have hr8 := Rd.of_own ho8
        have hr2x := hr2w.step hb8
        have hb9 := below_then hb7 hb8 hb7.size
        clear ho8 hb8
        go_wp2_with fail
        refine (equalLocks_same A8 c8 (freeL ls who) A2 c2 _ (by omega) hr8 hr2x).mono ?_
        rintro e w9 ⟨rfl, hb10⟩
        have hb11 := below_then hb9 hb10 hb9.size
        go_wp2
        go_ret
        exact ⟨rfl, hb11⟩
end Go.Proofs.YtbjjlbimlhccpaaDoor
