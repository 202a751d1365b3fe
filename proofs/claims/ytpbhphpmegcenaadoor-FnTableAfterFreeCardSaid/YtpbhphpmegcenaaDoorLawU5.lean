/- The walk of FnTableAfterFree. -/
import Derived.Test.YtpbhphpmegcenaaDoorStKit
import Derived.Deep.RegionHeld3
namespace Go.Proofs.YtpbhphpmegcenaaDoor
open Go.RowKit
open Tl (St Lk Ac validT validT_iff validS tableAfter doSt runS held takeLock twoPhase lockPoint freeBy freeBy_iff)
def freeSt (x : Lk) : St := ⟨x.who, true, x.node, 0⟩
theorem free_all {ss : List St} {ms : List Lk} (h : tableAfter ss = some ms) (hl : ss.length + ms.length ≤ 16) : tableAfter (ss ++ ms.map freeSt) = some [] := by
  obtain ⟨_, h2⟩ := Tl.tableAfter_some.1 h
  refine Tl.tableAfter_some.2 ⟨by rw [List.length_append, List.length_map]; exact hl, ?_⟩
  rw [Tl.runS_append, h2]
  exact Tl.runS_free_all ms (validT_iff.1 (Tl.tableAfter_valid h)).2.2

set_option maxHeartbeats 2000000 in
set_option maxRecDepth 100000 in
theorem law_FnTableAfterFree (A : Option Addr) (n c : Nat) (w : World) (h : Code8 w A n c) (hT : TabT w) (hJ : TabJ w) : Calls Tryd.prog 10 #[.slice A n c] w (PBool w true) := by
  have hle : (n : Int) ≤ 1048576 := by have := h.le; omega
  go_enter Tryd.func10, Tryd.ntmps10
  go_wp2_with fail
  refine (drawTableAfter_any A n c _ h).mono ?_
  rintro e w1 ⟨ss, A1, c1, rfl, ho1, hl1, hb1⟩
  have hr1 := Rd.of_own ho1
  have hcap := own_cap ho1
  have hT1 := hT.step hb1
  have hJ1 := hJ.step hb1
  clear h ho1 hT hJ
  obtain ⟨ms, hms⟩ : ∃ ms, ms = (tableAfter ss).getD [] := ⟨_, rfl⟩
  obtain ⟨ob, hob⟩ : ∃ ob, ob = (tableAfter ss).isSome := ⟨_, rfl⟩
  have hm48 : ms.length ≤ 48 := by rw [hms]; exact tableAfter_len48 ss
  go_wp2_with fail
  refine (tableAfter_any A1 c1 ss _ (by omega) hT1 hJ1 hr1).mono ?_
  rintro e w2 ⟨A2, c2, rfl, ho2, hb2⟩
  rw [← hms] at ho2
  rw [← hms, ← hob]
  have hr2 := Rd.of_own ho2
  have hcap2 := own_cap ho2
  have hr1 := hr1.step hb2
  have hT1 := hT1.step hb2
  have hJ1 := hJ1.step hb2
  have hb2 := below_then hb1 hb2 hb1.size
  clear hb1 ho2
  go_wp2_with fail
  refine (stableAfter_any A1 c1 ss _ (by omega) hr1).mono ?_
  rintro e w3 ⟨A3, c3, rfl, ho3, hb3⟩
  rw [← hms] at ho3
  rw [← hms, ← hob]
  have hr3 := Rd.of_own ho3
  have hr1 := hr1.step hb3
  have hr2 := hr2.step hb3
  have hT1 := hT1.step hb3
  have hJ1 := hJ1.step hb3
  have hb3 := below_then hb2 hb3 hb2.size
  have HMS := Lib.hid hms
  have HOB := Lib.hid hob
  have hse : (ob != ob) = false := by cases ob <;> rfl
  have hsq : (ob == ob) = true := by cases ob <;> rfl
  clear hb2 ho3 hms hob
  go_wp2_with fail
  refine (equalLocks_same A2 c2 ms A3 c3 _ (by omega) hr2 hr3).mono ?_
  rintro e w4 ⟨rfl, hb4⟩
  have hr1 := hr1.step hb4
  have hr2 := hr2.step hb4
  have hr3 := hr3.step hb4
  have hT1 := hT1.step hb4
  have hJ1 := hJ1.step hb4
  have hb4 := below_then hb3 hb4 hb3.size
  clear hb3
  cases ob
  · go_wp2_with fail
    refine (equalLocks_same A2 c2 ms A3 c3 _ (by omega) hr2 hr3).mono ?_
    rintro e w7 ⟨rfl, hb7⟩
    have hb7 := below_then hb4 hb7 hb4.size
    go_wp2
    go_ret
    exact ⟨rfl, hb7⟩
  · have HTA : Hid (tableAfter ss = some ms) := some_of_parts HMS.out HOB.out
    have HMV := Lib.hid (Tl.tableAfter_valid HTA.out)
    have hwl : IntKind.i64.wrap ((ss.length : Int) + (ms.length : Int)) = (ss.length : Int) + (ms.length : Int) := by rw [IntWalk.i64_in _ (by omega)]
    by_cases h16 : ss.length + ms.length ≤ 16
    · have h16' : decide ((16 : Int) < (ss.length : Int) + (ms.length : Int)) = false := decide_eq_false (by omega)
      have hb5 := (Below.refl w4.heap.size w4).alloc (Nat.le_refl _) (.cells #[] 29)
      have hr15 := hr1.below hb5
      have hown5 := own_lit0 w4 29 4 (base := w4.heap.size) (Nat.le_refl _)
      have hr24 := hr2
      clear hr3 hse hsq
      go_wp2_with (at_builtin; refine wpList_join_st (xs := []) rfl _ _ rfl rfl hown5 rfl hr15 (by omega) (by simp) ?_; intro A6 c6 w6 _ ho6 hb6 _)
      have hb7 := hb5.trans hb6
      simp only [Nat.zero_add, List.nil_append] at ho6 ⊢
      clear hb5 hb6 hr15 hown5 h16' hwl
      go_wp2
      go_loopg [8, 9] ms.length (fun gk ov s9 wr => ∃ (k m : Nat) (A' : Option Addr) (c' : Nat), k ≤ ms.length ∧ gk = ms.length - k ∧ s9 = .int .i64 k ∧ ov = .slice A' m c' ∧ Hid (m = ss.length + k) ∧
        wr.ownsRow w4.heap.size 29 4 ov m (sts (ss ++ (ms.take k).map freeSt)) ∧ Below w4.heap.size w4 wr)
      case atStart => exact ⟨0, ss.length, _, _, Nat.zero_le _, rfl, rfl, rfl, (show ss.length = ss.length + 0 from rfl), by simpa using ho6, hb7⟩
      case round =>
        clear ho6 hb7
        obtain ⟨k, m, A', c', hk, rfl, rfl, rfl, HM, hown, hb⟩ := hrel
        by_cases hlt : k < ms.length
        · obtain ⟨b, off, x, rfl, hbl, hx, hc1, hc2, hc3⟩ := (hr24.below hb).lk hlt
          have hm1 : m ≤ 1000000 := by have := HM.out; omega
          have hi0 : (0 : Int) ≤ (k : Int) := by omega
          have hi1 : (k : Int) < (ms.length : Int) := by omega
          have HN : Hid (ss ++ (ms.take (k + 1)).map freeSt = ss ++ (ms.take k).map freeSt ++ [freeSt x]) := by show _ = _; rw [take_succ_of hx, List.map_append, List.append_assoc]; rfl
          clear hx
          go_wp2
          go_region_held3 (fun w' => w'.cell? ⟨b, off + k * 3, none⟩ = some (.int .i64 x.who) ∧ w'.cell? ⟨b, off + k * 3 + 1, none⟩ = some (.int .i64 x.node))
            (first | go_keep | exact ⟨(hb4'.cell (p := ⟨b, off + k * 3, none⟩) hbl).trans ((hb.cell (p := ⟨b, off + k * 3, none⟩) hbl).symm.trans hc1), (hb4'.cell (p := ⟨b, off + k * 3 + 1, none⟩) hbl).trans ((hb.cell (p := ⟨b, off + k * 3 + 1, none⟩) hbl).symm.trans hc2)⟩)
            (first
              | (refine step_push_st (by rfl) _ _ (by rfl) (freeSt x) (by rfl) (hown.drew.alloc _) (by rfl) (heap_alloc_new wr.drew _) hm1 (by simp; have := hb.size; omega) ?_; intro A2' c2' w2' ho2 hb3' _; have hb4' := (hb.drew.alloc hb.size (.cells #[.int .i64 x.who, .bool true, .int .i64 x.node, .int .i64 0] 29)).trans hb3'))
          rw [← HN.out] at ho2
          clear hown hb hb3' hc1 hc2 hc3
          go_wp2
          go_roundg (ms.length - (k + 1))
          case measure => omega
          case rel => exact ⟨k + 1, m + 1, A2', c2', by omega, rfl, by go_num, rfl, (show m + 1 = ss.length + (k + 1) by have := HM.out; omega), ho2, hb4'⟩
        · rw [take_all hlt] at hown
          have hbx := below_then hb4 hb hb4.size
          obtain ⟨fs, hfs⟩ : ∃ fs, ss ++ ms.map freeSt = fs := ⟨_, rfl⟩
          have hml : m = fs.length := by have := HM.out; rw [← hfs, List.length_append, List.length_map]; omega
          have HR : Hid (tableAfter fs = some []) := by show _ = _; rw [← hfs]; exact free_all HTA.out h16
          rw [hfs] at hown
          subst hml
          have hl5 : fs.length ≤ 100000 := by have := HM.out; omega
          clear HM hfs
          have hT5 := hT1.below hb (Nat.le_refl _)
          have hJ5 := hJ1.below hb (Nat.le_refl _)
          have hr5 := Rd.of_own hown
          go_wp2_with fail
          refine (tableAfter_any A' c' fs _ hl5 hT5 hJ5 hr5).mono ?_
          rintro e w8 ⟨A8, c8, rfl, ho8, hb8⟩
          rw [HR.out]
          simp only [Option.getD_some, Option.isSome_some, List.length_nil]
          have hb9 := below_then hbx hb8 hbx.size
          clear ho8 hown hb hk hlt
          go_wp2
          go_ret
          exact ⟨rfl, hb9⟩
    · have h16' : decide ((16 : Int) < (ss.length : Int) + (ms.length : Int)) = true := decide_eq_true (by omega)
      go_wp2_with fail
      refine (equalLocks_same A2 c2 ms A3 c3 _ (by omega) hr2 hr3).mono ?_
      rintro e w7 ⟨rfl, hb7⟩
      have hb7 := below_then hb4 hb7 hb4.size
      go_wp2
      go_ret
      exact ⟨rfl, hb7⟩
end Go.Proofs.YtpbhphpmegcenaaDoor
