/- The walk of FnConflictsOfWrites. -/
import Derived.Test.YtfhofincbekadaaDrawA
import Derived.Test.YtfhofincbekadaaConf
import Derived.Test.YtfhofincbekadaaConf2
import Derived.Test.YtfhofincbekadaaLL2
import Derived.Test.YtfhofincbekadaaLawA2
import Derived.Deep.RegionHeld3
namespace Go.Proofs.Ytfhofincbekadaa
open Go.RowKit
open Tl (Ac okA validA validA_iff T4 must conflicts)

def wrA (x : Ac) : Ac := ⟨x.who, x.node, true⟩
theorem wrA_valid {xs : List Ac} (h : validA xs = true) : validA (xs.map wrA) = true := by
  rw [validA_iff] at *
  refine ⟨by rw [List.length_map]; exact h.1, fun x hx => ?_⟩
  obtain ⟨y, hy, rfl⟩ := List.mem_map.1 hx
  exact h.2 y hy
theorem wrA_must (xs : List Ac) (a b : Int) (h : must xs a b = true) : must (xs.map wrA) a b = true := by
  refine Tl.must_mono (by rw [List.length_map]) ?_ h
  intro i x y hx hy
  rw [List.getElem?_map, hx] at hy
  have := Option.some.inj hy
  subst this
  exact ⟨rfl, rfl, fun _ => rfl⟩
theorem cfl_length (xs : List Ac) : (cfl xs).length = (conflicts xs).length := by unfold cfl; rw [List.length_map]
theorem cfl_mono (xs : List Ac) : (cfl xs).length ≤ (cfl (xs.map wrA)).length := by
  rw [cfl_length, cfl_length]; exact Tl.conflicts_length_mono (wrA_must xs)
theorem cfl_mem {xs : List Ac} (hok : ∀ x ∈ xs, okA x) {p : List Int} (hp : p ∈ cfl xs) : p ∈ cfl (xs.map wrA) := by
  unfold cfl at *
  obtain ⟨q, hq, rfl⟩ := List.mem_map.1 hp
  refine List.mem_map.2 ⟨q, ?_, rfl⟩
  have h1 : must xs q.1 q.2 = true := (Tl.mem_conflicts hok).1 hq
  refine (Tl.mem_conflicts (h := xs.map wrA) ?_).2 (wrA_must xs _ _ h1)
  intro x hx
  obtain ⟨y, hy, rfl⟩ := List.mem_map.1 hx
  exact hok y hy
theorem cfl_two {xs : List Ac} {p : List Int} (hp : p ∈ cfl xs) : p.length = 2 := by
  unfold cfl at hp
  obtain ⟨q, _, rfl⟩ := List.mem_map.1 hp
  rfl
theorem mem_take_yes {l : List (List Int)} {k : Nat} {p q : List Int} (hq : l[k]? = some q) (h : p = q) : decide (p ∈ l.take (k + 1)) = true := by
  rw [take_succ_of hq]; simp [h]
theorem mem_take_old {l : List (List Int)} {k : Nat} {p q : List Int} (hq : l[k]? = some q) (h : decide (p ∈ l.take k) = true) : decide (p ∈ l.take (k + 1)) = true := by
  rw [take_succ_of hq]
  simp only [decide_eq_true_eq] at h ⊢
  exact List.mem_append.2 (.inl h)
theorem mem_take_no {l : List (List Int)} {k : Nat} {p q : List Int} (hq : l[k]? = some q) (h : decide (p ∈ l.take k) = false) (hn : p ≠ q) : decide (p ∈ l.take (k + 1)) = false := by
  rw [take_succ_of hq]
  simp only [decide_eq_false_iff_not] at h ⊢
  intro hm
  rcases List.mem_append.1 hm with hm | hm
  · exact h hm
  · simp at hm; exact hn hm

set_option maxHeartbeats 2000000 in
set_option maxRecDepth 100000 in
theorem law_FnConflictsOfWrites (A : Option Addr) (n c : Nat) (w : World) (h : Code8 w A n c) : Calls Try.prog 3 #[.slice A n c] w (PBool w true) := by
  have hle : (n : Int) ≤ 1048576 := by have := h.le; omega
  go_enter Try.func3, Try.ntmps3
  go_wp2_with fail
  refine (drawConflictsOf_any A n c _ h).mono ?_
  rintro e w1 ⟨xs, A1, c1, rfl, ho1, hl1, hb1⟩
  have hr1 := Rd.of_own ho1
  have hcap := own_cap ho1
  have hlen := cres_len xs
  clear h ho1
  go_wp2_with fail
  refine (conflictsOf_any A1 c1 xs _ (by omega) hcap hr1).mono ?_
  rintro e w2 ⟨A2, c2, rfl, ho2, hb2⟩
  have hr2 := RdLL.of_own ho2
  have hr1 := hr1.step hb2
  have hb2 := below_then hb1 hb2 hb1.size
  clear ho2 hb1
  go_wp2_with fail
  refine (sconflictsOf_any A1 c1 xs _ (by omega) hr1).mono ?_
  rintro e w3 ⟨A3, c3, rfl, ho3, hb3⟩
  have hr3 := RdLL.of_own ho3
  have hr1 := hr1.step hb3
  have hr2 := hr2.step hb3
  have hb3 := below_then hb2 hb3 hb2.size
  clear ho3 hb2
  have HALL : Hid (∀ p ∈ cres xs, p.length ≤ 100000) := by
    show ∀ p ∈ cres xs, p.length ≤ 100000
    intro p hp
    unfold cres at hp
    split at hp
    · have := cfl_two hp; omega
    · simp at hp
  go_wp2_with fail
  refine (equalLists_same A2 c2 (cres xs) A3 c3 _ (by omega) HALL.out hr2 hr3).mono ?_
  rintro e w4 ⟨rfl, hb4⟩
  have hr1 := hr1.step hb4
  have hr2 := hr2.step hb4
  have hb4 := below_then hb3 hb4 hb3.size
  clear hr3 hb3
  go_wp2_with fail
  refine (validAccesses_any A1 c1 xs _ (by omega) hr1).mono ?_
  rintro e w5 ⟨rfl, hb5⟩
  have hr1 := hr1.step hb5
  have hr2 := hr2.step hb5
  have hb5 := below_then hb4 hb5 hb4.size
  clear hb4
  cases hv : validA xs
  · clear hv
    go_wp2_with fail
    refine (sconflictsOf_any A1 c1 xs _ (by omega) hr1).mono ?_
    rintro e w6 ⟨A3, c3, rfl, ho3, hb6⟩
    have hr3 := RdLL.of_own ho3
    have hr2 := hr2.step hb6
    have hb6 := below_then hb5 hb6 hb5.size
    clear ho3 hb5
    go_wp2_with fail
    refine (equalLists_same A2 c2 (cres xs) A3 c3 _ (by omega) HALL.out hr2 hr3).mono ?_
    rintro e w7 ⟨rfl, hb7⟩
    have hb7 := below_then hb6 hb7 hb6.size
    go_wp2
    go_ret
    exact ⟨rfl, hb7⟩
  · have HV := Lib.hid hv
    have hcr : cres xs = cfl xs := by unfold cres; rw [hv]; rfl
    rw [hcr] at hr2 hlen ⊢
    clear hv HALL hcr
    go_wp2
    go_loopg [5, 6] xs.length (fun gk v i wr => ∃ (k : Nat) (A : Option Addr) (c : Nat), k ≤ xs.length ∧ gk = xs.length - k ∧ i = .int .i64 k ∧ v = .slice A k c ∧
      wr.ownsRow w5.heap.size 30 3 v k (acs ((xs.take k).map wrA)) ∧ Below w5.heap.size w5 wr)
    case atStart => exact ⟨0, _, 0, by omega, rfl, rfl, rfl, own_lit0 w5 30 3 (Nat.le_refl _), (Below.refl _ _).alloc (Nat.le_refl _) _⟩
    case round =>
      obtain ⟨k, A6, c6, hk, rfl, rfl, rfl, hown, hbw⟩ := hrel
      by_cases hlt : k < xs.length
      · obtain ⟨b, off, x, rfl, hbl2, hx, hc1, hc2, hc3⟩ := (hr1.below hbw).ac hlt
        have HN : Hid ((xs.take (k + 1)).map wrA = (xs.take k).map wrA ++ [⟨x.who, x.node, true⟩]) := by show _ = _; rw [take_succ_of hx, List.map_append]; rfl
        have hbs := hbw.size
        clear hx hc3
        go_wp2
        go_region_held3 (fun w' => w'.cell? ⟨b, off + k * 3, none⟩ = some (.int .i64 x.who) ∧ w'.cell? ⟨b, off + k * 3 + 1, none⟩ = some (.int .i64 x.node))
          (first
            | go_keep
            | (go_split_ands
               refine ⟨?_, ?_⟩
               · (rw [hb'.cell hbl2]; assumption)
               · (rw [hb'.cell hbl2]; assumption)))
          ((refine step_push_ac (by rfl) _ _ (by rfl) ⟨x.who, x.node, true⟩ (by rfl) ((hown.alloc _).drew) (by rfl) (heap_alloc_new wr _) (by omega) (by simp; omega) ?_; intro A' c' w' ho' hb' _))
        have hb7 := ((hbw.alloc hbs (.cells #[.int .i64 x.who, .int .i64 x.node, .bool true] 30)).drew).trans hb'
        clear hown hbw hb' hc1 hc2
        rw [← HN.out] at ho'
        go_wp2
        go_roundg (xs.length - (k + 1))
        case measure => omega
        case rel => exact ⟨k + 1, A', c', by omega, rfl, by go_num, rfl, ho', hb7⟩
      · have hke : k = xs.length := by omega
        subst hke
        rw [List.take_length] at hown
        have hr3 := Rd.of_own hown
        have hcap3 := own_cap hown
        have hlm : (xs.map wrA).length = xs.length := by rw [List.length_map]
        have hcl := conflictsOf_any A6 c6 (xs.map wrA) wr (by rw [hlm]; omega) (by rw [hlm]; exact hcap3) (by rw [hlm]; exact hr3)
        rw [hlm] at hcl
        have HC := Lib.hid hcl
        have hcr2 : cres (xs.map wrA) = cfl (xs.map wrA) := by unfold cres; rw [wrA_valid HV.out]; rfl
        have HR2 := Lib.hid hcr2
        have hlen2 := cres_len (xs.map wrA)
        have hr2w := (hr2.below hbw).more hbw.size
        have hb7 := below_then hb5 hbw hb5.size
        clear hcl hlm hr3 hown hcr2 hcap3
        go_wp2_with fail
        refine HC.out.mono ?_
        rintro e w6 ⟨A7, c7, rfl, ho7, hb6⟩
        rw [HR2.out] at ho7 hlen2 ⊢
        have hr7 := RdLL.of_own ho7
        have hr2x := hr2w.step hb6
        have hb8 := below_then hb7 hb6 hb7.size
        have hmono := cfl_mono xs
        obtain ⟨ms, hms⟩ : ∃ ms, ms = cfl (xs.map wrA) := ⟨_, rfl⟩
        have HSUB : Hid (∀ p ∈ cfl xs, p ∈ ms) := by show ∀ p ∈ cfl xs, p ∈ ms; rw [hms]; exact fun p hp => cfl_mem (validA_iff.1 HV.out).2 hp
        have HTWO : Hid (∀ p ∈ ms, p.length = 2) := by show ∀ p ∈ ms, p.length = 2; rw [hms]; exact fun p hp => cfl_two hp
        rw [← hms] at hr7 hlen2 hmono ⊢
        clear ho7 hb6 HC HR2 hms hb7 hbw hr2w
        go_wp2
        go_loopg [8, 9, 10] (cfl xs).length (fun gk iv _ _ wr => ∃ i : Nat, i ≤ (cfl xs).length ∧ gk = (cfl xs).length - i ∧ iv = .int .i64 i ∧ Below w6.heap.size w6 wr)
        case atStart => exact ⟨0, Nat.zero_le _, rfl, rfl, Below.refl _ _⟩
        case round =>
          obtain ⟨i, hi, rfl, rfl, hbw⟩ := hrel
          by_cases hli : i < (cfl xs).length
          · obtain ⟨b, off, p, A9, c9, rfl, hbl, hp, hc0, hr9⟩ := (hr2x.below hbw).at_ hli
            have hpm := HSUB.out p (List.mem_of_getElem? hp)
            have hp2 := HTWO.out p hpm
            have HPM := Lib.hid hpm
            have HP2 := Lib.hid hp2
            have hd : decide ((i : Int) < ((cfl xs).length : Int)) = true := by simp; omega
            clear hp hpm hp2
            go_wp2
            clear hd
            obtain ⟨wo, rfl⟩ : ∃ wo : World, wo = wr := ⟨_, rfl⟩
            go_loopg [9, 10] ms.length (fun gk sv kv wr => ∃ k : Nat, k ≤ ms.length ∧ gk = ms.length - k ∧ kv = .int .i64 k ∧ sv = .bool (decide (p ∈ ms.take k)) ∧ Below w6.heap.size wo wr)
            case atStart => exact ⟨0, Nat.zero_le _, rfl, rfl, by simp, Below.refl _ _⟩
            case round =>
              obtain ⟨k, hk, rfl, rfl, rfl, hbi⟩ := hrel
              by_cases hlk : k < ms.length
              · obtain ⟨b2, off2, p2, A10, c10, rfl, hbl2, hq, hd0, hr10⟩ := ((hr7.below hbw).below hbi).at_ hlk
                have hr9w := hr9.below hbi
                have hc0w := (hbi.cell (p := ⟨b, off + i, none⟩) hbl).trans hc0
                have hq2 := HTWO.out p2 (List.mem_of_getElem? hq)
                cases hs : decide (p ∈ ms.take k)
                · by_cases he : p = p2
                  · have HF := Lib.hid (mem_take_yes hq he)
                    have HE := Lib.hid he
                    clear hq he hs hq2
                    go_wp2
                    go_quiet ((go_at_call 21; exact quiet_draw (v := .bool (decide (p = p2))) (u := .bool true) (equalInts_any A9 c9 p A10 c10 p2 _ (by rw [HP2.out]; omega) (hr9w.drewN _) (hr10.drewN _)) (by simp [HE.out])))
                    go_wp2
                    go_roundg (ms.length - (k + 1))
                    case measure => omega
                    case rel => exact ⟨k + 1, by omega, rfl, by go_num, by rw [HF.out], below_drewN hbi _⟩
                  · have HF := Lib.hid (mem_take_no hq hs he)
                    have HE := Lib.hid he
                    clear hq he hs hq2
                    go_wp2
                    go_quiet ((go_at_call 21; exact quiet_draw (v := .bool (decide (p = p2))) (u := .bool false) (equalInts_any A9 c9 p A10 c10 p2 _ (by rw [HP2.out]; omega) (hr9w.drewN _) (hr10.drewN _)) (by simp [HE.out])))
                    go_wp2
                    go_roundg (ms.length - (k + 1))
                    case measure => omega
                    case rel => exact ⟨k + 1, by omega, rfl, by go_num, by rw [HF.out], below_drewN hbi _⟩
                · have HF := Lib.hid (mem_take_old hq hs)
                  clear hq hs hq2
                  go_wp2
                  go_quiet (fail)
                  go_wp2
                  go_roundg (ms.length - (k + 1))
                  case measure => omega
                  case rel => exact ⟨k + 1, by omega, rfl, by go_num, by rw [HF.out], below_drewN hbi _⟩
              · rw [take_all hlk]
                have hin : decide (p ∈ ms) = true := by simpa using HPM.out
                rw [hin]
                clear hin
                go_wp2
                go_roundg ((cfl xs).length - (i + 1))
                case measure => omega
                case rel => exact ⟨i + 1, by omega, rfl, by go_num, hbw.trans hbi⟩
          · have hb9 := below_then hb8 hbw hb8.size
            have hge : ((cfl xs).length : Int) ≤ (ms.length : Int) := by omega
            go_wp2
            go_ret
            exact ⟨rfl, hb9⟩
end Go.Proofs.Ytfhofincbekadaa
