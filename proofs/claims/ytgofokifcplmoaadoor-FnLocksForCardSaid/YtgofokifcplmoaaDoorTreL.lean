/- Contracts: NeedAbove, isAsk, LocksFor, of both packages; equalLocks; DrawLocksFor. -/
import Derived.Test.YtgofokifcplmoaaDoorTreK
import Derived.Test.YtgofokifcplmoaaDoorPLocks
import Derived.Test.YtgofokifcplmoaaDoorLks
import Derived.Test.YtgofokifcplmoaaDoorDrawN3
import Derived.Deep.RegionHeld3
namespace Go.Proofs.YtgofokifcplmoaaDoor
open Go.RowKit
set_option maxRecDepth 100000
open Tl (Nd Lk path validN validN_iff ValidN Grows need askOk locksF)

theorem isAsk2_any (who node mode : Int) (w : World) : Calls Tryd.prog 17 #[.int .i64 who, .int .i64 node, .int .i64 mode] w fun e w' => e = .returned (.bool (askOk who node mode)) ∧ w = w' := by
  have HA : Hid (askOk who node mode = (decide (0 ≤ who ∧ who ≤ 3) && (decide (0 ≤ node ∧ node ≤ 11) && decide (1 ≤ mode ∧ mode ≤ 5)))) := by
    show _ = _
    unfold askOk
    rw [Bool.eq_iff_iff]
    simp only [Bool.and_eq_true, decide_eq_true_eq]
    omega
  rw [HA.out]
  obtain ⟨b1, h1⟩ : ∃ b1, b1 = decide (0 ≤ who ∧ who ≤ 3) := ⟨_, rfl⟩
  obtain ⟨b2, h2⟩ : ∃ b2, b2 = decide (0 ≤ node ∧ node ≤ 11) := ⟨_, rfl⟩
  obtain ⟨b3, h3⟩ : ∃ b3, b3 = decide (1 ≤ mode ∧ mode ≤ 5) := ⟨_, rfl⟩
  rw [← h1, ← h2, ← h3]
  have H1 := Lib.hid h1
  have H2 := Lib.hid h2
  have H3 := Lib.hid h3
  clear h1 h2 h3 HA
  go_enter Tryd.func17, Tryd.ntmps17
  go_wp2_with fail
  refine (within_any who 0 3 w).mono ?_
  rintro e w' ⟨rfl, rfl⟩
  rw [← H1.out]
  cases b1
  · go_wp2
    go_ret
    exact ⟨rfl, rfl⟩
  · go_wp2_with fail
    refine (within_any node 0 11 _).mono ?_
    rintro e w' ⟨rfl, rfl⟩
    rw [← H2.out]
    cases b2
    · go_wp2
      go_ret
      exact ⟨rfl, rfl⟩
    · go_wp2_with fail
      refine (within_any mode 1 5 _).mono ?_
      rintro e w' ⟨rfl, rfl⟩
      rw [← H3.out]
      go_wp2
      go_ret
      exact ⟨rfl, rfl⟩
theorem ap_base2 {w : World} {base : Nat} {e : TypeId} {sz n : Nat} {u v0 : Value} {xs : List Value} (h : w.ownsRow base e sz u n xs) (hk : ∀ k, v0.ownBlock = some k → k < base) : Ap v0 u := by
  cases hv : v0.ownBlock with
  | none => exact .inl hv
  | some k =>
    cases hu : u.ownBlock with
    | none => exact .inr (.inl hu)
    | some k2 =>
      have h1 := (h.lt k2 hu).1
      have h2 := hk k hv
      refine .inr (.inr ?_)
      rw [hv, hu]
      intro e
      have : k = k2 := Option.some.inj e
      omega
theorem equalLocks_same (A : Option Addr) (c : Nat) (xs : List Lk) (A' : Option Addr) (c' : Nat) (w : World) {B : Nat} (hn : xs.length ≤ 100000) (hr : Rd w B 3 A xs.length (lks xs)) (hr' : Rd w B 3 A' xs.length (lks xs)) :
    Calls Tryd.prog 6 #[.slice A xs.length c, .slice A' xs.length c'] w (PBool w true) := by
  have hl1 : ((xs.length : Int) != (xs.length : Int)) = false := by simp
  go_enter Tryd.func6, Tryd.ntmps6
  go_wp2
  go_loopg [5] xs.length (fun gk i wr => ∃ k : Nat, k ≤ xs.length ∧ gk = xs.length - k ∧ i = .int .i64 k ∧ ∃ m, wr = w.drewN m)
  case atStart => exact ⟨0, Nat.zero_le _, rfl, rfl, 0, rfl⟩
  case round =>
    obtain ⟨k, hk, rfl, rfl, m, rfl⟩ := hrel
    by_cases hlt : k < xs.length
    · obtain ⟨b, off, x, rfl, _, hx, hc1, hc2, hc3⟩ := hr.lk hlt
      obtain ⟨b', off', y, rfl, _, hy, hd1, hd2, hd3⟩ := hr'.lk hlt
      obtain rfl : x = y := Option.some.inj (hx.symm.trans hy)
      clear hr hr' hx hy
      go_wp2
      go_quiet (fail)
      go_wp2
      go_roundg (xs.length - (k + 1))
      case measure => omega
      case rel => exact ⟨k + 1, by omega, rfl, by go_num, _, (by first | rfl | exact World.drewN_drewN _ _ _)⟩
    · go_wp2
      go_ret
      exact ⟨rfl, below_drewN (Below.refl _ _) _⟩

theorem needAbove_any (m : Int) (w : World) (h : 1 ≤ m ∧ m ≤ 5) : Calls Tryd.prog 9 #[.int .i64 m] w fun e w' => e = .returned (.int .i64 (need m)) ∧ w = w' := by
  have : m = 1 ∨ m = 2 ∨ m = 3 ∨ m = 4 ∨ m = 5 := by omega
  rcases this with rfl | rfl | rfl | rfl | rfl
  all_goals
    clear h
    go_enter Tryd.func9, Tryd.ntmps9
    go_wp2
    go_ret
    exact ⟨rfl, rfl⟩
theorem sneedAbove_any (m : Int) (w : World) (h : 1 ≤ m ∧ m ≤ 5) : Calls Tryd.prog 30 #[.int .i64 m] w fun e w' => e = .returned (.int .i64 (need m)) ∧ w' = w := by
  have : m = 1 ∨ m = 2 ∨ m = 3 ∨ m = 4 ∨ m = 5 := by omega
  rcases this with rfl | rfl | rfl | rfl | rfl
  all_goals
    clear h
    go_enter Tryd.func30, Tryd.ntmps30
    go_wp2
    go_ret
    exact ⟨rfl, rfl⟩
/-- What LocksFor answers. -/
noncomputable def locksN (t : List Nd) (who node mode : Int) : List Lk := if isN t node && askOk who node mode then locksF t who node mode else []
def ups (ps : List Int) (who mode : Int) : List Lk := ps.map fun a => (⟨who, a, need mode⟩ : Lk)
theorem ups_succ {ps : List Int} {k : Nat} {z who mode : Int} (hz : ps[k]? = some z) : ups (ps.take (k + 1)) who mode = ups (ps.take k) who mode ++ [⟨who, z, need mode⟩] := by
  unfold ups
  rw [List.take_add_one, hz]; simp
theorem ups_len (ps : List Int) (who mode : Int) : (ups ps who mode).length = ps.length := by simp [ups]
theorem locksF_ups {t : List Nd} {who node mode : Int} {L : Nat} (h : (path t node).length = L + 1) : locksF t who node mode = ups ((path t node).take L) who mode ++ [⟨who, node, mode⟩] := by
  unfold locksF ups
  rw [List.dropLast_eq_take, h, Nat.add_sub_cancel]

set_option maxHeartbeats 1000000 in
theorem locksFor_any (A : Option Addr) (c : Nat) (t : List Nd) (who node mode : Int) (w : World) (hn : t.length ≤ 10000) (hcap : t.length ≤ c) (hS : Short t) (hr : Rd w w.heap.size 3 A t.length (nds t)) :
    Calls Tryd.prog 5 #[.slice A t.length c, .int .i64 who, .int .i64 node, .int .i64 mode] w (PLks w (locksN t who node mode)) := by
  go_enter Tryd.func5, Tryd.ntmps5
  go_wp2_with fail
  refine (isNode_any A c t node _ (by omega) hcap hS hr).mono ?_
  rintro e w1 ⟨rfl, hb1⟩
  have hr1 := hr.step hb1
  cases hv : isN t node
  · have HE : Hid (locksN t who node mode = []) := by show _ = _; simp [locksN, hv]
    clear hv
    go_wp2
    go_ret
    rw [HE.out]
    exact ⟨none, 0, rfl, World.ownsRow_nil _ _ _ _, hb1⟩
  · have HN := Lib.hid hv
    clear hv
    go_wp2_with fail
    refine (isAsk2_any who node mode _).mono ?_
    rintro e w2 ⟨rfl, rfl⟩
    cases ha : askOk who node mode
    · have HE : Hid (locksN t who node mode = []) := by show _ = _; simp [locksN, ha]
      clear ha
      go_wp2
      go_ret
      rw [HE.out]
      exact ⟨none, 0, rfl, World.ownsRow_nil _ _ _ _, hb1⟩
    · have HE : Hid (locksN t who node mode = locksF t who node mode) := by show _ = _; simp [locksN, ha, HN.out]
      have hmd : 1 ≤ mode ∧ mode ≤ 5 := by
        have h := Tl.askOk_iff.1 ha
        unfold Tl.okL at h
        exact h.2.2.2.2
      clear ha
      go_wp2_with fail
      refine (pathTo_any A c t node _ hn hcap hS hr1).mono ?_
      rintro e w2 ⟨A2, c2, rfl, ho2, hb2⟩
      have hpe : pathN t node = path t node := by simp [pathN, HN.out]
      have hl5 := pathN_len t node
      rw [hpe] at ho2 hl5 ⊢
      have hpos : 1 ≤ (path t node).length := List.length_pos_iff.2 (Tl.path_ne_nil (isN_grows HN.out) (isN_iff.1 HN.out).1.1)
      obtain ⟨L, hL⟩ : ∃ L, (path t node).length = L + 1 := ⟨(path t node).length - 1, by omega⟩
      have HF := Lib.hid (locksF_ups (who := who) (mode := mode) hL)
      have hp2 := Rd.of_own ho2
      have hcap2 := own_cap ho2
      have hb3 := below_then hb1 hb2 hb1.size
      obtain ⟨ps, hps⟩ : ∃ ps, path t node = ps := ⟨_, rfl⟩
      rw [hps] at HF hp2 hcap2 hL hl5 ⊢
      have HL := Lib.hid hL
      rw [hL] at hp2 hcap2 hl5 ⊢
      clear hr hr1 hb1 hb2 ho2 hpe hpos hps hL
      go_wp2
      go_loopg [10, 33] L (fun gk lv iv wr => ∃ (k : Nat) (A' : Option Addr) (c' : Nat), gk = L - k ∧ k ≤ L ∧ lv = .slice A' k c' ∧ iv = .int .i64 k ∧ wr.ownsRow w2.heap.size 33 3 (.slice A' k c') k (lks (ups (ps.take k) who mode)) ∧ Below w2.heap.size w2 wr)
      case atStart => exact ⟨0, none, 0, rfl, by omega, rfl, rfl, World.ownsRow_nil _ _ _ _, Below.refl _ _⟩
      case round =>
        obtain ⟨k, A', c', rfl, hk, rfl, rfl, hown, hb⟩ := hrel
        by_cases hlt : k < L
        · obtain ⟨b, off, z, rfl, hbl, hz, hcz⟩ := (hp2.below hb).int (k := k) (by rw [HL.out]; omega)
          have HZ := Lib.hid (ups_succ (who := who) (mode := mode) hz)
          clear hz
          go_wp2_with fail
          refine (needAbove_any mode _ hmd).mono ?_
          rintro e w4 ⟨rfl, rfl⟩
          go_wp2_with (at_builtin; refine wpList_push_lk rfl _ _ rfl ⟨who, z, need mode⟩ rfl (hown.alloc _) rfl (heap_alloc_new wr _) (by omega) (by simp; have := hb.size; omega) ?_; intro A3 c3 w3 ho3 hb4 _)
          rw [← HZ.out] at ho3
          have hb5 := (hb.alloc hb.size (.cells #[.int .i64 who, .int .i64 z, .int .i64 (need mode)] 33)).trans hb4
          clear hb hb4 hown hcz
          go_wp2
          go_roundg (L - (k + 1))
          case measure => omega
          case rel => exact ⟨k + 1, A3, c3, rfl, by omega, rfl, by go_num, ho3, hb5⟩
        · obtain rfl : k = L := by omega
          go_wp2_with (at_builtin; refine wpList_push_lk rfl _ _ rfl ⟨who, node, mode⟩ rfl (hown.alloc _) rfl (heap_alloc_new wr _) (by omega) (by simp; have := hb.size; omega) ?_; intro A3 c3 w3 ho3 hb4 _)
          have hb5 := (hb.alloc hb.size (.cells #[.int .i64 who, .int .i64 node, .int .i64 mode] 33)).trans hb4
          have hb6 := below_then hb3 hb5 hb3.size
          have ho4 := own_base ho3 hb3.size
          have hll : (locksF t who node mode).length = k + 1 := by rw [HF.out, List.length_append, ups_len, List.length_take, HL.out]; simp
          clear hb hb4 hown ho3
          go_wp2
          go_ret
          rw [HE.out]
          refine ⟨A3, c3, ?_, ?_, hb6⟩
          · rw [hll]; rfl
          · rw [hll, HF.out]; exact ho4

set_option maxHeartbeats 1000000 in
theorem slocksFor0_any (A : Option Addr) (c : Nat) (t : List Nd) (who mode : Int) (j : Nat) (w : World) (hn : t.length ≤ 10000) (hV : ValidN t) (hj : j < t.length) (hmd : 1 ≤ mode ∧ mode ≤ 5) (hr : Rd w w.heap.size 3 A t.length (nds t)) :
    Calls Tryd.prog 20 #[.slice A t.length c, .int .i64 who, .int .i64 j, .int .i64 mode] w (PLks w (locksF t who (j : Int) mode)) := by
  have hl5 := path_len_le hV (i := (j : Int)) (by omega) (by omega)
  obtain ⟨L, hL⟩ : ∃ L, (path t (j : Int)).length = L + 1 := ⟨(path t (j : Int)).length - 1, by omega⟩
  have HF := Lib.hid (locksF_ups (who := who) (mode := mode) hL)
  obtain ⟨w1, hw1⟩ : ∃ w1, w.alloc (.cells #[] 33) = w1 := ⟨_, rfl⟩
  have hown0 := own_lit0 w 33 3 (base := w.heap.size) (Nat.le_refl _)
  have hb0 := (Below.refl w.heap.size w).alloc (Nat.le_refl _) (.cells #[] 33)
  have hsz : w1.heap.size = w.heap.size + 1 := by rw [← hw1]; simp
  rw [hw1] at hown0 hb0
  have hr1 := hr.step hb0
  go_enter Tryd.func20, Tryd.ntmps20
  go_wp2_with fail
  refine (spathTo0_any A c t j _ hn hV hj hr1).mono ?_
  rintro e w2 ⟨A2, c2, rfl, ho2, hb2⟩
  have hown2 := own_below hown0 hb2 (Nat.le_refl _)
  have hb3 := below_then hb0 hb2 hb0.size
  have hap : Ap (.slice (some ⟨w.heap.size, 0, none⟩) 0 0) (.slice A2 (path t (j : Int)).length c2) := ap_base2 ho2 (fun k hk => by
    have : k = w.heap.size := (Option.some.inj hk).symm
    omega)
  obtain ⟨ps, hps⟩ : ∃ ps, path t (j : Int) = ps := ⟨_, rfl⟩
  rw [hps] at HF ho2 hap hL hl5 ⊢
  have HL := Lib.hid hL
  rw [hL] at ho2 hap hl5 ⊢
  have hD := Lib.hid hsz
  have HB : w.heap.size ≤ w1.heap.size := by omega
  clear hr hr1 hb0 hb2 hown0 hps hL hV hsz hw1
  go_wp2
  go_loopg [9, 11] L (fun gk lv iv wr => ∃ (k : Nat) (A' : Option Addr) (c' : Nat), gk = L - k ∧ k ≤ L ∧ lv = .slice A' k c' ∧ iv = .int .i64 k ∧ wr.ownsRow w.heap.size 33 3 (.slice A' k c') k (lks (ups (ps.take k) who mode)) ∧
    wr.ownsRow w1.heap.size 3 1 (.slice A2 (L + 1) c2) (L + 1) (ints ps) ∧ Ap (.slice A' k c') (.slice A2 (L + 1) c2) ∧ Below w.heap.size w wr)
  case atStart => exact ⟨0, _, 0, rfl, by omega, rfl, rfl, hown2, ho2, hap, hb3⟩
  case round =>
    clear hown2 ho2 hap hb3
    obtain ⟨k, A', c', rfl, hk, rfl, rfl, hown, hop, hap, hb⟩ := hrel
    by_cases hlt : k < L
    · obtain ⟨b, off, z, rfl, hbl, hz, hcz⟩ := (Rd.of_own hop).int (k := k) (by rw [HL.out]; omega)
      have HZ := Lib.hid (ups_succ (who := who) (mode := mode) hz)
      have hdl : decide ((k : Int) + 1 < (L : Int) + 1) = true := by rw [decide_eq_true_eq]; omega
      have HZZ := Lib.hid hz
      clear hz
      have hkl1 : k < L + 1 := by omega
      have hkl2 : (k : Int) < (L : Int) + 1 := by omega
      have hkl3 : decide ((k : Int) < (L : Int) + 1) = true := decide_eq_true hkl2
      have hcell : ∀ W : World, W.ownsRow w1.heap.size 3 1 (.slice (some ⟨b, off, none⟩) (L + 1) c2) (L + 1) (ints ps) → W.cell? ⟨b, off + k, none⟩ = some (.int .i64 z) := fun W h => by
        obtain ⟨b', off', z', e, _, hz', hc'⟩ := (Rd.of_own h).int (k := k) (by rw [HL.out]; omega)
        obtain ⟨rfl, rfl⟩ : b = b' ∧ off = off' := by simpa using e
        obtain rfl := Option.some.inj (hz'.symm.trans HZZ.out)
        exact hc'
      have hopd := own_drew hop
      go_wp2
      go_region_held3 (fun w' => w'.cell? ⟨b, off + k, none⟩ = some (.int .i64 z))
        (first | go_keep | exact hcell _ hk4.1)
        (first
          | (go_at_call 30; refine (sneedAbove_any mode _ hmd).mono ?_; rintro e w' ⟨rfl, rfl⟩)
          | (have hZ := own_drew hown; refine step_push_lk (by rfl) _ _ (by rfl) ⟨who, z, need mode⟩ (by rfl) (hZ.alloc _) (by rfl) (heap_alloc_new wr.drew _) (by omega) (by simp; have := hb.size; omega) ?_; intro A3 c3 w3 ho3 hb4 hk3; have hk4 := hk3 (hopd.alloc _) hap; clear hZ))
      rw [← HZ.out] at ho3
      have hb5 := (hb.drew.alloc hb.size (.cells #[.int .i64 who, .int .i64 z, .int .i64 (need mode)] 33)).trans hb4
      clear hk3 hb hb4 hown hopd hop hap hcell
      go_wp2
      go_roundg (L - (k + 1))
      case measure => omega
      case rel => exact ⟨k + 1, A3, c3, rfl, by omega, rfl, by go_num, ho3, hk4.1, hk4.2, hb5⟩
    · obtain rfl : k = L := by omega
      have hdl : decide ((k : Int) + 1 < (k : Int) + 1) = false := by simp
      go_wp2_with (at_builtin; refine wpList_push_lk rfl _ _ rfl ⟨who, (j : Int), mode⟩ rfl (hown.alloc _) rfl (heap_alloc_new wr _) (by omega) (by simp; have := hb.size; omega) ?_; intro A3 c3 w3 ho3 hb4 _)
      have hb5 := (hb.alloc hb.size (.cells #[.int .i64 who, .int .i64 (j : Int), .int .i64 mode] 33)).trans hb4
      have hll : (locksF t who (j : Int) mode).length = k + 1 := by rw [HF.out, List.length_append, ups_len, List.length_take, HL.out]; simp
      clear hb hb4 hown
      go_wp2
      go_ret
      refine ⟨A3, c3, ?_, ?_, hb5⟩
      · rw [hll]; rfl
      · rw [hll, HF.out]; exact ho3

theorem slocksFor_any (A : Option Addr) (c : Nat) (t : List Nd) (who node mode : Int) (w : World) (hn : t.length ≤ 10000) (hcap : t.length ≤ c) (hS : Short t) (hr : Rd w w.heap.size 3 A t.length (nds t)) :
    Calls Tryd.prog 7 #[.slice A t.length c, .int .i64 who, .int .i64 node, .int .i64 mode] w (PLks w (locksN t who node mode)) := by
  go_enter Tryd.func7, Tryd.ntmps7
  go_wp2_with fail
  refine (svalidTree0_any A c t _ (by omega) hcap hS hr).mono ?_
  rintro e w1 ⟨rfl, hb1⟩
  have hr1 := hr.step hb1
  cases hv : validN t
  · have HE : Hid (locksN t who node mode = []) := by show _ = _; simp [locksN, isN, hv]
    clear hv
    go_wp2
    go_ret
    rw [HE.out]
    exact ⟨none, 0, rfl, World.ownsRow_nil _ _ _ _, hb1⟩
  · have HV := Lib.hid hv
    clear hv
    go_wp2_with fail
    refine (inRange_any _ _ _ _).mono ?_
    rintro e w2 ⟨rfl, rfl⟩
    by_cases hw : 0 ≤ who ∧ who ≤ 3
    · rw [decide_eq_true hw]
      have HW := Lib.hid hw
      clear hw
      go_wp2_with fail
      refine (inRange_any _ _ _ _).mono ?_
      rintro e w2 ⟨rfl, rfl⟩
      by_cases hi : 0 ≤ node ∧ node ≤ (t.length : Int) - 1
      · rw [decide_eq_true hi]
        have HI := Lib.hid hi
        clear hi
        go_wp2_with fail
        refine (inRange_any _ _ _ _).mono ?_
        rintro e w2 ⟨rfl, rfl⟩
        by_cases hm : 1 ≤ mode ∧ mode ≤ 5
        · rw [decide_eq_true hm]
          have hN : isN t node = true := by simp [isN, inT, HV.out, HI.out]
          have HE : Hid (locksN t who node mode = locksF t who node mode) := by
            show _ = _
            have h12 := (validN_iff.1 HV.out).1
            have h3 := HI.out
            have h4 := HW.out
            have ha : askOk who node mode = true := by
              unfold askOk
              rw [decide_eq_true_eq]
              omega
            simp [locksN, hN, ha]
          obtain ⟨j, rfl, hj⟩ := isN_nat hN
          clear hN
          go_wp2_with fail
          refine (slocksFor0_any A c t who mode j _ hn (validN_iff.1 HV.out) hj hm hr1).mono ?_
          rintro e w3 ⟨A3, c3, rfl, ho3, hb3⟩
          have hb4 := below_then hb1 hb3 hb1.size
          have ho4 := own_base ho3 hb1.size
          clear ho3 hb3 hb1 hm
          go_wp2
          go_ret
          rw [HE.out]
          exact ⟨A3, c3, rfl, ho4, hb4⟩
        · have HE : Hid (locksN t who node mode = []) := by
            show _ = _
            have ha : askOk who node mode = false := by
              unfold askOk
              rw [decide_eq_false_iff_not]
              omega
            simp [locksN, ha]
          rw [decide_eq_false hm]
          clear hm
          go_wp2
          go_ret
          rw [HE.out]
          exact ⟨none, 0, rfl, World.ownsRow_nil _ _ _ _, hb1⟩
      · have HE : Hid (locksN t who node mode = []) := by show _ = _; simp [locksN, isN, inT, hi]
        rw [decide_eq_false hi]
        clear hi
        go_wp2
        go_ret
        rw [HE.out]
        exact ⟨none, 0, rfl, World.ownsRow_nil _ _ _ _, hb1⟩
    · have HE : Hid (locksN t who node mode = []) := by
        show _ = _
        have ha : askOk who node mode = false := by
          unfold askOk
          rw [decide_eq_false_iff_not]
          omega
        simp [locksN, ha]
      rw [decide_eq_false hw]
      clear hw
      go_wp2
      go_ret
      rw [HE.out]
      exact ⟨none, 0, rfl, World.ownsRow_nil _ _ _ _, hb1⟩

theorem someMode2_any (g p : Nat) (w : World) (hr : Reader w g p) (hp : p ≤ 1000) : Calls Tryd.prog 15 #[.pointer (some ⟨g, 0, none⟩)] w fun e w' => ∃ m : Int, e = .returned (.int .i64 m) ∧ Reader w' g (p + 1) ∧ w.grownBy w' (some g) := by
  go_enter Tryd.func15, Tryd.ntmps15
  go_wp2_with fail
  have hr2 := hr.grown (World.grownBy_alloc w (.cells (ints [0, 1, 2, 3, 4, 5, 5, 3, -1, 6]).toArray 3) none) (by simp)
  refine (one_any g p (some ⟨w.heap.size, 0, none⟩) 10 [0, 1, 2, 3, 4, 5, 5, 3, -1, 6] _ hr2 (by omega) (by simp) (by simp) (lit_ints w [0, 1, 2, 3, 4, 5, 5, 3, -1, 6] 3 (g := g) hr.lt)).mono ?_
  rintro e w1 ⟨y, rfl, _, hrd, hg⟩
  have hgw := grown_trans (grown_alloc (grown_refl w (some g)) (.cells (ints [0, 1, 2, 3, 4, 5, 5, 3, -1, 6]).toArray 3)) hg
  clear hg hr2 hr
  go_wp2
  go_ret
  exact ⟨y, rfl, hrd, hgw⟩


def PDrawL (w : World) (e : Ending) (w' : World) : Prop := ∃ (t : List Nd) (A : Option Addr) (c : Nat) (who x m : Int), e = .returned (.tuple #[.slice A t.length c, .int .i64 who, .int .i64 x, .int .i64 m]) ∧ TreeW w' A c t ∧ (-1 ≤ x ∧ x ≤ 13) ∧ Below w.heap.size w w'
theorem drawLocksFor_any (A : Option Addr) (n c : Nat) (w : World) (h : Code8 w A n c) : Calls Tryd.prog 4 #[.slice A n c] w (PDrawL w) := by
  go_enter Tryd.func4, Tryd.ntmps4
  go_wp2_with fail
  refine (newReader_any A n c _ h).mono ?_
  rintro e w1 ⟨g, rfl, hr1, hg, hb1⟩
  go_wp2_with fail
  refine (anyTree_any g 0 _ hr1 (by omega)).mono ?_
  rintro e w2 ⟨t, A2, c2, q, rfl, ht2, hr2, hq2, hg2⟩
  have hb3 := hb1.trans (grown_below hg2 hg hb1.size)
  have htl := ht2.2.2.2.1
  clear hg2 hr1
  go_wp2_with fail
  have hrd6 := hr2.grown (World.grownBy_alloc w2 (.cells (ints [0, 1, 2, 3, 4, -1]).toArray 3) none) (by simp)
  have ht6 := ht2.below ((Below.refl w2.heap.size w2).alloc (Nat.le_refl _) (.cells (ints [0, 1, 2, 3, 4, -1]).toArray 3))
  refine (one_any g q (some ⟨w2.heap.size, 0, none⟩) 6 [0, 1, 2, 3, 4, -1] _ hrd6 (by omega) (by simp) (by simp) (lit_ints w2 [0, 1, 2, 3, 4, -1] 3 (g := g) hr2.lt)).mono ?_
  rintro e w3 ⟨who, rfl, _, hr3, hg3⟩
  have hb4 := (hb3.alloc hb3.size (.cells (ints [0, 1, 2, 3, 4, -1]).toArray 3)).trans (grown_below hg3 hg (by simp; have := hb3.size; omega))
  have ht3 := ht6.grown hg3
  clear hr2 ht2 hg3 hb3 hrd6 ht6
  go_wp2_with fail
  refine (someAt_any g (q + 1) A2 c2 t.length _ hr3 (by omega) (by omega)).mono ?_
  rintro e w4 ⟨x, q4, rfl, hx0, hx1, hr4, hq4, hg4⟩
  have hb5 := hb4.trans (grown_below hg4 hg hb4.size)
  have ht4 := ht3.grown hg4
  clear hr3 ht3 hg4 hb4
  go_wp2_with fail
  refine (someMode2_any g q4 _ hr4 (by omega)).mono ?_
  rintro e w5 ⟨m, rfl, hr5, hg5⟩
  have hb6 := hb5.trans (grown_below hg5 hg hb5.size)
  have hw := TreeW.of (ht4.grown hg5)
  clear hr4 ht4 hg5 hb5
  go_wp2
  refine bodyPost_ret (v := .tuple #[.slice A2 t.length c2, .int .i64 who, .int .i64 x, .int .i64 m]) (by simp [results, Tryd.results4, go_sem]) rfl ?_
  exact ⟨t, A2, c2, who, x, m, rfl, hw, by omega, hb6⟩
end Go.Proofs.YtgofokifcplmoaaDoor
