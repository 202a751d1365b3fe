/- Contracts: IsTwoPhase and LockPoint, of both packages. -/
import Derived.Test.YtpbhphpmegcenaaDoorStC
import Derived.IntWalk
namespace Go.Proofs.YtpbhphpmegcenaaDoor
open Go.RowKit
open Tl (Lk St validS twoPhase phases phasesGo lockPoint)

theorem phases_drop0 (ss : List St) (who : Int) : phasesGo who false (ss.drop 0) = phases ss who := rfl
theorem phases_step {ss : List St} {who : Int} {k : Nat} {s : St} {fr : Bool} {r : Bool} (hs : ss[k]? = some s) (h : phasesGo who fr (ss.drop k) = r) :
    (s.who ≠ who → phasesGo who fr (ss.drop (k + 1)) = r) ∧ (s.who = who → fr = true → s.free = false → r = false) ∧ (s.who = who → ¬ (fr = true ∧ s.free = false) → phasesGo who (fr || s.free) (ss.drop (k + 1)) = r) := by
  obtain ⟨hk, rfl⟩ := List.getElem?_eq_some_iff.1 hs
  rw [List.drop_eq_getElem_cons hk] at h
  unfold phasesGo at h
  refine ⟨fun hw => ?_, fun hw h1 h2 => ?_, fun hw h1 => ?_⟩
  · rw [if_neg hw] at h; exact h
  · rw [if_pos hw, h1, h2] at h; simpa using h.symm
  · rw [if_pos hw, if_neg (by intro hc; simp at hc; exact h1 hc)] at h; exact h
theorem phases_end {ss : List St} {who : Int} {k : Nat} {fr : Bool} {r : Bool} (hk : ¬ k < ss.length) (h : phasesGo who fr (ss.drop k) = r) : r = true := by
  rw [List.drop_of_length_le (by omega)] at h
  exact h.symm

set_option maxHeartbeats 1000000 in
set_option maxRecDepth 100000 in
theorem isTwoPhase_any (A : Option Addr) (c : Nat) (ss : List St) (who : Int) (w : World) (hn : ss.length ≤ 100000) (hT : TabT w) (hJ : TabJ w) (hr : Rd w w.heap.size 4 A ss.length (sts ss)) :
    Calls Tryd.prog 25 #[.slice A ss.length c, .int .i64 who] w (PBool w (twoPhase ss who)) := by
  cases hv : validS ss
  · have HE : Hid (twoPhase ss who = false) := by show _ = _; unfold twoPhase; rw [hv]; rfl
    go_enter Tryd.func25, Tryd.ntmps25
    go_wp2_with fail
    refine (validSteps_any A c ss _ hn hT hJ hr).mono ?_
    rintro e w1 ⟨rfl, hb1⟩
    rw [hv]
    go_wp2
    go_ret
    exact ⟨ret_bool HE.out.symm, hb1⟩
  · have HE : Hid (twoPhase ss who = phases ss who) := by show _ = _; unfold twoPhase; rw [hv]; rfl
    go_enter Tryd.func25, Tryd.ntmps25
    go_wp2_with fail
    refine (validSteps_any A c ss _ hn hT hJ hr).mono ?_
    rintro e w1 ⟨rfl, hb1⟩
    rw [hv]
    have hr1 := hr.step hb1
    clear hv hr hT hJ
    go_wp2
    go_loopg [5, 13] ss.length (fun gk fv s13 wr => ∃ (k : Nat) (fr : Bool), k ≤ ss.length ∧ gk = ss.length - k ∧ s13 = .int .i64 k ∧ fv = .bool fr ∧ Hid (phasesGo who fr (ss.drop k) = phases ss who) ∧ Below w1.heap.size w1 wr)
    case atStart => exact ⟨0, false, Nat.zero_le _, rfl, rfl, rfl, phases_drop0 ss who, Below.refl _ _⟩
    case round =>
      obtain ⟨k, fr, hk, rfl, rfl, rfl, HP, hb⟩ := hrel
      by_cases hlt : k < ss.length
      · obtain ⟨b, off, s, rfl, hbl, hx, hc1, hc2, hc3, hc4⟩ := (hr1.below hb).st hlt
        obtain ⟨f1, f2, f3⟩ := phases_step hx HP.out
        have hb2 := hb.alloc hb.size (.cells #[.int .i64 s.who, .bool s.free, .int .i64 s.node, .int .i64 s.mode] 29)
        have hz := cell4_new wr (.int .i64 s.who) (.bool s.free) (.int .i64 s.node) (.int .i64 s.mode) 29
        have hz0 := hz 0 _ rfl
        have hz1 := hz 1 _ rfl
        clear hx hz
        by_cases hw : s.who = who
        · have hw' : (s.who != who) = false := by simp [hw]
          have G2 := Lib.hid (f2 hw)
          have G3 := Lib.hid (f3 hw)
          clear f1 f2 f3 hw
          cases hfr : fr
          · subst hfr
            have HN := Lib.hid (G3.out (by simp))
            cases hfs : s.free
            all_goals
              have HN2 := HN
              rw [hfs] at HN2 hb2 hz0 hz1 hc2
              clear G2 G3 HN HP hfs
              go_wp2
              go_roundg (ss.length - (k + 1))
              case measure => omega
              case rel => exact ⟨k + 1, _, by omega, rfl, by go_num, rfl, HN2, hb2⟩
          · subst hfr
            cases hfs : s.free
            · have HF := Lib.hid (G2.out rfl hfs)
              rw [hfs] at hb2 hz0 hz1 hc2
              have hb3 := below_then hb1 hb2 hb1.size
              clear G2 G3 HP hfs
              go_wp2
              go_ret
              exact ⟨ret_bool (by rw [HE.out, HF.out]), hb3⟩
            · have HN2 := Lib.hid (G3.out (by rw [hfs]; simp))
              rw [hfs] at HN2 hb2 hz0 hz1 hc2
              clear G2 G3 HP hfs
              go_wp2
              go_roundg (ss.length - (k + 1))
              case measure => omega
              case rel => exact ⟨k + 1, _, by omega, rfl, by go_num, rfl, HN2, hb2⟩
        · have hw' : (s.who != who) = true := by simp [hw]
          have HN := Lib.hid (f1 hw)
          clear f1 f2 f3 hw HP hz0 hz1
          go_wp2
          go_roundg (ss.length - (k + 1))
          case measure => omega
          case rel => exact ⟨k + 1, fr, by omega, rfl, by go_num, rfl, HN, hb2⟩
      · have HE2 := Lib.hid (phases_end hlt HP.out)
        have hb2 := below_then hb1 hb hb1.size
        go_wp2
        go_ret
        exact ⟨ret_bool (by rw [HE.out, HE2.out]), hb2⟩
set_option maxHeartbeats 1000000 in
set_option maxRecDepth 100000 in
theorem stwoPhases_any (A : Option Addr) (c : Nat) (ss : List St) (who : Int) (w : World) {B : Nat} (hn : ss.length ≤ 100000) (hr : Rd w B 4 A ss.length (sts ss)) :
    Calls Tryd.prog 48 #[.slice A ss.length c, .int .i64 who] w fun e w' => e = .returned (.bool (phases ss who)) ∧ w = w' := by
  go_enter Tryd.func48, Tryd.ntmps48
  go_wp2
  go_loopg [5, 6] ss.length (fun gk fv s13 wr => ∃ (k : Nat) (fr : Bool), k ≤ ss.length ∧ gk = ss.length - k ∧ s13 = .int .i64 k ∧ fv = .bool fr ∧ Hid (phasesGo who fr (ss.drop k) = phases ss who) ∧ w = wr)
  case atStart => exact ⟨0, false, Nat.zero_le _, rfl, rfl, rfl, phases_drop0 ss who, rfl⟩
  case round =>
    obtain ⟨k, fr, hk, rfl, rfl, rfl, HP, rfl⟩ := hrel
    by_cases hlt : k < ss.length
    · obtain ⟨b, off, s, rfl, hbl, hx, hc1, hc2, hc3, hc4⟩ := hr.st hlt
      obtain ⟨f1, f2, f3⟩ := phases_step hx HP.out
      clear hx
      by_cases hw : s.who = who
      · have hw' : (s.who == who) = true := by simp [hw]
        have G2 := Lib.hid (f2 hw)
        have G3 := Lib.hid (f3 hw)
        clear f1 f2 f3 hw
        cases hfr : fr
        · subst hfr
          have HN := Lib.hid (G3.out (by simp))
          cases hfs : s.free
          all_goals
            have HN2 := HN
            rw [hfs] at HN2 hc2
            clear G2 G3 HN HP hfs
            go_wp2
            go_roundg (ss.length - (k + 1))
            case measure => omega
            case rel => exact ⟨k + 1, _, by omega, rfl, by go_num, rfl, HN2, rfl⟩
        · subst hfr
          cases hfs : s.free
          · have HF := Lib.hid (G2.out rfl hfs)
            rw [hfs] at hc2
            clear G2 G3 HP hfs
            go_wp2
            go_ret
            exact ⟨ret_bool HF.out.symm, rfl⟩
          · have HN2 := Lib.hid (G3.out (by rw [hfs]; simp))
            rw [hfs] at HN2 hc2
            clear G2 G3 HP hfs
            go_wp2
            go_roundg (ss.length - (k + 1))
            case measure => omega
            case rel => exact ⟨k + 1, _, by omega, rfl, by go_num, rfl, HN2, rfl⟩
      · have hw' : (s.who == who) = false := by simp [hw]
        have HN := Lib.hid (f1 hw)
        clear f1 f2 f3 hw HP
        cases fr
        all_goals
          go_wp2
          go_roundg (ss.length - (k + 1))
          case measure => omega
          case rel => exact ⟨k + 1, _, by omega, rfl, by go_num, rfl, HN, rfl⟩
    · have HE2 := Lib.hid (phases_end hlt HP.out)
      go_wp2
      go_ret
      exact ⟨ret_bool HE2.out.symm, rfl⟩
theorem sisTwoPhase_any (A : Option Addr) (c : Nat) (ss : List St) (who : Int) (w : World) (hn : ss.length ≤ 100000) (hr : Rd w w.heap.size 4 A ss.length (sts ss)) :
    Calls Tryd.prog 26 #[.slice A ss.length c, .int .i64 who] w (PBool w (twoPhase ss who)) := by
  cases hv : validS ss
  · have HE : Hid (twoPhase ss who = false) := by show _ = _; unfold twoPhase; rw [hv]; rfl
    go_enter Tryd.func26, Tryd.ntmps26
    go_wp2_with fail
    refine (svalidSteps0_any A c ss _ hn hr).mono ?_
    rintro e w1 ⟨rfl, hb1⟩
    rw [hv]
    go_wp2
    go_ret
    exact ⟨ret_bool HE.out.symm, hb1⟩
  · have HE : Hid (twoPhase ss who = phases ss who) := by show _ = _; unfold twoPhase; rw [hv]; rfl
    go_enter Tryd.func26, Tryd.ntmps26
    go_wp2_with fail
    refine (svalidSteps0_any A c ss _ hn hr).mono ?_
    rintro e w1 ⟨rfl, hb1⟩
    rw [hv]
    have hr1 := hr.step hb1
    clear hv hr
    go_wp2_with fail
    refine (stwoPhases_any A c ss who _ hn hr1).mono ?_
    rintro e w2 ⟨rfl, rfl⟩
    go_wp2
    go_ret
    exact ⟨ret_bool HE.out.symm, hb1⟩
set_option maxHeartbeats 1000000 in
set_option maxRecDepth 100000 in
theorem lockPoint_any (A : Option Addr) (c : Nat) (ss : List St) (who : Int) (w : World) (hn : ss.length ≤ 100000) (hT : TabT w) (hJ : TabJ w) (hr : Rd w w.heap.size 4 A ss.length (sts ss)) :
    Calls Tryd.prog 17 #[.slice A ss.length c, .int .i64 who] w (PInt w (lockPoint ss who)) := by
  cases hv : validS ss
  · have HE := Lib.hid (Tl.lockPoint_not who hv)
    go_enter Tryd.func17, Tryd.ntmps17
    go_wp2_with fail
    refine (validSteps_any A c ss _ hn hT hJ hr).mono ?_
    rintro e w1 ⟨rfl, hb1⟩
    rw [hv]
    go_wp2
    go_ret
    exact ⟨ret_int HE.out.symm, hb1⟩
  · have HV := Lib.hid hv
    go_enter Tryd.func17, Tryd.ntmps17
    go_wp2_with fail
    refine (validSteps_any A c ss _ hn hT hJ hr).mono ?_
    rintro e w1 ⟨rfl, hb1⟩
    rw [hv]
    have hr1 := hr.step hb1
    have hw0 : IntKind.i64.wrap ((ss.length : Int) - 1) = (ss.length : Int) - 1 := by rw [IntWalk.i64_in _ (by omega)]
    clear hv hr hT hJ
    go_wp2
    go_loopg [5] ss.length (fun gk s5 wr => gk ≤ ss.length ∧ s5 = .int .i64 ((gk : Int) - 1) ∧ Hid (∀ (j : Nat) (q : St), gk ≤ j → ss[j]? = some q → ¬ (q.who = who ∧ q.free = false)) ∧ w1 = wr)
    case atStart => exact ⟨Nat.le_refl _, rfl, (show ∀ (j : Nat) (q : St), ss.length ≤ j → ss[j]? = some q → ¬ (q.who = who ∧ q.free = false) from fun j q hj hq => by rw [List.getElem?_eq_none hj] at hq; cases hq), rfl⟩
    case round =>
      clear hw0
      obtain ⟨hk, rfl, HL, rfl⟩ := hrel
      rcases Nat.eq_zero_or_pos gk with h0 | h0
      · have HE := Lib.hid (Tl.lockPoint_none (who := who) HV.out (fun i s hs => HL.out i s (by omega) hs))
        subst h0
        have h0' : ¬ (0 : Int) ≤ ((0 : Nat) : Int) - 1 := by omega
        go_wp2
        go_ret
        exact ⟨ret_int HE.out.symm, hb1⟩
      · obtain ⟨m, rfl⟩ : ∃ m, gk = m + 1 := ⟨gk - 1, by omega⟩
        have hms : m < ss.length := by omega
        have e1 : ((m + 1 : Nat) : Int) - 1 = (m : Int) := by omega
        rw [e1]
        obtain ⟨b, off, s, rfl, hbl, hx, hc1, hc2, hc3, hc4⟩ := hr1.st hms
        have HX := Lib.hid hx
        have hw0 : IntKind.i64.wrap ((m : Int) - 1) = (m : Int) - 1 := by rw [IntWalk.i64_in _ (by omega)]
        clear hx e1
        by_cases hh : s.who = who ∧ s.free = false
        · have hw' : (s.who == who) = true := by simp [hh.1]
          rw [hh.2] at hc2
          have HE := Lib.hid (Tl.lockPoint_at HV.out HX.out hh.1 hh.2 (fun j q hj hq => HL.out j q (by omega) hq))
          clear hh
          go_wp2
          go_ret
          exact ⟨ret_int HE.out.symm, hb1⟩
        · have HN : Hid (∀ (j : Nat) (q : St), m ≤ j → ss[j]? = some q → ¬ (q.who = who ∧ q.free = false)) := by
            show ∀ (j : Nat) (q : St), m ≤ j → ss[j]? = some q → ¬ (q.who = who ∧ q.free = false)
            intro j q hj hq
            rcases Nat.eq_or_lt_of_le hj with rfl | hl
            · rw [HX.out] at hq; rw [← Option.some.inj hq]; exact hh
            · exact HL.out j q hl hq
          have hcase : (s.who == who) = false ∨ ((s.who == who) = true ∧ s.free = true) := by
            by_cases h1 : s.who = who
            · right; refine ⟨by simp [h1], ?_⟩
              cases h2 : s.free with
              | true => rfl
              | false => exact absurd ⟨h1, h2⟩ hh
            · left; simp [h1]
          clear hh
          rcases hcase with hw' | ⟨hw', hf⟩
          · go_wp2
            go_roundg m
            case measure => omega
            case rel => exact ⟨by omega, rfl, HN, rfl⟩
          · rw [hf] at hc2
            clear hf
            go_wp2
            go_roundg m
            case measure => omega
            case rel => exact ⟨by omega, rfl, HN, rfl⟩
theorem lastTake_snoc (who : Int) : ∀ (ss : List St) (s : St) (i a : Int), Tl.lastTake who (ss ++ [s]) i a = if s.who = who ∧ s.free = false then i + ss.length else Tl.lastTake who ss i a
  | [], s, i, a => by simp [Tl.lastTake]
  | q :: r, s, i, a => by
    rw [List.cons_append]
    unfold Tl.lastTake
    rw [lastTake_snoc who r s (i + 1) _]
    split
    · simp; omega
    · rfl
theorem lastTake_step {ss : List St} {who : Int} {k : Nat} {s : St} (hs : ss[k]? = some s) : Tl.lastTake who (ss.take (k + 1)) 0 (-1) = if s.who = who ∧ s.free = false then (k : Int) else Tl.lastTake who (ss.take k) 0 (-1) := by
  have hk := (List.getElem?_eq_some_iff.1 hs).1
  rw [take_succ_of hs, lastTake_snoc, List.length_take, Nat.min_eq_left (by omega)]
  simp
set_option maxHeartbeats 1000000 in
set_option maxRecDepth 100000 in
theorem slockPoint0_any (A : Option Addr) (c : Nat) (ss : List St) (who : Int) (w : World) {B : Nat} (hn : ss.length ≤ 100000) (hr : Rd w B 4 A ss.length (sts ss)) :
    Calls Tryd.prog 44 #[.slice A ss.length c, .int .i64 who] w fun e w' => e = .returned (.int .i64 (Tl.lastTake who ss 0 (-1))) ∧ w = w' := by
  go_enter Tryd.func44, Tryd.ntmps44
  go_wp2
  go_loopg [5, 6] ss.length (fun gk s5 s6 wr => ∃ (k : Nat) (a : Int), k ≤ ss.length ∧ gk = ss.length - k ∧ s6 = .int .i64 k ∧ s5 = .int .i64 a ∧ Hid (a = Tl.lastTake who (ss.take k) 0 (-1)) ∧ w = wr)
  case atStart => exact ⟨0, -1, Nat.zero_le _, rfl, rfl, rfl, (show (-1 : Int) = _ from rfl), rfl⟩
  case round =>
    obtain ⟨k, a, hk, rfl, rfl, rfl, HA, rfl⟩ := hrel
    by_cases hlt : k < ss.length
    · obtain ⟨b, off, s, rfl, hbl, hx, hc1, hc2, hc3, hc4⟩ := hr.st hlt
      have hst := lastTake_step (who := who) hx
      clear hx
      by_cases hh : s.who = who ∧ s.free = false
      · rw [if_pos hh] at hst
        have HN : Hid ((k : Int) = Tl.lastTake who (ss.take (k + 1)) 0 (-1)) := hst.symm
        have hw' : (s.who == who) = true := by simp [hh.1]
        rw [hh.2] at hc2
        clear hh hst
        go_wp2
        go_roundg (ss.length - (k + 1))
        case measure => omega
        case rel => exact ⟨k + 1, k, by omega, rfl, by go_num, rfl, HN, rfl⟩
      · rw [if_neg hh] at hst
        have HN : Hid (a = Tl.lastTake who (ss.take (k + 1)) 0 (-1)) := HA.out.trans hst.symm
        have hcase : (s.who == who) = false ∨ ((s.who == who) = true ∧ s.free = true) := by
          by_cases h1 : s.who = who
          · right; refine ⟨by simp [h1], ?_⟩
            cases h2 : s.free with
            | true => rfl
            | false => exact absurd ⟨h1, h2⟩ hh
          · left; simp [h1]
        clear hh hst
        rcases hcase with hw' | ⟨hw', hf⟩
        · go_wp2
          go_roundg (ss.length - (k + 1))
          case measure => omega
          case rel => exact ⟨k + 1, a, by omega, rfl, by go_num, rfl, HN, rfl⟩
        · rw [hf] at hc2
          clear hf
          go_wp2
          go_roundg (ss.length - (k + 1))
          case measure => omega
          case rel => exact ⟨k + 1, a, by omega, rfl, by go_num, rfl, HN, rfl⟩
    · rw [take_all hlt] at HA
      go_wp2
      go_ret
      exact ⟨ret_int HA.out, rfl⟩
theorem slockPoint_any (A : Option Addr) (c : Nat) (ss : List St) (who : Int) (w : World) (hn : ss.length ≤ 100000) (hr : Rd w w.heap.size 4 A ss.length (sts ss)) :
    Calls Tryd.prog 18 #[.slice A ss.length c, .int .i64 who] w (PInt w (lockPoint ss who)) := by
  cases hv : validS ss
  · have HE := Lib.hid (Tl.lockPoint_not who hv)
    go_enter Tryd.func18, Tryd.ntmps18
    go_wp2_with fail
    refine (svalidSteps0_any A c ss _ hn hr).mono ?_
    rintro e w1 ⟨rfl, hb1⟩
    rw [hv]
    go_wp2
    go_ret
    exact ⟨ret_int HE.out.symm, hb1⟩
  · have HE : Hid (lockPoint ss who = Tl.lastTake who ss 0 (-1)) := by show _ = _; unfold lockPoint; rw [if_pos hv]
    go_enter Tryd.func18, Tryd.ntmps18
    go_wp2_with fail
    refine (svalidSteps0_any A c ss _ hn hr).mono ?_
    rintro e w1 ⟨rfl, hb1⟩
    rw [hv]
    have hr1 := hr.step hb1
    clear hv hr
    go_wp2_with fail
    refine (slockPoint0_any A c ss who _ hn hr1).mono ?_
    rintro e w2 ⟨rfl, rfl⟩
    go_wp2
    go_ret
    exact ⟨ret_int HE.out.symm, hb1⟩
end Go.Proofs.YtpbhphpmegcenaaDoor
