import Derived.Test.YtpbhphpmegcenaaDoorPSteps
import Derived.Test.YtpbhphpmegcenaaDoorPSerial
/- More plain facts on schedules: one step at a time, the last take by places, the accesses of a schedule. No program here. -/
namespace Tl

theorem runS_none_step {ss : List St} {l q : List Lk} {k : Nat} {s : St} (hs : ss[k]? = some s) (h : runS l (ss.take k) = some q) (hd : doSt q s = none) : runS l ss = none := by
  obtain ⟨hk, rfl⟩ := List.getElem?_eq_some_iff.1 hs
  rw [← List.take_append_drop k ss, runS_append, h]
  show runS q (ss.drop k) = none
  rw [List.drop_eq_getElem_cons hk]
  unfold runS
  rw [hd]
theorem runS_some_step {ss : List St} {l q m : List Lk} {k : Nat} {s : St} (hs : ss[k]? = some s) (h : runS l (ss.take k) = some q) (hd : doSt q s = some m) : runS l (ss.take (k + 1)) = some m := by
  have e : ss.take (k + 1) = ss.take k ++ [s] := by rw [List.take_add_one, hs]; rfl
  rw [e, runS_snoc, h]
  exact hd
theorem tableAfter_le {ss : List St} (h : ss.length ≤ 16) : tableAfter ss = runS [] ss := by unfold tableAfter; rw [if_pos h]
theorem tableAfter_gt {ss : List St} (h : ¬ ss.length ≤ 16) : tableAfter ss = none := by unfold tableAfter; rw [if_neg h]
theorem validS_gt {ss : List St} (h : ¬ ss.length ≤ 16) : validS ss = false := by unfold validS; rw [tableAfter_gt h]; rfl
theorem validS_bad {ss : List St} {k : Nat} {s : St} (hs : ss[k]? = some s) (h : stOk s = false) : validS ss = false := by
  rw [Bool.eq_false_iff]
  intro hv
  unfold validS at hv
  obtain ⟨m, hm⟩ := Option.isSome_iff_exists.1 hv
  have := runS_ok ss validT_nil (tableAfter_some.1 hm).2 s (List.mem_of_getElem? hs)
  rw [h] at this
  cases this
theorem held_hasL {l : List Lk} (h : validT l = true) (who node : Int) : (held l who node = 0) ↔ hasL l who node = false := by
  induction l with
  | nil => simp [held, hasL]
  | cons x r ih =>
    have hv := validT_iff.1 h
    have hx := hv.2.1 x (by simp)
    have hr : validT r = true := validT_sub h (List.sublist_cons_self x r)
    cases ha : at_ who node x with
    | true =>
      have e1 : hasL (x :: r) who node = true := by unfold hasL; rw [List.any_cons, ha]; rfl
      have e2 : held (x :: r) who node = x.mode := by unfold held; simp [ha]
      rw [e1, e2]
      unfold okL at hx
      constructor
      · intro h0; omega
      · intro h0; cases h0
    | false =>
      have e1 : hasL (x :: r) who node = hasL r who node := by unfold hasL; rw [List.any_cons, ha]; rfl
      have e2 : held (x :: r) who node = held r who node := by
        conv => lhs; unfold held; simp [ha]
        rfl
      rw [e1, e2]
      exact ih hr

/-- The last take, by places. -/
theorem lockPoint_none {ss : List St} {who : Int} (hv : validS ss = true) (h : ∀ (i : Nat) (s : St), ss[i]? = some s → ¬ (s.who = who ∧ s.free = false)) : lockPoint ss who = -1 := by
  unfold lockPoint
  rw [hv, if_pos rfl]
  rcases lastTake_spec who ss 0 (-1) with ⟨_, h2⟩ | ⟨k, s, h1, h2, h3, _⟩
  · exact h2
  · exact absurd ⟨h2, h3⟩ (h k s h1)
theorem lockPoint_at {ss : List St} {who : Int} {k : Nat} {s : St} (hv : validS ss = true) (hs : ss[k]? = some s) (hw : s.who = who) (hf : s.free = false) (h : ∀ (j : Nat) (q : St), k < j → ss[j]? = some q → ¬ (q.who = who ∧ q.free = false)) : lockPoint ss who = k := by
  unfold lockPoint
  rw [hv, if_pos rfl]
  rcases lastTake_spec who ss 0 (-1) with ⟨h1, _⟩ | ⟨i, q, h1, h2, h3, h4, h5⟩
  · exact absurd ⟨hw, hf⟩ (h1 k s hs)
  · rw [h4]
    rcases Nat.lt_trichotomy i k with hl | rfl | hl
    · exact absurd ⟨hw, hf⟩ (h5 k s hl hs)
    · omega
    · exact absurd ⟨h2, h3⟩ (h i q hl h1)
theorem lockPoint_cases (ss : List St) (who : Int) (hv : validS ss = true) : (lockPoint ss who = -1 ∧ ∀ (i : Nat) (s : St), ss[i]? = some s → ¬ (s.who = who ∧ s.free = false)) ∨
    ∃ (k : Nat) (s : St), lockPoint ss who = k ∧ ss[k]? = some s ∧ s.who = who ∧ s.free = false ∧ ∀ (j : Nat) (q : St), k < j → ss[j]? = some q → ¬ (q.who = who ∧ q.free = false) := by
  unfold lockPoint
  rw [hv, if_pos rfl]
  rcases lastTake_spec who ss 0 (-1) with ⟨h1, h2⟩ | ⟨i, q, h1, h2, h3, h4, h5⟩
  · exact .inl ⟨h2, h1⟩
  · exact .inr ⟨i, q, by rw [h4]; omega, h1, h2, h3, h5⟩
theorem lockPoint_not {ss : List St} (who : Int) (h : validS ss = false) : lockPoint ss who = -1 := by unfold lockPoint; rw [h]; rfl

/-- The accesses of a schedule. -/
def acOf (s : St) : Ac := ⟨s.who, s.node, decide (s.mode = 5)⟩
def accsOf (ss : List St) : List Ac := (ss.filter fun s => !s.free).map acOf
def accessesOf (ss : List St) : List Ac := if validS ss then accsOf ss else []
theorem accsOf_take {ss : List St} {k : Nat} {s : St} (hs : ss[k]? = some s) (h : s.free = false) : accsOf (ss.take (k + 1)) = accsOf (ss.take k) ++ [acOf s] := by
  have e : ss.take (k + 1) = ss.take k ++ [s] := by rw [List.take_add_one, hs]; rfl
  unfold accsOf
  rw [e, List.filter_append, List.map_append]
  simp [h]
theorem accsOf_skip {ss : List St} {k : Nat} {s : St} (hs : ss[k]? = some s) (h : s.free = true) : accsOf (ss.take (k + 1)) = accsOf (ss.take k) := by
  have e : ss.take (k + 1) = ss.take k ++ [s] := by rw [List.take_add_one, hs]; rfl
  unfold accsOf
  rw [e, List.filter_append, List.map_append]
  simp [h]
theorem accsOf_len (ss : List St) : (accsOf ss).length = takesN ss := by unfold accsOf takesN; rw [List.length_map]
theorem accsOf_len_le (ss : List St) (k : Nat) : (accsOf (ss.take k)).length ≤ k := by
  rw [accsOf_len]
  unfold takesN
  exact Nat.le_trans (List.length_filter_le _ _) (by rw [List.length_take]; exact Nat.min_le_left _ _)
theorem frees_le {ss : List St} (h : validS ss = true) : 2 * frees ss ≤ ss.length := by
  unfold validS at h
  obtain ⟨m, hm⟩ := Option.isSome_iff_exists.1 h
  have h1 := tableAfter_length hm
  have h2 := frees_takes ss
  omega
/-- A step that a valid schedule ends with. -/
theorem tableAfter_last {ss : List St} {m : List Lk} {s : St} (h : tableAfter (ss ++ [s]) = some m) : ∃ q, tableAfter ss = some q ∧ doSt q s = some m := by
  obtain ⟨h1, h2⟩ := tableAfter_some.1 h
  rw [runS_snoc] at h2
  rw [List.length_append] at h1
  cases hq : runS [] ss with
  | none => rw [hq] at h2; cases h2
  | some q =>
    rw [hq] at h2
    exact ⟨q, tableAfter_some.2 ⟨by simp at h1; omega, hq⟩, h2⟩
theorem doSt_free {l m : List Lk} {s : St} (hv : validT l = true) (hf : s.free = true) (h : doSt l s = some m) : held l s.who s.node ≠ 0 ∧ held m s.who s.node = 0 ∧ m.length + 1 = l.length := by
  unfold doSt at h
  rw [hf, if_pos rfl] at h
  split at h
  · rename_i hc
    simp only [Bool.and_eq_true] at hc
    have e := Option.some.inj h
    subst e
    have h1 := hc.2
    refine ⟨?_, ?_, dropL_length (validT_iff.1 hv).2.2 h1⟩
    · intro h0
      rw [(held_hasL hv _ _).1 h0] at h1
      cases h1
    · rw [held_hasL (dropL_valid hv _ _)]
      rw [Bool.eq_false_iff]
      intro hh
      obtain ⟨x, hx, h2, h3⟩ := hasL_iff.1 hh
      unfold dropL at hx
      rw [List.mem_filter] at hx
      have := at_iff.2 ⟨h2, h3⟩
      rw [this] at hx
      simp at hx
  · cases h
/-- The first step in which a transaction frees. -/
def freeBy (who : Int) (s : St) : Bool := decide (s.who = who) && s.free
theorem freeBy_iff {who : Int} {s : St} : freeBy who s = true ↔ s.who = who ∧ s.free = true := by simp [freeBy]
theorem phases_first {ss : List St} {who : Int} (hv : validS ss = true) : twoPhase ss who = decide (lockPoint ss who < ((ss.findIdx (freeBy who) : Nat) : Int)) := by
  unfold twoPhase
  rw [hv, Bool.true_and]
  rw [Bool.eq_iff_iff, decide_eq_true_eq]
  unfold phases
  rw [phasesGo_iff]
  rcases lockPoint_cases ss who hv with ⟨h1, h2⟩ | ⟨k, s, h1, hs, hw, hf, hlast⟩
  · rw [h1]
    constructor
    · intro _; omega
    · intro _
      refine ⟨fun h => Bool.noConfusion h, ?_⟩
      intro i j p q _ _ hq _ _ hqw
      cases hqf : q.free with
      | true => rfl
      | false => exact absurd ⟨hqw, hqf⟩ (h2 j q hq)
  · rw [h1]
    have hk := (List.getElem?_eq_some_iff.1 hs).1
    constructor
    · rintro ⟨_, h⟩
      rcases Nat.lt_or_ge k (ss.findIdx (freeBy who)) with hl | hg
      · omega
      · exfalso
        have hfl : ss.findIdx (freeBy who) < ss.length := by omega
        obtain ⟨q, hq, hp⟩ : ∃ q, ss[ss.findIdx (freeBy who)]? = some q ∧ freeBy who q = true := ⟨_, List.getElem?_eq_getElem hfl, List.findIdx_getElem (w := hfl)⟩
        have hpi := freeBy_iff.1 hp
        rcases Nat.lt_or_ge (ss.findIdx (freeBy who)) k with hlt | hge
        · have := h _ k _ s hlt hq hs hpi.1 hpi.2 hw
          rw [hf] at this
          cases this
        · have he : ss.findIdx (freeBy who) = k := by omega
          rw [he, hs] at hq
          have h4 := Option.some.inj hq
          have h5 := hpi.2
          rw [← h4, hf] at h5
          cases h5
    · intro hlt
      refine ⟨fun h => Bool.noConfusion h, ?_⟩
      intro i j p q hij hp hq hpw hpf hqw
      cases hqf : q.free with
      | true => rfl
      | false =>
        exfalso
        have hjk : ¬ k < j := fun hkj => hlast j q hkj hq ⟨hqw, hqf⟩
        have hif : ss.findIdx (freeBy who) ≤ i := by
          rcases Nat.lt_or_ge i (ss.findIdx (freeBy who)) with hl | hg
          · have h3 := List.not_of_lt_findIdx hl
            obtain ⟨hi, rfl⟩ := List.getElem?_eq_some_iff.1 hp
            have h4 := freeBy_iff.2 ⟨hpw, hpf⟩
            exact absurd h4 (by simpa using h3)
          · exact hg
        omega
theorem twoPhase_nofree {ss : List St} {who : Int} (hv : validS ss = true) (h : ∀ s ∈ ss, ¬ (s.who = who ∧ s.free = true)) : twoPhase ss who = true := by
  unfold twoPhase phases
  rw [hv, phasesGo_nofree who ss h]
  rfl
theorem twoPhase_init {ss : List St} {s : St} {who : Int} (h : twoPhase (ss ++ [s]) who = true) : twoPhase ss who = true := by
  unfold twoPhase phases at *
  rw [Bool.and_eq_true] at *
  have h1 := validS_take h.1 ss.length
  have h2 := phasesGo_take who _ _ ss.length h.2
  rw [List.take_left] at h1 h2
  exact ⟨h1, h2⟩
theorem twoPhase_nil (who : Int) : twoPhase [] who = true := by
  unfold twoPhase
  rw [validS_nil, phases_nil]
  rfl
end Tl
