import Derived.Test.YtpbhphpmegcenaaDoorPTable2
/- Plain facts on schedules: steps that take and free locks, phases, lock points. No program here. -/
namespace Tl

structure St where
  who : Int
  free : Bool
  node : Int
  mode : Int

/-- The table without the lock of a transaction on a node. -/
def dropL (l : List Lk) (who node : Int) : List Lk := l.filter fun x => !at_ who node x
def hasL (l : List Lk) (who node : Int) : Bool := l.any (at_ who node)
/-- One step. -/
def doSt (l : List Lk) (s : St) : Option (List Lk) :=
  if s.free then (if decide (s.mode = 0) && hasL l s.who s.node then some (dropL l s.who s.node) else none)
  else takeLock l s.who s.node s.mode
def runS : List Lk → List St → Option (List Lk)
  | l, [] => some l
  | l, s :: r => match doSt l s with
    | some m => runS m r
    | none => none
/-- What TableAfter answers. -/
def tableAfter (ss : List St) : Option (List Lk) := if ss.length ≤ 16 then runS [] ss else none
def validS (ss : List St) : Bool := (tableAfter ss).isSome

theorem dropL_valid {l : List Lk} (h : validT l = true) (who node : Int) : validT (dropL l who node) = true := validT_sub h List.filter_sublist
theorem hasL_iff {l : List Lk} {who node : Int} : hasL l who node = true ↔ ∃ x ∈ l, x.who = who ∧ x.node = node := by
  simp [hasL, at_iff]

theorem doSt_valid {l m : List Lk} {s : St} (h : validT l = true) (hs : doSt l s = some m) : validT m = true := by
  unfold doSt at hs
  split at hs
  · split at hs
    · rw [← Option.some.inj hs]; exact dropL_valid h _ _
    · cases hs
  · exact takeLock_valid hs

theorem runS_valid : ∀ (ss : List St) {l m : List Lk}, validT l = true → runS l ss = some m → validT m = true
  | [], l, m, h, hs => by
    unfold runS at hs; rw [← Option.some.inj hs]; exact h
  | s :: r, l, m, h, hs => by
    unfold runS at hs
    split at hs
    · rename_i k hk
      exact runS_valid r (doSt_valid h hk) hs
    · cases hs

theorem runS_append : ∀ (ss rs : List St) (l : List Lk), runS l (ss ++ rs) = match runS l ss with | some m => runS m rs | none => none
  | [], rs, l => by simp [runS]
  | s :: r, rs, l => by
    rw [List.cons_append]
    have e1 : ∀ q : List St, runS l (s :: q) = match doSt l s with | some m => runS m q | none => none := fun _ => rfl
    rw [e1, e1]
    cases doSt l s with
    | none => rfl
    | some m => exact runS_append r rs m

theorem runS_snoc (ss : List St) (s : St) (l : List Lk) : runS l (ss ++ [s]) = match runS l ss with | some m => doSt m s | none => none := by
  rw [runS_append]
  cases runS l ss with
  | none => rfl
  | some m =>
    show runS m [s] = doSt m s
    unfold runS
    cases doSt m s with
    | none => rfl
    | some k => rfl

theorem runS_take {ss : List St} {l m : List Lk} (h : runS l ss = some m) (k : Nat) : ∃ q, runS l (ss.take k) = some q := by
  rw [← List.take_append_drop k ss, runS_append] at h
  cases hq : runS l (ss.take k) with
  | none => rw [hq] at h; cases h
  | some q => exact ⟨q, rfl⟩

theorem dropL_length {l : List Lk} (h : fitAll l) {who node : Int} (hh : hasL l who node = true) : (dropL l who node).length + 1 = l.length := by
  induction l with
  | nil => simp [hasL] at hh
  | cons x r ih =>
    have hp := List.pairwise_cons.1 h
    by_cases hx : at_ who node x = true
    · have hx' := at_iff.1 hx
      have hr : dropL r who node = r := by
        unfold dropL
        rw [List.filter_eq_self]
        intro y hy
        simp only [Bool.not_eq_true', Bool.eq_false_iff]
        intro hy'
        have hy'' := at_iff.1 hy'
        exact (hp.1 y hy (hy''.2.trans hx'.2.symm)).1 (hy''.1.trans hx'.1.symm)
      have e : dropL (x :: r) who node = dropL r who node := by simp [dropL, hx]
      rw [e, hr]; rfl
    · have e : dropL (x :: r) who node = x :: dropL r who node := by simp [dropL, hx]
      rw [e, List.length_cons, List.length_cons, ih hp.2 (by
        obtain ⟨y, hy, hy2⟩ := hasL_iff.1 hh
        refine hasL_iff.2 ⟨y, ?_, hy2⟩
        rcases List.mem_cons.1 hy with rfl | hy
        · exact absurd (at_iff.2 hy2) hx
        · exact hy)]

/-- Taking out the first one that fits is taking out all that fit. -/
theorem dropL_erase {l : List Lk} (h : fitAll l) {who node : Int} {k : Nat} {x : Lk} (hk : l[k]? = some x) (hx : at_ who node x = true) : l.take k ++ l.drop (k + 1) = dropL l who node := by
  induction l generalizing k with
  | nil => simp at hk
  | cons y r ih =>
    have hp := List.pairwise_cons.1 h
    cases k with
    | zero =>
      simp at hk
      subst hk
      have hx' := at_iff.1 hx
      have hr : dropL r who node = r := by
        unfold dropL
        rw [List.filter_eq_self]
        intro z hz
        simp only [Bool.not_eq_true', Bool.eq_false_iff]
        intro hz'
        have hz'' := at_iff.1 hz'
        exact (hp.1 z hz (hz''.2.trans hx'.2.symm)).1 (hz''.1.trans hx'.1.symm)
      have e : dropL (y :: r) who node = dropL r who node := by simp [dropL, hx]
      rw [e, hr]; simp
    | succ k =>
      rw [List.getElem?_cons_succ] at hk
      have hy : at_ who node y = false := by
        rw [Bool.eq_false_iff]
        intro hy'
        have hy'' := at_iff.1 hy'
        have hx' := at_iff.1 hx
        exact (hp.1 x (List.mem_of_getElem? hk) (hx'.2.trans hy''.2.symm)).1 (hx'.1.trans hy''.1.symm)
      have e : dropL (y :: r) who node = y :: dropL r who node := by simp [dropL, hy]
      rw [e, ← ih hp.2 hk]
      simp

theorem grant_length_le (l : List Lk) (who node mode : Int) : l.length ≤ (grant l who node mode).length ∧ (grant l who node mode).length ≤ l.length + 1 := by
  induction l with
  | nil => simp [grant]
  | cons x r ih =>
    unfold grant
    by_cases h : at_ who node x = true
    · rw [if_pos h]; simp
    · rw [if_neg h]; simp only [List.length_cons]; omega

/-- How many steps free, how many take. -/
def frees (ss : List St) : Nat := (ss.filter fun s => s.free).length
def takesN (ss : List St) : Nat := (ss.filter fun s => !s.free).length
theorem frees_takes (ss : List St) : takesN ss + frees ss = ss.length := by
  induction ss with
  | nil => rfl
  | cons s r ih =>
    unfold takesN frees at *
    cases h : s.free <;> simp [h] <;> omega

theorem doSt_length {l m : List Lk} {s : St} (h : validT l = true) (hs : doSt l s = some m) : m.length + (if s.free then 1 else 0) ≤ l.length + (if s.free then 0 else 1) := by
  unfold doSt at hs
  cases hf : s.free with
  | true =>
    rw [hf] at hs
    simp only [if_true] at hs
    split at hs
    · rename_i hc
      rw [← Option.some.inj hs]
      simp only [Bool.and_eq_true] at hc
      have := dropL_length (validT_iff.1 h).2.2 hc.2
      simp; omega
    · cases hs
  | false =>
    rw [hf] at hs
    simp only [Bool.false_eq_true, if_false] at hs
    obtain ⟨_, rfl⟩ := takeLock_some.1 hs
    have := (grant_length_le l s.who s.node s.mode).2
    simp; omega

theorem runS_length : ∀ (ss : List St) {l m : List Lk}, validT l = true → runS l ss = some m → m.length + frees ss ≤ l.length + takesN ss
  | [], l, m, _, hs => by
    unfold runS at hs; rw [← Option.some.inj hs]; simp [frees, takesN]
  | s :: r, l, m, h, hs => by
    unfold runS at hs
    split at hs
    · rename_i k hk
      have h1 := runS_length r (doSt_valid h hk) hs
      have h2 := doSt_length h hk
      unfold frees takesN at *
      cases hf : s.free <;> simp [hf] at * <;> omega
    · cases hs

/-- Freeing all locks of a table, one after the other, leaves none. -/
theorem runS_free_all : ∀ (l : List Lk), fitAll l → runS l (l.map fun x => ⟨x.who, true, x.node, 0⟩) = some []
  | [], _ => rfl
  | x :: r, h => by
    have hp := List.pairwise_cons.1 h
    have e : doSt (x :: r) ⟨x.who, true, x.node, 0⟩ = some r := by
      have hh : hasL (x :: r) x.who x.node = true := hasL_iff.2 ⟨x, by simp, rfl, rfl⟩
      have hd := dropL_erase h (who := x.who) (node := x.node) (k := 0) (x := x) rfl (at_iff.2 ⟨rfl, rfl⟩)
      simp at hd
      simp [doSt, hh, ← hd]
    rw [List.map_cons]
    unfold runS
    rw [e]
    exact runS_free_all r hp.2

theorem tableAfter_some {ss : List St} {m : List Lk} : tableAfter ss = some m ↔ ss.length ≤ 16 ∧ runS [] ss = some m := by
  unfold tableAfter
  split
  · rename_i h; simp [h]
  · rename_i h; simp [h]
theorem tableAfter_valid {ss : List St} {m : List Lk} (h : tableAfter ss = some m) : validT m = true := runS_valid ss validT_nil (tableAfter_some.1 h).2
theorem tableAfter_length {ss : List St} {m : List Lk} (h : tableAfter ss = some m) : m.length + frees ss ≤ takesN ss := by
  have := runS_length ss validT_nil (tableAfter_some.1 h).2
  simpa using this
theorem validS_take {ss : List St} (h : validS ss = true) (k : Nat) : validS (ss.take k) = true := by
  unfold validS at *
  obtain ⟨m, hm⟩ := Option.isSome_iff_exists.1 h
  obtain ⟨h1, h2⟩ := tableAfter_some.1 hm
  obtain ⟨q, hq⟩ := runS_take h2 k
  have : tableAfter (ss.take k) = some q := tableAfter_some.2 ⟨by rw [List.length_take]; omega, hq⟩
  rw [this]; rfl
theorem validS_nil : validS [] = true := by decide
theorem validS_head {s : St} {r : List St} (h : validS (s :: r) = true) : s.free = false := by
  unfold validS at h
  obtain ⟨m, hm⟩ := Option.isSome_iff_exists.1 h
  have h2 := (tableAfter_some.1 hm).2
  unfold runS at h2
  cases hf : s.free with
  | false => rfl
  | true => simp [doSt, hf, hasL] at h2

/-- The steps that the document calls valid one by one. -/
def stOk (s : St) : Bool := decide (0 ≤ s.who ∧ s.who ≤ 3 ∧ 0 ≤ s.node ∧ s.node ≤ 11) && (if s.free then decide (s.mode = 0) else decide (1 ≤ s.mode ∧ s.mode ≤ 5))
theorem doSt_ok {l m : List Lk} {s : St} (h : validT l = true) (hs : doSt l s = some m) : stOk s = true := by
  unfold doSt at hs
  cases hf : s.free with
  | true =>
    rw [hf] at hs
    simp only [if_true] at hs
    split at hs
    · rename_i hc
      simp only [Bool.and_eq_true, decide_eq_true_eq] at hc
      obtain ⟨x, hx, h1, h2⟩ := hasL_iff.1 hc.2
      have := (validT_iff.1 h).2.1 x hx
      unfold okL at this
      simp [stOk, hf, hc.1]
      omega
    · cases hs
  | false =>
    rw [hf] at hs
    simp only [Bool.false_eq_true, if_false] at hs
    obtain ⟨⟨_, h2, _⟩, _⟩ := takeLock_some.1 hs
    rw [askOk_iff] at h2
    unfold okL at h2
    simp [stOk, hf]
    simp at h2
    omega
theorem runS_ok : ∀ (ss : List St) {l m : List Lk}, validT l = true → runS l ss = some m → ∀ s ∈ ss, stOk s = true
  | [], _, _, _, _ => by simp
  | s :: r, l, m, h, hs => by
    unfold runS at hs
    split at hs
    · rename_i k hk
      intro q hq
      rcases List.mem_cons.1 hq with rfl | hq
      · exact doSt_ok h hk
      · exact runS_ok r (doSt_valid h hk) hs q hq
    · cases hs

/-- Does a transaction take no lock behind its first step that frees? -/
def phasesGo (who : Int) : Bool → List St → Bool
  | _, [] => true
  | fr, s :: r => if s.who = who then (if fr && !s.free then false else phasesGo who (fr || s.free) r) else phasesGo who fr r
def phases (ss : List St) (who : Int) : Bool := phasesGo who false ss
def twoPhase (ss : List St) (who : Int) : Bool := validS ss && phases ss who

/-- The place of the last step in which a transaction takes a lock. -/
def lastTake (who : Int) : List St → Int → Int → Int
  | [], _, at_ => at_
  | s :: r, i, at_ => lastTake who r (i + 1) (if s.who = who ∧ s.free = false then i else at_)
def lockPoint (ss : List St) (who : Int) : Int := if validS ss then lastTake who ss 0 (-1) else -1

theorem phases_nil (who : Int) : phases [] who = true := rfl
theorem phasesGo_take (who : Int) : ∀ (ss : List St) (fr : Bool) (k : Nat), phasesGo who fr ss = true → phasesGo who fr (ss.take k) = true
  | [], fr, k, _ => by simp [phasesGo]
  | s :: r, fr, 0, _ => by simp [phasesGo]
  | s :: r, fr, k + 1, h => by
    rw [List.take_succ_cons]
    unfold phasesGo at *
    by_cases hw : s.who = who
    · rw [if_pos hw] at *
      by_cases hc : (fr && !s.free) = true
      · rw [if_pos hc] at h; cases h
      · rw [if_neg hc] at *
        exact phasesGo_take who r _ k h
    · rw [if_neg hw] at *
      exact phasesGo_take who r _ k h
theorem phasesGo_nofree (who : Int) : ∀ (ss : List St), (∀ s ∈ ss, ¬ (s.who = who ∧ s.free = true)) → phasesGo who false ss = true
  | [], _ => rfl
  | s :: r, h => by
    unfold phasesGo
    have hs := h s (by simp)
    have ih := phasesGo_nofree who r (fun q hq => h q (by simp [hq]))
    by_cases hw : s.who = who
    · have hf : s.free = false := by cases hf : s.free with
        | false => rfl
        | true => exact absurd ⟨hw, hf⟩ hs
      simp [hw, hf, ih]
    · simp [hw, ih]

/-- The place of the last take, by places. -/
theorem lastTake_spec (who : Int) : ∀ (ss : List St) (b a : Int), (∀ (i : Nat) (s : St), ss[i]? = some s → ¬ (s.who = who ∧ s.free = false)) ∧ lastTake who ss b a = a ∨
    ∃ (k : Nat) (s : St), ss[k]? = some s ∧ s.who = who ∧ s.free = false ∧ lastTake who ss b a = b + k ∧ ∀ (j : Nat) (q : St), k < j → ss[j]? = some q → ¬ (q.who = who ∧ q.free = false)
  | [], b, a => by left; simp [lastTake]
  | s :: r, b, a => by
    unfold lastTake
    rcases lastTake_spec who r (b + 1) (if s.who = who ∧ s.free = false then b else a) with ⟨h1, h2⟩ | ⟨k, q, h1, h2, h3, h4, h5⟩
    · by_cases hs : s.who = who ∧ s.free = false
      · right
        refine ⟨0, s, rfl, hs.1, hs.2, by rw [h2, if_pos hs]; simp, ?_⟩
        intro j q hj hq
        obtain ⟨j, rfl⟩ : ∃ j', j = j' + 1 := ⟨j - 1, by omega⟩
        exact h1 j q (by simpa using hq)
      · left
        refine ⟨?_, by rw [h2, if_neg hs]⟩
        intro i q hq
        cases i with
        | zero => simp at hq; subst hq; exact hs
        | succ i => exact h1 i q (by simpa using hq)
    · right
      refine ⟨k + 1, q, by simpa using h1, h2, h3, by rw [h4]; omega, ?_⟩
      intro j p hj hp
      obtain ⟨j, rfl⟩ : ∃ j', j = j' + 1 := ⟨j - 1, by omega⟩
      exact h5 j p (by omega) (by simpa using hp)

/-- Two phases, by places: no free step of the transaction before a take of it. -/
theorem phasesGo_iff (who : Int) : ∀ (ss : List St) (fr : Bool), phasesGo who fr ss = true ↔
    ((fr = true → ∀ s ∈ ss, ¬ (s.who = who ∧ s.free = false)) ∧ ∀ (i j : Nat) (p q : St), i < j → ss[i]? = some p → ss[j]? = some q → p.who = who → p.free = true → q.who = who → q.free = true)
  | [], fr => by simp [phasesGo]
  | s :: r, fr => by
    have ih := phasesGo_iff who r
    unfold phasesGo
    by_cases hw : s.who = who
    · rw [if_pos hw]
      cases hf : s.free with
      | true =>
        simp only [Bool.not_true, Bool.and_false, Bool.false_eq_true, if_false, Bool.or_true]
        rw [ih]
        constructor
        · rintro ⟨h1, h2⟩
          refine ⟨fun _ q hq => ?_, ?_⟩
          · rcases List.mem_cons.1 hq with rfl | hq
            · simp [hf]
            · exact h1 rfl q hq
          · intro i j p q hij hp hq hpw hpf hqw
            obtain ⟨j, rfl⟩ : ∃ j', j = j' + 1 := ⟨j - 1, by omega⟩
            rw [List.getElem?_cons_succ] at hq
            have := h1 rfl q (List.mem_of_getElem? hq)
            cases hqf : q.free with
            | true => rfl
            | false => exact absurd ⟨hqw, hqf⟩ this
        · rintro ⟨_, h2⟩
          refine ⟨fun _ q hq hc => ?_, ?_⟩
          · obtain ⟨j, hj⟩ := List.mem_iff_getElem?.1 hq
            have := h2 0 (j + 1) s q (by omega) rfl (by simpa using hj) hw hf hc.1
            rw [this] at hc
            exact absurd hc.2 (by simp)
          · intro i j p q hij hp hq
            exact h2 (i + 1) (j + 1) p q (by omega) (by simpa using hp) (by simpa using hq)
      | false =>
        cases fr with
        | true =>
          simp only [Bool.not_false, Bool.and_self, if_true, Bool.false_eq_true, false_iff]
          rintro ⟨h1, _⟩
          exact absurd ⟨hw, hf⟩ (h1 (by first | rfl | trivial) s (by simp))
        | false =>
          simp only [Bool.not_false, Bool.and_true, Bool.or_self]
          rw [if_neg (by simp), ih]
          constructor
          · rintro ⟨_, h2⟩
            refine ⟨fun h => absurd h (by simp), ?_⟩
            intro i j p q hij hp hq hpw hpf hqw
            obtain ⟨j, rfl⟩ : ∃ j', j = j' + 1 := ⟨j - 1, by omega⟩
            cases i with
            | zero => simp at hp; subst hp; rw [hf] at hpf; cases hpf
            | succ i => exact h2 i j p q (by omega) (by simpa using hp) (by simpa using hq) hpw hpf hqw
          · rintro ⟨_, h2⟩
            refine ⟨fun h => absurd h (by simp), ?_⟩
            intro i j p q hij hp hq
            exact h2 (i + 1) (j + 1) p q (by omega) (by simpa using hp) (by simpa using hq)
    · rw [if_neg hw, ih]
      constructor
      · rintro ⟨h1, h2⟩
        refine ⟨fun hfr q hq => ?_, ?_⟩
        · rcases List.mem_cons.1 hq with rfl | hq
          · exact fun hc => hw hc.1
          · exact h1 hfr q hq
        · intro i j p q hij hp hq hpw hpf hqw
          obtain ⟨j, rfl⟩ : ∃ j', j = j' + 1 := ⟨j - 1, by omega⟩
          cases i with
          | zero => simp at hp; subst hp; exact absurd hpw hw
          | succ i => exact h2 i j p q (by omega) (by simpa using hp) (by simpa using hq) hpw hpf hqw
      · rintro ⟨h1, h2⟩
        refine ⟨fun hfr q hq => h1 hfr q (by simp [hq]), ?_⟩
        intro i j p q hij hp hq
        exact h2 (i + 1) (j + 1) p q (by omega) (by simpa using hp) (by simpa using hq)

end Tl
