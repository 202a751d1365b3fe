import Derived.Test.YtpbhphpmegcenaaDoorPWaits
/- Plain facts on accesses: conflicts, serial orders. No program here. -/
namespace Tl

structure Ac where
  who : Int
  node : Int
  write : Bool

def okA (x : Ac) : Prop := 0 ≤ x.who ∧ x.who ≤ 3 ∧ 0 ≤ x.node ∧ x.node ≤ 11
instance (x : Ac) : Decidable (okA x) := by unfold okA; infer_instance
def validA (h : List Ac) : Bool := decide (h.length ≤ 16) && h.all fun x => decide (okA x)
theorem validA_iff {h : List Ac} : validA h = true ↔ h.length ≤ 16 ∧ ∀ x ∈ h, okA x := by simp [validA]

/-- Two accesses, the first one before the second one, that are in conflict. -/
def clash (x y : Ac) (a b : Int) : Prop := x.who = a ∧ y.who = b ∧ x.node = y.node ∧ (x.write = true ∨ y.write = true)
instance (x y : Ac) (a b : Int) : Decidable (clash x y a b) := by unfold clash; infer_instance
def clashes : List Ac → Int → Int → Bool
  | [], _, _ => false
  | x :: r, a, b => (r.any fun y => decide (clash x y a b)) || clashes r a b
def must (h : List Ac) (a b : Int) : Bool := decide (a ≠ b) && clashes h a b

theorem clashes_iff {h : List Ac} {a b : Int} : clashes h a b = true ↔ ∃ (i k : Nat) (x y : Ac), i < k ∧ h[i]? = some x ∧ h[k]? = some y ∧ clash x y a b := by
  induction h with
  | nil => simp [clashes]
  | cons z r ih =>
    simp only [clashes, Bool.or_eq_true, List.any_eq_true, decide_eq_true_eq, ih]
    constructor
    · rintro (⟨y, hy, hc⟩ | ⟨i, k, x, y, hlt, hx, hy, hc⟩)
      · obtain ⟨k, hk⟩ := List.mem_iff_getElem?.1 hy
        exact ⟨0, k + 1, z, y, by omega, by simp, by simpa using hk, hc⟩
      · exact ⟨i + 1, k + 1, x, y, by omega, by simpa using hx, by simpa using hy, hc⟩
    · rintro ⟨i, k, x, y, hlt, hx, hy, hc⟩
      obtain ⟨k, rfl⟩ : ∃ k', k = k' + 1 := ⟨k - 1, by omega⟩
      simp only [List.getElem?_cons_succ] at hy
      cases i with
      | zero =>
        simp at hx
        subst hx
        exact .inl ⟨y, List.mem_of_getElem? hy, hc⟩
      | succ i => exact .inr ⟨i, k, x, y, by omega, by simpa using hx, hy, hc⟩

theorem must_iff {h : List Ac} {a b : Int} : must h a b = true ↔ a ≠ b ∧ ∃ (i k : Nat) (x y : Ac), i < k ∧ h[i]? = some x ∧ h[k]? = some y ∧ clash x y a b := by
  simp [must, clashes_iff]

def takes (h : List Ac) (t : Int) : Bool := h.any fun x => decide (x.who = t)
theorem takes_iff {h : List Ac} {t : Int} : takes h t = true ↔ ∃ x ∈ h, x.who = t := by simp [takes]

theorem must_takes {h : List Ac} {a b : Int} (hm : must h a b = true) : takes h a = true ∧ takes h b = true := by
  obtain ⟨_, i, k, x, y, _, hx, hy, hc⟩ := must_iff.1 hm
  exact ⟨takes_iff.2 ⟨x, List.mem_of_getElem? hx, hc.1⟩, takes_iff.2 ⟨y, List.mem_of_getElem? hy, hc.2.1⟩⟩

theorem takes_T4 {h : List Ac} (hok : ∀ x ∈ h, okA x) {t : Int} (ht : takes h t = true) : t ∈ T4 := by
  obtain ⟨x, hx, rfl⟩ := takes_iff.1 ht
  have := hok x hx
  rw [mem_T4]; unfold okA at this; omega

/-- The pairs in conflict. -/
def conflicts (h : List Ac) : List (Int × Int) := T4.flatMap fun a => (T4.filter fun b => must h a b).map fun b => (a, b)
theorem mem_conflicts {h : List Ac} (hok : ∀ x ∈ h, okA x) {a b : Int} : (a, b) ∈ conflicts h ↔ must h a b = true := by
  simp only [conflicts, List.mem_flatMap, List.mem_map, List.mem_filter, Prod.mk.injEq]
  constructor
  · rintro ⟨a', _, b', ⟨_, hm⟩, rfl, rfl⟩; exact hm
  · intro hm
    have := must_takes hm
    exact ⟨a, takes_T4 hok this.1, b, ⟨takes_T4 hok this.2, hm⟩, rfl, rfl⟩

theorem must_mono {h g : List Ac} (hl : h.length = g.length) (hs : ∀ (i : Nat) (x y : Ac), h[i]? = some x → g[i]? = some y → y.who = x.who ∧ y.node = x.node ∧ (x.write = true → y.write = true)) {a b : Int} (hm : must h a b = true) : must g a b = true := by
  obtain ⟨hne, i, k, x, y, hlt, hx, hy, hc⟩ := must_iff.1 hm
  have hi := (List.getElem?_eq_some_iff.1 hx).1
  have hk := (List.getElem?_eq_some_iff.1 hy).1
  have hx' := List.getElem?_eq_getElem (l := g) (i := i) (by omega)
  have hy' := List.getElem?_eq_getElem (l := g) (i := k) (by omega)
  obtain ⟨p1, p2, p3⟩ := hs i _ _ hx hx'
  obtain ⟨q1, q2, q3⟩ := hs k _ _ hy hy'
  refine must_iff.2 ⟨hne, i, k, _, _, hlt, hx', hy', ?_⟩
  unfold clash at *
  exact ⟨by rw [p1]; exact hc.1, by rw [q1]; exact hc.2.1, by rw [p2, q2]; exact hc.2.2.1, hc.2.2.2.imp p3 q3⟩

theorem filter_length_mono {p q : Int → Bool} (hpq : ∀ t, p t = true → q t = true) : ∀ l : List Int, (l.filter p).length ≤ (l.filter q).length
  | [] => by simp
  | a :: l => by
    have := filter_length_mono hpq l
    by_cases hp : p a = true
    · have hq := hpq a hp
      simp [hp, hq]; omega
    · by_cases hq : q a = true
      · simp [hp, hq]; omega
      · simp [hp, hq]; omega

theorem conflicts_length_mono {h g : List Ac} (hm : ∀ a b, must h a b = true → must g a b = true) : (conflicts h).length ≤ (conflicts g).length := by
  have h0 : (T4.filter fun b => must h 0 b).length ≤ (T4.filter fun b => must g 0 b).length := filter_length_mono (hm 0) T4
  have h1 : (T4.filter fun b => must h 1 b).length ≤ (T4.filter fun b => must g 1 b).length := filter_length_mono (hm 1) T4
  have h2 : (T4.filter fun b => must h 2 b).length ≤ (T4.filter fun b => must g 2 b).length := filter_length_mono (hm 2) T4
  have h3 : (T4.filter fun b => must h 3 b).length ≤ (T4.filter fun b => must g 3 b).length := filter_length_mono (hm 3) T4
  simp only [conflicts, List.length_flatMap, List.length_map]
  show ([_, _, _, _] : List Nat).sum ≤ ([_, _, _, _] : List Nat).sum
  simp only [List.sum_cons, List.sum_nil]
  omega

/-- May one come next behind those that are done? -/
def free (h : List Ac) (done : List Int) (t : Int) : Bool := takes h t && !done.contains t && T4.all fun a => done.contains a || !must h a t
def serialGo (h : List Ac) : Nat → List Int → List Int
  | 0, done => done
  | n + 1, done => match T4.find? (free h done) with
    | none => done
    | some t => serialGo h n (done ++ [t])
def serial (h : List Ac) : List Int := serialGo h 4 []
def allDone (h : List Ac) (done : List Int) : Bool := T4.all fun t => !takes h t || done.contains t
def serialOk (h : List Ac) : Bool := allDone h (serial h)

theorem free_iff {h : List Ac} {done : List Int} {t : Int} : free h done t = true ↔ takes h t = true ∧ t ∉ done ∧ ∀ a ∈ T4, a ∈ done ∨ must h a t = false := by
  simp [free, and_assoc]

/-- What holds of those that are done: each once, all take part, each pair in order. -/
structure Good (h : List Ac) (done : List Int) : Prop where
  nodup : done.Nodup
  takes : ∀ t ∈ done, takes h t = true
  order : ∀ (k : Nat) (a b : Int), done[k]? = some b → must h a b = true → ∃ j, j < k ∧ done[j]? = some a

theorem good_nil (h : List Ac) : Good h [] := ⟨by simp, by simp, by simp⟩

theorem good_step {h : List Ac} (hok : ∀ x ∈ h, okA x) {done : List Int} (hg : Good h done) {t : Int} (hf : free h done t = true) : Good h (done ++ [t]) := by
  obtain ⟨ht, hn, ha⟩ := free_iff.1 hf
  refine ⟨?_, ?_, ?_⟩
  · rw [List.nodup_append]
    refine ⟨hg.nodup, by simp, ?_⟩
    intro a had b hb e
    simp at hb
    subst hb
    exact hn (e ▸ had)
  · intro u hu
    rcases List.mem_append.1 hu with hu | hu
    · exact hg.takes u hu
    · simp at hu; subst hu; exact ht
  · intro k a b hk hm
    rcases Nat.lt_or_ge k done.length with hlt | hge
    · rw [List.getElem?_append_left hlt] at hk
      obtain ⟨j, hj, hja⟩ := hg.order k a b hk hm
      exact ⟨j, hj, by rw [List.getElem?_append_left (by omega)]; exact hja⟩
    · rw [List.getElem?_append_right hge] at hk
      have hk0 : k - done.length = 0 := by
        rcases Nat.eq_zero_or_pos (k - done.length) with h0 | h0
        · exact h0
        · rw [List.getElem?_eq_none (by simp only [List.length_singleton]; omega)] at hk; cases hk
      rw [hk0] at hk
      simp at hk
      subst hk
      have had := ha a (takes_T4 hok (must_takes hm).1)
      rw [hm] at had
      simp only [Bool.true_eq_false, or_false] at had
      obtain ⟨j, hj⟩ := List.mem_iff_getElem?.1 had
      have hjl := (List.getElem?_eq_some_iff.1 hj).1
      exact ⟨j, by omega, by rw [List.getElem?_append_left hjl]; exact hj⟩

theorem good_length {h : List Ac} (hok : ∀ x ∈ h, okA x) {done : List Int} (hg : Good h done) : done.length ≤ 4 :=
  length_le_of_sub done T4 hg.nodup (fun t ht => takes_T4 hok (hg.takes t ht))

theorem serialGo_good {h : List Ac} (hok : ∀ x ∈ h, okA x) : ∀ n done, Good h done → Good h (serialGo h n done)
  | 0, done, hg => hg
  | n + 1, done, hg => by
    unfold serialGo
    split
    · exact hg
    · rename_i t ht
      exact serialGo_good hok n _ (good_step hok hg (List.find?_some ht))

/-- With fuel enough there is none that may come next. -/
theorem serialGo_stuck {h : List Ac} (hok : ∀ x ∈ h, okA x) : ∀ n done, Good h done → 4 ≤ n + done.length → T4.find? (free h (serialGo h n done)) = none
  | 0, done, hg, hl => by
    unfold serialGo
    cases hf : T4.find? (free h done) with
    | none => rfl
    | some t =>
      have := good_length hok (good_step hok hg (List.find?_some hf))
      simp at this
      omega
  | n + 1, done, hg, hl => by
    unfold serialGo
    split
    · assumption
    · rename_i t ht
      exact serialGo_stuck hok n _ (good_step hok hg (List.find?_some ht)) (by simp; omega)

theorem serial_good {h : List Ac} (hok : ∀ x ∈ h, okA x) : Good h (serial h) := serialGo_good hok _ _ (good_nil h)
theorem serial_stuck {h : List Ac} (hok : ∀ x ∈ h, okA x) : T4.find? (free h (serial h)) = none := serialGo_stuck hok _ _ (good_nil h) (by simp)

theorem allDone_iff {h : List Ac} {done : List Int} (hok : ∀ x ∈ h, okA x) : allDone h done = true ↔ ∀ t, takes h t = true → t ∈ done := by
  simp only [allDone, List.all_eq_true, Bool.or_eq_true, Bool.not_eq_true', List.contains_iff_mem]
  constructor
  · intro h0 t ht
    rcases h0 t (takes_T4 hok ht) with h1 | h1
    · rw [ht] at h1; cases h1
    · exact h1
  · intro h0 t _
    cases ht : takes h t with
    | false => exact .inl rfl
    | true => exact .inr (h0 t ht)

/-- The pairs as waits. -/
def pairWaits (h : List Ac) : List Wt := (conflicts h).map fun p => ⟨p.1, p.2⟩

theorem mem_pairWaits {h : List Ac} (hok : ∀ x ∈ h, okA x) {x : Wt} : x ∈ pairWaits h ↔ must h x.who x.to = true := by
  simp only [pairWaits, List.mem_map, Prod.exists]
  constructor
  · rintro ⟨a, b, hm, rfl⟩; exact (mem_conflicts hok).1 hm
  · intro hm; exact ⟨_, _, (mem_conflicts hok).2 hm, rfl⟩

theorem conflicts_length (h : List Ac) : (conflicts h).length ≤ 12 := by
  have hr : ∀ a : Int, a ∈ T4 → (T4.filter fun b => must h a b).length ≤ 3 := by
    intro a ha
    have hlt := List.length_filter_lt_length_iff_exists (l := T4) (p := fun b => must h a b) |>.2 ⟨a, ha, by simp [must]⟩
    have : T4.length = 4 := rfl
    omega
  have h0 := hr 0 (by decide)
  have h1 := hr 1 (by decide)
  have h2 := hr 2 (by decide)
  have h3 := hr 3 (by decide)
  simp only [conflicts, List.length_flatMap, List.length_map]
  show ([_, _, _, _] : List Nat).sum ≤ 12
  simp only [List.sum_cons, List.sum_nil]
  omega

theorem pairWaits_valid {h : List Ac} (hok : ∀ x ∈ h, okA x) : validW (pairWaits h) = true := by
  rw [validW_iff]
  refine ⟨by have := conflicts_length h; simpa [pairWaits] using this, ?_⟩
  intro x hx
  have hm := (mem_pairWaits hok).1 hx
  have ht := must_takes hm
  have h1 := mem_T4.1 (takes_T4 hok ht.1)
  have h2 := mem_T4.1 (takes_T4 hok ht.2)
  have h3 := (must_iff.1 hm).1
  unfold okW
  exact ⟨h1.1, h1.2, h2.1, h2.2, h3⟩

theorem nodup_inj {l : List Int} (hn : l.Nodup) {i j : Nat} {a : Int} (hi : l[i]? = some a) (hj : l[j]? = some a) : i = j := by
  obtain ⟨h1, e1⟩ := List.getElem?_eq_some_iff.1 hi
  obtain ⟨h2, e2⟩ := List.getElem?_eq_some_iff.1 hj
  rcases Nat.lt_trichotomy i j with h | h | h
  · exact absurd (e1.trans e2.symm) (List.pairwise_iff_getElem.1 hn i j h1 h2 h)
  · exact h
  · exact absurd (e2.trans e1.symm) (List.pairwise_iff_getElem.1 hn j i h2 h1 h)

/-- In a good order ways lead up. -/
theorem good_reach {h : List Ac} (hok : ∀ x ∈ h, okA x) {done : List Int} (hg : Good h done) (hall : ∀ t, takes h t = true → t ∈ done) {a b : Int} (hr : Reach (pairWaits h) a b) :
    ∃ j k : Nat, j < k ∧ done[j]? = some a ∧ done[k]? = some b := by
  induction hr with
  | @edge x hx =>
    have hm := (mem_pairWaits hok).1 hx
    obtain ⟨k, hk⟩ := List.mem_iff_getElem?.1 (hall _ (must_takes hm).2)
    obtain ⟨j, hj, hja⟩ := hg.order k _ _ hk hm
    exact ⟨j, k, hj, hja, hk⟩
  | @step a x _ hx ih =>
    have hm := (mem_pairWaits hok).1 hx
    obtain ⟨j, k, hjk, hj, hk⟩ := ih
    obtain ⟨l, hl⟩ := List.mem_iff_getElem?.1 (hall _ (must_takes hm).2)
    obtain ⟨m, hm1, hm2⟩ := hg.order l _ _ hl hm
    have hkm : m = k := nodup_inj hg.nodup hm2 hk
    exact ⟨j, l, by omega, hj, hl⟩

theorem good_no_dead {h : List Ac} (hok : ∀ x ∈ h, okA x) {done : List Int} (hg : Good h done) (hall : ∀ t, takes h t = true → t ∈ done) : deadOf (pairWaits h) = [] := by
  rw [List.eq_nil_iff_forall_not_mem]
  intro t ht
  obtain ⟨j, k, hjk, hj, hk⟩ := good_reach hok hg hall (mem_deadOf.1 ht).2
  have := nodup_inj hg.nodup hj hk
  omega

/-- A set of numbers each of which has one of the set before it has a circle. -/
theorem circle {ws : List Wt} (S : Int → Prop) (hS : ∀ t, S t → t ∈ T4) (hp : ∀ t, S t → ∃ x ∈ ws, x.to = t ∧ S x.who) {t : Int} (ht : S t) : ∃ u, u ∈ T4 ∧ Reach ws u u := by
  -- a way of n waits back from t, all in S
  have way : ∀ n : Nat, ∃ l : List Int, l.length = n + 1 ∧ (∀ u ∈ l, S u) ∧ ∀ i j : Nat, i < j → ∀ a b, l[i]? = some a → l[j]? = some b → Reach ws a b := by
    intro n
    induction n with
    | zero =>
      refine ⟨[t], rfl, by simpa using ht, ?_⟩
      intro i j hij a b _ hb
      obtain ⟨h1, _⟩ := List.getElem?_eq_some_iff.1 hb
      simp at h1
      omega
    | succ n ih =>
      obtain ⟨l, hl, hs, hr⟩ := ih
      cases l with
      | nil => simp at hl
      | cons u l =>
        obtain ⟨x, hx, hto, hsx⟩ := hp u (hs u (by simp))
        refine ⟨x.who :: u :: l, by simpa using hl, ?_, ?_⟩
        · intro v hv
          rcases List.mem_cons.1 hv with rfl | hv
          · exact hsx
          · exact hs v hv
        · intro i j hij a b ha hb
          obtain ⟨j, rfl⟩ : ∃ j', j = j' + 1 := ⟨j - 1, by omega⟩
          rw [List.getElem?_cons_succ] at hb
          cases i with
          | succ i =>
            rw [List.getElem?_cons_succ] at ha
            exact hr i j (by omega) a b ha hb
          | zero =>
            simp at ha
            subst ha
            cases j with
            | zero =>
              simp at hb
              subst hb
              rw [← hto]
              exact .edge hx
            | succ j =>
              have h0 := hr 0 (j + 1) (by omega) u b (by simp) hb
              exact (Reach.edge hx).trans (by rw [hto]; exact h0)
  obtain ⟨l, hl, hs, hr⟩ := way 4
  by_cases hn : l.Nodup
  · have := length_le_of_sub l T4 hn (fun u hu => hS u (hs u hu))
    have h4 : T4.length = 4 := rfl
    omega
  · -- two places hold one number
    have : ∃ (i j : Nat) (a : Int), i < j ∧ l[i]? = some a ∧ l[j]? = some a := by
      apply Classical.byContradiction
      intro hno
      apply hn
      rw [List.Nodup, List.pairwise_iff_getElem]
      intro i j hi hj hij e
      exact hno ⟨i, j, l[i], hij, List.getElem?_eq_getElem hi, by rw [e]; exact List.getElem?_eq_getElem hj⟩
    obtain ⟨i, j, a, hij, ha, hb⟩ := this
    exact ⟨a, hS a (hs a (List.mem_of_getElem? ha)), hr i j hij a a ha hb⟩

theorem serialOk_iff {h : List Ac} (hok : ∀ x ∈ h, okA x) : serialOk h = true ↔ deadOf (pairWaits h) = [] := by
  constructor
  · intro h0
    exact good_no_dead hok (serial_good hok) ((allDone_iff hok).1 h0)
  · intro h0
    apply Classical.byContradiction
    intro hno
    have hno' : ∃ t, takes h t = true ∧ t ∉ serial h := by
      apply Classical.byContradiction
      intro hc
      apply hno
      refine (allDone_iff hok).2 fun t ht => ?_
      apply Classical.byContradiction
      intro hm
      exact hc ⟨t, ht, hm⟩
    obtain ⟨t, ht, hts⟩ := hno'
    obtain ⟨u, hu, hr⟩ := circle (ws := pairWaits h) (fun t => takes h t = true ∧ t ∉ serial h) (fun t ht => takes_T4 hok ht.1) (fun t ht => by
      have hnf := List.find?_eq_none.1 (serial_stuck hok) t (takes_T4 hok ht.1)
      rw [free_iff] at hnf
      have : ∃ a, a ∉ serial h ∧ must h a t = true := by
        apply Classical.byContradiction
        intro hc
        apply hnf
        refine ⟨ht.1, ht.2, fun a _ => ?_⟩
        by_cases hd : a ∈ serial h
        · exact .inl hd
        · right
          cases hm : must h a t with
          | false => rfl
          | true => exact absurd ⟨a, hd, hm⟩ hc
      obtain ⟨a, ha, hm⟩ := this
      exact ⟨⟨a, t⟩, (mem_pairWaits hok).2 hm, rfl, (must_takes hm).1, ha⟩) ⟨ht, hts⟩
    have : u ∈ deadOf (pairWaits h) := mem_deadOf.2 ⟨mem_T4.1 hu, hr⟩
    rw [h0] at this
    cases this

end Tl
