import Derived.Test.YtgikfdanamjilaaPTree
/- Plain facts on trees: the laws of values, names, meetings, paths. No program here. -/
namespace Tl

/-- One value is set. -/
def setVal (t : List Nd) (at_ : Nat) (v : Int) : List Nd := t.modify at_ fun n => ⟨n.parent, n.name, v⟩

/-- Two trees with the same parents and names. -/
def SameShape (t u : List Nd) : Prop := t.map (fun n => (n.parent, n.name)) = u.map (fun n => (n.parent, n.name))

theorem SameShape.length {t u : List Nd} (h : SameShape t u) : t.length = u.length := by
  have := congrArg List.length h; simpa using this
theorem SameShape.get {t u : List Nd} (h : SameShape t u) (i : Nat) : (t[i]?.map fun n => (n.parent, n.name)) = (u[i]?.map fun n => (n.parent, n.name)) := by
  have := congrArg (fun l => l[i]?) h
  simpa using this
theorem SameShape.symm {t u : List Nd} (h : SameShape t u) : SameShape u t := Eq.symm h
theorem SameShape.take {t u : List Nd} (h : SameShape t u) (k : Nat) : SameShape (t.take k) (u.take k) := by
  unfold SameShape at *
  rw [List.map_take, List.map_take, h]
theorem SameShape.par {t u : List Nd} (h : SameShape t u) (i : Int) : Tl.par t i = Tl.par u i := by
  unfold Tl.par
  by_cases h0 : 0 ≤ i
  · rw [if_pos h0, if_pos h0]
    have := h.get i.toNat
    cases ht : t[i.toNat]? with
    | none => cases hu : u[i.toNat]? with
      | none => rfl
      | some m => rw [ht, hu] at this; simp at this
    | some n => cases hu : u[i.toNat]? with
      | none => rw [ht, hu] at this; simp at this
      | some m => rw [ht, hu] at this; simp at this; exact this.1
  · rw [if_neg h0, if_neg h0]
theorem SameShape.pathF {t u : List Nd} (h : SameShape t u) : ∀ (f : Nat) (i : Int), Tl.pathF t f i = Tl.pathF u f i
  | 0, _ => rfl
  | f + 1, i => by unfold Tl.pathF; rw [h.par i, h.pathF f]
theorem SameShape.path {t u : List Nd} (h : SameShape t u) (i : Int) : Tl.path t i = Tl.path u i := h.pathF _ _
theorem SameShape.kidFrom {p : Int} {s : List UInt8} : ∀ {t u : List Nd} (_ : SameShape t u) (b : Int), Tl.kidFrom t p s b = Tl.kidFrom u p s b
  | [], [], _, _ => rfl
  | [], _ :: _, h, _ => by simp [SameShape] at h
  | _ :: _, [], h, _ => by simp [SameShape] at h
  | n :: r, m :: q, h, b => by
    simp only [SameShape, List.map_cons, List.cons.injEq, Prod.mk.injEq] at h
    unfold Tl.kidFrom
    rw [h.1.1, h.1.2, SameShape.kidFrom (t := r) (u := q) h.2 (b + 1)]
theorem SameShape.kid {t u : List Nd} (h : SameShape t u) (p : Int) (s : List UInt8) : Tl.kid t p s = Tl.kid u p s := SameShape.kidFrom h 0

theorem SameShape.valid {t u : List Nd} (h : SameShape t u) (hv : ∀ n ∈ u, -1000 ≤ n.value ∧ n.value ≤ 1000) (ht : ValidN t) : ValidN u := by
  refine ⟨by rw [← h.length]; exact ht.1, ?_⟩
  intro i n hi hn
  have hg := h.get i
  rw [hn] at hg
  cases hti : t[i]? with
  | none => rw [hti] at hg; simp at hg
  | some m =>
    rw [hti] at hg
    simp at hg
    have hm := ht.2 i m (by rw [h.length]; exact hi) hti
    unfold nodeOk at *
    refine ⟨hv n (List.mem_of_getElem? hn), ?_⟩
    rw [← hg.1, ← hg.2, ← h.path, ← (h.take i).kid]
    exact hm.2

theorem setVal_shape (t : List Nd) (k : Nat) (v : Int) : SameShape t (setVal t k v) := by
  unfold SameShape setVal
  apply List.ext_getElem?
  intro i
  simp only [List.getElem?_map, List.getElem?_modify]
  cases t[i]? with
  | none => rfl
  | some n => by_cases h : k = i <;> simp [h]

theorem ValidN.values {t : List Nd} (h : ValidN t) : ∀ n ∈ t, -1000 ≤ n.value ∧ n.value ≤ 1000 := by
  intro n hn
  obtain ⟨i, hi⟩ := List.mem_iff_getElem?.1 hn
  have hl := (List.getElem?_eq_some_iff.1 hi).1
  exact (h.2 i n hl hi).1

theorem setVal_valid {t : List Nd} (h : ValidN t) (k : Nat) {v : Int} (hv : -1000 ≤ v ∧ v ≤ 1000) : ValidN (setVal t k v) := by
  refine (setVal_shape t k v).valid ?_ h
  intro n hn
  obtain ⟨i, hi⟩ := List.mem_iff_getElem?.1 hn
  unfold setVal at hi
  rw [List.getElem?_modify] at hi
  cases ht : t[i]? with
  | none => rw [ht] at hi; simp at hi
  | some m =>
    rw [ht] at hi
    have hm := h.values m (List.mem_of_getElem? ht)
    by_cases hk : k = i
    · simp [hk] at hi; subst hi; exact hv
    · simp [hk] at hi; subst hi; exact hm

def zeroVals (t : List Nd) : List Nd := t.map fun n => ⟨n.parent, n.name, 0⟩
theorem zeroVals_valid {t : List Nd} (h : ValidN t) : ValidN (zeroVals t) := by
  refine SameShape.valid (t := t) (by simp [SameShape, zeroVals]) ?_ h
  intro n hn
  obtain ⟨m, _, rfl⟩ := List.mem_map.1 hn
  simp

theorem bad_root {t : List Nd} {n : Nd} (h0 : t[0]? = some n) (hn : n.name ≠ []) : ¬ ValidN t := by
  intro h
  have := (h.2 0 n (by have := h.1; omega) h0).2
  rcases this with h1 | h1
  · exact hn h1.2.2
  · exact h1.1 rfl

/-- Setting back and setting twice. -/
theorem setVal_back {t : List Nd} {k : Nat} {n : Nd} (h : t[k]? = some n) (v : Int) : setVal (setVal t k v) k n.value = t := by
  unfold setVal
  apply List.ext_getElem?
  intro i
  simp only [List.getElem?_modify]
  by_cases hk : k = i
  · subst hk; simp [h]
  · simp only [hk, if_false]
    cases t[i]? <;> rfl
theorem setVal_comm {t : List Nd} {k j : Nat} (h : k ≠ j) (v u : Int) : setVal (setVal t k v) j u = setVal (setVal t j u) k v := by
  unfold setVal
  apply List.ext_getElem?
  intro i
  simp only [List.getElem?_modify]
  cases t[i]? with
  | none => rfl
  | some n =>
    by_cases h1 : k = i
    · have h2 : j ≠ i := fun e => h (h1.trans e.symm)
      simp [h1, h2]
    · by_cases h2 : j = i <;> simp [h1, h2]

/-- Each node of a valid tree is found by its parent and name. -/
theorem kid_self {t : List Nd} (h : ValidN t) {i : Nat} {n : Nd} (hi : 1 ≤ i) (hn : t[i]? = some n) : kid t n.parent n.name = i := by
  have hl := (List.getElem?_eq_some_iff.1 hn).1
  rcases (h.2 i n hl hn).2 with h1 | ⟨_, _, _, _, hk, _⟩
  · omega
  · rcases kid_cases t n.parent n.name with ⟨_, h2⟩ | ⟨k, m, h1, h2, h3, h4, h5⟩
    · exact absurd ⟨rfl, rfl⟩ (h2 n (List.mem_of_getElem? hn))
    · rw [h1]
      rcases Nat.lt_trichotomy k i with hlt | he | hgt
      · exfalso
        have := kid_none_iff.1 hk m (by
          refine List.mem_of_getElem? (i := k) ?_
          rw [List.getElem?_take, if_pos hlt]; exact h2)
        exact this ⟨h3, h4⟩
      · omega
      · exact absurd ⟨rfl, rfl⟩ (h5 i n hgt hn)

/-- What Meeting answers: the greatest node that is on both ways. -/
def meet (t : List Nd) (a b : Int) : Int := (((path t a).filter fun n => (path t b).contains n).getLast?).getD 0

theorem meet_mem {t : List Nd} (hg : Grows t) {a b : Int} (ha : 0 ≤ a) (hal : a < t.length) (hb : 0 ≤ b) (hbl : b < t.length) : meet t a b ∈ path t a ∧ meet t a b ∈ path t b := by
  have h0 : (0 : Int) ∈ (path t a).filter fun n => (path t b).contains n := by
    simp [root_mem hg a ha hal, root_mem hg b hb hbl]
  unfold meet
  cases hl : ((path t a).filter fun n => (path t b).contains n).getLast? with
  | none => rw [List.getLast?_eq_none_iff] at hl; rw [hl] at h0; cases h0
  | some m =>
    have := List.mem_of_getLast? hl
    simp at this
    simpa using this

theorem le_getLast {l : List Int} (hs : l.Pairwise (· < ·)) {m : Int} (hm : l.getLast? = some m) : ∀ x ∈ l, x ≤ m := by
  obtain ⟨ys, rfl⟩ := List.getLast?_eq_some_iff.1 hm
  intro x hx
  rw [List.pairwise_append] at hs
  rcases List.mem_append.1 hx with hx | hx
  · exact Int.le_of_lt (hs.2.2 x hx m (by simp))
  · simp at hx; omega

theorem meet_max {t : List Nd} (hg : Grows t) {a b : Int} (ha : 0 ≤ a) {n : Int} (h1 : n ∈ path t a) (h2 : n ∈ path t b) : n ≤ meet t a b := by
  have hn : n ∈ (path t a).filter fun n => (path t b).contains n := by simp [h1, h2]
  have hs : ((path t a).filter fun n => (path t b).contains n).Pairwise (· < ·) := List.Pairwise.filter _ (path_sorted hg a ha)
  unfold meet
  cases hl : ((path t a).filter fun n => (path t b).contains n).getLast? with
  | none => rw [List.getLast?_eq_none_iff] at hl; rw [hl] at hn; cases hn
  | some m => exact le_getLast hs hl n hn

/-- The meeting is known by two facts. -/
theorem meet_eq {t : List Nd} (hg : Grows t) {a b m : Int} (ha : 0 ≤ a) (hal : a < t.length) (hb : 0 ≤ b) (hbl : b < t.length) (h1 : m ∈ path t a) (h2 : m ∈ path t b)
    (hmax : ∀ n, n ∈ path t a → n ∈ path t b → n ≤ m) : meet t a b = m := by
  have h3 := meet_mem hg ha hal hb hbl
  have h4 := meet_max hg ha h1 h2
  have h5 := hmax _ h3.1 h3.2
  omega

theorem meet_comm {t : List Nd} (hg : Grows t) {a b : Int} (ha : 0 ≤ a) (hal : a < t.length) (hb : 0 ≤ b) (hbl : b < t.length) : meet t a b = meet t b a := by
  have h3 := meet_mem hg hb hbl ha hal
  exact meet_eq hg ha hal hb hbl h3.2 h3.1 (fun n h1 h2 => meet_max hg hb h2 h1)
theorem meet_self {t : List Nd} (hg : Grows t) {a : Int} (ha : 0 ≤ a) (hal : a < t.length) : meet t a a = a :=
  meet_eq hg ha hal ha hal (self_mem_path hg ha) (self_mem_path hg ha) (fun n h1 _ => (mem_path_le hg a ha n h1).2)
theorem meet_zero {t : List Nd} (hg : Grows t) {b : Int} (hl : 0 < t.length) (hb : 0 ≤ b) (hbl : b < t.length) : meet t 0 b = 0 :=
  meet_eq hg (by omega) (by omega) hb hbl (self_mem_path hg (by omega)) (root_mem hg b hb hbl) (fun n h1 _ => (mem_path_le hg 0 (by omega) n h1).2)
theorem meet_above {t : List Nd} (hg : Grows t) {a b : Int} (ha : 0 ≤ a) (hal : a < t.length) (hb : 0 ≤ b) (hbl : b < t.length) : meet t a b = a ↔ a ∈ path t b := by
  constructor
  · intro e; have := (meet_mem hg ha hal hb hbl).2; rwa [e] at this
  · intro h
    exact meet_eq hg ha hal hb hbl (self_mem_path hg ha) h (fun n h1 _ => (mem_path_le hg a ha n h1).2)

/-- Two who are both above a third one: the lesser is above the greater. -/
theorem above_both {t : List Nd} (hg : Grows t) {a b c : Int} (h0 : 0 ≤ c) (h1 : a ∈ path t c) (h2 : b ∈ path t c) (hab : a ≤ b) : a ∈ path t b := by
  obtain ⟨r, hr⟩ := path_prefix hg c h0 h2
  have hs := path_sorted hg c h0
  have hb0 := (mem_path_le hg c h0 b h2).1
  rw [hr] at h1 hs
  rcases List.mem_append.1 h1 with h | h
  · exact h
  · rw [List.pairwise_append] at hs
    have := hs.2.2 b (self_mem_path hg hb0) a h
    omega

/-- The text of a path. -/
def nameOf (t : List Nd) (i : Int) : List UInt8 := match t[i.toNat]? with | some n => n.name | none => []
def pathText (t : List Nd) (i : Int) : List UInt8 := if i = 0 then [47] else (path t i).tail.flatMap fun n => 47 :: nameOf t n

theorem path_zero {t : List Nd} (hg : Grows t) : path t 0 = [0] := by
  rw [path_step hg (by omega)]
  have := par_lt hg (i := 0) (by omega)
  have e : par t 0 = -1 := by omega
  rw [e, path_neg]; rfl

theorem path_ne_nil {t : List Nd} (hg : Grows t) {i : Int} (hi : 0 ≤ i) : path t i ≠ [] := by
  rw [path_step hg hi]; simp

theorem pathText_kid {t : List Nd} (hg : Grows t) {i : Int} (hi : 1 ≤ i) (hp : 0 ≤ par t i) : pathText t i = (if par t i = 0 then [] else pathText t (par t i)) ++ 47 :: nameOf t i := by
  unfold pathText
  rw [if_neg (by omega), path_step hg (by omega), List.tail_append_of_ne_nil (path_ne_nil hg hp), List.flatMap_append]
  by_cases h0 : par t i = 0
  · rw [h0, path_zero hg]; simp
  · simp [h0]

end Tl
