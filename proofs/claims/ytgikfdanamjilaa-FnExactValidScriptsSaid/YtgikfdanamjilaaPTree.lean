import Derived.Test.YtgikfdanamjilaaPTable
/- Plain facts on trees: paths, depth, names. No program here. -/
namespace Tl

structure Nd where
  parent : Int
  name : List UInt8
  value : Int

/-- The parent of a node, -1 if there is no such node. -/
def par (t : List Nd) (i : Int) : Int := if 0 ≤ i then (match t[i.toNat]? with | some n => n.parent | none => -1) else -1

/-- The way from node 0 down to a node, with fuel. -/
def pathF (t : List Nd) : Nat → Int → List Int
  | 0, _ => []
  | f + 1, i => if i < 0 then [] else pathF t f (par t i) ++ [i]
def path (t : List Nd) (i : Int) : List Int := pathF t (i.toNat + 1) i

/-- Parents come first. -/
def Grows (t : List Nd) : Prop := ∀ (i : Nat) (n : Nd), t[i]? = some n → (i = 0 ∧ n.parent = -1) ∨ (0 ≤ n.parent ∧ n.parent < i)

theorem par_of {t : List Nd} {i : Nat} {n : Nd} (h : t[i]? = some n) : par t (i : Int) = n.parent := by simp [par, h]
theorem par_lt {t : List Nd} (hg : Grows t) {i : Int} (hi : 0 ≤ i) : par t i < i ∧ -1 ≤ par t i := by
  obtain ⟨k, rfl⟩ := Int.eq_ofNat_of_zero_le hi
  cases h : t[k]? with
  | none => simp [par, h]; omega
  | some n =>
    rw [par_of h]
    rcases hg k n h with ⟨rfl, h1⟩ | h1 <;> omega

theorem pathF_fuel {t : List Nd} (hg : Grows t) : ∀ (f : Nat) (i : Int), i.toNat + 1 ≤ f → -1 ≤ i → pathF t f i = path t i := by
  intro f
  induction f with
  | zero => intro i h; omega
  | succ f ih =>
    intro i hf hi
    by_cases h0 : i < 0
    · have : i = -1 := by omega
      subst this
      simp [path, pathF]
    · have hp := par_lt hg (i := i) (by omega)
      unfold path
      unfold pathF
      rw [if_neg h0, if_neg h0]
      congr 1
      by_cases h1 : par t i < 0
      · have e : par t i = -1 := by omega
        rw [e]
        have z : ∀ g, pathF t g (-1) = [] := by intro g; cases g <;> simp [pathF]
        rw [z, z]
      · rw [ih (par t i) (by omega) hp.2]
        -- the fuel of 'path i' below i is i.toNat
        have : ∀ g : Nat, g ≤ f → (par t i).toNat + 1 ≤ g → pathF t g (par t i) = path t (par t i) := by
          intro g hgf hgl
          -- by the same induction, on smaller fuel: all fuels that are enough agree
          have agree : ∀ (g h : Nat) (j : Int), -1 ≤ j → j.toNat + 1 ≤ g → j.toNat + 1 ≤ h → pathF t g j = pathF t h j := by
            intro g
            induction g with
            | zero => intro h j _ hh; omega
            | succ g ihg =>
              intro h j hj1 hh hh2
              obtain ⟨h', rfl⟩ : ∃ h', h = h' + 1 := ⟨h - 1, by omega⟩
              unfold pathF
              by_cases hj : j < 0
              · rw [if_pos hj, if_pos hj]
              · rw [if_neg hj, if_neg hj]
                have hpj := par_lt hg (i := j) (by omega)
                by_cases hpn : par t j < 0
                · have e : par t j = -1 := by omega
                  rw [e]
                  have z : ∀ g, pathF t g (-1) = [] := by intro g; cases g <;> simp [pathF]
                  rw [z, z]
                · rw [ihg h' (par t j) hpj.2 (by omega) (by omega)]
          exact agree g _ (par t i) hp.2 hgl (Nat.le_refl _)
        exact (this _ (by omega) (by omega)).symm

theorem path_neg {t : List Nd} : path t (-1) = [] := by simp [path, pathF]
theorem path_step {t : List Nd} (hg : Grows t) {i : Int} (hi : 0 ≤ i) : path t i = path t (par t i) ++ [i] := by
  have hp := par_lt hg hi
  conv => lhs; unfold path
  unfold pathF
  rw [if_neg (by omega)]
  by_cases h1 : par t i < 0
  · have e : par t i = -1 := by omega
    rw [e, path_neg]
    have z : ∀ g, pathF t g (-1) = [] := by intro g; cases g <;> simp [pathF]
    rw [z]
  · rw [pathF_fuel hg _ _ (by omega) hp.2]

theorem path_induct {t : List Nd} (hg : Grows t) (P : Int → Prop) (h0 : ∀ i, 0 ≤ i → (0 ≤ par t i → P (par t i)) → P i) : ∀ i, 0 ≤ i → P i := by
  have : ∀ (n : Nat) (i : Int), i.toNat ≤ n → 0 ≤ i → P i := by
    intro n
    induction n with
    | zero =>
      intro i hn hi
      refine h0 i hi fun hp => ?_
      have := par_lt hg hi
      omega
    | succ n ih =>
      intro i hn hi
      refine h0 i hi fun hp => ?_
      have := par_lt hg hi
      exact ih _ (by omega) hp
  intro i hi
  exact this i.toNat i (Nat.le_refl _) hi

/-- All on the way are between 0 and the node. -/
theorem mem_path_le {t : List Nd} (hg : Grows t) : ∀ i, 0 ≤ i → ∀ a ∈ path t i, 0 ≤ a ∧ a ≤ i := by
  refine path_induct hg _ ?_
  intro i hi ih a ha
  rw [path_step hg hi] at ha
  rcases List.mem_append.1 ha with ha | ha
  · have hp := par_lt hg hi
    by_cases h : 0 ≤ par t i
    · have := ih h a ha; omega
    · have e : par t i = -1 := by omega
      rw [e, path_neg] at ha
      cases ha
  · simp at ha; omega

theorem self_mem_path {t : List Nd} (hg : Grows t) {i : Int} (hi : 0 ≤ i) : i ∈ path t i := by
  rw [path_step hg hi]; simp

theorem path_sorted {t : List Nd} (hg : Grows t) : ∀ i, 0 ≤ i → (path t i).Pairwise (· < ·) := by
  refine path_induct hg _ ?_
  intro i hi ih
  rw [path_step hg hi, List.pairwise_append]
  have hp := par_lt hg hi
  by_cases h : 0 ≤ par t i
  · refine ⟨ih h, by simp, ?_⟩
    intro a ha b hb
    have := mem_path_le hg _ h a ha
    simp at hb
    omega
  · have e : par t i = -1 := by omega
    rw [e, path_neg]
    simp

/-- Is a node above another one, or it? -/
def above (t : List Nd) (a i : Int) : Bool := (path t i).contains a
theorem above_iff {t : List Nd} {a i : Int} : above t a i = true ↔ a ∈ path t i := by simp [above]

/-- One who is above is reached by going up, and the way up goes on. -/
theorem mem_path_step {t : List Nd} (hg : Grows t) {a i : Int} (hi : 0 ≤ i) : a ∈ path t i ↔ a = i ∨ (0 ≤ par t i ∧ a ∈ path t (par t i)) := by
  rw [path_step hg hi, List.mem_append]
  have hp := par_lt hg hi
  simp only [List.mem_singleton]
  constructor
  · rintro (h | h)
    · by_cases hn : 0 ≤ par t i
      · exact .inr ⟨hn, h⟩
      · have e : par t i = -1 := by omega
        rw [e, path_neg] at h
        cases h
    · exact .inl h
  · rintro (h | h)
    · exact .inr h
    · exact .inl h.2

theorem mem_path_up {t : List Nd} (hg : Grows t) {a i : Int} (hi : 0 ≤ i) (hlt : a < i) : a ∈ path t i ↔ 0 ≤ par t i ∧ a ∈ path t (par t i) := by
  rw [mem_path_step hg hi]
  constructor
  · rintro (h | h)
    · omega
    · exact h
  · exact .inr

/-- The way to one who is above is the beginning of the way. -/
theorem path_prefix {t : List Nd} (hg : Grows t) {a : Int} : ∀ i, 0 ≤ i → a ∈ path t i → ∃ r, path t i = path t a ++ r := by
  refine path_induct hg _ ?_
  intro i hi ih ha
  rcases (mem_path_step hg hi).1 ha with rfl | ⟨hn, hm⟩
  · exact ⟨[], by simp⟩
  · obtain ⟨r, hr⟩ := ih hn hm
    exact ⟨r ++ [i], by rw [path_step hg hi, hr, List.append_assoc]⟩

theorem above_trans {t : List Nd} (hg : Grows t) {a b c : Int} (hc : 0 ≤ c) (h1 : a ∈ path t b) (h2 : b ∈ path t c) : a ∈ path t c := by
  obtain ⟨r, hr⟩ := path_prefix hg c hc h2
  rw [hr]
  exact List.mem_append.2 (.inl h1)

theorem root_mem {t : List Nd} (hg : Grows t) : ∀ i : Int, 0 ≤ i → i < t.length → (0 : Int) ∈ path t i := by
  refine path_induct hg _ ?_
  intro i hi ih hl
  rw [mem_path_step hg hi]
  obtain ⟨k, rfl⟩ := Int.eq_ofNat_of_zero_le hi
  have hk : k < t.length := by omega
  have hk2 := List.getElem?_eq_getElem hk
  rcases hg k _ hk2 with ⟨h0, _⟩ | h0
  · left; omega
  · right
    rw [par_of hk2] at *
    exact ⟨h0.1, ih h0.1 (by omega)⟩

theorem par_take {t : List Nd} {k : Nat} {j : Int} (hj : j < k) : par (t.take k) j = par t j := by
  unfold par
  by_cases h0 : 0 ≤ j
  · rw [if_pos h0, if_pos h0, List.getElem?_take, if_pos (by omega)]
  · rw [if_neg h0, if_neg h0]

theorem pathF_take {t : List Nd} {k : Nat} (hg : Grows (t.take k)) : ∀ (f : Nat) (j : Int), j < k → pathF (t.take k) f j = pathF t f j
  | 0, _, _ => rfl
  | f + 1, j, hj => by
    unfold pathF
    by_cases h0 : j < 0
    · rw [if_pos h0, if_pos h0]
    · rw [if_neg h0, if_neg h0]
      have := par_lt hg (i := j) (by omega)
      rw [par_take hj] at this
      rw [par_take hj, pathF_take hg f (par t j) (by omega)]

theorem path_take {t : List Nd} {k : Nat} (hg : Grows (t.take k)) {j : Int} (hj : j < k) : path (t.take k) j = path t j := pathF_take hg _ _ hj

/-- A name of a node other than the first one. -/
def nameOk (s : List UInt8) : Bool := decide (1 ≤ s.length ∧ s.length ≤ 4) && s.all fun c => decide (97 ≤ c.toNat ∧ c.toNat ≤ 122)

/-- Where the first node with a parent and a name is, -1 for none. -/
def kidFrom : List Nd → Int → List UInt8 → Int → Int
  | [], _, _, _ => -1
  | n :: r, p, s, k => if n.parent = p ∧ n.name = s then k else kidFrom r p s (k + 1)
def kid (t : List Nd) (p : Int) (s : List UInt8) : Int := kidFrom t p s 0

theorem kidFrom_cases (t : List Nd) (p : Int) (s : List UInt8) : ∀ b : Int, (kidFrom t p s b = -1 ∧ ∀ n ∈ t, ¬ (n.parent = p ∧ n.name = s)) ∨
    ∃ (k : Nat) (n : Nd), kidFrom t p s b = b + k ∧ t[k]? = some n ∧ n.parent = p ∧ n.name = s ∧ ∀ (j : Nat) (m : Nd), j < k → t[j]? = some m → ¬ (m.parent = p ∧ m.name = s) := by
  induction t with
  | nil => intro b; left; simp [kidFrom]
  | cons n r ih =>
    intro b
    by_cases h : n.parent = p ∧ n.name = s
    · right
      exact ⟨0, n, by simp [kidFrom, h], rfl, h.1, h.2, fun j m hj => by omega⟩
    · have e : kidFrom (n :: r) p s b = kidFrom r p s (b + 1) := by simp [kidFrom, h]
      rw [e]
      rcases ih (b + 1) with ⟨h1, h2⟩ | ⟨k, m, h1, h2, h3, h4, h5⟩
      · left
        refine ⟨h1, ?_⟩
        intro m hm
        rcases List.mem_cons.1 hm with rfl | hm
        · exact h
        · exact h2 m hm
      · right
        refine ⟨k + 1, m, by rw [h1]; omega, by simpa using h2, h3, h4, ?_⟩
        intro j q hj hq
        cases j with
        | zero => simp at hq; subst hq; exact h
        | succ j => exact h5 j q (by omega) (by simpa using hq)

theorem kid_cases (t : List Nd) (p : Int) (s : List UInt8) : (kid t p s = -1 ∧ ∀ n ∈ t, ¬ (n.parent = p ∧ n.name = s)) ∨
    ∃ (k : Nat) (n : Nd), kid t p s = k ∧ t[k]? = some n ∧ n.parent = p ∧ n.name = s ∧ ∀ (j : Nat) (m : Nd), j < k → t[j]? = some m → ¬ (m.parent = p ∧ m.name = s) := by
  rcases kidFrom_cases t p s 0 with h | ⟨k, n, h⟩
  · exact .inl h
  · exact .inr ⟨k, n, by unfold kid; rw [h.1]; omega, h.2⟩

theorem kid_none_iff {t : List Nd} {p : Int} {s : List UInt8} : kid t p s = -1 ↔ ∀ n ∈ t, ¬ (n.parent = p ∧ n.name = s) := by
  rcases kid_cases t p s with h | ⟨k, n, h1, h2, h3, h4, _⟩
  · exact ⟨fun _ => h.2, fun _ => h.1⟩
  · constructor
    · intro e; omega
    · intro hh; exact absurd ⟨h3, h4⟩ (hh n (List.mem_of_getElem? h2))

/-- What a valid node is. -/
def nodeOk (t : List Nd) (i : Nat) (n : Nd) : Prop :=
  (-1000 ≤ n.value ∧ n.value ≤ 1000) ∧
  ((i = 0 ∧ n.parent = -1 ∧ n.name = []) ∨ (i ≠ 0 ∧ 0 ≤ n.parent ∧ n.parent < i ∧ nameOk n.name = true ∧ kid (t.take i) n.parent n.name = -1 ∧ (path t i).length ≤ 5))
instance (t : List Nd) (i : Nat) (n : Nd) : Decidable (nodeOk t i n) := by unfold nodeOk; infer_instance
def nodesOk (t : List Nd) (k : Nat) : Prop := ∀ (i : Nat) (n : Nd), i < k → t[i]? = some n → nodeOk t i n
/-- Is a tree valid? -/
def ValidN (t : List Nd) : Prop := (1 ≤ t.length ∧ t.length ≤ 12) ∧ nodesOk t t.length
open Classical in
noncomputable def validN (t : List Nd) : Bool := decide (ValidN t)
theorem validN_iff {t : List Nd} : validN t = true ↔ ValidN t := by simp [validN]

theorem nodesOk_grows {t : List Nd} {k : Nat} (h : nodesOk t k) : Grows (t.take k) := by
  intro i n hi
  rw [List.getElem?_take] at hi
  split at hi
  · rename_i hk
    rcases (h i n hk hi).2 with h1 | h1
    · exact .inl ⟨h1.1, h1.2.1⟩
    · exact .inr ⟨h1.2.1, h1.2.2.1⟩
  · cases hi

theorem ValidN.grows {t : List Nd} (h : ValidN t) : Grows t := by
  have := nodesOk_grows h.2
  rwa [List.take_length] at this

theorem nodeOk_take {t : List Nd} {k i : Nat} {n : Nd} (hg : Grows (t.take k)) (hi : i < k) : nodeOk (t.take k) i n ↔ nodeOk t i n := by
  unfold nodeOk
  rw [path_take hg (by omega), List.take_take, Nat.min_eq_left (by omega)]

theorem nodesOk_take {t : List Nd} {k : Nat} (h : nodesOk t k) : nodesOk (t.take k) k := by
  intro i n hi hn
  rw [List.getElem?_take, if_pos hi] at hn
  exact (nodeOk_take (nodesOk_grows h) hi).2 (h i n hi hn)

/-- The beginning of a valid tree is valid. -/
theorem ValidN.take {t : List Nd} (h : ValidN t) {k : Nat} (h1 : 1 ≤ k) (hk : k ≤ t.length) : ValidN (t.take k) := by
  have hl : (t.take k).length = k := by rw [List.length_take]; omega
  refine ⟨by have := h.1; omega, ?_⟩
  rw [hl]
  exact nodesOk_take (fun i n hi hn => h.2 i n (by omega) hn)

end Tl
