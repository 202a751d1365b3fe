import Derived.Test.YtgikfdanamjilaaPTree2
/- Plain facts on trees: dropping a node and all below; adding a node; texts of paths; locks along a path. No program here. -/
namespace Tl

/-- How many of the nodes before i stay. -/
def rank (t : List Nd) (a : Int) (i : Nat) : Nat := ((List.range i).filter fun (j : Nat) => !above t a (j : Int)).length
/-- A node that stays, renumbered. -/
def moved (t : List Nd) (a : Int) (i : Nat) : List Nd := match t[i]? with
  | some n => if above t a (i : Int) then [] else [⟨if i = 0 then n.parent else (rank t a n.parent.toNat : Int), n.name, n.value⟩]
  | none => []
def dropTo (t : List Nd) (a : Int) : Nat → List Nd
  | 0 => []
  | k + 1 => dropTo t a k ++ moved t a k
/-- The tree without a node and all below it. -/
def dropT (t : List Nd) (a : Int) : List Nd := dropTo t a t.length

theorem rank_succ (t : List Nd) (a : Int) (i : Nat) : rank t a (i + 1) = rank t a i + (if above t a (i : Int) then 0 else 1) := by
  unfold rank
  rw [List.range_succ, List.filter_append, List.length_append]
  by_cases h : above t a (i : Int) = true <;> simp [h]
theorem rank_mono (t : List Nd) (a : Int) {i j : Nat} (h : i ≤ j) : rank t a i ≤ rank t a j := by
  induction j with
  | zero => have : i = 0 := by omega
            subst this; exact Nat.le_refl _
  | succ j ih =>
    by_cases e : i = j + 1
    · subst e; exact Nat.le_refl _
    · have := ih (by omega)
      rw [rank_succ]; omega
theorem rank_lt (t : List Nd) (a : Int) {i j : Nat} (h : i < j) (hk : above t a (i : Int) = false) : rank t a i < rank t a j := by
  have h1 := rank_mono t a (i := i + 1) (j := j) h
  rw [rank_succ, hk] at h1
  simp at h1
  omega
theorem rank_inj (t : List Nd) (a : Int) {i j : Nat} (hi : above t a (i : Int) = false) (hj : above t a (j : Int) = false) (h : rank t a i = rank t a j) : i = j := by
  rcases Nat.lt_trichotomy i j with h1 | h1 | h1
  · have := rank_lt t a h1 hi; omega
  · exact h1
  · have := rank_lt t a h1 hj; omega

theorem dropTo_length (t : List Nd) (a : Int) : ∀ k, k ≤ t.length → (dropTo t a k).length = rank t a k
  | 0, _ => by simp [dropTo, rank]
  | k + 1, h => by
    unfold dropTo
    rw [List.length_append, dropTo_length t a k (by omega), rank_succ]
    have hk := List.getElem?_eq_getElem (l := t) (i := k) (by omega)
    unfold moved
    rw [hk]
    by_cases h : above t a (k : Int) = true <;> simp [h]

theorem dropTo_get (t : List Nd) (a : Int) : ∀ k, k ≤ t.length → ∀ (i : Nat) (n : Nd), i < k → t[i]? = some n → above t a (i : Int) = false →
    (dropTo t a k)[rank t a i]? = some ⟨if i = 0 then n.parent else (rank t a n.parent.toNat : Int), n.name, n.value⟩
  | 0, _, i, n, hi, _, _ => by omega
  | k + 1, h, i, n, hi, hn, ha => by
    unfold dropTo
    have hl := dropTo_length t a k (by omega)
    by_cases e : i = k
    · subst e
      rw [List.getElem?_append_right (by omega), hl]
      simp [moved, hn, ha]
    · rw [List.getElem?_append_left (by rw [hl]; exact rank_lt t a (by omega) ha)]
      exact dropTo_get t a k (by omega) i n (by omega) hn ha

theorem dropTo_of (t : List Nd) (a : Int) : ∀ k, k ≤ t.length → ∀ r, r < rank t a k → ∃ (i : Nat), i < k ∧ above t a (i : Int) = false ∧ rank t a i = r
  | 0, _, r, hr => by simp [rank] at hr
  | k + 1, h, r, hr => by
    rw [rank_succ] at hr
    by_cases hk : above t a (k : Int) = true
    · rw [if_pos hk] at hr
      obtain ⟨i, h1, h2⟩ := dropTo_of t a k (by omega) r (by omega)
      exact ⟨i, by omega, h2⟩
    · rw [if_neg hk] at hr
      by_cases e : r = rank t a k
      · exact ⟨k, by omega, by simpa using hk, e.symm⟩
      · obtain ⟨i, h1, h2⟩ := dropTo_of t a k (by omega) r (by omega)
        exact ⟨i, by omega, h2⟩

theorem above_false {t : List Nd} {a i : Int} : above t a i = false ↔ a ∉ path t i := by
  rw [Bool.eq_false_iff, ne_eq, above_iff]

theorem kept_parent {t : List Nd} (hg : Grows t) {a i : Int} (hi : 0 ≤ i) (hp : 0 ≤ par t i) (h : above t a i = false) : above t a (par t i) = false := by
  rw [above_false] at *
  intro hm
  exact h ((mem_path_step hg hi).2 (.inr ⟨hp, hm⟩))

theorem kept_zero {t : List Nd} (hg : Grows t) {a : Int} (ha : 0 < a) : above t a 0 = false := by
  rw [above_false, path_zero hg]; simp; omega

theorem drop_par {t : List Nd} (hg : Grows t) {a : Int} {i : Nat} (hi : i < t.length) (hk : above t a (i : Int) = false) :
    par (dropT t a) (rank t a i : Int) = if 0 ≤ par t i then (rank t a (par t i).toNat : Int) else -1 := by
  have hn := List.getElem?_eq_getElem hi
  have h1 := dropTo_get t a t.length (Nat.le_refl _) i _ hi hn hk
  have h1' : (dropT t a)[rank t a i]? = _ := h1
  rw [par_of h1', par_of hn]
  rcases hg i _ hn with ⟨h0, h2⟩ | h2
  · subst h0
    simp [h2]
  · have : i ≠ 0 := by omega
    simp [this, h2.1]

theorem drop_grows {t : List Nd} (hg : Grows t) {a : Int} : Grows (dropT t a) := by
  intro r n hr
  have hl := (List.getElem?_eq_some_iff.1 hr).1
  unfold dropT at hl
  rw [dropTo_length t a _ (Nat.le_refl _)] at hl
  obtain ⟨i, h1, h2, h3⟩ := dropTo_of t a t.length (Nat.le_refl _) r hl
  subst h3
  have hn := List.getElem?_eq_getElem h1
  have h4 := dropTo_get t a t.length (Nat.le_refl _) i _ h1 hn h2
  have e := Option.some.inj (hr.symm.trans h4)
  rcases hg i _ hn with ⟨h0, h5⟩ | h5
  · subst h0
    left
    exact ⟨by simp [rank], by rw [e]; simpa using h5⟩
  · right
    have hi0 : i ≠ 0 := by omega
    rw [e]
    simp only [hi0, if_false]
    have hp := kept_parent hg (i := (i : Int)) (by omega) (by rw [par_of hn]; exact h5.1) h2
    rw [par_of hn] at hp
    have := rank_lt t a (i := t[i].parent.toNat) (j := i) (by omega) (by rw [Int.toNat_of_nonneg h5.1]; exact hp)
    omega

theorem drop_path {t : List Nd} (hg : Grows t) {a : Int} : ∀ i : Int, 0 ≤ i → i < t.length → above t a i = false → path (dropT t a) (rank t a i.toNat : Int) = (path t i).map fun j => (rank t a j.toNat : Int) := by
  refine path_induct hg _ ?_
  intro i hi ih hl hk
  have hg2 := drop_grows hg (a := a)
  rw [path_step hg2 (by omega), path_step hg hi, List.map_append]
  have hd := drop_par hg (a := a) (i := i.toNat) (by omega) (by rw [Int.toNat_of_nonneg hi]; exact hk)
  rw [Int.toNat_of_nonneg hi] at hd
  rw [hd]
  by_cases hp : 0 ≤ par t i
  · rw [if_pos hp, ih hp (by have := par_lt hg hi; omega) (kept_parent hg hi hp hk)]
    rfl
  · have e : par t i = -1 := by have := par_lt hg hi; omega
    rw [if_neg hp, path_neg, e, path_neg]
    rfl

theorem drop_valid {t : List Nd} (h : ValidN t) {a : Int} (ha : 0 < a) : ValidN (dropT t a) := by
  have hg := h.grows
  have hL : (dropT t a).length = rank t a t.length := dropTo_length t a _ (Nat.le_refl _)
  have hle : rank t a t.length ≤ t.length := by
    unfold rank
    have := List.length_filter_le (fun (j : Nat) => !above t a (j : Int)) (List.range t.length)
    simpa using this
  have h0 := rank_lt t a (i := 0) (j := t.length) (by have := h.1; omega) (kept_zero hg ha)
  refine ⟨by have := h.1; omega, ?_⟩
  intro r n hr hn
  rw [hL] at hr
  obtain ⟨i, h1, h2, h3⟩ := dropTo_of t a t.length (Nat.le_refl _) r hr
  subst h3
  have hti := List.getElem?_eq_getElem h1
  have h4 := dropTo_get t a t.length (Nat.le_refl _) i _ h1 hti h2
  have e := Option.some.inj (hn.symm.trans h4)
  have ho := h.2 i _ h1 hti
  subst e
  refine ⟨ho.1, ?_⟩
  rcases ho.2 with ⟨h0, h5, h6⟩ | ⟨h0, h5, h6, h7, h8, h9⟩
  · left
    subst h0
    exact ⟨by simp [rank], by simpa using h5, h6⟩
  · right
    simp only [h0, if_false]
    have hp := kept_parent hg (i := (i : Int)) (by omega) (by rw [par_of hti]; exact h5) h2
    rw [par_of hti] at hp
    have hpn : above t a (t[i].parent.toNat : Int) = false := by rw [Int.toNat_of_nonneg h5]; exact hp
    have hlt := rank_lt t a (i := t[i].parent.toNat) (j := i) (by omega) hpn
    refine ⟨by omega, by omega, by omega, h7, ?_, ?_⟩
    · rw [kid_none_iff]
      intro m hm hc
      obtain ⟨q, hq⟩ := List.mem_iff_getElem?.1 hm
      rw [List.getElem?_take] at hq
      split at hq
      · rename_i hqr
        obtain ⟨j, j1, j2, j3⟩ := dropTo_of t a t.length (Nat.le_refl _) q (by omega)
        subst j3
        have htj := List.getElem?_eq_getElem j1
        have j4 := dropTo_get t a t.length (Nat.le_refl _) j _ j1 htj j2
        have e2 := Option.some.inj (hq.symm.trans j4)
        subst e2
        have hji : j < i := by
          apply Classical.byContradiction
          intro hc2
          have := rank_mono t a (i := i) (j := j) (by omega)
          omega
        have oj := h.2 j _ j1 htj
        rcases oj.2 with ⟨k0, k5, _⟩ | ⟨k0, k5, k6, _⟩
        · subst k0
          simp only [if_true] at hc
          rw [k5] at hc
          omega
        · simp only [k0, if_false] at hc
          have hpj := kept_parent hg (i := (j : Int)) (by omega) (by rw [par_of htj]; exact k5) j2
          rw [par_of htj] at hpj
          have hee := rank_inj t a (i := t[j].parent.toNat) (j := t[i].parent.toNat) (by rw [Int.toNat_of_nonneg k5]; exact hpj) hpn (by omega)
          refine kid_none_iff.1 h8 t[j] ?_ ⟨by omega, hc.2⟩
          refine List.mem_of_getElem? (i := j) ?_
          rw [List.getElem?_take, if_pos hji]
          exact htj
      · cases hq
    · have := drop_path hg (a := a) (i : Int) (by omega) (by omega) h2
      rw [Int.toNat_natCast] at this
      rw [this, List.length_map]
      exact h9

theorem drop_text {t : List Nd} (h : ValidN t) {a : Int} (ha : 0 < a) {i : Nat} (hi : i < t.length) (hk : above t a (i : Int) = false) : pathText (dropT t a) (rank t a i : Int) = pathText t i := by
  have hg := h.grows
  have hp := drop_path hg (a := a) (i : Int) (by omega) (by omega) hk
  rw [Int.toNat_natCast] at hp
  unfold pathText
  by_cases h0 : i = 0
  · subst h0; simp [rank]
  · have hr : rank t a i ≠ 0 := by
      have := rank_lt t a (i := 0) (j := i) (by omega) (kept_zero hg ha)
      omega
    rw [if_neg (by omega), if_neg (by omega), hp, ← List.map_tail, List.flatMap_map]
    have hall : ∀ n ∈ (path t i).tail, nameOf (dropT t a) (rank t a n.toNat : Int) = nameOf t n := by
      intro n hn
      have hn' := List.mem_of_mem_tail hn
      have hle := mem_path_le hg (i : Int) (by omega) n hn'
      have hka : above t a (n.toNat : Int) = false := by
        rw [Int.toNat_of_nonneg hle.1, above_false]
        intro hm
        rw [above_false] at hk
        exact hk (above_trans hg (by omega) hm hn')
      have hl : n.toNat < t.length := by omega
      have hti := List.getElem?_eq_getElem hl
      have := dropTo_get t a t.length (Nat.le_refl _) n.toNat _ hl hti hka
      unfold nameOf
      rw [Int.toNat_natCast]
      unfold dropT
      rw [this, hti]
    rw [List.flatMap_def, List.flatMap_def]
    congr 1
    refine List.map_congr_left fun n hn => ?_
    rw [hall n hn]

/-- Adding a node and dropping it. -/
theorem add_drop {t : List Nd} {n : Nd} (h : ValidN (t ++ [n])) (ht : ValidN t) : dropT (t ++ [n]) (t.length : Int) = t := by
  have hg := h.grows
  have hpos : 0 < t.length := ht.1.1
  have hkeep : ∀ j : Nat, j < t.length → above (t ++ [n]) (t.length : Int) (j : Int) = false := by
    intro j hj
    rw [above_false]
    intro hm
    have := mem_path_le hg (j : Int) (by omega) _ hm
    omega
  have hself : above (t ++ [n]) (t.length : Int) (t.length : Int) = true := by
    rw [above_iff]; exact self_mem_path hg (by omega)
  have hrank : ∀ j : Nat, j ≤ t.length → rank (t ++ [n]) (t.length : Int) j = j := by
    intro j
    induction j with
    | zero => intro _; simp [rank]
    | succ j ih => intro hj; rw [rank_succ, ih (by omega), hkeep j (by omega)]; rfl
  have hto : ∀ k : Nat, k ≤ t.length → dropTo (t ++ [n]) (t.length : Int) k = t.take k := by
    intro k
    induction k with
    | zero => intro _; simp [dropTo]
    | succ k ih =>
      intro hk
      unfold dropTo
      rw [ih (by omega), List.take_succ_eq_append_getElem (by omega)]
      congr 1
      have hki : (t ++ [n])[k]? = some t[k] := by rw [List.getElem?_append_left (by omega)]; exact List.getElem?_eq_getElem (by omega)
      unfold moved
      rw [hki]
      simp only [hkeep k (by omega)]
      have hgk := ht.grows k _ (List.getElem?_eq_getElem (by omega))
      rcases hgk with ⟨h0, h1⟩ | h1
      · simp [h0]
      · have : k ≠ 0 := by omega
        simp only [this, if_false]
        rw [hrank _ (by omega), Int.toNat_of_nonneg h1.1]
        simp
  unfold dropT
  rw [List.length_append, List.length_singleton]
  unfold dropTo
  rw [hto _ (Nat.le_refl _), List.take_length]
  have : (t ++ [n])[t.length]? = some n := by simp
  unfold moved
  rw [this, hself]
  simp

/-- The number of slashes of a text. -/
def slashes (s : List UInt8) : Nat := (s.filter fun c => c == 47).length
theorem slashes_append (a b : List UInt8) : slashes (a ++ b) = slashes a + slashes b := by simp [slashes]
theorem slashes_name {s : List UInt8} (h : nameOk s = true) : slashes s = 0 := by
  unfold slashes
  rw [List.length_eq_zero_iff, List.filter_eq_nil_iff]
  intro c hc
  simp only [nameOk, Bool.and_eq_true, List.all_eq_true, decide_eq_true_eq] at h
  have := h.2 c hc
  intro e
  have e' : c = 47 := by simpa using e
  subst e'
  have h97 : (47 : UInt8).toNat = 47 := rfl
  rw [h97] at this
  omega

theorem path_name {t : List Nd} (h : ValidN t) {i : Int} (hi : 0 < i) (hl : i < t.length) : nameOk (nameOf t i) = true := by
  obtain ⟨k, rfl⟩ := Int.eq_ofNat_of_zero_le (Int.le_of_lt hi)
  have hk := List.getElem?_eq_getElem (l := t) (i := k) (by omega)
  have := (h.2 k _ (by omega) hk).2
  unfold nameOf
  rw [Int.toNat_natCast, hk]
  rcases this with h1 | h1
  · omega
  · exact h1.2.2.2.1

theorem path_head {t : List Nd} (hg : Grows t) : ∀ i : Int, 0 ≤ i → i < t.length → ∃ r, path t i = 0 :: r := by
  refine path_induct hg _ ?_
  intro i hi ih hl
  rw [path_step hg hi]
  by_cases hp : 0 ≤ par t i
  · obtain ⟨r, hr⟩ := ih hp (by have := par_lt hg hi; omega)
    exact ⟨r ++ [i], by rw [hr]; rfl⟩
  · have hpl := par_lt hg hi
    have e : par t i = -1 := by omega
    obtain ⟨k, rfl⟩ := Int.eq_ofNat_of_zero_le hi
    have hk := List.getElem?_eq_getElem (l := t) (i := k) (by omega)
    rw [par_of hk] at e
    have : k = 0 := by
      rcases hg k _ hk with h | h
      · exact h.1
      · omega
    subst this
    exact ⟨[], by rw [par_of hk, e, path_neg]; rfl⟩

theorem slashes_path {t : List Nd} (h : ValidN t) {i : Int} (hi : 0 ≤ i) (hl : i < t.length) : slashes (pathText t i) = max 1 ((path t i).length - 1) := by
  have hg := h.grows
  unfold pathText
  by_cases h0 : i = 0
  · subst h0; rw [if_pos rfl, path_zero hg]; rfl
  · rw [if_neg h0]
    obtain ⟨r, hr⟩ := path_head hg i hi hl
    have hs := path_sorted hg i hi
    have hle := mem_path_le hg i hi
    have hself := self_mem_path hg hi
    rw [hr] at hs hle hself ⊢
    have hpos : ∀ n ∈ r, 0 < n := (List.pairwise_cons.1 hs).1
    have hsum : ∀ q : List Int, (∀ n ∈ q, 0 < n ∧ n < t.length) → slashes (q.flatMap fun n => 47 :: nameOf t n) = q.length := by
      intro q
      induction q with
      | nil => intro _; rfl
      | cons n q ih =>
        intro hq
        rw [List.flatMap_cons, slashes_append, ih (fun m hm => hq m (by simp [hm]))]
        have hn := hq n (by simp)
        have e : slashes (47 :: nameOf t n) = 1 := by
          have := slashes_append [47] (nameOf t n)
          rw [slashes_name (path_name h hn.1 hn.2)] at this
          exact this
        rw [e, List.length_cons]
        omega
    simp only [List.tail_cons, List.length_cons]
    rw [hsum r (fun n hn => ⟨hpos n hn, by have := hle n (by simp [hn]); omega⟩)]
    have : 0 < r.length := by
      cases r with
      | nil => simp at hself; exact absurd hself h0
      | cons _ _ => simp
    omega

end Tl
