import Derived.Test.YthkkbcbbinojlaaDoorPTable
/- Plain facts on tables of locks, the laws. No program here. -/
namespace Tl

theorem take_drop_sublist (l : List Lk) (k : Nat) : List.Sublist (l.take k ++ l.drop (k + 1)) l := by
  rw [← List.eraseIdx_eq_take_drop_succ]
  exact List.eraseIdx_sublist l k

def weak (l : List Lk) : List Lk := l.map fun x => ⟨x.who, x.node, 1⟩
theorem weak_valid {l : List Lk} (h : validT l = true) : validT (weak l) = true := by
  rw [validT_iff] at *
  refine ⟨by simpa [weak] using h.1, ?_, ?_⟩
  · intro x hx
    obtain ⟨y, hy, rfl⟩ := List.mem_map.1 hx
    have := h.2.1 y hy
    unfold okL at *
    simp only
    omega
  · unfold weak fitAll
    rw [List.pairwise_map]
    refine List.Pairwise.imp ?_ h.2.2
    intro x y hf e
    exact ⟨(hf e).1, (by decide : tog 1 1 = true)⟩

theorem grant_grant {who node mode : Int} (hm : okM mode) : ∀ l : List Lk, (∀ x ∈ l, okL x) → grant (grant l who node mode) who node mode = grant l who node mode
  | [], _ => by simp [grant, at_, join_self hm]
  | x :: r, h => by
    by_cases hx : at_ who node x = true
    · have h2 : at_ who node ⟨x.who, x.node, join x.mode mode⟩ = true := hx
      have e1 : grant (x :: r) who node mode = ⟨x.who, x.node, join x.mode mode⟩ :: r := by simp [grant, hx]
      have e2 : grant (⟨x.who, x.node, join x.mode mode⟩ :: r) who node mode = ⟨x.who, x.node, join (join x.mode mode) mode⟩ :: r := by simp [grant, h2]
      rw [e1, e2, join_join (h x (by simp)).mode hm]
    · have e1 : ∀ q : List Lk, grant (x :: q) who node mode = x :: grant q who node mode := fun q => by simp [grant, hx]
      rw [e1, e1, grant_grant hm r (fun y hy => h y (by simp [hy]))]

theorem blockers_grant_same {l : List Lk} {who node mode : Int} (hm : okM mode) (hh : okM (held l who node)) : blockers (grant l who node mode) who node mode = blockers l who node mode := by
  unfold blockers blockersOf
  rw [grant_held who node mode who node hm, if_pos ⟨rfl, rfl⟩, join_join hh hm]
  congr 1
  funext t
  by_cases ht : t = who
  · simp [ht]
  · rw [grant_held who node mode t node hm, if_neg (fun e => ht e.1)]

theorem blockers_grant_other {l : List Lk} {who node mode n m : Int} (hm : okM mode) (hne : n ≠ node) : blockers (grant l who node mode) who n m = blockers l who n m := by
  unfold blockers blockersOf
  rw [grant_held who node mode who n hm, if_neg (fun e => hne e.2)]
  congr 1
  funext t
  rw [grant_held who node mode t n hm, if_neg (fun e => hne e.2)]

theorem takeLock_twice {l m : List Lk} {who node mode : Int} (h : takeLock l who node mode = some m) : takeLock m who node mode = some m := by
  obtain ⟨⟨h1, h2, h3⟩, rfl⟩ := takeLock_some.1 h
  have ha := askOk_iff.1 h2
  have hv := validT_iff.1 h1
  rw [takeLock_some]
  refine ⟨⟨grant_valid h1 h2 h3, h2, ?_⟩, (grant_grant ha.mode l hv.2.1).symm⟩
  rw [blockers_grant_same ha.mode (held_ok hv.2.1 _ _)]
  exact h3

theorem takeLock_valid {l m : List Lk} {who node mode : Int} (h : takeLock l who node mode = some m) : validT m = true := by
  obtain ⟨⟨h1, h2, h3⟩, rfl⟩ := takeLock_some.1 h
  exact grant_valid h1 h2 h3

theorem takeLock_held {l m : List Lk} {who node mode : Int} (h : takeLock l who node mode = some m) (a n : Int) : held m a n = if a = who ∧ n = node then join (held l a n) mode else held l a n := by
  obtain ⟨⟨h1, h2, h3⟩, rfl⟩ := takeLock_some.1 h
  rw [grant_held who node mode a n (askOk_iff.1 h2).mode]
  by_cases hc : a = who ∧ n = node
  · rw [if_pos hc, if_pos hc, hc.1, hc.2]
  · rw [if_neg hc, if_neg hc]

/-- Weaker locks have fewer blockers. -/
theorem blockers_weaker {l : List Lk} (hl : ∀ x ∈ l, okL x) {who node mode : Int} (hm : okM mode) (h1 : 1 ≤ mode) {t : Int} (ht : t ∈ blockers l who node 1) : t ∈ blockers l who node mode := by
  rw [mem_blockers] at *
  refine ⟨ht.1, ht.2.1, ?_⟩
  cases hc : tog (held l t node) (join (held l who node) mode) with
  | false => rfl
  | true =>
    have := tog_join_one (held_ok hl t node) (held_ok hl who node) hm h1 hc
    rw [ht.2.2] at this
    cases this

theorem filter_length_mono' {p q : Int → Bool} (hpq : ∀ t, p t = true → q t = true) : ∀ l : List Int, (l.filter p).length ≤ (l.filter q).length
  | [] => by simp
  | a :: l => by
    have := filter_length_mono' hpq l
    by_cases hp : p a = true
    · have hq := hpq a hp
      simp [hp, hq]; omega
    · by_cases hq : q a = true
      · simp [hp, hq]; omega
      · simp [hp, hq]; omega

theorem blockers_nodup (l : List Lk) (who node mode : Int) : (blockers l who node mode).Nodup := by
  unfold blockers blockersOf
  exact List.Pairwise.filter _ (by decide)

theorem blockers_weaker_length {l : List Lk} (hl : ∀ x ∈ l, okL x) {who node mode : Int} (hm : okM mode) (h1 : 1 ≤ mode) : (blockers l who node 1).length ≤ (blockers l who node mode).length :=
  length_le_of_sub _ _ (blockers_nodup _ _ _ _) (fun _ ht => blockers_weaker hl hm h1 ht)

/-- All of a list are freed. -/
def freeAll (l : List Lk) (ts : List Int) : List Lk := ts.foldl freeT l
theorem freeAll_valid {l : List Lk} (h : validT l = true) : ∀ ts, validT (freeAll l ts) = true := by
  intro ts
  unfold freeAll
  induction ts generalizing l with
  | nil => exact h
  | cons t ts ih => exact ih (freeT_valid h t)
theorem held_freeAll {l : List Lk} (ts : List Int) (t n : Int) : held (freeAll l ts) t n = if t ∈ ts then 0 else held l t n := by
  unfold freeAll
  induction ts generalizing l with
  | nil => simp
  | cons u ts ih =>
    rw [List.foldl_cons, ih, held_freeT]
    by_cases h1 : t ∈ ts
    · simp [h1]
    · by_cases h2 : t = u
      · simp [h2]
      · simp [h1, h2]

theorem blockers_freeAll {l : List Lk} (hl : ∀ x ∈ l, okL x) {who node mode : Int} (hm : okM mode) : blockers (freeAll l (blockers l who node mode)) who node mode = [] := by
  rw [blockers_nil_iff]
  intro t h0 h3 hne
  have hw : who ∉ blockers l who node mode := fun h => (mem_blockers.1 h).2.1 rfl
  rw [held_freeAll, held_freeAll, if_neg hw]
  have hj := join_ok (held_ok hl who node) hm
  by_cases ht : t ∈ blockers l who node mode
  · rw [if_pos ht]; exact tog_zero_left hj
  · rw [if_neg ht]
    cases hc : tog (held l t node) (join (held l who node) mode) with
    | true => rfl
    | false => exact absurd (mem_blockers.2 ⟨⟨h0, h3⟩, hne, hc⟩) ht

theorem takeLock_freeAll {l : List Lk} {who node mode : Int} (h : validT l = true) (ha : askOk who node mode = true) : (takeLock (freeAll l (blockers l who node mode)) who node mode).isSome = true := by
  have hb := blockers_freeAll (validT_iff.1 h).2.1 (who := who) (node := node) (askOk_iff.1 ha).mode
  have := (takeLock_some (l := freeAll l (blockers l who node mode)) (who := who) (node := node) (mode := mode)).2 ⟨⟨freeAll_valid h _, ha, hb⟩, rfl⟩
  rw [this]; rfl

end Tl
