import Derived.Test.YthkkbcbbinojlaaDoorPTable2
/- Plain facts on asks, their waits, and taking several locks. No program here. -/
namespace Tl

def asksW (l as : List Lk) : List Wt := as.flatMap fun a => (blockers l a.who a.node a.mode).map fun t => ⟨a.who, t⟩
def asksOk (l as : List Lk) : Bool := validT l && (as.all fun a => askOk a.who a.node a.mode) && decide ((as.map Lk.who).Nodup)
def asksOf (l as : List Lk) : Option (List Wt) := if asksOk l as then some (asksW l as) else none
theorem asksOk_iff {l as : List Lk} : asksOk l as = true ↔ validT l = true ∧ (∀ a ∈ as, askOk a.who a.node a.mode = true) ∧ (as.map Lk.who).Nodup := by simp [asksOk, and_assoc]

theorem blockers_length (l : List Lk) {who : Int} (hw : who ∈ T4) (node mode : Int) : (blockers l who node mode).length ≤ 3 := by
  have hlt := List.length_filter_lt_length_iff_exists (l := T4) (p := fun t => decide (t ≠ who) && !tog (held l t node) (join (held l who node) mode)) |>.2 ⟨who, hw, by simp⟩
  have : T4.length = 4 := rfl
  unfold blockers blockersOf
  omega

theorem sum_le_three {α : Type} (f : α → Nat) : ∀ l : List α, (∀ a ∈ l, f a ≤ 3) → (l.map f).sum ≤ 3 * l.length
  | [], _ => by simp
  | a :: r, h => by
    have h1 := h a (by simp)
    have h2 := sum_le_three f r (fun b hb => h b (by simp [hb]))
    simp only [List.map_cons, List.sum_cons, List.length_cons]
    omega
theorem sum_take_le {α : Type} (f : α → Nat) : ∀ (l : List α) (k : Nat), ((l.take k).map f).sum ≤ (l.map f).sum
  | [], k => by simp
  | a :: r, 0 => by simp
  | a :: r, k + 1 => by
    have := sum_take_le f r k
    simp only [List.take_succ_cons, List.map_cons, List.sum_cons]
    omega

theorem asks_who {as : List Lk} (h : ∀ a ∈ as, askOk a.who a.node a.mode = true) (hn : (as.map Lk.who).Nodup) : as.length ≤ 4 := by
  have := length_le_of_sub _ T4 hn (by
    intro t ht
    obtain ⟨a, ha, rfl⟩ := List.mem_map.1 ht
    have := askOk_iff.1 (h a ha)
    unfold okL at this
    exact mem_T4.2 ⟨this.1, this.2.1⟩)
  have h4 : T4.length = 4 := rfl
  simp only [List.length_map] at this
  omega

theorem asksW_length {l as : List Lk} (h : ∀ a ∈ as, askOk a.who a.node a.mode = true) (hn : (as.map Lk.who).Nodup) : (asksW l as).length ≤ 12 := by
  have h4 := asks_who h hn
  have h3 := sum_le_three (fun a : Lk => ((blockers l a.who a.node a.mode).map fun t => (⟨a.who, t⟩ : Wt)).length) as (by
    intro a ha
    have := askOk_iff.1 (h a ha)
    unfold okL at this
    rw [List.length_map]
    exact blockers_length l (mem_T4.2 ⟨this.1, this.2.1⟩) _ _)
  unfold asksW
  rw [List.length_flatMap]
  omega

theorem asksW_valid {l as : List Lk} (h : asksOk l as = true) : validW (asksW l as) = true := by
  obtain ⟨_, h2, h3⟩ := asksOk_iff.1 h
  rw [validW_iff]
  refine ⟨asksW_length h2 h3, ?_⟩
  intro x hx
  obtain ⟨a, ha, hx⟩ := List.mem_flatMap.1 hx
  obtain ⟨t, ht, rfl⟩ := List.mem_map.1 hx
  have h1 := askOk_iff.1 (h2 a ha)
  have hb := mem_blockers.1 ht
  unfold okL at h1
  unfold okW
  exact ⟨h1.1, h1.2.1, hb.1.1, hb.1.2, fun e => hb.2.1 e.symm⟩

theorem asksW_snoc {l as : List Lk} {k : Nat} {a : Lk} (h : as[k]? = some a) : asksW l (as.take (k + 1)) = asksW l (as.take k) ++ (blockers l a.who a.node a.mode).map fun t => ⟨a.who, t⟩ := by
  unfold asksW
  obtain ⟨hk, rfl⟩ := List.getElem?_eq_some_iff.1 h
  rw [List.take_succ_eq_append_getElem hk, List.flatMap_append]
  simp

/-- A mode is as strong as another one. -/
def strong (a b : Int) : Prop := join a b = a
instance (a b : Int) : Decidable (strong a b) := by unfold strong; infer_instance
theorem strong_trans {a b c : Int} (ha : okM a) (hb : okM b) (hc : okM c) (h1 : strong a b) (h2 : strong b c) : strong a c := by
  revert h1 h2
  rcases cases6 ha with rfl | rfl | rfl | rfl | rfl | rfl <;> rcases cases6 hb with rfl | rfl | rfl | rfl | rfl | rfl <;> rcases cases6 hc with rfl | rfl | rfl | rfl | rfl | rfl <;> decide
theorem strong_join {a m : Int} (ha : okM a) (hm : okM m) : strong (join a m) a := by
  rcases cases6 ha with rfl | rfl | rfl | rfl | rfl | rfl <;> rcases cases6 hm with rfl | rfl | rfl | rfl | rfl | rfl <;> decide
theorem join_mono {a b m : Int} (ha : okM a) (hb : okM b) (hm : okM m) (h : strong a b) : strong (join a m) (join b m) := by
  revert h
  rcases cases6 ha with rfl | rfl | rfl | rfl | rfl | rfl <;> rcases cases6 hb with rfl | rfl | rfl | rfl | rfl | rfl <;> rcases cases6 hm with rfl | rfl | rfl | rfl | rfl | rfl <;> decide
theorem tog_weaker {x a b : Int} (hx : okM x) (ha : okM a) (hb : okM b) (h : strong a b) (ht : tog x a = true) : tog x b = true := by
  revert h ht
  rcases cases6 hx with rfl | rfl | rfl | rfl | rfl | rfl <;> rcases cases6 ha with rfl | rfl | rfl | rfl | rfl | rfl <;> rcases cases6 hb with rfl | rfl | rfl | rfl | rfl | rfl <;> decide

/-- All that is held in a table is held in another one. -/
def More (l m : List Lk) : Prop := ∀ t n, strong (held m t n) (held l t n)
theorem More.refl {l : List Lk} (h : ∀ x ∈ l, okL x) : More l l := fun t n => join_self (held_ok h t n)
theorem More.trans {l m k : List Lk} (hl : validT l = true) (hm : validT m = true) (hk : validT k = true) (h1 : More l m) (h2 : More m k) : More l k := fun t n =>
  strong_trans (held_ok (validT_iff.1 hk).2.1 t n) (held_ok (validT_iff.1 hm).2.1 t n) (held_ok (validT_iff.1 hl).2.1 t n) (h2 t n) (h1 t n)
theorem takeLock_more {l m : List Lk} {who node mode : Int} (h : takeLock l who node mode = some m) : More l m := by
  obtain ⟨⟨h1, h2, h3⟩, _⟩ := takeLock_some.1 h
  have hl := (validT_iff.1 h1).2.1
  intro t n
  rw [takeLock_held h]
  split
  · exact strong_join (held_ok hl t n) (askOk_iff.1 h2).mode
  · exact join_self (held_ok hl t n)
theorem blockers_more {l m : List Lk} (hl : validT l = true) (hm : validT m = true) (h : More l m) {who node mode : Int} (hmo : okM mode) (hb : blockers m who node mode = []) : blockers l who node mode = [] := by
  rw [blockers_nil_iff] at *
  intro t h0 h3 hne
  have ol := fun t => held_ok (validT_iff.1 hl).2.1 t node
  have om := fun t => held_ok (validT_iff.1 hm).2.1 t node
  have h1 := hb t h0 h3 hne
  have h2 := tog_weaker (om t) (join_ok (om who) hmo) (join_ok (ol who) hmo) (join_mono (om who) (ol who) hmo (h who node)) h1
  rw [tog_comm] at h2 ⊢
  exact tog_weaker (join_ok (ol who) hmo) (om t) (ol t) (h t node) h2

/-- Several locks taken one after the other. -/
def grantAll : List Lk → List Lk → Option (List Lk)
  | l, [] => some l
  | l, a :: r => match takeLock l a.who a.node a.mode with
    | none => none
    | some m => grantAll m r
def takeAll (l as : List Lk) : Option (List Lk) := if validT l then grantAll l as else none
theorem grantAll_valid : ∀ (as : List Lk) {l m : List Lk}, validT l = true → grantAll l as = some m → validT m = true
  | [], l, m, h, e => by rw [← Option.some.inj (show some l = some m from e)]; exact h
  | a :: r, l, m, h, e => by
    unfold grantAll at e
    cases ht : takeLock l a.who a.node a.mode with
    | none => rw [ht] at e; cases e
    | some q => rw [ht] at e; exact grantAll_valid r (takeLock_valid ht) e
theorem grantAll_free : ∀ (as : List Lk) {l0 l m : List Lk}, validT l0 = true → validT l = true → More l0 l → grantAll l as = some m → ∀ a ∈ as, blockers l0 a.who a.node a.mode = []
  | [], _, _, _, _, _, _, _ => by simp
  | a :: r, l0, l, m, h0, h, hm, e => by
    unfold grantAll at e
    cases ht : takeLock l a.who a.node a.mode with
    | none => rw [ht] at e; cases e
    | some q =>
      rw [ht] at e
      obtain ⟨⟨h1, h2, h3⟩, _⟩ := takeLock_some.1 ht
      intro b hb
      rcases List.mem_cons.1 hb with rfl | hb
      · exact blockers_more h0 h hm (askOk_iff.1 h2).mode h3
      · exact grantAll_free r h0 (takeLock_valid ht) (hm.trans h0 h (takeLock_valid ht) (takeLock_more ht)) e b hb
theorem grantAll_snoc : ∀ (as : List Lk) (a l : List Lk), grantAll l (as ++ a) = match grantAll l as with | some m => grantAll m a | none => none
  | [], a, l => rfl
  | x :: r, a, l => by
    show (match takeLock l x.who x.node x.mode with | none => none | some m => grantAll m (r ++ a)) = (match (match takeLock l x.who x.node x.mode with | none => none | some m => grantAll m r) with | some m => grantAll m a | none => none)
    cases takeLock l x.who x.node x.mode with
    | none => rfl
    | some m => exact grantAll_snoc r a m

theorem asks_none {l as : List Lk} (hl : validT l = true) {m : List Lk} (h : takeAll l as = some m) : asksW l as = [] := by
  unfold takeAll at h
  rw [hl, if_pos rfl] at h
  have := grantAll_free as hl hl (More.refl (validT_iff.1 hl).2.1) h
  unfold asksW
  rw [List.flatMap_eq_nil_iff]
  intro a ha
  rw [this a ha]
  rfl
theorem asks_empty {l as : List Lk} (h : asksOk l as = true) : asksOf [] as = some [] := by
  obtain ⟨_, h2, h3⟩ := asksOk_iff.1 h
  have hok : asksOk [] as = true := asksOk_iff.2 ⟨validT_nil, h2, h3⟩
  unfold asksOf
  rw [hok, if_pos rfl]
  congr 1
  unfold asksW
  rw [List.flatMap_eq_nil_iff]
  intro a ha
  have hm := (askOk_iff.1 (h2 a ha)).mode
  have : blockers [] a.who a.node a.mode = [] := by
    rw [blockers_nil_iff]
    intro t _ _ _
    have h0 : ∀ u, held [] u a.node = 0 := fun u => rfl
    rw [h0, h0, join_zero hm]
    exact tog_zero_left hm
  rw [this]
  rfl
end Tl
