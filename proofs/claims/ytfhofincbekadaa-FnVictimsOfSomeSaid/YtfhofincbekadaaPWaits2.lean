/- Plain facts on how reachability is computed: a stack of those still to be looked at, marks of those seen. No program here. -/
import Derived.Test.YtfhofincbekadaaPWaits
namespace Tl

def setM (S : Int → Bool) (t : Int) : Int → Bool := fun u => decide (u = t) || S u
def cntM (S : Int → Bool) : Nat := (T4.filter S).length

theorem cntM_le (S : Int → Bool) : cntM S ≤ 4 := List.length_filter_le _ _
theorem cntM_eq (S : Int → Bool) : cntM S = (if S 0 then 1 else 0) + ((if S 1 then 1 else 0) + ((if S 2 then 1 else 0) + (if S 3 then 1 else 0))) := by
  unfold cntM T4
  cases h0 : S 0 <;> cases h1 : S 1 <;> cases h2 : S 2 <;> cases h3 : S 3 <;> simp [h0, h1, h2, h3]
theorem cntM_set {S : Int → Bool} {t : Int} (h0 : 0 ≤ t) (h3 : t ≤ 3) (hs : S t = false) : cntM (setM S t) = cntM S + 1 := by
  rw [cntM_eq, cntM_eq]
  have : t = 0 ∨ t = 1 ∨ t = 2 ∨ t = 3 := by omega
  rcases this with rfl | rfl | rfl | rfl <;> simp [setM, hs] <;> omega

/-- Between two rounds. -/
structure InvS (ws : List Wt) (who : Int) (S : Int → Bool) (stk : List Int) : Prop where
  seen : ∀ t, S t = true → (0 ≤ t ∧ t ≤ 3) ∧ Reach ws who t
  stack : ∀ a ∈ stk, a = who ∨ S a = true
  shut : ∀ a, (a = who ∨ S a = true) → a ∈ stk ∨ ∀ x ∈ ws, x.who = a → S x.to = true
/-- In a round, k waits looked at for `at_`. -/
structure InvR (ws : List Wt) (who : Int) (S : Int → Bool) (stk : List Int) (at_ : Int) (k : Nat) : Prop where
  seen : ∀ t, S t = true → (0 ≤ t ∧ t ≤ 3) ∧ Reach ws who t
  stack : ∀ a ∈ stk, a = who ∨ S a = true
  shut : ∀ a, (a = who ∨ S a = true) → a ≠ at_ → a ∈ stk ∨ ∀ x ∈ ws, x.who = a → S x.to = true
  here : at_ = who ∨ S at_ = true
  done : ∀ x ∈ ws.take k, x.who = at_ → S x.to = true

theorem take_snoc {α : Type} {l : List α} {k : Nat} {x : α} (h : l[k]? = some x) : l.take (k + 1) = l.take k ++ [x] := by
  obtain ⟨hk, rfl⟩ := List.getElem?_eq_some_iff.1 h
  exact List.take_succ_eq_append_getElem hk

theorem InvS.start (ws : List Wt) (who : Int) : InvS ws who (fun _ => false) [who] :=
  ⟨fun _ h => by simp at h, fun a ha => by simp at ha; exact .inl ha, fun a ha => by simp at ha; left; simp [ha]⟩
theorem InvS.pop {ws : List Wt} {who : Int} {S : Int → Bool} {stk : List Int} {a : Int} (h : InvS ws who S (stk ++ [a])) : InvR ws who S stk a 0 :=
  ⟨h.seen, fun b hb => h.stack b (by simp [hb]), fun b hb hne => by
    rcases h.shut b hb with h1 | h1
    · rcases List.mem_append.1 h1 with h1 | h1
      · exact .inl h1
      · simp at h1; exact absurd h1 hne
    · exact .inr h1, h.stack a (by simp), by simp⟩
theorem InvR.skip {ws : List Wt} {who : Int} {S : Int → Bool} {stk : List Int} {a : Int} {k : Nat} (h : InvR ws who S stk a k) {x : Wt} (hx : ws[k]? = some x) (hn : x.who = a → S x.to = true) : InvR ws who S stk a (k + 1) :=
  ⟨h.seen, h.stack, h.shut, h.here, fun y hy hw => by
    rw [take_snoc hx] at hy
    rcases List.mem_append.1 hy with hy | hy
    · exact h.done y hy hw
    · simp at hy; subst hy; exact hn hw⟩
theorem InvR.push {ws : List Wt} {who : Int} {S : Int → Bool} {stk : List Int} {a : Int} {k : Nat} (h : InvR ws who S stk a k) {x : Wt} (hx : ws[k]? = some x) (hw : x.who = a) (hok : okW x) : InvR ws who (setM S x.to) (stk ++ [x.to]) a (k + 1) := by
  have hxm := List.mem_of_getElem? hx
  have hr : Reach ws who x.to := by
    rcases h.here with e | hs
    · rw [← e, ← hw]; exact .edge hxm
    · exact .step (by rw [hw]; exact (h.seen a hs).2) hxm
  refine ⟨?_, ?_, ?_, ?_, ?_⟩
  · intro t ht
    simp only [setM, Bool.or_eq_true, decide_eq_true_eq] at ht
    rcases ht with rfl | ht
    · unfold okW at hok
      exact ⟨⟨hok.2.2.1, hok.2.2.2.1⟩, hr⟩
    · exact h.seen t ht
  · intro b hb
    rcases List.mem_append.1 hb with hb | hb
    · rcases h.stack b hb with e | e
      · exact .inl e
      · right; simp [setM, e]
    · simp at hb; right; simp [setM, hb]
  · intro b hb hne
    by_cases hbt : b = x.to
    · left; simp [hbt]
    · have hb' : b = who ∨ S b = true := by
        rcases hb with e | e
        · exact .inl e
        · simp [setM, hbt] at e; exact .inr e
      rcases h.shut b hb' hne with h1 | h1
      · left; simp [h1]
      · right
        intro y hy hyw
        simp [setM, h1 y hy hyw]
  · rcases h.here with e | e
    · exact .inl e
    · right; simp [setM, e]
  · intro y hy hyw
    rw [take_snoc hx] at hy
    rcases List.mem_append.1 hy with hy | hy
    · simp [setM, h.done y hy hyw]
    · simp at hy; subst hy; simp [setM]
theorem InvR.end_ {ws : List Wt} {who : Int} {S : Int → Bool} {stk : List Int} {a : Int} {k : Nat} (h : InvR ws who S stk a k) (hk : ws.length ≤ k) : InvS ws who S stk :=
  ⟨h.seen, h.stack, fun b hb => by
    by_cases e : b = a
    · right
      intro x hx hw
      exact h.done x (by rw [List.take_of_length_le hk]; exact hx) (hw.trans e)
    · exact h.shut b hb e⟩
theorem InvS.end_ {ws : List Wt} {who : Int} {S : Int → Bool} (h : InvS ws who S []) : T4.filter S = waitsFor ws who := by
  have hall : ∀ a t, Reach ws a t → a = who → S t = true := by
    intro a t ht
    induction ht with
    | @edge x hx =>
      intro e
      rcases h.shut x.who (.inl e) with h1 | h1
      · cases h1
      · exact h1 x hx rfl
    | @step a x _ hx ih =>
      intro e
      rcases h.shut x.who (.inr (ih e)) with h1 | h1
      · cases h1
      · exact h1 x hx rfl
  unfold waitsFor
  refine List.filter_congr fun t _ => ?_
  rw [Bool.eq_iff_iff]
  simp only [decide_eq_true_eq]
  exact ⟨fun hs => (h.seen t hs).2, fun hr => hall who t hr rfl⟩

/-- The same by a list of those seen, in the order in which they are looked at. -/
structure InvQ (ws : List Wt) (who : Int) (seen : List Int) (i : Nat) : Prop where
  ok : ∀ t ∈ seen, (0 ≤ t ∧ t ≤ 3) ∧ Reach ws who t
  nodup : seen.Nodup
  done : ∀ (j : Nat) (a : Int), j < i → (who :: seen)[j]? = some a → ∀ x ∈ ws, x.who = a → x.to ∈ seen
structure InvP (ws : List Wt) (who : Int) (seen : List Int) (i : Nat) (a : Int) (k : Nat) : Prop extends InvQ ws who seen i where
  here : (who :: seen)[i]? = some a
  part : ∀ x ∈ ws.take k, x.who = a → x.to ∈ seen

theorem InvQ.start (ws : List Wt) (who : Int) : InvQ ws who [] 0 := ⟨by simp, by simp, fun j a hj => by omega⟩
theorem InvQ.len {ws : List Wt} {who : Int} {seen : List Int} {i : Nat} (h : InvQ ws who seen i) : seen.length ≤ 4 :=
  length_le_of_sub seen T4 h.nodup (fun t ht => mem_T4.2 (h.ok t ht).1)
theorem InvQ.round {ws : List Wt} {who : Int} {seen : List Int} {i : Nat} (h : InvQ ws who seen i) {a : Int} (ha : (who :: seen)[i]? = some a) : InvP ws who seen i a 0 := ⟨h, ha, by simp⟩
theorem InvP.skip {ws : List Wt} {who : Int} {seen : List Int} {i k : Nat} {a : Int} (h : InvP ws who seen i a k) {x : Wt} (hx : ws[k]? = some x) (hn : x.who = a → x.to ∈ seen) : InvP ws who seen i a (k + 1) :=
  ⟨h.toInvQ, h.here, fun y hy hw => by
    rw [take_snoc hx] at hy
    rcases List.mem_append.1 hy with hy | hy
    · exact h.part y hy hw
    · simp at hy; subst hy; exact hn hw⟩
theorem InvP.push {ws : List Wt} {who : Int} {seen : List Int} {i k : Nat} {a : Int} (h : InvP ws who seen i a k) {x : Wt} (hx : ws[k]? = some x) (hw : x.who = a) (hok : okW x) (hn : x.to ∉ seen) : InvP ws who (seen ++ [x.to]) i a (k + 1) := by
  have hxm := List.mem_of_getElem? hx
  have hil : i < (who :: seen).length := (List.getElem?_eq_some_iff.1 h.here).1
  have hr : Reach ws who x.to := by
    have ha := List.mem_of_getElem? h.here
    rcases List.mem_cons.1 ha with e | hs
    · rw [← e, ← hw]; exact .edge hxm
    · exact .step (by rw [hw]; exact (h.ok a hs).2) hxm
  have hget : ∀ j, j ≤ i → (who :: (seen ++ [x.to]))[j]? = (who :: seen)[j]? := by
    intro j hj
    rw [← List.cons_append, List.getElem?_append_left (by omega)]
  refine ⟨⟨?_, ?_, ?_⟩, ?_, ?_⟩
  · intro t ht
    rcases List.mem_append.1 ht with ht | ht
    · exact h.ok t ht
    · simp at ht; subst ht; unfold okW at hok; exact ⟨⟨hok.2.2.1, hok.2.2.2.1⟩, hr⟩
  · rw [List.nodup_append]
    refine ⟨h.nodup, by simp, ?_⟩
    intro u hu v hv e
    simp at hv
    subst hv
    exact hn (e ▸ hu)
  · intro j b hj hb y hy hyw
    rw [hget j (by omega)] at hb
    exact List.mem_append.2 (.inl (h.done j b hj hb y hy hyw))
  · rw [hget i (Nat.le_refl _)]; exact h.here
  · intro y hy hyw
    rw [take_snoc hx] at hy
    rcases List.mem_append.1 hy with hy | hy
    · exact List.mem_append.2 (.inl (h.part y hy hyw))
    · simp at hy; subst hy; simp
theorem InvP.end_ {ws : List Wt} {who : Int} {seen : List Int} {i k : Nat} {a : Int} (h : InvP ws who seen i a k) (hk : ws.length ≤ k) : InvQ ws who seen (i + 1) :=
  ⟨h.ok, h.nodup, fun j b hj hb x hx hw => by
    by_cases e : j = i
    · subst e
      have := Option.some.inj (hb.symm.trans h.here)
      exact h.part x (by rw [List.take_of_length_le hk]; exact hx) (hw.trans this)
    · exact h.done j b (by omega) hb x hx hw⟩
theorem InvQ.end_ {ws : List Wt} {who : Int} {seen : List Int} {i : Nat} (h : InvQ ws who seen i) (hi : (who :: seen).length ≤ i) : ∀ t, t ∈ seen ↔ Reach ws who t := by
  have hall : ∀ a t, Reach ws a t → a = who → t ∈ seen := by
    intro a t ht
    induction ht with
    | @edge x hx =>
      intro e
      exact h.done 0 who (by simp at hi; omega) rfl x hx e
    | @step a x _ hx ih =>
      intro e
      obtain ⟨j, hj⟩ := List.mem_iff_getElem?.1 (ih e)
      have hjl := (List.getElem?_eq_some_iff.1 hj).1
      exact h.done (j + 1) x.who (by simp at hi; omega) (by simpa using hj) x hx rfl
  exact fun t => ⟨fun ht => (h.ok t ht).2, fun hr => hall who t hr rfl⟩
theorem InvQ.list {ws : List Wt} {who : Int} {seen : List Int} {i : Nat} (h : InvQ ws who seen i) (hi : (who :: seen).length ≤ i) : T4.filter (fun t => decide (t ∈ seen)) = waitsFor ws who := by
  unfold waitsFor
  refine List.filter_congr fun t _ => ?_
  rw [Bool.eq_iff_iff]
  simp only [decide_eq_true_eq]
  exact h.end_ hi t
end Tl
