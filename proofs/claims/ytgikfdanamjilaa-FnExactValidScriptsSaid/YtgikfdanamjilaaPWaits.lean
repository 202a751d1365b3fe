/- Plain facts on waits: reachability over a list of edges, deadlocks, victims. No program here. -/
namespace Tl

/-- A wait: who waits for whom. -/
structure Wt where
  who : Int
  to : Int

/-- `b` is reached from `a` by one wait or more. -/
inductive Reach (ws : List Wt) : Int → Int → Prop where
  | edge {x : Wt} : x ∈ ws → Reach ws x.who x.to
  | step {a : Int} {x : Wt} : Reach ws a x.who → x ∈ ws → Reach ws a x.to

theorem Reach.trans {ws : List Wt} {a b c : Int} (h : Reach ws a b) (k : Reach ws b c) : Reach ws a c := by
  induction k with
  | edge hx => exact .step h hx
  | step _ hx ih => exact .step (ih h) hx

theorem Reach.mono {ws vs : List Wt} {a b : Int} (hs : ∀ x, x ∈ ws → x ∈ vs) (h : Reach ws a b) : Reach vs a b := by
  induction h with
  | edge hx => exact .edge (hs _ hx)
  | step _ hx ih => exact .step ih (hs _ hx)

theorem Reach.last {ws : List Wt} {a b : Int} (h : Reach ws a b) : ∃ x, x ∈ ws ∧ x.to = b := by
  cases h with
  | edge hx => exact ⟨_, hx, rfl⟩
  | step _ hx => exact ⟨_, hx, rfl⟩

/-- The first wait of a way. -/
theorem Reach.first {ws : List Wt} {a b : Int} (h : Reach ws a b) : ∃ x, x ∈ ws ∧ x.who = a ∧ (x.to = b ∨ Reach ws x.to b) := by
  induction h with
  | edge hx => exact ⟨_, hx, rfl, .inl rfl⟩
  | step _ hx ih =>
    obtain ⟨y, hy, hw, hr⟩ := ih
    refine ⟨y, hy, hw, .inr ?_⟩
    rcases hr with e | hr
    · rw [e]; exact .edge hx
    · exact .step hr hx

theorem Reach.iff_first {ws : List Wt} {a b : Int} : Reach ws a b ↔ ∃ x, x ∈ ws ∧ x.who = a ∧ (x.to = b ∨ Reach ws x.to b) := by
  refine ⟨Reach.first, ?_⟩
  rintro ⟨x, hx, rfl, rfl | hr⟩
  · exact .edge hx
  · exact (Reach.edge hx).trans hr

theorem not_reach_nil {a b : Int} : ¬ Reach [] a b := by
  intro h
  obtain ⟨x, hx, _⟩ := h.first
  cases hx

def Wt.inv (x : Wt) : Wt := ⟨x.to, x.who⟩

theorem Reach.rev {ws : List Wt} {a b : Int} (h : Reach ws a b) : Reach (ws.map Wt.inv) b a := by
  induction h with
  | @edge x hx => exact Reach.edge (x := x.inv) (List.mem_map.2 ⟨x, hx, rfl⟩)
  | @step _ x _ hx ih => exact (Reach.edge (x := Wt.inv x) (List.mem_map.2 ⟨x, hx, rfl⟩)).trans ih

theorem inv_inv (ws : List Wt) : (ws.map Wt.inv).map Wt.inv = ws := by
  rw [List.map_map]
  have : (Wt.inv ∘ Wt.inv) = id := by funext x; rfl
  rw [this, List.map_id]

theorem reach_rev_iff {ws : List Wt} {a b : Int} : Reach (ws.map Wt.inv) b a ↔ Reach ws a b :=
  ⟨fun h => by have := h.rev; rwa [inv_inv] at this, Reach.rev⟩

/-- The numbers of the transactions. -/
def T4 : List Int := [0, 1, 2, 3]

open Classical in
/-- The transactions for which one waits. -/
noncomputable def waitsFor (ws : List Wt) (who : Int) : List Int := T4.filter fun t => decide (Reach ws who t)

open Classical in
/-- The transactions that wait for themselves. -/
noncomputable def deadOf (ws : List Wt) : List Int := T4.filter fun t => decide (Reach ws t t)

def okW (x : Wt) : Prop := 0 ≤ x.who ∧ x.who ≤ 3 ∧ 0 ≤ x.to ∧ x.to ≤ 3 ∧ x.who ≠ x.to
instance (x : Wt) : Decidable (okW x) := by unfold okW; infer_instance
def validW (ws : List Wt) : Bool := decide (ws.length ≤ 12) && ws.all fun x => decide (okW x)

theorem mem_T4 {t : Int} : t ∈ T4 ↔ 0 ≤ t ∧ t ≤ 3 := by
  simp only [T4, List.mem_cons, List.not_mem_nil, or_false]; omega

theorem validW_iff {ws : List Wt} : validW ws = true ↔ ws.length ≤ 12 ∧ ∀ x ∈ ws, okW x := by
  simp [validW]

theorem mem_waitsFor {ws : List Wt} {who t : Int} : t ∈ waitsFor ws who ↔ (0 ≤ t ∧ t ≤ 3) ∧ Reach ws who t := by
  simp [waitsFor, mem_T4]

theorem mem_deadOf {ws : List Wt} {t : Int} : t ∈ deadOf ws ↔ (0 ≤ t ∧ t ≤ 3) ∧ Reach ws t t := by
  simp [deadOf, mem_T4]

theorem okW_inv {x : Wt} (h : okW x) : okW x.inv := by unfold okW Wt.inv at *; simp only; omega

theorem valid_inv {ws : List Wt} (h : validW ws = true) : validW (ws.map Wt.inv) = true := by
  rw [validW_iff] at *
  refine ⟨by simpa using h.1, ?_⟩
  intro x hx
  obtain ⟨y, hy, rfl⟩ := List.mem_map.1 hx
  exact okW_inv (h.2 y hy)

theorem deadOf_inv (ws : List Wt) : deadOf (ws.map Wt.inv) = deadOf ws := by
  unfold deadOf
  congr 1
  funext t
  simp [reach_rev_iff]

theorem reach_to {ws : List Wt} (h : ∀ x ∈ ws, okW x) {a b : Int} (hr : Reach ws a b) : 0 ≤ b ∧ b ≤ 3 := by
  obtain ⟨x, hx, rfl⟩ := hr.last
  have := h x hx; unfold okW at this; omega

theorem reach_from {ws : List Wt} (h : ∀ x ∈ ws, okW x) {a b : Int} (hr : Reach ws a b) : 0 ≤ a ∧ a ≤ 3 := by
  obtain ⟨x, hx, rfl, _⟩ := hr.first
  have := h x hx; unfold okW at this; omega

/-- Each one in a deadlock has a wait for another one in it. -/
theorem dead_next {ws : List Wt} (h : ∀ x ∈ ws, okW x) {t : Int} (ht : Reach ws t t) : ∃ x ∈ ws, x.who = t ∧ x.to ≠ t ∧ Reach ws x.to x.to := by
  obtain ⟨x, hx, hw, hr⟩ := ht.first
  have hok := h x hx
  have hne : x.to ≠ t := by unfold okW at hok; omega
  refine ⟨x, hx, hw, hne, ?_⟩
  rcases hr with e | hr
  · exact absurd e hne
  · exact Reach.trans hr (by rw [← hw]; exact .edge hx)

theorem deadOf_nodup (ws : List Wt) : (deadOf ws).Nodup := by
  unfold deadOf
  exact List.Pairwise.filter _ (by decide)

theorem two_le_of_mem {l : List Int} {a b : Int} (ha : a ∈ l) (hb : b ∈ l) (hne : a ≠ b) : 2 ≤ l.length := by
  match l, ha, hb with
  | [], ha, _ => cases ha
  | [x], ha, hb => simp at ha hb; omega
  | _ :: _ :: _, _, _ => simp

theorem deadOf_two {ws : List Wt} (h : ∀ x ∈ ws, okW x) (hne : deadOf ws ≠ []) : 2 ≤ (deadOf ws).length := by
  obtain ⟨t, l, e⟩ : ∃ t l, deadOf ws = t :: l := by
    cases hd : deadOf ws with
    | nil => exact absurd hd hne
    | cons t l => exact ⟨t, l, rfl⟩
  have ht : t ∈ deadOf ws := by rw [e]; simp
  obtain ⟨x, hx, hw, hnt, hr⟩ := dead_next h (mem_deadOf.1 ht).2
  exact two_le_of_mem ht (mem_deadOf.2 ⟨reach_to h hr, hr⟩) (fun e => hnt e.symm)

/-- Waits that go up only. -/
theorem reach_up {ws : List Wt} (h : ∀ x ∈ ws, x.who < x.to) {a b : Int} (hr : Reach ws a b) : a < b := by
  induction hr with
  | edge hx => exact h _ hx
  | step _ hx ih => have := h _ hx; omega

theorem deadOf_up {ws : List Wt} (h : ∀ x ∈ ws, x.who < x.to) : deadOf ws = [] := by
  rw [List.eq_nil_iff_forall_not_mem]
  intro t ht
  have := reach_up h (mem_deadOf.1 ht).2
  omega

/-- The waits that do not name one. -/
def dropW (ws : List Wt) (v : Int) : List Wt := ws.filter fun x => decide (x.who ≠ v ∧ x.to ≠ v)

theorem mem_dropW {ws : List Wt} {v : Int} {x : Wt} : x ∈ dropW ws v ↔ x ∈ ws ∧ x.who ≠ v ∧ x.to ≠ v := by
  simp [dropW]

theorem dropW_length_lt {ws : List Wt} {v : Int} (hv : ∃ x ∈ ws, x.who = v) : (dropW ws v).length < ws.length := by
  obtain ⟨x, hx, e⟩ := hv
  unfold dropW
  refine List.length_filter_lt_length_iff_exists.2 ⟨x, hx, ?_⟩
  simp [e]

theorem valid_dropW {ws : List Wt} {v : Int} (h : validW ws = true) : validW (dropW ws v) = true := by
  rw [validW_iff] at *
  exact ⟨Nat.le_trans (List.length_filter_le _ _) h.1, fun x hx => h.2 x (mem_dropW.1 hx).1⟩

/-- The victims, with fuel: the greatest one of the deadlock, then on without it. -/
noncomputable def victims : Nat → List Wt → List Int
  | 0, _ => []
  | n + 1, ws => match (deadOf ws).getLast? with
    | none => []
    | some v => v :: victims n (dropW ws v)

theorem getLast?_mem' {l : List Int} {v : Int} (h : l.getLast? = some v) : v ∈ l := List.mem_of_getLast? h

theorem dead_mono {ws vs : List Wt} (hs : ∀ x, x ∈ ws → x ∈ vs) {t : Int} (h : t ∈ deadOf ws) : t ∈ deadOf vs := by
  rw [mem_deadOf] at *
  exact ⟨h.1, h.2.mono hs⟩

theorem victims_dead (n : Nat) : ∀ ws, ∀ v ∈ victims n ws, v ∈ deadOf ws := by
  induction n with
  | zero => intro ws v hv; simp [victims] at hv
  | succ n ih =>
    intro ws v hv
    unfold victims at hv
    split at hv
    · simp at hv
    · rename_i u hu
      rcases List.mem_cons.1 hv with rfl | hv
      · exact getLast?_mem' hu
      · exact dead_mono (fun x hx => (mem_dropW.1 hx).1) (ih _ v hv)

theorem reach_not_dropped {ws : List Wt} {v a b : Int} (h : Reach (dropW ws v) a b) : a ≠ v ∧ b ≠ v := by
  obtain ⟨x, hx, hw, _⟩ := h.first
  obtain ⟨y, hy, ht⟩ := h.last
  have h1 := mem_dropW.1 hx
  have h2 := mem_dropW.1 hy
  exact ⟨by rw [← hw]; exact h1.2.1, by rw [← ht]; exact h2.2.2⟩

theorem victims_nodup (n : Nat) : ∀ ws, (victims n ws).Nodup := by
  induction n with
  | zero => intro ws; simp [victims]
  | succ n ih =>
    intro ws
    unfold victims
    split
    · simp
    · rename_i u hu
      refine List.nodup_cons.2 ⟨?_, ih _⟩
      intro hm
      have := victims_dead n _ u hm
      exact (reach_not_dropped (mem_deadOf.1 this).2).1 rfl

/-- Without the waits that name a victim there is no deadlock. -/
theorem victims_end (n : Nat) : ∀ ws : List Wt, ws.length ≤ n → (∀ x ∈ ws, okW x) → deadOf (ws.filter fun x => decide (x.who ∉ victims n ws ∧ x.to ∉ victims n ws)) = [] := by
  induction n with
  | zero =>
    intro ws hl _
    have : ws = [] := List.eq_nil_of_length_eq_zero (by omega)
    subst this
    rw [List.eq_nil_iff_forall_not_mem]
    intro t ht
    exact not_reach_nil (mem_deadOf.1 ht).2
  | succ n ih =>
    intro ws hl hok
    unfold victims
    split
    · rename_i hu
      have hd : deadOf ws = [] := by simpa using hu
      rw [List.filter_eq_self.2 (by simp)]
      exact hd
    · rename_i u hu
      have hud := (mem_deadOf.1 (getLast?_mem' hu)).2
      obtain ⟨x, hx, hw, _⟩ := hud.first
      have hlt := dropW_length_lt (v := u) ⟨x, hx, hw⟩
      have := ih (dropW ws u) (by omega) (fun x hx => hok x (mem_dropW.1 hx).1)
      have e : (ws.filter fun x => decide (x.who ∉ u :: victims n (dropW ws u) ∧ x.to ∉ u :: victims n (dropW ws u))) =
          (dropW ws u).filter fun x => decide (x.who ∉ victims n (dropW ws u) ∧ x.to ∉ victims n (dropW ws u)) := by
        conv => rhs; unfold dropW
        rw [List.filter_filter]
        congr 1
        funext y
        simp only [List.mem_cons, not_or, ne_eq, dropW]
        rw [Bool.eq_iff_iff]
        simp only [decide_eq_true_eq, Bool.and_eq_true]
        constructor
        · rintro ⟨⟨a, b⟩, c, d⟩; exact ⟨⟨b, d⟩, a, c⟩
        · rintro ⟨⟨b, d⟩, a, c⟩; exact ⟨⟨a, b⟩, c, d⟩
      rw [e]
      exact this

/-- Somebody of a deadlock is no victim. -/
theorem victims_stay (n : Nat) : ∀ ws : List Wt, ws.length ≤ n → (∀ x ∈ ws, okW x) → deadOf ws ≠ [] → ∃ t ∈ deadOf ws, t ∉ victims n ws := by
  induction n with
  | zero =>
    intro ws hl _ hne
    have : ws = [] := List.eq_nil_of_length_eq_zero (by omega)
    subst this
    exact absurd (deadOf_up (ws := []) (by simp)) hne
  | succ n ih =>
    intro ws hl hok hne
    unfold victims
    split
    · rename_i hu
      exact absurd (by simpa using hu) hne
    · rename_i u hu
      have hum := getLast?_mem' hu
      have hud := (mem_deadOf.1 hum).2
      obtain ⟨x, hx, hw, hnt, hr⟩ := dead_next hok hud
      have hlt := dropW_length_lt (v := u) ⟨x, hx, hw⟩
      have hok' : ∀ x ∈ dropW ws u, okW x := fun x hx => hok x (mem_dropW.1 hx).1
      by_cases hd : deadOf (dropW ws u) = []
      · refine ⟨x.to, mem_deadOf.2 ⟨reach_to hok hr, hr⟩, ?_⟩
        intro hm
        rcases List.mem_cons.1 hm with e | hm
        · exact hnt e
        · have := victims_dead n _ _ hm
          rw [hd] at this
          cases this
      · obtain ⟨t, ht, hn⟩ := ih (dropW ws u) (by omega) hok' hd
        refine ⟨t, dead_mono (fun x hx => (mem_dropW.1 hx).1) ht, ?_⟩
        intro hm
        rcases List.mem_cons.1 hm with e | hm
        · exact (reach_not_dropped (mem_deadOf.1 ht).2).1 e
        · exact hn hm

theorem length_le_of_sub : ∀ (l m : List Int), l.Nodup → (∀ x ∈ l, x ∈ m) → l.length ≤ m.length
  | [], _, _, _ => by simp
  | a :: l, m, hn, hs => by
    have hn' := List.nodup_cons.1 hn
    have ha : a ∈ m := hs a (by simp)
    have h := length_le_of_sub l (m.erase a) hn'.2 (fun x hx => by
      have hne : x ≠ a := fun e => hn'.1 (e ▸ hx)
      exact (List.mem_erase_of_ne hne).2 (hs x (by simp [hx])))
    have := List.length_erase_of_mem ha
    have := List.length_pos_of_mem ha
    simp only [List.length_cons]
    omega

theorem length_lt_of_sub {l m : List Int} (hn : l.Nodup) (hs : ∀ x ∈ l, x ∈ m) {t : Int} (ht : t ∈ m) (hl : t ∉ l) : l.length < m.length := by
  have := length_le_of_sub (t :: l) m (List.nodup_cons.2 ⟨hl, hn⟩) (fun x hx => by
    rcases List.mem_cons.1 hx with rfl | hx
    · exact ht
    · exact hs x hx)
  simp only [List.length_cons] at this
  omega

end Tl
