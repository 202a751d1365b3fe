import Derived.Test.YtgikfdanamjilaaPWaits
/- Plain facts on modes and tables of locks. No program here. -/
namespace Tl

structure Lk where
  who : Int
  node : Int
  mode : Int

def okM (m : Int) : Prop := 0 ≤ m ∧ m ≤ 5
instance (m : Int) : Decidable (okM m) := by unfold okM; infer_instance

/-- Two modes go together. -/
def tog (a b : Int) : Bool :=
  if min a b = 0 then true
  else if min a b = 1 then decide (max a b ≠ 5)
  else if min a b = 2 then decide (max a b = 2)
  else if min a b = 3 then decide (max a b = 3)
  else false
/-- The least mode that is as strong as both. -/
def join (a b : Int) : Int := if min a b = 2 ∧ max a b = 3 then 4 else max a b

theorem cases6 {a : Int} (h : okM a) : a = 0 ∨ a = 1 ∨ a = 2 ∨ a = 3 ∨ a = 4 ∨ a = 5 := by unfold okM at h; omega

theorem join_ok {a b : Int} (ha : okM a) (hb : okM b) : okM (join a b) := by
  rcases cases6 ha with rfl | rfl | rfl | rfl | rfl | rfl <;> rcases cases6 hb with rfl | rfl | rfl | rfl | rfl | rfl <;> decide
theorem join_pos {a b : Int} (ha : okM a) (hb : okM b) (h : 1 ≤ b) : 1 ≤ join a b := by
  rcases cases6 ha with rfl | rfl | rfl | rfl | rfl | rfl <;> rcases cases6 hb with rfl | rfl | rfl | rfl | rfl | rfl <;> first | decide | omega
theorem tog_comm {a b : Int} : tog a b = tog b a := by unfold tog; rw [Int.min_comm a b, Int.max_comm a b]
theorem tog_zero_left {b : Int} (hb : okM b) : tog 0 b = true := by
  rcases cases6 hb with rfl | rfl | rfl | rfl | rfl | rfl <;> decide
theorem tog_zero_right {b : Int} (hb : okM b) : tog b 0 = true := by rw [tog_comm]; exact tog_zero_left hb
theorem join_join {a b : Int} (ha : okM a) (hb : okM b) : join (join a b) b = join a b := by
  rcases cases6 ha with rfl | rfl | rfl | rfl | rfl | rfl <;> rcases cases6 hb with rfl | rfl | rfl | rfl | rfl | rfl <;> decide
theorem join_zero {b : Int} (hb : okM b) : join 0 b = b := by
  rcases cases6 hb with rfl | rfl | rfl | rfl | rfl | rfl <;> decide
theorem join_self {b : Int} (hb : okM b) : join b b = b := by
  rcases cases6 hb with rfl | rfl | rfl | rfl | rfl | rfl <;> decide
/-- What goes together with the stronger goes together with the weaker. -/
theorem tog_join_one {x a b : Int} (hx : okM x) (ha : okM a) (hb : okM b) (h1 : 1 ≤ b) (h : tog x (join a b) = true) : tog x (join a 1) = true := by
  revert h h1
  rcases cases6 hx with rfl | rfl | rfl | rfl | rfl | rfl <;> rcases cases6 ha with rfl | rfl | rfl | rfl | rfl | rfl <;> rcases cases6 hb with rfl | rfl | rfl | rfl | rfl | rfl <;> decide
theorem tog_join {x a b : Int} (hx : okM x) (ha : okM a) (hb : okM b) (h : tog x (join a b) = true) : tog x a = true := by
  revert h
  rcases cases6 hx with rfl | rfl | rfl | rfl | rfl | rfl <;> rcases cases6 ha with rfl | rfl | rfl | rfl | rfl | rfl <;> rcases cases6 hb with rfl | rfl | rfl | rfl | rfl | rfl <;> decide

def okL (x : Lk) : Prop := 0 ≤ x.who ∧ x.who ≤ 3 ∧ 0 ≤ x.node ∧ x.node ≤ 11 ∧ 1 ≤ x.mode ∧ x.mode ≤ 5
instance (x : Lk) : Decidable (okL x) := by unfold okL; infer_instance
theorem okL.mode {x : Lk} (h : okL x) : okM x.mode := by unfold okL at h; unfold okM; omega
/-- Two locks can stand in one table. -/
def fits (x y : Lk) : Prop := x.node = y.node → x.who ≠ y.who ∧ tog x.mode y.mode = true
instance (x y : Lk) : Decidable (fits x y) := by unfold fits; infer_instance
theorem fits_comm {x y : Lk} (h : fits x y) : fits y x := fun e => by
  obtain ⟨h1, h2⟩ := h e.symm
  exact ⟨fun e => h1 e.symm, by rw [tog_comm]; exact h2⟩

/-- Each lock of a list fits all before it. -/
def fitAll : List Lk → Prop := List.Pairwise fun y x => fits x y
instance (l : List Lk) : Decidable (fitAll l) := by unfold fitAll; infer_instance
def validT (l : List Lk) : Bool := decide (l.length ≤ 48) && (l.all fun x => decide (okL x)) && decide (fitAll l)
theorem validT_iff {l : List Lk} : validT l = true ↔ l.length ≤ 48 ∧ (∀ x ∈ l, okL x) ∧ fitAll l := by simp [validT, and_assoc]
theorem validT_nil : validT [] = true := by decide

theorem validT_sub {l m : List Lk} (h : validT l = true) (hs : List.Sublist m l) : validT m = true := by
  rw [validT_iff] at *
  exact ⟨Nat.le_trans hs.length_le h.1, fun x hx => h.2.1 x (hs.subset hx), h.2.2.sublist hs⟩

def at_ (who node : Int) (x : Lk) : Bool := decide (x.who = who) && decide (x.node = node)
theorem at_iff {who node : Int} {x : Lk} : at_ who node x = true ↔ x.who = who ∧ x.node = node := by simp [at_]
/-- The mode of a transaction on a node. -/
def held (l : List Lk) (who node : Int) : Int := match l.find? (at_ who node) with | some x => x.mode | none => 0

theorem held_of_find {l : List Lk} {who node : Int} {x : Lk} (h : l.find? (at_ who node) = some x) : held l who node = x.mode := by simp [held, h]
theorem held_none {l : List Lk} {who node : Int} (h : ∀ x ∈ l, ¬ (x.who = who ∧ x.node = node)) : held l who node = 0 := by
  have : l.find? (at_ who node) = none := by
    rw [List.find?_eq_none]
    intro x hx
    rw [at_iff]
    exact h x hx
  simp [held, this]

theorem held_ok {l : List Lk} (hl : ∀ x ∈ l, okL x) (who node : Int) : okM (held l who node) := by
  unfold held
  split
  · rename_i x hx
    exact (hl x (List.mem_of_find?_eq_some hx)).mode
  · decide

theorem pair_fits {l : List Lk} (h : fitAll l) : ∀ x ∈ l, ∀ y ∈ l, x = y ∨ fits x y := by
  induction l with
  | nil => intro x hx; cases hx
  | cons z r ih =>
    have h' := List.pairwise_cons.1 h
    intro x hx y hy
    rcases List.mem_cons.1 hx with e1 | hx1 <;> rcases List.mem_cons.1 hy with e2 | hy1
    · exact .inl (e1.trans e2.symm)
    · subst e1; exact .inr (fits_comm (h'.1 y hy1))
    · subst e2; exact .inr (h'.1 x hx1)
    · exact ih h'.2 x hx1 y hy1

theorem held_mem {l : List Lk} (h : fitAll l) {x : Lk} (hx : x ∈ l) : held l x.who x.node = x.mode := by
  have hs : (l.find? (at_ x.who x.node)).isSome = true := by
    rw [List.find?_isSome]
    exact ⟨x, hx, at_iff.2 ⟨rfl, rfl⟩⟩
  obtain ⟨y, hy⟩ := Option.isSome_iff_exists.1 hs
  have hym := List.mem_of_find?_eq_some hy
  have hya := at_iff.1 (List.find?_some hy)
  rw [held_of_find hy]
  rcases pair_fits h x hx y hym with e | hf
  · rw [e]
  · exact absurd hya.1.symm (hf hya.2.symm).1

/-- Whoever has a mode other than 0 has a lock with it. -/
theorem held_pos {l : List Lk} {who node : Int} (h : held l who node ≠ 0) : ∃ x ∈ l, x.who = who ∧ x.node = node ∧ x.mode = held l who node := by
  cases hf : l.find? (at_ who node) with
  | none => simp [held, hf] at h
  | some x =>
    have ha := at_iff.1 (List.find?_some hf)
    exact ⟨x, List.mem_of_find?_eq_some hf, ha.1, ha.2, by rw [held_of_find hf]⟩

theorem held_tog {l : List Lk} (hl : validT l = true) {a b node : Int} (hab : a ≠ b) : tog (held l a node) (held l b node) = true := by
  rw [validT_iff] at hl
  have oa := held_ok hl.2.1 a node
  have ob := held_ok hl.2.1 b node
  by_cases h1 : held l a node = 0
  · rw [h1]; exact tog_zero_left ob
  by_cases h2 : held l b node = 0
  · rw [h2]; exact tog_zero_right oa
  obtain ⟨x, hx, xw, xn, xm⟩ := held_pos h1
  obtain ⟨y, hy, yw, yn, ym⟩ := held_pos h2
  rcases pair_fits hl.2.2 x hx y hy with e | hf
  · exact absurd (xw.symm.trans ((congrArg Lk.who e).trans yw)) hab
  · rw [← xm, ← ym]; exact (hf (xn.trans yn.symm)).2

/-- Those that stand in the way of a mode. -/
def blockersOf (l : List Lk) (who node want : Int) : List Int := T4.filter fun t => decide (t ≠ who) && !tog (held l t node) want
def blockers (l : List Lk) (who node mode : Int) : List Int := blockersOf l who node (join (held l who node) mode)
def askOk (who node mode : Int) : Bool := decide (0 ≤ who ∧ who ≤ 3 ∧ 0 ≤ node ∧ node ≤ 11 ∧ 1 ≤ mode ∧ mode ≤ 5)
theorem askOk_iff {who node mode : Int} : askOk who node mode = true ↔ okL ⟨who, node, mode⟩ := by simp [askOk, okL]
/-- What LockBlockers answers. -/
def lockBlockers (l : List Lk) (who node mode : Int) : List Int := if validT l && askOk who node mode then blockers l who node mode else []

theorem mem_blockers {l : List Lk} {who node mode t : Int} : t ∈ blockers l who node mode ↔ (0 ≤ t ∧ t ≤ 3) ∧ t ≠ who ∧ tog (held l t node) (join (held l who node) mode) = false := by
  simp [blockers, blockersOf, mem_T4]

/-- The table with a lock. -/
def grant : List Lk → Int → Int → Int → List Lk
  | [], who, node, mode => [⟨who, node, mode⟩]
  | x :: r, who, node, mode => if at_ who node x then ⟨x.who, x.node, join x.mode mode⟩ :: r else x :: grant r who node mode
/-- What TakeLock answers. -/
def takeLock (l : List Lk) (who node mode : Int) : Option (List Lk) :=
  if validT l && askOk who node mode && (blockers l who node mode).isEmpty then some (grant l who node mode) else none

theorem grant_held {l : List Lk} (who node mode : Int) : ∀ a n, okM mode → held (grant l who node mode) a n = if a = who ∧ n = node then join (held l who node) mode else held l a n := by
  intro a n hm
  induction l with
  | nil =>
    by_cases h : a = who ∧ n = node
    · obtain ⟨rfl, rfl⟩ := h
      simp [grant, held, at_, join_zero hm]
    · rw [if_neg h]
      refine held_none ?_
      intro x hx hh
      simp [grant] at hx
      subst hx
      exact h ⟨hh.1.symm, hh.2.symm⟩
  | cons x r ih =>
    unfold grant
    by_cases hx : at_ who node x = true
    · obtain ⟨rfl, rfl⟩ := at_iff.1 hx
      rw [if_pos hx]
      by_cases h : a = x.who ∧ n = x.node
      · obtain ⟨rfl, rfl⟩ := h
        simp [held, at_]
      · have h1 : at_ a n ⟨x.who, x.node, join x.mode mode⟩ = false := by
          rw [Bool.eq_false_iff]; intro h'; exact h ⟨(at_iff.1 h').1.symm, (at_iff.1 h').2.symm⟩
        have h2 : at_ a n x = false := by
          rw [Bool.eq_false_iff]; intro h'; exact h ⟨(at_iff.1 h').1.symm, (at_iff.1 h').2.symm⟩
        simp [held, h1, h2, h]
    · rw [if_neg hx]
      by_cases h2 : at_ a n x = true
      · have hne : ¬ (a = who ∧ n = node) := by
          rintro ⟨rfl, rfl⟩; exact hx h2
        rw [if_neg hne]
        simp [held, h2]
      · have e1 : held (x :: grant r who node mode) a n = held (grant r who node mode) a n := by simp [held, h2]
        have e2 : held (x :: r) a n = held r a n := by simp [held, h2]
        have e3 : held (x :: r) who node = held r who node := by simp [held, hx]
        rw [e1, e2, e3]
        exact ih

theorem mem_grant {l : List Lk} {who node mode : Int} {x : Lk} (h : x ∈ grant l who node mode) : (x.who = who ∧ x.node = node ∧ ((∃ y ∈ l, y.who = who ∧ y.node = node ∧ x.mode = join y.mode mode) ∨ (x.mode = mode ∧ ∀ y ∈ l, ¬ (y.who = who ∧ y.node = node)))) ∨ x ∈ l := by
  induction l with
  | nil =>
    simp [grant] at h
    subst h
    exact .inl ⟨rfl, rfl, .inr ⟨rfl, by simp⟩⟩
  | cons y r ih =>
    unfold grant at h
    by_cases hy : at_ who node y = true
    · rw [if_pos hy] at h
      rcases List.mem_cons.1 h with rfl | h
      · exact .inl ⟨(at_iff.1 hy).1, (at_iff.1 hy).2, .inl ⟨y, by simp, (at_iff.1 hy).1, (at_iff.1 hy).2, rfl⟩⟩
      · exact .inr (by simp [h])
    · rw [if_neg hy] at h
      rcases List.mem_cons.1 h with rfl | h
      · exact .inr (by simp)
      · rcases ih h with ⟨h1, h2, h3⟩ | h1
        · refine .inl ⟨h1, h2, ?_⟩
          rcases h3 with ⟨z, hz, hz'⟩ | ⟨h3, h4⟩
          · exact .inl ⟨z, by simp [hz], hz'⟩
          · refine .inr ⟨h3, ?_⟩
            intro z hz
            rcases List.mem_cons.1 hz with rfl | hz
            · rw [at_iff] at hy; exact hy
            · exact h4 z hz
        · exact .inr (by simp [h1])

theorem grant_ok {l : List Lk} (hl : ∀ x ∈ l, okL x) {who node mode : Int} (ha : okL ⟨who, node, mode⟩) : ∀ x ∈ grant l who node mode, okL x := by
  intro x hx
  rcases mem_grant hx with ⟨h1, h2, h3⟩ | h
  · have hm : okM mode := ha.mode
    have h1m : 1 ≤ mode := by unfold okL at ha; exact ha.2.2.2.2.1
    rcases h3 with ⟨y, hy, _, _, e⟩ | ⟨e, _⟩
    · have hj := join_ok (hl y hy).mode hm
      have hp := join_pos (hl y hy).mode hm h1m
      unfold okL at *
      unfold okM at hj
      simp only at ha
      rw [h1, h2, e]
      omega
    · unfold okL at *
      simp only at ha
      rw [h1, h2, e]
      omega
  · exact hl x h

theorem blockers_nil_iff {l : List Lk} {who node mode : Int} : blockers l who node mode = [] ↔ ∀ t, 0 ≤ t → t ≤ 3 → t ≠ who → tog (held l t node) (join (held l who node) mode) = true := by
  rw [List.eq_nil_iff_forall_not_mem]
  constructor
  · intro h t h1 h2 h3
    have := h t
    rw [mem_blockers] at this
    cases ht : tog (held l t node) (join (held l who node) mode) with
    | true => rfl
    | false => exact absurd ⟨⟨h1, h2⟩, h3, ht⟩ this
  · intro h t ht
    obtain ⟨⟨h1, h2⟩, h3, h4⟩ := mem_blockers.1 ht
    rw [h t h1 h2 h3] at h4
    cases h4

theorem grant_fit {who node mode : Int} (hm : okM mode) (L : List Lk) (hL : fitAll L) (hLo : ∀ x ∈ L, okL x) (hb : blockers L who node mode = []) :
    ∀ l, List.Sublist l L → (∀ x ∈ l, x.who = who → x.node = node → True) → fitAll l → fitAll (grant l who node mode) := by
  have key : ∀ z ∈ L, ∀ x : Lk, x.who = who → x.node = node → z.who ≠ who → x.mode = join (held L who node) mode → fits z x := by
    intro z hz x hxw hxn hzw hxm hn
    refine ⟨by rw [hxw]; exact hzw, ?_⟩
    have hzo := hLo z hz
    have := (blockers_nil_iff.1 hb) z.who (by unfold okL at hzo; omega) (by unfold okL at hzo; omega) hzw
    rw [← hxn, ← hn, held_mem hL hz, hn, hxn] at this
    rw [hxm]
    exact this
  have val : ∀ y ∈ L, y.who = who → y.node = node → y.mode = held L who node := by
    intro y hy h1 h2
    rw [← h1, ← h2, held_mem hL hy]
  intro l
  induction l with
  | nil =>
    intro _ _ _
    exact List.pairwise_cons.2 ⟨by simp, List.Pairwise.nil⟩
  | cons x r ih =>
    intro hs _ hf
    have hf' := List.pairwise_cons.1 hf
    have hxL : x ∈ L := hs.subset (by simp)
    have hrL : ∀ y ∈ r, y ∈ L := fun y hy => hs.subset (by simp [hy])
    unfold grant
    by_cases hx : at_ who node x = true
    · rw [if_pos hx]
      obtain ⟨h1, h2⟩ := at_iff.1 hx
      refine List.pairwise_cons.2 ⟨?_, hf'.2⟩
      intro y hy
      by_cases hyn : y.node = node
      · have hyw : y.who ≠ who := by
          have := (hf'.1 y hy) (hyn.trans h2.symm)
          exact fun e => this.1 (e.trans h1.symm)
        exact key y (hrL y hy) ⟨x.who, x.node, join x.mode mode⟩ h1 h2 hyw (by rw [← val x hxL h1 h2])
      · intro e
        exact absurd (e.trans h2) hyn
    · rw [if_neg hx]
      refine List.pairwise_cons.2 ⟨?_, ih ((List.sublist_cons_self x r).trans hs) (fun _ _ _ _ => trivial) hf'.2⟩
      intro y hy
      rcases mem_grant hy with ⟨h1, h2, h3⟩ | h
      · by_cases hxn : x.node = node
        · have hxw : x.who ≠ who := fun e => hx (at_iff.2 ⟨e, hxn⟩)
          rcases h3 with ⟨z, hz, hzw, hzn, e⟩ | ⟨e, hno⟩
          · exact fits_comm (key x hxL y h1 h2 hxw (by rw [e, val z (hrL z hz) hzw hzn]))
          · refine fits_comm fun hn => ?_
            refine ⟨by rw [h1]; exact hxw, ?_⟩
            have hxo := hLo x hxL
            have hb' := (blockers_nil_iff.1 hb) x.who (by unfold okL at hxo; omega) (by unfold okL at hxo; omega) hxw
            rw [← hxn, held_mem hL hxL] at hb'
            rw [e]
            have := tog_join (x := x.mode) (a := mode) (b := held L who x.node) hxo.mode hm (held_ok hLo who x.node)
            refine this ?_
            have hc : join mode (held L who x.node) = join (held L who x.node) mode := by unfold join; rw [Int.min_comm, Int.max_comm]
            rw [hc]
            exact hb'
        · intro e
          exact absurd (e.symm.trans h2) hxn
      · exact hf'.1 y h

theorem grant_valid {l : List Lk} {who node mode : Int} (hl : validT l = true) (ha : askOk who node mode = true) (hb : blockers l who node mode = []) : validT (grant l who node mode) = true := by
  rw [validT_iff] at hl
  rw [askOk_iff] at ha
  have hfit : fitAll (grant l who node mode) := grant_fit ha.mode l hl.2.2 hl.2.1 hb l (List.Sublist.refl l) (fun _ _ _ _ => trivial) hl.2.2
  have hok := grant_ok hl.2.1 ha
  rw [validT_iff]
  refine ⟨?_, hok, hfit⟩
  -- each place (who, node) at most once
  have hn : ((grant l who node mode).map fun x => x.who * 12 + x.node).Nodup := by
    rw [List.Nodup, List.pairwise_map]
    refine List.Pairwise.imp_of_mem ?_ hfit
    intro x y hx hy hf e
    have h1 := hok x hx
    have h2 := hok y hy
    unfold okL at h1 h2
    have hnode : x.node = y.node := by omega
    have hwho : x.who = y.who := by omega
    exact (hf hnode.symm).1 hwho.symm
  have := length_le_of_sub _ ((List.range 48).map fun k : Nat => (k : Int)) hn (by
    intro v hv
    obtain ⟨x, hx, rfl⟩ := List.mem_map.1 hv
    have h1 := hok x hx
    unfold okL at h1
    refine List.mem_map.2 ⟨(x.who * 12 + x.node).toNat, ?_, by omega⟩
    rw [List.mem_range]
    omega)
  simpa using this

theorem takeLock_some {l m : List Lk} {who node mode : Int} : takeLock l who node mode = some m ↔ (validT l = true ∧ askOk who node mode = true ∧ blockers l who node mode = []) ∧ m = grant l who node mode := by
  unfold takeLock
  split
  · rename_i h
    simp only [Bool.and_eq_true, List.isEmpty_iff] at h
    constructor
    · intro e
      exact ⟨⟨h.1.1, h.1.2, h.2⟩, (Option.some.inj e).symm⟩
    · intro e
      rw [e.2]
  · rename_i h
    simp only [Bool.and_eq_true, List.isEmpty_iff] at h
    constructor
    · intro e; cases e
    · rintro ⟨⟨h1, h2, h3⟩, _⟩
      exact absurd ⟨⟨h1, h2⟩, h3⟩ h

/-- The table without the locks of a transaction. -/
def freeT (l : List Lk) (who : Int) : List Lk := l.filter fun x => decide (x.who ≠ who)
theorem freeT_valid {l : List Lk} (h : validT l = true) (who : Int) : validT (freeT l who) = true := validT_sub h List.filter_sublist
theorem freeT_freeT (l : List Lk) (who : Int) : freeT (freeT l who) who = freeT l who := by
  unfold freeT; rw [List.filter_filter]; congr 1; funext x; simp
theorem held_freeT {l : List Lk} (who t n : Int) : held (freeT l who) t n = if t = who then 0 else held l t n := by
  induction l with
  | nil => simp [freeT, held]
  | cons x r ih =>
    by_cases hx : x.who = who
    · have e : freeT (x :: r) who = freeT r who := by simp [freeT, hx]
      rw [e, ih]
      by_cases ht : t = who
      · simp [ht]
      · rw [if_neg ht, if_neg ht]
        have h2 : at_ t n x = false := by
          rw [Bool.eq_false_iff]; intro h'; exact ht ((at_iff.1 h').1.symm.trans hx)
        simp [held, h2]
    · have e : freeT (x :: r) who = x :: freeT r who := by simp [freeT, hx]
      rw [e]
      by_cases h2 : at_ t n x = true
      · have ht : t ≠ who := fun e => hx ((at_iff.1 h2).1.trans e)
        rw [if_neg ht]
        simp [held, h2]
      · have e1 : held (x :: freeT r who) t n = held (freeT r who) t n := by simp [held, h2]
        have e2 : held (x :: r) t n = held r t n := by simp [held, h2]
        rw [e1, e2, ih]

/-- All transactions freed: nothing is left. -/
theorem freeT_all {l : List Lk} (h : ∀ x ∈ l, okL x) : freeT (freeT (freeT (freeT l 0) 1) 2) 3 = [] := by
  rw [List.eq_nil_iff_forall_not_mem]
  intro x hx
  simp only [freeT, List.mem_filter, decide_eq_true_eq, ne_eq] at hx
  have := h x hx.1.1.1.1
  unfold okL at this
  omega

end Tl
