import Derived.Test.YtfhofincbekadaaPSerial
/- Plain facts: accesses sorted by transactions. No program here. -/
namespace Tl

theorem mem_T4take {m : Nat} (hm : m ≤ 4) {t : Int} : t ∈ T4.take m ↔ 0 ≤ t ∧ t < m := by
  have : m = 0 ∨ m = 1 ∨ m = 2 ∨ m = 3 ∨ m = 4 := by omega
  rcases this with rfl | rfl | rfl | rfl | rfl <;> simp [T4] <;> omega
def upTo (h : List Ac) (m : Nat) : List Int := (T4.take m).filter (takes h)
theorem mem_upTo {h : List Ac} {m : Nat} (hm : m ≤ 4) {t : Int} : t ∈ upTo h m ↔ (0 ≤ t ∧ t < m) ∧ takes h t = true := by
  unfold upTo; rw [List.mem_filter, mem_T4take hm]
theorem T4_split {m : Nat} (hm : m < 4) : T4 = T4.take m ++ (m : Int) :: T4.drop (m + 1) := by
  have : m = 0 ∨ m = 1 ∨ m = 2 ∨ m = 3 := by omega
  rcases this with rfl | rfl | rfl | rfl <;> rfl
theorem T4_take_next {m : Nat} (hm : m < 4) : T4.take (m + 1) = T4.take m ++ [(m : Int)] := by
  have : m = 0 ∨ m = 1 ∨ m = 2 ∨ m = 3 := by omega
  rcases this with rfl | rfl | rfl | rfl <;> rfl
theorem upTo_yes {h : List Ac} {m : Nat} (hm : m < 4) (ht : takes h m = true) : upTo h (m + 1) = upTo h m ++ [(m : Int)] := by
  unfold upTo; rw [T4_take_next hm, List.filter_append]; simp [ht]
theorem upTo_no {h : List Ac} {m : Nat} (hm : m < 4) (ht : takes h m = false) : upTo h (m + 1) = upTo h m := by
  unfold upTo; rw [T4_take_next hm, List.filter_append]; simp [ht]

theorem go_sorted {h : List Ac} (hs : ∀ a b, must h a b = true → a < b) (hp : ∀ t, takes h t = true → 0 ≤ t) : ∀ k m : Nat, m + k = 4 → ∀ n, k ≤ n → serialGo h n (upTo h m) = upTo h 4
  | 0, m, hk, n, _ => by
    have : m = 4 := by omega
    subst this
    have hf : T4.find? (free h (upTo h 4)) = none := by
      rw [List.find?_eq_none]
      intro t ht hf
      have h4 := mem_T4.1 ht
      exact (free_iff.1 hf).2.1 ((mem_upTo (Nat.le_refl 4)).2 ⟨by omega, (free_iff.1 hf).1⟩)
    cases n with
    | zero => rfl
    | succ n => unfold serialGo; rw [hf]
  | k + 1, m, hk, n, hn => by
    have hm : m < 4 := by omega
    cases ht : takes h (m : Int)
    · have := go_sorted hs hp k (m + 1) (by omega) n (by omega)
      rwa [upTo_no hm ht] at this
    · obtain ⟨n, rfl⟩ : ∃ q, n = q + 1 := ⟨n - 1, by omega⟩
      have hf : T4.find? (free h (upTo h m)) = some (m : Int) := by
        rw [T4_split hm, List.find?_append]
        have h1 : (T4.take m).find? (free h (upTo h m)) = none := by
          rw [List.find?_eq_none]
          intro t htm hf
          have h4 := (mem_T4take (by omega)).1 htm
          exact (free_iff.1 hf).2.1 ((mem_upTo (by omega)).2 ⟨h4, (free_iff.1 hf).1⟩)
        have h2 : free h (upTo h m) (m : Int) = true := by
          rw [free_iff]
          refine ⟨ht, fun hc => ?_, fun a ha => ?_⟩
          · have := (mem_upTo (by omega)).1 hc; omega
          · cases hq : must h a (m : Int)
            · exact .inr rfl
            · have := hs a m hq
              exact .inl ((mem_upTo (by omega)).2 ⟨⟨hp a (must_takes hq).1, this⟩, (must_takes hq).1⟩)
        rw [h1, List.find?_cons, h2]
        rfl
      unfold serialGo
      rw [hf]
      have := go_sorted hs hp k (m + 1) (by omega) n (by omega)
      rwa [upTo_yes hm ht] at this
theorem serial_sorted {h : List Ac} (hs : ∀ a b, must h a b = true → a < b) (hp : ∀ t, takes h t = true → 0 ≤ t) : serial h = upTo h 4 := go_sorted hs hp 4 0 rfl 4 (Nat.le_refl 4)

def sortA (h : List Ac) : List Ac := T4.flatMap fun t => h.filter fun x => decide (x.who = t)
theorem mem_sortA {h : List Ac} (hok : ∀ x ∈ h, okA x) {x : Ac} : x ∈ sortA h ↔ x ∈ h := by
  unfold sortA
  simp only [List.mem_flatMap, List.mem_filter, decide_eq_true_eq]
  constructor
  · rintro ⟨_, _, hx, _⟩; exact hx
  · intro hx
    have := hok x hx
    exact ⟨x.who, mem_T4.2 ⟨this.1, this.2.1⟩, hx, rfl⟩
theorem sortA_pair (h : List Ac) : (sortA h).Pairwise fun x y => x.who ≤ y.who := by
  unfold sortA
  simp only [T4, List.flatMap_cons, List.flatMap_nil, List.append_nil, List.pairwise_append]
  have hp : ∀ t : Int, (h.filter fun x => decide (x.who = t)).Pairwise fun x y => x.who ≤ y.who := by
    intro t
    rw [List.pairwise_iff_getElem]
    intro i j hi hj _
    have h1 := (List.mem_filter.1 (List.getElem_mem hi)).2
    have h2 := (List.mem_filter.1 (List.getElem_mem hj)).2
    simp at h1 h2
    omega
  refine ⟨hp 0, ⟨hp 1, ⟨hp 2, hp 3, ?_⟩, ?_⟩, ?_⟩
  all_goals
    intro a ha b hb
    simp only [List.mem_append, List.mem_filter, decide_eq_true_eq] at ha hb
    omega
theorem sortA_len {h : List Ac} : (sortA h).length ≤ h.length := by
  unfold sortA
  simp only [T4, List.flatMap_cons, List.flatMap_nil, List.append_nil, List.length_append]
  induction h with
  | nil => simp
  | cons x r ih =>
    have hx : ∀ t : Int, ((x :: r).filter fun x => decide (x.who = t)).length = (r.filter fun x => decide (x.who = t)).length + if x.who = t then 1 else 0 := by
      intro t
      by_cases e : x.who = t
      · rw [List.filter_cons_of_pos (by simpa using e), if_pos e]; rfl
      · rw [List.filter_cons_of_neg (by simpa using e), if_neg e]; rfl
    rw [hx, hx, hx, hx, List.length_cons]
    have : ((if x.who = 0 then 1 else 0) + (if x.who = 1 then 1 else 0) + (if x.who = 2 then 1 else 0) + (if x.who = 3 then 1 else 0) : Nat) ≤ 1 := by
      split <;> split <;> split <;> split <;> omega
    omega
theorem sortA_must {h : List Ac} {a b : Int} (hm : must (sortA h) a b = true) : a < b := by
  obtain ⟨hne, i, k, x, y, hik, hx, hy, hc⟩ := must_iff.1 hm
  unfold clash at hc
  have hp := List.pairwise_iff_getElem.1 (sortA_pair h)
  obtain ⟨hi, rfl⟩ := List.getElem?_eq_some_iff.1 hx
  obtain ⟨hk, rfl⟩ := List.getElem?_eq_some_iff.1 hy
  have := hp i k hi hk hik
  omega
theorem sortA_ok {h : List Ac} (hok : ∀ x ∈ h, okA x) : ∀ x ∈ sortA h, okA x := fun x hx => hok x ((mem_sortA hok).1 hx)
theorem sortA_valid {h : List Ac} (hv : validA h = true) : validA (sortA h) = true := by
  obtain ⟨hl, hok⟩ := validA_iff.1 hv
  exact validA_iff.2 ⟨Nat.le_trans sortA_len hl, sortA_ok hok⟩
theorem sortA_serial {h : List Ac} (hok : ∀ x ∈ h, okA x) : serial (sortA h) = upTo (sortA h) 4 :=
  serial_sorted (fun _ _ hm => sortA_must hm) fun t ht => by
    obtain ⟨x, hx, rfl⟩ := takes_iff.1 ht
    exact (sortA_ok hok x hx).1
theorem sortA_serialOk {h : List Ac} (hok : ∀ x ∈ h, okA x) : serialOk (sortA h) = true := by
  unfold serialOk
  rw [sortA_serial hok]
  refine (allDone_iff (sortA_ok hok)).2 fun t ht => (mem_upTo (Nat.le_refl 4)).2 ⟨?_, ht⟩
  have := mem_T4.1 (takes_T4 (sortA_ok hok) ht)
  omega
theorem upTo_up (h : List Ac) {i : Nat} {x y : Int} (hx : (upTo h 4)[i]? = some x) (hy : (upTo h 4)[i + 1]? = some y) : x < y := by
  have hp : (upTo h 4).Pairwise (· < ·) := List.Pairwise.filter _ (by decide)
  obtain ⟨hi, rfl⟩ := List.getElem?_eq_some_iff.1 hx
  obtain ⟨hk, rfl⟩ := List.getElem?_eq_some_iff.1 hy
  exact List.pairwise_iff_getElem.1 hp i (i + 1) hi hk (by omega)
end Tl
