/- Contracts: valid accesses, takesPart, mustFollow. -/
import Derived.Test.YtfhofincbekadaaAcs
import Derived.Test.YtfhofincbekadaaLeaf
namespace Go.Proofs.Ytfhofincbekadaa
open Go.RowKit
open Tl (Ac okA validA validA_iff clash must takes clashes)

theorem take_okA {p : Ac → Prop} {l : List Ac} {k : Nat} {x : Ac} (hx : l[k]? = some x) (h : ∀ y ∈ l.take k, p y) (hp : p x) : ∀ y ∈ l.take (k + 1), p y := by
  intro y hy
  rw [take_succ_of hx] at hy
  rcases List.mem_append.1 hy with hy | hy
  · exact h y hy
  · simp at hy; subst hy; exact hp
theorem not_validA {xs : List Ac} {k : Nat} {x : Ac} (hx : xs[k]? = some x) (h : ¬ okA x) : validA xs = false := by
  rw [Bool.eq_false_iff]
  intro hv
  exact h ((validA_iff.1 hv).2 x (List.mem_of_getElem? hx))

theorem validAccesses_any (A : Option Addr) (c : Nat) (xs : List Ac) (w : World) (hn : xs.length ≤ 100000) (hr : Rd w w.heap.size 3 A xs.length (acs xs)) :
    Calls Try.prog 20 #[.slice A xs.length c] w (PBool w (validA xs)) := by
  by_cases h12 : xs.length ≤ 16
  · have h12' : (xs.length : Int) ≤ 16 := by omega
    go_enter Try.func20, Try.ntmps20
    go_wp2
    go_loopw [10] (fun i wr => ∃ k : Nat, k ≤ xs.length ∧ i = .int .i64 k ∧ (∀ x ∈ xs.take k, okA x) ∧ Below w.heap.size w wr) (fun i _ => xs.length - (intOf i).toNat)
    case atStart => exact ⟨0, Nat.zero_le _, rfl, by simp, Below.refl _ _⟩
    case round =>
      obtain ⟨k, hk, rfl, hm, hb⟩ := hrel
      by_cases hlt : k < xs.length
      · obtain ⟨b, off, x, rfl, _, hx, hc1, hc2, hc3⟩ := (hr.below hb).ac hlt
        clear hr
        have hb1 := hb.alloc (o := .cells #[.int .i64 x.who, .int .i64 x.node, .bool x.write] 30) hb.size
        go_wp2
        all_goals first
          | (go_ret
             have hq : ¬ okA x := by first | (unfold okA; omega) | (have hq2 : ¬ x.node ≤ 11 := by simpa using (by assumption : (!decide (x.node ≤ 11)) = true)); (unfold okA; omega)
             exact ⟨ret_bool (not_validA hx hq).symm, hb1⟩)
          | (go_roundw
             case rel =>
               have hq2 : x.node ≤ 11 := by simpa using (by assumption : (!decide (x.node ≤ 11)) = false)
               exact ⟨k + 1, by omega, by go_num, take_okA hx hm (by unfold okA; omega), hb1⟩
             case measure => simp [intOf]; omega)
      · go_wp2
        go_ret
        rw [take_all hlt] at hm
        exact ⟨ret_bool (validA_iff.2 ⟨h12, hm⟩).symm, hb⟩
  · have h12' : ¬ (xs.length : Int) ≤ 16 := by omega
    go_enter Try.func20, Try.ntmps20
    go_wp2
    go_ret
    exact ⟨ret_bool (by rw [eq_comm, Bool.eq_false_iff]; intro hv; exact h12 (validA_iff.1 hv).1), Below.refl _ _⟩

theorem svalidAccesses_any (A : Option Addr) (c : Nat) (xs : List Ac) (w : World) (hn : xs.length ≤ 100000) (hr : Rd w w.heap.size 3 A xs.length (acs xs)) :
    Calls Try.prog 40 #[.slice A xs.length c] w (PBool w (validA xs)) := by
  go_enter Try.func40, Try.ntmps40
  go_wp2
  go_loopw [3] (fun i wr => ∃ k : Nat, k ≤ xs.length ∧ i = .int .i64 k ∧ (∀ x ∈ xs.take k, okA x) ∧ Below w.heap.size w wr) (fun i _ => xs.length - (intOf i).toNat)
  case atStart => exact ⟨0, Nat.zero_le _, rfl, by simp, Below.refl _ _⟩
  case round =>
    obtain ⟨k, hk, rfl, hm, hb⟩ := hrel
    by_cases hlt : k < xs.length
    · obtain ⟨b, off, x, rfl, _, hx, hc1, hc2, hc3⟩ := (hr.below hb).ac hlt
      clear hr
      go_wp2
      all_goals first
        | (go_ret
           have hq : ¬ okA x := by first | (unfold okA; omega) | (have hq2 : ¬ x.node ≤ 11 := by simpa using (by assumption : (!decide (x.node ≤ 11)) = true)); (unfold okA; omega)
           exact ⟨ret_bool (not_validA hx hq).symm, hb⟩)
        | (go_roundw
           case rel =>
             have hq2 : x.node ≤ 11 := by simpa using (by assumption : (!decide (x.node ≤ 11)) = false)
             exact ⟨k + 1, by omega, by go_num, take_okA hx hm (by unfold okA; omega), hb⟩
           case measure => simp [intOf]; omega)
    · go_wp2
      go_ret
      rw [take_all hlt] at hm
      exact ⟨ret_bool (by rw [Bool.eq_iff_iff, validA_iff, decide_eq_true_eq]; exact ⟨fun h => ⟨by omega, hm⟩, fun h => by omega⟩), hb⟩

theorem takes_take {xs : List Ac} {t : Int} {k : Nat} (h : ¬ k < xs.length) : takes (xs.take k) t = takes xs t := by rw [take_all h]
theorem takesPart_any (A : Option Addr) (c : Nat) (xs : List Ac) (t : Int) (w : World) (hn : xs.length ≤ 100000) {B : Nat} (hr : Rd w B 3 A xs.length (acs xs)) :
    Calls Try.prog 52 #[.slice A xs.length c, .int .i64 t] w fun e w' => e = .returned (.bool (takes xs t)) ∧ w = w' := by
  go_enter Try.func52, Try.ntmps52
  go_wp2
  go_loop [5] (fun i => ∃ k : Nat, k ≤ xs.length ∧ i = .int .i64 k ∧ ∀ x ∈ xs.take k, x.who ≠ t) (fun i => xs.length - (intOf i).toNat)
  case atStart => exact ⟨0, Nat.zero_le _, rfl, by simp⟩
  case round =>
    obtain ⟨k, hk, rfl, hm⟩ := hrel
    by_cases hlt : k < xs.length
    · obtain ⟨b, off, x, rfl, _, hx, hc1, hc2, hc3⟩ := hr.ac hlt
      clear hr
      by_cases hq : x.who = t
      · have hq1 : (x.who == t) = true := by simp [hq]
        have HT : Hid (takes xs t = true) := Tl.takes_iff.2 ⟨x, List.mem_of_getElem? hx, hq⟩
        clear hq
        go_wp2
        go_ret
        exact ⟨ret_bool HT.out.symm, rfl⟩
      · have hq1 : (x.who == t) = false := by simp [hq]
        go_wp2
        go_round
        case rel => exact ⟨k + 1, by omega, by go_num, take_okA hx hm hq⟩
        case measure => simp [intOf]; omega
    · have HT : Hid (takes xs t = false) := by
        show _ = _
        rw [take_all hlt] at hm
        rw [Bool.eq_false_iff]
        intro h
        obtain ⟨x, hx, e⟩ := Tl.takes_iff.1 h
        exact hm x hx e
      clear hm
      go_wp2
      go_ret
      exact ⟨ret_bool HT.out.symm, rfl⟩
/-- No clash among the pairs of places before (i, k). -/
def NoC (xs : List Ac) (a b : Int) (i k : Nat) : Prop := ∀ (i' k' : Nat) (x y : Ac), i' < k' → (i' < i ∨ (i' = i ∧ k' < k)) → xs[i']? = some x → xs[k']? = some y → ¬ clash x y a b
theorem NoC.skip {xs : List Ac} {a b : Int} {i k : Nat} (h : NoC xs a b i k) {x y : Ac} (hx : xs[i]? = some x) (hy : xs[k]? = some y) (hn : ¬ clash x y a b) : NoC xs a b i (k + 1) := by
  intro i' k' x' y' h1 h2 hx' hy'
  by_cases e : i' = i ∧ k' = k
  · obtain ⟨rfl, rfl⟩ := e
    have e1 := Option.some.inj (hx.symm.trans hx')
    have e2 := Option.some.inj (hy.symm.trans hy')
    subst e1 e2
    exact hn
  · exact h i' k' x' y' h1 (by omega) hx' hy'
theorem NoC.next {xs : List Ac} {a b : Int} {i k : Nat} (h : NoC xs a b i k) (hk : ¬ k < xs.length) : NoC xs a b (i + 1) (i + 1 + 1) := by
  intro i' k' x y h1 h2 hx hy
  have hkl := (List.getElem?_eq_some_iff.1 hy).1
  by_cases e : i' < i + 1
  · exact h i' k' x y h1 (by omega) hx hy
  · omega
theorem NoC.all {xs : List Ac} {a b : Int} {i k : Nat} (h : NoC xs a b i k) (hi : ¬ i < xs.length) : must xs a b = false := by
  rw [Bool.eq_false_iff]
  intro hm
  obtain ⟨_, i', k', x, y, h1, hx, hy, hc⟩ := Tl.must_iff.1 hm
  have hil := (List.getElem?_eq_some_iff.1 hx).1
  exact h i' k' x y h1 (by omega) hx hy hc
theorem must_hit {xs : List Ac} {a b : Int} {i k : Nat} {x y : Ac} (h : i < k) (hx : xs[i]? = some x) (hy : xs[k]? = some y) (hc : clash x y a b) : must xs a b = decide (a ≠ b) := by
  rw [Bool.eq_iff_iff, Tl.must_iff, decide_eq_true_eq]
  exact ⟨fun h => h.1, fun hne => ⟨hne, i, k, x, y, h, hx, hy, hc⟩⟩

set_option maxRecDepth 100000 in
theorem mustFollow_any (A : Option Addr) (c : Nat) (xs : List Ac) (a bb : Int) (w : World) (hn : xs.length ≤ 100000) (hr : Rd w w.heap.size 3 A xs.length (acs xs)) :
    Calls Try.prog 41 #[.slice A xs.length c, .int .i64 a, .int .i64 bb] w (PBool w (must xs a bb)) := by
  go_enter Try.func41, Try.ntmps41
  go_wp2
  go_loopg [7] xs.length (fun gk iv wr => ∃ i : Nat, i ≤ xs.length ∧ gk = xs.length - i ∧ iv = .int .i64 i ∧ Hid (NoC xs a bb i (i + 1)) ∧ Below w.heap.size w wr)
  case atStart => exact ⟨0, Nat.zero_le _, rfl, rfl, (fun i' k' x y h1 h2 => by omega), Below.refl _ _⟩
  case round =>
    obtain ⟨i, hi, rfl, rfl, HN, hb⟩ := hrel
    by_cases hlt : i < xs.length
    · have hd : decide ((i : Int) < (xs.length : Int)) = true := by simp; omega
      go_wp2
      clear hd
      obtain ⟨wo, rfl⟩ : ∃ wo : World, wo = wr := ⟨_, rfl⟩
      go_loopg [8] (xs.length - (i + 1)) (fun gk kv wr => ∃ k : Nat, i < k ∧ k ≤ xs.length ∧ gk = xs.length - k ∧ kv = .int .i64 k ∧ Hid (NoC xs a bb i k) ∧ Below w.heap.size w wr)
      case atStart => exact ⟨i + 1, by omega, by omega, rfl, by go_num, HN, hb⟩
      case round =>
        clear HN hb
        obtain ⟨k, hik, hk, rfl, rfl, HN, hb⟩ := hrel
        by_cases hlk : k < xs.length
        · obtain ⟨b1, off1, x, rfl, _, hxi, hx1, hx2, hx3⟩ := (hr.below hb).ac hlt
          obtain ⟨b2, off2, y, hA, _, hxk, hy1, hy2, hy3⟩ := (hr.below hb).ac hlk
          injection hA with hA
          injection hA with e1 e2
          subst e1 e2
          clear hr
          by_cases hw : x.who = a
          · have hw1 : (x.who == a) = true := by simp [hw]
            by_cases hw2 : y.who = bb
            · have hw3 : (y.who == bb) = true := by simp [hw2]
              by_cases hnode : x.node = y.node
              · have hn1 : (x.node == y.node) = true := by simp [hnode]
                cases HXW : x.write
                · rw [HXW] at hx3
                  cases HYW : y.write
                  · rw [HYW] at hy3
                    have HS : Hid (NoC xs a bb i (k + 1)) := HN.out.skip hxi hxk (by unfold clash; simp [HXW, HYW])
                    clear hw hw2 hnode HXW HYW HN
                    go_wp2
                    go_quiet (fail)
                    go_wp2
                    go_roundg (xs.length - (k + 1))
                    case measure => omega
                    case rel => exact ⟨k + 1, by omega, by omega, rfl, by go_num, HS, below_drewN hb _⟩
                  · rw [HYW] at hy3
                    have HT : Hid (must xs a bb = (a != bb)) := by
                      show _ = _
                      rw [must_hit hik hxi hxk (by unfold clash; exact ⟨hw, hw2, hnode, by simp [HXW, HYW]⟩)]
                      rw [Bool.eq_iff_iff]; simp
                    clear hw hw2 hnode HXW HYW HN
                    go_wp2
                    go_quiet (fail)
                    go_wp2
                    go_ret
                    exact ⟨ret_bool (by rw [HT.out]), below_drewN hb _⟩
                · rw [HXW] at hx3
                  have HT : Hid (must xs a bb = (a != bb)) := by
                    show _ = _
                    rw [must_hit hik hxi hxk (by unfold clash; exact ⟨hw, hw2, hnode, by simp [HXW]⟩)]
                    rw [Bool.eq_iff_iff]; simp
                  clear hw hw2 hnode HXW HN
                  go_wp2
                  go_quiet (fail)
                  go_wp2
                  go_ret
                  exact ⟨ret_bool (by rw [HT.out]), below_drewN hb _⟩
              · have hn1 : (x.node == y.node) = false := by simp [hnode]
                have HS : Hid (NoC xs a bb i (k + 1)) := HN.out.skip hxi hxk (by unfold clash; simp [hnode])
                clear hw hw2 hnode HN
                go_wp2
                go_quiet (fail)
                go_wp2
                go_roundg (xs.length - (k + 1))
                case measure => omega
                case rel => exact ⟨k + 1, by omega, by omega, rfl, by go_num, HS, below_drewN hb _⟩
            · have hw3 : (y.who == bb) = false := by simp [hw2]
              have HS : Hid (NoC xs a bb i (k + 1)) := HN.out.skip hxi hxk (by unfold clash; simp [hw2])
              clear hw hw2 HN
              go_wp2
              go_quiet (fail)
              go_wp2
              go_roundg (xs.length - (k + 1))
              case measure => omega
              case rel => exact ⟨k + 1, by omega, by omega, rfl, by go_num, HS, below_drewN hb _⟩
          · have hw1 : (x.who == a) = false := by simp [hw]
            have HS : Hid (NoC xs a bb i (k + 1)) := HN.out.skip hxi hxk (by unfold clash; simp [hw])
            clear hw HN
            go_wp2
            go_quiet (fail)
            go_wp2
            go_roundg (xs.length - (k + 1))
            case measure => omega
            case rel => exact ⟨k + 1, by omega, by omega, rfl, by go_num, HS, below_drewN hb _⟩
        · go_wp2
          go_roundg (xs.length - (i + 1))
          case measure => omega
          case rel => exact ⟨i + 1, by omega, rfl, by go_num, HN.out.next hlk, hb⟩
    · have HT := Lib.hid (HN.out.all hlt)
      go_wp2
      go_ret
      exact ⟨ret_bool (by rw [HT.out]), hb⟩
end Go.Proofs.Ytfhofincbekadaa
