/- Contracts: impl.AsksOf. -/
import Derived.Test.YthkkbcbbinojlaaDoorTabE
import Derived.Test.YthkkbcbbinojlaaDoorWts
import Derived.Test.YthkkbcbbinojlaaDoorPAsks
import Derived.Test.YthkkbcbbinojlaaDoorOwn2
namespace Go.Proofs.YthkkbcbbinojlaaDoor
open Go.RowKit
set_option maxRecDepth 100000
open Tl (Lk Wt okM okL validT validT_iff askOk asksOf asksOk asksW asksW_snoc lockBlockers blockers)

theorem ap_base2 {w : World} {base : Nat} {e : TypeId} {sz n : Nat} {u v0 : Value} {xs : List Value} (h : w.ownsRow base e sz u n xs) (hk : ∀ k, v0.ownBlock = some k → k < base) : Ap v0 u := by
  cases hv : v0.ownBlock with
  | none => exact .inl hv
  | some k =>
    cases hu : u.ownBlock with
    | none => exact .inr (.inl hu)
    | some k2 =>
      have h1 := (h.lt k2 hu).1
      have h2 := hk k hv
      refine .inr (.inr ?_)
      rw [hv, hu]
      intro e
      have : k = k2 := Option.some.inj e
      omega

/-- A new block of one element. -/
theorem own_litn (w : World) (e : TypeId) (us : List Value) (sz : Nat) (h : us.length = sz) {base : Nat} (hb : base ≤ w.heap.size) : (w.alloc (.cells us.toArray e)).ownsRow base e sz (.slice (some ⟨w.heap.size, 0, none⟩) 1 1) 1 us :=
  ⟨by rw [h, Nat.one_mul], .inr ⟨w.heap.size, 1, us.toArray, rfl, hb, heap_alloc_new w _, Nat.le_refl _, by unfold maxLen; omega, by simp [h], by simp [← h]⟩⟩
/-- The asks so far. -/
def AskSt (qs : List Lk) (k : Nat) : Prop := (∀ a ∈ qs.take k, askOk a.who a.node a.mode = true) ∧ ((qs.take k).map Lk.who).Nodup
theorem askSt_zero (qs : List Lk) : AskSt qs 0 := by simp [AskSt]
theorem asksOf_bad {ls qs : List Lk} {k : Nat} {x : Lk} (hx : qs[k]? = some x) (h : askOk x.who x.node x.mode = false) : asksOf ls qs = none := by
  unfold asksOf
  rw [if_neg]
  intro h2
  have h3 := (Tl.asksOk_iff.1 h2).2.1 x (List.mem_of_getElem? hx)
  rw [h] at h3; cases h3
theorem take_succ_at {α : Type} {l : List α} {k : Nat} {x : α} (hx : l[k]? = some x) : l.take (k + 1) = l.take k ++ [x] := by
  rw [List.take_add_one, hx]; rfl
theorem asksOf_dup {ls qs : List Lk} {k : Nat} {x : Lk} (hx : qs[k]? = some x) (h : x.who ∈ (qs.take k).map Lk.who) : asksOf ls qs = none := by
  unfold asksOf
  rw [if_neg]
  intro h2
  have h3 := (Tl.asksOk_iff.1 h2).2.2
  have h4 : (((qs.take (k + 1))).map Lk.who).Nodup := h3.sublist ((List.take_sublist _ _).map _)
  rw [take_succ_at hx, List.map_append, List.nodup_append] at h4
  exact h4.2.2 _ h _ (by simp) rfl
theorem AskSt.succ {qs : List Lk} {k : Nat} {x : Lk} (h : AskSt qs k) (hx : qs[k]? = some x) (h1 : askOk x.who x.node x.mode = true) (h2 : x.who ∉ (qs.take k).map Lk.who) : AskSt qs (k + 1) := by
  unfold AskSt
  rw [take_succ_at hx]
  refine ⟨?_, ?_⟩
  · intro a ha
    rcases List.mem_append.1 ha with h3 | h3
    · exact h.1 a h3
    · obtain rfl : a = x := by simpa using h3
      exact h1
  · rw [List.map_append, List.nodup_append]
    refine ⟨h.2, by simp, ?_⟩
    intro a ha b hb e
    obtain rfl : b = x.who := by simpa using hb
    exact h2 (e ▸ ha)
theorem AskSt.len {ls qs : List Lk} {k : Nat} (h : AskSt qs k) : (asksW ls (qs.take k)).length ≤ 12 := Tl.asksW_length h.1 h.2
theorem AskSt.full {ls qs : List Lk} {k : Nat} (hv : validT ls = true) (h : AskSt qs k) (hk : qs.length ≤ k) : asksOf ls qs = some (asksW ls qs) ∧ qs.take k = qs := by
  have e : qs.take k = qs := List.take_of_length_le hk
  unfold AskSt at h
  rw [e] at h
  refine ⟨?_, e⟩
  unfold asksOf
  rw [if_pos (Tl.asksOk_iff.2 ⟨hv, h.1, h.2⟩)]
theorem asksOf_not {ls qs : List Lk} (hv : validT ls = false) : asksOf ls qs = none := by simp [asksOf, asksOk, hv]
theorem lockBlockers_eq {ls : List Lk} {who node mode : Int} (hv : validT ls = true) (h : askOk who node mode = true) : lockBlockers ls who node mode = blockers ls who node mode := by simp [lockBlockers, hv, h]
/-- The waits of an ask, the first of them. -/
def wrow (acc : List Wt) (bs : List Int) (who : Int) (j : Nat) : List Wt := acc ++ (bs.take j).map fun t => (⟨who, t⟩ : Wt)
theorem wrow_succ {acc : List Wt} {bs : List Int} {who z : Int} {j : Nat} (h : bs[j]? = some z) : wrow acc bs who (j + 1) = wrow acc bs who j ++ [⟨who, z⟩] := by
  unfold wrow
  rw [take_succ_at h, List.map_append, List.append_assoc]; rfl
theorem wrow_zero (acc : List Wt) (bs : List Int) (who : Int) : wrow acc bs who 0 = acc := by simp [wrow]
theorem wrow_full {ls qs : List Lk} {k j : Nat} {x : Lk} (hx : qs[k]? = some x) (hv : validT ls = true) (h : askOk x.who x.node x.mode = true) (hj : (lockBlockers ls x.who x.node x.mode).length ≤ j) :
    wrow (asksW ls (qs.take k)) (lockBlockers ls x.who x.node x.mode) x.who j = asksW ls (qs.take (k + 1)) := by
  unfold wrow
  rw [List.take_of_length_le hj, asksW_snoc hx, lockBlockers_eq hv h]
theorem wrow_len (acc : List Wt) (bs : List Int) (who : Int) (j : Nat) : (wrow acc bs who j).length ≤ acc.length + bs.length := by
  unfold wrow
  rw [List.length_append, List.length_map, List.length_take]
  omega
/-- The marks of those that ask. -/
def marks (qs : List Lk) (k : Nat) : List Value := (List.range 4).map fun (j : Nat) => .bool (decide ((j : Int) ∈ (qs.take k).map Lk.who))
theorem marks_zero (qs : List Lk) : marks qs 0 = [.bool false, .bool false, .bool false, .bool false] := by simp [marks, List.range_succ]
theorem marks_get (qs : List Lk) (k : Nat) {j : Nat} (hj : j < 4) : (marks qs k)[j]? = some (.bool (decide ((j : Int) ∈ (qs.take k).map Lk.who))) := by
  unfold marks
  rw [List.getElem?_map, List.getElem?_range hj]; rfl
theorem marks_succ {qs : List Lk} {k j : Nat} {x : Lk} (hx : qs[k]? = some x) (hj : x.who = j) : (marks qs k).set j (.bool true) = marks qs (k + 1) := by
  apply List.ext_getElem?
  intro i
  rw [List.getElem?_set]
  have hl : (marks qs k).length = 4 := by simp [marks]
  have hl2 : (marks qs (k + 1)).length = 4 := by simp [marks]
  by_cases hi : i < 4
  · rw [marks_get qs (k + 1) hi, take_succ_at hx, List.map_append]
    by_cases e : j = i
    · subst e
      rw [if_pos rfl, if_pos (by omega)]
      simp [hj]
    · rw [if_neg e, marks_get qs k hi]
      have hne : ¬ (i : Int) = x.who := by rw [hj]; omega
      simp [hne]
  · rw [List.getElem?_eq_none (by omega : (marks qs (k + 1)).length ≤ i)]
    split
    · rename_i e
      rw [if_neg (by omega)]
    · rw [List.getElem?_eq_none (by omega)]

theorem own_cell {w : World} {base : Nat} {e : TypeId} {sz n c g j : Nat} {xs : List Value} {u : Value} (h : w.ownsRow base e sz (.slice (some ⟨g, 0, none⟩) n c) n xs) (hj : xs[j]? = some u) : w.cell? ⟨g, j, none⟩ = some u := by
  obtain ⟨b, off, e1, _, h1⟩ := (Rd.of_own h).2 j u hj
  injection e1 with e1
  injection e1 with e2 e3
  subst e2 e3
  rw [Nat.zero_add] at h1
  exact h1
def PAskR (w : World) (r : Option (List Wt)) (e : Ending) (w' : World) : Prop :=
  ∃ A c, e = .returned (.tuple #[.slice A (r.getD []).length c, .bool r.isSome]) ∧ w'.ownsRow w.heap.size 38 2 (.slice A (r.getD []).length c) (r.getD []).length (wts (r.getD [])) ∧ Below w.heap.size w w'
theorem PAskR.none_ {w w' : World} (hb : Below w.heap.size w w') : PAskR w none (.returned (.tuple #[.slice none 0 0, .bool false])) w' := ⟨none, 0, rfl, World.ownsRow_nil _ _ _ _, hb⟩
theorem PAskR.some_ {w w' : World} {m : List Wt} {A : Option Addr} {c n : Nat} (hn : n = m.length) (ho : w'.ownsRow w.heap.size 38 2 (.slice A n c) n (wts m)) (hb : Below w.heap.size w w') : PAskR w (some m) (.returned (.tuple #[.slice A n c, .bool true])) w' := by
  subst hn
  exact ⟨A, c, rfl, ho, hb⟩

set_option maxHeartbeats 2000000 in
theorem asksOf_any (A : Option Addr) (c : Nat) (ls : List Lk) (A' : Option Addr) (c' : Nat) (qs : List Lk) (w : World) (hn : ls.length ≤ 100000) (hcap : ls.length ≤ c) (hn' : qs.length ≤ 100000) (hT : TabT w) (hJ : TabJ w)
    (hr : Rd w w.heap.size 3 A ls.length (lks ls)) (hr' : Rd w w.heap.size 3 A' qs.length (lks qs)) :
    Calls Tryd.prog 10 #[.slice A ls.length c, .slice A' qs.length c'] w (PAskR w (asksOf ls qs)) := by
  go_enter Tryd.func10, Tryd.ntmps10
  go_wp2_with fail
  refine (validTable_any A c ls _ hn hcap hT hr).mono ?_
  rintro e w1 ⟨rfl, hb1⟩
  cases hv : validT ls
  · have HE : Hid (asksOf ls qs = none) := asksOf_not hv
    clear hv
    go_wp2
    refine bodyPost_ret (v := .tuple #[.slice none 0 0, .bool false]) (by simp [results, Tryd.results10, go_sem]) rfl ?_
    rw [HE.out]
    exact PAskR.none_ hb1
  · have HV := Lib.hid hv
    have hT1 := hT.step hb1
    have hJ1 := hJ.step hb1
    have hr1 := hr.step hb1
    have hq1 := hr'.step hb1
    clear hv hT hJ hr hr'
    obtain ⟨D, hD⟩ : ∃ D, w1.heap.size = D := ⟨_, rfl⟩
    rw [hD] at hr1 hq1
    have hDl : D ≤ w1.heap.size := by omega
    have hDg : w1.heap.size ≤ D := by omega
    have hmk0 := own_litn w1 49 [.bool false, .bool false, .bool false, .bool false] 4 rfl (base := D) hDl
    rw [hD] at hmk0
    have hb0 := (Below.refl D w1).alloc hDl (.cells #[.bool false, .bool false, .bool false, .bool false] 49)
    rw [← marks_zero qs] at hmk0
    go_wp2
    go_loopg [7, 17] qs.length (fun gk lv iv wr => ∃ (k : Nat) (A2 : Option Addr) (c2 : Nat), gk = qs.length - k ∧ k ≤ qs.length ∧ lv = .slice A2 (asksW ls (qs.take k)).length c2 ∧ iv = .int .i64 k ∧ Hid (AskSt qs k) ∧
      wr.ownsRow (D + 1) 38 2 (.slice A2 (asksW ls (qs.take k)).length c2) (asksW ls (qs.take k)).length (wts (asksW ls (qs.take k))) ∧ wr.ownsRow D 49 4 (.slice (some ⟨D, 0, none⟩) 1 1) 1 (marks qs k) ∧ Below D w1 wr)
    case atStart => exact ⟨0, none, 0, rfl, by omega, rfl, rfl, askSt_zero qs, World.ownsRow_nil _ _ _ _, hmk0, hb0⟩
    case round =>
      clear hmk0 hb0 hD
      obtain ⟨k, A2, c2, rfl, hk, rfl, rfl, HST, hown, hmk, hb⟩ := hrel
      have hlw := HST.out.len (ls := ls)
      have hDs : D < wr.heap.size := (hmk.lt D rfl).2
      have hap : Ap (.slice (some ⟨D, 0, none⟩) 1 1) (.slice A2 (asksW ls (qs.take k)).length c2) := ap_base2 hown (fun k hk => by
        have : k = D := (Option.some.inj hk).symm
        omega)
      by_cases hlt : k < qs.length
      · obtain ⟨b, off, x, rfl, hbl, hx, hc1, hc2, hc3⟩ := (hq1.below hb).lk hlt
        cases haok : askOk x.who x.node x.mode
        · have HE : Hid (asksOf ls qs = none) := asksOf_bad hx haok
          have hb9 := below_then hb1 ((hb.mono hDg).alloc (by have := hb.size; omega) (.cells #[.int .i64 x.who, .int .i64 x.node, .int .i64 x.mode] 36)) hb1.size
          have HAO := Lib.hid haok
          clear hx haok hown hmk hap
          go_wp2_with fail
          refine (isAsk_any x.who x.node x.mode _).mono ?_
          rintro e w4 ⟨rfl, rfl⟩
          rw [HAO.out]
          go_wp2
          refine bodyPost_ret (v := .tuple #[.slice none 0 0, .bool false]) (by simp [results, Tryd.results10, go_sem]) rfl ?_
          rw [HE.out]
          exact PAskR.none_ hb9
        · obtain ⟨j, hj, hj4⟩ : ∃ j : Nat, x.who = j ∧ j < 4 := by
            have h := Tl.askOk_iff.1 haok
            unfold okL at h
            simp only at h
            exact ⟨x.who.toNat, by omega, by omega⟩
          have hc1' := hc1
          rw [hj] at hc1' haok
          have HX := Lib.hid hx
          have HAO := Lib.hid haok
          have HJ := Lib.hid hj
          obtain ⟨g, hg⟩ : ∃ g, wr.heap.size = g := ⟨_, rfl⟩
          have hgD : D < g := by omega
          have hask := own_litn wr 36 [.int .i64 (j : Int), .int .i64 x.node, .int .i64 x.mode] 3 rfl (base := g) (by omega)
          have hown4 := hown.alloc (.cells #[.int .i64 (j : Int), .int .i64 x.node, .int .i64 x.mode] 36)
          have hmk4 := hmk.alloc (.cells #[.int .i64 (j : Int), .int .i64 x.node, .int .i64 x.mode] 36)
          have hb4 := hb.alloc (Nat.le_of_lt hDs) (.cells #[.int .i64 (j : Int), .int .i64 x.node, .int .i64 x.mode] 36)
          have hap2 : Ap (.slice (some ⟨D, 0, none⟩) 1 1) (.slice (some ⟨g, 0, none⟩) 1 1) := .inr (.inr (fun e => by
            have : D = g := Option.some.inj e
            omega))
          have hap3 : Ap (.slice A2 (asksW ls (qs.take k)).length c2) (.slice (some ⟨g, 0, none⟩) 1 1) := by
            cases hu : (Value.slice A2 (asksW ls (qs.take k)).length c2).ownBlock with
            | none => exact .inl hu
            | some k2 =>
              have h1 := (hown.lt k2 hu).2
              refine .inr (.inr ?_)
              rw [hu]
              intro e
              have : k2 = g := Option.some.inj e
              omega
          rw [hg] at hask
          clear hx haok hown hmk hb hj hc1
          go_wp2_with fail
          refine (isAsk_any (j : Int) x.node x.mode _).mono ?_
          rintro e w4 ⟨rfl, hw4⟩
          rw [HAO.out]
          rw [hw4] at hask hown4 hmk4 hb4
          have hq0 := own_cell hask (j := 0) rfl
          have hq1 := own_cell hask (j := 1) rfl
          have hq2 := own_cell hask (j := 2) rfl
          have hcm4 := own_cell hmk4 (marks_get qs k hj4)
          have hbD : Below w1.heap.size w1 w4 := hb4.mono hDg
          have hj0 : (0 : Int) ≤ (j : Int) := by omega
          have hj5 : (j : Int) < 4 := by omega
          have hs4 := (hmk4.lt D rfl).2
          clear hw4 hg hc1' hc2 hc3
          by_cases hmem : (j : Int) ∈ (qs.take k).map Lk.who
          · have HE : Hid (asksOf ls qs = none) := asksOf_dup HX.out (by rw [HJ.out]; exact hmem)
            have hb9 := below_then hb1 hbD hb1.size
            rw [decide_eq_true hmem] at hcm4
            clear hmem hask hown4 hmk4 hb4 hbD hap hap2 hap3
            go_wp2
            refine bodyPost_ret (v := .tuple #[.slice none 0 0, .bool false]) (by simp [results, Tryd.results10, go_sem]) rfl ?_
            rw [HE.out]
            exact PAskR.none_ hb9
          · have HST2 := Lib.hid (HST.out.succ HX.out (by rw [HJ.out]; exact HAO.out) (by rw [HJ.out]; exact hmem))
            rw [decide_eq_false hmem] at hcm4
            have hfz := own_frozen hmk4 j
            have hb5 := hb4.setCell (p := ⟨D, j, none⟩) (Nat.le_refl D) (.bool true)
            have hown5 := Ap.kept hap (grown_setCell' w4 ⟨D, j, none⟩ (.bool true)) hown4
            have hask5 := Ap.kept hap2 (grown_setCell' w4 ⟨D, j, none⟩ (.bool true)) hask
            have hmk5 := own_set hmk4 (j := j) (.bool true)
            rw [marks_succ HX.out HJ.out] at hmk5
            obtain ⟨w5, hw5⟩ : ∃ w5, w4.setCell ⟨D, j, none⟩ (.bool true) = w5 := ⟨_, rfl⟩
            rw [hw5] at hb5 hown5 hask5 hmk5
            have hp0 := own_cell hask5 (j := 0) rfl
            have hp1 := own_cell hask5 (j := 1) rfl
            have hp2 := own_cell hask5 (j := 2) rfl
            have hs5 := (hmk5.lt D rfl).2
            have hT5 := hT1.below hb5 hDg
            have hJ5 := hJ1.below hb5 hDg
            have hr5 := (hr1.below hb5).more (Nat.le_of_lt hs5)
            clear hmem hask hown4 hmk4 hb4 hbD hap2
            go_wp2_with fail
            refine (lockBlockers_any A c ls (j : Int) x.node x.mode _ hn hcap hT5 hJ5 hr5).mono ?_
            rintro e w6 ⟨A6, c6, rfl, ho6, hb6⟩
            have hbl6 := lockBlockers_len ls (j : Int) x.node x.mode
            have HWF := Lib.hid (wrow_full HX.out HV.out (by rw [HJ.out]; exact HAO.out) (Nat.le_refl _))
            rw [HJ.out] at HWF
            obtain ⟨bs, hbs⟩ : ∃ bs, lockBlockers ls (j : Int) x.node x.mode = bs := ⟨_, rfl⟩
            rw [hbs] at ho6 hbl6 HWF ⊢
            have hapl : Ap (.slice A2 (asksW ls (qs.take k)).length c2) (.slice A6 bs.length c6) := ap_base2 ho6 (fun k hk => (hown5.lt k hk).2)
            have hown6 := own_below hown5 hb6 (Nat.le_refl _)
            have hask6 := own_below hask5 hb6 (Nat.le_refl _)
            have hmk6 := own_below hmk5 hb6 (Nat.le_refl _)
            have hb7 := hb5.trans (hb6.mono (Nat.le_of_lt hs5))
            have hapm := hap.symm
            obtain ⟨acc, hacc⟩ : ∃ acc, asksW ls (qs.take k) = acc := ⟨_, rfl⟩
            rw [hacc] at hlw hap3 hapl hapm hown6 HWF ⊢
            have hw0 := wrow_zero acc bs (j : Int)
            clear hw5 hfz hcm4 hq0 hq1 hq2 hp0 hp1 hp2 hown5 hask5 hmk5 hb5 hb6 hT5 hJ5 hr5 hap hacc hbs
            go_wp2
            go_loopg [7, 47] bs.length (fun gk2 lv2 iv2 wr2 => ∃ (i : Nat) (A3 : Option Addr) (c3 : Nat), gk2 = bs.length - i ∧ i ≤ bs.length ∧ lv2 = .slice A3 (wrow acc bs (j : Int) i).length c3 ∧ iv2 = .int .i64 i ∧
              wr2.ownsRow (D + 1) 38 2 (.slice A3 (wrow acc bs (j : Int) i).length c3) (wrow acc bs (j : Int) i).length (wts (wrow acc bs (j : Int) i)) ∧ wr2.ownsRow D 49 4 (.slice (some ⟨D, 0, none⟩) 1 1) 1 (marks qs (k + 1)) ∧
              wr2.ownsRow g 36 3 (.slice (some ⟨g, 0, none⟩) 1 1) 1 [.int .i64 (j : Int), .int .i64 x.node, .int .i64 x.mode] ∧ wr2.ownsRow w5.heap.size 3 1 (.slice A6 bs.length c6) bs.length (ints bs) ∧
              Ap (.slice A3 (wrow acc bs (j : Int) i).length c3) (.slice (some ⟨g, 0, none⟩) 1 1) ∧ Ap (.slice A3 (wrow acc bs (j : Int) i).length c3) (.slice A6 bs.length c6) ∧ Ap (.slice A3 (wrow acc bs (j : Int) i).length c3) (.slice (some ⟨D, 0, none⟩) 1 1) ∧ Below D w1 wr2)
            case atStart => exact ⟨0, A2, c2, rfl, by omega, by rw [hw0], rfl, by rw [hw0]; exact hown6, hmk6, hask6, ho6, by rw [hw0]; exact hap3, by rw [hw0]; exact hapl, by rw [hw0]; exact hapm, hb7⟩
            case round =>
              clear hown6 hmk6 hask6 ho6 hap3 hapl hapm hb7 hw0
              obtain ⟨i, A3, c3, rfl, hi, rfl, rfl, ho, hm, ha, hl, ap1, ap2, ap3, hbw⟩ := hrel
              have hwl := wrow_len acc bs (j : Int) i
              have hsw := (hm.lt D rfl).2
              by_cases hli : i < bs.length
              · obtain ⟨b6, off6, z, rfl, hb6l, hz, hcz⟩ := (Rd.of_own hl).int hli
                have HZ := Lib.hid (wrow_succ (acc := acc) (who := (j : Int)) hz)
                have hp0 := own_cell ha (j := 0) rfl
                clear hz
                go_wp2_with (at_builtin; refine wpList_push_wt (y1 := (j : Int)) (y2 := z) rfl _ _ rfl rfl ho rfl rfl (by omega) (by omega) ?_; intro A4 c4 w7 ho7 hb8 hk7)
                have k1 := hk7 hm ap3
                have k2 := hk7 ha ap1
                have k3 := hk7 hl ap2
                have hb9 := hbw.trans (hb8.mono (Nat.le_succ D))
                have hle : (wrow acc bs (j : Int) i).length + 1 = (wrow acc bs (j : Int) (i + 1)).length := by rw [HZ.out, List.length_append]; rfl
                rw [← HZ.out, hle] at ho7
                rw [hle] at k1 k2 k3 ⊢
                clear hk7 ho hm ha hl ap1 ap2 ap3 hbw hb8 hcz hp0 hle
                go_wp2
                go_roundg (bs.length - (i + 1))
                case measure => omega
                case rel => exact ⟨i + 1, A4, c4, rfl, by omega, rfl, by go_num, ho7, k1.1, k2.1, k3.1, k2.2, k3.2, k1.2, hb9⟩
              · obtain rfl : i = bs.length := by omega
                rw [HWF.out] at ho ⊢
                clear ha hl ap1 ap2 ap3
                go_wp2
                go_roundg (qs.length - (k + 1))
                case measure => omega
                case rel => exact ⟨k + 1, A3, c3, rfl, by omega, rfl, by go_num, HST2, ho, hm, hbw⟩
      · have hf := HST.out.full HV.out (by omega : qs.length ≤ k)
        have HE := Lib.hid hf.1
        rw [hf.2] at hown hlw ⊢
        have hb9 := below_then hb1 (hb.mono hDg) hb1.size
        have hown9 := own_base hown (base' := w.heap.size) (by have := hb1.size; omega)
        clear hf hown hmk hb hap
        go_wp2
        refine bodyPost_ret (v := .tuple #[.slice A2 (asksW ls qs).length c2, .bool true]) (by simp [results, Tryd.results10, go_sem]) rfl ?_
        rw [HE.out]
        exact PAskR.some_ rfl hown9 hb9
end Go.Proofs.YthkkbcbbinojlaaDoor
