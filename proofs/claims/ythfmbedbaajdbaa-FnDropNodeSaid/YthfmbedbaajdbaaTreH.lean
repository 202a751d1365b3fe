/- Contracts: DropNode, of both packages. -/
import Derived.Test.YthfmbedbaajdbaaTreG
import Derived.Test.YthfmbedbaajdbaaPTree3
namespace Go.Proofs.Ythfmbedbaajdbaa
open Go.RowKit
open Tl (Nd nameOk kid path validN validN_iff nodeOk nodesOk ValidN Grows above above_iff rank dropTo dropT moved)

noncomputable def dropN (t : List Nd) (i : Int) : Option (List Nd) := if isN t i && decide (i ≠ 0) then some (dropT t i) else none
theorem dropN_no {t : List Nd} {i : Int} (h : isN t i = false) : dropN t i = none := by simp [dropN, h]
theorem dropN_zero {t : List Nd} {i : Int} (h : i = 0) : dropN t i = none := by simp [dropN, h]
theorem dropN_yes {t : List Nd} {i : Int} (h : isN t i = true) (h0 : i ≠ 0) : dropN t i = some (dropT t i) := by simp [dropN, h, h0]
theorem dropTo_gone {t : List Nd} {a : Int} {k : Nat} {x : Nd} (hx : t[k]? = some x) (h : above t a (k : Int) = true) : dropTo t a (k + 1) = dropTo t a k ∧ rank t a (k + 1) = rank t a k := by
  constructor
  · show dropTo t a k ++ moved t a k = _
    unfold moved
    rw [hx]; simp [h]
  · rw [Tl.rank_succ, h]; simp
theorem dropTo_keep {t : List Nd} {a : Int} {k : Nat} {x : Nd} (hx : t[k]? = some x) (h : above t a (k : Int) = false) : dropTo t a (k + 1) = dropTo t a k ++ [⟨if k = 0 then x.parent else (rank t a x.parent.toNat : Int), x.name, x.value⟩] ∧ rank t a (k + 1) = rank t a k + 1 := by
  constructor
  · show dropTo t a k ++ moved t a k = _
    unfold moved
    rw [hx]; simp [h]
  · rw [Tl.rank_succ, h]; simp
theorem rank_le (t : List Nd) (a : Int) (k : Nat) : rank t a k ≤ k := by
  induction k with
  | zero => simp [rank]
  | succ k ih => rw [Tl.rank_succ]; split <;> omega
theorem dropT_short {t : List Nd} (h : Short t) (a : Int) : ∀ k, Short (dropTo t a k)
  | 0 => fun n hn => by simp [dropTo] at hn
  | k + 1 => by
    intro n hn
    rcases List.mem_append.1 (show n ∈ dropTo t a k ++ moved t a k from hn) with h1 | h1
    · exact dropT_short h a k n h1
    · unfold moved at h1
      split at h1
      · rename_i x hx
        split at h1
        · cases h1
        · simp at h1; subst h1; exact (show x.name.length ≤ 2000000 from h.get hx)
      · cases h1
theorem frozen_new (w : World) (cs : Array Value) (t : TypeId) (j : Nat) : (w.alloc (.cells cs t)).frozen? ⟨w.heap.size, j, none⟩ = false := by
  have := heap_alloc_new w (.cells cs t)
  unfold World.frozen?
  rw [this]
  simp

theorem node_cells' (w : World) (x : Nd) {wd : World} (h : w.alloc (.cells #[.int .i64 x.parent, .string ⟨x.name.toArray⟩, .int .i64 x.value] 28) = wd) :
    wd.cell? ⟨w.heap.size, 0, none⟩ = some (.int .i64 x.parent) ∧ wd.cell? ⟨w.heap.size, 1, none⟩ = some (.string ⟨x.name.toArray⟩) ∧ wd.cell? ⟨w.heap.size, 2, none⟩ = some (.int .i64 x.value) ∧ wd.heap.size = w.heap.size + 1 := by
  subst h
  exact ⟨by simp, by simp, by simp, by simp⟩
/-- A row that does not lie in block C stays while C alone turns. -/
theorem own_off {w w' : World} {base : Nat} {e : TypeId} {sz n C : Nat} {u : Value} {xs : List Value} (ho : w.ownsRow base e sz u n xs) (hg : w.grownBy w' (some C)) (hC : ∀ g, u.ownBlock = some g → g ≠ C) : w'.ownsRow base e sz u n xs :=
  ho.kept hg (by
    cases h : u.ownBlock with
    | none => exact .inl rfl
    | some g => exact .inr fun e => hC g h (by injection e))
theorem kept_par {t : List Nd} (hg : Grows t) {a : Int} {k : Nat} {x : Nd} (hx : t[k]? = some x) (hk : k ≠ 0) (h : above t a (k : Int) = false) : ∃ pn : Nat, x.parent = pn ∧ pn < k ∧ above t a (pn : Int) = false := by
  rcases hg k x hx with h1 | h1
  · exact absurd h1.1 hk
  · obtain ⟨pn, hpn⟩ := Int.eq_ofNat_of_zero_le h1.1
    refine ⟨pn, hpn, by omega, ?_⟩
    have := Tl.kept_parent hg (i := (k : Int)) (by omega) (by rw [Tl.par_of hx]; exact h1.1) h
    rwa [Tl.par_of hx, hpn] at this

set_option maxHeartbeats 1000000 in
theorem dropNode_any (A : Option Addr) (c : Nat) (t : List Nd) (a : Int) (w : World) (hn : t.length ≤ 10000) (hcap : t.length ≤ c) (hS : Short t) (hr : Rd w w.heap.size 3 A t.length (nds t)) :
    Calls Try.prog 31 #[.slice A t.length c, .int .i64 a] w (PSet w (dropN t a)) := by
  cases hN : isN t a
  · rw [dropN_no hN]
    have HN := Lib.hid hN
    clear hN
    go_enter Try.func31, Try.ntmps31
    go_wp2_with fail
    refine (isNode_any A c t a _ (by omega) hcap hS hr).mono ?_
    rintro e w1 ⟨rfl, hb1⟩
    rw [HN.out]
    go_wp2
    go_ret2
    exact PSet.none_ hb1
  · have HN := Lib.hid hN
    clear hN
    by_cases h0 : a = 0
    · rw [dropN_zero h0]
      have h0' : (a == 0) = true := by simp [h0]
      clear h0
      go_enter Try.func31, Try.ntmps31
      go_wp2_with fail
      refine (isNode_any A c t a _ (by omega) hcap hS hr).mono ?_
      rintro e w1 ⟨rfl, hb1⟩
      rw [HN.out]
      go_wp2
      go_ret2
      exact PSet.none_ hb1
    · rw [dropN_yes HN.out h0]
      have h0' : (a == 0) = false := by simp [h0]
      have HA := Lib.hid h0
      have ha0 : 0 ≤ a := (isN_iff.1 HN.out).1.1
      obtain ⟨i0, hi, hz0, hz1, hz2⟩ := info_int
      have HG := Lib.hid (isN_grows HN.out)
      clear h0
      go_enter Try.func31, Try.ntmps31
      go_wp2_with fail
      refine (isNode_any A c t a _ (by omega) hcap hS hr).mono ?_
      rintro e w1 ⟨rfl, hb1⟩
      have hr1 := hr.step hb1
      rw [HN.out]
      clear hr
      go_wp2_with (at_make; refine wpList_make_full _ rfl _ _ 49 rfl w1.heap.size 3 i0 (.int .i64 0) 1 Try.underlying49 hi hz0 hz1 .i64 .i64 _ _ t.length rfl rfl rfl rfl (by rw [hz2]; omega) (by unfold maxLen; omega) (Nat.le_refl _) ?_; intro w2 hown hg1)
      rw [made_ints] at hown
      have hb2 : Below w1.heap.size w1 w2 := ⟨hg1.os, hg1.tape, hg1.output, hg1.size, fun k hk => hg1.block k hk (by simp)⟩
      obtain ⟨D, hD⟩ : ∃ D, D = w1.heap.size := ⟨_, rfl⟩
      rw [← hD] at hown ⊢
      have HD := Lib.hid hD
      clear hD hg1
      go_wp2
      go_loopg [7, 23] t.length (fun gk ov i wr => ∃ (k m : Nat) (A' : Option Addr) (c' : Nat) (ds : List Int), k ≤ t.length ∧ gk = t.length - k ∧ i = .int .i64 k ∧ ov = .slice A' m c' ∧ Hid (m = rank t a k) ∧ m ≤ k ∧ ds.length = t.length ∧ Hid (∀ j : Nat, j < k → above t a (j : Int) = false → ds[j]? = some (rank t a j : Int)) ∧
        wr.ownsRow D 3 1 (.slice (some ⟨D, 0, none⟩) t.length t.length) t.length (ints ds) ∧ wr.ownsRow w1.heap.size 28 3 ov m (nds (dropTo t a k)) ∧ Hid (Ap ov (.slice (some ⟨D, 0, none⟩) t.length t.length)) ∧ Below w1.heap.size w1 wr)
      case atStart => exact ⟨0, 0, none, 0, List.replicate t.length 0, Nat.zero_le _, rfl, rfl, rfl, (show 0 = _ by simp [rank]), by omega, by simp, (show ∀ j : Nat, j < 0 → _ by intro j h; omega), hown, World.ownsRow_nil _ _ _ _, .inl rfl, hb2⟩
      case round =>
        clear hown hb2
        obtain ⟨k, m, A', c', ds, hk, rfl, rfl, rfl, HM, hmk, hdl, HDS, hown, hout, HAP, hb⟩ := hrel
        by_cases hlt : k < t.length
        · obtain ⟨b, off, x, rfl, hbl, hx, hc1, hc2, hc3⟩ := (hr1.below hb).nd hlt
          have HX := Lib.hid hx
          have hb3 := hb.alloc hb.size (.cells #[.int .i64 x.parent, .string ⟨x.name.toArray⟩, .int .i64 x.value] 28)
          have hown3 := hown.alloc (.cells #[.int .i64 x.parent, .string ⟨x.name.toArray⟩, .int .i64 x.value] 28)
          have hout3 := hout.alloc (.cells #[.int .i64 x.parent, .string ⟨x.name.toArray⟩, .int .i64 x.value] 28)
          have hrt := hr1.below hb3
          have hfC := frozen_new wr #[.int .i64 x.parent, .string ⟨x.name.toArray⟩, .int .i64 x.value] 28
          have hDlt : D < wr.heap.size := by
            obtain ⟨g, hg1, _, hg2, _⟩ := own_addr hown (by omega)
            injection hg1 with hg1
            injection hg1 with hg1
            omega
          have hown0 := hown
          have hout0 := hout
          clear hx hown hout
          go_wp2_with fail
          refine (reaches_any _ c t a k _ (by omega) HG.out ha0 hlt hrt).mono ?_
          rintro e w3 ⟨rfl, hw3⟩
          cases hab : above t a (k : Int)
          · obtain ⟨C, hC⟩ : ∃ C, C = wr.heap.size := ⟨_, rfl⟩
            have hoC : ∀ g, (Value.slice (some ⟨D, 0, none⟩) t.length t.length).ownBlock = some g → g ≠ C := fun g hg => by have := (hown0.lt g hg).2; omega
            have huC : ∀ g, (Value.slice A' m c').ownBlock = some g → g ≠ C := fun g hg => by have := (hout0.lt g hg).2; omega
            obtain ⟨hq0, hq1, hq2, hqs⟩ := node_cells' wr x hw3
            rw [hw3] at hb3 hown3 hout3 hfC
            rw [← hC] at hq0 hq1 hq2 hfC ⊢
            have hDC : D < C := by omega
            have hwC : w1.heap.size ≤ C := by have := HD.out; omega
            have HC := Lib.hid hC
            have hs3 : w3.heap.size = C + 1 := by omega
            clear hC hqs
            have hold := own_at hown3 (j := k) (u := .int .i64 (ds.getD k 0)) (by unfold ints; rw [List.getElem?_map, List.getD_eq_getElem?_getD, List.getElem?_eq_getElem (by omega)]; rfl)
            have hfD := own_frozen hown3 k
            -- number[k] is stored
            obtain ⟨w4, hw4⟩ : ∃ w4, w3.setCell ⟨D, k, none⟩ (.int .i64 (m : Int)) = w4 := ⟨_, rfl⟩
            have hg4 : w3.grownBy w4 (some D) := by rw [← hw4]; exact grown_setCell w3 ⟨D, k, none⟩ _
            have hown4 : w4.ownsRow D 3 1 (.slice (some ⟨D, 0, none⟩) t.length t.length) t.length (ints (ds.set k (m : Int))) := by
              have := own_set hown3 (.int .i64 (m : Int)) (j := k)
              rw [hw4] at this
              have hset : (ints ds).set k (.int .i64 (m : Int)) = ints (ds.set k (m : Int)) := by simp [ints, List.map_set]
              rw [hset] at this; exact this
            have hout4 := HAP.out.symm.kept hg4 hout3
            have hb4 : Below w1.heap.size w1 w4 := by rw [← hw4]; exact hb3.setCell (p := ⟨D, k, none⟩) (by simp only; have := HD.out; omega) _
            have hr0 := hg4.cell hq0 (by intro e; injection e with e; simp only at e; omega)
            have hr1c := hg4.cell hq1 (by intro e; injection e with e; simp only at e; omega)
            have hr2c := hg4.cell hq2 (by intro e; injection e with e; simp only at e; omega)
            have hs4 : w4.heap.size = w3.heap.size := by rw [← hw4]; exact size_setCell _ _ _
            obtain ⟨hk1, hk2⟩ := dropTo_keep HX.out hab
            have HM2 : Hid (m + 1 = rank t a (k + 1)) := by show _ = _; rw [hk2]; have := HM.out; omega
            have hlk : (ds.set k (m : Int)).length = t.length := by rw [List.length_set]; exact hdl
            have HDS2 : Hid (∀ j : Nat, j < k + 1 → above t a (j : Int) = false → (ds.set k (m : Int))[j]? = some (rank t a j : Int)) := by
              intro j hj hf
              by_cases e : j = k
              · subst e
                rw [List.getElem?_set_self (by omega), HM.out]
              · rw [List.getElem?_set_ne (by omega)]
                exact HDS.out j (by omega) hf
            by_cases hk0 : k = 0
            · have hk0' : ¬ (0 : Int) < (k : Int) := by omega
              rw [if_pos hk0] at hk1
              have HK1 := Lib.hid hk1
              have hs5 : w1.heap.size ≤ w4.heap.size := hb4.size
              have hb5 := hb4.alloc hs5 (.cells (ndC ⟨x.parent, x.name, x.value⟩).toArray 28)
              clear hs3 hs4 hk1 hk2 hab hk0 hg4 hc1 hc2 hc3 hown3 hout3 hb3
              go_wp2_with (at_builtin; refine wpList_push_nd rfl _ _ rfl ⟨x.parent, x.name, x.value⟩ rfl (hout4.alloc _) rfl (heap_alloc_new w4 _) (by omega) (by simp; omega) ?_; intro A6 c6 w6 ho6 hb6 hap6)
              have hown6 := hap6 (hown4.alloc _) HAP.out
              have hb7 := hb5.trans hb6
              rw [← HK1.out] at ho6
              have HAP6 := Lib.hid hown6.2
              have hown7 := hown6.1
              clear hown6 hap6 hb6 hb5 hown4 hout4 hb4 hw4 hr0 hr1c hr2c
              go_wp2
              go_roundg (t.length - (k + 1))
              case measure => omega
              case rel => exact ⟨k + 1, m + 1, A6, c6, _, by omega, rfl, by go_num, rfl, HM2, by omega, hlk, HDS2, hown7, ho6, HAP6, hb7⟩
            · have hk0' : (0 : Int) < (k : Int) := by omega
              rw [if_neg hk0] at hk1
              obtain ⟨pn, hpn, hpk, hpa⟩ := kept_par HG.out HX.out hk0 hab
              rw [hpn, Int.toNat_natCast] at hk1
              rw [hpn] at hr0
              have HK1 := Lib.hid hk1
              have hcpn := own_at hown4 (j := pn) (u := .int .i64 (rank t a pn : Int)) (by unfold ints; rw [List.getElem?_map, HDS2.out pn (by omega) hpa]; rfl)
              have hpl : pn < t.length := by omega
              have hf4 : w4.frozen? ⟨C, 0, none⟩ = false := by rw [← hw4, World.frozen?_setCell]; exact hfC 0
              obtain ⟨rk, hrk⟩ : ∃ rk, rank t a pn = rk := ⟨_, rfl⟩
              rw [hrk] at hcpn hk1 HK1
              obtain ⟨w5, hw5⟩ : ∃ w5, w4.setCell ⟨C, 0, none⟩ (.int .i64 (rk : Int)) = w5 := ⟨_, rfl⟩
              have hg5 : w4.grownBy w5 (some C) := by rw [← hw5]; exact grown_setCell w4 ⟨C, 0, none⟩ _
              have hown5 := own_off hown4 hg5 hoC
              have hout5 := own_off hout4 hg5 huC
              have hb5 : Below w1.heap.size w1 w5 := by rw [← hw5]; exact hb4.setCell (p := ⟨C, 0, none⟩) hwC _
              have h50 : w5.cell? ⟨C, 0, none⟩ = some (.int .i64 (rk : Int)) := by rw [← hw5]; exact World.cell?_setCell_same _ _ _ hr0
              have h51 : w5.cell? ⟨C, 1, none⟩ = some (.string ⟨x.name.toArray⟩) := by rw [← hw5, World.cell?_setCell_other _ _ _ _ (by intro e; injection e with e1 e2; omega)]; exact hr1c
              have h52 : w5.cell? ⟨C, 2, none⟩ = some (.int .i64 x.value) := by rw [← hw5, World.cell?_setCell_other _ _ _ _ (by intro e; injection e with e1 e2; omega)]; exact hr2c
              have hs6 : w1.heap.size ≤ w5.heap.size := hb5.size
              have hb6 := hb5.alloc hs6 (.cells (ndC ⟨(rk : Int), x.name, x.value⟩).toArray 28)
              clear hs3 hs4 hk1 hk2 hab hk0 hg4 hc1 hc2 hc3 hown3 hout3 hb3 hg5 hb5 hpn hrk
              go_wp2_with (at_builtin; refine wpList_push_nd rfl _ _ rfl ⟨(rk : Int), x.name, x.value⟩ rfl (hout5.alloc _) rfl (heap_alloc_new w5 _) (by omega) (by simp; omega) ?_; intro A6 c6 w6 ho6 hb7 hap6)
              have hown6 := hap6 (hown5.alloc _) HAP.out
              have hb8 := hb6.trans hb7
              rw [← HK1.out] at ho6
              have HAP6 := Lib.hid hown6.2
              have hown7 := hown6.1
              clear hown6 hap6 hb6 hb7 hown4 hout4 hb4 hw4 hr0 hr1c hr2c hw5 hown5 hout5 h50 h51 h52 hcpn
              go_wp2
              go_roundg (t.length - (k + 1))
              case measure => omega
              case rel => exact ⟨k + 1, m + 1, A6, c6, _, by omega, rfl, by go_num, rfl, HM2, by omega, hlk, HDS2, hown7, ho6, HAP6, hb8⟩
          · subst hw3
            obtain ⟨hk1, hk2⟩ := dropTo_gone HX.out hab
            have HM2 : Hid (m = rank t a (k + 1)) := by show _ = _; rw [hk2]; exact HM.out
            have HDS2 : Hid (∀ j : Nat, j < k + 1 → above t a (j : Int) = false → ds[j]? = some (rank t a j : Int)) := by
              intro j hj hf
              by_cases e : j = k
              · subst e; rw [hab] at hf; cases hf
              · exact HDS.out j (by omega) hf
            rw [← hk1] at hout3
            clear hab hk1 hk2 hc1 hc2 hc3 hfC hown0 hout0
            go_wp2
            go_roundg (t.length - (k + 1))
            case measure => omega
            case rel => exact ⟨k + 1, m, A', c', ds, by omega, rfl, by go_num, rfl, HM2, by omega, hdl, HDS2, hown3, hout3, HAP, hb3⟩
        · have hke : k = t.length := by omega
          subst hke
          have hle : (dropT t a).length = m := (Tl.dropTo_length t a _ (Nat.le_refl _)).trans HM.out.symm
          have hb9 := hb1.trans (hb.mono hb1.size)
          have ho9 := own_base hout hb1.size
          clear hown hout hb hr1
          go_wp2
          go_ret2
          exact PSet.some_ hle.symm ho9 hb9
theorem own_grown0 {w w' : World} {base : Nat} {e : TypeId} {sz n : Nat} {v : Value} {xs : List Value} (h : w.ownsRow base e sz v n xs) (hg : w.grownBy w' none) : w'.ownsRow base e sz v n xs :=
  h.kept hg (by cases v.ownBlock <;> simp)
set_option maxHeartbeats 1000000 in
theorem swithout_any (A : Option Addr) (c : Nat) (t : List Nd) (a : Int) (w : World) (hn : t.length ≤ 10000) (hg : Grows t) (h1t : 1 ≤ t.length) (ha0 : 0 ≤ a) (hr : Rd w w.heap.size 3 A t.length (nds t)) :
    Calls Try.prog 52 #[.slice A t.length c, .int .i64 a] w (PNds w (dropT t a)) := by
  obtain ⟨i0, hi, hz0, hz1, hz2⟩ := info_int
  have HG := Lib.hid hg
  clear hg
  have hb0 := (Below.refl w.heap.size w).alloc (Nat.le_refl _) (.cells #[] 28)
  have hown0 := own_lit0 w 28 3 (Nat.le_refl _)
  obtain ⟨w1, hw1⟩ : ∃ w1, w.alloc (.cells #[] 28) = w1 := ⟨_, rfl⟩
  have hs1 : w1.heap.size = w.heap.size + 1 := by rw [← hw1]; simp
  obtain ⟨E, hE⟩ : ∃ E, w.heap.size = E := ⟨_, rfl⟩
  rw [hw1] at hb0 hown0
  have hr1 := hr.below hb0
  have hED : E < w1.heap.size := by omega
  have hEs := Nat.le_of_lt hED
  obtain ⟨D, hD⟩ : ∃ D, w1.heap.size = D := ⟨_, rfl⟩
  rw [hE] at hb0 hown0 hr1
  have HE := Lib.hid hE
  have HD := Lib.hid hD
  rw [hD] at hED
  have HWE : Hid (Below w.heap.size w w1) := by rw [hE]; exact hb0
  clear hs1 hr
  go_enter Try.func52, Try.ntmps52
  go_wp2_with (at_make; refine wpList_make_full _ rfl _ _ 49 rfl w1.heap.size 3 i0 (.int .i64 0) 1 Try.underlying49 hi hz0 hz1 .i64 .i64 _ _ t.length rfl rfl rfl rfl (by rw [hz2]; omega) (by unfold maxLen; omega) (Nat.le_refl _) ?_; intro w2 hown hg1)
  rw [made_ints, hD] at hown
  have hb2 : Below w1.heap.size w1 w2 := ⟨hg1.os, hg1.tape, hg1.output, hg1.size, fun k hk => hg1.block k hk (by simp)⟩
  have hb2e : Below E w1 w2 := hb2.mono hEs
  have hown2 := own_grown0 hown0 hg1
  clear hw1 hD hE hg1 hb2 hown0 hb0
  go_wp2
  go_loopg [5, 7] t.length (fun gk ov i wr => ∃ (k m : Nat) (A' : Option Addr) (c' : Nat) (ds : List Int), k ≤ t.length ∧ gk = t.length - k ∧ i = .int .i64 k ∧ ov = .slice A' m c' ∧ Hid (m = rank t a k) ∧ m ≤ k ∧ ds.length = t.length ∧ Hid (∀ j : Nat, j < k → above t a (j : Int) = false → ds[j]? = some (rank t a j : Int)) ∧
    wr.ownsRow D 3 1 (.slice (some ⟨D, 0, none⟩) t.length t.length) t.length (ints ds) ∧ wr.ownsRow E 28 3 ov m (nds (dropTo t a k)) ∧ Hid (Ap ov (.slice (some ⟨D, 0, none⟩) t.length t.length)) ∧ Below E w1 wr)
  case atStart => exact ⟨0, 0, _, 0, List.replicate t.length 0, Nat.zero_le _, rfl, rfl, rfl, (show 0 = _ by simp [rank]), by omega, by simp, (show ∀ j : Nat, j < 0 → _ by intro j h; omega), hown, hown2, (show Ap _ _ from .inr (.inr (by intro e; injection e with e; simp only at e; omega))), hb2e⟩
  case round =>
    clear hown hown2 hb2e
    obtain ⟨k, m, A', c', ds, hk, rfl, rfl, rfl, HM, hmk, hdl, HDS, hown, hout, HAP, hb⟩ := hrel
    by_cases hlt : k < t.length
    · have hrw := hr1.below hb
      obtain ⟨b, off, x, rfl, hbl, hx, hc1, hc2, hc3⟩ := hrw.nd hlt
      have HX := Lib.hid hx
      clear hx
      go_wp2_with fail
      refine (sabove_any _ c t a k _ (by omega) HG.out ha0 hlt hrw).mono ?_
      rintro e wz ⟨rfl, rfl⟩
      cases hab : above t a (k : Int)
      · have hDlt : D < wr.heap.size := by
          obtain ⟨g, hg1, _, hg2, _⟩ := own_addr hown (by omega)
          injection hg1 with hg1
          injection hg1 with hg1
          omega
        obtain ⟨w3, hw3⟩ : ∃ w3, wr.alloc (.cells #[.int .i64 x.parent, .string ⟨x.name.toArray⟩, .int .i64 x.value] 28) = w3 := ⟨_, rfl⟩
        obtain ⟨hq0, hq1, hq2, hqs⟩ := node_cells' wr x hw3
        have hEw : E ≤ wr.heap.size := by omega
        have hb3 := hb.alloc hEw (.cells #[.int .i64 x.parent, .string ⟨x.name.toArray⟩, .int .i64 x.value] 28)
        have hown3 := hown.alloc (.cells #[.int .i64 x.parent, .string ⟨x.name.toArray⟩, .int .i64 x.value] 28)
        have hout3 := hout.alloc (.cells #[.int .i64 x.parent, .string ⟨x.name.toArray⟩, .int .i64 x.value] 28)
        have hfC := frozen_new wr #[.int .i64 x.parent, .string ⟨x.name.toArray⟩, .int .i64 x.value] 28 0
        rw [hw3] at hb3 hown3 hout3 hfC
        obtain ⟨C, hC⟩ : ∃ C, wr.heap.size = C := ⟨_, rfl⟩
        have hoC : ∀ g, (Value.slice (some ⟨D, 0, none⟩) t.length t.length).ownBlock = some g → g ≠ C := fun g hg => by have := (hown.lt g hg).2; omega
        have huC : ∀ g, (Value.slice A' m c').ownBlock = some g → g ≠ C := fun g hg => by have := (hout.lt g hg).2; omega
        rw [hC] at hq0 hq1 hq2 hfC hDlt hEw
        have hwC : E ≤ C := hEw
        have hold := own_at hown3 (j := k) (u := .int .i64 (ds.getD k 0)) (by unfold ints; rw [List.getElem?_map, List.getD_eq_getElem?_getD, List.getElem?_eq_getElem (by omega)]; rfl)
        obtain ⟨hk1, hk2⟩ := dropTo_keep HX.out hab
        have HM2 : Hid (m + 1 = rank t a (k + 1)) := by show _ = _; rw [hk2]; have := HM.out; omega
        have hlk : (ds.set k (m : Int)).length = t.length := by rw [List.length_set]; exact hdl
        have HDS2 : Hid (∀ j : Nat, j < k + 1 → above t a (j : Int) = false → (ds.set k (m : Int))[j]? = some (rank t a j : Int)) := by
          intro j hj hf
          by_cases e : j = k
          · subst e
            rw [List.getElem?_set_self (by omega), HM.out]
          · rw [List.getElem?_set_ne (by omega)]
            exact HDS.out j (by omega) hf
        have hset : (ints ds).set k (.int .i64 (m : Int)) = ints (ds.set k (m : Int)) := by simp [ints, List.map_set]
        by_cases hk0 : k = 0
        · have hk0' : ¬ (0 : Int) < (k : Int) := by omega
          rw [if_pos hk0] at hk1
          have HK1 := Lib.hid hk1
          have hfD := own_frozen hown3 k
          obtain ⟨w4, hw4⟩ : ∃ w4, w3.setCell ⟨D, k, none⟩ (.int .i64 (m : Int)) = w4 := ⟨_, rfl⟩
          have hg4 : w3.grownBy w4 (some D) := by rw [← hw4]; exact grown_setCell w3 ⟨D, k, none⟩ _
          have hown4 := own_set hown3 (.int .i64 (m : Int)) (j := k)
          rw [hw4, hset] at hown4
          have hout4 := HAP.out.symm.kept hg4 hout3
          have hb4 : Below E w1 w4 := by rw [← hw4]; exact hb3.setCell (p := ⟨D, k, none⟩) (by simp only; omega) _
          have hr0 := hg4.cell hq0 (by intro e; injection e with e; simp only at e; omega)
          have hr1c := hg4.cell hq1 (by intro e; injection e with e; simp only at e; omega)
          have hr2c := hg4.cell hq2 (by intro e; injection e with e; simp only at e; omega)
          have hs5 : E ≤ w4.heap.size := Nat.le_trans hEs hb4.size
          have hb5 := hb4.alloc hs5 (.cells (ndC ⟨x.parent, x.name, x.value⟩).toArray 28)
          clear hk1 hk2 hab hk0 hg4 hown3 hout3 hb3 hown hout hqs hset
          go_wp2_with (at_builtin; refine wpList_push_nd rfl _ _ rfl ⟨x.parent, x.name, x.value⟩ rfl (hout4.alloc _) rfl (heap_alloc_new w4 _) (by omega) (by simp; omega) ?_; intro A6 c6 w6 ho6 hb6 hap6)
          have hown6 := hap6 (hown4.alloc _) HAP.out
          have hb7 := hb5.trans hb6
          rw [← HK1.out] at ho6
          have HAP6 := Lib.hid hown6.2
          have hown7 := hown6.1
          clear hown6 hap6 hb6 hb5 hown4 hout4 hb4 hw4 hw3 hC hr0 hr1c hr2c
          go_wp2
          go_roundg (t.length - (k + 1))
          case measure => omega
          case rel => exact ⟨k + 1, m + 1, A6, c6, _, by omega, rfl, by go_num, rfl, HM2, by omega, hlk, HDS2, hown7, ho6, HAP6, hb7⟩
        · have hk0' : (0 : Int) < (k : Int) := by omega
          rw [if_neg hk0] at hk1
          obtain ⟨pn, hpn, hpk, hpa⟩ := kept_par HG.out HX.out hk0 hab
          rw [hpn, Int.toNat_natCast] at hk1
          have hq0' := hq0
          rw [hpn] at hq0
          have hcpn := own_at hown3 (j := pn) (u := .int .i64 (rank t a pn : Int)) (by unfold ints; rw [List.getElem?_map, HDS.out pn hpk hpa]; rfl)
          have hpl : pn < t.length := by omega
          obtain ⟨rk, hrk⟩ : ∃ rk, rank t a pn = rk := ⟨_, rfl⟩
          rw [hrk] at hcpn hk1
          have HK1 := Lib.hid hk1
          obtain ⟨w5, hw5⟩ : ∃ w5, w3.setCell ⟨C, 0, none⟩ (.int .i64 (rk : Int)) = w5 := ⟨_, rfl⟩
          have hg5 : w3.grownBy w5 (some C) := by rw [← hw5]; exact grown_setCell w3 ⟨C, 0, none⟩ _
          have hown5 := own_off hown3 hg5 hoC
          have hout5 := own_off hout3 hg5 huC
          have hb5 : Below E w1 w5 := by rw [← hw5]; exact hb3.setCell (p := ⟨C, 0, none⟩) hwC _
          have h50 : w5.cell? ⟨C, 0, none⟩ = some (.int .i64 (rk : Int)) := by rw [← hw5]; exact World.cell?_setCell_same _ _ _ hq0'
          have h51 : w5.cell? ⟨C, 1, none⟩ = some (.string ⟨x.name.toArray⟩) := by rw [← hw5, World.cell?_setCell_other _ _ _ _ (by intro e; injection e with e1 e2; omega)]; exact hq1
          have h52 : w5.cell? ⟨C, 2, none⟩ = some (.int .i64 x.value) := by rw [← hw5, World.cell?_setCell_other _ _ _ _ (by intro e; injection e with e1 e2; omega)]; exact hq2
          have hfD := own_frozen hown5 k
          have hold5 := own_at hown5 (j := k) (u := .int .i64 (ds.getD k 0)) (by unfold ints; rw [List.getElem?_map, List.getD_eq_getElem?_getD, List.getElem?_eq_getElem (by omega)]; rfl)
          obtain ⟨w4, hw4⟩ : ∃ w4, w5.setCell ⟨D, k, none⟩ (.int .i64 (m : Int)) = w4 := ⟨_, rfl⟩
          have hg4 : w5.grownBy w4 (some D) := by rw [← hw4]; exact grown_setCell w5 ⟨D, k, none⟩ _
          have hown4 := own_set hown5 (.int .i64 (m : Int)) (j := k)
          rw [hw4, hset] at hown4
          have hout4 := HAP.out.symm.kept hg4 hout5
          have hb4 : Below E w1 w4 := by rw [← hw4]; exact hb5.setCell (p := ⟨D, k, none⟩) (by simp only; omega) _
          have hr0 := hg4.cell h50 (by intro e; injection e with e; simp only at e; omega)
          have hr1c := hg4.cell h51 (by intro e; injection e with e; simp only at e; omega)
          have hr2c := hg4.cell h52 (by intro e; injection e with e; simp only at e; omega)
          have hs6 : E ≤ w4.heap.size := Nat.le_trans hEs hb4.size
          have hb6 := hb4.alloc hs6 (.cells (ndC ⟨(rk : Int), x.name, x.value⟩).toArray 28)
          have hw3' : wr.alloc (.cells #[.int .i64 (pn : Int), .string ⟨x.name.toArray⟩, .int .i64 x.value] 28) = w3 := by rw [← hpn]; exact hw3
          rw [hpn] at hc1
          clear hk1 hk2 hab hk0 hg4 hown3 hout3 hb3 hg5 hb5 hown hout hqs hset hq0' hw3 hpn hrk
          go_wp2_with (at_builtin; refine wpList_push_nd rfl _ _ rfl ⟨(rk : Int), x.name, x.value⟩ rfl (hout4.alloc _) rfl (heap_alloc_new w4 _) (by omega) (by simp; omega) ?_; intro A6 c6 w6 ho6 hb7 hap6)
          have hown6 := hap6 (hown4.alloc _) HAP.out
          have hb8 := hb6.trans hb7
          rw [← HK1.out] at ho6
          have HAP6 := Lib.hid hown6.2
          have hown7 := hown6.1
          clear hown6 hap6 hb6 hb7 hown4 hout4 hb4 hw4 hw3' hC hr0 hr1c hr2c hw5 hown5 hout5 h50 h51 h52 hcpn
          go_wp2
          go_roundg (t.length - (k + 1))
          case measure => omega
          case rel => exact ⟨k + 1, m + 1, A6, c6, _, by omega, rfl, by go_num, rfl, HM2, by omega, hlk, HDS2, hown7, ho6, HAP6, hb8⟩
      · obtain ⟨hk1, hk2⟩ := dropTo_gone HX.out hab
        have HM2 : Hid (m = rank t a (k + 1)) := by show _ = _; rw [hk2]; exact HM.out
        have HDS2 : Hid (∀ j : Nat, j < k + 1 → above t a (j : Int) = false → ds[j]? = some (rank t a j : Int)) := by
          intro j hj hf
          by_cases e : j = k
          · subst e; rw [hab] at hf; cases hf
          · exact HDS.out j (by omega) hf
        rw [← hk1] at hout
        clear hab hk1 hk2 hc1 hc2 hc3
        go_wp2
        go_roundg (t.length - (k + 1))
        case measure => omega
        case rel => exact ⟨k + 1, m, A', c', ds, by omega, rfl, by go_num, rfl, HM2, by omega, hdl, HDS2, hown, hout, HAP, hb⟩
    · have hke : k = t.length := by omega
      subst hke
      have hle : (dropT t a).length = m := (Tl.dropTo_length t a _ (Nat.le_refl _)).trans HM.out.symm
      have hb9 : Below w.heap.size w wr := HWE.out.trans (by rw [HE.out]; exact hb)
      have ho9 : wr.ownsRow w.heap.size 28 3 (.slice A' m c') m (nds (dropT t a)) := by rw [HE.out]; exact hout
      clear hown hout hb hr1
      go_wp2
      go_ret
      exact ⟨A', c', ret_slice hle.symm, by rw [hle]; exact ho9, hb9⟩
theorem sdropNode_any (A : Option Addr) (c : Nat) (t : List Nd) (a : Int) (w : World) (hn : t.length ≤ 10000) (hcap : t.length ≤ c) (hS : Short t) (hr : Rd w w.heap.size 3 A t.length (nds t)) :
    Calls Try.prog 33 #[.slice A t.length c, .int .i64 a] w (PSet w (dropN t a)) := by
  cases hvt : validN t
  · rw [dropN_no (by simp [isN, hvt])]
    have HN := Lib.hid hvt
    clear hvt
    go_enter Try.func33, Try.ntmps33
    go_wp2_with fail
    refine (svalidTree0_any A c t _ (by omega) hcap hS hr).mono ?_
    rintro e w1 ⟨rfl, hb1⟩
    rw [HN.out]
    go_wp2
    go_ret2
    exact PSet.none_ hb1
  · have HVT := Lib.hid hvt
    have hl := (validN_iff.1 hvt).1
    clear hvt
    go_enter Try.func33, Try.ntmps33
    go_wp2_with fail
    refine (svalidTree0_any A c t _ (by omega) hcap hS hr).mono ?_
    rintro e w1 ⟨rfl, hb1⟩
    have hr1 := hr.step hb1
    rw [HVT.out]
    clear hr
    go_wp2_with fail
    refine (inRange_any _ _ _ _).mono ?_
    rintro e w2 ⟨rfl, rfl⟩
    by_cases hi : 1 ≤ a ∧ a ≤ (t.length : Int) - 1
    · rw [decide_eq_true hi]
      have HN : Hid (isN t a = true) := isN_iff.2 ⟨⟨by omega, by omega⟩, HVT.out⟩
      have ha0 : 0 ≤ a := by omega
      have ha1 : a ≠ 0 := by omega
      have HDY := Lib.hid (dropN_yes HN.out ha1)
      clear hi ha1
      go_wp2_with fail
      refine (swithout_any A c t a _ hn (isN_grows HN.out) hl.1 ha0 hr1).mono ?_
      rintro e w2 ⟨A2, c2, rfl, ho2, hb2⟩
      have hb3 := below_then hb1 hb2 hb1.size
      have ho3 := own_base ho2 hb1.size
      clear ho2 hb1 hb2
      go_wp2
      go_ret2
      rw [HDY.out]
      exact PSet.some_ rfl ho3 hb3
    · rw [decide_eq_false hi]
      have HN : Hid (dropN t a = none) := by
        show _ = _
        by_cases h0 : a = 0
        · exact dropN_zero h0
        · exact dropN_no (by
            rw [Bool.eq_false_iff, ne_eq, isN_iff]
            rintro ⟨h1, _⟩
            exact hi (by omega))
      clear hi
      go_wp2
      go_ret2
      rw [HN.out]
      exact PSet.none_ hb1
end Go.Proofs.Ythfmbedbaajdbaa
