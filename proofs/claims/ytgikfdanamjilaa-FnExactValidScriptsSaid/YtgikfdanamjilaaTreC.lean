/- Contract: impl.ValidTree. -/
import Derived.Test.YtgikfdanamjilaaTreB
import Derived.OwnWalk
import Derived.StillTailTactics
namespace Go.Proofs.Ytgikfdanamjilaa
open Go.RowKit
set_option maxRecDepth 100000
open Tl (Nd nameOk kid path validN validN_iff nodeOk nodesOk ValidN)

theorem nodesOk_zero (t : List Nd) : nodesOk t 0 := fun i n hi => by omega
theorem nodesOk_succ {t : List Nd} {k : Nat} {n : Nd} (h : nodesOk t k) (hn : t[k]? = some n) (ho : nodeOk t k n) : nodesOk t (k + 1) := by
  intro i m hi hm
  by_cases e : i = k
  · subst e
    obtain rfl := Option.some.inj (hm.symm.trans hn)
    exact ho
  · exact h i m (by omega) hm
theorem validN_bad {t : List Nd} {k : Nat} {n : Nd} (hn : t[k]? = some n) (ho : ¬ nodeOk t k n) : validN t = false := by
  rw [Bool.eq_false_iff, ne_eq, validN_iff]
  intro h
  exact ho (h.2 k n (List.getElem?_eq_some_iff.1 hn).1 hn)
theorem validN_len {t : List Nd} (h : ¬ (1 ≤ t.length ∧ t.length ≤ 12)) : validN t = false := by
  rw [Bool.eq_false_iff, ne_eq, validN_iff]
  exact fun hv => h hv.1
theorem validN_good {t : List Nd} {k : Nat} (h : 1 ≤ t.length ∧ t.length ≤ 12) (ho : nodesOk t k) (hk : t.length ≤ k) : validN t = true :=
  validN_iff.2 ⟨h, fun i n hi hn => ho i n (by omega) hn⟩
theorem node_value {t : List Nd} {k : Nat} {n : Nd} (h : ¬ (-1000 ≤ n.value ∧ n.value ≤ 1000)) : ¬ nodeOk t k n := fun ho => h ho.1
theorem node_root {t : List Nd} {n : Nd} (h : ¬ (n.parent = -1 ∧ n.name = [])) : ¬ nodeOk t 0 n := by
  rintro ⟨_, h1 | h1⟩
  · exact h h1.2
  · exact h1.1 rfl
theorem node_root_ok {t : List Nd} {n : Nd} (hv : -1000 ≤ n.value ∧ n.value ≤ 1000) (h : n.parent = -1) (h' : n.name = []) : nodeOk t 0 n := ⟨hv, .inl ⟨rfl, h, h'⟩⟩
theorem node_parent {t : List Nd} {k : Nat} {n : Nd} (hk : k ≠ 0) (h : ¬ (0 ≤ n.parent ∧ n.parent < k)) : ¬ nodeOk t k n := by
  rintro ⟨_, h1 | h1⟩
  · exact hk h1.1
  · exact h ⟨h1.2.1, h1.2.2.1⟩
theorem node_name {t : List Nd} {k : Nat} {n : Nd} (hk : k ≠ 0) (h : nameOk n.name = false) : ¬ nodeOk t k n := by
  rintro ⟨_, h1 | h1⟩
  · exact hk h1.1
  · rw [h] at h1; cases h1.2.2.2.1
theorem node_kid {t : List Nd} {k : Nat} {n : Nd} (hk : k ≠ 0) (h : kid (t.take k) n.parent n.name ≠ -1) : ¬ nodeOk t k n := by
  rintro ⟨_, h1 | h1⟩
  · exact hk h1.1
  · exact h h1.2.2.2.2.1
theorem node_deep {t : List Nd} {k : Nat} {n : Nd} (hk : k ≠ 0) (h : ¬ (path t k).length ≤ 5) : ¬ nodeOk t k n := by
  rintro ⟨_, h1 | h1⟩
  · exact hk h1.1
  · exact h h1.2.2.2.2.2
theorem node_ok {t : List Nd} {k : Nat} {n : Nd} (hk : k ≠ 0) (hv : -1000 ≤ n.value ∧ n.value ≤ 1000) (hp : 0 ≤ n.parent ∧ n.parent < k) (hnm : nameOk n.name = true) (hkd : kid (t.take k) n.parent n.name = -1) (hd : (path t k).length ≤ 5) : nodeOk t k n :=
  ⟨hv, .inr ⟨hk, hp.1, hp.2, hnm, hkd, hd⟩⟩
theorem kid_lt (t : List Nd) (p : Int) (s : List UInt8) : (kid t p s = -1) ∨ (0 ≤ kid t p s ∧ kid t p s < t.length) := by
  rcases Tl.kid_cases t p s with ⟨h, _⟩ | ⟨k, n, h1, h2, _⟩
  · exact .inl h
  · exact .inr ⟨by omega, by have := (List.getElem?_eq_some_iff.1 h2).1; omega⟩
theorem grows_succ {t : List Nd} {k : Nat} {n : Nd} (h : nodesOk t k) (hn : t[k]? = some n) (hp : 0 ≤ n.parent ∧ n.parent < k) : Tl.Grows (t.take (k + 1)) := by
  have hg := Tl.nodesOk_grows h
  intro i m hi
  rw [List.getElem?_take] at hi
  split at hi
  · by_cases e : i = k
    · subst e
      obtain rfl := Option.some.inj (hi.symm.trans hn)
      exact .inr hp
    · exact hg i m (by rw [List.getElem?_take, if_pos (by omega)]; exact hi)
  · cases hi
theorem path_len_step {t : List Nd} {k : Nat} {n : Nd} (h : nodesOk t k) (hn : t[k]? = some n) (hp : 0 ≤ n.parent ∧ n.parent < k) : (path t (k : Int)).length = (path t n.parent).length + 1 := by
  have hg := grows_succ h hn hp
  have h1 := Tl.path_step hg (i := (k : Int)) (by omega)
  rw [Tl.par_take (by omega), Tl.path_take hg (by omega), Tl.par_of hn, Tl.path_take hg (by omega)] at h1
  rw [h1]; simp
theorem path_len_ok {t : List Nd} {k : Nat} (h : nodesOk t k) {i : Int} (h0 : 0 ≤ i) (hi : i < k) (hk : k ≤ t.length) : 1 ≤ (path t i).length ∧ (path t i).length ≤ 5 := by
  have hg := Tl.nodesOk_grows h
  obtain ⟨j, rfl⟩ := Int.eq_ofNat_of_zero_le h0
  have hj : j < k := by omega
  have hx := List.getElem?_eq_getElem (l := t) (i := j) (by omega)
  have h1 := Tl.path_step hg (i := (j : Int)) (by omega)
  rw [Tl.path_take hg hi] at h1
  rcases (h j _ hj hx).2 with ⟨e, _⟩ | h2
  · subst e
    have hp := Tl.par_lt hg (i := ((0 : Nat) : Int)) (by omega)
    have e : Tl.par (t.take k) ((0 : Nat) : Int) = -1 := by omega
    rw [e, Tl.path_neg] at h1
    rw [h1]; simp
  · exact ⟨by rw [h1]; simp, h2.2.2.2.2.2⟩

theorem path_len_root {t : List Nd} (h : nodesOk t 1) : (path t 0).length = 1 := by
  have hg := Tl.nodesOk_grows h
  have := Tl.path_zero hg
  rw [Tl.path_take hg (by omega)] at this
  rw [this]; rfl
/-- A row of new zeros. -/
theorem made_ints (n : Nat) : (madeCells (Value.int .i64 0).cells (n * 1)).toList = ints (List.replicate n 0) := by
  have hc : (Value.int .i64 0).cells = #[Value.int .i64 0] := rfl
  have hb : ∀ i : Nat, ((#[Value.int .i64 0] : Array Value)[i % (#[Value.int .i64 0] : Array Value).size]!) = Value.int .i64 0 := by
    intro i
    have : i % 1 = 0 := Nat.mod_one i
    simp [this]
  rw [hc, Nat.mul_one]
  unfold madeCells ints
  rw [Array.toList_map, Array.toList_range, List.map_replicate]
  simp only [hb]
  rw [List.map_const', List.length_range]

theorem kidIn_at (A : Option Addr) (c m : Nat) (t : List Nd) (p : Int) (s : List UInt8) (w : World) (hm : m = t.length) (hn : t.length ≤ 2000000) (hr : Rd w w.heap.size 3 A m (nds t)) :
    Calls Try.prog 32 #[.slice A m c, .int .i64 p, .string ⟨s.toArray⟩] w fun e w' => e = .returned (.int .i64 (kid t p s)) ∧ Below w.heap.size w w' := by
  subst hm; exact kidIn_any A c t p s w hn hr

/-- A region whose operations only read up to a tail in one forced order; the world behind the draw under one name. -/
theorem still_tail_as {P : Program} {id : Nat} {Q : Exit → Act → World → Prop} {a : Act} {w wd : World} {l : List Oper} (n : Nat) (hm : P.follows .mixedOrders = true) (hB : Region.lexTailB .any l.toArray n = true) (hwd : w.drew = wd)
    (h : wpStill P l.toArray wd (fun a' => wpList P l.toArray Q (l.drop n) a' wd) (l.take n) a) : (Code.region id l.toArray true).wp P Q a w := by
  subst hwd
  exact wp_region_still_tail n hm hB h
theorem below_drew {B : Nat} {a w : World} (h : Below B a w) : Below B a w.drew := ⟨h.os, h.tape, h.output, h.size, h.block⟩
theorem node_cells (w : World) (x : Nd) {wd : World} (h : (w.alloc (.cells #[.int .i64 x.parent, .string ⟨x.name.toArray⟩, .int .i64 x.value] 52)).drew = wd) :
    wd.cell? ⟨w.heap.size, 0, none⟩ = some (.int .i64 x.parent) ∧ wd.cell? ⟨w.heap.size, 1, none⟩ = some (.string ⟨x.name.toArray⟩) ∧ wd.cell? ⟨w.heap.size, 2, none⟩ = some (.int .i64 x.value) ∧ wd.heap.size = w.heap.size + 1 := by
  subst h
  exact ⟨by simp, by simp, by simp, by simp⟩

theorem validTree_any (A : Option Addr) (c : Nat) (t : List Nd) (w : World) (hn : t.length ≤ 2000000) (hcap : t.length ≤ c) (hS : Short t) (hr : Rd w w.heap.size 3 A t.length (nds t)) :
    Calls Try.prog 17 #[.slice A t.length c] w (PBool w (validN t)) := by
  have HS := Lib.hid hS
  clear hS
  by_cases hl : 1 ≤ t.length ∧ t.length ≤ 12
  · obtain ⟨hl1, hl2⟩ := hl
    obtain ⟨b0, off0, x0, rfl, hb0, hx0, hd1, hd2, hd3⟩ := hr.nd (k := 0) (by omega)
    simp only [Nat.zero_mul, Nat.add_zero] at hd1 hd2 hd3
    by_cases hp : x0.parent = -1
    · have hp' : (x0.parent != -1) = false := by simp [hp]
      by_cases hnm : x0.name = []
      · have hnm' : (x0.name == []) = true := by simp [hnm]
        obtain ⟨i0, hi, hz0, hz1, hz2⟩ := info_int
        have HX0 := Lib.hid (And.intro hx0 (And.intro hp hnm))
        clear hx0 hp hnm
        go_enter Try.func17, Try.ntmps17
        go_wp2_with (at_make; refine wpList_make_full _ rfl _ _ 63 rfl w.heap.size 3 i0 (.int .i64 0) 1 Try.underlying63 hi hz0 hz1 .i64 .i64 _ _ t.length rfl rfl rfl rfl (by rw [hz2]; omega) (by unfold maxLen; omega) (Nat.le_refl _) ?_; intro w1 hown hg1)
        rw [made_ints] at hown
        have hb1 : Below w.heap.size w w1 := ⟨hg1.os, hg1.tape, hg1.output, hg1.size, fun k hk => hg1.block k hk (by simp)⟩
        obtain ⟨D, hD⟩ : ∃ D, D = w.heap.size := ⟨_, rfl⟩
        rw [← hD] at hown ⊢
        have HD := Lib.hid hD
        clear hD hg1
        go_wp2
        go_loopg [31] t.length (fun gk i wr => ∃ (k : Nat) (ds : List Int), k ≤ t.length ∧ gk = t.length - k ∧ i = .int .i64 k ∧ Hid (nodesOk t k) ∧ ds.length = t.length ∧ Hid (∀ j : Nat, j < k → ds[j]? = some (((path t j).length : Int) - 1)) ∧ Hid (ds[0]? = some 0) ∧
          wr.ownsRow D 3 1 (.slice (some ⟨D, 0, none⟩) t.length t.length) t.length (ints ds) ∧ Below w.heap.size w wr)
        case atStart => exact ⟨0, List.replicate t.length 0, Nat.zero_le _, rfl, rfl, nodesOk_zero t, by simp, (show ∀ j : Nat, j < 0 → _ by intro j h; omega), (show (List.replicate t.length (0 : Int))[0]? = some 0 by rw [List.getElem?_replicate, if_pos (by omega)]), hown, hb1⟩
        case round =>
          clear hown hb1 hd1 hd2 hd3
          obtain ⟨k, ds, hk, rfl, rfl, HN, hdl, HDS, HD0, hown, hb⟩ := hrel
          by_cases hlt : k < t.length
          · obtain ⟨b, off, x, hA, hbl, hx, hc1, hc2, hc3⟩ := (hr.below hb).nd hlt
            injection hA with hA
            injection hA with e1 e2
            subst e1 e2
            have hrt := (hr.take (k := k) (by omega))
            rw [nds_take] at hrt
            have HX := Lib.hid hx
            clear hx
            have hcz := (own_frozen hown)
            have hb2 := hb.alloc hb.size (.cells #[.int .i64 x.parent, .string ⟨x.name.toArray⟩, .int .i64 x.value] 52)
            have hown2 := hown.alloc (.cells #[.int .i64 x.parent, .string ⟨x.name.toArray⟩, .int .i64 x.value] 52)
            go_wp2_with fail
            refine (within_any _ _ _ _).mono ?_
            rintro e w2 ⟨rfl, rfl⟩
            by_cases hv : -1000 ≤ x.value ∧ x.value ≤ 1000
            · rw [decide_eq_true hv]
              by_cases hk0 : k = 0
              · subst hk0
                have HN1 : Hid (nodesOk t (0 + 1)) := by
                  obtain ⟨hx0, hp0, hn0⟩ := HX0.out
                  obtain rfl := Option.some.inj (hx0.symm.trans HX.out)
                  exact nodesOk_succ HN.out hx0 (node_root_ok hv hp0 hn0)
                have HDS1 : Hid (∀ j : Nat, j < 0 + 1 → ds[j]? = some (((path t j).length : Int) - 1)) := by
                  intro j hj
                  have hj0 : j = 0 := by omega
                  subst hj0
                  have := path_len_root HN1.out
                  rw [HD0.out]
                  simp [this]
                clear hv
                go_wp2
                go_roundg (t.length - (0 + 1))
                case measure => omega
                case rel => exact ⟨0 + 1, ds, by omega, rfl, by go_num, HN1, hdl, HDS1, HD0, hown2, hb2⟩
              · have hk0' : ((k : Int) == 0) = false := by simp [hk0]
                go_wp2_with fail
                refine (within_any _ _ _ _).mono ?_
                rintro e w2 ⟨rfl, rfl⟩
                by_cases hpp : 0 ≤ x.parent ∧ x.parent ≤ (k : Int) - 1
                · rw [decide_eq_true hpp]
                  go_wp2_with fail
                  refine (isName_at _ _ (HS.out.get HX.out)).mono ?_
                  rintro e w2 ⟨rfl, rfl⟩
                  cases hnm : nameOk x.name
                  · have HE := Lib.hid (validN_bad HX.out (node_name hk0 hnm))
                    clear hpp hk0 hv hnm
                    go_wp2
                    go_ret
                    exact ⟨ret_bool HE.out.symm, hb2⟩
                  · have HNM := Lib.hid hnm
                    have hkc : k ≤ c := by omega
                    have hHN := HN.out
                    obtain ⟨pn, hpn⟩ := Int.eq_ofNat_of_zero_le hpp.1
                    have hpk : pn < k := by omega
                    have hln := path_len_ok hHN hpp.1 (by omega) hk
                    obtain ⟨dn, hdn⟩ : ∃ dn : Nat, (path t x.parent).length = dn + 1 := ⟨(path t x.parent).length - 1, by omega⟩
                    have hcd := own_at hown2 (j := pn) (u := .int .i64 (dn : Int)) (by
                      have := HDS.out pn hpk
                      rw [hpn] at hdn
                      unfold ints
                      rw [List.getElem?_map, this, hdn]
                      simp)
                    have hls := path_len_step hHN HX.out ⟨hpp.1, by omega⟩
                    have hdn4 : dn ≤ 4 := by omega
                    clear hHN hnm
                    rw [hdn] at hls
                    go_wp2_with fail
                    obtain ⟨wd, hwd⟩ : ∃ wd, (wr.alloc (.cells #[.int .i64 x.parent, .string ⟨x.name.toArray⟩, .int .i64 x.value] 52)).drew = wd := ⟨_, rfl⟩
                    obtain ⟨hq0, hq1, hq2, hqs⟩ := node_cells wr x hwd
                    have hb3 := below_drew hb2
                    have hown3 := own_drew hown2
                    have hcd3 : wd.cell? ⟨D, pn, none⟩ = some (.int .i64 (dn : Int)) := by rw [← hwd]; exact hcd
                    rw [hwd] at hb3 hown3
                    have hrt3 := (hrt.below hb3).more hb3.size
                    rw [hpn] at hq0
                    have hwd2 : (wr.alloc (.cells #[.int .i64 (pn : Int), .string ⟨x.name.toArray⟩, .int .i64 x.value] 52)).drew = wd := by rw [← hpn]; exact hwd
                    clear hwd hb2 hown2 hcd hown hb
                    refine still_tail_as 7 (by kernel_rfl) (by kernel_rfl) hwd2 ?_
                    clear hwd2
                    simp only [List.take_succ_cons, List.take_zero, List.drop_succ_cons, List.drop_zero]
                    repeat still_step
                    try refine wpStill_nil ?_
                    go_wp2_with fail
                    refine (kidIn_at _ c k (t.take k) _ _ _ (by rw [List.length_take]; omega) (by rw [List.length_take]; omega) hrt3).mono ?_
                    rintro e w3 ⟨rfl, hb4⟩
                    have hDlt : D < wd.heap.size := by
                      obtain ⟨g, hg1, _, hg2, _⟩ := own_addr hown3 (by omega)
                      injection hg1 with hg1
                      injection hg1 with hg1
                      omega
                    have hown4 := own_below hown3 hb4 (Nat.le_refl _)
                    have hb5 := hb3.trans (hb4.mono hb3.size)
                    have hr0 := (hb4.cell (p := ⟨wr.heap.size, 0, none⟩) (by simp only; omega)).trans hq0
                    have hcd4 := (hb4.cell (p := ⟨D, pn, none⟩) hDlt).trans hcd3
                    rcases kid_lt (t.take k) (pn : Int) x.name with hkd | hkd
                    · rw [hkd]
                      have hfz := own_frozen hown4 k
                      have hown5 := own_set hown4 (.int .i64 ((dn : Int) + 1)) (j := k)
                      have hset : (ints ds).set k (.int .i64 ((dn : Int) + 1)) = ints (ds.set k ((dn : Int) + 1)) := by simp [ints, List.map_set]
                      rw [hset] at hown5
                      have hsame := own_at hown5 (j := k) (u := .int .i64 ((dn : Int) + 1)) (by unfold ints; rw [List.getElem?_map, List.getElem?_set_self (by omega)]; rfl)
                      have hold := own_at hown4 (j := k) (u := .int .i64 (ds.getD k 0)) (by unfold ints; rw [List.getElem?_map, List.getD_eq_getElem?_getD, List.getElem?_eq_getElem (by omega)]; rfl)
                      have hb6 := hb5.setCell (p := ⟨D, k, none⟩) (by simp only; have := HD.out; omega) (.int .i64 ((dn : Int) + 1))
                      have hlk : (ds.set k ((dn : Int) + 1)).length = t.length := by rw [List.length_set]; exact hdl
                      have hkt : k < t.length := hlt
                      have hpt : pn < t.length := by omega
                      have HKD := Lib.hid hkd
                      have HPN := Lib.hid hpn
                      have hv1 := hv.1
                      have hv2 := hv.2
                      have HDS2 : Hid (∀ j : Nat, j < k + 1 → (ds.set k ((dn : Int) + 1))[j]? = some (((path t j).length : Int) - 1)) := by
                        intro j hj
                        by_cases e : j = k
                        · subst e
                          rw [List.getElem?_set_self (by omega), hls]
                          congr 1
                          omega
                        · rw [List.getElem?_set_ne (by omega)]
                          exact HDS.out j (by omega)
                      have HD02 : Hid ((ds.set k ((dn : Int) + 1))[0]? = some 0) := by
                        show _ = _
                        rw [List.getElem?_set_ne (by omega)]
                        exact HD0.out
                      clear hkd hpn hpp hcd3 hown3 hq0 hq1 hq2 hrt3 hb3 hset hown4 hv
                      by_cases hdeep : 4 ≤ dn
                      · have HE := Lib.hid (validN_bad HX.out (node_deep hk0 (by rw [hls]; omega)))
                        clear hk0 hls hdn hln
                        go_wp2
                        go_ret
                        exact ⟨ret_bool HE.out.symm, hb6⟩
                      · have hdn3 : dn ≤ 3 := by omega
                        have HN1 : Hid (nodesOk t (k + 1)) := nodesOk_succ HN.out HX.out (node_ok hk0 ⟨hv1, hv2⟩ (by rw [HPN.out]; omega) HNM.out (by rw [HPN.out]; exact HKD.out) (by rw [hls]; omega))
                        clear hk0 hls hdn hln
                        go_wp2
                        go_roundg (t.length - (k + 1))
                        case measure => omega
                        case rel => exact ⟨k + 1, _, by omega, rfl, by go_num, HN1, hlk, HDS2, HD02, hown5, hb6⟩
                    · have hge : 0 ≤ kid (t.take k) (pn : Int) x.name := hkd.1
                      have HE := Lib.hid (validN_bad HX.out (node_kid hk0 (by rw [hpn]; omega)))
                      clear hpp hk0 hv hr0 hcd4 hcd3 hown4 hown3 hq0 hq1 hq2 hrt3 hb3 hls
                      go_wp2
                      go_ret
                      exact ⟨ret_bool HE.out.symm, hb5⟩
                · rw [decide_eq_false hpp]
                  have HE := Lib.hid (validN_bad HX.out (node_parent hk0 (fun h => hpp (by omega))))
                  clear hpp hk0 hv
                  go_wp2
                  go_ret
                  exact ⟨ret_bool HE.out.symm, hb2⟩
            · rw [decide_eq_false hv]
              have HE := Lib.hid (validN_bad HX.out (node_value hv))
              clear hv
              go_wp2
              go_ret
              exact ⟨ret_bool HE.out.symm, hb2⟩
          · have HE := Lib.hid (validN_good ⟨hl1, hl2⟩ HN.out (by omega))
            go_wp2
            go_ret
            exact ⟨ret_bool HE.out.symm, hb⟩
      · have hnm' : (x0.name == []) = false := by simp [hnm]
        have HE : Hid (validN t = false) := validN_bad hx0 (node_root fun h => hnm h.2)
        clear hnm hx0
        go_enter Try.func17, Try.ntmps17
        go_wp2
        go_ret
        exact ⟨ret_bool HE.out.symm, Below.refl _ _⟩
    · have hp' : (x0.parent != -1) = true := by simp [hp]
      have HE : Hid (validN t = false) := validN_bad hx0 (node_root fun h => hp h.1)
      clear hp hx0
      go_enter Try.func17, Try.ntmps17
      go_wp2
      go_ret
      exact ⟨ret_bool HE.out.symm, Below.refl _ _⟩
  · have HE : Hid (validN t = false) := validN_len hl
    go_enter Try.func17, Try.ntmps17
    by_cases h1 : t.length < 1
    · have h0 : t.length = 0 := by omega
      clear hl hr
      go_wp2
      go_ret
      exact ⟨ret_bool HE.out.symm, Below.refl _ _⟩
    · have h2 : 12 < t.length := by omega
      clear hl hr
      go_wp2
      go_ret
      exact ⟨ret_bool HE.out.symm, Below.refl _ _⟩
end Go.Proofs.Ytgikfdanamjilaa
