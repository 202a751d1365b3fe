/- The walk of the law FnValidTreeValue. -/
import Derived.Test.YthfmbedbaajdbaaTreKit
import Derived.Test.YthfmbedbaajdbaaTreG
namespace Go.Proofs.Ythfmbedbaajdbaa
open Go.RowKit
open Tl (Nd validN validN_iff ValidN zeroVals)

/-- The first k values are 0. -/
def zeroTo (t : List Nd) (k : Nat) : List Nd := zeroVals (t.take k) ++ t.drop k
theorem zeroTo_len (t : List Nd) (k : Nat) : (zeroTo t k).length = t.length := by simp [zeroTo, zeroVals]; omega
theorem zeroTo_zero (t : List Nd) : zeroTo t 0 = t := by simp [zeroTo, zeroVals]
theorem zeroTo_end (t : List Nd) {k : Nat} (h : t.length ≤ k) : zeroTo t k = zeroVals t := by
  unfold zeroTo
  rw [List.take_of_length_le h, List.drop_of_length_le h, List.append_nil]
theorem zeroTo_get {t : List Nd} {k : Nat} {x : Nd} (h : t[k]? = some x) : (zeroTo t k)[k]? = some x := by
  have hk := (List.getElem?_eq_some_iff.1 h).1
  have hl : (zeroVals (t.take k)).length = k := by simp [zeroVals]; omega
  unfold zeroTo
  rw [List.getElem?_append_right (by omega), hl, Nat.sub_self, List.getElem?_drop]
  simpa using h
theorem zeroTo_set {t : List Nd} {k : Nat} {x : Nd} (h : t[k]? = some x) : (zeroTo t k).set k ⟨x.parent, x.name, 0⟩ = zeroTo t (k + 1) := by
  obtain ⟨hk, hx⟩ := List.getElem?_eq_some_iff.1 h
  have hl : (zeroVals (t.take k)).length = k := by simp [zeroVals]; omega
  unfold zeroTo
  rw [List.set_append_right (h := by omega), hl, Nat.sub_self, List.drop_eq_getElem_cons hk, List.set_cons_zero, take_succ_of h]
  simp [zeroVals]
theorem zeroTo_short {t : List Nd} (h : Short t) (k : Nat) : Short (zeroTo t k) := by
  intro n hn
  rcases List.mem_append.1 hn with h1 | h1
  · obtain ⟨m, hm, rfl⟩ := List.mem_map.1 h1
    exact (show m.name.length ≤ 2000000 from h m (List.mem_of_mem_take hm))
  · exact h n (List.mem_of_mem_drop h1)

theorem valid_own {w : World} {base m c : Nat} {A : Option Addr} {u : List Nd} (hm : m = u.length) (ho : w.ownsRow base 28 3 (.slice A m c) m (nds u)) (hl : u.length ≤ 13) (hS : Short u) :
    Calls Try.prog 16 #[.slice A m c] w (PBool w (validN u)) := by
  subst hm
  exact (TreeW.own ho hl hS).valid

set_option maxHeartbeats 1000000 in
set_option maxRecDepth 100000 in
theorem law_FnValidTreeValue (A : Option Addr) (n c : Nat) (w : World) (h : Code8 w A n c) : Calls Try.prog 4 #[.slice A n c] w (PBool w true) := by
  have hle : (n : Int) ≤ 1048576 := by have := h.le; omega
  go_enter Try.func4, Try.ntmps4
  go_wp2_with fail
  refine (drawValidTree_any A n c _ h).mono ?_
  rintro e w1 ⟨t, A1, c1, rfl, ht1, hb1⟩
  clear h
  go_wp2_with fail
  refine ht1.valid.mono ?_
  rintro e w2 ⟨rfl, hb2⟩
  have ht2 := ht1.step hb2
  have hb2 := below_then hb1 hb2 hb1.size
  clear ht1 hb1
  go_wp2_with fail
  refine ht2.svalid.mono ?_
  rintro e w3 ⟨rfl, hb3⟩
  have ht3 := ht2.step hb3
  have hb3 := below_then hb2 hb3 hb2.size
  have hlen := ht3.len
  clear ht2 hb2
  cases hv : validN t
  · have HV := Lib.hid hv
    clear hv
    go_wp2_with fail
    refine ht3.svalid.mono ?_
    rintro e w4 ⟨rfl, hb4⟩
    have hb4 := below_then hb3 hb4 hb3.size
    rw [HV.out]
    go_wp2
    go_ret
    exact ⟨rfl, hb4⟩
  · have HV := Lib.hid hv
    have hpos : 1 ≤ t.length := (validN_iff.1 hv).1.1
    clear hv
    have hb0 := (Below.refl w3.heap.size w3).alloc (Nat.le_refl _) (.cells #[] 28)
    have hr3 := ht3.rd.below hb0
    have hown0 := own_lit0 w3 28 3 (Nat.le_refl _)
    go_wp2_with (at_builtin; refine wpList_join_nd (xs := []) rfl _ _ rfl rfl hown0 rfl hr3 (by omega) (by simp) ?_; intro A2 c2 w4 hne ho4 hb4 _; simp only [Nat.zero_add, List.nil_append] at ho4 ⊢)
    have hb5 := hb0.trans hb4
    have ht4 := ht3.step hb5
    obtain ⟨gz, rfl, hgz1, hgz2, _⟩ := own_addr ho4 (by omega)
    have hgz0 : w.heap.size ≤ gz := Nat.le_trans hb3.size hgz1
    have hz4 : w4.ownsRow w3.heap.size 28 3 (.slice (some ⟨gz, 0, none⟩) t.length c2) t.length (nds (zeroTo t 0)) := by rw [zeroTo_zero]; exact ho4
    clear hr3 hown0 hb0 hb4 ho4 ht4
    -- the values, one by one
    go_loopg [6] t.length (fun gk i wr => ∃ k : Nat, k ≤ t.length ∧ gk = t.length - k ∧ i = .int .i64 k ∧
      wr.ownsRow w3.heap.size 28 3 (.slice (some ⟨gz, 0, none⟩) t.length c2) t.length (nds (zeroTo t k)) ∧ Below w3.heap.size w3 wr)
    case atStart => exact ⟨0, Nat.zero_le _, rfl, rfl, hz4, hb5⟩
    case round =>
      clear hz4 hb5
      obtain ⟨k, hk, rfl, rfl, hz, hb⟩ := hrel
      by_cases hlt : k < t.length
      · obtain ⟨x, hx⟩ : ∃ x, t[k]? = some x := ⟨_, List.getElem?_eq_getElem hlt⟩
        have hg := zeroTo_get hx
        have hc2 : wr.cell? ⟨gz, k * 3 + 2, none⟩ = some (.int .i64 x.value) := own_at hz (flat_get ndC 3 (fun _ => rfl) _ k 2 _ hg (by omega))
        have hf := own_frozen hz (k * 3 + 2)
        have hz2 := own_set hz (.int .i64 0) (j := k * 3 + 2)
        rw [nds_put2 hg, zeroTo_set hx] at hz2
        have hb2 := hb.setCell (p := ⟨gz, k * 3 + 2, none⟩) hgz1 (.int .i64 0)
        clear hx hg hz hb
        go_wp2
        go_roundg (t.length - (k + 1))
        case measure => omega
        case rel => exact ⟨k + 1, by omega, rfl, by go_num, hz2, hb2⟩
      · rw [zeroTo_end t (by omega)] at hz
        have hzl : (zeroVals t).length = t.length := by simp [zeroVals]
        have htr := ht3.step hb
        have hbr := below_then hb3 hb hb3.size
        have HVZ : Hid (validN (zeroVals t) = true) := validN_iff.2 (Tl.zeroVals_valid (validN_iff.1 HV.out))
        have HSZ : Hid (Short (zeroVals t)) := by
          intro n hn
          obtain ⟨m, hm, rfl⟩ := List.mem_map.1 hn
          exact (show m.name.length ≤ 2000000 from htr.short m hm)
        obtain ⟨x0, hx0⟩ : ∃ x0, t[0]? = some x0 := ⟨_, List.getElem?_eq_getElem (by omega)⟩
        have HX0 := Lib.hid hx0
        have hb0 := (Below.refl wr.heap.size wr).alloc (Nat.le_refl _) (.cells #[] 28)
        have hr3 := htr.rd.below hb0
        have hown0 := own_lit0 wr 28 3 (Nat.le_refl _)
        have hbs := hb.size
        have hgw : gz < wr.heap.size := by
          obtain ⟨g, hg1, _, hg2, _⟩ := own_addr hz (by omega)
          injection hg1 with hg1
          injection hg1 with hg1
          omega
        clear hx0
        go_wp2_with (at_builtin; refine wpList_join_nd (xs := []) rfl _ _ rfl rfl hown0 rfl hr3 (by omega) (by simp) ?_; intro A3 c3 w5 hne3 ho5 hb5 _; simp only [Nat.zero_add, List.nil_append] at ho5 ⊢; obtain ⟨gb, rfl, hgb1, hgb2, _⟩ := own_addr ho5 (by omega); have hcb : w5.cell? ⟨gb, 1, none⟩ = some (.string ⟨x0.name.toArray⟩) := (by have := own_at ho5 (flat_get ndC 3 (fun _ => rfl) t 0 1 _ HX0.out (by omega)); simpa using this); have hfb := own_frozen ho5 1; clear hr3 hown0)
        have hb6 := (hb0.trans hb5).setCell (p := ⟨gb, 1, none⟩) hgb1 (.string ⟨([97] : List UInt8).toArray⟩)
        have hz6 := own_below hz hb6 (Nat.le_refl _)
        have hB6 := own_set ho5 (.string ⟨([97] : List UInt8).toArray⟩) (j := 1)
        have hput := nds_put1 HX0.out [97]
        rw [Nat.zero_mul, Nat.zero_add] at hput
        rw [hput] at hB6
        have hb7 := below_then hbr hb6 hbr.size
        clear ho5 hb5 hb0 hb6 hz hb hput
        refine (valid_own hzl.symm hz6 (by omega) HSZ.out).mono ?_
        rintro e w6 ⟨rfl, hb8⟩
        have hB7 := own_below hB6 hb8 (Nat.le_refl _)
        have hb9 := below_then hb7 hb8 hb7.size
        rw [HVZ.out]
        clear hB6 hb8 hb7 hz6
        have HBAD : Hid (validN (t.set 0 ⟨x0.parent, [97], x0.value⟩) = false) := by
          show _ = _
          rw [Bool.eq_false_iff, ne_eq, validN_iff]
          exact Tl.bad_root (n := ⟨x0.parent, [97], x0.value⟩) (by rw [List.getElem?_set_self (by omega)]) (by simp)
        go_wp2_with fail
        refine (valid_own (by rw [List.length_set]) hB7 (by rw [List.length_set]; omega) (short_set htr.short (by simp))).mono ?_
        rintro e w7 ⟨rfl, hb10⟩
        have hb11 := below_then hb9 hb10 hb9.size
        rw [HBAD.out]
        go_wp2
        go_ret
        exact ⟨rfl, hb11⟩
end Go.Proofs.Ythfmbedbaajdbaa
