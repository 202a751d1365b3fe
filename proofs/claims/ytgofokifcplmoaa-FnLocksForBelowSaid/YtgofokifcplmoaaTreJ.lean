/- Contract: impl.PathText. -/
import Derived.Test.YtgofokifcplmoaaTreI
import Derived.Test.YtgofokifcplmoaaTreF
import Derived.Test.YtgofokifcplmoaaPTree3
namespace Go.Proofs.Ytgofokifcplmoaa
open Go.RowKit
set_option maxRecDepth 100000
open Tl (Nd nameOk kid path validN validN_iff nodeOk nodesOk ValidN Grows pathText nameOf)

/-- What PathText answers. -/
noncomputable def textN (t : List Nd) (i : Int) : List UInt8 := if isN t i then pathText t i else []
/-- The text of the nodes of a way. -/
def textOf (t : List Nd) (l : List Int) : List UInt8 := l.flatMap fun n => 47 :: nameOf t n
theorem textOf_snoc (t : List Nd) (l : List Int) (n : Int) : textOf t (l ++ [n]) = textOf t l ++ 47 :: nameOf t n := by simp [textOf]
theorem nameOf_get {t : List Nd} {j : Nat} {x : Nd} (h : t[j]? = some x) : nameOf t (j : Int) = x.name := by simp [nameOf, h]
theorem path_one {t : List Nd} {i : Int} (h : isN t i = true) : (path t i).length = 1 ↔ i = 0 := by
  have hg := isN_grows h
  have h0 := (isN_iff.1 h).1
  constructor
  · intro hl
    obtain ⟨r, hr⟩ := Tl.path_head hg i h0.1 h0.2
    have hm := Tl.self_mem_path hg h0.1
    rw [hr] at hl hm
    have : r = [] := List.eq_nil_of_length_eq_zero (by simpa using hl)
    subst this
    simpa using hm
  · rintro rfl
    rw [Tl.path_zero hg]; rfl
theorem path_nodes {t : List Nd} {i : Int} (h : isN t i = true) {k : Nat} {z : Int} (hz : (path t i)[k]? = some z) : ∃ (j : Nat) (x : Nd), z = j ∧ j < t.length ∧ t[j]? = some x := by
  have h0 := (isN_iff.1 h).1
  have h1 := Tl.mem_path_le (isN_grows h) i h0.1 z (List.mem_of_getElem? hz)
  obtain ⟨j, rfl⟩ := Int.eq_ofNat_of_zero_le h1.1
  have hj : j < t.length := by omega
  exact ⟨j, t[j], rfl, hj, List.getElem?_eq_getElem hj⟩
theorem tail_take_succ {l : List Int} {k : Nat} {z : Int} (h : l[k + 1]? = some z) : l.tail.take (k + 1) = l.tail.take k ++ [z] := by
  refine take_succ_of ?_
  rw [List.getElem?_tail]; exact h

set_option maxHeartbeats 1000000 in
theorem pathText_any (A : Option Addr) (c : Nat) (t : List Nd) (i : Int) (w : World) (hn : t.length ≤ 10000) (hcap : t.length ≤ c) (hS : Short t) (hr : Rd w w.heap.size 3 A t.length (nds t)) :
    Calls Try.prog 38 #[.slice A t.length c, .int .i64 i] w fun e w' => e = .returned (.string ⟨(textN t i).toArray⟩) ∧ Below w.heap.size w w' := by
  have HS := Lib.hid hS
  go_enter Try.func38, Try.ntmps38
  go_wp2_with fail
  refine (pathTo_any A c t i _ hn hcap hS hr).mono ?_
  rintro e w1 ⟨A1, c1, rfl, ho1, hb1⟩
  have hl5 := pathN_len t i
  cases hN : isN t i
  · have HP : Hid (pathN t i = []) := by show _ = _; simp [pathN, hN]
    have HE : Hid (textN t i = []) := by show _ = _; simp [textN, hN]
    rw [HP.out]
    clear hN ho1 hl5
    go_wp2
    go_ret
    rw [HE.out]
    exact ⟨rfl, hb1⟩
  · have hPe : pathN t i = path t i := by simp [pathN, hN]
    have HE : Hid (textN t i = pathText t i) := by show _ = _; simp [textN, hN]
    have HN := Lib.hid hN
    rw [hPe] at ho1 hl5 ⊢
    have hpos : 1 ≤ (path t i).length := List.length_pos_iff.2 (Tl.path_ne_nil (isN_grows hN) (isN_iff.1 hN).1.1)
    obtain ⟨ps, hps⟩ : ∃ ps, path t i = ps := ⟨_, rfl⟩
    rw [hps] at ho1 hl5 hpos ⊢
    have HPS := Lib.hid hps
    clear hN hPe hps
    by_cases h1 : ps.length = 1
    · have h1' : ((ps.length : Int) == 1) = true := by simp [h1]
      have h0' : ((ps.length : Int) == 0) = false := by rw [h1]; rfl
      have HT : Hid (textN t i = [47]) := by
        show _ = _
        have := (path_one HN.out).1 (by rw [HPS.out]; exact h1)
        rw [HE.out]
        unfold pathText
        rw [if_pos this]
      clear h1 ho1
      go_wp2
      go_ret
      rw [HT.out]
      exact ⟨rfl, hb1⟩
    · have h1' : ((ps.length : Int) == 1) = false := by rw [beq_eq_false_iff_ne]; omega
      have h0' : ((ps.length : Int) == 0) = false := by rw [beq_eq_false_iff_ne]; omega
      have HT : Hid (textN t i = textOf t ps.tail) := by
        show _ = _
        have : i ≠ 0 := fun h => h1 (by have := (path_one HN.out).2 h; rw [HPS.out] at this; exact this)
        rw [HE.out]
        unfold pathText
        rw [if_neg this, HPS.out]; rfl
      have hp2 : 2 ≤ ps.length := by omega
      have hc2 : 2 ≤ c1 := Nat.le_trans hp2 (own_cap ho1)
      have hcc := own_cap ho1
      obtain ⟨g, rfl, hg1, hg2, hgc⟩ := own_addr ho1 (by omega)
      have hr1 := hr.below hb1
      have hgo := Lib.hid hgc
      obtain ⟨w2, hw2⟩ : ∃ w2, w1.alloc (.cells #[.pointer none, .slice none 0 0] 83) = w2 := ⟨_, rfl⟩
      have hbld : Bld w2 w1.heap.size w1.heap.size [] := by rw [← hw2]; exact Lib.IsBuilderF.of (Lib.fresh_isBuilder _ _ w1)
      have hb2 : Below w1.heap.size w1 w2 := by rw [← hw2]; exact (Below.refl _ _).alloc (Nat.le_refl _) _
      obtain ⟨D, hD⟩ : ∃ D, w1.heap.size = D := ⟨_, rfl⟩
      have hbD : w.heap.size ≤ D := by rw [← hD]; exact hb1.size
      rw [hD] at hbld hb2 hg2
      have HD := Lib.hid hD
      clear h1 hr ho1 hgc
      go_wp2
      clear hw2 hD
      go_loopg [21] ps.length (fun gk kv wr => ∃ (k : Nat) (acc : List UInt8), k + 1 ≤ ps.length ∧ gk = ps.length - k ∧ kv = .int .i64 k ∧ Hid (acc = textOf t (ps.tail.take k)) ∧ acc.length ≤ k * 3000000 ∧ Bld wr D D acc ∧ Below D w1 wr)
      case atStart => exact ⟨0, [], by omega, rfl, rfl, (show _ = _ by simp [textOf]), by simp, hbld, hb2⟩
      case round =>
        clear hbld hb2
        obtain ⟨k, acc, hk, rfl, rfl, HA, hal, hbld, hb⟩ := hrel
        have hDs : D ≤ wr.heap.size := by
          have h5 := hb.size
          rw [HD.out] at h5
          exact h5
        by_cases hlt : k + 1 < ps.length
        · obtain ⟨z, hz⟩ : ∃ z, ps[k + 1]? = some z := ⟨_, List.getElem?_eq_getElem hlt⟩
          have hcz : wr.cell? ⟨g, 1 + k, none⟩ = some (.int .i64 z) := by
            rw [hb.cell (p := ⟨g, 1 + k, none⟩) hg2]
            exact hgo.out (1 + k) _ (by unfold ints; rw [List.getElem?_map, Nat.add_comm, hz]; rfl)
          obtain ⟨j, x, rfl, hj, hx⟩ := path_nodes HN.out (by rw [HPS.out]; exact hz)
          have HZ := Lib.hid hz
          have HX := Lib.hid hx
          have hk1 : (k : Int) < (ps.length : Int) - 1 := by omega
          clear hz hx
          go_wp2_with fail
          refine (bldByte_any D D _ 47 _ hbld (by rw [Lib.byteCells_length]; omega) hDs).mono ?_
          rintro e w3 ⟨rfl, hbld3, hb3⟩
          have hb4 := hb.trans hb3
          obtain ⟨b, off, x2, rfl, hbl, hx2, hc1', hc2', hc3'⟩ := (hr1.below (hb4.mono hbD)).nd hj
          obtain rfl := Option.some.inj (hx2.symm.trans HX.out)
          have hbld4 : Bld w3 D D (acc ++ [47]) := by
            unfold Bld
            rw [Lib.byteCells_append]; exact hbld3
          have hDs3 := Nat.le_trans hDs hb3.size
          have hsz : x2.name.length ≤ 2000000 := HS.out.get HX.out
          clear hbld hb hb3 hbld3 hcz hx2 hc1' hc3'
          go_wp2_with fail
          refine (bldStr_any D D _ ⟨x2.name.toArray⟩ _ hbld4 (by rw [Lib.byteCells_length, List.length_append]; simp [ByteArray.size]; omega) hDs3).mono ?_
          rintro e w4 ⟨rfl, hbld5, hb5⟩
          have hb6 := hb4.trans hb5
          have hbld6 : Bld w4 D D (acc ++ 47 :: x2.name) := by
            unfold Bld
            have e : Lib.byteCells (acc ++ [47]) ++ Lib.strCells ⟨x2.name.toArray⟩ = Lib.byteCells (acc ++ 47 :: x2.name) := by
              rw [Lib.strCells_eq, ← Lib.byteCells_append]; simp
            rw [← e]; exact hbld5
          have HA2 : Hid (acc ++ 47 :: x2.name = textOf t (ps.tail.take (k + 1))) := by
            show _ = _
            rw [tail_take_succ HZ.out, textOf_snoc, ← HA.out, nameOf_get HX.out]
          have hal2 : (acc ++ 47 :: x2.name).length ≤ (k + 1) * 3000000 := by
            rw [List.length_append, List.length_cons]; omega
          clear hbld4 hb4 hb5 hbld5
          go_wp2
          go_roundg (ps.length - (k + 1))
          case measure => omega
          case rel => exact ⟨k + 1, _, by omega, rfl, by go_num, HA2, hal2, hbld6, hb6⟩
        · have hk1 : ¬ (k : Int) < (ps.length : Int) - 1 := by omega
          have HA2 : Hid (acc = textN t i) := by
            show _ = _
            rw [HT.out, HA.out, List.take_of_length_le (by rw [List.length_tail]; omega)]
          go_wp2_with fail
          refine (bldString_any D D acc _ hbld hDs).mono ?_
          rintro e w3 ⟨rfl, hb3⟩
          have hb4 := hb1.trans ((hb.trans hb3).mono hbD)
          rw [HA2.out]
          go_wp2
          go_ret
          exact ⟨rfl, hb4⟩
end Go.Proofs.Ytgofokifcplmoaa
