/- Contracts: slices.Reverse of ints, impl.PathTo, impl.PathText. -/
import Derived.Test.YtgofokifcplmoaaDoorTreE
import Derived.Test.YtgofokifcplmoaaDoorBld
import Derived.BigRegion
import Derived.RegionTactic
import Derived.ChangeAlike
namespace Go.Proofs.YtgofokifcplmoaaDoor
open Go.RowKit
set_option maxRecDepth 100000
open Tl (Nd nameOk kid path validN validN_iff nodeOk nodesOk ValidN Grows pathText nameOf)

/-- k exchanges from the two ends of l have made cur. -/
def Rev (l cur : List Int) (k : Nat) : Prop := cur.length = l.length ∧ ∀ m, m < l.length → cur[m]? = if m < k ∨ l.length ≤ m + k then l[l.length - 1 - m]? else l[m]?
theorem Rev.zero (l : List Int) : Rev l l 0 := ⟨rfl, fun m hm => by rw [if_neg (by omega)]⟩
theorem Rev.step {l cur : List Int} {k jn : Nat} {a b : Int} (h : Rev l cur k) (hj : jn + 1 + k = l.length) (hk : k < jn) (ha : cur[k]? = some a) (hb : cur[jn]? = some b) : Rev l ((cur.set k b).set jn a) (k + 1) := by
  have h1 := h.1
  refine ⟨by rw [List.length_set, List.length_set]; exact h1, fun m hm => ?_⟩
  have ea := h.2 k (by omega)
  have eb := h.2 jn (by omega)
  rw [if_neg (by omega), ha] at ea
  rw [if_neg (by omega), hb] at eb
  by_cases e1 : m = jn
  · subst e1
    rw [List.getElem?_set_self (by rw [List.length_set]; omega), if_pos (by omega), ea]
    congr 1; omega
  · rw [List.getElem?_set_ne (by omega)]
    by_cases e2 : m = k
    · subst e2
      rw [List.getElem?_set_self (by omega), if_pos (by omega), eb]
      congr 1; omega
    · rw [List.getElem?_set_ne (by omega), h.2 m hm]
      by_cases e3 : m < k ∨ l.length ≤ m + k
      · rw [if_pos e3, if_pos (by omega)]
      · rw [if_neg e3, if_neg (by omega)]
theorem Rev.done {l cur : List Int} {k : Nat} (h : Rev l cur k) (hk : l.length ≤ 2 * k + 1) : cur = l.reverse := by
  apply List.ext_getElem?
  intro m
  by_cases hm : m < l.length
  · rw [h.2 m hm, List.getElem?_reverse hm]
    by_cases e : m < k ∨ l.length ≤ m + k
    · rw [if_pos e]
    · rw [if_neg e]; congr 1; omega
  · rw [List.getElem?_eq_none (by rw [h.1]; omega), List.getElem?_eq_none (by rw [List.length_reverse]; omega)]

set_option maxHeartbeats 1000000 in
theorem sReverse_any (g c base : Nat) (xs : List Int) (w : World) (hn : xs.length ≤ 100000) (hown : w.ownsRow base 3 1 (.slice (some ⟨g, 0, none⟩) xs.length c) xs.length (ints xs)) :
    Calls Tryd.prog 21 #[.slice (some ⟨g, 0, none⟩) xs.length c] w fun e w' => e = .returned (.tuple #[]) ∧ w'.ownsRow base 3 1 (.slice (some ⟨g, 0, none⟩) xs.length c) xs.length (ints xs.reverse) ∧ w.grownBy w' (some g) := by
  go_enter Tryd.func21, Tryd.ntmps21
  go_wp2
  go_loopg [2, 3] xs.length (fun gk si sj wr => ∃ (k : Nat) (jz : Int) (cur : List Int), si = .int .i64 k ∧ sj = .int .i64 jz ∧ jz = (xs.length : Int) - 1 - k ∧ k ≤ xs.length ∧ gk = xs.length - k ∧ Hid (Rev xs cur k) ∧
    wr.ownsRow base 3 1 (.slice (some ⟨g, 0, none⟩) xs.length c) xs.length (ints cur) ∧ w.grownBy wr (some g))
  case atStart => exact ⟨0, (xs.length : Int) - 1, xs, rfl, rfl, by omega, by omega, rfl, Rev.zero xs, hown, grown_refl _ _⟩
  case round =>
    clear hown
    obtain ⟨k, jz, cur, rfl, rfl, hjz, hk, rfl, HR, hown, hg⟩ := hrel
    by_cases hlt : (k : Int) < jz
    · obtain ⟨jn, rfl⟩ := Int.eq_ofNat_of_zero_le (a := jz) (by omega)
      have hkj : k < jn := by omega
      have hjl : jn + 1 + k = xs.length := by omega
      have hjx : jn < xs.length := by omega
      have hkx : k < xs.length := by omega
      have hlen := HR.out.1
      obtain ⟨a, ha⟩ : ∃ a, cur[k]? = some a := ⟨_, List.getElem?_eq_getElem (by omega)⟩
      obtain ⟨b, hb⟩ : ∃ b, cur[jn]? = some b := ⟨_, List.getElem?_eq_getElem (by omega)⟩
      have HR2 := Lib.hid (HR.out.step hjl hkj ha hb)
      have hca := own_at hown (j := k) (u := .int .i64 a) (by unfold ints; rw [List.getElem?_map, ha]; rfl)
      have hcb := own_at hown (j := jn) (u := .int .i64 b) (by unfold ints; rw [List.getElem?_map, hb]; rfl)
      have hf1 := own_frozen hown k
      have hf2 := own_frozen hown jn
      have ho2 := own_set (own_set hown (.int .i64 b) (j := k)) (.int .i64 a) (j := jn)
      have hset : ((ints cur).set k (.int .i64 b)).set jn (.int .i64 a) = ints ((cur.set k b).set jn a) := by simp [ints, List.map_set]
      rw [hset] at ho2
      have hg2 : w.grownBy ((wr.setCell ⟨g, k, none⟩ (.int .i64 b)).setCell ⟨g, jn, none⟩ (.int .i64 a)) (some g) :=
        grown_trans hg (grown_trans (grown_setCell' wr ⟨g, k, none⟩ (.int .i64 b)) (grown_setCell' _ ⟨g, jn, none⟩ (.int .i64 a)))
      clear ha hb hlen hjz hset hown hg
      go_wp2
      go_region
      go_wp2
      go_roundg (xs.length - (k + 1))
      case measure => omega
      case rel => exact ⟨k + 1, (jn : Int) - 1, _, by go_num, rfl, by omega, by omega, rfl, HR2, own_drew ho2, grown_drewN hg2 1⟩
    · have HE := Lib.hid (HR.out.done (by omega))
      go_wp2
      go_end0
      exact ⟨rfl, by rw [← HE.out]; exact hown, hg⟩

/-- What PathTo answers. -/
noncomputable def pathN (t : List Nd) (i : Int) : List Int := if isN t i then path t i else []
theorem path_up {t : List Nd} (hg : Grows t) {j : Nat} {n : Nd} (hn : t[j]? = some n) : path t (j : Int) = path t n.parent ++ [(j : Int)] ∧ -1 ≤ n.parent ∧ n.parent < j := by
  have h1 := Tl.path_step hg (i := (j : Int)) (by omega)
  have h2 := Tl.par_lt hg (i := (j : Int)) (by omega)
  rw [Tl.par_of hn] at h1 h2
  exact ⟨h1, h2.2, h2.1⟩
theorem path_len_le {t : List Nd} (h : ValidN t) {i : Int} (h0 : 0 ≤ i) (hi : i < t.length) : 1 ≤ (path t i).length ∧ (path t i).length ≤ 5 := path_len_ok h.2 h0 hi (Nat.le_refl _)
theorem pathN_len (t : List Nd) (i : Int) : (pathN t i).length ≤ 5 := by
  unfold pathN
  split
  · rename_i h
    have h1 := isN_iff.1 h
    exact (path_len_le (validN_iff.1 h1.2) h1.1.1 h1.1.2).2
  · simp
set_option maxHeartbeats 1000000 in
theorem pathTo_any (A : Option Addr) (c : Nat) (t : List Nd) (i : Int) (w : World) (hn : t.length ≤ 10000) (hcap : t.length ≤ c) (hS : Short t) (hr : Rd w w.heap.size 3 A t.length (nds t)) :
    Calls Tryd.prog 8 #[.slice A t.length c, .int .i64 i] w (PInts w (pathN t i)) := by
  go_enter Tryd.func8, Tryd.ntmps8
  go_wp2_with fail
  refine (isNode_any A c t i _ (by omega) hcap hS hr).mono ?_
  rintro e w1 ⟨rfl, hb1⟩
  cases hN : isN t i
  · have HE : Hid (pathN t i = []) := by show _ = _; simp [pathN, hN]
    clear hN
    go_wp2
    go_ret
    rw [HE.out]
    exact ⟨none, 0, rfl, World.ownsRow_nil _ _ _ _, hb1⟩
  · have HE : Hid (pathN t i = path t i) := by show _ = _; simp [pathN, hN]
    have HG := Lib.hid (isN_grows hN)
    have hr1 := hr.step hb1
    have hlen := pathN_len t i
    rw [HE.out] at hlen
    have hne := Lib.hid (Tl.path_ne_nil HG.out (isN_iff.1 hN).1.1)
    have hN' := (isN_iff.1 hN).1
    obtain ⟨hi0, hi1⟩ := hN'
    clear hN hr
    go_wp2
    go_loopg [5, 6] (i + 1).toNat (fun gk ov iv wr => ∃ (z : Int) (acc : List Int) (A' : Option Addr) (c' : Nat), iv = .int .i64 z ∧ ov = .slice A' acc.length c' ∧ gk = (z + 1).toNat ∧ -1 ≤ z ∧ z < (t.length : Int) ∧ Hid (path t i = path t z ++ acc.reverse) ∧ acc.length ≤ 5 ∧
      wr.ownsRow w1.heap.size 3 1 ov acc.length (ints acc) ∧ Below w1.heap.size w1 wr)
    case atStart => exact ⟨i, [], none, 0, rfl, rfl, rfl, by omega, hi1, (show _ = _ by simp), by simp, World.ownsRow_nil _ _ _ _, Below.refl _ _⟩
    case round =>
      clear hi0 hi1
      obtain ⟨z, acc, A', c', rfl, rfl, rfl, hz0, hz1, HP, hal, hown, hb⟩ := hrel
      by_cases hz : 0 ≤ z
      · obtain ⟨j, rfl⟩ := Int.eq_ofNat_of_zero_le hz
        have hjl : j < t.length := by omega
        obtain ⟨b, off, x, rfl, hbl, hx, hc1, hc2, hc3⟩ := (hr1.below hb).nd hjl
        obtain ⟨hp1, hp2, hp3⟩ := path_up HG.out hx
        have HP2 : Hid (path t i = path t x.parent ++ (acc ++ [(j : Int)]).reverse) := by
          show _ = _
          rw [HP.out, hp1]; simp
        have hlen2 : (acc ++ [(j : Int)]).length ≤ 5 := by
          have := congrArg List.length HP2.out
          rw [List.length_append, List.length_reverse] at this
          omega
        have hbs := hb.size
        clear hx hp1 hc2 hc3
        go_wp2_with (at_builtin; refine wpList_push_int rfl _ _ rfl rfl hown rfl rfl (by omega) (by omega) ?_; intro A2 c2 w2 ho2 hb2 _; have hc5 := ((hb2.cell (p := ⟨b, off + j * 3, none⟩) hbl).trans hc1))
        have hb3 := hb.trans hb2
        have hle : (acc ++ [(j : Int)]).length = acc.length + 1 := by simp
        rw [← hle] at ho2 ⊢
        clear hown hb hb2
        go_wp2
        go_roundg (x.parent + 1).toNat
        case measure => omega
        case rel => exact ⟨x.parent, _, A2, c2, rfl, rfl, rfl, hp2, by omega, HP2, hlen2, ho2, hb3⟩
      · have hz' : z = -1 := by omega
        have HP2 : Hid (acc.reverse = path t i) := by
          show _ = _
          rw [HP.out, hz', Tl.path_neg]; simp
        have hpos : 0 < acc.length := by
          have := List.length_pos_iff.2 hne.out
          rw [← HP2.out, List.length_reverse] at this
          exact this
        obtain ⟨g, rfl, hg1, hg2, _⟩ := own_addr hown hpos
        clear hz'
        go_wp2_with fail
        refine (sReverse_any g c' w1.heap.size acc _ (by omega) hown).mono ?_
        rintro e w2 ⟨rfl, ho2, hgw⟩
        have hb2 := hb1.trans (hb.mono hb1.size)
        have hb3 := hb2.trans (grown_below hgw (Nat.le_trans hb1.size hg1) hb2.size)
        have ho3 := own_base ho2 hb1.size
        have hlr : acc.reverse.length = acc.length := List.length_reverse
        clear hown hb hb2 ho2 hgw
        go_wp2
        go_ret
        rw [HE.out, ← HP2.out]
        exact ⟨_, c', ret_slice hlr.symm, by rw [hlr]; exact ho3, hb3⟩
end Go.Proofs.YtgofokifcplmoaaDoor
