/- Contracts: spec.DrawAsksOf; impl.TakeAll. -/
import Derived.Test.YthkkbcbbinojlaaDoorDrawT
import Derived.Test.YthkkbcbbinojlaaDoorAskA
import Derived.Test.YthkkbcbbinojlaaDoorTabF
namespace Go.Proofs.YthkkbcbbinojlaaDoor
open Go.RowKit
set_option maxRecDepth 100000
open Tl (Lk Wt okM okL validT validT_iff askOk takeLock takeAll grantAll)

theorem own_cap2 {w : World} {base : Nat} {e : TypeId} {sz n c : Nat} {A : Option Addr} {xs : List Value} (h : w.ownsRow base e sz (.slice A n c) n xs) : n ≤ c := by
  obtain ⟨_, _, hv, hc⟩ := own_slice h
  injection hv with _ _ e3
  omega
theorem lks_set0 {qs : List Lk} (h : 0 < qs.length) (a b d : Int) : (((lks qs).set 0 (.int .i64 a)).set 1 (.int .i64 b)).set 2 (.int .i64 d) = lks (qs.set 0 ⟨a, b, d⟩) := by
  cases qs with
  | nil => simp at h
  | cons x r => rfl

def PDrawK (w : World) (e : Ending) (w' : World) : Prop :=
  ∃ (ls : List Lk) (A : Option Addr) (c : Nat) (qs : List Lk) (A' : Option Addr) (c' : Nat), e = .returned (.tuple #[.slice A ls.length c, .slice A' qs.length c']) ∧ w'.ownsRow w.heap.size 36 3 (.slice A ls.length c) ls.length (lks ls) ∧ ls.length ≤ 49 ∧
    w'.ownsRow w.heap.size 36 3 (.slice A' qs.length c') qs.length (lks qs) ∧ qs.length ≤ 4 ∧ Below w.heap.size w w'

set_option maxHeartbeats 2000000 in
theorem drawAsksOf_any (A : Option Addr) (n c : Nat) (w : World) (h : Code8 w A n c) : Calls Tryd.prog 9 #[.slice A n c] w (PDrawK w) := by
  go_enter Tryd.func9, Tryd.ntmps9
  go_wp2_with fail
  refine (newReader_any A n c _ h).mono ?_
  rintro e w1 ⟨g, rfl, hr1, hg, hb1⟩
  have hg1 := hr1.lt
  go_wp2_with fail
  refine (anyTable_any g 0 _ hr1 (by omega)).mono ?_
  rintro e w2 ⟨ls, A2, c2, q, rfl, ho2, hl2, hr2, hq2, hg2⟩
  have hg22 := hr2.lt
  have hb3 := hb1.trans (grown_below hg2 hg hb1.size)
  clear h hr1 hg2 hb1
  have hq0 := own_lit0 w2 36 3 (base := w2.heap.size) (Nat.le_refl _)
  have ho3 := ho2.alloc (.cells #[] 36)
  have hap0 : Ap (.slice (some ⟨w2.heap.size, 0, none⟩) 0 0) (.slice A2 ls.length c2) := (ap_base2 (v0 := .slice A2 ls.length c2) hq0 (fun k hk => (ho2.lt k hk).2)).symm
  have hr3 := hr2.grown (grown_alloc (grown_refl w2 none) (.cells #[] 36)) (by simp)
  have hgw0 := grown_alloc (grown_refl w2 (some g)) (.cells #[] 36)
  go_wp2
  go_loopg [6, 7] 4 (fun gk v i wr => ∃ (k : Nat) (qs : List Lk) (A : Option Addr) (c p : Nat), gk = 4 - k ∧ k ≤ 4 ∧ i = .int .i64 k ∧ v = .slice A qs.length c ∧ qs.length ≤ k ∧ p ≤ q + 3 * k ∧
    wr.ownsRow w1.heap.size 36 3 (.slice A2 ls.length c2) ls.length (lks ls) ∧ wr.ownsRow w2.heap.size 36 3 (.slice A qs.length c) qs.length (lks qs) ∧ Ap (.slice A qs.length c) (.slice A2 ls.length c2) ∧ Reader wr g p ∧ w2.grownBy wr (some g))
  case atStart => exact ⟨0, [], _, 0, q, rfl, by omega, rfl, rfl, by simp, by omega, ho3, hq0, hap0, hr3, hgw0⟩
  case round =>
    clear ho2 hr2 hq0 ho3 hap0 hr3 hgw0
    obtain ⟨k, qs, A, c, p, rfl, hk, rfl, rfl, hql, hp, ho, hq, hap, hr, hgw⟩ := hrel
    by_cases hlt : k < 4
    · go_wp2_with fail
      refine (pick_any g p 3 _ hr (by omega) (by omega)).mono ?_
      rintro e w3 ⟨a, rfl, ha0, _, _, hr4, hg4⟩
      have ho4 := own_grown ho hg4 hg1
      have hq4 := own_grown hq hg4 hg22
      have hgw4 := grown_trans hgw hg4
      clear ho hq hgw hr hg4
      by_cases hz : 0 < a
      · go_wp2_with fail
        refine (pick_any g (p + 1) 8 _ hr4 (by omega) (by omega)).mono ?_
        rintro e w4 ⟨b, rfl, _, _, _, hr5, hg5⟩
        have ho5 := own_grown ho4 hg5 hg1
        have hq5 := own_grown hq4 hg5 hg22
        have hgw5 := grown_trans hgw4 hg5
        clear ho4 hq4 hgw4 hr4 hg5
        go_wp2_with fail
        refine (pick_any g (p + 1 + 1) 5 _ hr5 (by omega) (by omega)).mono ?_
        rintro e w5 ⟨d, rfl, hd0, hd1, _, hr6, hg6⟩
        have hd2 : 0 ≤ d ∧ d ≤ 10 := by have := hd1 (by omega); omega
        have ho6 := own_grown ho5 hg6 hg1
        have hq6 := own_grown hq5 hg6 hg22
        have hgw6 := grown_trans hgw5 hg6
        clear ho5 hq5 hgw5 hr5 hg6 hd0 hd1
        go_wp2_with (at_builtin; refine wpList_push_lk rfl _ _ rfl ⟨(k : Int), b, 1 + d⟩ rfl (hq6.alloc _) rfl (heap_alloc_new w5 _) (by omega) (by simp; have := hgw6.size; omega) ?_; intro A' c' w' ho' hb' hk')
        have hk2 := hk' (ho6.alloc _) hap
        have hb8 := ((Below.refl w2.heap.size w5).alloc hgw6.size (.cells #[.int .i64 (k : Int), .int .i64 b, .int .i64 (1 + d)] 36)).trans hb'
        have hr7 := hr6.below hb8 hg22
        have hgw7 := grown_then hgw6 hb8
        have hle : qs.length + 1 = (qs ++ [(⟨(k : Int), b, 1 + d⟩ : Lk)]).length := by simp
        rw [hle] at ho' hk2 ⊢
        clear hk' ho6 hq6 hgw6 hr6 hb' hb8 hap
        go_wp2
        go_roundg (4 - (k + 1))
        case measure => omega
        case rel => exact ⟨k + 1, _, A', c', p + 1 + 1 + 1, rfl, by omega, by go_num, rfl, by omega, by omega, hk2.1, ho', hk2.2, hr7, hgw7⟩
      · go_wp2
        go_roundg (4 - (k + 1))
        case measure => omega
        case rel => exact ⟨k + 1, qs, A, c, p + 1, rfl, by omega, by go_num, rfl, by omega, by omega, ho4, hq4, hap, hr4, hgw4⟩
    · have hs2 : w.heap.size ≤ w2.heap.size := hb3.size
      by_cases hw : 0 < qs.length
      · go_wp2_with fail
        refine (pick_any g p 16 _ hr (by omega) (by omega)).mono ?_
        rintro e w3 ⟨a, rfl, ha0, _, _, hr4, hg4⟩
        have ho4 := own_grown ho hg4 hg1
        have hq4 := own_grown hq hg4 hg22
        have hgw4 := grown_trans hgw hg4
        clear ho hq hgw hr hg4
        by_cases hz : a = 0
        · subst hz
          go_wp2_with fail
          have hr5 := hr4.grown (World.grownBy_alloc w3 (.cells (ints [3, 4]).toArray 3) none) (by simp)
          refine (one_any g (p + 1) (some ⟨w3.heap.size, 0, none⟩) 2 [3, 4] _ hr5 (by omega) (by simp) (by simp) (lit_ints w3 [3, 4] 3 (g := g) hr4.lt)).mono ?_
          rintro e w4 ⟨y, rfl, _, hr6, hg6⟩
          have ho6 := own_grown (ho4.alloc (.cells (ints [3, 4]).toArray 3)) hg6 hg1
          have hq6 := own_grown (hq4.alloc (.cells (ints [3, 4]).toArray 3)) hg6 hg22
          have hgw6 := grown_trans (grown_alloc hgw4 (.cells (ints [3, 4]).toArray 3)) hg6
          clear ho4 hq4 hgw4 hr4 hr5 hg6
          go_wp2_with fail
          have hr7 := hr6.grown (World.grownBy_alloc w4 (.cells (ints [0, 5]).toArray 3) none) (by simp)
          refine (one_any g (p + 1 + 1) (some ⟨w4.heap.size, 0, none⟩) 2 [0, 5] _ hr7 (by omega) (by simp) (by simp) (lit_ints w4 [0, 5] 3 (g := g) hr6.lt)).mono ?_
          rintro e w5 ⟨z, rfl, _, hr8, hg8⟩
          have ho8 := own_grown (ho6.alloc (.cells (ints [0, 5]).toArray 3)) hg8 hg1
          have hq8 := own_grown (hq6.alloc (.cells (ints [0, 5]).toArray 3)) hg8 hg22
          have hgw8 := grown_trans (grown_alloc hgw6 (.cells (ints [0, 5]).toArray 3)) hg8
          clear ho6 hq6 hgw6 hr6 hr7 hg8
          obtain ⟨gr, rfl, hgr1, hgr2, hgc⟩ := own_addr hq8 hw
          obtain ⟨x, hx⟩ : ∃ x, qs[0]? = some x := ⟨_, List.getElem?_eq_getElem hw⟩
          have hc0 := hgc (0 * 3 + 0) _ (flat_get lkC 3 (fun _ => rfl) qs 0 0 _ hx (by omega))
          have hc1 := hgc (0 * 3 + 1) _ (flat_get lkC 3 (fun _ => rfl) qs 0 1 _ hx (by omega))
          have hc2 := hgc (0 * 3 + 2) _ (flat_get lkC 3 (fun _ => rfl) qs 0 2 _ hx (by omega))
          simp at hc0 hc1 hc2
          have hf0 := own_frozen hq8 0
          have hf1 := own_frozen hq8 1
          have hf2 := own_frozen hq8 2
          have ho5 := own_set (own_set (own_set hq8 (.int .i64 y) (j := 0)) (.int .i64 1) (j := 1)) (.int .i64 z) (j := 2)
          rw [lks_set0 hw y 1 z] at ho5
          have hl5 : (qs.set 0 ⟨y, 1, z⟩).length = qs.length := List.length_set
          have hgt1 := grown_setCell' w5 ⟨gr, 0, none⟩ (.int .i64 y)
          have hgt2 := grown_setCell' (w5.setCell ⟨gr, 0, none⟩ (.int .i64 y)) ⟨gr, 1, none⟩ (.int .i64 1)
          have hgt3 := grown_setCell' ((w5.setCell ⟨gr, 0, none⟩ (.int .i64 y)).setCell ⟨gr, 1, none⟩ (.int .i64 1)) ⟨gr, 2, none⟩ (.int .i64 z)
          have ht5 := Ap.kept hap hgt3 (Ap.kept hap hgt2 (Ap.kept hap hgt1 ho8))
          have hbw := (((Below.refl w2.heap.size w5).setCell (p := ⟨gr, 0, none⟩) hgr1 (.int .i64 y)).setCell (p := ⟨gr, 1, none⟩) hgr1 (.int .i64 1)).setCell (p := ⟨gr, 2, none⟩) hgr1 (.int .i64 z)
          have hb9 := hb3.trans ((grown_below hgw8 hg hs2).trans (hbw.mono hs2))
          have hs1 : w.heap.size ≤ w1.heap.size := by omega
          clear hgc hx hgt1 hgt2 hgt3 ho8 hq8 hap
          go_wp2
          refine bodyPost_ret (v := .tuple #[.slice A2 ls.length c2, .slice (some ⟨gr, 0, none⟩) qs.length c]) (by simp [results, Tryd.results9, go_sem]) rfl ?_
          exact ⟨ls, A2, c2, qs.set 0 ⟨y, 1, z⟩, _, c, by rw [hl5], own_base ht5 hs1, hl2, by rw [hl5]; exact own_base ho5 hs2, by omega, hb9⟩
        · have hz' : (a == 0) = false := by simp [hz]
          have hb9 := hb3.trans (grown_below hgw4 hg hs2)
          go_wp2
          refine bodyPost_ret (v := .tuple #[.slice A2 ls.length c2, .slice A qs.length c]) (by simp [results, Tryd.results9, go_sem]) rfl ?_
          exact ⟨ls, A2, c2, qs, A, c, rfl, own_base ho4 (by omega), hl2, own_base hq4 hs2, by omega, hb9⟩
      · have hb9 := hb3.trans (grown_below hgw hg hs2)
        go_wp2
        refine bodyPost_ret (v := .tuple #[.slice A2 ls.length c2, .slice A qs.length c]) (by simp [results, Tryd.results9, go_sem]) rfl ?_
        exact ⟨ls, A2, c2, qs, A, c, rfl, own_base ho (by omega), hl2, own_base hq hs2, by omega, hb9⟩

theorem grantAll_at {l m : List Lk} {qs : List Lk} {k : Nat} {x : Lk} (h : grantAll l (qs.take k) = some m) (hx : qs[k]? = some x) : grantAll l (qs.take (k + 1)) = takeLock m x.who x.node x.mode := by
  rw [take_succ_at hx, Tl.grantAll_snoc, h]
  simp only [grantAll]
  cases takeLock m x.who x.node x.mode <;> rfl
theorem grantAll_stop {l : List Lk} {qs : List Lk} {k : Nat} (h : grantAll l (qs.take k) = none) : grantAll l qs = none := by
  have h1 := Tl.grantAll_snoc (qs.take k) (qs.drop k) l
  rw [List.take_append_drop, h] at h1
  exact h1

theorem takeAll_any (A : Option Addr) (c : Nat) (ls : List Lk) (A' : Option Addr) (c' : Nat) (qs : List Lk) (w : World) (hn : ls.length ≤ 100000) (hcap : ls.length ≤ c) (hn' : qs.length ≤ 100000) (hT : TabT w) (hJ : TabJ w)
    (hr : Rd w w.heap.size 3 A ls.length (lks ls)) (hr' : Rd w w.heap.size 3 A' qs.length (lks qs)) :
    Calls Tryd.prog 15 #[.slice A ls.length c, .slice A' qs.length c'] w (PTake w (takeAll ls qs)) := by
  go_enter Tryd.func15, Tryd.ntmps15
  go_wp2_with fail
  refine (validTable_any A c ls _ hn hcap hT hr).mono ?_
  rintro e w1 ⟨rfl, hb1⟩
  cases hv : validT ls
  · have HE : Hid (takeAll ls qs = none) := by show _ = _; simp [takeAll, hv]
    clear hv
    go_wp2
    refine bodyPost_ret (v := .tuple #[.slice none 0 0, .bool false]) (by simp [results, Tryd.results15, go_sem]) rfl ?_
    rw [HE.out]
    exact PTake.none_ hb1
  · have HV := Lib.hid hv
    have HE : Hid (takeAll ls qs = grantAll ls qs) := by show _ = _; simp [takeAll, hv]
    have hr1 := hr.step hb1
    clear hv hr
    go_wp2_with fail
    refine (cloneLk_any A c ls _ hn hr1).mono ?_
    rintro e w2 ⟨A2, c2, rfl, ho2, hb2⟩
    have hb3 := below_then hb1 hb2 hb1.size
    have ho3 := own_base ho2 hb1.size
    clear hb1 hb2 ho2 hr1
    go_wp2
    go_loopg [6, 18] qs.length (fun gk v iv wr => ∃ (k : Nat) (m : List Lk) (A2 : Option Addr) (c2 : Nat), gk = qs.length - k ∧ k ≤ qs.length ∧ v = .slice A2 m.length c2 ∧ iv = .int .i64 k ∧ Hid (grantAll ls (qs.take k) = some m) ∧
      wr.ownsRow w.heap.size 36 3 (.slice A2 m.length c2) m.length (lks m) ∧ Below w.heap.size w wr)
    case atStart => exact ⟨0, ls, A2, c2, rfl, by omega, rfl, rfl, (show _ = _ from rfl), ho3, hb3⟩
    case round =>
      clear ho3 hb3
      obtain ⟨k, m, A2, c2, rfl, hk, rfl, rfl, HG, hown, hb⟩ := hrel
      have hm48 : m.length ≤ 48 := (validT_iff.1 (Tl.grantAll_valid _ HV.out HG.out)).1
      by_cases hlt : k < qs.length
      · obtain ⟨b, off, x, rfl, hbl, hx, hc1, hc2, hc3⟩ := (hr'.below hb).lk hlt
        have HGN := Lib.hid (grantAll_at HG.out hx)
        have hown4 := hown.alloc (.cells #[.int .i64 x.who, .int .i64 x.node, .int .i64 x.mode] 36)
        have hb4 := hb.alloc hb.size (.cells #[.int .i64 x.who, .int .i64 x.node, .int .i64 x.mode] 36)
        have hT4 := hT.below hb4 (Nat.le_refl _)
        have hJ4 := hJ.below hb4 (Nat.le_refl _)
        have hcap4 := own_cap2 hown
        clear hx hown hb
        go_wp2_with fail
        refine (takeLock_any A2 c2 m x.who x.node x.mode _ (by omega) hcap4 hT4 hJ4 (Rd.of_own hown4)).mono ?_
        rintro e w5 ⟨A5, c5, rfl, ho5, hb5⟩
        have hb6 := below_then hb4 hb5 hb4.size
        have ho6 := own_base ho5 hb4.size
        clear hown4 hb4 hT4 hJ4 ho5 hb5 hc1 hc2 hc3
        cases ht : takeLock m x.who x.node x.mode with
        | none =>
          have HE2 : Hid (takeAll ls qs = none) := by show _ = _; rw [HE.out]; exact grantAll_stop (HGN.out.trans ht)
          simp only [Option.isSome_none]
          clear ht ho6
          go_wp2
          refine bodyPost_ret (v := .tuple #[.slice none 0 0, .bool false]) (by simp [results, Tryd.results15, go_sem]) rfl ?_
          rw [HE2.out]
          exact PTake.none_ hb6
        | some m2 =>
          have HG2 : Hid (grantAll ls (qs.take (k + 1)) = some m2) := HGN.out.trans ht
          rw [ht] at ho6
          simp only [Option.isSome_some, Option.getD_some] at ho6 ⊢
          clear ht
          go_wp2
          go_roundg (qs.length - (k + 1))
          case measure => omega
          case rel => exact ⟨k + 1, m2, A5, c5, rfl, by omega, rfl, by go_num, HG2, ho6, hb6⟩
      · have HE2 : Hid (takeAll ls qs = some m) := by
          show _ = _
          have h1 := HG.out
          rw [List.take_of_length_le (by omega)] at h1
          rw [HE.out, h1]
        go_wp2
        refine bodyPost_ret (v := .tuple #[.slice A2 m.length c2, .bool true]) (by simp [results, Tryd.results15, go_sem]) rfl ?_
        rw [HE2.out]
        exact PTake.some_ rfl hown hb
end Go.Proofs.YthkkbcbbinojlaaDoor
