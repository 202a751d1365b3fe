/- Contracts: the draws of accesses. -/
import Derived.Test.YtfhofincbekadaaReader
import Derived.Test.YtfhofincbekadaaAcs
namespace Go.Proofs.Ytfhofincbekadaa
open Go.RowKit
open Tl (Ac)

theorem set_three {a b d : Value} : ∀ {l : List Value} {i : Nat}, i + 2 < l.length → ((l.set i a).set (i + 1) b).set (i + 2) d = l.take i ++ [a, b, d] ++ l.drop (i + 3)
  | [], i, h => by simp at h
  | [_], i, h => by simp at h
  | [_, _], i, h => by simp at h; omega
  | _ :: _ :: _ :: _, 0, _ => rfl
  | x :: y :: z :: r, i + 1, h => by
    have := set_three (a := a) (b := b) (d := d) (l := y :: z :: r) (i := i) (by simp at h ⊢; omega)
    rw [List.set_cons_succ, List.set_cons_succ, List.set_cons_succ, this]
    simp
theorem acs_set {ws : List Ac} {k : Nat} {x : Ac} (hk : k < ws.length) : (((acs ws).set (k * 3) (.int .i64 x.who)).set (k * 3 + 1) (.int .i64 x.node)).set (k * 3 + 2) (.bool x.write) = acs (ws.set k x) := by
  have hl := acs_len ws
  rw [set_three (by omega)]
  have := flat_set acC 3 (fun _ => rfl) ws k x hk
  unfold acs
  rw [this]
  have e : (k + 1) * 3 = k * 3 + 3 := by omega
  rw [e]
  rfl
def PDrawA (w : World) (g p : Nat) (e : Ending) (w' : World) : Prop :=
  ∃ (ws : List Ac) (A : Option Addr) (c p' : Nat), e = .returned (.slice A ws.length c) ∧ w'.ownsRow w.heap.size 30 3 (.slice A ws.length c) ws.length (acs ws) ∧ ws.length ≤ 17 ∧ Reader w' g p' ∧ p' ≤ p + 80 ∧ w.grownBy w' (some g)

theorem anyAccesses_any (g p : Nat) (w : World) (hr : Reader w g p) (hp : p ≤ 1000) : Calls Try.prog 37 #[.pointer (some ⟨g, 0, none⟩)] w (PDrawA w g p) := by
  have hgl := hr.lt
  go_enter Try.func37, Try.ntmps37
  go_wp2_with fail
  have hg1 := grown_alloc (grown_refl w (some g)) (.cells #[] 30)
  have hr2 := (hr.grown (grown_alloc (grown_alloc (grown_refl w none) (.cells #[] 30)) (.cells (ints [6, 8, 4, 12, 2, 0, 16, 17]).toArray 3)) (by simp))
  refine (one_any g p (some ⟨w.heap.size + 1, 0, none⟩) 8 [6, 8, 4, 12, 2, 0, 16, 17] _ hr2 (by omega) (by simp) (by simp) (by have := lit_ints (w.alloc (.cells #[] 30)) [6, 8, 4, 12, 2, 0, 16, 17] 3 (g := g) (by simp; omega); simpa using this)).mono ?_
  rintro e w1 ⟨n, rfl, hn, hr1, hg⟩
  have hown := own_grown ((own_lit0 w 30 3 (Nat.le_refl _)).alloc (.cells (ints [6, 8, 4, 12, 2, 0, 16, 17]).toArray 3)) hg hgl
  have hgw := grown_trans (grown_alloc hg1 _) hg
  have hn2 : 0 ≤ n ∧ n ≤ 17 := by simp at hn; omega
  obtain ⟨m, rfl⟩ := Int.eq_ofNat_of_zero_le hn2.1
  have hm : m ≤ 17 := by omega
  clear hg hg1 hr2 hr hn hn2
  go_wp2
  go_loopg [3, 4] m (fun gk v i wr => ∃ (ws : List Ac) (A : Option Addr) (c q : Nat), i = .int .i64 gk ∧ v = .slice A ws.length c ∧ ws.length + gk ≤ 17 ∧ q + 3 * gk ≤ p + 60 ∧
    wr.ownsRow w.heap.size 30 3 v ws.length (acs ws) ∧ Reader wr g q ∧ w.grownBy wr (some g))
  case atStart => exact ⟨[], _, 0, p + 1, rfl, rfl, by simpa using hm, by omega, hown, hr1, hgw⟩
  case round =>
    clear hown hr1 hgw hm
    obtain ⟨ws, A, c, q, rfl, rfl, hl, hq, hown, hrd, hgw⟩ := hrel
    by_cases hj : 0 < gk
    · go_wp2_with fail
      refine (pick_any g q 4 _ hrd (by omega) (by omega)).mono ?_
      rintro e w2 ⟨a, rfl, ha0, ha1, _, hrd2, hg2⟩
      have ha := ha1 (by omega)
      have hown2 := own_grown hown hg2 hgl
      have hgw2 := grown_trans hgw hg2
      clear hown hgw hrd hg2 ha1
      go_wp2_with fail
      refine (pick_any g (q + 1) 4 _ hrd2 (by omega) (by omega)).mono ?_
      rintro e w3 ⟨b, rfl, hb0, hb1, _, hrd3, hg3⟩
      have hb := hb1 (by omega)
      have hown3 := own_grown hown2 hg3 hgl
      have hgw3 := grown_trans hgw2 hg3
      clear hown2 hgw2 hrd2 hg3 hb1
      go_wp2_with fail
      refine (pick_any g (q + 1 + 1) 2 _ hrd3 (by omega) (by omega)).mono ?_
      rintro e w5 ⟨d, rfl, hd0, hd1, _, hrd5, hg5⟩
      have hd := hd1 (by omega)
      have hown5 := own_grown hown3 hg5 hgl
      have hgw5 := grown_trans hgw3 hg5
      clear hown3 hgw3 hrd3 hg5 hd1
      have hsz5 := hgw5.size
      go_wp2_with (at_builtin; go_loud (refine wpList_push_ac rfl _ _ rfl ⟨a, b, d == 0⟩ rfl (hown5.alloc _) rfl (heap_alloc_new w5 _) (by omega) (by simp; omega) ?_); intro A' c' w' ho' hb9 _)
      have hb' := ((Below.refl w.heap.size w5).alloc hsz5 _).trans hb9
      have hrd4 := hrd5.below hb' hgl
      have hgw4 := grown_then hgw5 hb'
      clear hown5 hgw5 hrd5 hb' hb9
      go_wp2
      go_roundg (gk - 1)
      case measure => omega
      case rel => exact ⟨ws ++ [⟨a, b, d == 0⟩], A', c', q + 1 + 1 + 1, by go_num, by simp, by simp; omega, by omega, by simpa using ho', hrd4, hgw4⟩
    · have hj0 : gk = 0 := by omega
      subst hj0
      by_cases hw : 0 < ws.length
      · go_wp2_with fail
        refine (pick_any g q 16 _ hrd (by omega) (by omega)).mono ?_
        rintro e w2 ⟨a, rfl, ha0, ha1, _, hrd2, hg2⟩
        have hown2 := own_grown hown hg2 hgl
        have hgw2 := grown_trans hgw hg2
        clear hown hgw hrd hg2 ha1
        by_cases hz : a = 0
        · subst hz
          go_wp2_with fail
          refine (pick_any g (q + 1) (ws.length : Int) _ hrd2 (by omega) (by omega)).mono ?_
          rintro e w3 ⟨b, rfl, hb0, hb1, _, hrd3, hg3⟩
          obtain ⟨k, rfl⟩ := Int.eq_ofNat_of_zero_le hb0
          have hk : k < ws.length := by have := hb1 (by omega); omega
          have hown3 := own_grown hown2 hg3 hgl
          have hgw3 := grown_trans hgw2 hg3
          clear hown2 hgw2 hrd2 hg3 hb1 hb0
          go_wp2_with fail
          have hrd4 := hrd3.grown (World.grownBy_alloc w3 (.cells (ints [4, -1, 0]).toArray 3) none) (by simp)
          refine (one_any g (q + 1 + 1) (some ⟨w3.heap.size, 0, none⟩) 3 [4, -1, 0] _ hrd4 (by omega) (by simp) (by simp) (lit_ints w3 [4, -1, 0] 3 (g := g) hrd3.lt)).mono ?_
          rintro e w4 ⟨y, rfl, _, hrd5, hg4⟩
          have hown4 := own_grown (hown3.alloc (.cells (ints [4, -1, 0]).toArray 3)) hg4 hgl
          have hgw4 := grown_trans (grown_alloc hgw3 (.cells (ints [4, -1, 0]).toArray 3)) hg4
          clear hown3 hgw3 hrd3 hrd4 hg4
          go_wp2_with fail
          have hrd6 := hrd5.grown (World.grownBy_alloc w4 (.cells (ints [12, -1, 11]).toArray 3) none) (by simp)
          refine (one_any g (q + 1 + 1 + 1) (some ⟨w4.heap.size, 0, none⟩) 3 [12, -1, 11] _ hrd6 (by omega) (by simp) (by simp) (lit_ints w4 [12, -1, 11] 3 (g := g) hrd5.lt)).mono ?_
          rintro e w6 ⟨z, rfl, _, hrd7, hg6⟩
          have hown6 := own_grown (hown4.alloc (.cells (ints [12, -1, 11]).toArray 3)) hg6 hgl
          have hgw6 := grown_trans (grown_alloc hgw4 (.cells (ints [12, -1, 11]).toArray 3)) hg6
          clear hown4 hgw4 hrd5 hrd6 hg6
          obtain ⟨gr, rfl, hgr1, hgr2, hgc⟩ := own_addr hown6 hw
          obtain ⟨x, hx⟩ : ∃ x, ws[k]? = some x := ⟨_, List.getElem?_eq_getElem hk⟩
          have hc0 := hgc (k * 3 + 0) _ (flat_get acC 3 (fun _ => rfl) ws k 0 _ hx (by omega))
          have hc1 := hgc (k * 3 + 1) _ (flat_get acC 3 (fun _ => rfl) ws k 1 _ hx (by omega))
          have hc2 := hgc (k * 3 + 2) _ (flat_get acC 3 (fun _ => rfl) ws k 2 _ hx (by omega))
          simp at hc0 hc1 hc2
          have hf0 := own_frozen hown6 (k * 3)
          have hf1 := own_frozen hown6 (k * 3 + 1)
          have hf2 := own_frozen hown6 (k * 3 + 2)
          have ho5 := own_set (own_set (own_set hown6 (.int .i64 y) (j := k * 3)) (.int .i64 z) (j := k * 3 + 1)) (.bool false) (j := k * 3 + 2)
          rw [acs_set (x := ⟨y, z, false⟩) hk] at ho5
          have hl5 : (ws.set k ⟨y, z, false⟩).length = ws.length := List.length_set
          clear hgc hx
          have hbw := (((Below.refl w.heap.size w6).setCell (p := ⟨gr, k * 3, none⟩) hgr1 (.int .i64 y)).setCell (p := ⟨gr, k * 3 + 1, none⟩) hgr1 (.int .i64 z)).setCell (p := ⟨gr, k * 3 + 2, none⟩) hgr1 (.bool false)
          go_wp2
          go_ret
          exact ⟨ws.set k ⟨y, z, false⟩, _, c, q + 4, ret_slice hl5.symm, by rw [hl5]; exact ho5, by rw [hl5]; omega, hrd7.below hbw hgl, by omega, grown_then hgw6 hbw⟩
        · have hz' : (a == 0) = false := by simp [hz]
          go_wp2
          go_ret
          exact ⟨ws, A, c, q + 1, rfl, hown2, by omega, hrd2, by omega, hgw2⟩
      · go_wp2
        go_ret
        exact ⟨ws, A, c, q, rfl, hown, by omega, hrd, by omega, hgw⟩

def PDrawA1 (w : World) (e : Ending) (w' : World) : Prop :=
  ∃ (ws : List Ac) (A : Option Addr) (c : Nat), e = .returned (.slice A ws.length c) ∧ w'.ownsRow w.heap.size 30 3 (.slice A ws.length c) ws.length (acs ws) ∧ ws.length ≤ 17 ∧ Below w.heap.size w w'

theorem drawConflictsOf_any (A : Option Addr) (n c : Nat) (w : World) (h : Code8 w A n c) : Calls Try.prog 16 #[.slice A n c] w (PDrawA1 w) := by
  go_enter Try.func16, Try.ntmps16
  go_wp2_with fail
  refine (newReader_any A n c _ h).mono ?_
  rintro e w1 ⟨g, rfl, hr1, hg, hb1⟩
  go_wp2_with fail
  refine (anyAccesses_any g 0 _ hr1 (by omega)).mono ?_
  rintro e w2 ⟨ws, A2, c2, q, rfl, ho2, hl2, hr2, hq2, hg2⟩
  have ho3 := own_base ho2 hb1.size
  have hb3 := hb1.trans (grown_below hg2 hg hb1.size)
  clear ho2 hg2 hr2 hr1
  go_wp2
  go_ret
  exact ⟨ws, A2, c2, rfl, ho3, hl2, hb3⟩
theorem drawSerialOrder_any (A : Option Addr) (n c : Nat) (w : World) (h : Code8 w A n c) : Calls Try.prog 30 #[.slice A n c] w (PDrawA1 w) := by
  go_enter Try.func30, Try.ntmps30
  go_wp2_with fail
  refine (newReader_any A n c _ h).mono ?_
  rintro e w1 ⟨g, rfl, hr1, hg, hb1⟩
  go_wp2_with fail
  refine (anyAccesses_any g 0 _ hr1 (by omega)).mono ?_
  rintro e w2 ⟨ws, A2, c2, q, rfl, ho2, hl2, hr2, hq2, hg2⟩
  have ho3 := own_base ho2 hb1.size
  have hb3 := hb1.trans (grown_below hg2 hg hb1.size)
  clear ho2 hg2 hr2 hr1
  go_wp2
  go_ret
  exact ⟨ws, A2, c2, rfl, ho3, hl2, hb3⟩
end Go.Proofs.Ytfhofincbekadaa
