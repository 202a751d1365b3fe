/- Contracts: the draws of waits. -/
import Derived.Test.YtfhofincbekadaaReader
import Derived.Test.YtfhofincbekadaaWts
namespace Go.Proofs.Ytfhofincbekadaa
open Go.RowKit
open Tl (Wt)

def PDrawW (w : World) (g p : Nat) (e : Ending) (w' : World) : Prop :=
  ∃ (ws : List Wt) (A : Option Addr) (c p' : Nat), e = .returned (.slice A ws.length c) ∧ w'.ownsRow w.heap.size 40 2 (.slice A ws.length c) ws.length (wts ws) ∧ ws.length ≤ 13 ∧ Reader w' g p' ∧ p' ≤ p + 40 ∧ w.grownBy w' (some g)

theorem anyWaits_any (g p : Nat) (w : World) (hr : Reader w g p) (hp : p ≤ 1000) : Calls Try.prog 43 #[.pointer (some ⟨g, 0, none⟩)] w (PDrawW w g p) := by
  have hgl := hr.lt
  go_enter Try.func43, Try.ntmps43
  go_wp2_with fail
  have hg1 := grown_alloc (grown_refl w (some g)) (.cells #[] 40)
  have hr2 := (hr.grown (grown_alloc (grown_alloc (grown_refl w none) (.cells #[] 40)) (.cells (ints [3, 4, 5, 2, 1, 0, 12, 13]).toArray 3)) (by simp))
  refine (one_any g p (some ⟨w.heap.size + 1, 0, none⟩) 8 [3, 4, 5, 2, 1, 0, 12, 13] _ hr2 (by omega) (by simp) (by simp) (by have := lit_ints (w.alloc (.cells #[] 40)) [3, 4, 5, 2, 1, 0, 12, 13] 3 (g := g) (by simp; omega); simpa using this)).mono ?_
  rintro e w1 ⟨n, rfl, hn, hr1, hg⟩
  have hown := own_grown ((own_lit0 w 40 2 (Nat.le_refl _)).alloc (.cells (ints [3, 4, 5, 2, 1, 0, 12, 13]).toArray 3)) hg hgl
  have hgw := grown_trans (grown_alloc hg1 _) hg
  have hn2 : 0 ≤ n ∧ n ≤ 13 := by simp at hn; omega
  obtain ⟨m, rfl⟩ := Int.eq_ofNat_of_zero_le hn2.1
  have hm : m ≤ 13 := by omega
  clear hg hg1 hr2 hr hn hn2
  go_wp2
  go_loopg [3, 4] m (fun gk v i wr => ∃ (ws : List Wt) (A : Option Addr) (c q : Nat), i = .int .i64 gk ∧ v = .slice A ws.length c ∧ ws.length + gk ≤ 13 ∧ q + 2 * gk ≤ p + 30 ∧
    wr.ownsRow w.heap.size 40 2 v ws.length (wts ws) ∧ Reader wr g q ∧ w.grownBy wr (some g))
  case atStart => exact ⟨[], _, 0, p + 1, rfl, rfl, by simpa using hm, by omega, hown, hr1, hgw⟩
  case round =>
    clear hown hr1 hgw hm
    obtain ⟨ws, A, c, q, rfl, rfl, hl, hq, hown, hrd, hgw⟩ := hrel
    by_cases hj : 0 < gk
    · go_wp2_with fail
      refine (pick_any g q 4 _ hrd (by omega) (by omega)).mono ?_
      rintro e w2 ⟨a, rfl, ha0, ha1, _, hrd2, hg2⟩
      have ha := ha1 (by omega)
      have hown2 := own_grown hown hg2 hgl
      have hgw2 := grown_trans hgw hg2
      clear hown hgw hrd hg2 ha1
      go_wp2_with fail
      refine (pick_any g (q + 1) 3 _ hrd2 (by omega) (by omega)).mono ?_
      rintro e w3 ⟨b, rfl, hb0, hb1, _, hrd3, hg3⟩
      have hb := hb1 (by omega)
      have hown3 := own_grown hown2 hg3 hgl
      have hgw3 := grown_trans hgw2 hg3
      clear hown2 hgw2 hrd2 hg3 hb1
      go_wp2_with (at_builtin; refine wpList_push_wt rfl _ _ rfl rfl hown3 rfl rfl (by omega) hgw3.size ?_; intro A' c' w' ho' hb' _)
      have hrd4 := hrd3.below hb' hgl
      have hgw4 := grown_then hgw3 hb'
      clear hown3 hgw3 hrd3 hb'
      go_wp2
      go_roundg (gk - 1)
      case measure => omega
      case rel => exact ⟨ws ++ [⟨a, (a + 1 + b) % 4⟩], A', c', q + 1 + 1, by go_num, by simp, by simp; omega, by omega, by simpa using ho', hrd4, hgw4⟩
    · have hj0 : gk = 0 := by omega
      subst hj0
      by_cases hw : 0 < ws.length
      · go_wp2_with fail
        refine (pick_any g q 16 _ hrd (by omega) (by omega)).mono ?_
        rintro e w2 ⟨a, rfl, ha0, ha1, _, hrd2, hg2⟩
        have hown2 := own_grown hown hg2 hgl
        have hgw2 := grown_trans hgw hg2
        clear hown hgw hrd hg2 ha1
        by_cases hz : a = 0
        · subst hz
          go_wp2_with fail
          refine (pick_any g (q + 1) (ws.length : Int) _ hrd2 (by omega) (by omega)).mono ?_
          rintro e w3 ⟨b, rfl, hb0, hb1, _, hrd3, hg3⟩
          obtain ⟨k, rfl⟩ := Int.eq_ofNat_of_zero_le hb0
          have hk : k < ws.length := by have := hb1 (by omega); omega
          have hown3 := own_grown hown2 hg3 hgl
          have hgw3 := grown_trans hgw2 hg3
          clear hown2 hgw2 hrd2 hg3 hb1 hb0
          go_wp2_with fail
          have hrd4 := hrd3.grown (World.grownBy_alloc w3 (.cells (ints [4, -1, 1]).toArray 3) none) (by simp)
          refine (one_any g (q + 1 + 1) (some ⟨w3.heap.size, 0, none⟩) 3 [4, -1, 1] _ hrd4 (by omega) (by simp) (by simp) (lit_ints w3 [4, -1, 1] 3 (g := g) hrd3.lt)).mono ?_
          rintro e w4 ⟨y, rfl, _, hrd5, hg4⟩
          have hown4 := own_grown (hown3.alloc (.cells (ints [4, -1, 1]).toArray 3)) hg4 hgl
          have hgw4 := grown_trans (grown_alloc hgw3 (.cells (ints [4, -1, 1]).toArray 3)) hg4
          clear hown3 hgw3 hrd3 hrd4 hg4
          obtain ⟨gr, rfl, hgr1, hgr2, hgc⟩ := own_addr hown4 hw
          obtain ⟨x, hx⟩ : ∃ x, ws[k]? = some x := ⟨_, List.getElem?_eq_getElem hk⟩
          have hc0 := hgc (k * 2 + 0) _ (flat_get wtC 2 (fun _ => rfl) ws k 0 _ hx (by omega))
          have hc1 := hgc (k * 2 + 1) _ (flat_get wtC 2 (fun _ => rfl) ws k 1 _ hx (by omega))
          simp at hc0 hc1
          have hf0 := own_frozen hown4 (k * 2)
          have hf1 := own_frozen hown4 (k * 2 + 1)
          have ho5 := own_set (own_set hown4 (.int .i64 y) (j := k * 2)) (.int .i64 1) (j := k * 2 + 1)
          rw [wts_set (x := ⟨y, 1⟩) hk] at ho5
          have hl5 : (ws.set k ⟨y, 1⟩).length = ws.length := List.length_set
          clear hgc hx
          have hbw := ((Below.refl w.heap.size w4).setCell (p := ⟨gr, k * 2, none⟩) hgr1 (.int .i64 y)).setCell (p := ⟨gr, k * 2 + 1, none⟩) hgr1 (.int .i64 1)
          go_wp2
          go_ret
          exact ⟨ws.set k ⟨y, 1⟩, _, c, q + 3, ret_slice hl5.symm, by rw [hl5]; exact ho5, by rw [hl5]; omega, hrd5.below hbw hgl, by omega, grown_then hgw4 hbw⟩
        · have hz' : (a == 0) = false := by simp [hz]
          go_wp2
          go_ret
          exact ⟨ws, A, c, q + 1, rfl, hown2, by omega, hrd2, by omega, hgw2⟩
      · go_wp2
        go_ret
        exact ⟨ws, A, c, q, rfl, hown, by omega, hrd, by omega, hgw⟩

/-- What a draw of waits and a number leaves. -/
def PDrawW2 (w : World) (e : Ending) (w' : World) : Prop :=
  ∃ (ws : List Wt) (who : Int) (A : Option Addr) (c : Nat), e = .returned (.tuple #[.slice A ws.length c, .int .i64 who]) ∧ w'.ownsRow w.heap.size 40 2 (.slice A ws.length c) ws.length (wts ws) ∧ ws.length ≤ 13 ∧ Below w.heap.size w w'
def PDrawW1 (w : World) (e : Ending) (w' : World) : Prop :=
  ∃ (ws : List Wt) (A : Option Addr) (c : Nat), e = .returned (.slice A ws.length c) ∧ w'.ownsRow w.heap.size 40 2 (.slice A ws.length c) ws.length (wts ws) ∧ ws.length ≤ 13 ∧ Below w.heap.size w w'

theorem drawWaitsFor_any (A : Option Addr) (n c : Nat) (w : World) (h : Code8 w A n c) : Calls Try.prog 22 #[.slice A n c] w (PDrawW2 w) := by
  go_enter Try.func22, Try.ntmps22
  go_wp2_with fail
  refine (newReader_any A n c _ h).mono ?_
  rintro e w1 ⟨g, rfl, hr1, hg, hb1⟩
  go_wp2_with fail
  refine (anyWaits_any g 0 _ hr1 (by omega)).mono ?_
  rintro e w2 ⟨ws, A2, c2, q, rfl, ho2, hl2, hr2, hq2, hg2⟩
  have ho3 := own_base ho2 hb1.size
  have hgl := hr1.lt
  have hb3 := hb1.trans (grown_below hg2 hg hb1.size)
  go_wp2_with fail
  refine (pick_any g q 6 _ hr2 (by omega) (by omega)).mono ?_
  rintro e w3 ⟨r, rfl, hr0, hr6, _, _, hg3⟩
  have hr6' := hr6 (by omega)
  have ho4 := own_grown ho2 hg3 hgl
  have hb4 := hb3.trans (grown_below hg3 hg hb3.size)
  clear hr6 ho3 hb3 hg3 ho2 hg2 hr2 hr1
  go_wp2
  go_ret2
  exact ⟨ws, r - 1, A2, c2, rfl, own_base ho4 hb1.size, hl2, hb4⟩
theorem drawDeadlockOf_any (A : Option Addr) (n c : Nat) (w : World) (h : Code8 w A n c) : Calls Try.prog 27 #[.slice A n c] w (PDrawW1 w) := by
  go_enter Try.func27, Try.ntmps27
  go_wp2_with fail
  refine (newReader_any A n c _ h).mono ?_
  rintro e w1 ⟨g, rfl, hr1, hg, hb1⟩
  go_wp2_with fail
  refine (anyWaits_any g 0 _ hr1 (by omega)).mono ?_
  rintro e w2 ⟨ws, A2, c2, q, rfl, ho2, hl2, hr2, hq2, hg2⟩
  have ho3 := own_base ho2 hb1.size
  have hb3 := hb1.trans (grown_below hg2 hg hb1.size)
  clear ho2 hg2 hr2 hr1
  go_wp2
  go_ret
  exact ⟨ws, A2, c2, rfl, ho3, hl2, hb3⟩
theorem drawVictimsOf_any (A : Option Addr) (n c : Nat) (w : World) (h : Code8 w A n c) : Calls Try.prog 34 #[.slice A n c] w (PDrawW1 w) := by
  go_enter Try.func34, Try.ntmps34
  go_wp2_with fail
  refine (newReader_any A n c _ h).mono ?_
  rintro e w1 ⟨g, rfl, hr1, hg, hb1⟩
  go_wp2_with fail
  refine (anyWaits_any g 0 _ hr1 (by omega)).mono ?_
  rintro e w2 ⟨ws, A2, c2, q, rfl, ho2, hl2, hr2, hq2, hg2⟩
  have ho3 := own_base ho2 hb1.size
  have hb3 := hb1.trans (grown_below hg2 hg hb1.size)
  clear ho2 hg2 hr2 hr1
  go_wp2
  go_ret
  exact ⟨ws, A2, c2, rfl, ho3, hl2, hb3⟩
end Go.Proofs.Ytfhofincbekadaa
