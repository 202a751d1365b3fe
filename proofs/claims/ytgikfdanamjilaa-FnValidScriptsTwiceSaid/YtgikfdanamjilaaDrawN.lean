/- Contracts: the draws of trees. -/
import Derived.Test.YtgikfdanamjilaaReader
import Derived.Test.YtgikfdanamjilaaTreF
namespace Go.Proofs.Ytgikfdanamjilaa
open Go.RowKit
set_option maxRecDepth 100000
open Tl (Nd nameOk kid path validN validN_iff nodeOk nodesOk ValidN Grows)

/-- Lists of strings. -/
def strs (xs : List (List UInt8)) : List Value := xs.map fun x => .string ⟨x.toArray⟩
def POf (w : World) (g p : Nat) (xs : List (List UInt8)) (e : Ending) (w' : World) : Prop := ∃ x : List UInt8, e = .returned (.string ⟨x.toArray⟩) ∧ x ∈ xs ∧ Reader w' g (p + 1) ∧ w.grownBy w' (some g)
theorem lit_strs (w : World) (xs : List (List UInt8)) (e : TypeId) {g : Nat} (hg : g < w.heap.size) : ∀ k, k < xs.length → ∃ b off x, (some (⟨w.heap.size, 0, none⟩ : Addr)) = some ⟨b, off, none⟩ ∧ b < (w.alloc (.cells (strs xs).toArray e)).heap.size ∧ b ≠ g ∧ xs[k]? = some x ∧
    (w.alloc (.cells (strs xs).toArray e)).cell? ⟨b, off + k, none⟩ = some (.string ⟨x.toArray⟩) := by
  intro k hk
  refine ⟨w.heap.size, 0, xs[k], rfl, by simp, by omega, List.getElem?_eq_getElem hk, ?_⟩
  rw [cell_of_row _ w.heap.size (0 + k) _ _ _ (heap_alloc_new w _)]
  simp [strs, hk]
theorem of_any (g p : Nat) (A : Option Addr) (c : Nat) (xs : List (List UInt8)) (w : World) (hr : Reader w g p) (hp : p ≤ 1000000) (hx0 : 0 < xs.length) (hx1 : xs.length ≤ 1000)
    (hx : ∀ k, k < xs.length → ∃ b off x, A = some ⟨b, off, none⟩ ∧ b < w.heap.size ∧ b ≠ g ∧ xs[k]? = some x ∧ w.cell? ⟨b, off + k, none⟩ = some (.string ⟨x.toArray⟩)) :
    Calls Try.prog 29 #[.pointer (some ⟨g, 0, none⟩), .slice A xs.length c] w (POf w g p xs) := by
  go_enter Try.func29, Try.ntmps29
  go_wp2_with fail
  refine (pick_any g p (xs.length : Int) _ hr hp (by omega)).mono ?_
  rintro e w1 ⟨r, rfl, hr0, hr1, _, hrd, hg⟩
  obtain ⟨k, rfl⟩ := Int.eq_ofNat_of_zero_le hr0
  have hk : k < xs.length := by have := hr1 (by omega); omega
  obtain ⟨b, off, x, rfl, hb, hne, hxk, hc⟩ := hx k hk
  have hc1 := hg.cell hc (by intro e; injection e with e; exact hne e)
  clear hx hr1 hr0 hc
  go_wp2
  go_ret
  exact ⟨x, rfl, List.mem_of_getElem? hxk, hrd, hg⟩

theorem someName_any (g p : Nat) (w : World) (hr : Reader w g p) (hp : p ≤ 100000) : Calls Try.prog 39 #[.pointer (some ⟨g, 0, none⟩)] w fun e w' => ∃ x : List UInt8, e = .returned (.string ⟨x.toArray⟩) ∧ x.length ≤ 5 ∧ Reader w' g (p + 1) ∧ w.grownBy w' (some g) := by
  go_enter Try.func39, Try.ntmps39
  go_wp2_with fail
  have hr2 := hr.grown (World.grownBy_alloc w (.cells (strs [[97], [98], [99], [97, 98], [120], [122]]).toArray 9) none) (by simp)
  refine (of_any g p (some ⟨w.heap.size, 0, none⟩) 6 [[97], [98], [99], [97, 98], [120], [122]] _ hr2 (by omega) (by simp) (by simp) (lit_strs w [[97], [98], [99], [97, 98], [120], [122]] 9 (g := g) hr.lt)).mono ?_
  rintro e w1 ⟨y, rfl, hy, hrd, hg⟩
  have hgw := grown_trans (grown_alloc (grown_refl w (some g)) (.cells (strs [[97], [98], [99], [97, 98], [120], [122]]).toArray 9)) hg
  have hyl : y.length ≤ 5 := by
    simp at hy
    rcases hy with rfl | rfl | rfl | rfl | rfl | rfl <;> simp
  clear hg hr2 hr hy
  go_wp2
  go_ret
  exact ⟨y, rfl, hyl, hrd, hgw⟩

theorem someValue_any (g p : Nat) (w : World) (hr : Reader w g p) (hp : p ≤ 100000) : Calls Try.prog 37 #[.pointer (some ⟨g, 0, none⟩)] w fun e w' => ∃ x : Int, e = .returned (.int .i64 x) ∧ Reader w' g (p + 3) ∧ w.grownBy w' (some g) := by
  go_enter Try.func37, Try.ntmps37
  go_wp2_with fail
  refine (pick_any g p 40 _ hr (by omega) (by omega)).mono ?_
  rintro e w1 ⟨a, rfl, ha0, ha1, _, hrd1, hg1⟩
  have ha := ha1 (by omega)
  clear ha1
  go_wp2_with fail
  refine (pick_any g (p + 1) 250 _ hrd1 (by omega) (by omega)).mono ?_
  rintro e w2 ⟨b, rfl, hb0, hb1, _, hrd2, hg2⟩
  have hb := hb1 (by omega)
  have hgw2 := grown_trans hg1 hg2
  clear hb1 hg1 hg2
  go_wp2_with fail
  have hrd3 := hrd2.grown (World.grownBy_alloc w2 (.cells (ints [0, 1, -1, 5, 10, 100, 1000, -1000, a, 4 * b - 500]).toArray 3) none) (by simp)
  refine (one_any g (p + 1 + 1) (some ⟨w2.heap.size, 0, none⟩) 10 [0, 1, -1, 5, 10, 100, 1000, -1000, a, 4 * b - 500] _ hrd3 (by omega) (by simp) (by simp) (lit_ints w2 [0, 1, -1, 5, 10, 100, 1000, -1000, a, 4 * b - 500] 3 (g := g) hrd2.lt)).mono ?_
  rintro e w3 ⟨y, rfl, _, hrd4, hg4⟩
  have hgw4 := grown_trans (grown_alloc hgw2 (.cells (ints [0, 1, -1, 5, 10, 100, 1000, -1000, a, 4 * b - 500]).toArray 3)) hg4
  clear hg4 hrd3 hrd2 hrd1 hgw2
  go_wp2
  go_ret
  exact ⟨y, rfl, hrd4, hgw4⟩

theorem own_litS (w : World) (e : TypeId) (l : List Value) {base sz : Nat} (hb : base ≤ w.heap.size) (hl : l.length = sz) : (w.alloc (.cells l.toArray e)).ownsRow base e sz (.slice (some ⟨w.heap.size, 0, none⟩) 1 1) 1 l :=
  ⟨by omega, .inr ⟨w.heap.size, 1, l.toArray, rfl, hb, heap_alloc_new w _, Nat.le_refl _, by unfold maxLen; omega, by simp; omega, by rw [Nat.one_mul, List.toList_toArray, List.take_of_length_le (by omega)]⟩⟩

theorem someTree_any (g p : Nat) (w : World) (hr : Reader w g p) (hp : p ≤ 1000) : Calls Try.prog 27 #[.pointer (some ⟨g, 0, none⟩)] w fun e w' => ∃ (t : List Nd) (A : Option Addr) (c p' : Nat), e = .returned (.slice A t.length c) ∧ w'.ownsRow w.heap.size 52 3 (.slice A t.length c) t.length (nds t) ∧ 1 ≤ t.length ∧ t.length ≤ 12 ∧ Short t ∧ Reader w' g p' ∧ p' ≤ p + 90 ∧ w.grownBy w' (some g) := by
  have hgl := hr.lt
  go_enter Try.func27, Try.ntmps27
  go_wp2_with fail
  refine (someValue_any g p _ hr (by omega)).mono ?_
  rintro e w1 ⟨v, rfl, hrd1, hg1⟩
  have hs1 := hg1.size
  have hown := own_litS w1 52 (ndC ⟨-1, [], v⟩) (base := w.heap.size) (sz := 3) hs1 rfl
  have hown1 := hown.alloc (.cells (ints [5, 8, 3, 12, 1, 0, 16]).toArray 3)
  have hg2 := grown_alloc (grown_alloc hg1 (.cells (ndC ⟨-1, [], v⟩).toArray 52)) (.cells (ints [5, 8, 3, 12, 1, 0, 16]).toArray 3)
  have hrd2 := hrd1.grown (grown_alloc (grown_alloc (grown_refl w1 none) (.cells (ndC ⟨-1, [], v⟩).toArray 52)) (.cells (ints [5, 8, 3, 12, 1, 0, 16]).toArray 3)) (by simp)
  go_wp2_with fail
  refine (one_any g (p + 3) (some ⟨w1.heap.size + 1, 0, none⟩) 7 [5, 8, 3, 12, 1, 0, 16] _ hrd2 (by omega) (by simp) (by simp) (by have := lit_ints (w1.alloc (.cells (ndC ⟨-1, [], v⟩).toArray 52)) [5, 8, 3, 12, 1, 0, 16] 3 (g := g) (by simp; omega); simpa using this)).mono ?_
  rintro e w3 ⟨n, rfl, hn, hrd3, hg3⟩
  have hown3 := own_grown hown1 hg3 hgl
  have hgw := grown_trans hg2 hg3
  have hn2 : 0 ≤ n ∧ n ≤ 16 := by simp at hn; omega
  obtain ⟨m, rfl⟩ := Int.eq_ofNat_of_zero_le hn2.1
  have hm : m ≤ 16 := by omega
  clear hg1 hg2 hg3 hrd1 hrd2 hr hn hn2 hown hown1 hs1
  go_wp2
  go_loopg [3, 4] m (fun gk sv i wr => ∃ (t : List Nd) (A : Option Addr) (c q : Nat), i = .int .i64 gk ∧ sv = .slice A t.length c ∧ 1 ≤ t.length ∧ t.length ≤ 12 ∧ Hid (Short t) ∧ q + 5 * gk ≤ p + 85 ∧ gk ≤ 16 ∧
    wr.ownsRow w.heap.size 52 3 sv t.length (nds t) ∧ Reader wr g q ∧ w.grownBy wr (some g))
  case atStart => exact ⟨[⟨-1, [], v⟩], _, _, p + 3 + 1, rfl, rfl, by simp, by simp, (show Short _ by intro n hn; simp at hn; subst hn; simp), by omega, hm, by simpa [nds] using hown3, hrd3, hgw⟩
  case round =>
    clear hown3 hrd3 hgw hm
    obtain ⟨t, A, c, q, rfl, rfl, hl1, hl2, HS, hq, hk16, hown, hrd, hgw⟩ := hrel
    by_cases hj : 0 < gk
    · go_wp2_with fail
      refine (pick_any g q (t.length : Int) _ hrd (by omega) (by omega)).mono ?_
      rintro e w2 ⟨a, rfl, ha0, ha1, _, hrd2, hg2⟩
      have hown2 := own_grown hown hg2 hgl
      have hgw2 := grown_trans hgw hg2
      clear hown hgw hrd hg2 ha1
      go_wp2_with fail
      refine (someName_any g (q + 1) _ hrd2 (by omega)).mono ?_
      rintro e w3 ⟨nm, rfl, hnm, hrd3, hg3⟩
      have hown3 := own_grown hown2 hg3 hgl
      have hgw3 := grown_trans hgw2 hg3
      clear hown2 hgw2 hrd2 hg3
      go_wp2_with fail
      refine (someValue_any g (q + 1 + 1) _ hrd3 (by omega)).mono ?_
      rintro e w4 ⟨v4, rfl, hrd4, hg4⟩
      have hown4 := own_grown hown3 hg4 hgl
      have hgw4 := grown_trans hgw3 hg4
      have hr4 := Rd.of_own hown4
      have hcap4 := own_cap hown4
      clear hown3 hgw3 hrd3 hg4
      go_wp2_with fail
      refine (saddNode_any A c t a nm v4 _ (by omega) hcap4 HS.out (by omega) hr4).mono ?_
      rintro e w5 ⟨A5, c5, rfl, ho5, hb5⟩
      have hrd5 := hrd4.below hb5 hrd4.lt
      have hgw5 := grown_then hgw4 (hb5.mono hgw4.size)
      have hown5 := own_below hown4 hb5 (Nat.le_refl _)
      cases ht : addT t ⟨a, nm, v4⟩ with
      | none =>
        simp only [Option.isSome_none]
        clear ho5 hb5 hown4 hr4 hrd4 hgw4 ht
        go_wp2
        go_roundg (gk - 1)
        case measure => omega
        case rel => exact ⟨t, A, c, q + 1 + 1 + 3, by go_num, rfl, hl1, hl2, HS, by omega, by omega, hown5, hrd5, hgw5⟩
      | some m2 =>
        obtain ⟨_, h2, h3⟩ := addT_some ht
        have hl3 := (validN_iff.1 h2).1
        have HS2 : Hid (Short m2) := by show Short m2; rw [h3]; exact short_snoc HS.out (by simp only; omega)
        rw [ht] at ho5
        have ho6 := own_base ho5 hgw4.size
        simp only [Option.isSome_some, Option.getD_some] at ho6 ⊢
        clear ho5 hb5 hown4 hown5 hr4 hrd4 hgw4 ht h2 h3
        go_wp2
        go_roundg (gk - 1)
        case measure => omega
        case rel => exact ⟨m2, A5, c5, q + 1 + 1 + 3, by go_num, rfl, hl3.1, hl3.2, HS2, by omega, by omega, ho6, hrd5, hgw5⟩
    · have hj0 : gk = 0 := by omega
      subst hj0
      go_wp2
      go_ret
      exact ⟨t, A, c, q, rfl, hown, hl1, hl2, HS.out, hrd, by omega, hgw⟩
end Go.Proofs.Ytgikfdanamjilaa
