/- Contracts: the draws of tables of locks. -/
import Derived.Test.YthkkbcbbinojlaaDoorReader
import Derived.Test.YthkkbcbbinojlaaDoorTabF
import Derived.Test.YthkkbcbbinojlaaDoorPTable2
namespace Go.Proofs.YthkkbcbbinojlaaDoor
open Go.RowKit
open Tl (Lk validT validT_iff takeLock)

def PDrawT (w : World) (g p : Nat) (e : Ending) (w' : World) : Prop :=
  ∃ (ls : List Lk) (A : Option Addr) (c p' : Nat), e = .returned (.slice A ls.length c) ∧ w'.ownsRow w.heap.size 36 3 (.slice A ls.length c) ls.length (lks ls) ∧ ls.length ≤ 49 ∧ Reader w' g p' ∧ p' ≤ p + 100 ∧ w.grownBy w' (some g)

theorem someTable_any (g p : Nat) (w : World) (hr : Reader w g p) (hp : p ≤ 1000) : Calls Tryd.prog 30 #[.pointer (some ⟨g, 0, none⟩)] w fun e w' => ∃ (ls : List Lk) (A : Option Addr) (c p' : Nat), e = .returned (.slice A ls.length c) ∧ w'.ownsRow w.heap.size 36 3 (.slice A ls.length c) ls.length (lks ls) ∧ ls.length ≤ 48 ∧ Reader w' g p' ∧ p' ≤ p + 90 ∧ w.grownBy w' (some g) := by
  have hgl := hr.lt
  go_enter Tryd.func30, Tryd.ntmps30
  go_wp2_with fail
  have hg1 := grown_alloc (grown_refl w (some g)) (.cells #[] 36)
  have hr2 := (hr.grown (grown_alloc (grown_alloc (grown_refl w none) (.cells #[] 36)) (.cells (ints [5, 8, 3, 12, 1, 0, 24]).toArray 3)) (by simp))
  refine (one_any g p (some ⟨w.heap.size + 1, 0, none⟩) 7 [5, 8, 3, 12, 1, 0, 24] _ hr2 (by omega) (by simp) (by simp) (by have := lit_ints (w.alloc (.cells #[] 36)) [5, 8, 3, 12, 1, 0, 24] 3 (g := g) (by simp; omega); simpa using this)).mono ?_
  rintro e w1 ⟨n, rfl, hn, hr1, hg⟩
  have hown := own_grown ((own_lit0 w 36 3 (Nat.le_refl _)).alloc (.cells (ints [5, 8, 3, 12, 1, 0, 24]).toArray 3)) hg hgl
  have hgw := grown_trans (grown_alloc hg1 _) hg
  have hn2 : 0 ≤ n ∧ n ≤ 24 := by simp at hn; omega
  obtain ⟨m, rfl⟩ := Int.eq_ofNat_of_zero_le hn2.1
  have hm : m ≤ 24 := by omega
  clear hg hg1 hr2 hr hn hn2
  go_wp2
  go_loopg [3, 4] m (fun gk v i wr => ∃ (ls : List Lk) (A : Option Addr) (c q : Nat), i = .int .i64 gk ∧ v = .slice A ls.length c ∧ Hid (validT ls = true) ∧ ls.length ≤ 48 ∧ q + 3 * gk ≤ p + 80 ∧ gk ≤ 24 ∧
    wr.ownsRow w.heap.size 36 3 v ls.length (lks ls) ∧ Reader wr g q ∧ w.grownBy wr (some g))
  case atStart => exact ⟨[], _, 0, p + 1, rfl, rfl, Tl.validT_nil, by simp, by omega, hm, hown, hr1, hgw⟩
  case round =>
    clear hown hr1 hgw hm
    obtain ⟨ls, A, c, q, rfl, rfl, HV, hl, hq, hk24, hown, hrd, hgw⟩ := hrel
    by_cases hj : 0 < gk
    · go_wp2_with fail
      refine (pick_any g q 4 _ hrd (by omega) (by omega)).mono ?_
      rintro e w2 ⟨a, rfl, ha0, ha1, _, hrd2, hg2⟩
      have hown2 := own_grown hown hg2 hgl
      have hgw2 := grown_trans hgw hg2
      clear hown hgw hrd hg2 ha1
      go_wp2_with fail
      refine (pick_any g (q + 1) 8 _ hrd2 (by omega) (by omega)).mono ?_
      rintro e w3 ⟨b, rfl, hb0, hb1, _, hrd3, hg3⟩
      have hown3 := own_grown hown2 hg3 hgl
      have hgw3 := grown_trans hgw2 hg3
      clear hown2 hgw2 hrd2 hg3 hb1
      go_wp2_with fail
      refine (pick_any g (q + 1 + 1) 5 _ hrd3 (by omega) (by omega)).mono ?_
      rintro e w4 ⟨d, rfl, hd0, hd1, _, hrd4, hg4⟩
      have hd5 := hd1 (by omega)
      have hown4 := own_grown hown3 hg4 hgl
      have hgw4 := grown_trans hgw3 hg4
      have hr4 := Rd.of_own hown4
      clear hown3 hgw3 hrd3 hg4 hd1
      go_wp2_with fail
      refine (stakeLock_any A c ls a b (1 + d) _ (by omega) hr4).mono ?_
      rintro e w5 ⟨A5, c5, rfl, ho5, hb5⟩
      have hrd5 := hrd4.below hb5 hrd4.lt
      have hgw5 := grown_then hgw4 (hb5.mono hgw4.size)
      have hown5 := own_below hown4 hb5 (Nat.le_refl _)
      cases ht : takeLock ls a b (1 + d) with
      | none =>
        simp only [Option.isSome_none]
        clear ho5 hb5 hown4 hr4 hrd4 hgw4 ht
        go_wp2
        go_roundg (gk - 1)
        case measure => omega
        case rel => exact ⟨ls, A, c, q + 1 + 1 + 1, by go_num, rfl, HV, hl, by omega, by omega, hown5, hrd5, hgw5⟩
      | some m2 =>
        have HV2 := Lib.hid (Tl.takeLock_valid ht)
        have hl2 : m2.length ≤ 48 := (validT_iff.1 HV2.out).1
        rw [ht] at ho5
        have ho6 := own_base ho5 hgw4.size
        simp only [Option.isSome_some, Option.getD_some] at ho6 ⊢
        clear ho5 hb5 hown4 hown5 hr4 hrd4 hgw4 ht
        go_wp2
        go_roundg (gk - 1)
        case measure => omega
        case rel => exact ⟨m2, A5, c5, q + 1 + 1 + 1, by go_num, rfl, HV2, hl2, by omega, by omega, ho6, hrd5, hgw5⟩
    · have hj0 : gk = 0 := by omega
      subst hj0
      go_wp2
      go_ret
      exact ⟨ls, A, c, q, rfl, hown, hl, hrd, by omega, hgw⟩

theorem anyTable_any (g p : Nat) (w : World) (hr : Reader w g p) (hp : p ≤ 1000) : Calls Tryd.prog 16 #[.pointer (some ⟨g, 0, none⟩)] w (PDrawT w g p) := by
  have hgl := hr.lt
  go_enter Tryd.func16, Tryd.ntmps16
  go_wp2_with fail
  refine (someTable_any g p _ hr hp).mono ?_
  rintro e w1 ⟨ls, A, c, q, rfl, hown, hl, hrd, hq, hgw⟩
  clear hr
  go_wp2_with fail
  refine (pick_any g q 14 _ hrd (by omega) (by omega)).mono ?_
  rintro e w2 ⟨a, rfl, ha0, ha1, _, hrd2, hg2⟩
  have hown2 := own_grown hown hg2 hgl
  have hgw2 := grown_trans hgw hg2
  clear hown hgw hrd hg2 ha1
  by_cases hz : a = 0
  · subst hz
    go_wp2_with fail
    have hrd3 := hrd2.grown (World.grownBy_alloc w2 (.cells (ints [0, 3, 4, -1]).toArray 3) none) (by simp)
    refine (one_any g (q + 1) (some ⟨w2.heap.size, 0, none⟩) 4 [0, 3, 4, -1] _ hrd3 (by omega) (by simp) (by simp) (lit_ints w2 [0, 3, 4, -1] 3 (g := g) hrd2.lt)).mono ?_
    rintro e w3 ⟨y1, rfl, _, hrd4, hg4⟩
    have hown3 := own_grown (hown2.alloc (.cells (ints [0, 3, 4, -1]).toArray 3)) hg4 hgl
    have hgw3 := grown_trans (grown_alloc hgw2 (.cells (ints [0, 3, 4, -1]).toArray 3)) hg4
    clear hown2 hgw2 hrd2 hrd3 hg4
    go_wp2_with fail
    have hrd5 := hrd4.grown (World.grownBy_alloc w3 (.cells (ints [0, 11, 12, 1]).toArray 3) none) (by simp)
    refine (one_any g (q + 1 + 1) (some ⟨w3.heap.size, 0, none⟩) 4 [0, 11, 12, 1] _ hrd5 (by omega) (by simp) (by simp) (lit_ints w3 [0, 11, 12, 1] 3 (g := g) hrd4.lt)).mono ?_
    rintro e w4 ⟨y2, rfl, _, hrd6, hg6⟩
    have hown4 := own_grown (hown3.alloc (.cells (ints [0, 11, 12, 1]).toArray 3)) hg6 hgl
    have hgw4 := grown_trans (grown_alloc hgw3 (.cells (ints [0, 11, 12, 1]).toArray 3)) hg6
    clear hown3 hgw3 hrd4 hrd5 hg6
    go_wp2_with fail
    have hrd7 := hrd6.grown (World.grownBy_alloc w4 (.cells (ints [5, 0, 6, 1]).toArray 3) none) (by simp)
    refine (one_any g (q + 1 + 1 + 1) (some ⟨w4.heap.size, 0, none⟩) 4 [5, 0, 6, 1] _ hrd7 (by omega) (by simp) (by simp) (lit_ints w4 [5, 0, 6, 1] 3 (g := g) hrd6.lt)).mono ?_
    rintro e w5 ⟨y3, rfl, _, hrd8, hg8⟩
    have hown5 := own_grown (hown4.alloc (.cells (ints [5, 0, 6, 1]).toArray 3)) hg8 hgl
    have hgw5 := grown_trans (grown_alloc hgw4 (.cells (ints [5, 0, 6, 1]).toArray 3)) hg8
    clear hown4 hgw4 hrd6 hrd7 hg8
    go_wp2_with (at_builtin; refine wpList_push_lk rfl _ _ rfl ⟨y1, y2, y3⟩ rfl (hown5.alloc _) rfl (heap_alloc_new w5 _) (by omega) (by simp; have := hgw5.size; omega) ?_; intro A' c' w' ho' hb' _)
    have hb7 := (Below.refl w.heap.size w5).alloc hgw5.size (.cells #[.int .i64 y1, .int .i64 y2, .int .i64 y3] 36)
    have hb8 := hb7.trans hb'
    have hrd9 := hrd8.below hb8 hgl
    have hgw6 := grown_then hgw5 hb8
    clear hown5 hgw5 hrd8 hb' hb7 hb8
    go_wp2
    go_ret
    exact ⟨ls ++ [⟨y1, y2, y3⟩], A', c', q + 4, ret_slice (by simp), by simpa using ho', by simp; omega, hrd9, by omega, hgw6⟩
  · have hz' : (a == 0) = false := by simp [hz]
    go_wp2
    go_ret
    exact ⟨ls, A, c, q + 1, rfl, hown2, by omega, hrd2, by omega, hgw2⟩

def PDrawT1 (w : World) (e : Ending) (w' : World) : Prop :=
  ∃ (ls : List Lk) (A : Option Addr) (c : Nat), e = .returned (.slice A ls.length c) ∧ w'.ownsRow w.heap.size 36 3 (.slice A ls.length c) ls.length (lks ls) ∧ ls.length ≤ 49 ∧ Below w.heap.size w w'
def PDrawT2 (w : World) (e : Ending) (w' : World) : Prop :=
  ∃ (ls : List Lk) (A : Option Addr) (c : Nat) (a : Int), e = .returned (.tuple #[.slice A ls.length c, .int .i64 a]) ∧ w'.ownsRow w.heap.size 36 3 (.slice A ls.length c) ls.length (lks ls) ∧ ls.length ≤ 49 ∧ Below w.heap.size w w'
def PDrawT3 (w : World) (e : Ending) (w' : World) : Prop :=
  ∃ (ls : List Lk) (A : Option Addr) (c : Nat) (a b : Int), e = .returned (.tuple #[.slice A ls.length c, .int .i64 a, .int .i64 b]) ∧ w'.ownsRow w.heap.size 36 3 (.slice A ls.length c) ls.length (lks ls) ∧ ls.length ≤ 49 ∧ Below w.heap.size w w'
def PDrawT4 (w : World) (e : Ending) (w' : World) : Prop :=
  ∃ (ls : List Lk) (A : Option Addr) (c : Nat) (a b d : Int), e = .returned (.tuple #[.slice A ls.length c, .int .i64 a, .int .i64 b, .int .i64 d]) ∧ w'.ownsRow w.heap.size 36 3 (.slice A ls.length c) ls.length (lks ls) ∧ ls.length ≤ 49 ∧ Below w.heap.size w w'

theorem drawValidTable_any (A : Option Addr) (n c : Nat) (w : World) (h : Code8 w A n c) : Calls Tryd.prog 6 #[.slice A n c] w (PDrawT1 w) := by
  go_enter Tryd.func6, Tryd.ntmps6
  go_wp2_with fail
  refine (newReader_any A n c _ h).mono ?_
  rintro e w1 ⟨g, rfl, hr1, hg, hb1⟩
  go_wp2_with fail
  refine (anyTable_any g 0 _ hr1 (by omega)).mono ?_
  rintro e w2 ⟨ls, A2, c2, q, rfl, ho2, hl2, hr2, hq2, hg2⟩
  have ho3 := own_base ho2 hb1.size
  have hb3 := hb1.trans (grown_below hg2 hg hb1.size)
  clear ho2 hg2 hr2 hr1
  go_wp2
  go_ret
  exact ⟨ls, A2, c2, rfl, ho3, hl2, hb3⟩
end Go.Proofs.YthkkbcbbinojlaaDoor
