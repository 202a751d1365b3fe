/- Contracts: someAt; the draws of the arguments of the functions on trees. -/
import Derived.Test.YthfmbedbaajdbaaDrawN2
namespace Go.Proofs.Ythfmbedbaajdbaa
open Go.RowKit
open Tl (Nd nameOk kid path validN validN_iff nodeOk nodesOk ValidN Grows)

theorem someAt_any (g p : Nat) (A : Option Addr) (c n : Nat) (w : World) (hr : Reader w g p) (hp : p ≤ 1000) (hn : n ≤ 1000) :
    Calls Try.prog 41 #[.pointer (some ⟨g, 0, none⟩), .slice A n c] w fun e w' => ∃ (x : Int) (p' : Nat), e = .returned (.int .i64 x) ∧ -1 ≤ x ∧ x ≤ n ∧ Reader w' g p' ∧ p' ≤ p + 2 ∧ w.grownBy w' (some g) := by
  go_enter Try.func41, Try.ntmps41
  go_wp2_with fail
  refine (pick_any g p 12 _ hr (by omega) (by omega)).mono ?_
  rintro e w1 ⟨a, rfl, ha0, ha1, _, hrd1, hg1⟩
  clear ha1
  by_cases hz : a = 0
  · subst hz
    go_wp2_with fail
    have hrd2 := hrd1.grown (World.grownBy_alloc w1 (.cells (ints [-1, (n : Int), 0]).toArray 3) none) (by simp)
    refine (one_any g (p + 1) (some ⟨w1.heap.size, 0, none⟩) 3 [-1, (n : Int), 0] _ hrd2 (by omega) (by simp) (by simp) (lit_ints w1 [-1, (n : Int), 0] 3 (g := g) hrd1.lt)).mono ?_
    rintro e w3 ⟨y, rfl, hy, hrd3, hg3⟩
    have hgw3 := grown_trans (grown_alloc hg1 (.cells (ints [-1, (n : Int), 0]).toArray 3)) hg3
    have hy2 : -1 ≤ y ∧ y ≤ n := by simp at hy; omega
    obtain ⟨hy3, hy4⟩ := hy2
    clear hg3 hrd2 hrd1 hy
    go_wp2
    go_ret
    exact ⟨y, _, rfl, hy3, hy4, hrd3, by omega, hgw3⟩
  · have hz' : (a == 0) = false := by simp [hz]
    go_wp2_with (go_at_call 50; refine (pick_any g (p + 1) _ _ hrd1 (by omega) (by omega)).mono ?_)
    all_goals
      rintro e w3 ⟨y, rfl, hy0, hy1, hy9, hrd3, hg3⟩
      have hgw3 := grown_trans hg1 hg3
      clear hg3 hrd1
      go_wp2
      go_ret
      exact ⟨y, _, rfl, by omega, by omega, hrd3, by omega, hgw3⟩

/-- A slice that reads as a tree. -/
structure TreeW (w : World) (A : Option Addr) (c : Nat) (t : List Nd) : Prop where
  cap : t.length ≤ c
  rd : Rd w w.heap.size 3 A t.length (nds t)
  len : t.length ≤ 13
  short : Short t
theorem TreeW.of {w : World} {g c : Nat} {A : Option Addr} {t : List Nd} (h : TreeAt w g A c t) : TreeW w A c t := ⟨h.1, h.2.1, h.2.2.2.1, h.2.2.2.2⟩
theorem TreeW.step {w w' : World} {c : Nat} {A : Option Addr} {t : List Nd} (h : TreeW w A c t) (hb : Below w.heap.size w w') : TreeW w' A c t := ⟨h.cap, h.rd.step hb, h.len, h.short⟩
theorem TreeW.len5 {w : World} {c : Nat} {A : Option Addr} {t : List Nd} (h : TreeW w A c t) : t.length ≤ 100000 := by have := h.len; omega
theorem TreeW.len4 {w : World} {c : Nat} {A : Option Addr} {t : List Nd} (h : TreeW w A c t) : t.length ≤ 10000 := by have := h.len; omega
theorem TreeW.drewN {w : World} {c : Nat} {A : Option Addr} {t : List Nd} (h : TreeW w A c t) (n : Nat) : TreeW (w.drewN n) A c t := ⟨h.cap, h.rd, h.len, h.short⟩

def PDrawN1 (w : World) (e : Ending) (w' : World) : Prop := ∃ (t : List Nd) (A : Option Addr) (c : Nat), e = .returned (.slice A t.length c) ∧ TreeW w' A c t ∧ Below w.heap.size w w'
def PDrawN2 (w : World) (e : Ending) (w' : World) : Prop := ∃ (t : List Nd) (A : Option Addr) (c : Nat) (x : Int), e = .returned (.tuple #[.slice A t.length c, .int .i64 x]) ∧ TreeW w' A c t ∧ (-1 ≤ x ∧ x ≤ 13) ∧ Below w.heap.size w w'
def PDrawN3 (w : World) (e : Ending) (w' : World) : Prop := ∃ (t : List Nd) (A : Option Addr) (c : Nat) (x y : Int), e = .returned (.tuple #[.slice A t.length c, .int .i64 x, .int .i64 y]) ∧ TreeW w' A c t ∧ (-1 ≤ x ∧ x ≤ 13) ∧ (-10000 ≤ y ∧ y ≤ 10000) ∧ Below w.heap.size w w'
def PDrawNs (w : World) (e : Ending) (w' : World) : Prop := ∃ (t : List Nd) (A : Option Addr) (c : Nat) (x : Int) (s : List UInt8), e = .returned (.tuple #[.slice A t.length c, .int .i64 x, .string ⟨s.toArray⟩]) ∧ TreeW w' A c t ∧ (-1 ≤ x ∧ x ≤ 13) ∧ s.length ≤ 5 ∧ Below w.heap.size w w'
def PDrawNa (w : World) (e : Ending) (w' : World) : Prop := ∃ (t : List Nd) (A : Option Addr) (c : Nat) (x : Int) (s : List UInt8) (v : Int), e = .returned (.tuple #[.slice A t.length c, .int .i64 x, .string ⟨s.toArray⟩, .int .i64 v]) ∧ TreeW w' A c t ∧ (-1 ≤ x ∧ x ≤ 13) ∧ s.length ≤ 5 ∧ (-10000 ≤ v ∧ v ≤ 10000) ∧ Below w.heap.size w w'

theorem drawValidTree_any (A : Option Addr) (n c : Nat) (w : World) (h : Code8 w A n c) : Calls Try.prog 15 #[.slice A n c] w (PDrawN1 w) := by
  go_enter Try.func15, Try.ntmps15
  go_wp2_with fail
  refine (newReader_any A n c _ h).mono ?_
  rintro e w1 ⟨g, rfl, hr1, hg, hb1⟩
  go_wp2_with fail
  refine (anyTree_any g 0 _ hr1 (by omega)).mono ?_
  rintro e w2 ⟨t, A2, c2, q, rfl, ht2, hr2, hq2, hg2⟩
  have hb3 := hb1.trans (grown_below hg2 hg hb1.size)
  have hw := TreeW.of ht2
  clear hg2 hr2 hr1 ht2
  go_wp2
  go_ret
  exact ⟨t, A2, c2, rfl, hw, hb3⟩
theorem drawDropNode_any (A : Option Addr) (n c : Nat) (w : World) (h : Code8 w A n c) : Calls Try.prog 32 #[.slice A n c] w (PDrawN2 w) := by
  go_enter Try.func32, Try.ntmps32
  go_wp2_with fail
  refine (newReader_any A n c _ h).mono ?_
  rintro e w1 ⟨g, rfl, hr1, hg, hb1⟩
  go_wp2_with fail
  refine (anyTree_any g 0 _ hr1 (by omega)).mono ?_
  rintro e w2 ⟨t, A2, c2, q, rfl, ht2, hr2, hq2, hg2⟩
  have hb3 := hb1.trans (grown_below hg2 hg hb1.size)
  have htl := ht2.2.2.2.1
  go_wp2_with fail
  refine (someAt_any g q A2 c2 t.length _ hr2 (by omega) (by omega)).mono ?_
  rintro e w3 ⟨x, q3, rfl, hx0, hx1, hr3, hq3, hg3⟩
  have hb4 := hb3.trans (grown_below hg3 hg hb3.size)
  have hw := TreeW.of (ht2.grown hg3)
  clear hg2 hr2 hr1 ht2 hg3 hr3 hb3
  go_wp2
  go_ret2
  exact ⟨t, A2, c2, x, rfl, hw, by omega, hb4⟩
theorem drawIsAbove_any (A : Option Addr) (n c : Nat) (w : World) (h : Code8 w A n c) : Calls Try.prog 21 #[.slice A n c] w (PDrawN3 w) := by
  go_enter Try.func21, Try.ntmps21
  go_wp2_with fail
  refine (newReader_any A n c _ h).mono ?_
  rintro e w1 ⟨g, rfl, hr1, hg, hb1⟩
  go_wp2_with fail
  refine (anyTree_any g 0 _ hr1 (by omega)).mono ?_
  rintro e w2 ⟨t, A2, c2, q, rfl, ht2, hr2, hq2, hg2⟩
  have hb3 := hb1.trans (grown_below hg2 hg hb1.size)
  have htl := ht2.2.2.2.1
  go_wp2_with fail
  refine (someAt_any g q A2 c2 t.length _ hr2 (by omega) (by omega)).mono ?_
  rintro e w3 ⟨x, q3, rfl, hx0, hx1, hr3, hq3, hg3⟩
  have hb4 := hb3.trans (grown_below hg3 hg hb3.size)
  have ht3 := ht2.grown hg3
  clear hg2 hr2 hr1 ht2 hg3 hb3
  go_wp2_with fail
  refine (someAt_any g q3 A2 c2 t.length _ hr3 (by omega) (by omega)).mono ?_
  rintro e w4 ⟨y, q4, rfl, hy0, hy1, _, _, hg4⟩
  have hb5 := hb4.trans (grown_below hg4 hg hb4.size)
  have hw := TreeW.of (ht3.grown hg4)
  clear hr3 ht3 hg4 hb4
  go_wp2
  refine bodyPost_ret (v := .tuple #[.slice A2 t.length c2, .int .i64 x, .int .i64 y]) (by simp [results, Try.results21, go_sem]) rfl ?_
  exact ⟨t, A2, c2, x, y, rfl, hw, by omega, by omega, hb5⟩
theorem drawKidOf_any (A : Option Addr) (n c : Nat) (w : World) (h : Code8 w A n c) : Calls Try.prog 18 #[.slice A n c] w (PDrawNs w) := by
  go_enter Try.func18, Try.ntmps18
  go_wp2_with fail
  refine (newReader_any A n c _ h).mono ?_
  rintro e w1 ⟨g, rfl, hr1, hg, hb1⟩
  go_wp2_with fail
  refine (anyTree_any g 0 _ hr1 (by omega)).mono ?_
  rintro e w2 ⟨t, A2, c2, q, rfl, ht2, hr2, hq2, hg2⟩
  have hb3 := hb1.trans (grown_below hg2 hg hb1.size)
  have htl := ht2.2.2.2.1
  go_wp2_with fail
  refine (someAt_any g q A2 c2 t.length _ hr2 (by omega) (by omega)).mono ?_
  rintro e w3 ⟨x, q3, rfl, hx0, hx1, hr3, hq3, hg3⟩
  have hb4 := hb3.trans (grown_below hg3 hg hb3.size)
  have ht3 := ht2.grown hg3
  clear hg2 hr2 hr1 ht2 hg3 hb3
  go_wp2_with fail
  refine (someName_any g q3 _ hr3 (by omega)).mono ?_
  rintro e w4 ⟨s, rfl, hs, _, hg4⟩
  have hb5 := hb4.trans (grown_below hg4 hg hb4.size)
  have hw := TreeW.of (ht3.grown hg4)
  clear hr3 ht3 hg4 hb4
  go_wp2
  refine bodyPost_ret (v := .tuple #[.slice A2 t.length c2, .int .i64 x, .string ⟨s.toArray⟩]) (by simp [results, Try.results18, go_sem]) rfl ?_
  exact ⟨t, A2, c2, x, s, rfl, hw, by omega, hs, hb5⟩
theorem drawSetValue_any (A : Option Addr) (n c : Nat) (w : World) (h : Code8 w A n c) : Calls Try.prog 24 #[.slice A n c] w (PDrawN3 w) := by
  go_enter Try.func24, Try.ntmps24
  go_wp2_with fail
  refine (newReader_any A n c _ h).mono ?_
  rintro e w1 ⟨g, rfl, hr1, hg, hb1⟩
  go_wp2_with fail
  refine (anyTree_any g 0 _ hr1 (by omega)).mono ?_
  rintro e w2 ⟨t, A2, c2, q, rfl, ht2, hr2, hq2, hg2⟩
  have hb3 := hb1.trans (grown_below hg2 hg hb1.size)
  have htl := ht2.2.2.2.1
  go_wp2_with fail
  refine (someAt_any g q A2 c2 t.length _ hr2 (by omega) (by omega)).mono ?_
  rintro e w3 ⟨x, q3, rfl, hx0, hx1, hr3, hq3, hg3⟩
  have hb4 := hb3.trans (grown_below hg3 hg hb3.size)
  have ht3 := ht2.grown hg3
  clear hg2 hr2 hr1 ht2 hg3 hb3
  go_wp2_with fail
  have hrd4 := hr3.grown (World.grownBy_alloc w3 (.cells (ints [0, 7, -7, 1000, 1001, -1001]).toArray 3) none) (by simp)
  have ht4 := ht3.below ((Below.refl w3.heap.size w3).alloc (Nat.le_refl _) (.cells (ints [0, 7, -7, 1000, 1001, -1001]).toArray 3))
  refine (one_any g q3 (some ⟨w3.heap.size, 0, none⟩) 6 [0, 7, -7, 1000, 1001, -1001] _ hrd4 (by omega) (by simp) (by simp) (lit_ints w3 [0, 7, -7, 1000, 1001, -1001] 3 (g := g) hr3.lt)).mono ?_
  rintro e w4 ⟨y, rfl, hy, _, hg5⟩
  have hy2 : -10000 ≤ y ∧ y ≤ 10000 := by simp at hy; omega
  have hb5 := (hb4.alloc hb4.size (.cells (ints [0, 7, -7, 1000, 1001, -1001]).toArray 3)).trans (grown_below hg5 hg (by simp; have := hb4.size; omega))
  have hw := TreeW.of (ht4.grown hg5)
  clear hr3 ht3 hg5 hb4 hrd4 ht4 hy
  go_wp2
  refine bodyPost_ret (v := .tuple #[.slice A2 t.length c2, .int .i64 x, .int .i64 y]) (by simp [results, Try.results24, go_sem]) rfl ?_
  exact ⟨t, A2, c2, x, y, rfl, hw, by omega, hy2, hb5⟩
theorem drawAddNode_any (A : Option Addr) (n c : Nat) (w : World) (h : Code8 w A n c) : Calls Try.prog 28 #[.slice A n c] w (PDrawNa w) := by
  go_enter Try.func28, Try.ntmps28
  go_wp2_with fail
  refine (newReader_any A n c _ h).mono ?_
  rintro e w1 ⟨g, rfl, hr1, hg, hb1⟩
  go_wp2_with fail
  refine (anyTree_any g 0 _ hr1 (by omega)).mono ?_
  rintro e w2 ⟨t, A2, c2, q, rfl, ht2, hr2, hq2, hg2⟩
  have hb3 := hb1.trans (grown_below hg2 hg hb1.size)
  have htl := ht2.2.2.2.1
  go_wp2_with fail
  refine (someAt_any g q A2 c2 t.length _ hr2 (by omega) (by omega)).mono ?_
  rintro e w3 ⟨x, q3, rfl, hx0, hx1, hr3, hq3, hg3⟩
  have hb4 := hb3.trans (grown_below hg3 hg hb3.size)
  have ht3 := ht2.grown hg3
  clear hg2 hr2 hr1 ht2 hg3 hb3
  go_wp2_with fail
  refine (someName_any g q3 _ hr3 (by omega)).mono ?_
  rintro e w4 ⟨s, rfl, hs, hr4, hg4⟩
  have hb5 := hb4.trans (grown_below hg4 hg hb4.size)
  have ht4 := ht3.grown hg4
  clear hr3 ht3 hg4 hb4
  go_wp2_with fail
  refine (pick_any g (q3 + 1) 12 _ hr4 (by omega) (by omega)).mono ?_
  rintro e w5 ⟨d, rfl, _, _, _, hr5, hg5⟩
  have hb6 := hb5.trans (grown_below hg5 hg hb5.size)
  have ht5 := ht4.grown hg5
  clear hr4 ht4 hg5 hb5
  by_cases hd : d = 0
  · subst hd
    go_wp2_with fail
    have hrd6 := hr5.grown (World.grownBy_alloc w5 (.cells (strs [[], [65], [97, 98, 99, 100, 101]]).toArray 9) none) (by simp)
    have ht6 := ht5.below ((Below.refl w5.heap.size w5).alloc (Nat.le_refl _) (.cells (strs [[], [65], [97, 98, 99, 100, 101]]).toArray 9))
    refine (of_any g (q3 + 1 + 1) (some ⟨w5.heap.size, 0, none⟩) 3 [[], [65], [97, 98, 99, 100, 101]] _ hrd6 (by omega) (by simp) (by simp) (lit_strs w5 [[], [65], [97, 98, 99, 100, 101]] 9 (g := g) hr5.lt)).mono ?_
    rintro e w6 ⟨s2, rfl, hy, hr7, hg7⟩
    have hs2 : s2.length ≤ 5 := by
      simp at hy
      rcases hy with rfl | rfl | rfl <;> simp
    have hb7 := (hb6.alloc hb6.size (.cells (strs [[], [65], [97, 98, 99, 100, 101]]).toArray 9)).trans (grown_below hg7 hg (by simp; have := hb6.size; omega))
    have ht7 := ht6.grown hg7
    clear hr5 ht5 hg7 hb6 hrd6 ht6 hy
    go_wp2_with fail
    have hrd8 := hr7.grown (World.grownBy_alloc w6 (.cells (ints [0, 7, -7, 1000, 1001]).toArray 3) none) (by simp)
    have ht8 := ht7.below ((Below.refl w6.heap.size w6).alloc (Nat.le_refl _) (.cells (ints [0, 7, -7, 1000, 1001]).toArray 3))
    refine (one_any g (q3 + 1 + 1 + 1) (some ⟨w6.heap.size, 0, none⟩) 5 [0, 7, -7, 1000, 1001] _ hrd8 (by omega) (by simp) (by simp) (lit_ints w6 [0, 7, -7, 1000, 1001] 3 (g := g) hr7.lt)).mono ?_
    rintro e w7 ⟨y, rfl, hy, _, hg9⟩
    have hy2 : -10000 ≤ y ∧ y ≤ 10000 := by simp at hy; omega
    have hb9 := (hb7.alloc hb7.size (.cells (ints [0, 7, -7, 1000, 1001]).toArray 3)).trans (grown_below hg9 hg (by simp; have := hb7.size; omega))
    have hw := TreeW.of (ht8.grown hg9)
    clear hr7 ht7 hg9 hb7 hrd8 ht8 hy
    go_wp2
    refine bodyPost_ret (v := .tuple #[.slice A2 t.length c2, .int .i64 x, .string ⟨s2.toArray⟩, .int .i64 y]) (by simp [results, Try.results28, go_sem]) rfl ?_
    exact ⟨t, A2, c2, x, s2, y, rfl, hw, by omega, hs2, hy2, hb9⟩
  · have hd' : (d == 0) = false := by simp [hd]
    clear hd
    go_wp2_with fail
    have hrd8 := hr5.grown (World.grownBy_alloc w5 (.cells (ints [0, 7, -7, 1000, 1001]).toArray 3) none) (by simp)
    have ht8 := ht5.below ((Below.refl w5.heap.size w5).alloc (Nat.le_refl _) (.cells (ints [0, 7, -7, 1000, 1001]).toArray 3))
    refine (one_any g (q3 + 1 + 1) (some ⟨w5.heap.size, 0, none⟩) 5 [0, 7, -7, 1000, 1001] _ hrd8 (by omega) (by simp) (by simp) (lit_ints w5 [0, 7, -7, 1000, 1001] 3 (g := g) hr5.lt)).mono ?_
    rintro e w7 ⟨y, rfl, hy, _, hg9⟩
    have hy2 : -10000 ≤ y ∧ y ≤ 10000 := by simp at hy; omega
    have hb9 := (hb6.alloc hb6.size (.cells (ints [0, 7, -7, 1000, 1001]).toArray 3)).trans (grown_below hg9 hg (by simp; have := hb6.size; omega))
    have hw := TreeW.of (ht8.grown hg9)
    clear hr5 ht5 hg9 hb6 hrd8 ht8 hy
    go_wp2
    refine bodyPost_ret (v := .tuple #[.slice A2 t.length c2, .int .i64 x, .string ⟨s.toArray⟩, .int .i64 y]) (by simp [results, Try.results28, go_sem]) rfl ?_
    exact ⟨t, A2, c2, x, s, y, rfl, hw, by omega, hs, hy2, hb9⟩
end Go.Proofs.Ythfmbedbaajdbaa
