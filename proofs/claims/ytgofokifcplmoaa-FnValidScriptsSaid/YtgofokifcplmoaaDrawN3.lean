/- Contracts: someAt; the draws of the arguments of the functions on trees. -/
import Derived.Test.YtgofokifcplmoaaDrawN2
namespace Go.Proofs.Ytgofokifcplmoaa
open Go.RowKit
set_option maxRecDepth 100000
open Tl (Nd nameOk kid path validN validN_iff nodeOk nodesOk ValidN Grows)

theorem someAt_any (g p : Nat) (A : Option Addr) (c n : Nat) (w : World) (hr : Reader w g p) (hp : p ≤ 1000) (hn : n ≤ 1000) :
    Calls Try.prog 62 #[.pointer (some ⟨g, 0, none⟩), .slice A n c] w fun e w' => ∃ (x : Int) (p' : Nat), e = .returned (.int .i64 x) ∧ -1 ≤ x ∧ x ≤ n ∧ Reader w' g p' ∧ p' ≤ p + 2 ∧ w.grownBy w' (some g) := by
  go_enter Try.func62, Try.ntmps62
  go_wp2_with fail
  refine (pick_any g p 12 _ hr (by omega) (by omega)).mono ?_
  rintro e w1 ⟨a, rfl, ha0, ha1, _, hrd1, hg1⟩
  clear ha1
  by_cases hz : a = 0
  · subst hz
    go_wp2_with fail
    have hrd2 := hrd1.grown (World.grownBy_alloc w1 (.cells (ints [-1, (n : Int), 0]).toArray 3) none) (by simp)
    refine (one_any g (p + 1) (some ⟨w1.heap.size, 0, none⟩) 3 [-1, (n : Int), 0] _ hrd2 (by omega) (by simp) (by simp) (lit_ints w1 [-1, (n : Int), 0] 3 (g := g) hrd1.lt)).mono ?_
    rintro e w3 ⟨y, rfl, hy, hrd3, hg3⟩
    have hgw3 := grown_trans (grown_alloc hg1 (.cells (ints [-1, (n : Int), 0]).toArray 3)) hg3
    have hy2 : -1 ≤ y ∧ y ≤ n := by simp at hy; omega
    obtain ⟨hy3, hy4⟩ := hy2
    clear hg3 hrd2 hrd1 hy
    go_wp2
    go_ret
    exact ⟨y, _, rfl, hy3, hy4, hrd3, by omega, hgw3⟩
  · have hz' : (a == 0) = false := by simp [hz]
    go_wp2_with (go_at_call 72; refine (pick_any g (p + 1) _ _ hrd1 (by omega) (by omega)).mono ?_)
    all_goals
      rintro e w3 ⟨y, rfl, hy0, hy1, hy9, hrd3, hg3⟩
      have hgw3 := grown_trans hg1 hg3
      clear hg3 hrd1
      go_wp2
      go_ret
      exact ⟨y, _, rfl, by omega, by omega, hrd3, by omega, hgw3⟩

/-- A slice that reads as a tree. -/
structure TreeW (w : World) (A : Option Addr) (c : Nat) (t : List Nd) : Prop where
  cap : t.length ≤ c
  rd : Rd w w.heap.size 3 A t.length (nds t)
  len : t.length ≤ 13
  short : Short t
theorem TreeW.of {w : World} {g c : Nat} {A : Option Addr} {t : List Nd} (h : TreeAt w g A c t) : TreeW w A c t := ⟨h.1, h.2.1, h.2.2.2.1, h.2.2.2.2⟩
theorem TreeW.step {w w' : World} {c : Nat} {A : Option Addr} {t : List Nd} (h : TreeW w A c t) (hb : Below w.heap.size w w') : TreeW w' A c t := ⟨h.cap, h.rd.step hb, h.len, h.short⟩
theorem TreeW.len5 {w : World} {c : Nat} {A : Option Addr} {t : List Nd} (h : TreeW w A c t) : t.length ≤ 100000 := by have := h.len; omega
theorem TreeW.len4 {w : World} {c : Nat} {A : Option Addr} {t : List Nd} (h : TreeW w A c t) : t.length ≤ 10000 := by have := h.len; omega
theorem TreeW.drewN {w : World} {c : Nat} {A : Option Addr} {t : List Nd} (h : TreeW w A c t) (n : Nat) : TreeW (w.drewN n) A c t := ⟨h.cap, h.rd, h.len, h.short⟩

def PDrawN1 (w : World) (e : Ending) (w' : World) : Prop := ∃ (t : List Nd) (A : Option Addr) (c : Nat), e = .returned (.slice A t.length c) ∧ TreeW w' A c t ∧ Below w.heap.size w w'
def PDrawN2 (w : World) (e : Ending) (w' : World) : Prop := ∃ (t : List Nd) (A : Option Addr) (c : Nat) (x : Int), e = .returned (.tuple #[.slice A t.length c, .int .i64 x]) ∧ TreeW w' A c t ∧ (-1 ≤ x ∧ x ≤ 13) ∧ Below w.heap.size w w'
def PDrawN3 (w : World) (e : Ending) (w' : World) : Prop := ∃ (t : List Nd) (A : Option Addr) (c : Nat) (x y : Int), e = .returned (.tuple #[.slice A t.length c, .int .i64 x, .int .i64 y]) ∧ TreeW w' A c t ∧ (-1 ≤ x ∧ x ≤ 13) ∧ (-10000 ≤ y ∧ y ≤ 10000) ∧ Below w.heap.size w w'
def PDrawNs (w : World) (e : Ending) (w' : World) : Prop := ∃ (t : List Nd) (A : Option Addr) (c : Nat) (x : Int) (s : List UInt8), e = .returned (.tuple #[.slice A t.length c, .int .i64 x, .string ⟨s.toArray⟩]) ∧ TreeW w' A c t ∧ (-1 ≤ x ∧ x ≤ 13) ∧ s.length ≤ 5 ∧ Below w.heap.size w w'
def PDrawNa (w : World) (e : Ending) (w' : World) : Prop := ∃ (t : List Nd) (A : Option Addr) (c : Nat) (x : Int) (s : List UInt8) (v : Int), e = .returned (.tuple #[.slice A t.length c, .int .i64 x, .string ⟨s.toArray⟩, .int .i64 v]) ∧ TreeW w' A c t ∧ (-1 ≤ x ∧ x ≤ 13) ∧ s.length ≤ 5 ∧ (-10000 ≤ v ∧ v ≤ 10000) ∧ Below w.heap.size w w'

theorem drawDropNode_any (A : Option Addr) (n c : Nat) (w : World) (h : Code8 w A n c) : Calls Try.prog 52 #[.slice A n c] w (PDrawN2 w) := by
  go_enter Try.func52, Try.ntmps52
  go_wp2_with fail
  refine (newReader_any A n c _ h).mono ?_
  rintro e w1 ⟨g, rfl, hr1, hg, hb1⟩
  go_wp2_with fail
  refine (anyTree_any g 0 _ hr1 (by omega)).mono ?_
  rintro e w2 ⟨t, A2, c2, q, rfl, ht2, hr2, hq2, hg2⟩
  have hb3 := hb1.trans (grown_below hg2 hg hb1.size)
  have htl := ht2.2.2.2.1
  go_wp2_with fail
  refine (someAt_any g q A2 c2 t.length _ hr2 (by omega) (by omega)).mono ?_
  rintro e w3 ⟨x, q3, rfl, hx0, hx1, hr3, hq3, hg3⟩
  have hb4 := hb3.trans (grown_below hg3 hg hb3.size)
  have hw := TreeW.of (ht2.grown hg3)
  clear hg2 hr2 hr1 ht2 hg3 hr3 hb3
  go_wp2
  go_ret2
  exact ⟨t, A2, c2, x, rfl, hw, by omega, hb4⟩
theorem drawIsAbove_any (A : Option Addr) (n c : Nat) (w : World) (h : Code8 w A n c) : Calls Try.prog 47 #[.slice A n c] w (PDrawN3 w) := by
  go_enter Try.func47, Try.ntmps47
  go_wp2_with fail
  refine (newReader_any A n c _ h).mono ?_
  rintro e w1 ⟨g, rfl, hr1, hg, hb1⟩
  go_wp2_with fail
  refine (anyTree_any g 0 _ hr1 (by omega)).mono ?_
  rintro e w2 ⟨t, A2, c2, q, rfl, ht2, hr2, hq2, hg2⟩
  have hb3 := hb1.trans (grown_below hg2 hg hb1.size)
  have htl := ht2.2.2.2.1
  go_wp2_with fail
  refine (someAt_any g q A2 c2 t.length _ hr2 (by omega) (by omega)).mono ?_
  rintro e w3 ⟨x, q3, rfl, hx0, hx1, hr3, hq3, hg3⟩
  have hb4 := hb3.trans (grown_below hg3 hg hb3.size)
  have ht3 := ht2.grown hg3
  clear hg2 hr2 hr1 ht2 hg3 hb3
  go_wp2_with fail
  refine (someAt_any g q3 A2 c2 t.length _ hr3 (by omega) (by omega)).mono ?_
  rintro e w4 ⟨y, q4, rfl, hy0, hy1, _, _, hg4⟩
  have hb5 := hb4.trans (grown_below hg4 hg hb4.size)
  have hw := TreeW.of (ht3.grown hg4)
  clear hr3 ht3 hg4 hb4
  go_wp2
  refine bodyPost_ret (v := .tuple #[.slice A2 t.length c2, .int .i64 x, .int .i64 y]) (by simp [results, Try.results47, go_sem]) rfl ?_
  exact ⟨t, A2, c2, x, y, rfl, hw, by omega, by omega, hb5⟩
end Go.Proofs.Ytgofokifcplmoaa
