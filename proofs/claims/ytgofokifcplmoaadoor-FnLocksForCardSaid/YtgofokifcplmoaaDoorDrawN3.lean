/- Contracts: someAt; the draws of the arguments of the functions on trees. -/
import Derived.Test.YtgofokifcplmoaaDoorDrawN2
namespace Go.Proofs.YtgofokifcplmoaaDoor
open Go.RowKit
set_option maxRecDepth 100000
open Tl (Nd nameOk kid path validN validN_iff nodeOk nodesOk ValidN Grows)

theorem someAt_any (g p : Nat) (A : Option Addr) (c n : Nat) (w : World) (hr : Reader w g p) (hp : p ≤ 1000) (hn : n ≤ 1000) :
    Calls Tryd.prog 14 #[.pointer (some ⟨g, 0, none⟩), .slice A n c] w fun e w' => ∃ (x : Int) (p' : Nat), e = .returned (.int .i64 x) ∧ -1 ≤ x ∧ x ≤ n ∧ Reader w' g p' ∧ p' ≤ p + 2 ∧ w.grownBy w' (some g) := by
  go_enter Tryd.func14, Tryd.ntmps14
  go_wp2_with fail
  refine (pick_any g p 12 _ hr (by omega) (by omega)).mono ?_
  rintro e w1 ⟨a, rfl, ha0, ha1, _, hrd1, hg1⟩
  clear ha1
  by_cases hz : a = 0
  · subst hz
    go_wp2_with fail
    have hrd2 := hrd1.grown (World.grownBy_alloc w1 (.cells (ints [-1, (n : Int), 0]).toArray 3) none) (by simp)
    refine (one_any g (p + 1) (some ⟨w1.heap.size, 0, none⟩) 3 [-1, (n : Int), 0] _ hrd2 (by omega) (by simp) (by simp) (lit_ints w1 [-1, (n : Int), 0] 3 (g := g) hrd1.lt)).mono ?_
    rintro e w3 ⟨y, rfl, hy, hrd3, hg3⟩
    have hgw3 := grown_trans (grown_alloc hg1 (.cells (ints [-1, (n : Int), 0]).toArray 3)) hg3
    have hy2 : -1 ≤ y ∧ y ≤ n := by simp at hy; omega
    obtain ⟨hy3, hy4⟩ := hy2
    clear hg3 hrd2 hrd1 hy
    go_wp2
    go_ret
    exact ⟨y, _, rfl, hy3, hy4, hrd3, by omega, hgw3⟩
  · have hz' : (a == 0) = false := by simp [hz]
    go_wp2_with (go_at_call 24; refine (pick_any g (p + 1) _ _ hrd1 (by omega) (by omega)).mono ?_)
    all_goals
      rintro e w3 ⟨y, rfl, hy0, hy1, hy9, hrd3, hg3⟩
      have hgw3 := grown_trans hg1 hg3
      clear hg3 hrd1
      go_wp2
      go_ret
      exact ⟨y, _, rfl, by omega, by omega, hrd3, by omega, hgw3⟩

/-- A slice that reads as a tree. -/
structure TreeW (w : World) (A : Option Addr) (c : Nat) (t : List Nd) : Prop where
  cap : t.length ≤ c
  rd : Rd w w.heap.size 3 A t.length (nds t)
  len : t.length ≤ 13
  short : Short t
theorem TreeW.of {w : World} {g c : Nat} {A : Option Addr} {t : List Nd} (h : TreeAt w g A c t) : TreeW w A c t := ⟨h.1, h.2.1, h.2.2.2.1, h.2.2.2.2⟩
theorem TreeW.step {w w' : World} {c : Nat} {A : Option Addr} {t : List Nd} (h : TreeW w A c t) (hb : Below w.heap.size w w') : TreeW w' A c t := ⟨h.cap, h.rd.step hb, h.len, h.short⟩
theorem TreeW.len5 {w : World} {c : Nat} {A : Option Addr} {t : List Nd} (h : TreeW w A c t) : t.length ≤ 100000 := by have := h.len; omega
theorem TreeW.len4 {w : World} {c : Nat} {A : Option Addr} {t : List Nd} (h : TreeW w A c t) : t.length ≤ 10000 := by have := h.len; omega
theorem TreeW.drewN {w : World} {c : Nat} {A : Option Addr} {t : List Nd} (h : TreeW w A c t) (n : Nat) : TreeW (w.drewN n) A c t := ⟨h.cap, h.rd, h.len, h.short⟩

def PDrawN1 (w : World) (e : Ending) (w' : World) : Prop := ∃ (t : List Nd) (A : Option Addr) (c : Nat), e = .returned (.slice A t.length c) ∧ TreeW w' A c t ∧ Below w.heap.size w w'
def PDrawN2 (w : World) (e : Ending) (w' : World) : Prop := ∃ (t : List Nd) (A : Option Addr) (c : Nat) (x : Int), e = .returned (.tuple #[.slice A t.length c, .int .i64 x]) ∧ TreeW w' A c t ∧ (-1 ≤ x ∧ x ≤ 13) ∧ Below w.heap.size w w'
def PDrawN3 (w : World) (e : Ending) (w' : World) : Prop := ∃ (t : List Nd) (A : Option Addr) (c : Nat) (x y : Int), e = .returned (.tuple #[.slice A t.length c, .int .i64 x, .int .i64 y]) ∧ TreeW w' A c t ∧ (-1 ≤ x ∧ x ≤ 13) ∧ (-10000 ≤ y ∧ y ≤ 10000) ∧ Below w.heap.size w w'
def PDrawNs (w : World) (e : Ending) (w' : World) : Prop := ∃ (t : List Nd) (A : Option Addr) (c : Nat) (x : Int) (s : List UInt8), e = .returned (.tuple #[.slice A t.length c, .int .i64 x, .string ⟨s.toArray⟩]) ∧ TreeW w' A c t ∧ (-1 ≤ x ∧ x ≤ 13) ∧ s.length ≤ 5 ∧ Below w.heap.size w w'
def PDrawNa (w : World) (e : Ending) (w' : World) : Prop := ∃ (t : List Nd) (A : Option Addr) (c : Nat) (x : Int) (s : List UInt8) (v : Int), e = .returned (.tuple #[.slice A t.length c, .int .i64 x, .string ⟨s.toArray⟩, .int .i64 v]) ∧ TreeW w' A c t ∧ (-1 ≤ x ∧ x ≤ 13) ∧ s.length ≤ 5 ∧ (-10000 ≤ v ∧ v ≤ 10000) ∧ Below w.heap.size w w'

end Go.Proofs.YtgofokifcplmoaaDoor
