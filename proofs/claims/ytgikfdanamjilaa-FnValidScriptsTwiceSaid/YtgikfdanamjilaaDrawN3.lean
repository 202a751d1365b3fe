/- Contracts: someAt; the draws of the arguments of the functions on trees. -/
import Derived.Test.YtgikfdanamjilaaDrawN2
namespace Go.Proofs.Ytgikfdanamjilaa
open Go.RowKit
set_option maxRecDepth 100000
open Tl (Nd nameOk kid path validN validN_iff nodeOk nodesOk ValidN Grows)

/-- A slice that reads as a tree. -/
structure TreeW (w : World) (A : Option Addr) (c : Nat) (t : List Nd) : Prop where
  cap : t.length ≤ c
  rd : Rd w w.heap.size 3 A t.length (nds t)
  len : t.length ≤ 13
  short : Short t
theorem TreeW.of {w : World} {g c : Nat} {A : Option Addr} {t : List Nd} (h : TreeAt w g A c t) : TreeW w A c t := ⟨h.1, h.2.1, h.2.2.2.1, h.2.2.2.2⟩
theorem TreeW.step {w w' : World} {c : Nat} {A : Option Addr} {t : List Nd} (h : TreeW w A c t) (hb : Below w.heap.size w w') : TreeW w' A c t := ⟨h.cap, h.rd.step hb, h.len, h.short⟩
theorem TreeW.len5 {w : World} {c : Nat} {A : Option Addr} {t : List Nd} (h : TreeW w A c t) : t.length ≤ 2000000 := by have := h.len; omega
theorem TreeW.len4 {w : World} {c : Nat} {A : Option Addr} {t : List Nd} (h : TreeW w A c t) : t.length ≤ 10000 := by have := h.len; omega
theorem TreeW.drewN {w : World} {c : Nat} {A : Option Addr} {t : List Nd} (h : TreeW w A c t) (n : Nat) : TreeW (w.drewN n) A c t := ⟨h.cap, h.rd, h.len, h.short⟩

def PDrawN1 (w : World) (e : Ending) (w' : World) : Prop := ∃ (t : List Nd) (A : Option Addr) (c : Nat), e = .returned (.slice A t.length c) ∧ TreeW w' A c t ∧ Below w.heap.size w w'
def PDrawN2 (w : World) (e : Ending) (w' : World) : Prop := ∃ (t : List Nd) (A : Option Addr) (c : Nat) (x : Int), e = .returned (.tuple #[.slice A t.length c, .int .i64 x]) ∧ TreeW w' A c t ∧ (-1 ≤ x ∧ x ≤ 13) ∧ Below w.heap.size w w'
def PDrawN3 (w : World) (e : Ending) (w' : World) : Prop := ∃ (t : List Nd) (A : Option Addr) (c : Nat) (x y : Int), e = .returned (.tuple #[.slice A t.length c, .int .i64 x, .int .i64 y]) ∧ TreeW w' A c t ∧ (-1 ≤ x ∧ x ≤ 13) ∧ (-10000 ≤ y ∧ y ≤ 10000) ∧ Below w.heap.size w w'
def PDrawNs (w : World) (e : Ending) (w' : World) : Prop := ∃ (t : List Nd) (A : Option Addr) (c : Nat) (x : Int) (s : List UInt8), e = .returned (.tuple #[.slice A t.length c, .int .i64 x, .string ⟨s.toArray⟩]) ∧ TreeW w' A c t ∧ (-1 ≤ x ∧ x ≤ 13) ∧ s.length ≤ 5 ∧ Below w.heap.size w w'
def PDrawNa (w : World) (e : Ending) (w' : World) : Prop := ∃ (t : List Nd) (A : Option Addr) (c : Nat) (x : Int) (s : List UInt8) (v : Int), e = .returned (.tuple #[.slice A t.length c, .int .i64 x, .string ⟨s.toArray⟩, .int .i64 v]) ∧ TreeW w' A c t ∧ (-1 ≤ x ∧ x ≤ 13) ∧ s.length ≤ 5 ∧ (-10000 ≤ v ∧ v ≤ 10000) ∧ Below w.heap.size w w'

end Go.Proofs.Ytgikfdanamjilaa
