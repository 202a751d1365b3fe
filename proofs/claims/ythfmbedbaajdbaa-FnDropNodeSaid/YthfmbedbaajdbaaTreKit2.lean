/- Words for the laws on trees: AddNode, SetValue, DropNode by their answers. -/
import Derived.Test.YthfmbedbaajdbaaTreKit
import Derived.Test.YthfmbedbaajdbaaTreG
import Derived.Test.YthfmbedbaajdbaaTreH
namespace Go.Proofs.Ythfmbedbaajdbaa
open Go.RowKit
open Tl (Nd validN validN_iff ValidN kid)

def AddNo (w : World) (e : Ending) (w' : World) : Prop := ∃ A' c', e = .returned (.tuple #[.slice A' 0 c', .int .i64 (-1), .bool false]) ∧ Rd w' w'.heap.size 3 A' 0 (nds []) ∧ Below w.heap.size w w'
def AddYes (w : World) (k : Nat) (m : List Nd) (e : Ending) (w' : World) : Prop := ∃ A' c', e = .returned (.tuple #[.slice A' m.length c', .int .i64 (k : Int), .bool true]) ∧ w'.ownsRow w.heap.size 28 3 (.slice A' m.length c') m.length (nds m) ∧ Below w.heap.size w w'
def SetNo (w : World) (e : Ending) (w' : World) : Prop := ∃ A' c', e = .returned (.tuple #[.slice A' 0 c', .bool false]) ∧ Rd w' w'.heap.size 3 A' 0 (nds []) ∧ Below w.heap.size w w'
def SetYes (w : World) (m : List Nd) (e : Ending) (w' : World) : Prop := ∃ A' c', e = .returned (.tuple #[.slice A' m.length c', .bool true]) ∧ w'.ownsRow w.heap.size 28 3 (.slice A' m.length c') m.length (nds m) ∧ Below w.heap.size w w'
theorem AddNo.of {w : World} {t : List Nd} {e : Ending} {w' : World} (h : PAdd w t none e w') : AddNo w e w' := by
  obtain ⟨A', c', h1, h2, h3⟩ := h
  exact ⟨A', c', h1, Rd.of_own h2, h3⟩
theorem AddYes.of {w : World} {t m : List Nd} {e : Ending} {w' : World} (h : PAdd w t (some m) e w') : AddYes w t.length m e w' := h
theorem SetNo.of {w : World} {e : Ending} {w' : World} (h : PSet w none e w') : SetNo w e w' := by
  obtain ⟨A', c', h1, h2, h3⟩ := h
  exact ⟨A', c', h1, Rd.of_own h2, h3⟩
theorem SetYes.of {w : World} {m : List Nd} {e : Ending} {w' : World} (h : PSet w (some m) e w') : SetYes w m e w' := h

section
variable {w : World} {A : Option Addr} {c : Nat} {t : List Nd}
theorem TreeW.add_no (h : TreeW w A c t) {p v : Int} {s : List UInt8} (hs : s.length ≤ 2000000) (ht : addT t ⟨p, s, v⟩ = none) : Calls Try.prog 29 #[.slice A t.length c, .int .i64 p, .string ⟨s.toArray⟩, .int .i64 v] w (AddNo w) := by
  have := addNode_any A c t p s v w h.len4 h.cap h.short hs h.rd
  rw [ht] at this
  exact this.mono fun _ _ => AddNo.of
theorem TreeW.add_yes (h : TreeW w A c t) {p v : Int} {s : List UInt8} {m : List Nd} (hs : s.length ≤ 2000000) (ht : addT t ⟨p, s, v⟩ = some m) : Calls Try.prog 29 #[.slice A t.length c, .int .i64 p, .string ⟨s.toArray⟩, .int .i64 v] w (AddYes w t.length m) := by
  have := addNode_any A c t p s v w h.len4 h.cap h.short hs h.rd
  rw [ht] at this
  exact this.mono fun _ _ => AddYes.of
theorem TreeW.sadd_no (h : TreeW w A c t) {p v : Int} {s : List UInt8} (hs : s.length ≤ 2000000) (ht : addT t ⟨p, s, v⟩ = none) : Calls Try.prog 30 #[.slice A t.length c, .int .i64 p, .string ⟨s.toArray⟩, .int .i64 v] w (AddNo w) := by
  have := saddNode_any A c t p s v w h.len4 h.cap h.short hs h.rd
  rw [ht] at this
  exact this.mono fun _ _ => AddNo.of
theorem TreeW.sadd_yes (h : TreeW w A c t) {p v : Int} {s : List UInt8} {m : List Nd} (hs : s.length ≤ 2000000) (ht : addT t ⟨p, s, v⟩ = some m) : Calls Try.prog 30 #[.slice A t.length c, .int .i64 p, .string ⟨s.toArray⟩, .int .i64 v] w (AddYes w t.length m) := by
  have := saddNode_any A c t p s v w h.len4 h.cap h.short hs h.rd
  rw [ht] at this
  exact this.mono fun _ _ => AddYes.of
theorem TreeW.set_no (h : TreeW w A c t) {i v : Int} (ht : setV t i v = none) : Calls Try.prog 25 #[.slice A t.length c, .int .i64 i, .int .i64 v] w (SetNo w) := by
  have := setValue_any A c t i v w h.len4 h.cap h.short h.rd
  rw [ht] at this
  exact this.mono fun _ _ => SetNo.of
theorem TreeW.set_yes (h : TreeW w A c t) {i v : Int} {m : List Nd} (ht : setV t i v = some m) : Calls Try.prog 25 #[.slice A t.length c, .int .i64 i, .int .i64 v] w (SetYes w m) := by
  have := setValue_any A c t i v w h.len4 h.cap h.short h.rd
  rw [ht] at this
  exact this.mono fun _ _ => SetYes.of
theorem TreeW.sset_no (h : TreeW w A c t) {i v : Int} (ht : setV t i v = none) : Calls Try.prog 26 #[.slice A t.length c, .int .i64 i, .int .i64 v] w (SetNo w) := by
  have := ssetValue_any A c t i v w h.len4 h.cap h.short h.rd
  rw [ht] at this
  exact this.mono fun _ _ => SetNo.of
theorem TreeW.sset_yes (h : TreeW w A c t) {i v : Int} {m : List Nd} (ht : setV t i v = some m) : Calls Try.prog 26 #[.slice A t.length c, .int .i64 i, .int .i64 v] w (SetYes w m) := by
  have := ssetValue_any A c t i v w h.len4 h.cap h.short h.rd
  rw [ht] at this
  exact this.mono fun _ _ => SetYes.of
theorem TreeW.drop_no (h : TreeW w A c t) {i : Int} (ht : dropN t i = none) : Calls Try.prog 31 #[.slice A t.length c, .int .i64 i] w (SetNo w) := by
  have := dropNode_any A c t i w h.len4 h.cap h.short h.rd
  rw [ht] at this
  exact this.mono fun _ _ => SetNo.of
theorem TreeW.drop_yes (h : TreeW w A c t) {i : Int} {m : List Nd} (ht : dropN t i = some m) : Calls Try.prog 31 #[.slice A t.length c, .int .i64 i] w (SetYes w m) := by
  have := dropNode_any A c t i w h.len4 h.cap h.short h.rd
  rw [ht] at this
  exact this.mono fun _ _ => SetYes.of
theorem TreeW.sdrop_no (h : TreeW w A c t) {i : Int} (ht : dropN t i = none) : Calls Try.prog 33 #[.slice A t.length c, .int .i64 i] w (SetNo w) := by
  have := sdropNode_any A c t i w h.len4 h.cap h.short h.rd
  rw [ht] at this
  exact this.mono fun _ _ => SetNo.of
theorem TreeW.sdrop_yes (h : TreeW w A c t) {i : Int} {m : List Nd} (ht : dropN t i = some m) : Calls Try.prog 33 #[.slice A t.length c, .int .i64 i] w (SetYes w m) := by
  have := sdropNode_any A c t i w h.len4 h.cap h.short h.rd
  rw [ht] at this
  exact this.mono fun _ _ => SetYes.of
end
theorem equal_none (A : Option Addr) (c : Nat) (A' : Option Addr) (c' : Nat) (w : World) : Calls Try.prog 27 #[.slice A 0 c, .slice A' 0 c'] w (PBool w true) :=
  equalNodes_same A c [] A' c' w (B := 0) (B' := 0) (by simp) (Rd.nil _ _ _ _) (Rd.nil _ _ _ _)
end Go.Proofs.Ythfmbedbaajdbaa
