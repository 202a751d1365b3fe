/- A region that draws its order, whose operations only read and whose callees leave what was there alone (they may lay new blocks): one walk, in the order of the text. -/
import Derived.Test.YtgikfdanamjilaaBase
import Derived.BigQuiet
import Derived.Deep.RegionWith
namespace Go.Proofs.Ytgikfdanamjilaa
open Go.RowKit

/-- A world in which all that lay in w lies as it lay. -/
structure Ext (w : World) where
  to : World
  below : Below w.heap.size w to
def Ext.here (w : World) : Ext w := ⟨w.drew, ⟨rfl, rfl, rfl, Nat.le_refl _, fun _ _ => rfl⟩⟩
instance (w : World) : Nonempty (Ext w) := ⟨Ext.here w⟩
theorem Ext.cell {w : World} (x : Ext w) {b off : Nat} {v : Value} (h : w.cell? ⟨b, off, none⟩ = some v) (hb : b < w.heap.size) : x.to.cell? ⟨b, off, none⟩ = some v := (x.below.cell (p := ⟨b, off, none⟩) hb).trans h
theorem Ext.rd {w : World} (x : Ext w) {sz n : Nat} {A : Option Addr} {xs : List Value} (h : Rd w w.heap.size sz A n xs) : Rd x.to x.to.heap.size sz A n xs := h.step x.below
theorem ext_region {P : Program} {id : Nat} {Q : Exit → Act → World → Prop} {a : Act} {w : World} {l : List Oper} (hm : P.follows .mixedOrders = true) (hB : Region.lexB .any l.toArray = true)
    (h : wpQuiet P l.toArray (fun w' => ∃ x : Ext w, w' = x.to) (fun a' => ∀ w', (∃ x : Ext w, w' = x.to) → Q .normal a' w') l a) : (Code.region id l.toArray true).wp P Q a w :=
  wp_region_quiet (C := fun w' => ∃ x : Ext w, w' = x.to) hm hB ⟨Ext.here w, rfl⟩ (by simpa using h)
/-- A callee's contract there. -/
theorem ext_call {P : Program} {f : FuncId} {args : Array Value} {w : World} {x : Ext w} {v u : Value} (h : Calls P f args x.to fun e w' => e = .returned v ∧ Below x.to.heap.size x.to w') (hv : v = u) :
    Calls P f args x.to fun e w'' => e = .returned u ∧ ∃ y : Ext w, w'' = y.to :=
  h.mono fun _ w' ⟨he, hb⟩ => ⟨by rw [he, hv], ⟨⟨w', x.below.trans (hb.mono x.below.size)⟩, rfl⟩⟩
end Go.Proofs.Ytgikfdanamjilaa
