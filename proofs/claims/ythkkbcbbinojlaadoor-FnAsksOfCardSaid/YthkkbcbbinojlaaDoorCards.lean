/-
  DERIVED. GIVEN WITH THE SEED: THE CARDS: each row of YthkkbcbbinojlaaDoorRows.lean that lists a variable, with what it lists TIED to the program's text (the seventh form; the later family's looks); each row that meets fmt, with fmt's text TOLD by the authors' own Lean function (tested against real Go, not proved from fmt's source: count such statements apart). THE CARD IS WHAT COUNTS. Prove the row's statement (the work); the ties are given (YthkkbcbbinojlaaDoorTie.lean); close each card by the builder's one call (the guide's Derived/Test/ToyasCard.lean, 'card_holds'). Laid BY PROGRAM, IN A SANDBOX (cutbox-door.mjs). By AI agents, Wed Nov 11 2026. No macro, syntax, notation, axiom, sorry.
-/
import Derived.Test.YthkkbcbbinojlaaDoorRows
import GoSem.ClaimSeven
namespace Go.Proofs.YthkkbcbbinojlaaDoor
namespace Rows

/-- THE TIED CARD OF 'laws.FnValidTable'. -/
def fnValidTableCard : Claim7 := { stood := { row := fnValidTableRow, standIns := [], harness := (true, "73319c32a8f4803870ba4fbd6902290af3a64ceaebdc939bef702cd17e0e9704"), looks := false }, kinds := [], alts := [], laidByText := true, laidKinds := [.data], laidTests := true, laidLooks := .later }
def FnValidTableCardSaid : Prop := Claim7.holds Tryd.pinned (.plain (OpenSpec.ofChange fnValidTableSpec)) fnValidTableCard

/-- THE TIED CARD OF 'laws.FnAsksOf'. -/
def fnAsksOfCard : Claim7 := { stood := { row := fnAsksOfRow, standIns := [], harness := (true, "73319c32a8f4803870ba4fbd6902290af3a64ceaebdc939bef702cd17e0e9704"), looks := false }, kinds := [], alts := [], laidByText := true, laidKinds := [.data, .data], laidTests := true, laidLooks := .later }
def FnAsksOfCardSaid : Prop := Claim7.holds Tryd.pinned (.plain (OpenSpec.ofChange fnAsksOfSpec)) fnAsksOfCard

/-- THE TIED CARD OF 'laws.FnAsksOfNone'. -/
def fnAsksOfNoneCard : Claim7 := { stood := { row := fnAsksOfNoneRow, standIns := [], harness := (true, "73319c32a8f4803870ba4fbd6902290af3a64ceaebdc939bef702cd17e0e9704"), looks := false }, kinds := [], alts := [], laidByText := true, laidKinds := [.data, .data], laidTests := true, laidLooks := .later }
def FnAsksOfNoneCardSaid : Prop := Claim7.holds Tryd.pinned (.plain (OpenSpec.ofChange fnAsksOfNoneSpec)) fnAsksOfNoneCard

/-- THE SECOND FORM's CARD OF 'laws.FnValidTable'. -/
def fnValidTableUptoCard : Claim7 := { stood := { row := fnValidTableUptoRow, standIns := [], harness := (true, "73319c32a8f4803870ba4fbd6902290af3a64ceaebdc939bef702cd17e0e9704"), looks := false }, kinds := [], alts := [], laidByText := true, laidKinds := [.data], laidTests := true, laidLooks := .later }
def FnValidTableUptoCardSaid : Prop := Claim7.holds Tryd.pinned (.plain (OpenSpec.upto fnValidTableSpec)) fnValidTableUptoCard

/-- THE SECOND FORM's CARD OF 'laws.FnAsksOf'. -/
def fnAsksOfUptoCard : Claim7 := { stood := { row := fnAsksOfUptoRow, standIns := [], harness := (true, "73319c32a8f4803870ba4fbd6902290af3a64ceaebdc939bef702cd17e0e9704"), looks := false }, kinds := [], alts := [], laidByText := true, laidKinds := [.data, .data], laidTests := true, laidLooks := .later }
def FnAsksOfUptoCardSaid : Prop := Claim7.holds Tryd.pinned (.plain (OpenSpec.upto fnAsksOfSpec)) fnAsksOfUptoCard

/-- THE SECOND FORM's CARD OF 'laws.FnAsksOfNone'. -/
def fnAsksOfNoneUptoCard : Claim7 := { stood := { row := fnAsksOfNoneUptoRow, standIns := [], harness := (true, "73319c32a8f4803870ba4fbd6902290af3a64ceaebdc939bef702cd17e0e9704"), looks := false }, kinds := [], alts := [], laidByText := true, laidKinds := [.data, .data], laidTests := true, laidLooks := .later }
def FnAsksOfNoneUptoCardSaid : Prop := Claim7.holds Tryd.pinned (.plain (OpenSpec.upto fnAsksOfNoneSpec)) fnAsksOfNoneUptoCard
end Rows
end Go.Proofs.YthkkbcbbinojlaaDoor
