/-
  DERIVED. GIVEN WITH THE SEED: THE CARDS: each row of YtgofokifcplmoaaDoorRows.lean that lists a variable, with what it lists TIED to the program's text (the seventh form; the later family's looks); each row that meets fmt, with fmt's text TOLD by the authors' own Lean function (tested against real Go, not proved from fmt's source: count such statements apart). THE CARD IS WHAT COUNTS. Prove the row's statement (the work); the ties are given (YtgofokifcplmoaaDoorTie.lean); close each card by the builder's one call (the guide's Derived/Test/ToyasCard.lean, 'card_holds'). Laid BY PROGRAM, IN A SANDBOX (cutbox-door.mjs). By AI agents, Wed Nov 11 2026. No macro, syntax, notation, axiom, sorry.
-/
import Derived.Test.YtgofokifcplmoaaDoorRows
import GoSem.ClaimSeven
namespace Go.Proofs.YtgofokifcplmoaaDoor
namespace Rows

/-- THE TIED CARD OF 'laws.FnLocksFor'. -/
def fnLocksForCard : Claim7 := { stood := { row := fnLocksForRow, standIns := [], harness := (true, "8a47a3ecdc713f90382c1e8e79c1ea8814a1f4403860fd1dfec6f66e838d0bc6"), looks := false }, kinds := [], alts := [], laidByText := true, laidKinds := [.data], laidTests := true, laidLooks := .later }
def FnLocksForCardSaid : Prop := Claim7.holds Tryd.pinned (.plain (OpenSpec.ofChange fnLocksForSpec)) fnLocksForCard

/-- THE SECOND FORM's CARD OF 'laws.FnLocksFor'. -/
def fnLocksForUptoCard : Claim7 := { stood := { row := fnLocksForUptoRow, standIns := [], harness := (true, "8a47a3ecdc713f90382c1e8e79c1ea8814a1f4403860fd1dfec6f66e838d0bc6"), looks := false }, kinds := [], alts := [], laidByText := true, laidKinds := [.data], laidTests := true, laidLooks := .later }
def FnLocksForUptoCardSaid : Prop := Claim7.holds Tryd.pinned (.plain (OpenSpec.upto fnLocksForSpec)) fnLocksForUptoCard
end Rows
end Go.Proofs.YtgofokifcplmoaaDoor
