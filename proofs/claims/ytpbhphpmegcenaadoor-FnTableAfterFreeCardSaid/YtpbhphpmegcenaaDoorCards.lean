/-
  DERIVED. GIVEN WITH THE SEED: THE CARDS: each row of YtpbhphpmegcenaaDoorRows.lean that lists a variable, with what it lists TIED to the program's text (the seventh form; the later family's looks); each row that meets fmt, with fmt's text TOLD by the authors' own Lean function (tested against real Go, not proved from fmt's source: count such statements apart). THE CARD IS WHAT COUNTS. Prove the row's statement (the work); the ties are given (YtpbhphpmegcenaaDoorTie.lean); close each card by the builder's one call (the guide's Derived/Test/ToyasCard.lean, 'card_holds'). Laid BY PROGRAM, IN A SANDBOX (cutbox-door.mjs). By AI agents, Wed Nov 11 2026. No macro, syntax, notation, axiom, sorry.
-/
import Derived.Test.YtpbhphpmegcenaaDoorRows
import GoSem.ClaimSeven
namespace Go.Proofs.YtpbhphpmegcenaaDoor
namespace Rows

/-- THE TIED CARD OF 'laws.FnLockPointNone'. -/
def fnLockPointNoneCard : Claim7 := { stood := { row := fnLockPointNoneRow, standIns := [], harness := (true, "73c475a94f47189c799c688c753346055bc806099c190c08c491ae43e34627f9"), looks := false }, kinds := [], alts := [], laidByText := true, laidKinds := [.data, .data], laidTests := true, laidLooks := .later }
def FnLockPointNoneCardSaid : Prop := Claim7.holds Tryd.pinned (.plain (OpenSpec.ofChange fnLockPointNoneSpec)) fnLockPointNoneCard

/-- THE TIED CARD OF 'laws.FnAccessesOfLock'. -/
def fnAccessesOfLockCard : Claim7 := { stood := { row := fnAccessesOfLockRow, standIns := [], harness := (true, "73c475a94f47189c799c688c753346055bc806099c190c08c491ae43e34627f9"), looks := false }, kinds := [], alts := [], laidByText := true, laidKinds := [.data, .data], laidTests := true, laidLooks := .later }
def FnAccessesOfLockCardSaid : Prop := Claim7.holds Tryd.pinned (.plain (OpenSpec.ofChange fnAccessesOfLockSpec)) fnAccessesOfLockCard

/-- THE TIED CARD OF 'laws.FnIsTwoPhase'. -/
def fnIsTwoPhaseCard : Claim7 := { stood := { row := fnIsTwoPhaseRow, standIns := [], harness := (true, "73c475a94f47189c799c688c753346055bc806099c190c08c491ae43e34627f9"), looks := false }, kinds := [], alts := [], laidByText := true, laidKinds := [.data, .data], laidTests := true, laidLooks := .later }
def FnIsTwoPhaseCardSaid : Prop := Claim7.holds Tryd.pinned (.plain (OpenSpec.ofChange fnIsTwoPhaseSpec)) fnIsTwoPhaseCard

/-- THE TIED CARD OF 'laws.FnAsksOf'. -/
def fnAsksOfCard : Claim7 := { stood := { row := fnAsksOfRow, standIns := [], harness := (true, "73c475a94f47189c799c688c753346055bc806099c190c08c491ae43e34627f9"), looks := false }, kinds := [], alts := [], laidByText := true, laidKinds := [.data, .data], laidTests := true, laidLooks := .later }
def FnAsksOfCardSaid : Prop := Claim7.holds Tryd.pinned (.plain (OpenSpec.ofChange fnAsksOfSpec)) fnAsksOfCard

/-- THE TIED CARD OF 'laws.FnAsksOfNone'. -/
def fnAsksOfNoneCard : Claim7 := { stood := { row := fnAsksOfNoneRow, standIns := [], harness := (true, "73c475a94f47189c799c688c753346055bc806099c190c08c491ae43e34627f9"), looks := false }, kinds := [], alts := [], laidByText := true, laidKinds := [.data, .data], laidTests := true, laidLooks := .later }
def FnAsksOfNoneCardSaid : Prop := Claim7.holds Tryd.pinned (.plain (OpenSpec.ofChange fnAsksOfNoneSpec)) fnAsksOfNoneCard

/-- THE TIED CARD OF 'laws.FnValidSteps'. -/
def fnValidStepsCard : Claim7 := { stood := { row := fnValidStepsRow, standIns := [], harness := (true, "73c475a94f47189c799c688c753346055bc806099c190c08c491ae43e34627f9"), looks := false }, kinds := [], alts := [], laidByText := true, laidKinds := [.data, .data], laidTests := true, laidLooks := .later }
def FnValidStepsCardSaid : Prop := Claim7.holds Tryd.pinned (.plain (OpenSpec.ofChange fnValidStepsSpec)) fnValidStepsCard

/-- THE TIED CARD OF 'laws.FnValidStepsFree'. -/
def fnValidStepsFreeCard : Claim7 := { stood := { row := fnValidStepsFreeRow, standIns := [], harness := (true, "73c475a94f47189c799c688c753346055bc806099c190c08c491ae43e34627f9"), looks := false }, kinds := [], alts := [], laidByText := true, laidKinds := [.data, .data], laidTests := true, laidLooks := .later }
def FnValidStepsFreeCardSaid : Prop := Claim7.holds Tryd.pinned (.plain (OpenSpec.ofChange fnValidStepsFreeSpec)) fnValidStepsFreeCard

/-- THE TIED CARD OF 'laws.FnTableAfterFree'. -/
def fnTableAfterFreeCard : Claim7 := { stood := { row := fnTableAfterFreeRow, standIns := [], harness := (true, "73c475a94f47189c799c688c753346055bc806099c190c08c491ae43e34627f9"), looks := false }, kinds := [], alts := [], laidByText := true, laidKinds := [.data, .data], laidTests := true, laidLooks := .later }
def FnTableAfterFreeCardSaid : Prop := Claim7.holds Tryd.pinned (.plain (OpenSpec.ofChange fnTableAfterFreeSpec)) fnTableAfterFreeCard

/-- THE TIED CARD OF 'laws.FnTableAfterValid'. -/
def fnTableAfterValidCard : Claim7 := { stood := { row := fnTableAfterValidRow, standIns := [], harness := (true, "73c475a94f47189c799c688c753346055bc806099c190c08c491ae43e34627f9"), looks := false }, kinds := [], alts := [], laidByText := true, laidKinds := [.data, .data], laidTests := true, laidLooks := .later }
def FnTableAfterValidCardSaid : Prop := Claim7.holds Tryd.pinned (.plain (OpenSpec.ofChange fnTableAfterValidSpec)) fnTableAfterValidCard

/-- THE TIED CARD OF 'laws.FnTableAfter'. -/
def fnTableAfterCard : Claim7 := { stood := { row := fnTableAfterRow, standIns := [], harness := (true, "73c475a94f47189c799c688c753346055bc806099c190c08c491ae43e34627f9"), looks := false }, kinds := [], alts := [], laidByText := true, laidKinds := [.data, .data], laidTests := true, laidLooks := .later }
def FnTableAfterCardSaid : Prop := Claim7.holds Tryd.pinned (.plain (OpenSpec.ofChange fnTableAfterSpec)) fnTableAfterCard

/-- THE TIED CARD OF 'laws.FnIsTwoPhaseLocks'. -/
def fnIsTwoPhaseLocksCard : Claim7 := { stood := { row := fnIsTwoPhaseLocksRow, standIns := [], harness := (true, "73c475a94f47189c799c688c753346055bc806099c190c08c491ae43e34627f9"), looks := false }, kinds := [], alts := [], laidByText := true, laidKinds := [.data, .data], laidTests := true, laidLooks := .later }
def FnIsTwoPhaseLocksCardSaid : Prop := Claim7.holds Tryd.pinned (.plain (OpenSpec.ofChange fnIsTwoPhaseLocksSpec)) fnIsTwoPhaseLocksCard

/-- THE TIED CARD OF 'laws.FnIsTwoPhaseShort'. -/
def fnIsTwoPhaseShortCard : Claim7 := { stood := { row := fnIsTwoPhaseShortRow, standIns := [], harness := (true, "73c475a94f47189c799c688c753346055bc806099c190c08c491ae43e34627f9"), looks := false }, kinds := [], alts := [], laidByText := true, laidKinds := [.data, .data], laidTests := true, laidLooks := .later }
def FnIsTwoPhaseShortCardSaid : Prop := Claim7.holds Tryd.pinned (.plain (OpenSpec.ofChange fnIsTwoPhaseShortSpec)) fnIsTwoPhaseShortCard

/-- THE TIED CARD OF 'laws.FnLockPoint'. -/
def fnLockPointCard : Claim7 := { stood := { row := fnLockPointRow, standIns := [], harness := (true, "73c475a94f47189c799c688c753346055bc806099c190c08c491ae43e34627f9"), looks := false }, kinds := [], alts := [], laidByText := true, laidKinds := [.data, .data], laidTests := true, laidLooks := .later }
def FnLockPointCardSaid : Prop := Claim7.holds Tryd.pinned (.plain (OpenSpec.ofChange fnLockPointSpec)) fnLockPointCard

/-- THE SECOND FORM's CARD OF 'laws.FnLockPointNone'. -/
def fnLockPointNoneUptoCard : Claim7 := { stood := { row := fnLockPointNoneUptoRow, standIns := [], harness := (true, "73c475a94f47189c799c688c753346055bc806099c190c08c491ae43e34627f9"), looks := false }, kinds := [], alts := [], laidByText := true, laidKinds := [.data, .data], laidTests := true, laidLooks := .later }
def FnLockPointNoneUptoCardSaid : Prop := Claim7.holds Tryd.pinned (.plain (OpenSpec.upto fnLockPointNoneSpec)) fnLockPointNoneUptoCard

/-- THE SECOND FORM's CARD OF 'laws.FnAccessesOfLock'. -/
def fnAccessesOfLockUptoCard : Claim7 := { stood := { row := fnAccessesOfLockUptoRow, standIns := [], harness := (true, "73c475a94f47189c799c688c753346055bc806099c190c08c491ae43e34627f9"), looks := false }, kinds := [], alts := [], laidByText := true, laidKinds := [.data, .data], laidTests := true, laidLooks := .later }
def FnAccessesOfLockUptoCardSaid : Prop := Claim7.holds Tryd.pinned (.plain (OpenSpec.upto fnAccessesOfLockSpec)) fnAccessesOfLockUptoCard

/-- THE SECOND FORM's CARD OF 'laws.FnIsTwoPhase'. -/
def fnIsTwoPhaseUptoCard : Claim7 := { stood := { row := fnIsTwoPhaseUptoRow, standIns := [], harness := (true, "73c475a94f47189c799c688c753346055bc806099c190c08c491ae43e34627f9"), looks := false }, kinds := [], alts := [], laidByText := true, laidKinds := [.data, .data], laidTests := true, laidLooks := .later }
def FnIsTwoPhaseUptoCardSaid : Prop := Claim7.holds Tryd.pinned (.plain (OpenSpec.upto fnIsTwoPhaseSpec)) fnIsTwoPhaseUptoCard

/-- THE SECOND FORM's CARD OF 'laws.FnAsksOf'. -/
def fnAsksOfUptoCard : Claim7 := { stood := { row := fnAsksOfUptoRow, standIns := [], harness := (true, "73c475a94f47189c799c688c753346055bc806099c190c08c491ae43e34627f9"), looks := false }, kinds := [], alts := [], laidByText := true, laidKinds := [.data, .data], laidTests := true, laidLooks := .later }
def FnAsksOfUptoCardSaid : Prop := Claim7.holds Tryd.pinned (.plain (OpenSpec.upto fnAsksOfSpec)) fnAsksOfUptoCard

/-- THE SECOND FORM's CARD OF 'laws.FnAsksOfNone'. -/
def fnAsksOfNoneUptoCard : Claim7 := { stood := { row := fnAsksOfNoneUptoRow, standIns := [], harness := (true, "73c475a94f47189c799c688c753346055bc806099c190c08c491ae43e34627f9"), looks := false }, kinds := [], alts := [], laidByText := true, laidKinds := [.data, .data], laidTests := true, laidLooks := .later }
def FnAsksOfNoneUptoCardSaid : Prop := Claim7.holds Tryd.pinned (.plain (OpenSpec.upto fnAsksOfNoneSpec)) fnAsksOfNoneUptoCard

/-- THE SECOND FORM's CARD OF 'laws.FnValidSteps'. -/
def fnValidStepsUptoCard : Claim7 := { stood := { row := fnValidStepsUptoRow, standIns := [], harness := (true, "73c475a94f47189c799c688c753346055bc806099c190c08c491ae43e34627f9"), looks := false }, kinds := [], alts := [], laidByText := true, laidKinds := [.data, .data], laidTests := true, laidLooks := .later }
def FnValidStepsUptoCardSaid : Prop := Claim7.holds Tryd.pinned (.plain (OpenSpec.upto fnValidStepsSpec)) fnValidStepsUptoCard

/-- THE SECOND FORM's CARD OF 'laws.FnValidStepsFree'. -/
def fnValidStepsFreeUptoCard : Claim7 := { stood := { row := fnValidStepsFreeUptoRow, standIns := [], harness := (true, "73c475a94f47189c799c688c753346055bc806099c190c08c491ae43e34627f9"), looks := false }, kinds := [], alts := [], laidByText := true, laidKinds := [.data, .data], laidTests := true, laidLooks := .later }
def FnValidStepsFreeUptoCardSaid : Prop := Claim7.holds Tryd.pinned (.plain (OpenSpec.upto fnValidStepsFreeSpec)) fnValidStepsFreeUptoCard

/-- THE SECOND FORM's CARD OF 'laws.FnTableAfterFree'. -/
def fnTableAfterFreeUptoCard : Claim7 := { stood := { row := fnTableAfterFreeUptoRow, standIns := [], harness := (true, "73c475a94f47189c799c688c753346055bc806099c190c08c491ae43e34627f9"), looks := false }, kinds := [], alts := [], laidByText := true, laidKinds := [.data, .data], laidTests := true, laidLooks := .later }
def FnTableAfterFreeUptoCardSaid : Prop := Claim7.holds Tryd.pinned (.plain (OpenSpec.upto fnTableAfterFreeSpec)) fnTableAfterFreeUptoCard

/-- THE SECOND FORM's CARD OF 'laws.FnTableAfterValid'. -/
def fnTableAfterValidUptoCard : Claim7 := { stood := { row := fnTableAfterValidUptoRow, standIns := [], harness := (true, "73c475a94f47189c799c688c753346055bc806099c190c08c491ae43e34627f9"), looks := false }, kinds := [], alts := [], laidByText := true, laidKinds := [.data, .data], laidTests := true, laidLooks := .later }
def FnTableAfterValidUptoCardSaid : Prop := Claim7.holds Tryd.pinned (.plain (OpenSpec.upto fnTableAfterValidSpec)) fnTableAfterValidUptoCard

/-- THE SECOND FORM's CARD OF 'laws.FnTableAfter'. -/
def fnTableAfterUptoCard : Claim7 := { stood := { row := fnTableAfterUptoRow, standIns := [], harness := (true, "73c475a94f47189c799c688c753346055bc806099c190c08c491ae43e34627f9"), looks := false }, kinds := [], alts := [], laidByText := true, laidKinds := [.data, .data], laidTests := true, laidLooks := .later }
def FnTableAfterUptoCardSaid : Prop := Claim7.holds Tryd.pinned (.plain (OpenSpec.upto fnTableAfterSpec)) fnTableAfterUptoCard

/-- THE SECOND FORM's CARD OF 'laws.FnIsTwoPhaseLocks'. -/
def fnIsTwoPhaseLocksUptoCard : Claim7 := { stood := { row := fnIsTwoPhaseLocksUptoRow, standIns := [], harness := (true, "73c475a94f47189c799c688c753346055bc806099c190c08c491ae43e34627f9"), looks := false }, kinds := [], alts := [], laidByText := true, laidKinds := [.data, .data], laidTests := true, laidLooks := .later }
def FnIsTwoPhaseLocksUptoCardSaid : Prop := Claim7.holds Tryd.pinned (.plain (OpenSpec.upto fnIsTwoPhaseLocksSpec)) fnIsTwoPhaseLocksUptoCard

/-- THE SECOND FORM's CARD OF 'laws.FnIsTwoPhaseShort'. -/
def fnIsTwoPhaseShortUptoCard : Claim7 := { stood := { row := fnIsTwoPhaseShortUptoRow, standIns := [], harness := (true, "73c475a94f47189c799c688c753346055bc806099c190c08c491ae43e34627f9"), looks := false }, kinds := [], alts := [], laidByText := true, laidKinds := [.data, .data], laidTests := true, laidLooks := .later }
def FnIsTwoPhaseShortUptoCardSaid : Prop := Claim7.holds Tryd.pinned (.plain (OpenSpec.upto fnIsTwoPhaseShortSpec)) fnIsTwoPhaseShortUptoCard

/-- THE SECOND FORM's CARD OF 'laws.FnLockPoint'. -/
def fnLockPointUptoCard : Claim7 := { stood := { row := fnLockPointUptoRow, standIns := [], harness := (true, "73c475a94f47189c799c688c753346055bc806099c190c08c491ae43e34627f9"), looks := false }, kinds := [], alts := [], laidByText := true, laidKinds := [.data, .data], laidTests := true, laidLooks := .later }
def FnLockPointUptoCardSaid : Prop := Claim7.holds Tryd.pinned (.plain (OpenSpec.upto fnLockPointSpec)) fnLockPointUptoCard
end Rows
end Go.Proofs.YtpbhphpmegcenaaDoor
