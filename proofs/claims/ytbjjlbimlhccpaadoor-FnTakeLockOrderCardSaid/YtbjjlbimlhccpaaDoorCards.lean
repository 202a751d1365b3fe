/-
  DERIVED. GIVEN WITH THE SEED: THE CARDS: each row of YtbjjlbimlhccpaaDoorRows.lean that lists a variable, with what it lists TIED to the program's text (the seventh form; the later family's looks); each row that meets fmt, with fmt's text TOLD by the authors' own Lean function (tested against real Go, not proved from fmt's source: count such statements apart). THE CARD IS WHAT COUNTS. Prove the row's statement (the work); the ties are given (YtbjjlbimlhccpaaDoorTie.lean); close each card by the builder's one call (the guide's Derived/Test/ToyasCard.lean, 'card_holds'). Laid BY PROGRAM, IN A SANDBOX (cutbox-door.mjs). By AI agents, Wed Nov 11 2026. No macro, syntax, notation, axiom, sorry.
-/
import Derived.Test.YtbjjlbimlhccpaaDoorRows
import GoSem.ClaimSeven
namespace Go.Proofs.YtbjjlbimlhccpaaDoor
namespace Rows

/-- THE TIED CARD OF 'laws.FnValidTable'. -/
def fnValidTableCard : Claim7 := { stood := { row := fnValidTableRow, standIns := [], harness := (true, "4c747476b6906a1b37cf4ef4d4779d6c585722980ba29073a1598aa47b91ed71"), looks := false }, kinds := [], alts := [], laidByText := true, laidKinds := [.data], laidTests := true, laidLooks := .later }
def FnValidTableCardSaid : Prop := Claim7.holds Tryd.pinned (.plain (OpenSpec.ofChange fnValidTableSpec)) fnValidTableCard

/-- THE TIED CARD OF 'laws.FnValidTableWeaker'. -/
def fnValidTableWeakerCard : Claim7 := { stood := { row := fnValidTableWeakerRow, standIns := [], harness := (true, "4c747476b6906a1b37cf4ef4d4779d6c585722980ba29073a1598aa47b91ed71"), looks := false }, kinds := [], alts := [], laidByText := true, laidKinds := [.data], laidTests := true, laidLooks := .later }
def FnValidTableWeakerCardSaid : Prop := Claim7.holds Tryd.pinned (.plain (OpenSpec.ofChange fnValidTableWeakerSpec)) fnValidTableWeakerCard

/-- THE TIED CARD OF 'laws.FnHeldMode'. -/
def fnHeldModeCard : Claim7 := { stood := { row := fnHeldModeRow, standIns := [], harness := (true, "4c747476b6906a1b37cf4ef4d4779d6c585722980ba29073a1598aa47b91ed71"), looks := false }, kinds := [], alts := [], laidByText := true, laidKinds := [.data], laidTests := true, laidLooks := .later }
def FnHeldModeCardSaid : Prop := Claim7.holds Tryd.pinned (.plain (OpenSpec.ofChange fnHeldModeSpec)) fnHeldModeCard

/-- THE TIED CARD OF 'laws.FnHeldModeTogether'. -/
def fnHeldModeTogetherCard : Claim7 := { stood := { row := fnHeldModeTogetherRow, standIns := [], harness := (true, "4c747476b6906a1b37cf4ef4d4779d6c585722980ba29073a1598aa47b91ed71"), looks := false }, kinds := [], alts := [], laidByText := true, laidKinds := [.data], laidTests := true, laidLooks := .later }
def FnHeldModeTogetherCardSaid : Prop := Claim7.holds Tryd.pinned (.plain (OpenSpec.ofChange fnHeldModeTogetherSpec)) fnHeldModeTogetherCard

/-- THE TIED CARD OF 'laws.FnFreeLocksTwice'. -/
def fnFreeLocksTwiceCard : Claim7 := { stood := { row := fnFreeLocksTwiceRow, standIns := [], harness := (true, "4c747476b6906a1b37cf4ef4d4779d6c585722980ba29073a1598aa47b91ed71"), looks := false }, kinds := [], alts := [], laidByText := true, laidKinds := [.data], laidTests := true, laidLooks := .later }
def FnFreeLocksTwiceCardSaid : Prop := Claim7.holds Tryd.pinned (.plain (OpenSpec.ofChange fnFreeLocksTwiceSpec)) fnFreeLocksTwiceCard

/-- THE TIED CARD OF 'laws.FnFreeLocks'. -/
def fnFreeLocksCard : Claim7 := { stood := { row := fnFreeLocksRow, standIns := [], harness := (true, "4c747476b6906a1b37cf4ef4d4779d6c585722980ba29073a1598aa47b91ed71"), looks := false }, kinds := [], alts := [], laidByText := true, laidKinds := [.data], laidTests := true, laidLooks := .later }
def FnFreeLocksCardSaid : Prop := Claim7.holds Tryd.pinned (.plain (OpenSpec.ofChange fnFreeLocksSpec)) fnFreeLocksCard

/-- THE TIED CARD OF 'laws.FnLockBlockersWeaker'. -/
def fnLockBlockersWeakerCard : Claim7 := { stood := { row := fnLockBlockersWeakerRow, standIns := [], harness := (true, "4c747476b6906a1b37cf4ef4d4779d6c585722980ba29073a1598aa47b91ed71"), looks := false }, kinds := [], alts := [], laidByText := true, laidKinds := [.data, .data], laidTests := true, laidLooks := .later }
def FnLockBlockersWeakerCardSaid : Prop := Claim7.holds Tryd.pinned (.plain (OpenSpec.ofChange fnLockBlockersWeakerSpec)) fnLockBlockersWeakerCard

/-- THE TIED CARD OF 'laws.FnLockBlockers'. -/
def fnLockBlockersCard : Claim7 := { stood := { row := fnLockBlockersRow, standIns := [], harness := (true, "4c747476b6906a1b37cf4ef4d4779d6c585722980ba29073a1598aa47b91ed71"), looks := false }, kinds := [], alts := [], laidByText := true, laidKinds := [.data, .data], laidTests := true, laidLooks := .later }
def FnLockBlockersCardSaid : Prop := Claim7.holds Tryd.pinned (.plain (OpenSpec.ofChange fnLockBlockersSpec)) fnLockBlockersCard

/-- THE TIED CARD OF 'laws.FnTakeLockTwice'. -/
def fnTakeLockTwiceCard : Claim7 := { stood := { row := fnTakeLockTwiceRow, standIns := [], harness := (true, "4c747476b6906a1b37cf4ef4d4779d6c585722980ba29073a1598aa47b91ed71"), looks := false }, kinds := [], alts := [], laidByText := true, laidKinds := [.data, .data], laidTests := true, laidLooks := .later }
def FnTakeLockTwiceCardSaid : Prop := Claim7.holds Tryd.pinned (.plain (OpenSpec.ofChange fnTakeLockTwiceSpec)) fnTakeLockTwiceCard

/-- THE TIED CARD OF 'laws.FnTakeLock'. -/
def fnTakeLockCard : Claim7 := { stood := { row := fnTakeLockRow, standIns := [], harness := (true, "4c747476b6906a1b37cf4ef4d4779d6c585722980ba29073a1598aa47b91ed71"), looks := false }, kinds := [], alts := [], laidByText := true, laidKinds := [.data, .data], laidTests := true, laidLooks := .later }
def FnTakeLockCardSaid : Prop := Claim7.holds Tryd.pinned (.plain (OpenSpec.ofChange fnTakeLockSpec)) fnTakeLockCard

/-- THE TIED CARD OF 'laws.FnTakeLockOrder'. -/
def fnTakeLockOrderCard : Claim7 := { stood := { row := fnTakeLockOrderRow, standIns := [], harness := (true, "4c747476b6906a1b37cf4ef4d4779d6c585722980ba29073a1598aa47b91ed71"), looks := false }, kinds := [], alts := [], laidByText := true, laidKinds := [.data, .data], laidTests := true, laidLooks := .later }
def FnTakeLockOrderCardSaid : Prop := Claim7.holds Tryd.pinned (.plain (OpenSpec.ofChange fnTakeLockOrderSpec)) fnTakeLockOrderCard

/-- THE TIED CARD OF 'laws.FnFreeLocksBlock'. -/
def fnFreeLocksBlockCard : Claim7 := { stood := { row := fnFreeLocksBlockRow, standIns := [], harness := (true, "4c747476b6906a1b37cf4ef4d4779d6c585722980ba29073a1598aa47b91ed71"), looks := false }, kinds := [], alts := [], laidByText := true, laidKinds := [.data, .data], laidTests := true, laidLooks := .later }
def FnFreeLocksBlockCardSaid : Prop := Claim7.holds Tryd.pinned (.plain (OpenSpec.ofChange fnFreeLocksBlockSpec)) fnFreeLocksBlockCard

/-- THE SECOND FORM's CARD OF 'laws.FnValidTable'. -/
def fnValidTableUptoCard : Claim7 := { stood := { row := fnValidTableUptoRow, standIns := [], harness := (true, "4c747476b6906a1b37cf4ef4d4779d6c585722980ba29073a1598aa47b91ed71"), looks := false }, kinds := [], alts := [], laidByText := true, laidKinds := [.data], laidTests := true, laidLooks := .later }
def FnValidTableUptoCardSaid : Prop := Claim7.holds Tryd.pinned (.plain (OpenSpec.upto fnValidTableSpec)) fnValidTableUptoCard

/-- THE SECOND FORM's CARD OF 'laws.FnValidTableWeaker'. -/
def fnValidTableWeakerUptoCard : Claim7 := { stood := { row := fnValidTableWeakerUptoRow, standIns := [], harness := (true, "4c747476b6906a1b37cf4ef4d4779d6c585722980ba29073a1598aa47b91ed71"), looks := false }, kinds := [], alts := [], laidByText := true, laidKinds := [.data], laidTests := true, laidLooks := .later }
def FnValidTableWeakerUptoCardSaid : Prop := Claim7.holds Tryd.pinned (.plain (OpenSpec.upto fnValidTableWeakerSpec)) fnValidTableWeakerUptoCard

/-- THE SECOND FORM's CARD OF 'laws.FnHeldMode'. -/
def fnHeldModeUptoCard : Claim7 := { stood := { row := fnHeldModeUptoRow, standIns := [], harness := (true, "4c747476b6906a1b37cf4ef4d4779d6c585722980ba29073a1598aa47b91ed71"), looks := false }, kinds := [], alts := [], laidByText := true, laidKinds := [.data], laidTests := true, laidLooks := .later }
def FnHeldModeUptoCardSaid : Prop := Claim7.holds Tryd.pinned (.plain (OpenSpec.upto fnHeldModeSpec)) fnHeldModeUptoCard

/-- THE SECOND FORM's CARD OF 'laws.FnHeldModeTogether'. -/
def fnHeldModeTogetherUptoCard : Claim7 := { stood := { row := fnHeldModeTogetherUptoRow, standIns := [], harness := (true, "4c747476b6906a1b37cf4ef4d4779d6c585722980ba29073a1598aa47b91ed71"), looks := false }, kinds := [], alts := [], laidByText := true, laidKinds := [.data], laidTests := true, laidLooks := .later }
def FnHeldModeTogetherUptoCardSaid : Prop := Claim7.holds Tryd.pinned (.plain (OpenSpec.upto fnHeldModeTogetherSpec)) fnHeldModeTogetherUptoCard

/-- THE SECOND FORM's CARD OF 'laws.FnFreeLocksTwice'. -/
def fnFreeLocksTwiceUptoCard : Claim7 := { stood := { row := fnFreeLocksTwiceUptoRow, standIns := [], harness := (true, "4c747476b6906a1b37cf4ef4d4779d6c585722980ba29073a1598aa47b91ed71"), looks := false }, kinds := [], alts := [], laidByText := true, laidKinds := [.data], laidTests := true, laidLooks := .later }
def FnFreeLocksTwiceUptoCardSaid : Prop := Claim7.holds Tryd.pinned (.plain (OpenSpec.upto fnFreeLocksTwiceSpec)) fnFreeLocksTwiceUptoCard

/-- THE SECOND FORM's CARD OF 'laws.FnFreeLocks'. -/
def fnFreeLocksUptoCard : Claim7 := { stood := { row := fnFreeLocksUptoRow, standIns := [], harness := (true, "4c747476b6906a1b37cf4ef4d4779d6c585722980ba29073a1598aa47b91ed71"), looks := false }, kinds := [], alts := [], laidByText := true, laidKinds := [.data], laidTests := true, laidLooks := .later }
def FnFreeLocksUptoCardSaid : Prop := Claim7.holds Tryd.pinned (.plain (OpenSpec.upto fnFreeLocksSpec)) fnFreeLocksUptoCard

/-- THE SECOND FORM's CARD OF 'laws.FnLockBlockersWeaker'. -/
def fnLockBlockersWeakerUptoCard : Claim7 := { stood := { row := fnLockBlockersWeakerUptoRow, standIns := [], harness := (true, "4c747476b6906a1b37cf4ef4d4779d6c585722980ba29073a1598aa47b91ed71"), looks := false }, kinds := [], alts := [], laidByText := true, laidKinds := [.data, .data], laidTests := true, laidLooks := .later }
def FnLockBlockersWeakerUptoCardSaid : Prop := Claim7.holds Tryd.pinned (.plain (OpenSpec.upto fnLockBlockersWeakerSpec)) fnLockBlockersWeakerUptoCard

/-- THE SECOND FORM's CARD OF 'laws.FnLockBlockers'. -/
def fnLockBlockersUptoCard : Claim7 := { stood := { row := fnLockBlockersUptoRow, standIns := [], harness := (true, "4c747476b6906a1b37cf4ef4d4779d6c585722980ba29073a1598aa47b91ed71"), looks := false }, kinds := [], alts := [], laidByText := true, laidKinds := [.data, .data], laidTests := true, laidLooks := .later }
def FnLockBlockersUptoCardSaid : Prop := Claim7.holds Tryd.pinned (.plain (OpenSpec.upto fnLockBlockersSpec)) fnLockBlockersUptoCard

/-- THE SECOND FORM's CARD OF 'laws.FnTakeLockTwice'. -/
def fnTakeLockTwiceUptoCard : Claim7 := { stood := { row := fnTakeLockTwiceUptoRow, standIns := [], harness := (true, "4c747476b6906a1b37cf4ef4d4779d6c585722980ba29073a1598aa47b91ed71"), looks := false }, kinds := [], alts := [], laidByText := true, laidKinds := [.data, .data], laidTests := true, laidLooks := .later }
def FnTakeLockTwiceUptoCardSaid : Prop := Claim7.holds Tryd.pinned (.plain (OpenSpec.upto fnTakeLockTwiceSpec)) fnTakeLockTwiceUptoCard

/-- THE SECOND FORM's CARD OF 'laws.FnTakeLock'. -/
def fnTakeLockUptoCard : Claim7 := { stood := { row := fnTakeLockUptoRow, standIns := [], harness := (true, "4c747476b6906a1b37cf4ef4d4779d6c585722980ba29073a1598aa47b91ed71"), looks := false }, kinds := [], alts := [], laidByText := true, laidKinds := [.data, .data], laidTests := true, laidLooks := .later }
def FnTakeLockUptoCardSaid : Prop := Claim7.holds Tryd.pinned (.plain (OpenSpec.upto fnTakeLockSpec)) fnTakeLockUptoCard

/-- THE SECOND FORM's CARD OF 'laws.FnTakeLockOrder'. -/
def fnTakeLockOrderUptoCard : Claim7 := { stood := { row := fnTakeLockOrderUptoRow, standIns := [], harness := (true, "4c747476b6906a1b37cf4ef4d4779d6c585722980ba29073a1598aa47b91ed71"), looks := false }, kinds := [], alts := [], laidByText := true, laidKinds := [.data, .data], laidTests := true, laidLooks := .later }
def FnTakeLockOrderUptoCardSaid : Prop := Claim7.holds Tryd.pinned (.plain (OpenSpec.upto fnTakeLockOrderSpec)) fnTakeLockOrderUptoCard

/-- THE SECOND FORM's CARD OF 'laws.FnFreeLocksBlock'. -/
def fnFreeLocksBlockUptoCard : Claim7 := { stood := { row := fnFreeLocksBlockUptoRow, standIns := [], harness := (true, "4c747476b6906a1b37cf4ef4d4779d6c585722980ba29073a1598aa47b91ed71"), looks := false }, kinds := [], alts := [], laidByText := true, laidKinds := [.data, .data], laidTests := true, laidLooks := .later }
def FnFreeLocksBlockUptoCardSaid : Prop := Claim7.holds Tryd.pinned (.plain (OpenSpec.upto fnFreeLocksBlockSpec)) fnFreeLocksBlockUptoCard
end Rows
end Go.Proofs.YtbjjlbimlhccpaaDoor
