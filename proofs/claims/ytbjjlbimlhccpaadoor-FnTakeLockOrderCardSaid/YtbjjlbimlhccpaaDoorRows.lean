/-
  NARROWER THAN 'FOR EVERY INPUT', by the rows' own cells (each row's printed sentence says how): FnValidTable: laid · FnValidTableWeaker: laid · FnHeldMode: laid · FnHeldModeTogether: laid · FnFreeLocksTwice: laid · FnFreeLocks: laid · FnLockBlockersWeaker: laid · FnLockBlockers: laid · FnTakeLockTwice: laid · FnTakeLock: laid · FnTakeLockOrder: laid · FnFreeLocksBlock: laid.
  DERIVED. THE GIVEN ROWS OF THIS SEAT. 12 by the template 'for every input the law returns true; each argument reads behind the call as it read before'; 0 by the template 'total and deterministic' (their statements: YtbjjlbimlhccpaaDoorTotals.lean).
  GIVEN WITH THE SEED: the statements are not yours to turn. If you find one false, say at which input.
  Laid BY PROGRAM, IN A SANDBOX (cutbox-rows.mjs): the forced cells as the released guide's own fill.sh prints them over the translation ba930a988c3669d9… (all of the seat's roots in one cut). By AI agents, Wed Nov 11 2026. No macro, syntax, notation, axiom, sorry.
-/
import Derived.Test.YtbjjlbimlhccpaaDoorChecked
import GoSem.Claim
import GoSem.ClaimJoined
import GoSem.ClaimMapViews
import Derived.JoinedTies
import Derived.KernelRfl
namespace Go.Proofs.YtbjjlbimlhccpaaDoor
/- THE CELL 'sum', in the pinned program and in every row, IS THE sha256 OF THE DUMP (.gsa) THAT YtbjjlbimlhccpaaDoorProg.lean LOADS. Nothing in Lean hashes anything: it is a label: what it is worth is what the hold of that sum in a sandbox is worth. -/
noncomputable def Tryd.pinned : Pinned := { name := "ytbjjlbimlhccpaadoor", sum := "ba930a988c3669d9fea772c6a6369cf1757049d1c8bce5a72b26bf7943121183", checked := Tryd.checked }
namespace Rows
def none {H : Type} : Left H := { results := [], args := [] }

/- WHAT THE LISTED PACKAGE-LEVEL VARIABLES READ AS WHEN THE CALL BEGINS. Each datum BY PROGRAM (the guide's laid-datum.mjs) off the statement by which the dump's own 'gosem.cut.vars' lays the variable. In a bare row this is a premise. The card (YtbjjlbimlhccpaaDoorCards.lean) ties it to the program's text. -/
def laid_loop_example_treelocks_impl_together {H : Type} : DataW H := .agg [.agg [.lit (.bool true), .lit (.bool true), .lit (.bool true), .lit (.bool true), .lit (.bool true), .lit (.bool true)], .agg [.lit (.bool true), .lit (.bool true), .lit (.bool true), .lit (.bool true), .lit (.bool true), .lit (.bool false)], .agg [.lit (.bool true), .lit (.bool true), .lit (.bool true), .lit (.bool false), .lit (.bool false), .lit (.bool false)], .agg [.lit (.bool true), .lit (.bool true), .lit (.bool false), .lit (.bool true), .lit (.bool false), .lit (.bool false)], .agg [.lit (.bool true), .lit (.bool true), .lit (.bool false), .lit (.bool false), .lit (.bool false), .lit (.bool false)], .agg [.lit (.bool true), .lit (.bool false), .lit (.bool false), .lit (.bool false), .lit (.bool false), .lit (.bool false)]]
def laid_loop_example_treelocks_impl_joined {H : Type} : DataW H := .agg [.agg [.lit (.int .i64 0), .lit (.int .i64 1), .lit (.int .i64 2), .lit (.int .i64 3), .lit (.int .i64 4), .lit (.int .i64 5)], .agg [.lit (.int .i64 1), .lit (.int .i64 1), .lit (.int .i64 2), .lit (.int .i64 3), .lit (.int .i64 4), .lit (.int .i64 5)], .agg [.lit (.int .i64 2), .lit (.int .i64 2), .lit (.int .i64 2), .lit (.int .i64 4), .lit (.int .i64 4), .lit (.int .i64 5)], .agg [.lit (.int .i64 3), .lit (.int .i64 3), .lit (.int .i64 4), .lit (.int .i64 3), .lit (.int .i64 4), .lit (.int .i64 5)], .agg [.lit (.int .i64 4), .lit (.int .i64 4), .lit (.int .i64 4), .lit (.int .i64 4), .lit (.int .i64 4), .lit (.int .i64 5)], .agg [.lit (.int .i64 5), .lit (.int .i64 5), .lit (.int .i64 5), .lit (.int .i64 5), .lit (.int .i64 5), .lit (.int .i64 5)]]

/-- 'laws.FnValidTable': WHATEVER THE INPUT: true; the input reads as it did. -/
def fnValidTableSpec : ChangeSpec := { name := "fnValidTable", vars := ["loop.example/treelocks/impl.together"], fn := fun _ => fun
  | [d, g1] => { results := [.lit (.bool true)], args := [d], vars := [g1] }
  | _ => none }
def fnValidTableRow : OpenClaim := { program := "ytbjjlbimlhccpaadoor", sum := "ba930a988c3669d9fea772c6a6369cf1757049d1c8bce5a72b26bf7943121183", func := "loop.example/treelocks/laws.FnValidTable", spec := "fnValidTable", named := ["loop.example/treelocks/impl.together"], apart := false, laid := [("loop.example/treelocks/impl.together", laid_loop_example_treelocks_impl_together)] }
def FnValidTableSaid : Prop := fnValidTableRow.holds Tryd.pinned (OpenSpec.ofChange fnValidTableSpec)

/-- ITS FALSE NEIGHBOUR: 'it returns false'. Refute it at one input. -/
def fnValidTableWrong : ChangeSpec := { name := "fnValidTable", vars := ["loop.example/treelocks/impl.together"], fn := fun _ => fun
  | [d, g1] => { results := [.lit (.bool false)], args := [d], vars := [g1] }
  | _ => none }
def FnValidTableWrongFalsely : Prop := fnValidTableRow.holds Tryd.pinned (OpenSpec.ofChange fnValidTableWrong)

/-- 'laws.FnValidTableWeaker': WHATEVER THE INPUT: true; the input reads as it did. -/
def fnValidTableWeakerSpec : ChangeSpec := { name := "fnValidTableWeaker", vars := ["loop.example/treelocks/impl.together"], fn := fun _ => fun
  | [d, g1] => { results := [.lit (.bool true)], args := [d], vars := [g1] }
  | _ => none }
def fnValidTableWeakerRow : OpenClaim := { program := "ytbjjlbimlhccpaadoor", sum := "ba930a988c3669d9fea772c6a6369cf1757049d1c8bce5a72b26bf7943121183", func := "loop.example/treelocks/laws.FnValidTableWeaker", spec := "fnValidTableWeaker", named := ["loop.example/treelocks/impl.together"], apart := false, laid := [("loop.example/treelocks/impl.together", laid_loop_example_treelocks_impl_together)] }
def FnValidTableWeakerSaid : Prop := fnValidTableWeakerRow.holds Tryd.pinned (OpenSpec.ofChange fnValidTableWeakerSpec)

/-- ITS FALSE NEIGHBOUR: 'it returns false'. Refute it at one input. -/
def fnValidTableWeakerWrong : ChangeSpec := { name := "fnValidTableWeaker", vars := ["loop.example/treelocks/impl.together"], fn := fun _ => fun
  | [d, g1] => { results := [.lit (.bool false)], args := [d], vars := [g1] }
  | _ => none }
def FnValidTableWeakerWrongFalsely : Prop := fnValidTableWeakerRow.holds Tryd.pinned (OpenSpec.ofChange fnValidTableWeakerWrong)

/-- 'laws.FnHeldMode': WHATEVER THE INPUT: true; the input reads as it did. -/
def fnHeldModeSpec : ChangeSpec := { name := "fnHeldMode", vars := ["loop.example/treelocks/impl.together"], fn := fun _ => fun
  | [d, g1] => { results := [.lit (.bool true)], args := [d], vars := [g1] }
  | _ => none }
def fnHeldModeRow : OpenClaim := { program := "ytbjjlbimlhccpaadoor", sum := "ba930a988c3669d9fea772c6a6369cf1757049d1c8bce5a72b26bf7943121183", func := "loop.example/treelocks/laws.FnHeldMode", spec := "fnHeldMode", unfollowed := true, recurses := true, named := ["loop.example/treelocks/impl.together"], apart := false, laid := [("loop.example/treelocks/impl.together", laid_loop_example_treelocks_impl_together)] }
def FnHeldModeSaid : Prop := fnHeldModeRow.holds Tryd.pinned (OpenSpec.ofChange fnHeldModeSpec)

/-- ITS FALSE NEIGHBOUR: 'it returns false'. Refute it at one input. -/
def fnHeldModeWrong : ChangeSpec := { name := "fnHeldMode", vars := ["loop.example/treelocks/impl.together"], fn := fun _ => fun
  | [d, g1] => { results := [.lit (.bool false)], args := [d], vars := [g1] }
  | _ => none }
def FnHeldModeWrongFalsely : Prop := fnHeldModeRow.holds Tryd.pinned (OpenSpec.ofChange fnHeldModeWrong)

/-- 'laws.FnHeldModeTogether': WHATEVER THE INPUT: true; the input reads as it did. -/
def fnHeldModeTogetherSpec : ChangeSpec := { name := "fnHeldModeTogether", vars := ["loop.example/treelocks/impl.together"], fn := fun _ => fun
  | [d, g1] => { results := [.lit (.bool true)], args := [d], vars := [g1] }
  | _ => none }
def fnHeldModeTogetherRow : OpenClaim := { program := "ytbjjlbimlhccpaadoor", sum := "ba930a988c3669d9fea772c6a6369cf1757049d1c8bce5a72b26bf7943121183", func := "loop.example/treelocks/laws.FnHeldModeTogether", spec := "fnHeldModeTogether", unfollowed := true, recurses := true, named := ["loop.example/treelocks/impl.together"], apart := false, laid := [("loop.example/treelocks/impl.together", laid_loop_example_treelocks_impl_together)] }
def FnHeldModeTogetherSaid : Prop := fnHeldModeTogetherRow.holds Tryd.pinned (OpenSpec.ofChange fnHeldModeTogetherSpec)

/-- ITS FALSE NEIGHBOUR: 'it returns false'. Refute it at one input. -/
def fnHeldModeTogetherWrong : ChangeSpec := { name := "fnHeldModeTogether", vars := ["loop.example/treelocks/impl.together"], fn := fun _ => fun
  | [d, g1] => { results := [.lit (.bool false)], args := [d], vars := [g1] }
  | _ => none }
def FnHeldModeTogetherWrongFalsely : Prop := fnHeldModeTogetherRow.holds Tryd.pinned (OpenSpec.ofChange fnHeldModeTogetherWrong)

/-- 'laws.FnFreeLocksTwice': WHATEVER THE INPUT: true; the input reads as it did. -/
def fnFreeLocksTwiceSpec : ChangeSpec := { name := "fnFreeLocksTwice", vars := ["loop.example/treelocks/impl.together"], fn := fun _ => fun
  | [d, g1] => { results := [.lit (.bool true)], args := [d], vars := [g1] }
  | _ => none }
def fnFreeLocksTwiceRow : OpenClaim := { program := "ytbjjlbimlhccpaadoor", sum := "ba930a988c3669d9fea772c6a6369cf1757049d1c8bce5a72b26bf7943121183", func := "loop.example/treelocks/laws.FnFreeLocksTwice", spec := "fnFreeLocksTwice", named := ["loop.example/treelocks/impl.together"], apart := false, laid := [("loop.example/treelocks/impl.together", laid_loop_example_treelocks_impl_together)] }
def FnFreeLocksTwiceSaid : Prop := fnFreeLocksTwiceRow.holds Tryd.pinned (OpenSpec.ofChange fnFreeLocksTwiceSpec)

/-- ITS FALSE NEIGHBOUR: 'it returns false'. Refute it at one input. -/
def fnFreeLocksTwiceWrong : ChangeSpec := { name := "fnFreeLocksTwice", vars := ["loop.example/treelocks/impl.together"], fn := fun _ => fun
  | [d, g1] => { results := [.lit (.bool false)], args := [d], vars := [g1] }
  | _ => none }
def FnFreeLocksTwiceWrongFalsely : Prop := fnFreeLocksTwiceRow.holds Tryd.pinned (OpenSpec.ofChange fnFreeLocksTwiceWrong)

/-- 'laws.FnFreeLocks': WHATEVER THE INPUT: true; the input reads as it did. -/
def fnFreeLocksSpec : ChangeSpec := { name := "fnFreeLocks", vars := ["loop.example/treelocks/impl.together"], fn := fun _ => fun
  | [d, g1] => { results := [.lit (.bool true)], args := [d], vars := [g1] }
  | _ => none }
def fnFreeLocksRow : OpenClaim := { program := "ytbjjlbimlhccpaadoor", sum := "ba930a988c3669d9fea772c6a6369cf1757049d1c8bce5a72b26bf7943121183", func := "loop.example/treelocks/laws.FnFreeLocks", spec := "fnFreeLocks", unfollowed := true, recurses := true, named := ["loop.example/treelocks/impl.together"], apart := false, laid := [("loop.example/treelocks/impl.together", laid_loop_example_treelocks_impl_together)] }
def FnFreeLocksSaid : Prop := fnFreeLocksRow.holds Tryd.pinned (OpenSpec.ofChange fnFreeLocksSpec)

/-- ITS FALSE NEIGHBOUR: 'it returns false'. Refute it at one input. -/
def fnFreeLocksWrong : ChangeSpec := { name := "fnFreeLocks", vars := ["loop.example/treelocks/impl.together"], fn := fun _ => fun
  | [d, g1] => { results := [.lit (.bool false)], args := [d], vars := [g1] }
  | _ => none }
def FnFreeLocksWrongFalsely : Prop := fnFreeLocksRow.holds Tryd.pinned (OpenSpec.ofChange fnFreeLocksWrong)

/-- 'laws.FnLockBlockersWeaker': WHATEVER THE INPUT: true; the input reads as it did. -/
def fnLockBlockersWeakerSpec : ChangeSpec := { name := "fnLockBlockersWeaker", vars := ["loop.example/treelocks/impl.together", "loop.example/treelocks/impl.joined"], fn := fun _ => fun
  | [d, g1, g2] => { results := [.lit (.bool true)], args := [d], vars := [g1, g2] }
  | _ => none }
def fnLockBlockersWeakerRow : OpenClaim := { program := "ytbjjlbimlhccpaadoor", sum := "ba930a988c3669d9fea772c6a6369cf1757049d1c8bce5a72b26bf7943121183", func := "loop.example/treelocks/laws.FnLockBlockersWeaker", spec := "fnLockBlockersWeaker", unfollowed := true, recurses := true, named := ["loop.example/treelocks/impl.together", "loop.example/treelocks/impl.joined"], apart := false, laid := [("loop.example/treelocks/impl.together", laid_loop_example_treelocks_impl_together), ("loop.example/treelocks/impl.joined", laid_loop_example_treelocks_impl_joined)] }
def FnLockBlockersWeakerSaid : Prop := fnLockBlockersWeakerRow.holds Tryd.pinned (OpenSpec.ofChange fnLockBlockersWeakerSpec)

/-- ITS FALSE NEIGHBOUR: 'it returns false'. Refute it at one input. -/
def fnLockBlockersWeakerWrong : ChangeSpec := { name := "fnLockBlockersWeaker", vars := ["loop.example/treelocks/impl.together", "loop.example/treelocks/impl.joined"], fn := fun _ => fun
  | [d, g1, g2] => { results := [.lit (.bool false)], args := [d], vars := [g1, g2] }
  | _ => none }
def FnLockBlockersWeakerWrongFalsely : Prop := fnLockBlockersWeakerRow.holds Tryd.pinned (OpenSpec.ofChange fnLockBlockersWeakerWrong)

/-- 'laws.FnLockBlockers': WHATEVER THE INPUT: true; the input reads as it did. -/
def fnLockBlockersSpec : ChangeSpec := { name := "fnLockBlockers", vars := ["loop.example/treelocks/impl.together", "loop.example/treelocks/impl.joined"], fn := fun _ => fun
  | [d, g1, g2] => { results := [.lit (.bool true)], args := [d], vars := [g1, g2] }
  | _ => none }
def fnLockBlockersRow : OpenClaim := { program := "ytbjjlbimlhccpaadoor", sum := "ba930a988c3669d9fea772c6a6369cf1757049d1c8bce5a72b26bf7943121183", func := "loop.example/treelocks/laws.FnLockBlockers", spec := "fnLockBlockers", unfollowed := true, recurses := true, named := ["loop.example/treelocks/impl.together", "loop.example/treelocks/impl.joined"], apart := false, laid := [("loop.example/treelocks/impl.together", laid_loop_example_treelocks_impl_together), ("loop.example/treelocks/impl.joined", laid_loop_example_treelocks_impl_joined)] }
def FnLockBlockersSaid : Prop := fnLockBlockersRow.holds Tryd.pinned (OpenSpec.ofChange fnLockBlockersSpec)

/-- ITS FALSE NEIGHBOUR: 'it returns false'. Refute it at one input. -/
def fnLockBlockersWrong : ChangeSpec := { name := "fnLockBlockers", vars := ["loop.example/treelocks/impl.together", "loop.example/treelocks/impl.joined"], fn := fun _ => fun
  | [d, g1, g2] => { results := [.lit (.bool false)], args := [d], vars := [g1, g2] }
  | _ => none }
def FnLockBlockersWrongFalsely : Prop := fnLockBlockersRow.holds Tryd.pinned (OpenSpec.ofChange fnLockBlockersWrong)

/-- 'laws.FnTakeLockTwice': WHATEVER THE INPUT: true; the input reads as it did. -/
def fnTakeLockTwiceSpec : ChangeSpec := { name := "fnTakeLockTwice", vars := ["loop.example/treelocks/impl.together", "loop.example/treelocks/impl.joined"], fn := fun _ => fun
  | [d, g1, g2] => { results := [.lit (.bool true)], args := [d], vars := [g1, g2] }
  | _ => none }
def fnTakeLockTwiceRow : OpenClaim := { program := "ytbjjlbimlhccpaadoor", sum := "ba930a988c3669d9fea772c6a6369cf1757049d1c8bce5a72b26bf7943121183", func := "loop.example/treelocks/laws.FnTakeLockTwice", spec := "fnTakeLockTwice", unfollowed := true, recurses := true, named := ["loop.example/treelocks/impl.together", "loop.example/treelocks/impl.joined"], apart := false, laid := [("loop.example/treelocks/impl.together", laid_loop_example_treelocks_impl_together), ("loop.example/treelocks/impl.joined", laid_loop_example_treelocks_impl_joined)] }
def FnTakeLockTwiceSaid : Prop := fnTakeLockTwiceRow.holds Tryd.pinned (OpenSpec.ofChange fnTakeLockTwiceSpec)

/-- ITS FALSE NEIGHBOUR: 'it returns false'. Refute it at one input. -/
def fnTakeLockTwiceWrong : ChangeSpec := { name := "fnTakeLockTwice", vars := ["loop.example/treelocks/impl.together", "loop.example/treelocks/impl.joined"], fn := fun _ => fun
  | [d, g1, g2] => { results := [.lit (.bool false)], args := [d], vars := [g1, g2] }
  | _ => none }
def FnTakeLockTwiceWrongFalsely : Prop := fnTakeLockTwiceRow.holds Tryd.pinned (OpenSpec.ofChange fnTakeLockTwiceWrong)

/-- 'laws.FnTakeLock': WHATEVER THE INPUT: true; the input reads as it did. -/
def fnTakeLockSpec : ChangeSpec := { name := "fnTakeLock", vars := ["loop.example/treelocks/impl.together", "loop.example/treelocks/impl.joined"], fn := fun _ => fun
  | [d, g1, g2] => { results := [.lit (.bool true)], args := [d], vars := [g1, g2] }
  | _ => none }
def fnTakeLockRow : OpenClaim := { program := "ytbjjlbimlhccpaadoor", sum := "ba930a988c3669d9fea772c6a6369cf1757049d1c8bce5a72b26bf7943121183", func := "loop.example/treelocks/laws.FnTakeLock", spec := "fnTakeLock", unfollowed := true, recurses := true, named := ["loop.example/treelocks/impl.together", "loop.example/treelocks/impl.joined"], apart := false, laid := [("loop.example/treelocks/impl.together", laid_loop_example_treelocks_impl_together), ("loop.example/treelocks/impl.joined", laid_loop_example_treelocks_impl_joined)] }
def FnTakeLockSaid : Prop := fnTakeLockRow.holds Tryd.pinned (OpenSpec.ofChange fnTakeLockSpec)

/-- ITS FALSE NEIGHBOUR: 'it returns false'. Refute it at one input. -/
def fnTakeLockWrong : ChangeSpec := { name := "fnTakeLock", vars := ["loop.example/treelocks/impl.together", "loop.example/treelocks/impl.joined"], fn := fun _ => fun
  | [d, g1, g2] => { results := [.lit (.bool false)], args := [d], vars := [g1, g2] }
  | _ => none }
def FnTakeLockWrongFalsely : Prop := fnTakeLockRow.holds Tryd.pinned (OpenSpec.ofChange fnTakeLockWrong)

/-- 'laws.FnTakeLockOrder': WHATEVER THE INPUT: true; the input reads as it did. -/
def fnTakeLockOrderSpec : ChangeSpec := { name := "fnTakeLockOrder", vars := ["loop.example/treelocks/impl.together", "loop.example/treelocks/impl.joined"], fn := fun _ => fun
  | [d, g1, g2] => { results := [.lit (.bool true)], args := [d], vars := [g1, g2] }
  | _ => none }
def fnTakeLockOrderRow : OpenClaim := { program := "ytbjjlbimlhccpaadoor", sum := "ba930a988c3669d9fea772c6a6369cf1757049d1c8bce5a72b26bf7943121183", func := "loop.example/treelocks/laws.FnTakeLockOrder", spec := "fnTakeLockOrder", unfollowed := true, recurses := true, named := ["loop.example/treelocks/impl.together", "loop.example/treelocks/impl.joined"], apart := false, laid := [("loop.example/treelocks/impl.together", laid_loop_example_treelocks_impl_together), ("loop.example/treelocks/impl.joined", laid_loop_example_treelocks_impl_joined)] }
def FnTakeLockOrderSaid : Prop := fnTakeLockOrderRow.holds Tryd.pinned (OpenSpec.ofChange fnTakeLockOrderSpec)

/-- ITS FALSE NEIGHBOUR: 'it returns false'. Refute it at one input. -/
def fnTakeLockOrderWrong : ChangeSpec := { name := "fnTakeLockOrder", vars := ["loop.example/treelocks/impl.together", "loop.example/treelocks/impl.joined"], fn := fun _ => fun
  | [d, g1, g2] => { results := [.lit (.bool false)], args := [d], vars := [g1, g2] }
  | _ => none }
def FnTakeLockOrderWrongFalsely : Prop := fnTakeLockOrderRow.holds Tryd.pinned (OpenSpec.ofChange fnTakeLockOrderWrong)

/-- 'laws.FnFreeLocksBlock': WHATEVER THE INPUT: true; the input reads as it did. -/
def fnFreeLocksBlockSpec : ChangeSpec := { name := "fnFreeLocksBlock", vars := ["loop.example/treelocks/impl.together", "loop.example/treelocks/impl.joined"], fn := fun _ => fun
  | [d, g1, g2] => { results := [.lit (.bool true)], args := [d], vars := [g1, g2] }
  | _ => none }
def fnFreeLocksBlockRow : OpenClaim := { program := "ytbjjlbimlhccpaadoor", sum := "ba930a988c3669d9fea772c6a6369cf1757049d1c8bce5a72b26bf7943121183", func := "loop.example/treelocks/laws.FnFreeLocksBlock", spec := "fnFreeLocksBlock", unfollowed := true, recurses := true, named := ["loop.example/treelocks/impl.together", "loop.example/treelocks/impl.joined"], apart := false, laid := [("loop.example/treelocks/impl.together", laid_loop_example_treelocks_impl_together), ("loop.example/treelocks/impl.joined", laid_loop_example_treelocks_impl_joined)] }
def FnFreeLocksBlockSaid : Prop := fnFreeLocksBlockRow.holds Tryd.pinned (OpenSpec.ofChange fnFreeLocksBlockSpec)

/-- ITS FALSE NEIGHBOUR: 'it returns false'. Refute it at one input. -/
def fnFreeLocksBlockWrong : ChangeSpec := { name := "fnFreeLocksBlock", vars := ["loop.example/treelocks/impl.together", "loop.example/treelocks/impl.joined"], fn := fun _ => fun
  | [d, g1, g2] => { results := [.lit (.bool false)], args := [d], vars := [g1, g2] }
  | _ => none }
def FnFreeLocksBlockWrongFalsely : Prop := fnFreeLocksBlockRow.holds Tryd.pinned (OpenSpec.ofChange fnFreeLocksBlockWrong)

/- THE SECOND FORM. 'bulk': how many values and letters a reading holds, each counted each time it is reached (what is shared counts as often as it is met; a slice's spare places count too). A statement '..UptoSaid' is the law's where the arguments, and the package variables that the reading takes, are together of bulk at most 1048576: NARROWER than '..Said'. Prove '..Said' where nothing that the law and all that it calls make is longer than what came in: it says more and counts as full. Else prove '..UptoSaid'. A law counts once. -/
mutual
def uptoBulk {H : Type} : DataW H → Nat
  | .lit (.string bytes) => bytes.length + 1
  | .lit _ => 1
  | .nil => 1
  | .ptr d => uptoBulk d + 1
  | .slice elems spare => uptoBulkAll elems + uptoBulkAll spare + 1
  | .agg parts => uptoBulkAll parts + 1
  | .iface _ d => uptoBulk d + 1
  | .map entries => uptoBulkEntries entries + 1
  | .held _ => 1
def uptoBulkAll {H : Type} : List (DataW H) → Nat
  | [] => 0
  | d :: r => uptoBulk d + uptoBulkAll r
def uptoBulkEntries {H : Type} : List (Lit × DataW H) → Nat
  | [] => 0
  | x :: r => uptoBulkEntry x + uptoBulkEntries r
def uptoBulkEntry {H : Type} : Lit × DataW H → Nat
  | (.string bytes, d) => bytes.length + uptoBulk d + 1
  | (_, d) => uptoBulk d + 1
 end
def uptoSmall : (H : Type) → List (DataW H) → Bool := fun _ ds => decide (uptoBulkAll ds ≤ 1048576)
def OpenSpec.upto (s : _root_.Go.ChangeSpec) : _root_.Go.OpenSpec := { _root_.Go.OpenSpec.ofChange s with cond := some uptoSmall }

/-- 'laws.FnValidTable', WHERE WHAT IT READS IS OF BULK AT MOST 1048576: true; the input reads as it did. -/
def fnValidTableUptoRow : OpenClaim := { program := "ytbjjlbimlhccpaadoor", sum := "ba930a988c3669d9fea772c6a6369cf1757049d1c8bce5a72b26bf7943121183", func := "loop.example/treelocks/laws.FnValidTable", spec := "fnValidTable", named := ["loop.example/treelocks/impl.together"], apart := false, laid := [("loop.example/treelocks/impl.together", laid_loop_example_treelocks_impl_together)], narrowed := true }
def FnValidTableUptoSaid : Prop := fnValidTableUptoRow.holds Tryd.pinned (OpenSpec.upto fnValidTableSpec)

/-- 'laws.FnValidTableWeaker', WHERE WHAT IT READS IS OF BULK AT MOST 1048576: true; the input reads as it did. -/
def fnValidTableWeakerUptoRow : OpenClaim := { program := "ytbjjlbimlhccpaadoor", sum := "ba930a988c3669d9fea772c6a6369cf1757049d1c8bce5a72b26bf7943121183", func := "loop.example/treelocks/laws.FnValidTableWeaker", spec := "fnValidTableWeaker", named := ["loop.example/treelocks/impl.together"], apart := false, laid := [("loop.example/treelocks/impl.together", laid_loop_example_treelocks_impl_together)], narrowed := true }
def FnValidTableWeakerUptoSaid : Prop := fnValidTableWeakerUptoRow.holds Tryd.pinned (OpenSpec.upto fnValidTableWeakerSpec)

/-- 'laws.FnHeldMode', WHERE WHAT IT READS IS OF BULK AT MOST 1048576: true; the input reads as it did. -/
def fnHeldModeUptoRow : OpenClaim := { program := "ytbjjlbimlhccpaadoor", sum := "ba930a988c3669d9fea772c6a6369cf1757049d1c8bce5a72b26bf7943121183", func := "loop.example/treelocks/laws.FnHeldMode", spec := "fnHeldMode", unfollowed := true, recurses := true, named := ["loop.example/treelocks/impl.together"], apart := false, laid := [("loop.example/treelocks/impl.together", laid_loop_example_treelocks_impl_together)], narrowed := true }
def FnHeldModeUptoSaid : Prop := fnHeldModeUptoRow.holds Tryd.pinned (OpenSpec.upto fnHeldModeSpec)

/-- 'laws.FnHeldModeTogether', WHERE WHAT IT READS IS OF BULK AT MOST 1048576: true; the input reads as it did. -/
def fnHeldModeTogetherUptoRow : OpenClaim := { program := "ytbjjlbimlhccpaadoor", sum := "ba930a988c3669d9fea772c6a6369cf1757049d1c8bce5a72b26bf7943121183", func := "loop.example/treelocks/laws.FnHeldModeTogether", spec := "fnHeldModeTogether", unfollowed := true, recurses := true, named := ["loop.example/treelocks/impl.together"], apart := false, laid := [("loop.example/treelocks/impl.together", laid_loop_example_treelocks_impl_together)], narrowed := true }
def FnHeldModeTogetherUptoSaid : Prop := fnHeldModeTogetherUptoRow.holds Tryd.pinned (OpenSpec.upto fnHeldModeTogetherSpec)

/-- 'laws.FnFreeLocksTwice', WHERE WHAT IT READS IS OF BULK AT MOST 1048576: true; the input reads as it did. -/
def fnFreeLocksTwiceUptoRow : OpenClaim := { program := "ytbjjlbimlhccpaadoor", sum := "ba930a988c3669d9fea772c6a6369cf1757049d1c8bce5a72b26bf7943121183", func := "loop.example/treelocks/laws.FnFreeLocksTwice", spec := "fnFreeLocksTwice", named := ["loop.example/treelocks/impl.together"], apart := false, laid := [("loop.example/treelocks/impl.together", laid_loop_example_treelocks_impl_together)], narrowed := true }
def FnFreeLocksTwiceUptoSaid : Prop := fnFreeLocksTwiceUptoRow.holds Tryd.pinned (OpenSpec.upto fnFreeLocksTwiceSpec)

/-- 'laws.FnFreeLocks', WHERE WHAT IT READS IS OF BULK AT MOST 1048576: true; the input reads as it did. -/
def fnFreeLocksUptoRow : OpenClaim := { program := "ytbjjlbimlhccpaadoor", sum := "ba930a988c3669d9fea772c6a6369cf1757049d1c8bce5a72b26bf7943121183", func := "loop.example/treelocks/laws.FnFreeLocks", spec := "fnFreeLocks", unfollowed := true, recurses := true, named := ["loop.example/treelocks/impl.together"], apart := false, laid := [("loop.example/treelocks/impl.together", laid_loop_example_treelocks_impl_together)], narrowed := true }
def FnFreeLocksUptoSaid : Prop := fnFreeLocksUptoRow.holds Tryd.pinned (OpenSpec.upto fnFreeLocksSpec)

/-- 'laws.FnLockBlockersWeaker', WHERE WHAT IT READS IS OF BULK AT MOST 1048576: true; the input reads as it did. -/
def fnLockBlockersWeakerUptoRow : OpenClaim := { program := "ytbjjlbimlhccpaadoor", sum := "ba930a988c3669d9fea772c6a6369cf1757049d1c8bce5a72b26bf7943121183", func := "loop.example/treelocks/laws.FnLockBlockersWeaker", spec := "fnLockBlockersWeaker", unfollowed := true, recurses := true, named := ["loop.example/treelocks/impl.together", "loop.example/treelocks/impl.joined"], apart := false, laid := [("loop.example/treelocks/impl.together", laid_loop_example_treelocks_impl_together), ("loop.example/treelocks/impl.joined", laid_loop_example_treelocks_impl_joined)], narrowed := true }
def FnLockBlockersWeakerUptoSaid : Prop := fnLockBlockersWeakerUptoRow.holds Tryd.pinned (OpenSpec.upto fnLockBlockersWeakerSpec)

/-- 'laws.FnLockBlockers', WHERE WHAT IT READS IS OF BULK AT MOST 1048576: true; the input reads as it did. -/
def fnLockBlockersUptoRow : OpenClaim := { program := "ytbjjlbimlhccpaadoor", sum := "ba930a988c3669d9fea772c6a6369cf1757049d1c8bce5a72b26bf7943121183", func := "loop.example/treelocks/laws.FnLockBlockers", spec := "fnLockBlockers", unfollowed := true, recurses := true, named := ["loop.example/treelocks/impl.together", "loop.example/treelocks/impl.joined"], apart := false, laid := [("loop.example/treelocks/impl.together", laid_loop_example_treelocks_impl_together), ("loop.example/treelocks/impl.joined", laid_loop_example_treelocks_impl_joined)], narrowed := true }
def FnLockBlockersUptoSaid : Prop := fnLockBlockersUptoRow.holds Tryd.pinned (OpenSpec.upto fnLockBlockersSpec)

/-- 'laws.FnTakeLockTwice', WHERE WHAT IT READS IS OF BULK AT MOST 1048576: true; the input reads as it did. -/
def fnTakeLockTwiceUptoRow : OpenClaim := { program := "ytbjjlbimlhccpaadoor", sum := "ba930a988c3669d9fea772c6a6369cf1757049d1c8bce5a72b26bf7943121183", func := "loop.example/treelocks/laws.FnTakeLockTwice", spec := "fnTakeLockTwice", unfollowed := true, recurses := true, named := ["loop.example/treelocks/impl.together", "loop.example/treelocks/impl.joined"], apart := false, laid := [("loop.example/treelocks/impl.together", laid_loop_example_treelocks_impl_together), ("loop.example/treelocks/impl.joined", laid_loop_example_treelocks_impl_joined)], narrowed := true }
def FnTakeLockTwiceUptoSaid : Prop := fnTakeLockTwiceUptoRow.holds Tryd.pinned (OpenSpec.upto fnTakeLockTwiceSpec)

/-- 'laws.FnTakeLock', WHERE WHAT IT READS IS OF BULK AT MOST 1048576: true; the input reads as it did. -/
def fnTakeLockUptoRow : OpenClaim := { program := "ytbjjlbimlhccpaadoor", sum := "ba930a988c3669d9fea772c6a6369cf1757049d1c8bce5a72b26bf7943121183", func := "loop.example/treelocks/laws.FnTakeLock", spec := "fnTakeLock", unfollowed := true, recurses := true, named := ["loop.example/treelocks/impl.together", "loop.example/treelocks/impl.joined"], apart := false, laid := [("loop.example/treelocks/impl.together", laid_loop_example_treelocks_impl_together), ("loop.example/treelocks/impl.joined", laid_loop_example_treelocks_impl_joined)], narrowed := true }
def FnTakeLockUptoSaid : Prop := fnTakeLockUptoRow.holds Tryd.pinned (OpenSpec.upto fnTakeLockSpec)

/-- 'laws.FnTakeLockOrder', WHERE WHAT IT READS IS OF BULK AT MOST 1048576: true; the input reads as it did. -/
def fnTakeLockOrderUptoRow : OpenClaim := { program := "ytbjjlbimlhccpaadoor", sum := "ba930a988c3669d9fea772c6a6369cf1757049d1c8bce5a72b26bf7943121183", func := "loop.example/treelocks/laws.FnTakeLockOrder", spec := "fnTakeLockOrder", unfollowed := true, recurses := true, named := ["loop.example/treelocks/impl.together", "loop.example/treelocks/impl.joined"], apart := false, laid := [("loop.example/treelocks/impl.together", laid_loop_example_treelocks_impl_together), ("loop.example/treelocks/impl.joined", laid_loop_example_treelocks_impl_joined)], narrowed := true }
def FnTakeLockOrderUptoSaid : Prop := fnTakeLockOrderUptoRow.holds Tryd.pinned (OpenSpec.upto fnTakeLockOrderSpec)

/-- 'laws.FnFreeLocksBlock', WHERE WHAT IT READS IS OF BULK AT MOST 1048576: true; the input reads as it did. -/
def fnFreeLocksBlockUptoRow : OpenClaim := { program := "ytbjjlbimlhccpaadoor", sum := "ba930a988c3669d9fea772c6a6369cf1757049d1c8bce5a72b26bf7943121183", func := "loop.example/treelocks/laws.FnFreeLocksBlock", spec := "fnFreeLocksBlock", unfollowed := true, recurses := true, named := ["loop.example/treelocks/impl.together", "loop.example/treelocks/impl.joined"], apart := false, laid := [("loop.example/treelocks/impl.together", laid_loop_example_treelocks_impl_together), ("loop.example/treelocks/impl.joined", laid_loop_example_treelocks_impl_joined)], narrowed := true }
def FnFreeLocksBlockUptoSaid : Prop := fnFreeLocksBlockUptoRow.holds Tryd.pinned (OpenSpec.upto fnFreeLocksBlockSpec)

end Rows
end Go.Proofs.YtbjjlbimlhccpaaDoor
