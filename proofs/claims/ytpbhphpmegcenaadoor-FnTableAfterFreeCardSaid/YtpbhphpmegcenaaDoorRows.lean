/-
  NARROWER THAN 'FOR EVERY INPUT', by the rows' own cells (each row's printed sentence says how): FnLockPointNone: laid · FnAccessesOfLock: laid · FnIsTwoPhase: laid · FnAsksOf: laid · FnAsksOfNone: laid · FnValidSteps: laid · FnValidStepsFree: laid · FnTableAfterFree: laid · FnTableAfterValid: laid · FnTableAfter: laid · FnIsTwoPhaseLocks: laid · FnIsTwoPhaseShort: laid · FnLockPoint: laid.
  DERIVED. THE GIVEN ROWS OF THIS SEAT. 13 by the template 'for every input the law returns true; each argument reads behind the call as it read before'; 0 by the template 'total and deterministic' (their statements: YtpbhphpmegcenaaDoorTotals.lean).
  GIVEN WITH THE SEED: the statements are not yours to turn. If you find one false, say at which input.
  Laid BY PROGRAM, IN A SANDBOX (cutbox-rows.mjs): the forced cells as the released guide's own fill.sh prints them over the translation d2c776bba48b3385… (all of the seat's roots in one cut). By AI agents, Wed Nov 11 2026. No macro, syntax, notation, axiom, sorry.
-/
import Derived.Test.YtpbhphpmegcenaaDoorChecked
import GoSem.Claim
import GoSem.ClaimJoined
import GoSem.ClaimMapViews
import Derived.JoinedTies
import Derived.KernelRfl
namespace Go.Proofs.YtpbhphpmegcenaaDoor
/- THE CELL 'sum', in the pinned program and in every row, IS THE sha256 OF THE DUMP (.gsa) THAT YtpbhphpmegcenaaDoorProg.lean LOADS. Nothing in Lean hashes anything: it is a label: what it is worth is what the hold of that sum in a sandbox is worth. -/
noncomputable def Tryd.pinned : Pinned := { name := "ytpbhphpmegcenaadoor", sum := "d2c776bba48b33856b3537d6de5bc34a1bbff3bf3dad1cfe735b823b2952d802", checked := Tryd.checked }
namespace Rows
def none {H : Type} : Left H := { results := [], args := [] }

/- WHAT THE LISTED PACKAGE-LEVEL VARIABLES READ AS WHEN THE CALL BEGINS. Each datum BY PROGRAM (the guide's laid-datum.mjs) off the statement by which the dump's own 'gosem.cut.vars' lays the variable. In a bare row this is a premise. The card (YtpbhphpmegcenaaDoorCards.lean) ties it to the program's text. -/
def laid_loop_example_treelocks_impl_together {H : Type} : DataW H := .agg [.agg [.lit (.bool true), .lit (.bool true), .lit (.bool true), .lit (.bool true), .lit (.bool true), .lit (.bool true)], .agg [.lit (.bool true), .lit (.bool true), .lit (.bool true), .lit (.bool true), .lit (.bool true), .lit (.bool false)], .agg [.lit (.bool true), .lit (.bool true), .lit (.bool true), .lit (.bool false), .lit (.bool false), .lit (.bool false)], .agg [.lit (.bool true), .lit (.bool true), .lit (.bool false), .lit (.bool true), .lit (.bool false), .lit (.bool false)], .agg [.lit (.bool true), .lit (.bool true), .lit (.bool false), .lit (.bool false), .lit (.bool false), .lit (.bool false)], .agg [.lit (.bool true), .lit (.bool false), .lit (.bool false), .lit (.bool false), .lit (.bool false), .lit (.bool false)]]
def laid_loop_example_treelocks_impl_joined {H : Type} : DataW H := .agg [.agg [.lit (.int .i64 0), .lit (.int .i64 1), .lit (.int .i64 2), .lit (.int .i64 3), .lit (.int .i64 4), .lit (.int .i64 5)], .agg [.lit (.int .i64 1), .lit (.int .i64 1), .lit (.int .i64 2), .lit (.int .i64 3), .lit (.int .i64 4), .lit (.int .i64 5)], .agg [.lit (.int .i64 2), .lit (.int .i64 2), .lit (.int .i64 2), .lit (.int .i64 4), .lit (.int .i64 4), .lit (.int .i64 5)], .agg [.lit (.int .i64 3), .lit (.int .i64 3), .lit (.int .i64 4), .lit (.int .i64 3), .lit (.int .i64 4), .lit (.int .i64 5)], .agg [.lit (.int .i64 4), .lit (.int .i64 4), .lit (.int .i64 4), .lit (.int .i64 4), .lit (.int .i64 4), .lit (.int .i64 5)], .agg [.lit (.int .i64 5), .lit (.int .i64 5), .lit (.int .i64 5), .lit (.int .i64 5), .lit (.int .i64 5), .lit (.int .i64 5)]]

/-- 'laws.FnLockPointNone': WHATEVER THE INPUT: true; the input reads as it did. -/
def fnLockPointNoneSpec : ChangeSpec := { name := "fnLockPointNone", vars := ["loop.example/treelocks/impl.together", "loop.example/treelocks/impl.joined"], fn := fun _ => fun
  | [d, g1, g2] => { results := [.lit (.bool true)], args := [d], vars := [g1, g2] }
  | _ => none }
def fnLockPointNoneRow : OpenClaim := { program := "ytpbhphpmegcenaadoor", sum := "d2c776bba48b33856b3537d6de5bc34a1bbff3bf3dad1cfe735b823b2952d802", func := "loop.example/treelocks/laws.FnLockPointNone", spec := "fnLockPointNone", unfollowed := true, recurses := true, named := ["loop.example/treelocks/impl.together", "loop.example/treelocks/impl.joined"], apart := false, laid := [("loop.example/treelocks/impl.together", laid_loop_example_treelocks_impl_together), ("loop.example/treelocks/impl.joined", laid_loop_example_treelocks_impl_joined)] }
def FnLockPointNoneSaid : Prop := fnLockPointNoneRow.holds Tryd.pinned (OpenSpec.ofChange fnLockPointNoneSpec)

/-- ITS FALSE NEIGHBOUR: 'it returns false'. Refute it at one input. -/
def fnLockPointNoneWrong : ChangeSpec := { name := "fnLockPointNone", vars := ["loop.example/treelocks/impl.together", "loop.example/treelocks/impl.joined"], fn := fun _ => fun
  | [d, g1, g2] => { results := [.lit (.bool false)], args := [d], vars := [g1, g2] }
  | _ => none }
def FnLockPointNoneWrongFalsely : Prop := fnLockPointNoneRow.holds Tryd.pinned (OpenSpec.ofChange fnLockPointNoneWrong)

/-- 'laws.FnAccessesOfLock': WHATEVER THE INPUT: true; the input reads as it did. -/
def fnAccessesOfLockSpec : ChangeSpec := { name := "fnAccessesOfLock", vars := ["loop.example/treelocks/impl.together", "loop.example/treelocks/impl.joined"], fn := fun _ => fun
  | [d, g1, g2] => { results := [.lit (.bool true)], args := [d], vars := [g1, g2] }
  | _ => none }
def fnAccessesOfLockRow : OpenClaim := { program := "ytpbhphpmegcenaadoor", sum := "d2c776bba48b33856b3537d6de5bc34a1bbff3bf3dad1cfe735b823b2952d802", func := "loop.example/treelocks/laws.FnAccessesOfLock", spec := "fnAccessesOfLock", unfollowed := true, recurses := true, named := ["loop.example/treelocks/impl.together", "loop.example/treelocks/impl.joined"], apart := false, laid := [("loop.example/treelocks/impl.together", laid_loop_example_treelocks_impl_together), ("loop.example/treelocks/impl.joined", laid_loop_example_treelocks_impl_joined)] }
def FnAccessesOfLockSaid : Prop := fnAccessesOfLockRow.holds Tryd.pinned (OpenSpec.ofChange fnAccessesOfLockSpec)

/-- ITS FALSE NEIGHBOUR: 'it returns false'. Refute it at one input. -/
def fnAccessesOfLockWrong : ChangeSpec := { name := "fnAccessesOfLock", vars := ["loop.example/treelocks/impl.together", "loop.example/treelocks/impl.joined"], fn := fun _ => fun
  | [d, g1, g2] => { results := [.lit (.bool false)], args := [d], vars := [g1, g2] }
  | _ => none }
def FnAccessesOfLockWrongFalsely : Prop := fnAccessesOfLockRow.holds Tryd.pinned (OpenSpec.ofChange fnAccessesOfLockWrong)

/-- 'laws.FnIsTwoPhase': WHATEVER THE INPUT: true; the input reads as it did. -/
def fnIsTwoPhaseSpec : ChangeSpec := { name := "fnIsTwoPhase", vars := ["loop.example/treelocks/impl.together", "loop.example/treelocks/impl.joined"], fn := fun _ => fun
  | [d, g1, g2] => { results := [.lit (.bool true)], args := [d], vars := [g1, g2] }
  | _ => none }
def fnIsTwoPhaseRow : OpenClaim := { program := "ytpbhphpmegcenaadoor", sum := "d2c776bba48b33856b3537d6de5bc34a1bbff3bf3dad1cfe735b823b2952d802", func := "loop.example/treelocks/laws.FnIsTwoPhase", spec := "fnIsTwoPhase", unfollowed := true, recurses := true, named := ["loop.example/treelocks/impl.together", "loop.example/treelocks/impl.joined"], apart := false, laid := [("loop.example/treelocks/impl.together", laid_loop_example_treelocks_impl_together), ("loop.example/treelocks/impl.joined", laid_loop_example_treelocks_impl_joined)] }
def FnIsTwoPhaseSaid : Prop := fnIsTwoPhaseRow.holds Tryd.pinned (OpenSpec.ofChange fnIsTwoPhaseSpec)

/-- ITS FALSE NEIGHBOUR: 'it returns false'. Refute it at one input. -/
def fnIsTwoPhaseWrong : ChangeSpec := { name := "fnIsTwoPhase", vars := ["loop.example/treelocks/impl.together", "loop.example/treelocks/impl.joined"], fn := fun _ => fun
  | [d, g1, g2] => { results := [.lit (.bool false)], args := [d], vars := [g1, g2] }
  | _ => none }
def FnIsTwoPhaseWrongFalsely : Prop := fnIsTwoPhaseRow.holds Tryd.pinned (OpenSpec.ofChange fnIsTwoPhaseWrong)

/-- 'laws.FnAsksOf': WHATEVER THE INPUT: true; the input reads as it did. -/
def fnAsksOfSpec : ChangeSpec := { name := "fnAsksOf", vars := ["loop.example/treelocks/impl.together", "loop.example/treelocks/impl.joined"], fn := fun _ => fun
  | [d, g1, g2] => { results := [.lit (.bool true)], args := [d], vars := [g1, g2] }
  | _ => none }
def fnAsksOfRow : OpenClaim := { program := "ytpbhphpmegcenaadoor", sum := "d2c776bba48b33856b3537d6de5bc34a1bbff3bf3dad1cfe735b823b2952d802", func := "loop.example/treelocks/laws.FnAsksOf", spec := "fnAsksOf", unfollowed := true, recurses := true, named := ["loop.example/treelocks/impl.together", "loop.example/treelocks/impl.joined"], apart := false, laid := [("loop.example/treelocks/impl.together", laid_loop_example_treelocks_impl_together), ("loop.example/treelocks/impl.joined", laid_loop_example_treelocks_impl_joined)] }
def FnAsksOfSaid : Prop := fnAsksOfRow.holds Tryd.pinned (OpenSpec.ofChange fnAsksOfSpec)

/-- ITS FALSE NEIGHBOUR: 'it returns false'. Refute it at one input. -/
def fnAsksOfWrong : ChangeSpec := { name := "fnAsksOf", vars := ["loop.example/treelocks/impl.together", "loop.example/treelocks/impl.joined"], fn := fun _ => fun
  | [d, g1, g2] => { results := [.lit (.bool false)], args := [d], vars := [g1, g2] }
  | _ => none }
def FnAsksOfWrongFalsely : Prop := fnAsksOfRow.holds Tryd.pinned (OpenSpec.ofChange fnAsksOfWrong)

/-- 'laws.FnAsksOfNone': WHATEVER THE INPUT: true; the input reads as it did. -/
def fnAsksOfNoneSpec : ChangeSpec := { name := "fnAsksOfNone", vars := ["loop.example/treelocks/impl.together", "loop.example/treelocks/impl.joined"], fn := fun _ => fun
  | [d, g1, g2] => { results := [.lit (.bool true)], args := [d], vars := [g1, g2] }
  | _ => none }
def fnAsksOfNoneRow : OpenClaim := { program := "ytpbhphpmegcenaadoor", sum := "d2c776bba48b33856b3537d6de5bc34a1bbff3bf3dad1cfe735b823b2952d802", func := "loop.example/treelocks/laws.FnAsksOfNone", spec := "fnAsksOfNone", unfollowed := true, recurses := true, named := ["loop.example/treelocks/impl.together", "loop.example/treelocks/impl.joined"], apart := false, laid := [("loop.example/treelocks/impl.together", laid_loop_example_treelocks_impl_together), ("loop.example/treelocks/impl.joined", laid_loop_example_treelocks_impl_joined)] }
def FnAsksOfNoneSaid : Prop := fnAsksOfNoneRow.holds Tryd.pinned (OpenSpec.ofChange fnAsksOfNoneSpec)

/-- ITS FALSE NEIGHBOUR: 'it returns false'. Refute it at one input. -/
def fnAsksOfNoneWrong : ChangeSpec := { name := "fnAsksOfNone", vars := ["loop.example/treelocks/impl.together", "loop.example/treelocks/impl.joined"], fn := fun _ => fun
  | [d, g1, g2] => { results := [.lit (.bool false)], args := [d], vars := [g1, g2] }
  | _ => none }
def FnAsksOfNoneWrongFalsely : Prop := fnAsksOfNoneRow.holds Tryd.pinned (OpenSpec.ofChange fnAsksOfNoneWrong)

/-- 'laws.FnValidSteps': WHATEVER THE INPUT: true; the input reads as it did. -/
def fnValidStepsSpec : ChangeSpec := { name := "fnValidSteps", vars := ["loop.example/treelocks/impl.together", "loop.example/treelocks/impl.joined"], fn := fun _ => fun
  | [d, g1, g2] => { results := [.lit (.bool true)], args := [d], vars := [g1, g2] }
  | _ => none }
def fnValidStepsRow : OpenClaim := { program := "ytpbhphpmegcenaadoor", sum := "d2c776bba48b33856b3537d6de5bc34a1bbff3bf3dad1cfe735b823b2952d802", func := "loop.example/treelocks/laws.FnValidSteps", spec := "fnValidSteps", unfollowed := true, recurses := true, named := ["loop.example/treelocks/impl.together", "loop.example/treelocks/impl.joined"], apart := false, laid := [("loop.example/treelocks/impl.together", laid_loop_example_treelocks_impl_together), ("loop.example/treelocks/impl.joined", laid_loop_example_treelocks_impl_joined)] }
def FnValidStepsSaid : Prop := fnValidStepsRow.holds Tryd.pinned (OpenSpec.ofChange fnValidStepsSpec)

/-- ITS FALSE NEIGHBOUR: 'it returns false'. Refute it at one input. -/
def fnValidStepsWrong : ChangeSpec := { name := "fnValidSteps", vars := ["loop.example/treelocks/impl.together", "loop.example/treelocks/impl.joined"], fn := fun _ => fun
  | [d, g1, g2] => { results := [.lit (.bool false)], args := [d], vars := [g1, g2] }
  | _ => none }
def FnValidStepsWrongFalsely : Prop := fnValidStepsRow.holds Tryd.pinned (OpenSpec.ofChange fnValidStepsWrong)

/-- 'laws.FnValidStepsFree': WHATEVER THE INPUT: true; the input reads as it did. -/
def fnValidStepsFreeSpec : ChangeSpec := { name := "fnValidStepsFree", vars := ["loop.example/treelocks/impl.together", "loop.example/treelocks/impl.joined"], fn := fun _ => fun
  | [d, g1, g2] => { results := [.lit (.bool true)], args := [d], vars := [g1, g2] }
  | _ => none }
def fnValidStepsFreeRow : OpenClaim := { program := "ytpbhphpmegcenaadoor", sum := "d2c776bba48b33856b3537d6de5bc34a1bbff3bf3dad1cfe735b823b2952d802", func := "loop.example/treelocks/laws.FnValidStepsFree", spec := "fnValidStepsFree", unfollowed := true, recurses := true, named := ["loop.example/treelocks/impl.together", "loop.example/treelocks/impl.joined"], apart := false, laid := [("loop.example/treelocks/impl.together", laid_loop_example_treelocks_impl_together), ("loop.example/treelocks/impl.joined", laid_loop_example_treelocks_impl_joined)] }
def FnValidStepsFreeSaid : Prop := fnValidStepsFreeRow.holds Tryd.pinned (OpenSpec.ofChange fnValidStepsFreeSpec)

/-- ITS FALSE NEIGHBOUR: 'it returns false'. Refute it at one input. -/
def fnValidStepsFreeWrong : ChangeSpec := { name := "fnValidStepsFree", vars := ["loop.example/treelocks/impl.together", "loop.example/treelocks/impl.joined"], fn := fun _ => fun
  | [d, g1, g2] => { results := [.lit (.bool false)], args := [d], vars := [g1, g2] }
  | _ => none }
def FnValidStepsFreeWrongFalsely : Prop := fnValidStepsFreeRow.holds Tryd.pinned (OpenSpec.ofChange fnValidStepsFreeWrong)

/-- 'laws.FnTableAfterFree': WHATEVER THE INPUT: true; the input reads as it did. -/
def fnTableAfterFreeSpec : ChangeSpec := { name := "fnTableAfterFree", vars := ["loop.example/treelocks/impl.together", "loop.example/treelocks/impl.joined"], fn := fun _ => fun
  | [d, g1, g2] => { results := [.lit (.bool true)], args := [d], vars := [g1, g2] }
  | _ => none }
def fnTableAfterFreeRow : OpenClaim := { program := "ytpbhphpmegcenaadoor", sum := "d2c776bba48b33856b3537d6de5bc34a1bbff3bf3dad1cfe735b823b2952d802", func := "loop.example/treelocks/laws.FnTableAfterFree", spec := "fnTableAfterFree", unfollowed := true, recurses := true, named := ["loop.example/treelocks/impl.together", "loop.example/treelocks/impl.joined"], apart := false, laid := [("loop.example/treelocks/impl.together", laid_loop_example_treelocks_impl_together), ("loop.example/treelocks/impl.joined", laid_loop_example_treelocks_impl_joined)] }
def FnTableAfterFreeSaid : Prop := fnTableAfterFreeRow.holds Tryd.pinned (OpenSpec.ofChange fnTableAfterFreeSpec)

/-- ITS FALSE NEIGHBOUR: 'it returns false'. Refute it at one input. -/
def fnTableAfterFreeWrong : ChangeSpec := { name := "fnTableAfterFree", vars := ["loop.example/treelocks/impl.together", "loop.example/treelocks/impl.joined"], fn := fun _ => fun
  | [d, g1, g2] => { results := [.lit (.bool false)], args := [d], vars := [g1, g2] }
  | _ => none }
def FnTableAfterFreeWrongFalsely : Prop := fnTableAfterFreeRow.holds Tryd.pinned (OpenSpec.ofChange fnTableAfterFreeWrong)

/-- 'laws.FnTableAfterValid': WHATEVER THE INPUT: true; the input reads as it did. -/
def fnTableAfterValidSpec : ChangeSpec := { name := "fnTableAfterValid", vars := ["loop.example/treelocks/impl.together", "loop.example/treelocks/impl.joined"], fn := fun _ => fun
  | [d, g1, g2] => { results := [.lit (.bool true)], args := [d], vars := [g1, g2] }
  | _ => none }
def fnTableAfterValidRow : OpenClaim := { program := "ytpbhphpmegcenaadoor", sum := "d2c776bba48b33856b3537d6de5bc34a1bbff3bf3dad1cfe735b823b2952d802", func := "loop.example/treelocks/laws.FnTableAfterValid", spec := "fnTableAfterValid", unfollowed := true, recurses := true, named := ["loop.example/treelocks/impl.together", "loop.example/treelocks/impl.joined"], apart := false, laid := [("loop.example/treelocks/impl.together", laid_loop_example_treelocks_impl_together), ("loop.example/treelocks/impl.joined", laid_loop_example_treelocks_impl_joined)] }
def FnTableAfterValidSaid : Prop := fnTableAfterValidRow.holds Tryd.pinned (OpenSpec.ofChange fnTableAfterValidSpec)

/-- ITS FALSE NEIGHBOUR: 'it returns false'. Refute it at one input. -/
def fnTableAfterValidWrong : ChangeSpec := { name := "fnTableAfterValid", vars := ["loop.example/treelocks/impl.together", "loop.example/treelocks/impl.joined"], fn := fun _ => fun
  | [d, g1, g2] => { results := [.lit (.bool false)], args := [d], vars := [g1, g2] }
  | _ => none }
def FnTableAfterValidWrongFalsely : Prop := fnTableAfterValidRow.holds Tryd.pinned (OpenSpec.ofChange fnTableAfterValidWrong)

/-- 'laws.FnTableAfter': WHATEVER THE INPUT: true; the input reads as it did. -/
def fnTableAfterSpec : ChangeSpec := { name := "fnTableAfter", vars := ["loop.example/treelocks/impl.together", "loop.example/treelocks/impl.joined"], fn := fun _ => fun
  | [d, g1, g2] => { results := [.lit (.bool true)], args := [d], vars := [g1, g2] }
  | _ => none }
def fnTableAfterRow : OpenClaim := { program := "ytpbhphpmegcenaadoor", sum := "d2c776bba48b33856b3537d6de5bc34a1bbff3bf3dad1cfe735b823b2952d802", func := "loop.example/treelocks/laws.FnTableAfter", spec := "fnTableAfter", unfollowed := true, recurses := true, named := ["loop.example/treelocks/impl.together", "loop.example/treelocks/impl.joined"], apart := false, laid := [("loop.example/treelocks/impl.together", laid_loop_example_treelocks_impl_together), ("loop.example/treelocks/impl.joined", laid_loop_example_treelocks_impl_joined)] }
def FnTableAfterSaid : Prop := fnTableAfterRow.holds Tryd.pinned (OpenSpec.ofChange fnTableAfterSpec)

/-- ITS FALSE NEIGHBOUR: 'it returns false'. Refute it at one input. -/
def fnTableAfterWrong : ChangeSpec := { name := "fnTableAfter", vars := ["loop.example/treelocks/impl.together", "loop.example/treelocks/impl.joined"], fn := fun _ => fun
  | [d, g1, g2] => { results := [.lit (.bool false)], args := [d], vars := [g1, g2] }
  | _ => none }
def FnTableAfterWrongFalsely : Prop := fnTableAfterRow.holds Tryd.pinned (OpenSpec.ofChange fnTableAfterWrong)

/-- 'laws.FnIsTwoPhaseLocks': WHATEVER THE INPUT: true; the input reads as it did. -/
def fnIsTwoPhaseLocksSpec : ChangeSpec := { name := "fnIsTwoPhaseLocks", vars := ["loop.example/treelocks/impl.together", "loop.example/treelocks/impl.joined"], fn := fun _ => fun
  | [d, g1, g2] => { results := [.lit (.bool true)], args := [d], vars := [g1, g2] }
  | _ => none }
def fnIsTwoPhaseLocksRow : OpenClaim := { program := "ytpbhphpmegcenaadoor", sum := "d2c776bba48b33856b3537d6de5bc34a1bbff3bf3dad1cfe735b823b2952d802", func := "loop.example/treelocks/laws.FnIsTwoPhaseLocks", spec := "fnIsTwoPhaseLocks", unfollowed := true, recurses := true, named := ["loop.example/treelocks/impl.together", "loop.example/treelocks/impl.joined"], apart := false, laid := [("loop.example/treelocks/impl.together", laid_loop_example_treelocks_impl_together), ("loop.example/treelocks/impl.joined", laid_loop_example_treelocks_impl_joined)] }
def FnIsTwoPhaseLocksSaid : Prop := fnIsTwoPhaseLocksRow.holds Tryd.pinned (OpenSpec.ofChange fnIsTwoPhaseLocksSpec)

/-- ITS FALSE NEIGHBOUR: 'it returns false'. Refute it at one input. -/
def fnIsTwoPhaseLocksWrong : ChangeSpec := { name := "fnIsTwoPhaseLocks", vars := ["loop.example/treelocks/impl.together", "loop.example/treelocks/impl.joined"], fn := fun _ => fun
  | [d, g1, g2] => { results := [.lit (.bool false)], args := [d], vars := [g1, g2] }
  | _ => none }
def FnIsTwoPhaseLocksWrongFalsely : Prop := fnIsTwoPhaseLocksRow.holds Tryd.pinned (OpenSpec.ofChange fnIsTwoPhaseLocksWrong)

/-- 'laws.FnIsTwoPhaseShort': WHATEVER THE INPUT: true; the input reads as it did. -/
def fnIsTwoPhaseShortSpec : ChangeSpec := { name := "fnIsTwoPhaseShort", vars := ["loop.example/treelocks/impl.together", "loop.example/treelocks/impl.joined"], fn := fun _ => fun
  | [d, g1, g2] => { results := [.lit (.bool true)], args := [d], vars := [g1, g2] }
  | _ => none }
def fnIsTwoPhaseShortRow : OpenClaim := { program := "ytpbhphpmegcenaadoor", sum := "d2c776bba48b33856b3537d6de5bc34a1bbff3bf3dad1cfe735b823b2952d802", func := "loop.example/treelocks/laws.FnIsTwoPhaseShort", spec := "fnIsTwoPhaseShort", unfollowed := true, recurses := true, named := ["loop.example/treelocks/impl.together", "loop.example/treelocks/impl.joined"], apart := false, laid := [("loop.example/treelocks/impl.together", laid_loop_example_treelocks_impl_together), ("loop.example/treelocks/impl.joined", laid_loop_example_treelocks_impl_joined)] }
def FnIsTwoPhaseShortSaid : Prop := fnIsTwoPhaseShortRow.holds Tryd.pinned (OpenSpec.ofChange fnIsTwoPhaseShortSpec)

/-- ITS FALSE NEIGHBOUR: 'it returns false'. Refute it at one input. -/
def fnIsTwoPhaseShortWrong : ChangeSpec := { name := "fnIsTwoPhaseShort", vars := ["loop.example/treelocks/impl.together", "loop.example/treelocks/impl.joined"], fn := fun _ => fun
  | [d, g1, g2] => { results := [.lit (.bool false)], args := [d], vars := [g1, g2] }
  | _ => none }
def FnIsTwoPhaseShortWrongFalsely : Prop := fnIsTwoPhaseShortRow.holds Tryd.pinned (OpenSpec.ofChange fnIsTwoPhaseShortWrong)

/-- 'laws.FnLockPoint': WHATEVER THE INPUT: true; the input reads as it did. -/
def fnLockPointSpec : ChangeSpec := { name := "fnLockPoint", vars := ["loop.example/treelocks/impl.together", "loop.example/treelocks/impl.joined"], fn := fun _ => fun
  | [d, g1, g2] => { results := [.lit (.bool true)], args := [d], vars := [g1, g2] }
  | _ => none }
def fnLockPointRow : OpenClaim := { program := "ytpbhphpmegcenaadoor", sum := "d2c776bba48b33856b3537d6de5bc34a1bbff3bf3dad1cfe735b823b2952d802", func := "loop.example/treelocks/laws.FnLockPoint", spec := "fnLockPoint", unfollowed := true, recurses := true, named := ["loop.example/treelocks/impl.together", "loop.example/treelocks/impl.joined"], apart := false, laid := [("loop.example/treelocks/impl.together", laid_loop_example_treelocks_impl_together), ("loop.example/treelocks/impl.joined", laid_loop_example_treelocks_impl_joined)] }
def FnLockPointSaid : Prop := fnLockPointRow.holds Tryd.pinned (OpenSpec.ofChange fnLockPointSpec)

/-- ITS FALSE NEIGHBOUR: 'it returns false'. Refute it at one input. -/
def fnLockPointWrong : ChangeSpec := { name := "fnLockPoint", vars := ["loop.example/treelocks/impl.together", "loop.example/treelocks/impl.joined"], fn := fun _ => fun
  | [d, g1, g2] => { results := [.lit (.bool false)], args := [d], vars := [g1, g2] }
  | _ => none }
def FnLockPointWrongFalsely : Prop := fnLockPointRow.holds Tryd.pinned (OpenSpec.ofChange fnLockPointWrong)

/- THE SECOND FORM. 'bulk': how many values and letters a reading holds, each counted each time it is reached (what is shared counts as often as it is met; a slice's spare places count too). A statement '..UptoSaid' is the law's where the arguments, and the package variables that the reading takes, are together of bulk at most 1048576: NARROWER than '..Said'. Prove '..Said' where nothing that the law and all that it calls make is longer than what came in: it says more and counts as full. Else prove '..UptoSaid'. A law counts once. -/
mutual
def uptoBulk {H : Type} : DataW H → Nat
  | .lit (.string bytes) => bytes.length + 1
  | .lit _ => 1
  | .nil => 1
  | .ptr d => uptoBulk d + 1
  | .slice elems spare => uptoBulkAll elems + uptoBulkAll spare + 1
  | .agg parts => uptoBulkAll parts + 1
  | .iface _ d => uptoBulk d + 1
  | .map entries => uptoBulkEntries entries + 1
  | .held _ => 1
def uptoBulkAll {H : Type} : List (DataW H) → Nat
  | [] => 0
  | d :: r => uptoBulk d + uptoBulkAll r
def uptoBulkEntries {H : Type} : List (Lit × DataW H) → Nat
  | [] => 0
  | x :: r => uptoBulkEntry x + uptoBulkEntries r
def uptoBulkEntry {H : Type} : Lit × DataW H → Nat
  | (.string bytes, d) => bytes.length + uptoBulk d + 1
  | (_, d) => uptoBulk d + 1
 end
def uptoSmall : (H : Type) → List (DataW H) → Bool := fun _ ds => decide (uptoBulkAll ds ≤ 1048576)
def OpenSpec.upto (s : _root_.Go.ChangeSpec) : _root_.Go.OpenSpec := { _root_.Go.OpenSpec.ofChange s with cond := some uptoSmall }

/-- 'laws.FnLockPointNone', WHERE WHAT IT READS IS OF BULK AT MOST 1048576: true; the input reads as it did. -/
def fnLockPointNoneUptoRow : OpenClaim := { program := "ytpbhphpmegcenaadoor", sum := "d2c776bba48b33856b3537d6de5bc34a1bbff3bf3dad1cfe735b823b2952d802", func := "loop.example/treelocks/laws.FnLockPointNone", spec := "fnLockPointNone", unfollowed := true, recurses := true, named := ["loop.example/treelocks/impl.together", "loop.example/treelocks/impl.joined"], apart := false, laid := [("loop.example/treelocks/impl.together", laid_loop_example_treelocks_impl_together), ("loop.example/treelocks/impl.joined", laid_loop_example_treelocks_impl_joined)], narrowed := true }
def FnLockPointNoneUptoSaid : Prop := fnLockPointNoneUptoRow.holds Tryd.pinned (OpenSpec.upto fnLockPointNoneSpec)

/-- 'laws.FnAccessesOfLock', WHERE WHAT IT READS IS OF BULK AT MOST 1048576: true; the input reads as it did. -/
def fnAccessesOfLockUptoRow : OpenClaim := { program := "ytpbhphpmegcenaadoor", sum := "d2c776bba48b33856b3537d6de5bc34a1bbff3bf3dad1cfe735b823b2952d802", func := "loop.example/treelocks/laws.FnAccessesOfLock", spec := "fnAccessesOfLock", unfollowed := true, recurses := true, named := ["loop.example/treelocks/impl.together", "loop.example/treelocks/impl.joined"], apart := false, laid := [("loop.example/treelocks/impl.together", laid_loop_example_treelocks_impl_together), ("loop.example/treelocks/impl.joined", laid_loop_example_treelocks_impl_joined)], narrowed := true }
def FnAccessesOfLockUptoSaid : Prop := fnAccessesOfLockUptoRow.holds Tryd.pinned (OpenSpec.upto fnAccessesOfLockSpec)

/-- 'laws.FnIsTwoPhase', WHERE WHAT IT READS IS OF BULK AT MOST 1048576: true; the input reads as it did. -/
def fnIsTwoPhaseUptoRow : OpenClaim := { program := "ytpbhphpmegcenaadoor", sum := "d2c776bba48b33856b3537d6de5bc34a1bbff3bf3dad1cfe735b823b2952d802", func := "loop.example/treelocks/laws.FnIsTwoPhase", spec := "fnIsTwoPhase", unfollowed := true, recurses := true, named := ["loop.example/treelocks/impl.together", "loop.example/treelocks/impl.joined"], apart := false, laid := [("loop.example/treelocks/impl.together", laid_loop_example_treelocks_impl_together), ("loop.example/treelocks/impl.joined", laid_loop_example_treelocks_impl_joined)], narrowed := true }
def FnIsTwoPhaseUptoSaid : Prop := fnIsTwoPhaseUptoRow.holds Tryd.pinned (OpenSpec.upto fnIsTwoPhaseSpec)

/-- 'laws.FnAsksOf', WHERE WHAT IT READS IS OF BULK AT MOST 1048576: true; the input reads as it did. -/
def fnAsksOfUptoRow : OpenClaim := { program := "ytpbhphpmegcenaadoor", sum := "d2c776bba48b33856b3537d6de5bc34a1bbff3bf3dad1cfe735b823b2952d802", func := "loop.example/treelocks/laws.FnAsksOf", spec := "fnAsksOf", unfollowed := true, recurses := true, named := ["loop.example/treelocks/impl.together", "loop.example/treelocks/impl.joined"], apart := false, laid := [("loop.example/treelocks/impl.together", laid_loop_example_treelocks_impl_together), ("loop.example/treelocks/impl.joined", laid_loop_example_treelocks_impl_joined)], narrowed := true }
def FnAsksOfUptoSaid : Prop := fnAsksOfUptoRow.holds Tryd.pinned (OpenSpec.upto fnAsksOfSpec)

/-- 'laws.FnAsksOfNone', WHERE WHAT IT READS IS OF BULK AT MOST 1048576: true; the input reads as it did. -/
def fnAsksOfNoneUptoRow : OpenClaim := { program := "ytpbhphpmegcenaadoor", sum := "d2c776bba48b33856b3537d6de5bc34a1bbff3bf3dad1cfe735b823b2952d802", func := "loop.example/treelocks/laws.FnAsksOfNone", spec := "fnAsksOfNone", unfollowed := true, recurses := true, named := ["loop.example/treelocks/impl.together", "loop.example/treelocks/impl.joined"], apart := false, laid := [("loop.example/treelocks/impl.together", laid_loop_example_treelocks_impl_together), ("loop.example/treelocks/impl.joined", laid_loop_example_treelocks_impl_joined)], narrowed := true }
def FnAsksOfNoneUptoSaid : Prop := fnAsksOfNoneUptoRow.holds Tryd.pinned (OpenSpec.upto fnAsksOfNoneSpec)

/-- 'laws.FnValidSteps', WHERE WHAT IT READS IS OF BULK AT MOST 1048576: true; the input reads as it did. -/
def fnValidStepsUptoRow : OpenClaim := { program := "ytpbhphpmegcenaadoor", sum := "d2c776bba48b33856b3537d6de5bc34a1bbff3bf3dad1cfe735b823b2952d802", func := "loop.example/treelocks/laws.FnValidSteps", spec := "fnValidSteps", unfollowed := true, recurses := true, named := ["loop.example/treelocks/impl.together", "loop.example/treelocks/impl.joined"], apart := false, laid := [("loop.example/treelocks/impl.together", laid_loop_example_treelocks_impl_together), ("loop.example/treelocks/impl.joined", laid_loop_example_treelocks_impl_joined)], narrowed := true }
def FnValidStepsUptoSaid : Prop := fnValidStepsUptoRow.holds Tryd.pinned (OpenSpec.upto fnValidStepsSpec)

/-- 'laws.FnValidStepsFree', WHERE WHAT IT READS IS OF BULK AT MOST 1048576: true; the input reads as it did. -/
def fnValidStepsFreeUptoRow : OpenClaim := { program := "ytpbhphpmegcenaadoor", sum := "d2c776bba48b33856b3537d6de5bc34a1bbff3bf3dad1cfe735b823b2952d802", func := "loop.example/treelocks/laws.FnValidStepsFree", spec := "fnValidStepsFree", unfollowed := true, recurses := true, named := ["loop.example/treelocks/impl.together", "loop.example/treelocks/impl.joined"], apart := false, laid := [("loop.example/treelocks/impl.together", laid_loop_example_treelocks_impl_together), ("loop.example/treelocks/impl.joined", laid_loop_example_treelocks_impl_joined)], narrowed := true }
def FnValidStepsFreeUptoSaid : Prop := fnValidStepsFreeUptoRow.holds Tryd.pinned (OpenSpec.upto fnValidStepsFreeSpec)

/-- 'laws.FnTableAfterFree', WHERE WHAT IT READS IS OF BULK AT MOST 1048576: true; the input reads as it did. -/
def fnTableAfterFreeUptoRow : OpenClaim := { program := "ytpbhphpmegcenaadoor", sum := "d2c776bba48b33856b3537d6de5bc34a1bbff3bf3dad1cfe735b823b2952d802", func := "loop.example/treelocks/laws.FnTableAfterFree", spec := "fnTableAfterFree", unfollowed := true, recurses := true, named := ["loop.example/treelocks/impl.together", "loop.example/treelocks/impl.joined"], apart := false, laid := [("loop.example/treelocks/impl.together", laid_loop_example_treelocks_impl_together), ("loop.example/treelocks/impl.joined", laid_loop_example_treelocks_impl_joined)], narrowed := true }
def FnTableAfterFreeUptoSaid : Prop := fnTableAfterFreeUptoRow.holds Tryd.pinned (OpenSpec.upto fnTableAfterFreeSpec)

/-- 'laws.FnTableAfterValid', WHERE WHAT IT READS IS OF BULK AT MOST 1048576: true; the input reads as it did. -/
def fnTableAfterValidUptoRow : OpenClaim := { program := "ytpbhphpmegcenaadoor", sum := "d2c776bba48b33856b3537d6de5bc34a1bbff3bf3dad1cfe735b823b2952d802", func := "loop.example/treelocks/laws.FnTableAfterValid", spec := "fnTableAfterValid", unfollowed := true, recurses := true, named := ["loop.example/treelocks/impl.together", "loop.example/treelocks/impl.joined"], apart := false, laid := [("loop.example/treelocks/impl.together", laid_loop_example_treelocks_impl_together), ("loop.example/treelocks/impl.joined", laid_loop_example_treelocks_impl_joined)], narrowed := true }
def FnTableAfterValidUptoSaid : Prop := fnTableAfterValidUptoRow.holds Tryd.pinned (OpenSpec.upto fnTableAfterValidSpec)

/-- 'laws.FnTableAfter', WHERE WHAT IT READS IS OF BULK AT MOST 1048576: true; the input reads as it did. -/
def fnTableAfterUptoRow : OpenClaim := { program := "ytpbhphpmegcenaadoor", sum := "d2c776bba48b33856b3537d6de5bc34a1bbff3bf3dad1cfe735b823b2952d802", func := "loop.example/treelocks/laws.FnTableAfter", spec := "fnTableAfter", unfollowed := true, recurses := true, named := ["loop.example/treelocks/impl.together", "loop.example/treelocks/impl.joined"], apart := false, laid := [("loop.example/treelocks/impl.together", laid_loop_example_treelocks_impl_together), ("loop.example/treelocks/impl.joined", laid_loop_example_treelocks_impl_joined)], narrowed := true }
def FnTableAfterUptoSaid : Prop := fnTableAfterUptoRow.holds Tryd.pinned (OpenSpec.upto fnTableAfterSpec)

/-- 'laws.FnIsTwoPhaseLocks', WHERE WHAT IT READS IS OF BULK AT MOST 1048576: true; the input reads as it did. -/
def fnIsTwoPhaseLocksUptoRow : OpenClaim := { program := "ytpbhphpmegcenaadoor", sum := "d2c776bba48b33856b3537d6de5bc34a1bbff3bf3dad1cfe735b823b2952d802", func := "loop.example/treelocks/laws.FnIsTwoPhaseLocks", spec := "fnIsTwoPhaseLocks", unfollowed := true, recurses := true, named := ["loop.example/treelocks/impl.together", "loop.example/treelocks/impl.joined"], apart := false, laid := [("loop.example/treelocks/impl.together", laid_loop_example_treelocks_impl_together), ("loop.example/treelocks/impl.joined", laid_loop_example_treelocks_impl_joined)], narrowed := true }
def FnIsTwoPhaseLocksUptoSaid : Prop := fnIsTwoPhaseLocksUptoRow.holds Tryd.pinned (OpenSpec.upto fnIsTwoPhaseLocksSpec)

/-- 'laws.FnIsTwoPhaseShort', WHERE WHAT IT READS IS OF BULK AT MOST 1048576: true; the input reads as it did. -/
def fnIsTwoPhaseShortUptoRow : OpenClaim := { program := "ytpbhphpmegcenaadoor", sum := "d2c776bba48b33856b3537d6de5bc34a1bbff3bf3dad1cfe735b823b2952d802", func := "loop.example/treelocks/laws.FnIsTwoPhaseShort", spec := "fnIsTwoPhaseShort", unfollowed := true, recurses := true, named := ["loop.example/treelocks/impl.together", "loop.example/treelocks/impl.joined"], apart := false, laid := [("loop.example/treelocks/impl.together", laid_loop_example_treelocks_impl_together), ("loop.example/treelocks/impl.joined", laid_loop_example_treelocks_impl_joined)], narrowed := true }
def FnIsTwoPhaseShortUptoSaid : Prop := fnIsTwoPhaseShortUptoRow.holds Tryd.pinned (OpenSpec.upto fnIsTwoPhaseShortSpec)

/-- 'laws.FnLockPoint', WHERE WHAT IT READS IS OF BULK AT MOST 1048576: true; the input reads as it did. -/
def fnLockPointUptoRow : OpenClaim := { program := "ytpbhphpmegcenaadoor", sum := "d2c776bba48b33856b3537d6de5bc34a1bbff3bf3dad1cfe735b823b2952d802", func := "loop.example/treelocks/laws.FnLockPoint", spec := "fnLockPoint", unfollowed := true, recurses := true, named := ["loop.example/treelocks/impl.together", "loop.example/treelocks/impl.joined"], apart := false, laid := [("loop.example/treelocks/impl.together", laid_loop_example_treelocks_impl_together), ("loop.example/treelocks/impl.joined", laid_loop_example_treelocks_impl_joined)], narrowed := true }
def FnLockPointUptoSaid : Prop := fnLockPointUptoRow.holds Tryd.pinned (OpenSpec.upto fnLockPointSpec)

end Rows
end Go.Proofs.YtpbhphpmegcenaaDoor
