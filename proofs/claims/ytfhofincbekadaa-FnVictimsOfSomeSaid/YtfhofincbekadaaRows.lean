/-
  No cell of these rows narrows 'for every input' (looked for: loops, veiled, ifaces, maps, wideKeys, modest, calm, conditions, laid).
  DERIVED. THE GIVEN ROWS OF THIS SEAT. 13 by the template 'for every input the law returns true; each argument reads behind the call as it read before'; 0 by the template 'total and deterministic' (their statements: YtfhofincbekadaaTotals.lean).
  GIVEN WITH THE SEED: the statements are not yours to turn. If you find one false, say at which input.
  Laid BY PROGRAM, IN A SANDBOX (cutbox-rows.mjs): the forced cells as the released guide's own fill.sh prints them over the translation 762ac134e781458d… (all of the seat's roots in one cut). By AI agents, Wed Nov 11 2026. No macro, syntax, notation, axiom, sorry.
-/
import Derived.Test.YtfhofincbekadaaChecked
import GoSem.Claim
import GoSem.ClaimJoined
import GoSem.ClaimMapViews
import Derived.JoinedTies
import Derived.KernelRfl
namespace Go.Proofs.Ytfhofincbekadaa
/- THE CELL 'sum', in the pinned program and in every row, IS THE sha256 OF THE DUMP (.gsa) THAT YtfhofincbekadaaProg.lean LOADS. Nothing in Lean hashes anything: it is a label: what it is worth is what the hold of that sum in a sandbox is worth. -/
noncomputable def Try.pinned : Pinned := { name := "ytfhofincbekadaa", sum := "762ac134e781458d1a75172445fd584ae06c91825d7ed9c04fbedb377615b2c5", checked := Try.checked }
namespace Rows
def none {H : Type} : Left H := { results := [], args := [] }

/-- 'laws.FnConflictsOfWrites': WHATEVER THE INPUT: true; the input reads as it did. -/
def fnConflictsOfWritesSpec : ChangeSpec := { name := "fnConflictsOfWrites", fn := fun _ => fun
  | [d] => { results := [.lit (.bool true)], args := [d] }
  | _ => none }
def fnConflictsOfWritesRow : OpenClaim := { program := "ytfhofincbekadaa", sum := "762ac134e781458d1a75172445fd584ae06c91825d7ed9c04fbedb377615b2c5", func := "loop.example/treelocks/laws.FnConflictsOfWrites", spec := "fnConflictsOfWrites", apart := false }
def FnConflictsOfWritesSaid : Prop := fnConflictsOfWritesRow.holds Try.pinned (OpenSpec.ofChange fnConflictsOfWritesSpec)

/-- ITS FALSE NEIGHBOUR: 'it returns false'. Refute it at one input. -/
def fnConflictsOfWritesWrong : ChangeSpec := { name := "fnConflictsOfWrites", fn := fun _ => fun
  | [d] => { results := [.lit (.bool false)], args := [d] }
  | _ => none }
def FnConflictsOfWritesWrongFalsely : Prop := fnConflictsOfWritesRow.holds Try.pinned (OpenSpec.ofChange fnConflictsOfWritesWrong)

/-- 'laws.FnWaitsFor': WHATEVER THE INPUT: true; the input reads as it did. -/
def fnWaitsForSpec : ChangeSpec := { name := "fnWaitsFor", fn := fun _ => fun
  | [d] => { results := [.lit (.bool true)], args := [d] }
  | _ => none }
def fnWaitsForRow : OpenClaim := { program := "ytfhofincbekadaa", sum := "762ac134e781458d1a75172445fd584ae06c91825d7ed9c04fbedb377615b2c5", func := "loop.example/treelocks/laws.FnWaitsFor", spec := "fnWaitsFor", apart := false }
def FnWaitsForSaid : Prop := fnWaitsForRow.holds Try.pinned (OpenSpec.ofChange fnWaitsForSpec)

/-- ITS FALSE NEIGHBOUR: 'it returns false'. Refute it at one input. -/
def fnWaitsForWrong : ChangeSpec := { name := "fnWaitsFor", fn := fun _ => fun
  | [d] => { results := [.lit (.bool false)], args := [d] }
  | _ => none }
def FnWaitsForWrongFalsely : Prop := fnWaitsForRow.holds Try.pinned (OpenSpec.ofChange fnWaitsForWrong)

/-- 'laws.FnWaitsForMore': WHATEVER THE INPUT: true; the input reads as it did. -/
def fnWaitsForMoreSpec : ChangeSpec := { name := "fnWaitsForMore", fn := fun _ => fun
  | [d] => { results := [.lit (.bool true)], args := [d] }
  | _ => none }
def fnWaitsForMoreRow : OpenClaim := { program := "ytfhofincbekadaa", sum := "762ac134e781458d1a75172445fd584ae06c91825d7ed9c04fbedb377615b2c5", func := "loop.example/treelocks/laws.FnWaitsForMore", spec := "fnWaitsForMore", apart := false }
def FnWaitsForMoreSaid : Prop := fnWaitsForMoreRow.holds Try.pinned (OpenSpec.ofChange fnWaitsForMoreSpec)

/-- ITS FALSE NEIGHBOUR: 'it returns false'. Refute it at one input. -/
def fnWaitsForMoreWrong : ChangeSpec := { name := "fnWaitsForMore", fn := fun _ => fun
  | [d] => { results := [.lit (.bool false)], args := [d] }
  | _ => none }
def FnWaitsForMoreWrongFalsely : Prop := fnWaitsForMoreRow.holds Try.pinned (OpenSpec.ofChange fnWaitsForMoreWrong)

/-- 'laws.FnDeadlockOfBack': WHATEVER THE INPUT: true; the input reads as it did. -/
def fnDeadlockOfBackSpec : ChangeSpec := { name := "fnDeadlockOfBack", fn := fun _ => fun
  | [d] => { results := [.lit (.bool true)], args := [d] }
  | _ => none }
def fnDeadlockOfBackRow : OpenClaim := { program := "ytfhofincbekadaa", sum := "762ac134e781458d1a75172445fd584ae06c91825d7ed9c04fbedb377615b2c5", func := "loop.example/treelocks/laws.FnDeadlockOfBack", spec := "fnDeadlockOfBack", apart := false }
def FnDeadlockOfBackSaid : Prop := fnDeadlockOfBackRow.holds Try.pinned (OpenSpec.ofChange fnDeadlockOfBackSpec)

/-- ITS FALSE NEIGHBOUR: 'it returns false'. Refute it at one input. -/
def fnDeadlockOfBackWrong : ChangeSpec := { name := "fnDeadlockOfBack", fn := fun _ => fun
  | [d] => { results := [.lit (.bool false)], args := [d] }
  | _ => none }
def FnDeadlockOfBackWrongFalsely : Prop := fnDeadlockOfBackRow.holds Try.pinned (OpenSpec.ofChange fnDeadlockOfBackWrong)

/-- 'laws.FnWaitsForDeadlock': WHATEVER THE INPUT: true; the input reads as it did. -/
def fnWaitsForDeadlockSpec : ChangeSpec := { name := "fnWaitsForDeadlock", fn := fun _ => fun
  | [d] => { results := [.lit (.bool true)], args := [d] }
  | _ => none }
def fnWaitsForDeadlockRow : OpenClaim := { program := "ytfhofincbekadaa", sum := "762ac134e781458d1a75172445fd584ae06c91825d7ed9c04fbedb377615b2c5", func := "loop.example/treelocks/laws.FnWaitsForDeadlock", spec := "fnWaitsForDeadlock", apart := false }
def FnWaitsForDeadlockSaid : Prop := fnWaitsForDeadlockRow.holds Try.pinned (OpenSpec.ofChange fnWaitsForDeadlockSpec)

/-- ITS FALSE NEIGHBOUR: 'it returns false'. Refute it at one input. -/
def fnWaitsForDeadlockWrong : ChangeSpec := { name := "fnWaitsForDeadlock", fn := fun _ => fun
  | [d] => { results := [.lit (.bool false)], args := [d] }
  | _ => none }
def FnWaitsForDeadlockWrongFalsely : Prop := fnWaitsForDeadlockRow.holds Try.pinned (OpenSpec.ofChange fnWaitsForDeadlockWrong)

/-- 'laws.FnDeadlockOf': WHATEVER THE INPUT: true; the input reads as it did. -/
def fnDeadlockOfSpec : ChangeSpec := { name := "fnDeadlockOf", fn := fun _ => fun
  | [d] => { results := [.lit (.bool true)], args := [d] }
  | _ => none }
def fnDeadlockOfRow : OpenClaim := { program := "ytfhofincbekadaa", sum := "762ac134e781458d1a75172445fd584ae06c91825d7ed9c04fbedb377615b2c5", func := "loop.example/treelocks/laws.FnDeadlockOf", spec := "fnDeadlockOf", apart := false }
def FnDeadlockOfSaid : Prop := fnDeadlockOfRow.holds Try.pinned (OpenSpec.ofChange fnDeadlockOfSpec)

/-- ITS FALSE NEIGHBOUR: 'it returns false'. Refute it at one input. -/
def fnDeadlockOfWrong : ChangeSpec := { name := "fnDeadlockOf", fn := fun _ => fun
  | [d] => { results := [.lit (.bool false)], args := [d] }
  | _ => none }
def FnDeadlockOfWrongFalsely : Prop := fnDeadlockOfRow.holds Try.pinned (OpenSpec.ofChange fnDeadlockOfWrong)

/-- 'laws.FnDeadlockOfMore': WHATEVER THE INPUT: true; the input reads as it did. -/
def fnDeadlockOfMoreSpec : ChangeSpec := { name := "fnDeadlockOfMore", fn := fun _ => fun
  | [d] => { results := [.lit (.bool true)], args := [d] }
  | _ => none }
def fnDeadlockOfMoreRow : OpenClaim := { program := "ytfhofincbekadaa", sum := "762ac134e781458d1a75172445fd584ae06c91825d7ed9c04fbedb377615b2c5", func := "loop.example/treelocks/laws.FnDeadlockOfMore", spec := "fnDeadlockOfMore", apart := false }
def FnDeadlockOfMoreSaid : Prop := fnDeadlockOfMoreRow.holds Try.pinned (OpenSpec.ofChange fnDeadlockOfMoreSpec)

/-- ITS FALSE NEIGHBOUR: 'it returns false'. Refute it at one input. -/
def fnDeadlockOfMoreWrong : ChangeSpec := { name := "fnDeadlockOfMore", fn := fun _ => fun
  | [d] => { results := [.lit (.bool false)], args := [d] }
  | _ => none }
def FnDeadlockOfMoreWrongFalsely : Prop := fnDeadlockOfMoreRow.holds Try.pinned (OpenSpec.ofChange fnDeadlockOfMoreWrong)

/-- 'laws.FnSerialOrderSerial': WHATEVER THE INPUT: true; the input reads as it did. -/
def fnSerialOrderSerialSpec : ChangeSpec := { name := "fnSerialOrderSerial", fn := fun _ => fun
  | [d] => { results := [.lit (.bool true)], args := [d] }
  | _ => none }
def fnSerialOrderSerialRow : OpenClaim := { program := "ytfhofincbekadaa", sum := "762ac134e781458d1a75172445fd584ae06c91825d7ed9c04fbedb377615b2c5", func := "loop.example/treelocks/laws.FnSerialOrderSerial", spec := "fnSerialOrderSerial", apart := false }
def FnSerialOrderSerialSaid : Prop := fnSerialOrderSerialRow.holds Try.pinned (OpenSpec.ofChange fnSerialOrderSerialSpec)

/-- ITS FALSE NEIGHBOUR: 'it returns false'. Refute it at one input. -/
def fnSerialOrderSerialWrong : ChangeSpec := { name := "fnSerialOrderSerial", fn := fun _ => fun
  | [d] => { results := [.lit (.bool false)], args := [d] }
  | _ => none }
def FnSerialOrderSerialWrongFalsely : Prop := fnSerialOrderSerialRow.holds Try.pinned (OpenSpec.ofChange fnSerialOrderSerialWrong)

/-- 'laws.FnSerialOrder': WHATEVER THE INPUT: true; the input reads as it did. -/
def fnSerialOrderSpec : ChangeSpec := { name := "fnSerialOrder", fn := fun _ => fun
  | [d] => { results := [.lit (.bool true)], args := [d] }
  | _ => none }
def fnSerialOrderRow : OpenClaim := { program := "ytfhofincbekadaa", sum := "762ac134e781458d1a75172445fd584ae06c91825d7ed9c04fbedb377615b2c5", func := "loop.example/treelocks/laws.FnSerialOrder", spec := "fnSerialOrder", apart := false }
def FnSerialOrderSaid : Prop := fnSerialOrderRow.holds Try.pinned (OpenSpec.ofChange fnSerialOrderSpec)

/-- ITS FALSE NEIGHBOUR: 'it returns false'. Refute it at one input. -/
def fnSerialOrderWrong : ChangeSpec := { name := "fnSerialOrder", fn := fun _ => fun
  | [d] => { results := [.lit (.bool false)], args := [d] }
  | _ => none }
def FnSerialOrderWrongFalsely : Prop := fnSerialOrderRow.holds Try.pinned (OpenSpec.ofChange fnSerialOrderWrong)

/-- 'laws.FnVictimsOfNone': WHATEVER THE INPUT: true; the input reads as it did. -/
def fnVictimsOfNoneSpec : ChangeSpec := { name := "fnVictimsOfNone", fn := fun _ => fun
  | [d] => { results := [.lit (.bool true)], args := [d] }
  | _ => none }
def fnVictimsOfNoneRow : OpenClaim := { program := "ytfhofincbekadaa", sum := "762ac134e781458d1a75172445fd584ae06c91825d7ed9c04fbedb377615b2c5", func := "loop.example/treelocks/laws.FnVictimsOfNone", spec := "fnVictimsOfNone", unfollowed := true, recurses := true, apart := false }
def FnVictimsOfNoneSaid : Prop := fnVictimsOfNoneRow.holds Try.pinned (OpenSpec.ofChange fnVictimsOfNoneSpec)

/-- ITS FALSE NEIGHBOUR: 'it returns false'. Refute it at one input. -/
def fnVictimsOfNoneWrong : ChangeSpec := { name := "fnVictimsOfNone", fn := fun _ => fun
  | [d] => { results := [.lit (.bool false)], args := [d] }
  | _ => none }
def FnVictimsOfNoneWrongFalsely : Prop := fnVictimsOfNoneRow.holds Try.pinned (OpenSpec.ofChange fnVictimsOfNoneWrong)

/-- 'laws.FnVictimsOf': WHATEVER THE INPUT: true; the input reads as it did. -/
def fnVictimsOfSpec : ChangeSpec := { name := "fnVictimsOf", fn := fun _ => fun
  | [d] => { results := [.lit (.bool true)], args := [d] }
  | _ => none }
def fnVictimsOfRow : OpenClaim := { program := "ytfhofincbekadaa", sum := "762ac134e781458d1a75172445fd584ae06c91825d7ed9c04fbedb377615b2c5", func := "loop.example/treelocks/laws.FnVictimsOf", spec := "fnVictimsOf", unfollowed := true, recurses := true, apart := false }
def FnVictimsOfSaid : Prop := fnVictimsOfRow.holds Try.pinned (OpenSpec.ofChange fnVictimsOfSpec)

/-- ITS FALSE NEIGHBOUR: 'it returns false'. Refute it at one input. -/
def fnVictimsOfWrong : ChangeSpec := { name := "fnVictimsOf", fn := fun _ => fun
  | [d] => { results := [.lit (.bool false)], args := [d] }
  | _ => none }
def FnVictimsOfWrongFalsely : Prop := fnVictimsOfRow.holds Try.pinned (OpenSpec.ofChange fnVictimsOfWrong)

/-- 'laws.FnSerialOrderNone': WHATEVER THE INPUT: true; the input reads as it did. -/
def fnSerialOrderNoneSpec : ChangeSpec := { name := "fnSerialOrderNone", fn := fun _ => fun
  | [d] => { results := [.lit (.bool true)], args := [d] }
  | _ => none }
def fnSerialOrderNoneRow : OpenClaim := { program := "ytfhofincbekadaa", sum := "762ac134e781458d1a75172445fd584ae06c91825d7ed9c04fbedb377615b2c5", func := "loop.example/treelocks/laws.FnSerialOrderNone", spec := "fnSerialOrderNone", apart := false }
def FnSerialOrderNoneSaid : Prop := fnSerialOrderNoneRow.holds Try.pinned (OpenSpec.ofChange fnSerialOrderNoneSpec)

/-- ITS FALSE NEIGHBOUR: 'it returns false'. Refute it at one input. -/
def fnSerialOrderNoneWrong : ChangeSpec := { name := "fnSerialOrderNone", fn := fun _ => fun
  | [d] => { results := [.lit (.bool false)], args := [d] }
  | _ => none }
def FnSerialOrderNoneWrongFalsely : Prop := fnSerialOrderNoneRow.holds Try.pinned (OpenSpec.ofChange fnSerialOrderNoneWrong)

/-- 'laws.FnVictimsOfSome': WHATEVER THE INPUT: true; the input reads as it did. -/
def fnVictimsOfSomeSpec : ChangeSpec := { name := "fnVictimsOfSome", fn := fun _ => fun
  | [d] => { results := [.lit (.bool true)], args := [d] }
  | _ => none }
def fnVictimsOfSomeRow : OpenClaim := { program := "ytfhofincbekadaa", sum := "762ac134e781458d1a75172445fd584ae06c91825d7ed9c04fbedb377615b2c5", func := "loop.example/treelocks/laws.FnVictimsOfSome", spec := "fnVictimsOfSome", unfollowed := true, recurses := true, apart := false }
def FnVictimsOfSomeSaid : Prop := fnVictimsOfSomeRow.holds Try.pinned (OpenSpec.ofChange fnVictimsOfSomeSpec)

/-- ITS FALSE NEIGHBOUR: 'it returns false'. Refute it at one input. -/
def fnVictimsOfSomeWrong : ChangeSpec := { name := "fnVictimsOfSome", fn := fun _ => fun
  | [d] => { results := [.lit (.bool false)], args := [d] }
  | _ => none }
def FnVictimsOfSomeWrongFalsely : Prop := fnVictimsOfSomeRow.holds Try.pinned (OpenSpec.ofChange fnVictimsOfSomeWrong)

/- THE SECOND FORM. 'bulk': how many values and letters a reading holds, each counted each time it is reached (what is shared counts as often as it is met; a slice's spare places count too). A statement '..UptoSaid' is the law's where the arguments, and the package variables that the reading takes, are together of bulk at most 1048576: NARROWER than '..Said'. Prove '..Said' where nothing that the law and all that it calls make is longer than what came in: it says more and counts as full. Else prove '..UptoSaid'. A law counts once. -/
mutual
def uptoBulk {H : Type} : DataW H → Nat
  | .lit (.string bytes) => bytes.length + 1
  | .lit _ => 1
  | .nil => 1
  | .ptr d => uptoBulk d + 1
  | .slice elems spare => uptoBulkAll elems + uptoBulkAll spare + 1
  | .agg parts => uptoBulkAll parts + 1
  | .iface _ d => uptoBulk d + 1
  | .map entries => uptoBulkEntries entries + 1
  | .held _ => 1
def uptoBulkAll {H : Type} : List (DataW H) → Nat
  | [] => 0
  | d :: r => uptoBulk d + uptoBulkAll r
def uptoBulkEntries {H : Type} : List (Lit × DataW H) → Nat
  | [] => 0
  | x :: r => uptoBulkEntry x + uptoBulkEntries r
def uptoBulkEntry {H : Type} : Lit × DataW H → Nat
  | (.string bytes, d) => bytes.length + uptoBulk d + 1
  | (_, d) => uptoBulk d + 1
 end
def uptoSmall : (H : Type) → List (DataW H) → Bool := fun _ ds => decide (uptoBulkAll ds ≤ 1048576)
def OpenSpec.upto (s : _root_.Go.ChangeSpec) : _root_.Go.OpenSpec := { _root_.Go.OpenSpec.ofChange s with cond := some uptoSmall }

/-- 'laws.FnConflictsOfWrites', WHERE WHAT IT READS IS OF BULK AT MOST 1048576: true; the input reads as it did. -/
def fnConflictsOfWritesUptoRow : OpenClaim := { program := "ytfhofincbekadaa", sum := "762ac134e781458d1a75172445fd584ae06c91825d7ed9c04fbedb377615b2c5", func := "loop.example/treelocks/laws.FnConflictsOfWrites", spec := "fnConflictsOfWrites", apart := false, narrowed := true }
def FnConflictsOfWritesUptoSaid : Prop := fnConflictsOfWritesUptoRow.holds Try.pinned (OpenSpec.upto fnConflictsOfWritesSpec)

/-- 'laws.FnWaitsFor', WHERE WHAT IT READS IS OF BULK AT MOST 1048576: true; the input reads as it did. -/
def fnWaitsForUptoRow : OpenClaim := { program := "ytfhofincbekadaa", sum := "762ac134e781458d1a75172445fd584ae06c91825d7ed9c04fbedb377615b2c5", func := "loop.example/treelocks/laws.FnWaitsFor", spec := "fnWaitsFor", apart := false, narrowed := true }
def FnWaitsForUptoSaid : Prop := fnWaitsForUptoRow.holds Try.pinned (OpenSpec.upto fnWaitsForSpec)

/-- 'laws.FnWaitsForMore', WHERE WHAT IT READS IS OF BULK AT MOST 1048576: true; the input reads as it did. -/
def fnWaitsForMoreUptoRow : OpenClaim := { program := "ytfhofincbekadaa", sum := "762ac134e781458d1a75172445fd584ae06c91825d7ed9c04fbedb377615b2c5", func := "loop.example/treelocks/laws.FnWaitsForMore", spec := "fnWaitsForMore", apart := false, narrowed := true }
def FnWaitsForMoreUptoSaid : Prop := fnWaitsForMoreUptoRow.holds Try.pinned (OpenSpec.upto fnWaitsForMoreSpec)

/-- 'laws.FnDeadlockOfBack', WHERE WHAT IT READS IS OF BULK AT MOST 1048576: true; the input reads as it did. -/
def fnDeadlockOfBackUptoRow : OpenClaim := { program := "ytfhofincbekadaa", sum := "762ac134e781458d1a75172445fd584ae06c91825d7ed9c04fbedb377615b2c5", func := "loop.example/treelocks/laws.FnDeadlockOfBack", spec := "fnDeadlockOfBack", apart := false, narrowed := true }
def FnDeadlockOfBackUptoSaid : Prop := fnDeadlockOfBackUptoRow.holds Try.pinned (OpenSpec.upto fnDeadlockOfBackSpec)

/-- 'laws.FnWaitsForDeadlock', WHERE WHAT IT READS IS OF BULK AT MOST 1048576: true; the input reads as it did. -/
def fnWaitsForDeadlockUptoRow : OpenClaim := { program := "ytfhofincbekadaa", sum := "762ac134e781458d1a75172445fd584ae06c91825d7ed9c04fbedb377615b2c5", func := "loop.example/treelocks/laws.FnWaitsForDeadlock", spec := "fnWaitsForDeadlock", apart := false, narrowed := true }
def FnWaitsForDeadlockUptoSaid : Prop := fnWaitsForDeadlockUptoRow.holds Try.pinned (OpenSpec.upto fnWaitsForDeadlockSpec)

/-- 'laws.FnDeadlockOf', WHERE WHAT IT READS IS OF BULK AT MOST 1048576: true; the input reads as it did. -/
def fnDeadlockOfUptoRow : OpenClaim := { program := "ytfhofincbekadaa", sum := "762ac134e781458d1a75172445fd584ae06c91825d7ed9c04fbedb377615b2c5", func := "loop.example/treelocks/laws.FnDeadlockOf", spec := "fnDeadlockOf", apart := false, narrowed := true }
def FnDeadlockOfUptoSaid : Prop := fnDeadlockOfUptoRow.holds Try.pinned (OpenSpec.upto fnDeadlockOfSpec)

/-- 'laws.FnDeadlockOfMore', WHERE WHAT IT READS IS OF BULK AT MOST 1048576: true; the input reads as it did. -/
def fnDeadlockOfMoreUptoRow : OpenClaim := { program := "ytfhofincbekadaa", sum := "762ac134e781458d1a75172445fd584ae06c91825d7ed9c04fbedb377615b2c5", func := "loop.example/treelocks/laws.FnDeadlockOfMore", spec := "fnDeadlockOfMore", apart := false, narrowed := true }
def FnDeadlockOfMoreUptoSaid : Prop := fnDeadlockOfMoreUptoRow.holds Try.pinned (OpenSpec.upto fnDeadlockOfMoreSpec)

/-- 'laws.FnSerialOrderSerial', WHERE WHAT IT READS IS OF BULK AT MOST 1048576: true; the input reads as it did. -/
def fnSerialOrderSerialUptoRow : OpenClaim := { program := "ytfhofincbekadaa", sum := "762ac134e781458d1a75172445fd584ae06c91825d7ed9c04fbedb377615b2c5", func := "loop.example/treelocks/laws.FnSerialOrderSerial", spec := "fnSerialOrderSerial", apart := false, narrowed := true }
def FnSerialOrderSerialUptoSaid : Prop := fnSerialOrderSerialUptoRow.holds Try.pinned (OpenSpec.upto fnSerialOrderSerialSpec)

/-- 'laws.FnSerialOrder', WHERE WHAT IT READS IS OF BULK AT MOST 1048576: true; the input reads as it did. -/
def fnSerialOrderUptoRow : OpenClaim := { program := "ytfhofincbekadaa", sum := "762ac134e781458d1a75172445fd584ae06c91825d7ed9c04fbedb377615b2c5", func := "loop.example/treelocks/laws.FnSerialOrder", spec := "fnSerialOrder", apart := false, narrowed := true }
def FnSerialOrderUptoSaid : Prop := fnSerialOrderUptoRow.holds Try.pinned (OpenSpec.upto fnSerialOrderSpec)

/-- 'laws.FnVictimsOfNone', WHERE WHAT IT READS IS OF BULK AT MOST 1048576: true; the input reads as it did. -/
def fnVictimsOfNoneUptoRow : OpenClaim := { program := "ytfhofincbekadaa", sum := "762ac134e781458d1a75172445fd584ae06c91825d7ed9c04fbedb377615b2c5", func := "loop.example/treelocks/laws.FnVictimsOfNone", spec := "fnVictimsOfNone", unfollowed := true, recurses := true, apart := false, narrowed := true }
def FnVictimsOfNoneUptoSaid : Prop := fnVictimsOfNoneUptoRow.holds Try.pinned (OpenSpec.upto fnVictimsOfNoneSpec)

/-- 'laws.FnVictimsOf', WHERE WHAT IT READS IS OF BULK AT MOST 1048576: true; the input reads as it did. -/
def fnVictimsOfUptoRow : OpenClaim := { program := "ytfhofincbekadaa", sum := "762ac134e781458d1a75172445fd584ae06c91825d7ed9c04fbedb377615b2c5", func := "loop.example/treelocks/laws.FnVictimsOf", spec := "fnVictimsOf", unfollowed := true, recurses := true, apart := false, narrowed := true }
def FnVictimsOfUptoSaid : Prop := fnVictimsOfUptoRow.holds Try.pinned (OpenSpec.upto fnVictimsOfSpec)

/-- 'laws.FnSerialOrderNone', WHERE WHAT IT READS IS OF BULK AT MOST 1048576: true; the input reads as it did. -/
def fnSerialOrderNoneUptoRow : OpenClaim := { program := "ytfhofincbekadaa", sum := "762ac134e781458d1a75172445fd584ae06c91825d7ed9c04fbedb377615b2c5", func := "loop.example/treelocks/laws.FnSerialOrderNone", spec := "fnSerialOrderNone", apart := false, narrowed := true }
def FnSerialOrderNoneUptoSaid : Prop := fnSerialOrderNoneUptoRow.holds Try.pinned (OpenSpec.upto fnSerialOrderNoneSpec)

/-- 'laws.FnVictimsOfSome', WHERE WHAT IT READS IS OF BULK AT MOST 1048576: true; the input reads as it did. -/
def fnVictimsOfSomeUptoRow : OpenClaim := { program := "ytfhofincbekadaa", sum := "762ac134e781458d1a75172445fd584ae06c91825d7ed9c04fbedb377615b2c5", func := "loop.example/treelocks/laws.FnVictimsOfSome", spec := "fnVictimsOfSome", unfollowed := true, recurses := true, apart := false, narrowed := true }
def FnVictimsOfSomeUptoSaid : Prop := fnVictimsOfSomeUptoRow.holds Try.pinned (OpenSpec.upto fnVictimsOfSomeSpec)

end Rows
end Go.Proofs.Ytfhofincbekadaa
