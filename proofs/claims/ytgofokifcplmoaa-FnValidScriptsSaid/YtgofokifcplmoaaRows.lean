/-
  No cell of these rows narrows 'for every input' (looked for: loops, veiled, ifaces, maps, wideKeys, modest, calm, conditions, laid).
  DERIVED. THE GIVEN ROWS OF THIS SEAT. 12 by the template 'for every input the law returns true; each argument reads behind the call as it read before'; 0 by the template 'total and deterministic' (their statements: YtgofokifcplmoaaTotals.lean).
  GIVEN WITH THE SEED: the statements are not yours to turn. If you find one false, say at which input.
  Laid BY PROGRAM, IN A SANDBOX (cutbox-rows.mjs): the forced cells as the released guide's own fill.sh prints them over the translation b530a949df81c82f… (all of the seat's roots in one cut). By AI agents, Wed Nov 11 2026. No macro, syntax, notation, axiom, sorry.
-/
import Derived.Test.YtgofokifcplmoaaChecked
import GoSem.Claim
import GoSem.ClaimJoined
import GoSem.ClaimMapViews
import Derived.JoinedTies
import Derived.KernelRfl
namespace Go.Proofs.Ytgofokifcplmoaa
/- THE CELL 'sum', in the pinned program and in every row, IS THE sha256 OF THE DUMP (.gsa) THAT YtgofokifcplmoaaProg.lean LOADS. Nothing in Lean hashes anything: it is a label: what it is worth is what the hold of that sum in a sandbox is worth. -/
noncomputable def Try.pinned : Pinned := { name := "ytgofokifcplmoaa", sum := "b530a949df81c82f96c2840b8d29c04c82e9e25d0ee3a885ddf00bf779a03676", checked := Try.checked }
namespace Rows
def none {H : Type} : Left H := { results := [], args := [] }

/-- 'laws.FnValidScripts': WHATEVER THE INPUT: true; the input reads as it did. -/
def fnValidScriptsSpec : ChangeSpec := { name := "fnValidScripts", fn := fun _ => fun
  | [d] => { results := [.lit (.bool true)], args := [d] }
  | _ => none }
def fnValidScriptsRow : OpenClaim := { program := "ytgofokifcplmoaa", sum := "b530a949df81c82f96c2840b8d29c04c82e9e25d0ee3a885ddf00bf779a03676", func := "loop.example/treelocks/laws.FnValidScripts", spec := "fnValidScripts", apart := false }
def FnValidScriptsSaid : Prop := fnValidScriptsRow.holds Try.pinned (OpenSpec.ofChange fnValidScriptsSpec)

/-- ITS FALSE NEIGHBOUR: 'it returns false'. Refute it at one input. -/
def fnValidScriptsWrong : ChangeSpec := { name := "fnValidScripts", fn := fun _ => fun
  | [d] => { results := [.lit (.bool false)], args := [d] }
  | _ => none }
def FnValidScriptsWrongFalsely : Prop := fnValidScriptsRow.holds Try.pinned (OpenSpec.ofChange fnValidScriptsWrong)

/-- 'laws.FnValidScriptsTwice': WHATEVER THE INPUT: true; the input reads as it did. -/
def fnValidScriptsTwiceSpec : ChangeSpec := { name := "fnValidScriptsTwice", fn := fun _ => fun
  | [d] => { results := [.lit (.bool true)], args := [d] }
  | _ => none }
def fnValidScriptsTwiceRow : OpenClaim := { program := "ytgofokifcplmoaa", sum := "b530a949df81c82f96c2840b8d29c04c82e9e25d0ee3a885ddf00bf779a03676", func := "loop.example/treelocks/laws.FnValidScriptsTwice", spec := "fnValidScriptsTwice", apart := false }
def FnValidScriptsTwiceSaid : Prop := fnValidScriptsTwiceRow.holds Try.pinned (OpenSpec.ofChange fnValidScriptsTwiceSpec)

/-- ITS FALSE NEIGHBOUR: 'it returns false'. Refute it at one input. -/
def fnValidScriptsTwiceWrong : ChangeSpec := { name := "fnValidScriptsTwice", fn := fun _ => fun
  | [d] => { results := [.lit (.bool false)], args := [d] }
  | _ => none }
def FnValidScriptsTwiceWrongFalsely : Prop := fnValidScriptsTwiceRow.holds Try.pinned (OpenSpec.ofChange fnValidScriptsTwiceWrong)

/-- 'laws.FnMeeting': WHATEVER THE INPUT: true; the input reads as it did. -/
def fnMeetingSpec : ChangeSpec := { name := "fnMeeting", fn := fun _ => fun
  | [d] => { results := [.lit (.bool true)], args := [d] }
  | _ => none }
def fnMeetingRow : OpenClaim := { program := "ytgofokifcplmoaa", sum := "b530a949df81c82f96c2840b8d29c04c82e9e25d0ee3a885ddf00bf779a03676", func := "loop.example/treelocks/laws.FnMeeting", spec := "fnMeeting", apart := false }
def FnMeetingSaid : Prop := fnMeetingRow.holds Try.pinned (OpenSpec.ofChange fnMeetingSpec)

/-- ITS FALSE NEIGHBOUR: 'it returns false'. Refute it at one input. -/
def fnMeetingWrong : ChangeSpec := { name := "fnMeeting", fn := fun _ => fun
  | [d] => { results := [.lit (.bool false)], args := [d] }
  | _ => none }
def FnMeetingWrongFalsely : Prop := fnMeetingRow.holds Try.pinned (OpenSpec.ofChange fnMeetingWrong)

/-- 'laws.FnMeetingOrder': WHATEVER THE INPUT: true; the input reads as it did. -/
def fnMeetingOrderSpec : ChangeSpec := { name := "fnMeetingOrder", fn := fun _ => fun
  | [d] => { results := [.lit (.bool true)], args := [d] }
  | _ => none }
def fnMeetingOrderRow : OpenClaim := { program := "ytgofokifcplmoaa", sum := "b530a949df81c82f96c2840b8d29c04c82e9e25d0ee3a885ddf00bf779a03676", func := "loop.example/treelocks/laws.FnMeetingOrder", spec := "fnMeetingOrder", apart := false }
def FnMeetingOrderSaid : Prop := fnMeetingOrderRow.holds Try.pinned (OpenSpec.ofChange fnMeetingOrderSpec)

/-- ITS FALSE NEIGHBOUR: 'it returns false'. Refute it at one input. -/
def fnMeetingOrderWrong : ChangeSpec := { name := "fnMeetingOrder", fn := fun _ => fun
  | [d] => { results := [.lit (.bool false)], args := [d] }
  | _ => none }
def FnMeetingOrderWrongFalsely : Prop := fnMeetingOrderRow.holds Try.pinned (OpenSpec.ofChange fnMeetingOrderWrong)

/-- 'laws.FnPathTo': WHATEVER THE INPUT: true; the input reads as it did. -/
def fnPathToSpec : ChangeSpec := { name := "fnPathTo", fn := fun _ => fun
  | [d] => { results := [.lit (.bool true)], args := [d] }
  | _ => none }
def fnPathToRow : OpenClaim := { program := "ytgofokifcplmoaa", sum := "b530a949df81c82f96c2840b8d29c04c82e9e25d0ee3a885ddf00bf779a03676", func := "loop.example/treelocks/laws.FnPathTo", spec := "fnPathTo", apart := false }
def FnPathToSaid : Prop := fnPathToRow.holds Try.pinned (OpenSpec.ofChange fnPathToSpec)

/-- ITS FALSE NEIGHBOUR: 'it returns false'. Refute it at one input. -/
def fnPathToWrong : ChangeSpec := { name := "fnPathTo", fn := fun _ => fun
  | [d] => { results := [.lit (.bool false)], args := [d] }
  | _ => none }
def FnPathToWrongFalsely : Prop := fnPathToRow.holds Try.pinned (OpenSpec.ofChange fnPathToWrong)

/-- 'laws.FnPathToShort': WHATEVER THE INPUT: true; the input reads as it did. -/
def fnPathToShortSpec : ChangeSpec := { name := "fnPathToShort", fn := fun _ => fun
  | [d] => { results := [.lit (.bool true)], args := [d] }
  | _ => none }
def fnPathToShortRow : OpenClaim := { program := "ytgofokifcplmoaa", sum := "b530a949df81c82f96c2840b8d29c04c82e9e25d0ee3a885ddf00bf779a03676", func := "loop.example/treelocks/laws.FnPathToShort", spec := "fnPathToShort", apart := false }
def FnPathToShortSaid : Prop := fnPathToShortRow.holds Try.pinned (OpenSpec.ofChange fnPathToShortSpec)

/-- ITS FALSE NEIGHBOUR: 'it returns false'. Refute it at one input. -/
def fnPathToShortWrong : ChangeSpec := { name := "fnPathToShort", fn := fun _ => fun
  | [d] => { results := [.lit (.bool false)], args := [d] }
  | _ => none }
def FnPathToShortWrongFalsely : Prop := fnPathToShortRow.holds Try.pinned (OpenSpec.ofChange fnPathToShortWrong)

/-- 'laws.FnMeetingPath': WHATEVER THE INPUT: true; the input reads as it did. -/
def fnMeetingPathSpec : ChangeSpec := { name := "fnMeetingPath", fn := fun _ => fun
  | [d] => { results := [.lit (.bool true)], args := [d] }
  | _ => none }
def fnMeetingPathRow : OpenClaim := { program := "ytgofokifcplmoaa", sum := "b530a949df81c82f96c2840b8d29c04c82e9e25d0ee3a885ddf00bf779a03676", func := "loop.example/treelocks/laws.FnMeetingPath", spec := "fnMeetingPath", apart := false }
def FnMeetingPathSaid : Prop := fnMeetingPathRow.holds Try.pinned (OpenSpec.ofChange fnMeetingPathSpec)

/-- ITS FALSE NEIGHBOUR: 'it returns false'. Refute it at one input. -/
def fnMeetingPathWrong : ChangeSpec := { name := "fnMeetingPath", fn := fun _ => fun
  | [d] => { results := [.lit (.bool false)], args := [d] }
  | _ => none }
def FnMeetingPathWrongFalsely : Prop := fnMeetingPathRow.holds Try.pinned (OpenSpec.ofChange fnMeetingPathWrong)

/-- 'laws.FnPathToAbove': WHATEVER THE INPUT: true; the input reads as it did. -/
def fnPathToAboveSpec : ChangeSpec := { name := "fnPathToAbove", fn := fun _ => fun
  | [d] => { results := [.lit (.bool true)], args := [d] }
  | _ => none }
def fnPathToAboveRow : OpenClaim := { program := "ytgofokifcplmoaa", sum := "b530a949df81c82f96c2840b8d29c04c82e9e25d0ee3a885ddf00bf779a03676", func := "loop.example/treelocks/laws.FnPathToAbove", spec := "fnPathToAbove", apart := false }
def FnPathToAboveSaid : Prop := fnPathToAboveRow.holds Try.pinned (OpenSpec.ofChange fnPathToAboveSpec)

/-- ITS FALSE NEIGHBOUR: 'it returns false'. Refute it at one input. -/
def fnPathToAboveWrong : ChangeSpec := { name := "fnPathToAbove", fn := fun _ => fun
  | [d] => { results := [.lit (.bool false)], args := [d] }
  | _ => none }
def FnPathToAboveWrongFalsely : Prop := fnPathToAboveRow.holds Try.pinned (OpenSpec.ofChange fnPathToAboveWrong)

/-- 'laws.FnExactValidScripts': WHATEVER THE INPUT: true; the input reads as it did. -/
def fnExactValidScriptsSpec : ChangeSpec := { name := "fnExactValidScripts", fn := fun _ => fun
  | [d1, d2] => { results := [.lit (.bool true)], args := [d1, d2] }
  | _ => none }
def fnExactValidScriptsRow : OpenClaim := { program := "ytgofokifcplmoaa", sum := "b530a949df81c82f96c2840b8d29c04c82e9e25d0ee3a885ddf00bf779a03676", func := "loop.example/treelocks/laws.FnExactValidScripts", spec := "fnExactValidScripts", apart := false }
def FnExactValidScriptsSaid : Prop := fnExactValidScriptsRow.holds Try.pinned (OpenSpec.ofChange fnExactValidScriptsSpec)

/-- ITS FALSE NEIGHBOUR: 'it returns false'. Refute it at one input. -/
def fnExactValidScriptsWrong : ChangeSpec := { name := "fnExactValidScripts", fn := fun _ => fun
  | [d1, d2] => { results := [.lit (.bool false)], args := [d1, d2] }
  | _ => none }
def FnExactValidScriptsWrongFalsely : Prop := fnExactValidScriptsRow.holds Try.pinned (OpenSpec.ofChange fnExactValidScriptsWrong)

/-- 'laws.FnLocksForBelow': WHATEVER THE INPUT: true; the input reads as it did. -/
def fnLocksForBelowSpec : ChangeSpec := { name := "fnLocksForBelow", fn := fun _ => fun
  | [d] => { results := [.lit (.bool true)], args := [d] }
  | _ => none }
def fnLocksForBelowRow : OpenClaim := { program := "ytgofokifcplmoaa", sum := "b530a949df81c82f96c2840b8d29c04c82e9e25d0ee3a885ddf00bf779a03676", func := "loop.example/treelocks/laws.FnLocksForBelow", spec := "fnLocksForBelow", apart := false }
def FnLocksForBelowSaid : Prop := fnLocksForBelowRow.holds Try.pinned (OpenSpec.ofChange fnLocksForBelowSpec)

/-- ITS FALSE NEIGHBOUR: 'it returns false'. Refute it at one input. -/
def fnLocksForBelowWrong : ChangeSpec := { name := "fnLocksForBelow", fn := fun _ => fun
  | [d] => { results := [.lit (.bool false)], args := [d] }
  | _ => none }
def FnLocksForBelowWrongFalsely : Prop := fnLocksForBelowRow.holds Try.pinned (OpenSpec.ofChange fnLocksForBelowWrong)

/-- 'laws.FnPathTextKid': WHATEVER THE INPUT: true; the input reads as it did. -/
def fnPathTextKidSpec : ChangeSpec := { name := "fnPathTextKid", fn := fun _ => fun
  | [d] => { results := [.lit (.bool true)], args := [d] }
  | _ => none }
def fnPathTextKidRow : OpenClaim := { program := "ytgofokifcplmoaa", sum := "b530a949df81c82f96c2840b8d29c04c82e9e25d0ee3a885ddf00bf779a03676", func := "loop.example/treelocks/laws.FnPathTextKid", spec := "fnPathTextKid", inPlace := ["internal/abi.NoEscape"], apart := false }
def FnPathTextKidSaid : Prop := fnPathTextKidRow.holds Try.pinned (OpenSpec.ofChange fnPathTextKidSpec)

/-- ITS FALSE NEIGHBOUR: 'it returns false'. Refute it at one input. -/
def fnPathTextKidWrong : ChangeSpec := { name := "fnPathTextKid", fn := fun _ => fun
  | [d] => { results := [.lit (.bool false)], args := [d] }
  | _ => none }
def FnPathTextKidWrongFalsely : Prop := fnPathTextKidRow.holds Try.pinned (OpenSpec.ofChange fnPathTextKidWrong)

/-- 'laws.FnPathTextSlash': WHATEVER THE INPUT: true; the input reads as it did. -/
def fnPathTextSlashSpec : ChangeSpec := { name := "fnPathTextSlash", fn := fun _ => fun
  | [d] => { results := [.lit (.bool true)], args := [d] }
  | _ => none }
def fnPathTextSlashRow : OpenClaim := { program := "ytgofokifcplmoaa", sum := "b530a949df81c82f96c2840b8d29c04c82e9e25d0ee3a885ddf00bf779a03676", func := "loop.example/treelocks/laws.FnPathTextSlash", spec := "fnPathTextSlash", inPlace := ["internal/abi.NoEscape"], apart := false }
def FnPathTextSlashSaid : Prop := fnPathTextSlashRow.holds Try.pinned (OpenSpec.ofChange fnPathTextSlashSpec)

/-- ITS FALSE NEIGHBOUR: 'it returns false'. Refute it at one input. -/
def fnPathTextSlashWrong : ChangeSpec := { name := "fnPathTextSlash", fn := fun _ => fun
  | [d] => { results := [.lit (.bool false)], args := [d] }
  | _ => none }
def FnPathTextSlashWrongFalsely : Prop := fnPathTextSlashRow.holds Try.pinned (OpenSpec.ofChange fnPathTextSlashWrong)

/- THE SECOND FORM. 'bulk': how many values and letters a reading holds, each counted each time it is reached (what is shared counts as often as it is met; a slice's spare places count too). A statement '..UptoSaid' is the law's where the arguments, and the package variables that the reading takes, are together of bulk at most 1048576: NARROWER than '..Said'. Prove '..Said' where nothing that the law and all that it calls make is longer than what came in: it says more and counts as full. Else prove '..UptoSaid'. A law counts once. -/
mutual
def uptoBulk {H : Type} : DataW H → Nat
  | .lit (.string bytes) => bytes.length + 1
  | .lit _ => 1
  | .nil => 1
  | .ptr d => uptoBulk d + 1
  | .slice elems spare => uptoBulkAll elems + uptoBulkAll spare + 1
  | .agg parts => uptoBulkAll parts + 1
  | .iface _ d => uptoBulk d + 1
  | .map entries => uptoBulkEntries entries + 1
  | .held _ => 1
def uptoBulkAll {H : Type} : List (DataW H) → Nat
  | [] => 0
  | d :: r => uptoBulk d + uptoBulkAll r
def uptoBulkEntries {H : Type} : List (Lit × DataW H) → Nat
  | [] => 0
  | x :: r => uptoBulkEntry x + uptoBulkEntries r
def uptoBulkEntry {H : Type} : Lit × DataW H → Nat
  | (.string bytes, d) => bytes.length + uptoBulk d + 1
  | (_, d) => uptoBulk d + 1
 end
def uptoSmall : (H : Type) → List (DataW H) → Bool := fun _ ds => decide (uptoBulkAll ds ≤ 1048576)
def OpenSpec.upto (s : _root_.Go.ChangeSpec) : _root_.Go.OpenSpec := { _root_.Go.OpenSpec.ofChange s with cond := some uptoSmall }

/-- 'laws.FnValidScripts', WHERE WHAT IT READS IS OF BULK AT MOST 1048576: true; the input reads as it did. -/
def fnValidScriptsUptoRow : OpenClaim := { program := "ytgofokifcplmoaa", sum := "b530a949df81c82f96c2840b8d29c04c82e9e25d0ee3a885ddf00bf779a03676", func := "loop.example/treelocks/laws.FnValidScripts", spec := "fnValidScripts", apart := false, narrowed := true }
def FnValidScriptsUptoSaid : Prop := fnValidScriptsUptoRow.holds Try.pinned (OpenSpec.upto fnValidScriptsSpec)

/-- 'laws.FnValidScriptsTwice', WHERE WHAT IT READS IS OF BULK AT MOST 1048576: true; the input reads as it did. -/
def fnValidScriptsTwiceUptoRow : OpenClaim := { program := "ytgofokifcplmoaa", sum := "b530a949df81c82f96c2840b8d29c04c82e9e25d0ee3a885ddf00bf779a03676", func := "loop.example/treelocks/laws.FnValidScriptsTwice", spec := "fnValidScriptsTwice", apart := false, narrowed := true }
def FnValidScriptsTwiceUptoSaid : Prop := fnValidScriptsTwiceUptoRow.holds Try.pinned (OpenSpec.upto fnValidScriptsTwiceSpec)

/-- 'laws.FnMeeting', WHERE WHAT IT READS IS OF BULK AT MOST 1048576: true; the input reads as it did. -/
def fnMeetingUptoRow : OpenClaim := { program := "ytgofokifcplmoaa", sum := "b530a949df81c82f96c2840b8d29c04c82e9e25d0ee3a885ddf00bf779a03676", func := "loop.example/treelocks/laws.FnMeeting", spec := "fnMeeting", apart := false, narrowed := true }
def FnMeetingUptoSaid : Prop := fnMeetingUptoRow.holds Try.pinned (OpenSpec.upto fnMeetingSpec)

/-- 'laws.FnMeetingOrder', WHERE WHAT IT READS IS OF BULK AT MOST 1048576: true; the input reads as it did. -/
def fnMeetingOrderUptoRow : OpenClaim := { program := "ytgofokifcplmoaa", sum := "b530a949df81c82f96c2840b8d29c04c82e9e25d0ee3a885ddf00bf779a03676", func := "loop.example/treelocks/laws.FnMeetingOrder", spec := "fnMeetingOrder", apart := false, narrowed := true }
def FnMeetingOrderUptoSaid : Prop := fnMeetingOrderUptoRow.holds Try.pinned (OpenSpec.upto fnMeetingOrderSpec)

/-- 'laws.FnPathTo', WHERE WHAT IT READS IS OF BULK AT MOST 1048576: true; the input reads as it did. -/
def fnPathToUptoRow : OpenClaim := { program := "ytgofokifcplmoaa", sum := "b530a949df81c82f96c2840b8d29c04c82e9e25d0ee3a885ddf00bf779a03676", func := "loop.example/treelocks/laws.FnPathTo", spec := "fnPathTo", apart := false, narrowed := true }
def FnPathToUptoSaid : Prop := fnPathToUptoRow.holds Try.pinned (OpenSpec.upto fnPathToSpec)

/-- 'laws.FnPathToShort', WHERE WHAT IT READS IS OF BULK AT MOST 1048576: true; the input reads as it did. -/
def fnPathToShortUptoRow : OpenClaim := { program := "ytgofokifcplmoaa", sum := "b530a949df81c82f96c2840b8d29c04c82e9e25d0ee3a885ddf00bf779a03676", func := "loop.example/treelocks/laws.FnPathToShort", spec := "fnPathToShort", apart := false, narrowed := true }
def FnPathToShortUptoSaid : Prop := fnPathToShortUptoRow.holds Try.pinned (OpenSpec.upto fnPathToShortSpec)

/-- 'laws.FnMeetingPath', WHERE WHAT IT READS IS OF BULK AT MOST 1048576: true; the input reads as it did. -/
def fnMeetingPathUptoRow : OpenClaim := { program := "ytgofokifcplmoaa", sum := "b530a949df81c82f96c2840b8d29c04c82e9e25d0ee3a885ddf00bf779a03676", func := "loop.example/treelocks/laws.FnMeetingPath", spec := "fnMeetingPath", apart := false, narrowed := true }
def FnMeetingPathUptoSaid : Prop := fnMeetingPathUptoRow.holds Try.pinned (OpenSpec.upto fnMeetingPathSpec)

/-- 'laws.FnPathToAbove', WHERE WHAT IT READS IS OF BULK AT MOST 1048576: true; the input reads as it did. -/
def fnPathToAboveUptoRow : OpenClaim := { program := "ytgofokifcplmoaa", sum := "b530a949df81c82f96c2840b8d29c04c82e9e25d0ee3a885ddf00bf779a03676", func := "loop.example/treelocks/laws.FnPathToAbove", spec := "fnPathToAbove", apart := false, narrowed := true }
def FnPathToAboveUptoSaid : Prop := fnPathToAboveUptoRow.holds Try.pinned (OpenSpec.upto fnPathToAboveSpec)

/-- 'laws.FnExactValidScripts', WHERE WHAT IT READS IS OF BULK AT MOST 1048576: true; the input reads as it did. -/
def fnExactValidScriptsUptoRow : OpenClaim := { program := "ytgofokifcplmoaa", sum := "b530a949df81c82f96c2840b8d29c04c82e9e25d0ee3a885ddf00bf779a03676", func := "loop.example/treelocks/laws.FnExactValidScripts", spec := "fnExactValidScripts", apart := false, narrowed := true }
def FnExactValidScriptsUptoSaid : Prop := fnExactValidScriptsUptoRow.holds Try.pinned (OpenSpec.upto fnExactValidScriptsSpec)

/-- 'laws.FnLocksForBelow', WHERE WHAT IT READS IS OF BULK AT MOST 1048576: true; the input reads as it did. -/
def fnLocksForBelowUptoRow : OpenClaim := { program := "ytgofokifcplmoaa", sum := "b530a949df81c82f96c2840b8d29c04c82e9e25d0ee3a885ddf00bf779a03676", func := "loop.example/treelocks/laws.FnLocksForBelow", spec := "fnLocksForBelow", apart := false, narrowed := true }
def FnLocksForBelowUptoSaid : Prop := fnLocksForBelowUptoRow.holds Try.pinned (OpenSpec.upto fnLocksForBelowSpec)

/-- 'laws.FnPathTextKid', WHERE WHAT IT READS IS OF BULK AT MOST 1048576: true; the input reads as it did. -/
def fnPathTextKidUptoRow : OpenClaim := { program := "ytgofokifcplmoaa", sum := "b530a949df81c82f96c2840b8d29c04c82e9e25d0ee3a885ddf00bf779a03676", func := "loop.example/treelocks/laws.FnPathTextKid", spec := "fnPathTextKid", inPlace := ["internal/abi.NoEscape"], apart := false, narrowed := true }
def FnPathTextKidUptoSaid : Prop := fnPathTextKidUptoRow.holds Try.pinned (OpenSpec.upto fnPathTextKidSpec)

/-- 'laws.FnPathTextSlash', WHERE WHAT IT READS IS OF BULK AT MOST 1048576: true; the input reads as it did. -/
def fnPathTextSlashUptoRow : OpenClaim := { program := "ytgofokifcplmoaa", sum := "b530a949df81c82f96c2840b8d29c04c82e9e25d0ee3a885ddf00bf779a03676", func := "loop.example/treelocks/laws.FnPathTextSlash", spec := "fnPathTextSlash", inPlace := ["internal/abi.NoEscape"], apart := false, narrowed := true }
def FnPathTextSlashUptoSaid : Prop := fnPathTextSlashUptoRow.holds Try.pinned (OpenSpec.upto fnPathTextSlashSpec)

end Rows
end Go.Proofs.Ytgofokifcplmoaa
