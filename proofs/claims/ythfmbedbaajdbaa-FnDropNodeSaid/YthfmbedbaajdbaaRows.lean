/-
  No cell of these rows narrows 'for every input' (looked for: loops, veiled, ifaces, maps, wideKeys, modest, calm, conditions, laid).
  DERIVED. THE GIVEN ROWS OF THIS SEAT. 12 by the template 'for every input the law returns true; each argument reads behind the call as it read before'; 0 by the template 'total and deterministic' (their statements: YthfmbedbaajdbaaTotals.lean).
  GIVEN WITH THE SEED: the statements are not yours to turn. If you find one false, say at which input.
  Laid BY PROGRAM, IN A SANDBOX (cutbox-rows.mjs): the forced cells as the released guide's own fill.sh prints them over the translation d8a7897014948676… (all of the seat's roots in one cut). By AI agents, Wed Nov 11 2026. No macro, syntax, notation, axiom, sorry.
-/
import Derived.Test.YthfmbedbaajdbaaChecked
import GoSem.Claim
import GoSem.ClaimJoined
import GoSem.ClaimMapViews
import Derived.JoinedTies
import Derived.KernelRfl
namespace Go.Proofs.Ythfmbedbaajdbaa
/- THE CELL 'sum', in the pinned program and in every row, IS THE sha256 OF THE DUMP (.gsa) THAT YthfmbedbaajdbaaProg.lean LOADS. Nothing in Lean hashes anything: it is a label: what it is worth is what the hold of that sum in a sandbox is worth. -/
noncomputable def Try.pinned : Pinned := { name := "ythfmbedbaajdbaa", sum := "d8a7897014948676f8d70be209217deccb75ac2d961ef77b1ac442fd930291fe", checked := Try.checked }
namespace Rows
def none {H : Type} : Left H := { results := [], args := [] }

/-- 'laws.FnValidTree': WHATEVER THE INPUT: true; the input reads as it did. -/
def fnValidTreeSpec : ChangeSpec := { name := "fnValidTree", fn := fun _ => fun
  | [d] => { results := [.lit (.bool true)], args := [d] }
  | _ => none }
def fnValidTreeRow : OpenClaim := { program := "ythfmbedbaajdbaa", sum := "d8a7897014948676f8d70be209217deccb75ac2d961ef77b1ac442fd930291fe", func := "loop.example/treelocks/laws.FnValidTree", spec := "fnValidTree", apart := false }
def FnValidTreeSaid : Prop := fnValidTreeRow.holds Try.pinned (OpenSpec.ofChange fnValidTreeSpec)

/-- ITS FALSE NEIGHBOUR: 'it returns false'. Refute it at one input. -/
def fnValidTreeWrong : ChangeSpec := { name := "fnValidTree", fn := fun _ => fun
  | [d] => { results := [.lit (.bool false)], args := [d] }
  | _ => none }
def FnValidTreeWrongFalsely : Prop := fnValidTreeRow.holds Try.pinned (OpenSpec.ofChange fnValidTreeWrong)

/-- 'laws.FnValidTreeValue': WHATEVER THE INPUT: true; the input reads as it did. -/
def fnValidTreeValueSpec : ChangeSpec := { name := "fnValidTreeValue", fn := fun _ => fun
  | [d] => { results := [.lit (.bool true)], args := [d] }
  | _ => none }
def fnValidTreeValueRow : OpenClaim := { program := "ythfmbedbaajdbaa", sum := "d8a7897014948676f8d70be209217deccb75ac2d961ef77b1ac442fd930291fe", func := "loop.example/treelocks/laws.FnValidTreeValue", spec := "fnValidTreeValue", apart := false }
def FnValidTreeValueSaid : Prop := fnValidTreeValueRow.holds Try.pinned (OpenSpec.ofChange fnValidTreeValueSpec)

/-- ITS FALSE NEIGHBOUR: 'it returns false'. Refute it at one input. -/
def fnValidTreeValueWrong : ChangeSpec := { name := "fnValidTreeValue", fn := fun _ => fun
  | [d] => { results := [.lit (.bool false)], args := [d] }
  | _ => none }
def FnValidTreeValueWrongFalsely : Prop := fnValidTreeValueRow.holds Try.pinned (OpenSpec.ofChange fnValidTreeValueWrong)

/-- 'laws.FnKidOf': WHATEVER THE INPUT: true; the input reads as it did. -/
def fnKidOfSpec : ChangeSpec := { name := "fnKidOf", fn := fun _ => fun
  | [d] => { results := [.lit (.bool true)], args := [d] }
  | _ => none }
def fnKidOfRow : OpenClaim := { program := "ythfmbedbaajdbaa", sum := "d8a7897014948676f8d70be209217deccb75ac2d961ef77b1ac442fd930291fe", func := "loop.example/treelocks/laws.FnKidOf", spec := "fnKidOf", apart := false }
def FnKidOfSaid : Prop := fnKidOfRow.holds Try.pinned (OpenSpec.ofChange fnKidOfSpec)

/-- ITS FALSE NEIGHBOUR: 'it returns false'. Refute it at one input. -/
def fnKidOfWrong : ChangeSpec := { name := "fnKidOf", fn := fun _ => fun
  | [d] => { results := [.lit (.bool false)], args := [d] }
  | _ => none }
def FnKidOfWrongFalsely : Prop := fnKidOfRow.holds Try.pinned (OpenSpec.ofChange fnKidOfWrong)

/-- 'laws.FnKidOfNone': WHATEVER THE INPUT: true; the input reads as it did. -/
def fnKidOfNoneSpec : ChangeSpec := { name := "fnKidOfNone", fn := fun _ => fun
  | [d] => { results := [.lit (.bool true)], args := [d] }
  | _ => none }
def fnKidOfNoneRow : OpenClaim := { program := "ythfmbedbaajdbaa", sum := "d8a7897014948676f8d70be209217deccb75ac2d961ef77b1ac442fd930291fe", func := "loop.example/treelocks/laws.FnKidOfNone", spec := "fnKidOfNone", apart := false }
def FnKidOfNoneSaid : Prop := fnKidOfNoneRow.holds Try.pinned (OpenSpec.ofChange fnKidOfNoneSpec)

/-- ITS FALSE NEIGHBOUR: 'it returns false'. Refute it at one input. -/
def fnKidOfNoneWrong : ChangeSpec := { name := "fnKidOfNone", fn := fun _ => fun
  | [d] => { results := [.lit (.bool false)], args := [d] }
  | _ => none }
def FnKidOfNoneWrongFalsely : Prop := fnKidOfNoneRow.holds Try.pinned (OpenSpec.ofChange fnKidOfNoneWrong)

/-- 'laws.FnIsAbove': WHATEVER THE INPUT: true; the input reads as it did. -/
def fnIsAboveSpec : ChangeSpec := { name := "fnIsAbove", fn := fun _ => fun
  | [d] => { results := [.lit (.bool true)], args := [d] }
  | _ => none }
def fnIsAboveRow : OpenClaim := { program := "ythfmbedbaajdbaa", sum := "d8a7897014948676f8d70be209217deccb75ac2d961ef77b1ac442fd930291fe", func := "loop.example/treelocks/laws.FnIsAbove", spec := "fnIsAbove", apart := false }
def FnIsAboveSaid : Prop := fnIsAboveRow.holds Try.pinned (OpenSpec.ofChange fnIsAboveSpec)

/-- ITS FALSE NEIGHBOUR: 'it returns false'. Refute it at one input. -/
def fnIsAboveWrong : ChangeSpec := { name := "fnIsAbove", fn := fun _ => fun
  | [d] => { results := [.lit (.bool false)], args := [d] }
  | _ => none }
def FnIsAboveWrongFalsely : Prop := fnIsAboveRow.holds Try.pinned (OpenSpec.ofChange fnIsAboveWrong)

/-- 'laws.FnIsAboveBoth': WHATEVER THE INPUT: true; the input reads as it did. -/
def fnIsAboveBothSpec : ChangeSpec := { name := "fnIsAboveBoth", fn := fun _ => fun
  | [d] => { results := [.lit (.bool true)], args := [d] }
  | _ => none }
def fnIsAboveBothRow : OpenClaim := { program := "ythfmbedbaajdbaa", sum := "d8a7897014948676f8d70be209217deccb75ac2d961ef77b1ac442fd930291fe", func := "loop.example/treelocks/laws.FnIsAboveBoth", spec := "fnIsAboveBoth", apart := false }
def FnIsAboveBothSaid : Prop := fnIsAboveBothRow.holds Try.pinned (OpenSpec.ofChange fnIsAboveBothSpec)

/-- ITS FALSE NEIGHBOUR: 'it returns false'. Refute it at one input. -/
def fnIsAboveBothWrong : ChangeSpec := { name := "fnIsAboveBoth", fn := fun _ => fun
  | [d] => { results := [.lit (.bool false)], args := [d] }
  | _ => none }
def FnIsAboveBothWrongFalsely : Prop := fnIsAboveBothRow.holds Try.pinned (OpenSpec.ofChange fnIsAboveBothWrong)

/-- 'laws.FnIsAboveThree': WHATEVER THE INPUT: true; the input reads as it did. -/
def fnIsAboveThreeSpec : ChangeSpec := { name := "fnIsAboveThree", fn := fun _ => fun
  | [d] => { results := [.lit (.bool true)], args := [d] }
  | _ => none }
def fnIsAboveThreeRow : OpenClaim := { program := "ythfmbedbaajdbaa", sum := "d8a7897014948676f8d70be209217deccb75ac2d961ef77b1ac442fd930291fe", func := "loop.example/treelocks/laws.FnIsAboveThree", spec := "fnIsAboveThree", apart := false }
def FnIsAboveThreeSaid : Prop := fnIsAboveThreeRow.holds Try.pinned (OpenSpec.ofChange fnIsAboveThreeSpec)

/-- ITS FALSE NEIGHBOUR: 'it returns false'. Refute it at one input. -/
def fnIsAboveThreeWrong : ChangeSpec := { name := "fnIsAboveThree", fn := fun _ => fun
  | [d] => { results := [.lit (.bool false)], args := [d] }
  | _ => none }
def FnIsAboveThreeWrongFalsely : Prop := fnIsAboveThreeRow.holds Try.pinned (OpenSpec.ofChange fnIsAboveThreeWrong)

/-- 'laws.FnSetValue': WHATEVER THE INPUT: true; the input reads as it did. -/
def fnSetValueSpec : ChangeSpec := { name := "fnSetValue", fn := fun _ => fun
  | [d] => { results := [.lit (.bool true)], args := [d] }
  | _ => none }
def fnSetValueRow : OpenClaim := { program := "ythfmbedbaajdbaa", sum := "d8a7897014948676f8d70be209217deccb75ac2d961ef77b1ac442fd930291fe", func := "loop.example/treelocks/laws.FnSetValue", spec := "fnSetValue", apart := false }
def FnSetValueSaid : Prop := fnSetValueRow.holds Try.pinned (OpenSpec.ofChange fnSetValueSpec)

/-- ITS FALSE NEIGHBOUR: 'it returns false'. Refute it at one input. -/
def fnSetValueWrong : ChangeSpec := { name := "fnSetValue", fn := fun _ => fun
  | [d] => { results := [.lit (.bool false)], args := [d] }
  | _ => none }
def FnSetValueWrongFalsely : Prop := fnSetValueRow.holds Try.pinned (OpenSpec.ofChange fnSetValueWrong)

/-- 'laws.FnSetValueOrder': WHATEVER THE INPUT: true; the input reads as it did. -/
def fnSetValueOrderSpec : ChangeSpec := { name := "fnSetValueOrder", fn := fun _ => fun
  | [d] => { results := [.lit (.bool true)], args := [d] }
  | _ => none }
def fnSetValueOrderRow : OpenClaim := { program := "ythfmbedbaajdbaa", sum := "d8a7897014948676f8d70be209217deccb75ac2d961ef77b1ac442fd930291fe", func := "loop.example/treelocks/laws.FnSetValueOrder", spec := "fnSetValueOrder", apart := false }
def FnSetValueOrderSaid : Prop := fnSetValueOrderRow.holds Try.pinned (OpenSpec.ofChange fnSetValueOrderSpec)

/-- ITS FALSE NEIGHBOUR: 'it returns false'. Refute it at one input. -/
def fnSetValueOrderWrong : ChangeSpec := { name := "fnSetValueOrder", fn := fun _ => fun
  | [d] => { results := [.lit (.bool false)], args := [d] }
  | _ => none }
def FnSetValueOrderWrongFalsely : Prop := fnSetValueOrderRow.holds Try.pinned (OpenSpec.ofChange fnSetValueOrderWrong)

/-- 'laws.FnAddNodeTwice': WHATEVER THE INPUT: true; the input reads as it did. -/
def fnAddNodeTwiceSpec : ChangeSpec := { name := "fnAddNodeTwice", fn := fun _ => fun
  | [d] => { results := [.lit (.bool true)], args := [d] }
  | _ => none }
def fnAddNodeTwiceRow : OpenClaim := { program := "ythfmbedbaajdbaa", sum := "d8a7897014948676f8d70be209217deccb75ac2d961ef77b1ac442fd930291fe", func := "loop.example/treelocks/laws.FnAddNodeTwice", spec := "fnAddNodeTwice", apart := false }
def FnAddNodeTwiceSaid : Prop := fnAddNodeTwiceRow.holds Try.pinned (OpenSpec.ofChange fnAddNodeTwiceSpec)

/-- ITS FALSE NEIGHBOUR: 'it returns false'. Refute it at one input. -/
def fnAddNodeTwiceWrong : ChangeSpec := { name := "fnAddNodeTwice", fn := fun _ => fun
  | [d] => { results := [.lit (.bool false)], args := [d] }
  | _ => none }
def FnAddNodeTwiceWrongFalsely : Prop := fnAddNodeTwiceRow.holds Try.pinned (OpenSpec.ofChange fnAddNodeTwiceWrong)

/-- 'laws.FnAddNode': WHATEVER THE INPUT: true; the input reads as it did. -/
def fnAddNodeSpec : ChangeSpec := { name := "fnAddNode", fn := fun _ => fun
  | [d] => { results := [.lit (.bool true)], args := [d] }
  | _ => none }
def fnAddNodeRow : OpenClaim := { program := "ythfmbedbaajdbaa", sum := "d8a7897014948676f8d70be209217deccb75ac2d961ef77b1ac442fd930291fe", func := "loop.example/treelocks/laws.FnAddNode", spec := "fnAddNode", apart := false }
def FnAddNodeSaid : Prop := fnAddNodeRow.holds Try.pinned (OpenSpec.ofChange fnAddNodeSpec)

/-- ITS FALSE NEIGHBOUR: 'it returns false'. Refute it at one input. -/
def fnAddNodeWrong : ChangeSpec := { name := "fnAddNode", fn := fun _ => fun
  | [d] => { results := [.lit (.bool false)], args := [d] }
  | _ => none }
def FnAddNodeWrongFalsely : Prop := fnAddNodeRow.holds Try.pinned (OpenSpec.ofChange fnAddNodeWrong)

/-- 'laws.FnDropNode': WHATEVER THE INPUT: true; the input reads as it did. -/
def fnDropNodeSpec : ChangeSpec := { name := "fnDropNode", fn := fun _ => fun
  | [d] => { results := [.lit (.bool true)], args := [d] }
  | _ => none }
def fnDropNodeRow : OpenClaim := { program := "ythfmbedbaajdbaa", sum := "d8a7897014948676f8d70be209217deccb75ac2d961ef77b1ac442fd930291fe", func := "loop.example/treelocks/laws.FnDropNode", spec := "fnDropNode", inPlace := ["internal/abi.NoEscape"], apart := false }
def FnDropNodeSaid : Prop := fnDropNodeRow.holds Try.pinned (OpenSpec.ofChange fnDropNodeSpec)

/-- ITS FALSE NEIGHBOUR: 'it returns false'. Refute it at one input. -/
def fnDropNodeWrong : ChangeSpec := { name := "fnDropNode", fn := fun _ => fun
  | [d] => { results := [.lit (.bool false)], args := [d] }
  | _ => none }
def FnDropNodeWrongFalsely : Prop := fnDropNodeRow.holds Try.pinned (OpenSpec.ofChange fnDropNodeWrong)

/- THE SECOND FORM. 'bulk': how many values and letters a reading holds, each counted each time it is reached (what is shared counts as often as it is met; a slice's spare places count too). A statement '..UptoSaid' is the law's where the arguments, and the package variables that the reading takes, are together of bulk at most 1048576: NARROWER than '..Said'. Prove '..Said' where nothing that the law and all that it calls make is longer than what came in: it says more and counts as full. Else prove '..UptoSaid'. A law counts once. -/
mutual
def uptoBulk {H : Type} : DataW H → Nat
  | .lit (.string bytes) => bytes.length + 1
  | .lit _ => 1
  | .nil => 1
  | .ptr d => uptoBulk d + 1
  | .slice elems spare => uptoBulkAll elems + uptoBulkAll spare + 1
  | .agg parts => uptoBulkAll parts + 1
  | .iface _ d => uptoBulk d + 1
  | .map entries => uptoBulkEntries entries + 1
  | .held _ => 1
def uptoBulkAll {H : Type} : List (DataW H) → Nat
  | [] => 0
  | d :: r => uptoBulk d + uptoBulkAll r
def uptoBulkEntries {H : Type} : List (Lit × DataW H) → Nat
  | [] => 0
  | x :: r => uptoBulkEntry x + uptoBulkEntries r
def uptoBulkEntry {H : Type} : Lit × DataW H → Nat
  | (.string bytes, d) => bytes.length + uptoBulk d + 1
  | (_, d) => uptoBulk d + 1
 end
def uptoSmall : (H : Type) → List (DataW H) → Bool := fun _ ds => decide (uptoBulkAll ds ≤ 1048576)
def OpenSpec.upto (s : _root_.Go.ChangeSpec) : _root_.Go.OpenSpec := { _root_.Go.OpenSpec.ofChange s with cond := some uptoSmall }

/-- 'laws.FnValidTree', WHERE WHAT IT READS IS OF BULK AT MOST 1048576: true; the input reads as it did. -/
def fnValidTreeUptoRow : OpenClaim := { program := "ythfmbedbaajdbaa", sum := "d8a7897014948676f8d70be209217deccb75ac2d961ef77b1ac442fd930291fe", func := "loop.example/treelocks/laws.FnValidTree", spec := "fnValidTree", apart := false, narrowed := true }
def FnValidTreeUptoSaid : Prop := fnValidTreeUptoRow.holds Try.pinned (OpenSpec.upto fnValidTreeSpec)

/-- 'laws.FnValidTreeValue', WHERE WHAT IT READS IS OF BULK AT MOST 1048576: true; the input reads as it did. -/
def fnValidTreeValueUptoRow : OpenClaim := { program := "ythfmbedbaajdbaa", sum := "d8a7897014948676f8d70be209217deccb75ac2d961ef77b1ac442fd930291fe", func := "loop.example/treelocks/laws.FnValidTreeValue", spec := "fnValidTreeValue", apart := false, narrowed := true }
def FnValidTreeValueUptoSaid : Prop := fnValidTreeValueUptoRow.holds Try.pinned (OpenSpec.upto fnValidTreeValueSpec)

/-- 'laws.FnKidOf', WHERE WHAT IT READS IS OF BULK AT MOST 1048576: true; the input reads as it did. -/
def fnKidOfUptoRow : OpenClaim := { program := "ythfmbedbaajdbaa", sum := "d8a7897014948676f8d70be209217deccb75ac2d961ef77b1ac442fd930291fe", func := "loop.example/treelocks/laws.FnKidOf", spec := "fnKidOf", apart := false, narrowed := true }
def FnKidOfUptoSaid : Prop := fnKidOfUptoRow.holds Try.pinned (OpenSpec.upto fnKidOfSpec)

/-- 'laws.FnKidOfNone', WHERE WHAT IT READS IS OF BULK AT MOST 1048576: true; the input reads as it did. -/
def fnKidOfNoneUptoRow : OpenClaim := { program := "ythfmbedbaajdbaa", sum := "d8a7897014948676f8d70be209217deccb75ac2d961ef77b1ac442fd930291fe", func := "loop.example/treelocks/laws.FnKidOfNone", spec := "fnKidOfNone", apart := false, narrowed := true }
def FnKidOfNoneUptoSaid : Prop := fnKidOfNoneUptoRow.holds Try.pinned (OpenSpec.upto fnKidOfNoneSpec)

/-- 'laws.FnIsAbove', WHERE WHAT IT READS IS OF BULK AT MOST 1048576: true; the input reads as it did. -/
def fnIsAboveUptoRow : OpenClaim := { program := "ythfmbedbaajdbaa", sum := "d8a7897014948676f8d70be209217deccb75ac2d961ef77b1ac442fd930291fe", func := "loop.example/treelocks/laws.FnIsAbove", spec := "fnIsAbove", apart := false, narrowed := true }
def FnIsAboveUptoSaid : Prop := fnIsAboveUptoRow.holds Try.pinned (OpenSpec.upto fnIsAboveSpec)

/-- 'laws.FnIsAboveBoth', WHERE WHAT IT READS IS OF BULK AT MOST 1048576: true; the input reads as it did. -/
def fnIsAboveBothUptoRow : OpenClaim := { program := "ythfmbedbaajdbaa", sum := "d8a7897014948676f8d70be209217deccb75ac2d961ef77b1ac442fd930291fe", func := "loop.example/treelocks/laws.FnIsAboveBoth", spec := "fnIsAboveBoth", apart := false, narrowed := true }
def FnIsAboveBothUptoSaid : Prop := fnIsAboveBothUptoRow.holds Try.pinned (OpenSpec.upto fnIsAboveBothSpec)

/-- 'laws.FnIsAboveThree', WHERE WHAT IT READS IS OF BULK AT MOST 1048576: true; the input reads as it did. -/
def fnIsAboveThreeUptoRow : OpenClaim := { program := "ythfmbedbaajdbaa", sum := "d8a7897014948676f8d70be209217deccb75ac2d961ef77b1ac442fd930291fe", func := "loop.example/treelocks/laws.FnIsAboveThree", spec := "fnIsAboveThree", apart := false, narrowed := true }
def FnIsAboveThreeUptoSaid : Prop := fnIsAboveThreeUptoRow.holds Try.pinned (OpenSpec.upto fnIsAboveThreeSpec)

/-- 'laws.FnSetValue', WHERE WHAT IT READS IS OF BULK AT MOST 1048576: true; the input reads as it did. -/
def fnSetValueUptoRow : OpenClaim := { program := "ythfmbedbaajdbaa", sum := "d8a7897014948676f8d70be209217deccb75ac2d961ef77b1ac442fd930291fe", func := "loop.example/treelocks/laws.FnSetValue", spec := "fnSetValue", apart := false, narrowed := true }
def FnSetValueUptoSaid : Prop := fnSetValueUptoRow.holds Try.pinned (OpenSpec.upto fnSetValueSpec)

/-- 'laws.FnSetValueOrder', WHERE WHAT IT READS IS OF BULK AT MOST 1048576: true; the input reads as it did. -/
def fnSetValueOrderUptoRow : OpenClaim := { program := "ythfmbedbaajdbaa", sum := "d8a7897014948676f8d70be209217deccb75ac2d961ef77b1ac442fd930291fe", func := "loop.example/treelocks/laws.FnSetValueOrder", spec := "fnSetValueOrder", apart := false, narrowed := true }
def FnSetValueOrderUptoSaid : Prop := fnSetValueOrderUptoRow.holds Try.pinned (OpenSpec.upto fnSetValueOrderSpec)

/-- 'laws.FnAddNodeTwice', WHERE WHAT IT READS IS OF BULK AT MOST 1048576: true; the input reads as it did. -/
def fnAddNodeTwiceUptoRow : OpenClaim := { program := "ythfmbedbaajdbaa", sum := "d8a7897014948676f8d70be209217deccb75ac2d961ef77b1ac442fd930291fe", func := "loop.example/treelocks/laws.FnAddNodeTwice", spec := "fnAddNodeTwice", apart := false, narrowed := true }
def FnAddNodeTwiceUptoSaid : Prop := fnAddNodeTwiceUptoRow.holds Try.pinned (OpenSpec.upto fnAddNodeTwiceSpec)

/-- 'laws.FnAddNode', WHERE WHAT IT READS IS OF BULK AT MOST 1048576: true; the input reads as it did. -/
def fnAddNodeUptoRow : OpenClaim := { program := "ythfmbedbaajdbaa", sum := "d8a7897014948676f8d70be209217deccb75ac2d961ef77b1ac442fd930291fe", func := "loop.example/treelocks/laws.FnAddNode", spec := "fnAddNode", apart := false, narrowed := true }
def FnAddNodeUptoSaid : Prop := fnAddNodeUptoRow.holds Try.pinned (OpenSpec.upto fnAddNodeSpec)

/-- 'laws.FnDropNode', WHERE WHAT IT READS IS OF BULK AT MOST 1048576: true; the input reads as it did. -/
def fnDropNodeUptoRow : OpenClaim := { program := "ythfmbedbaajdbaa", sum := "d8a7897014948676f8d70be209217deccb75ac2d961ef77b1ac442fd930291fe", func := "loop.example/treelocks/laws.FnDropNode", spec := "fnDropNode", inPlace := ["internal/abi.NoEscape"], apart := false, narrowed := true }
def FnDropNodeUptoSaid : Prop := fnDropNodeUptoRow.holds Try.pinned (OpenSpec.upto fnDropNodeSpec)

end Rows
end Go.Proofs.Ythfmbedbaajdbaa
