/-
  No cell of these rows narrows 'for every input' (looked for: loops, veiled, ifaces, maps, wideKeys, modest, calm, conditions, laid).
  DERIVED. THE GIVEN ROWS OF THIS SEAT. 2 by the template 'for every input the law returns true; each argument reads behind the call as it read before'; 0 by the template 'total and deterministic' (their statements: YtgikfdanamjilaaTotals.lean).
  GIVEN WITH THE SEED: the statements are not yours to turn. If you find one false, say at which input.
  Laid BY PROGRAM, IN A SANDBOX (cutbox-rows.mjs): the forced cells as the released guide's own fill.sh prints them over the translation 070e96d0a4f830b9… (all of the seat's roots in one cut). By AI agents, Wed Nov 11 2026. No macro, syntax, notation, axiom, sorry.
-/
import Derived.Test.YtgikfdanamjilaaChecked
import GoSem.Claim
import GoSem.ClaimJoined
import GoSem.ClaimMapViews
import Derived.JoinedTies
import Derived.KernelRfl
namespace Go.Proofs.Ytgikfdanamjilaa
/- THE CELL 'sum', in the pinned program and in every row, IS THE sha256 OF THE DUMP (.gsa) THAT YtgikfdanamjilaaProg.lean LOADS. Nothing in Lean hashes anything: it is a label: what it is worth is what the hold of that sum in a sandbox is worth. -/
noncomputable def Try.pinned : Pinned := { name := "ytgikfdanamjilaa", sum := "070e96d0a4f830b9f48c28adc34a7fa7ff7b3b1b2e0b95ea7847d0017ca7d466", checked := Try.checked }
namespace Rows
def none {H : Type} : Left H := { results := [], args := [] }

/-- 'laws.FnValidScriptsTwice': WHATEVER THE INPUT: true; the input reads as it did. -/
def fnValidScriptsTwiceSpec : ChangeSpec := { name := "fnValidScriptsTwice", fn := fun _ => fun
  | [d] => { results := [.lit (.bool true)], args := [d] }
  | _ => none }
def fnValidScriptsTwiceRow : OpenClaim := { program := "ytgikfdanamjilaa", sum := "070e96d0a4f830b9f48c28adc34a7fa7ff7b3b1b2e0b95ea7847d0017ca7d466", func := "loop.example/treelocks/laws.FnValidScriptsTwice", spec := "fnValidScriptsTwice", apart := false }
def FnValidScriptsTwiceSaid : Prop := fnValidScriptsTwiceRow.holds Try.pinned (OpenSpec.ofChange fnValidScriptsTwiceSpec)

/-- ITS FALSE NEIGHBOUR: 'it returns false'. Refute it at one input. -/
def fnValidScriptsTwiceWrong : ChangeSpec := { name := "fnValidScriptsTwice", fn := fun _ => fun
  | [d] => { results := [.lit (.bool false)], args := [d] }
  | _ => none }
def FnValidScriptsTwiceWrongFalsely : Prop := fnValidScriptsTwiceRow.holds Try.pinned (OpenSpec.ofChange fnValidScriptsTwiceWrong)

/-- 'laws.FnExactValidScripts': WHATEVER THE INPUT: true; the input reads as it did. -/
def fnExactValidScriptsSpec : ChangeSpec := { name := "fnExactValidScripts", fn := fun _ => fun
  | [d1, d2] => { results := [.lit (.bool true)], args := [d1, d2] }
  | _ => none }
def fnExactValidScriptsRow : OpenClaim := { program := "ytgikfdanamjilaa", sum := "070e96d0a4f830b9f48c28adc34a7fa7ff7b3b1b2e0b95ea7847d0017ca7d466", func := "loop.example/treelocks/laws.FnExactValidScripts", spec := "fnExactValidScripts", apart := false }
def FnExactValidScriptsSaid : Prop := fnExactValidScriptsRow.holds Try.pinned (OpenSpec.ofChange fnExactValidScriptsSpec)

/-- ITS FALSE NEIGHBOUR: 'it returns false'. Refute it at one input. -/
def fnExactValidScriptsWrong : ChangeSpec := { name := "fnExactValidScripts", fn := fun _ => fun
  | [d1, d2] => { results := [.lit (.bool false)], args := [d1, d2] }
  | _ => none }
def FnExactValidScriptsWrongFalsely : Prop := fnExactValidScriptsRow.holds Try.pinned (OpenSpec.ofChange fnExactValidScriptsWrong)

/- THE SECOND FORM. 'bulk': how many values and letters a reading holds, each counted each time it is reached (what is shared counts as often as it is met; a slice's spare places count too). A statement '..UptoSaid' is the law's where the arguments, and the package variables that the reading takes, are together of bulk at most 1048576: NARROWER than '..Said'. Prove '..Said' where nothing that the law and all that it calls make is longer than what came in: it says more and counts as full. Else prove '..UptoSaid'. A law counts once. -/
mutual
def uptoBulk {H : Type} : DataW H → Nat
  | .lit (.string bytes) => bytes.length + 1
  | .lit _ => 1
  | .nil => 1
  | .ptr d => uptoBulk d + 1
  | .slice elems spare => uptoBulkAll elems + uptoBulkAll spare + 1
  | .agg parts => uptoBulkAll parts + 1
  | .iface _ d => uptoBulk d + 1
  | .map entries => uptoBulkEntries entries + 1
  | .held _ => 1
def uptoBulkAll {H : Type} : List (DataW H) → Nat
  | [] => 0
  | d :: r => uptoBulk d + uptoBulkAll r
def uptoBulkEntries {H : Type} : List (Lit × DataW H) → Nat
  | [] => 0
  | x :: r => uptoBulkEntry x + uptoBulkEntries r
def uptoBulkEntry {H : Type} : Lit × DataW H → Nat
  | (.string bytes, d) => bytes.length + uptoBulk d + 1
  | (_, d) => uptoBulk d + 1
 end
def uptoSmall : (H : Type) → List (DataW H) → Bool := fun _ ds => decide (uptoBulkAll ds ≤ 1048576)
def OpenSpec.upto (s : _root_.Go.ChangeSpec) : _root_.Go.OpenSpec := { _root_.Go.OpenSpec.ofChange s with cond := some uptoSmall }

/-- 'laws.FnValidScriptsTwice', WHERE WHAT IT READS IS OF BULK AT MOST 1048576: true; the input reads as it did. -/
def fnValidScriptsTwiceUptoRow : OpenClaim := { program := "ytgikfdanamjilaa", sum := "070e96d0a4f830b9f48c28adc34a7fa7ff7b3b1b2e0b95ea7847d0017ca7d466", func := "loop.example/treelocks/laws.FnValidScriptsTwice", spec := "fnValidScriptsTwice", apart := false, narrowed := true }
def FnValidScriptsTwiceUptoSaid : Prop := fnValidScriptsTwiceUptoRow.holds Try.pinned (OpenSpec.upto fnValidScriptsTwiceSpec)

/-- 'laws.FnExactValidScripts', WHERE WHAT IT READS IS OF BULK AT MOST 1048576: true; the input reads as it did. -/
def fnExactValidScriptsUptoRow : OpenClaim := { program := "ytgikfdanamjilaa", sum := "070e96d0a4f830b9f48c28adc34a7fa7ff7b3b1b2e0b95ea7847d0017ca7d466", func := "loop.example/treelocks/laws.FnExactValidScripts", spec := "fnExactValidScripts", apart := false, narrowed := true }
def FnExactValidScriptsUptoSaid : Prop := fnExactValidScriptsUptoRow.holds Try.pinned (OpenSpec.upto fnExactValidScriptsSpec)

end Rows
end Go.Proofs.Ytgikfdanamjilaa
