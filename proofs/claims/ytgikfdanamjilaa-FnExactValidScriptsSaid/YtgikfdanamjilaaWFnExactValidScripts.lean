/- The law FnExactValidScripts holds: for all arguments (a list of nodes, a list of rows of dos) the call returns true and both arguments read as they did. No condition. -/
import Derived.Test.YtgikfdanamjilaaRows
import Derived.Test.YtgikfdanamjilaaLawKit
import Derived.Test.YtgikfdanamjilaaFrm
import Derived.Test.YtgikfdanamjilaaLawX1
import Derived.WalkKit
import Derived.ProofKit
import Derived.OpenShut
import Derived.ShutString
import Derived.ChangeOld
import Derived.Below
namespace Go.Proofs.Ytgikfdanamjilaa.fnExactValidScripts
open Go.ChangeShapes Go.WideShapes Go.ChangeAt Go.RowKit
open Go.ChangeMaps (open_string shut_string)
open Tl (Do Nd)
set_option linter.unusedVariables false

set_option maxRecDepth 100000 in
theorem lifted (os : Os) (started : os.Started) (H : Type) (enc : TypeId × Value → H) :
    ReturnsInHanded {} Try.checked os 4 .any (Rows.fnExactValidScriptsSpec.pre6 enc Try.prog Try.f4 Rows.fnExactValidScriptsRow.domain false) (Rows.fnExactValidScriptsSpec.post enc Try.prog Try.f4 false true false false) := by
  refine returnsInHanded_of_change (C := Try.checked) own_knob started (by kernel_rfl) Try.func4
    (ChangeSpec.witness6 (enc := enc) (C := Try.checked) false ⟨#[], #[.slice none 0 0, .slice none 0 0], []⟩ 8 (by kernel_rfl) (by kernel_rfl) (by kernel_rfl) (by kernel_rfl)) ?_
  intro W base args ds gs before hval0 hW hcnd _
  have hval : ∀ (j : Nat) t v, Try.f4.params[j]? = some t → args[j]? = some v → Value.okWide Try.prog W .any base t v := hval0
  have hW' := hW
  obtain ⟨p, q, hA0, hV, rfl, hfz, hnd⟩ := hW
  have hA : DataW.TrodAll enc Try.prog W 0 (fun _ => true) true Try.f4.params.toList args.toList ds p := hA0
  rw [Try.params4] at hA hval
  obtain ⟨v0, vs0, d0, ds0, p0, q0, hargs, rfl, rfl, h0, r0⟩ := trodAll_cons hA
  obtain ⟨v1, vs1, d1, ds1, p1, q1, rfl, rfl, rfl, h1, r1⟩ := trodAll_cons r0
  obtain ⟨rfl, rfl, rfl⟩ := trodAll_nil r1
  obtain rfl : args = #[v0, v1] := by cases args; simp_all
  obtain ⟨rfl, rfl⟩ := trodVars_none hV
  obtain ⟨a0, len0, cap0, rfl⟩ := okWide_slice Try.underlying30 (hval 0 30 v0 rfl rfl)
  obtain ⟨a1, len1, cap1, rfl⟩ := okWide_slice Try.underlying31 (hval 1 31 v1 rfl rfl)
  have k0 := h0
  have k1 := h1
  have lt0 : ∀ x ∈ p0, x.block < W.heap.size := by obtain ⟨m, hm⟩ := k0; exact DataW.trod_lt m _ _ _ hm
  have lt1 : ∀ x ∈ p1, x.block < W.heap.size := by obtain ⟨m, hm⟩ := k1; exact DataW.trod_lt m _ _ _ hm
  obtain ⟨t, rfl, _, ht1, hr, hS⟩ : ∃ t : List Nd, len0 = t.length ∧ len0 ≤ cap0 ∧ len0 ≤ maxLen ∧ Rd W W.heap.size 3 a0 len0 (nds t) ∧ ∀ y ∈ t, y.name.length ≤ maxLen := by
    obtain ⟨fuel, hf⟩ := h0
    exact open_nodes (x := (d0, p0)) (by simpa [Value.cells] using hf)
  obtain ⟨ss, rfl, hs1, hs, hS'⟩ : ∃ ss : List (List Do), len1 = ss.length ∧ len1 ≤ maxLen ∧ RdSS W W.heap.size a1 ss ∧ ∀ p ∈ ss, p.length ≤ maxLen := by
    obtain ⟨fuel, hf⟩ := h1
    exact open_doss (x := (d1, p1)) (by simpa [Value.cells] using hf)
  clear hA0 hval0
  refine (law_FnExactValidScripts a0 cap0 t a1 cap1 ss W (by unfold maxLen at ht1; omega) (fun x hx => by have := hS x hx; unfold maxLen at this; omega) (by unfold maxLen at hs1; omega) (fun x hx => by have := hS' x hx; unfold maxLen at this; omega) hr hs).mono fun e W' ⟨he, bel⟩ => ?_
  subst he
  exact ⟨_, rfl, _, _, _, [], _, [], hW', trodAll_mk1 (shut_bool Try.underlying4 _), (trodAll_cons_mk (Below.trod laid_out (by kernel_rfl) (of_decide_eq_true (by kernel_rfl)) k0 bel lt0) (trodAll_cons_mk (Below.trod laid_out (by kernel_rfl) (of_decide_eq_true (by kernel_rfl)) k1 bel lt1) trodAll_mk0)), rfl, bel.frame _, fun h => by cases h⟩

theorem over : Rows.fnExactValidScriptsRow.holds Try.pinned (OpenSpec.ofChange Rows.fnExactValidScriptsSpec) :=
  OpenClaim.holds_of_wide 4 Try.f4 rfl rfl rfl rfl rfl rfl rfl ⟨rfl, rfl, rfl, rfl, rfl⟩ rfl rfl rfl rfl rfl (by kernel_rfl) Try.func4 (by kernel_rfl)
    (of_decide_eq_true (by kernel_rfl)) (by unfold Func.isWrapper; first | (rw [if_pos (by decide +kernel)]; kernel_rfl) | (rw [if_neg (by decide +kernel)]; exact ⟨rfl, rfl⟩))
    (fun os started H enc _ => lifted os started H enc)

/-- The statement. -/
theorem proved : Rows.FnExactValidScriptsSaid := over
#print axioms proved
end Go.Proofs.Ytgikfdanamjilaa.fnExactValidScripts
