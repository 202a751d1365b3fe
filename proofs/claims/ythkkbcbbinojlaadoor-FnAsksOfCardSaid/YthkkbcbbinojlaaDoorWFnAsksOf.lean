/- The card of the law FnAsksOf holds: for every code the call returns true, the code and the laid tables read as they did, and the tables are tied to the program's text. No condition beyond the card's own. -/
import Derived.Test.YthkkbcbbinojlaaDoorRows
import Derived.Test.YthkkbcbbinojlaaDoorCards
import Derived.Test.YthkkbcbbinojlaaDoorTie
import Derived.Test.YthkkbcbbinojlaaDoorLawKit
import Derived.Test.YthkkbcbbinojlaaDoorCard
import Derived.Test.YthkkbcbbinojlaaDoorLawK2
import Derived.WalkKit
import Derived.ProofKit
import Derived.OpenShut
import Derived.ShutString
import Derived.ChangeOld
import Derived.Below
import Derived.LaidMore
import Derived.SevenTiedAt
import Derived.Stop.Joined
namespace Go.Proofs.YthkkbcbbinojlaaDoor.fnAsksOf
open Go.ChangeShapes Go.WideShapes Go.ChangeAt Go.RowKit
open Go.ChangeMaps (open_string shut_string)
set_option linter.unusedVariables false

theorem walk (a0 : Option Addr) (len0 cap0 : Nat) (z0 : List Int) (w : World) (w0 : IsRow .u8 w a0 len0 cap0 z0) (hT : TabT w) (hJ : TabJ w) :
    Calls Tryd.prog 4 #[.slice a0 len0 cap0] w fun e w' => e = .returned (.bool true) ∧ Below w.heap.size w w' := by
  by_cases hn : len0 ≤ 1048576
  · exact law_FnAsksOf a0 len0 cap0 w (code_of_row w0 hn) hT hJ
  · have hn' : (1048576 : Int) < (len0 : Int) := by omega
    clear w0
    go_enter Tryd.func4, Tryd.ntmps4
    go_wp2
    go_ret
    exact ⟨rfl, Below.refl _ _⟩

theorem door_met (os : Os) (args : Array Value) : laidMetH Tryd.prog Rows.fnAsksOfRow.laid ((World.doorLaid Tryd.prog 400 os).forCall (fun _ _ => 0) ⟨#[], args, []⟩).memory :=
  laidMetH_of_parts3 (fuel := 8) (laidMet_of_run' 8 (by kernel_rfl) (by kernel_rfl)) (by kernel_rfl) (by kernel_rfl)

set_option maxRecDepth 100000 in
theorem lifted (os : Os) (started : os.Started) (H : Type) (enc : TypeId × Value → H) :
    ReturnsInHanded {} Tryd.checked os 4 .any (fun w args => (Rows.fnAsksOfSpec.pre enc Tryd.prog Tryd.f4 [] false w args ∧ laidMetH Tryd.prog Rows.fnAsksOfRow.laid w) ∧ sizedMet enc Tryd.prog Tryd.f4 (OpenSpec.ofChange Rows.fnAsksOfSpec) false w args)
      (Rows.fnAsksOfSpec.post enc Tryd.prog Tryd.f4 false true false false) := by
  refine returnsInHanded_of_change_and (C := Tryd.checked) (X := fun w _ => laidMetH Tryd.prog Rows.fnAsksOfRow.laid w) (fun _ _ _ hh h => h.of_heap hh) own_knob started (by kernel_rfl) Tryd.func4
    (ChangeSpec.witness_shaped (enc := enc) (C := Tryd.checked) (os := os) (X := fun w _ => laidMetH Tryd.prog Rows.fnAsksOfRow.laid w) false (World.doorLaid Tryd.prog 400 os) #[.slice none 0 0] 8 rfl (World.shaped_of_RefB (by kernel_rfl) (by kernel_rfl)) (by kernel_rfl) (by kernel_rfl) (by kernel_rfl) (door_met os _)) ?_
  intro W base args ds gs before hval0 hW _ _ hL _
  have hval : ∀ (j : Nat) t v, Tryd.f4.params[j]? = some t → args[j]? = some v → Value.okWide Tryd.prog W .any base t v := hval0
  have hW' := hW
  obtain ⟨p, q, hA0, hV0, rfl, hfz, hnd⟩ := hW
  have hA : DataW.TrodAll enc Tryd.prog W 0 (fun _ => true) true Tryd.f4.params.toList args.toList ds p := hA0
  have hV : DataW.TrodVars enc Tryd.prog W (fun _ => true) ["loop.example/treelocks/impl.together", "loop.example/treelocks/impl.joined"] gs q := hV0
  rw [Tryd.params4] at hA hval
  obtain ⟨v0, vs0, d0, ds0, p0, q0, hargs, rfl, rfl, h0, r0⟩ := trodAll_cons hA
  obtain ⟨rfl, rfl, rfl⟩ := trodAll_nil r0
  obtain rfl : args = #[v0] := by cases args; simp_all
  obtain ⟨g0, t0, cs0, f0, e0, pv0, g1, t1, cs1, f1, e1, pv1, rfl, hg0, ht0, hv0, hd0, hg1, ht1, hv1, hd1, rfl⟩ := trodVars_two hV
  obtain rfl := Option.some.inj (gT.symm.trans hg0)
  obtain rfl := Option.some.inj (gtT.symm.trans ht0)
  obtain rfl := Option.some.inj (gJ.symm.trans hg1)
  obtain rfl := Option.some.inj (gtJ.symm.trans ht1)
  rw [MakeChecks.laidMetH_plain _ _ _ (by kernel_rfl)] at hL
  obtain ⟨ps, ⟨a0', b0, c0, k0', m0, n0, hga, hta, hva, hda, ⟨a1', b1, c1, k1', m1, n1, hgb, htb, hvb, hdb, _, _⟩, _⟩, _, _⟩ := hL
  obtain rfl := Option.some.inj (gT.symm.trans hga)
  obtain rfl := Option.some.inj (gtT.symm.trans hta)
  obtain rfl := Option.some.inj (gJ.symm.trans hgb)
  obtain rfl := Option.some.inj (gtJ.symm.trans htb)
  have hc0 := cellsT_of (W := W) hda
  have hc1 := cellsJ_of (W := W) hdb
  rw [hc0] at hva
  rw [hc1] at hvb
  obtain rfl : cs0 = cellsT := Option.some.inj (hv0.symm.trans hva)
  obtain rfl : cs1 = cellsJ := Option.some.inj (hv1.symm.trans hvb)
  obtain ⟨rfl, rfl⟩ := DataW.Trod.unique (v := .agg cellsT) ⟨f0, hd0⟩ ⟨3, readsT enc W _⟩
  obtain ⟨rfl, rfl⟩ := DataW.Trod.unique (v := .agg cellsJ) ⟨f1, hd1⟩ ⟨3, readsJ enc W _⟩
  have hT := tabT_of hva
  have hJ := tabJ_of hvb
  have hvars : ∀ W' : World, Below W.heap.size W W' → DataW.TrodVars enc Tryd.prog W' (fun b => decide (b < W.heap.size)) ["loop.example/treelocks/impl.together", "loop.example/treelocks/impl.joined"] [Rows.laid_loop_example_treelocks_impl_together, Rows.laid_loop_example_treelocks_impl_joined] (MemPlace.row ⟨0, 0, none⟩ cellsT.size ++ [] ++ (MemPlace.row ⟨1, 0, none⟩ cellsJ.size ++ [] ++ [])) := fun W' hb =>
    ⟨_, _, cellsT, 3, [], _, gT, gtT, var_below gT hva hb hT.lt, readsT enc W' _, ⟨_, _, cellsJ, 3, [], [], gJ, gtJ, var_below gJ hvb hb hJ.lt, readsJ enc W' _, rfl, rfl⟩, rfl⟩
  obtain ⟨a0, len0, cap0, rfl⟩ := okWide_slice Tryd.underlying22 (hval 0 22 v0 rfl rfl)
  have k0 := h0
  have lt0 : ∀ x ∈ p0, x.block < W.heap.size := by obtain ⟨m, hm⟩ := k0; exact DataW.trod_lt m _ _ _ hm
  obtain ⟨z0, w0⟩ : ∃ zs, IsRow .u8 W a0 len0 cap0 zs := by
    obtain ⟨fuel, hf⟩ := h0
    rcases open_ints Tryd.underlying22 Tryd.underlying5 (by kernel_rfl) hf with ⟨hcs, _⟩ | ⟨x, l, c, zs, hcs, _, hl, hm, hz, _, hcell, hwz⟩
    · simp [Value.cells] at hcs
      obtain ⟨rfl, rfl, rfl⟩ := hcs
      exact ⟨[], .inl ⟨rfl, rfl, rfl, rfl⟩⟩
    · simp [Value.cells] at hcs
      obtain ⟨rfl, rfl, rfl⟩ := hcs
      exact ⟨zs, .inr ⟨_, rfl, hl, hm, by simpa using hz, hcell, hwz⟩⟩
  clear hA0 hval0 hV0
  refine (walk a0 len0 cap0 z0 W w0 hT hJ).mono fun e W' ⟨he, bel⟩ => ?_
  subst he
  exact ⟨_, rfl, _, _, _, [], _, _, hW', trodAll_mk1 (shut_bool Tryd.underlying4 _), (trodAll_cons_mk (Below.trod laid_out (by kernel_rfl) (of_decide_eq_true (by kernel_rfl)) k0 bel lt0) trodAll_mk0), hvars W' bel, bel.frame _, fun h => by cases h⟩

theorem over : Rows.fnAsksOfRow.holds Tryd.pinned (OpenSpec.ofChange Rows.fnAsksOfSpec) :=
  OpenClaim.holds_of_wide 4 Tryd.f4 rfl rfl rfl rfl rfl rfl rfl ⟨rfl, rfl, rfl, rfl, rfl⟩ rfl rfl rfl rfl rfl (by kernel_rfl) Tryd.func4 (by kernel_rfl)
    (of_decide_eq_true (by kernel_rfl)) (by unfold Func.isWrapper; first | (rw [if_pos (by decide +kernel)]; kernel_rfl) | (rw [if_neg (by decide +kernel)]; exact ⟨rfl, rfl⟩))
    (fun os started H enc _ => lifted os started H enc)

/-- The statement. -/
theorem proved : Rows.FnAsksOfCardSaid :=
  Claim7.holds_tied_plain_at .later [] [.data, .data] true (true, "73319c32a8f4803870ba4fbd6902290af3a64ceaebdc939bef702cd17e0e9704") false
    over (fun _ h => by cases h) (by kernel_rfl) (fun _ h => by cases h) fnAsksOf_row_tie rfl ⟨rfl, rfl⟩ (by kernel_rfl) rfl
    (fun f fn hf hfn => by
      obtain rfl : f = 4 := Option.some.inj ((show Tryd.prog.funcNamed "loop.example/treelocks/laws.FnAsksOf" = some 4 by kernel_rfl).symm.trans hf) |>.symm
      obtain rfl : fn = Tryd.f4 := (Option.some.inj (Tryd.func4.symm.trans hfn)).symm
      exact ⟨by kernel_rfl, fun j t ht => by
        rw [Tryd.params4] at ht
        have h3 : t = 22 := by
          rcases j with _ | j
          · simpa using ht.symm
          · simp at ht
        subst h3
        exact (show Tryd.prog.wantsStandIn 22 = false by kernel_rfl)⟩)
    (by kernel_rfl)
#print axioms proved
end Go.Proofs.YthkkbcbbinojlaaDoor.fnAsksOf
