/- What every law's proof needs: the code that came in, long or short. -/
import Derived.Test.YtgikfdanamjilaaReader
import Derived.ProofKit
import Derived.OpenShut
namespace Go.Proofs.Ytgikfdanamjilaa
open Go.RowKit

/-- A slice of bytes that came in: nil, or a row of 'cap' cells. -/
def IsRow (k : IntKind) (w : World) (a : Option Addr) (len cap : Nat) (zs : List Int) : Prop :=
  (a = none ∧ len = 0 ∧ cap = 0 ∧ zs = []) ∨
  ∃ x, a = some x ∧ len ≤ cap ∧ cap ≤ maxLen ∧ zs.length = cap ∧ (∀ i, i < zs.length → w.cell? (x.add i) = some (.int k (zs.getD i 0))) ∧ ∀ n ∈ zs, (Lit.int k n).wf = true

theorem byte_bounds {n : Int} (h : (Lit.int .u8 n).wf = true) : 0 ≤ n ∧ n < 256 := by
  have := bounds_u8 h
  omega

theorem code_of_row {w : World} {A : Option Addr} {n c : Nat} {zs : List Int} (h : IsRow .u8 w A n c zs) (hn : n ≤ 1048576) : Code8 w A n c := by
  rcases h with ⟨rfl, rfl, rfl, rfl⟩ | ⟨x, rfl, hl, hm, hz, hcell, hwz⟩
  · exact ⟨by omega, by omega, fun j hj => by omega⟩
  · refine ⟨hn, hl, fun j hj => ?_⟩
    have hc := hcell j (by omega)
    obtain ⟨b, off, spot⟩ := x
    have hspot : spot = none := by simpa [Addr.add] using World.cell?_spot (hcell 0 (by omega))
    subst hspot
    have e : (⟨b, off, none⟩ : Addr).add j = ⟨b, off + j, none⟩ := by
      unfold Addr.add
      split
      · rename_i h0; subst h0; simp
      · rfl
    rw [e] at hc
    have hb : zs.getD j 0 ∈ zs := by
      have hg := List.getElem?_eq_getElem (l := zs) (i := j) (by omega)
      rw [List.getD_eq_getElem?_getD, hg]
      exact List.getElem_mem _
    have := byte_bounds (hwz _ hb)
    exact ⟨b, off, zs.getD j 0, rfl, World.block_lt_of_cell? w ⟨b, off + j, none⟩ hc, hc, this.1, this.2⟩

theorem laid_out : laidOutB Try.prog = true := by kernel_rfl
theorem own_knob : ownKnob Try.prog.godebug = none := by kernel_rfl
end Go.Proofs.Ytgikfdanamjilaa
