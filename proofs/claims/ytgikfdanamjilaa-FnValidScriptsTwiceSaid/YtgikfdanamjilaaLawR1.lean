/- The draw of scripts with a tree; the walk of the law FnValidScripts. -/
import Derived.Test.YtgikfdanamjilaaSs
import Derived.Test.YtgikfdanamjilaaTreKit
namespace Go.Proofs.Ytgikfdanamjilaa
open Go.RowKit
open Tl (Do Nd validN validSc)

def PDrawS (w : World) (e : Ending) (w' : World) : Prop := ∃ (t : List Nd) (A : Option Addr) (c : Nat) (ss : List (List Do)) (A' : Option Addr) (c' : Nat), e = .returned (.tuple #[.slice A t.length c, .slice A' ss.length c']) ∧ TreeW w' A c t ∧ OwnSS w' w.heap.size (.slice A' ss.length c') ss.length ss ∧ ss.length ≤ 5 ∧ Below w.heap.size w w'
theorem drawValidScripts_any (A : Option Addr) (n c : Nat) (w : World) (h : Code8 w A n c) : Calls Try.prog 5 #[.slice A n c] w (PDrawS w) := by
  go_enter Try.func5, Try.ntmps5
  go_wp2_with fail
  refine (newReader_any A n c _ h).mono ?_
  rintro e w1 ⟨g, rfl, hr1, hg, hb1⟩
  go_wp2_with fail
  refine (anyTree_any g 0 _ hr1 (by omega)).mono ?_
  rintro e w2 ⟨t, A2, c2, q, rfl, ht2, hr2, hq2, hg2⟩
  have hb3 := hb1.trans (grown_below hg2 hg hb1.size)
  have htl := ht2.2.2.2.1
  clear hg2 hr1
  go_wp2_with fail
  refine (someScripts_any g q A2 c2 t _ hr2 (by omega) (by omega)).mono ?_
  rintro e w3 ⟨ss, A3, c3, q3, rfl, ho3, hl3, hr3, hg3⟩
  have hb4 := hb3.trans (grown_below hg3 hg hb3.size)
  have hw := TreeW.of (ht2.grown hg3)
  have ho4 := ho3.base hb3.size
  clear hr2 ht2 hg3 hb3 ho3
  go_wp2
  refine bodyPost_ret (v := .tuple #[.slice A2 t.length c2, .slice A3 ss.length c3]) (by simp [results, Try.results5, go_sem]) rfl ?_
  exact ⟨t, A2, c2, ss, A3, c3, rfl, hw, ho4, hl3, hb4⟩

end Go.Proofs.Ytgikfdanamjilaa
