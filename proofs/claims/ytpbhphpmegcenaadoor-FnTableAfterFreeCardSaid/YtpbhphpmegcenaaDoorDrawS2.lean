/- Contracts: the draws of schedules, exported. -/
import Derived.Test.YtpbhphpmegcenaaDoorDrawS
namespace Go.Proofs.YtpbhphpmegcenaaDoor
open Go.RowKit
open Tl (St)

def PDrawS1 (w : World) (e : Ending) (w' : World) : Prop :=
  ∃ (ss : List St) (A : Option Addr) (c : Nat), e = .returned (.slice A ss.length c) ∧ w'.ownsRow w.heap.size 29 4 (.slice A ss.length c) ss.length (sts ss) ∧ ss.length ≤ 25 ∧ Below w.heap.size w w'
def PDrawS2 (w : World) (e : Ending) (w' : World) : Prop :=
  ∃ (ss : List St) (A : Option Addr) (c : Nat) (who : Int), e = .returned (.tuple #[.slice A ss.length c, .int .i64 who]) ∧ w'.ownsRow w.heap.size 29 4 (.slice A ss.length c) ss.length (sts ss) ∧ ss.length ≤ 25 ∧ Below w.heap.size w w'

theorem drawValidSteps_any (A : Option Addr) (n c : Nat) (w : World) (h : Code8 w A n c) : Calls Tryd.prog 34 #[.slice A n c] w (PDrawS1 w) := by
  go_enter Tryd.func34, Tryd.ntmps34
  go_wp2_with fail
  refine (newReader_any A n c _ h).mono ?_
  rintro e w1 ⟨g, rfl, hr1, hg, hb1⟩
  go_wp2_with fail
  refine (someSteps_any g 0 _ hr1 (by omega)).mono ?_
  rintro e w2 ⟨ss, A2, c2, q, rfl, ho2, hl2, hr2, hq2, hg2⟩
  have ho3 := own_base ho2 hb1.size
  have hb3 := hb1.trans (grown_below hg2 hg hb1.size)
  clear ho2 hg2 hr2 hr1
  go_wp2
  go_ret
  exact ⟨ss, A2, c2, rfl, ho3, hl2, hb3⟩
theorem drawTableAfter_any (A : Option Addr) (n c : Nat) (w : World) (h : Code8 w A n c) : Calls Tryd.prog 36 #[.slice A n c] w (PDrawS1 w) := by
  go_enter Tryd.func36, Tryd.ntmps36
  go_wp2_with fail
  refine (newReader_any A n c _ h).mono ?_
  rintro e w1 ⟨g, rfl, hr1, hg, hb1⟩
  go_wp2_with fail
  refine (someSteps_any g 0 _ hr1 (by omega)).mono ?_
  rintro e w2 ⟨ss, A2, c2, q, rfl, ho2, hl2, hr2, hq2, hg2⟩
  have ho3 := own_base ho2 hb1.size
  have hb3 := hb1.trans (grown_below hg2 hg hb1.size)
  clear ho2 hg2 hr2 hr1
  go_wp2
  go_ret
  exact ⟨ss, A2, c2, rfl, ho3, hl2, hb3⟩
theorem drawAccessesOf_any (A : Option Addr) (n c : Nat) (w : World) (h : Code8 w A n c) : Calls Tryd.prog 20 #[.slice A n c] w (PDrawS1 w) := by
  go_enter Tryd.func20, Tryd.ntmps20
  go_wp2_with fail
  refine (newReader_any A n c _ h).mono ?_
  rintro e w1 ⟨g, rfl, hr1, hg, hb1⟩
  go_wp2_with fail
  refine (someSteps_any g 0 _ hr1 (by omega)).mono ?_
  rintro e w2 ⟨ss, A2, c2, q, rfl, ho2, hl2, hr2, hq2, hg2⟩
  have ho3 := own_base ho2 hb1.size
  have hb3 := hb1.trans (grown_below hg2 hg hb1.size)
  clear ho2 hg2 hr2 hr1
  go_wp2
  go_ret
  exact ⟨ss, A2, c2, rfl, ho3, hl2, hb3⟩
theorem drawIsTwoPhase_any (A : Option Addr) (n c : Nat) (w : World) (h : Code8 w A n c) : Calls Tryd.prog 24 #[.slice A n c] w (PDrawS2 w) := by
  go_enter Tryd.func24, Tryd.ntmps24
  go_wp2_with fail
  refine (newReader_any A n c _ h).mono ?_
  rintro e w1 ⟨g, rfl, hr1, hg, hb1⟩
  have hgl := hr1.lt
  go_wp2_with fail
  refine (someSteps_any g 0 _ hr1 (by omega)).mono ?_
  rintro e w2 ⟨ss, A2, c2, q, rfl, ho2, hl2, hr2, hq2, hg2⟩
  have hb3 := hb1.trans (grown_below hg2 hg hb1.size)
  go_wp2_with fail
  refine (pick_any g q 4 _ hr2 (by omega) (by omega)).mono ?_
  rintro e w3 ⟨r, rfl, _, _, _, _, hg3⟩
  have ho4 := own_grown ho2 hg3 hgl
  have hb4 := hb3.trans (grown_below hg3 hg hb3.size)
  have ho5 := own_base ho4 hb1.size
  clear hb3 hg3 ho2 hg2 hr2 hr1 ho4
  go_wp2
  go_ret2
  exact ⟨ss, A2, c2, r, rfl, ho5, hl2, hb4⟩
theorem drawLockPoint_any (A : Option Addr) (n c : Nat) (w : World) (h : Code8 w A n c) : Calls Tryd.prog 16 #[.slice A n c] w (PDrawS2 w) := by
  go_enter Tryd.func16, Tryd.ntmps16
  go_wp2_with fail
  refine (drawIsTwoPhase_any A n c _ h).mono ?_
  rintro e w1 ⟨ss, A2, c2, r, rfl, ho, hl, hb⟩
  clear h
  go_wp2
  go_ret2
  exact ⟨ss, A2, c2, r, rfl, ho, hl, hb⟩
end Go.Proofs.YtpbhphpmegcenaaDoor
