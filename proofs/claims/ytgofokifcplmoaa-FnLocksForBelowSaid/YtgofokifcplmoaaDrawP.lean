/- The draws that are other draws: DrawMeeting, DrawPathTo, DrawPathText. -/
import Derived.Test.YtgofokifcplmoaaDrawN3
namespace Go.Proofs.Ytgofokifcplmoaa
open Go.RowKit
set_option maxRecDepth 100000
open Tl (Nd)

theorem drawMeeting_any (A : Option Addr) (n c : Nat) (w : World) (h : Code8 w A n c) : Calls Try.prog 18 #[.slice A n c] w (PDrawN3 w) := by
  go_enter Try.func18, Try.ntmps18
  go_wp2_with fail
  refine (drawIsAbove_any A n c _ h).mono ?_
  rintro e w1 ⟨t, A2, c2, x, y, rfl, ht, hx, hy, hb⟩
  go_wp2
  refine bodyPost_ret (v := .tuple #[.slice A2 t.length c2, .int .i64 x, .int .i64 y]) (by simp [results, Try.results18, go_sem]) rfl ?_
  exact ⟨t, A2, c2, x, y, rfl, ht, hx, hy, hb⟩
theorem drawPathTo_any (A : Option Addr) (n c : Nat) (w : World) (h : Code8 w A n c) : Calls Try.prog 22 #[.slice A n c] w (PDrawN2 w) := by
  go_enter Try.func22, Try.ntmps22
  go_wp2_with fail
  refine (drawDropNode_any A n c _ h).mono ?_
  rintro e w1 ⟨t, A2, c2, x, rfl, ht, hx, hb⟩
  go_wp2
  refine bodyPost_ret (v := .tuple #[.slice A2 t.length c2, .int .i64 x]) (by simp [results, Try.results22, go_sem]) rfl ?_
  exact ⟨t, A2, c2, x, rfl, ht, hx, hb⟩
theorem drawPathText_any (A : Option Addr) (n c : Nat) (w : World) (h : Code8 w A n c) : Calls Try.prog 37 #[.slice A n c] w (PDrawN2 w) := by
  go_enter Try.func37, Try.ntmps37
  go_wp2_with fail
  refine (drawDropNode_any A n c _ h).mono ?_
  rintro e w1 ⟨t, A2, c2, x, rfl, ht, hx, hb⟩
  go_wp2
  refine bodyPost_ret (v := .tuple #[.slice A2 t.length c2, .int .i64 x]) (by simp [results, Try.results37, go_sem]) rfl ?_
  exact ⟨t, A2, c2, x, rfl, ht, hx, hb⟩
end Go.Proofs.Ytgofokifcplmoaa
