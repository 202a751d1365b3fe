/- The laws package's own types: their sizes; copies of one struct and of one row. -/
import Derived.Test.YtgikfdanamjilaaSc
import Derived.Test.YtgikfdanamjilaaDws2
import Derived.OwnWalk
namespace Go.Proofs.Ytgikfdanamjilaa
open Go.RowKit
set_option maxRecDepth 100000
open Tl (Do Nd)

theorem szNode_any (p v L : Int) (s : ByteArray) (w : World) (h0 : 0 ≤ L) (h1 : L ≤ 1048576) (hs : s.size ≤ 9223372036854775807) :
    Calls Try.prog 21 #[.agg #[.int .i64 p, .string s, .int .i64 v], .int .i64 L] w fun e w' => ∃ r : Int, e = .returned (.int .i64 r) ∧ Below w.heap.size w w' ∧ r ≤ L ∧ (0 ≤ r → (s.size : Int) ≤ L) := by
  have hb := (Below.refl w.heap.size w).alloc (Nat.le_refl _) (.cells #[.int .i64 p, .string s, .int .i64 v] 49)
  by_cases hlt : L - (s.size : Int) < 0
  · go_enter Try.func21, Try.ntmps21
    go_wp2
    go_ret
    exact ⟨-1, rfl, hb, by omega, by omega⟩
  · go_enter Try.func21, Try.ntmps21
    go_wp2
    go_ret
    exact ⟨L - (s.size : Int), rfl, hb, by omega, fun _ => by omega⟩

theorem szDoS_any (A : Option Addr) (n c : Nat) (L : Int) (w : World) (h0 : 0 ≤ L) (h1 : L ≤ 1048576) (hs : n ≤ 9223372036854775807) :
    Calls Try.prog 22 #[.slice A n c, .int .i64 L] w fun e w' => ∃ r : Int, e = .returned (.int .i64 r) ∧ Below w.heap.size w w' ∧ r ≤ L ∧ (0 ≤ r → (n : Int) ≤ L) := by
  by_cases hlt : L - (n : Int) < 0
  · go_enter Try.func22, Try.ntmps22
    go_wp2
    go_ret
    exact ⟨-1, rfl, Below.refl _ _, by omega, by omega⟩
  · go_enter Try.func22, Try.ntmps22
    go_wp2
    go_ret
    exact ⟨L - (n : Int), rfl, Below.refl _ _, by omega, fun _ => by omega⟩

theorem toNode_any (p v : Int) (s : ByteArray) (w : World) :
    Calls Try.prog 23 #[.agg #[.int .i64 p, .string s, .int .i64 v]] w fun e w' => e = .returned (.agg #[.int .i64 p, .string s, .int .i64 v]) ∧ Below w.heap.size w w' := by
  have hb := (((Below.refl w.heap.size w).alloc (Nat.le_refl _) (.cells #[.int .i64 p, .string s, .int .i64 v] 49)).alloc (by simp) (.cells #[.int .i64 p, .string s, .int .i64 v] 52)).alloc (by simp; omega) (.cells #[.int .i64 p, .string s, .int .i64 v] 52)
  go_enter Try.func23, Try.ntmps23
  go_wp2
  refine bodyPost_ret (v := .agg #[.int .i64 p, .string s, .int .i64 v]) (by simp [results, Try.results23, go_sem]) rfl ?_
  exact ⟨rfl, hb⟩
theorem toDo_any (p v : Int) (w : World) :
    Calls Try.prog 35 #[.agg #[.int .i64 p, .int .i64 v]] w fun e w' => e = .returned (.agg #[.int .i64 p, .int .i64 v]) ∧ Below w.heap.size w w' := by
  have hb := (((Below.refl w.heap.size w).alloc (Nat.le_refl _) (.cells #[.int .i64 p, .int .i64 v] 68)).alloc (by simp) (.cells #[.int .i64 p, .int .i64 v] 46)).alloc (by simp; omega) (.cells #[.int .i64 p, .int .i64 v] 46)
  go_enter Try.func35, Try.ntmps35
  go_wp2
  refine bodyPost_ret (v := .agg #[.int .i64 p, .int .i64 v]) (by simp [results, Try.results35, go_sem]) rfl ?_
  exact ⟨rfl, hb⟩
theorem eqNode_any (p v : Int) (s : ByteArray) (w : World) :
    Calls Try.prog 25 #[.agg #[.int .i64 p, .string s, .int .i64 v], .agg #[.int .i64 p, .string s, .int .i64 v]] w fun e w' => e = .returned (.bool true) ∧ Below w.heap.size w w' := by
  have hb := ((Below.refl w.heap.size w).alloc (Nat.le_refl _) (.cells #[.int .i64 p, .string s, .int .i64 v] 52)).alloc (by simp) (.cells #[.int .i64 p, .string s, .int .i64 v] 52)
  go_enter Try.func25, Try.ntmps25
  go_wp2
  go_ret
  exact ⟨rfl, hb⟩
theorem eqDo_any (p v : Int) (w : World) :
    Calls Try.prog 36 #[.agg #[.int .i64 p, .int .i64 v], .agg #[.int .i64 p, .int .i64 v]] w fun e w' => e = .returned (.bool true) ∧ Below w.heap.size w w' := by
  have hb := ((Below.refl w.heap.size w).alloc (Nat.le_refl _) (.cells #[.int .i64 p, .int .i64 v] 46)).alloc (by simp) (.cells #[.int .i64 p, .int .i64 v] 46)
  go_enter Try.func36, Try.ntmps36
  go_wp2
  go_ret
  exact ⟨rfl, hb⟩
end Go.Proofs.Ytgikfdanamjilaa
