/- Contracts: slices.Clone, slices.IndexFunc, slices.DeleteFunc at waits, with the predicate of VictimsOf. -/
import Derived.Test.YtfhofincbekadaaWaitsA
import Derived.Test.YtfhofincbekadaaOwn2
import Derived.Lib.SliceRun
namespace Go.Proofs.Ytfhofincbekadaa
open Go.RowKit
open Tl (Wt okW validW validW_iff dropW)

theorem cloneW_any (A : Option Addr) (c : Nat) (ws : List Wt) (w : World) (hn : ws.length ≤ 100000) (hr : Rd w w.heap.size 2 A ws.length (wts ws)) :
    Calls Try.prog 53 #[.slice A ws.length c] w (PWts w ws) := by
  cases A with
  | none =>
    have h0 : ws = [] := by
      cases hws : ws with
      | nil => rfl
      | cons x r =>
        obtain ⟨b, off, y, e, _⟩ := hr.wt (k := 0) (by rw [hws]; simp)
        cases e
    subst h0
    have hq := fun (w : World) => Go.Lib.run_eql_slice_nil (P := Try.prog) w 34 40 none 0 c 0 0 Try.underlying34
    go_enter Try.func53, Try.ntmps53
    go_wp2
    go_ret
    exact ⟨none, 0, rfl, World.ownsRow_nil _ _ _ _, Below.refl _ _⟩
  | some ad =>
    have hb0 := (Below.refl w.heap.size w).alloc (Nat.le_refl _) (.cells #[] 40)
    have hr1 := hr.below hb0
    have hown := own_lit0 w 40 2 (Nat.le_refl _)
    obtain ⟨i0, hi, hz0, hz1, hz2⟩ := info_wait
    have hq := fun (w : World) => Go.Lib.run_eql_slice_nil (P := Try.prog) w 34 40 (some ad) ws.length c 0 0 Try.underlying34
    have HI := Lib.hid hi
    have HZ0 := Lib.hid hz0
    have HZ1 := Lib.hid hz1
    have HZ2 := Lib.hid hz2
    clear hr hi hz0 hz1 hz2
    go_enter Try.func53, Try.ntmps53
    go_wp2_with (at_builtin; refine wpList_join 34 40 i0 (.agg #[.int .i64 0, .int .i64 0]) 2 16 Try.underlying34 HI.out HZ0.out HZ1.out HZ2.out rfl (by decide) (by decide) rfl _ _ rfl rfl hown rfl hr1 (wts_one ws) (by omega) (by simp) ?_; intro A' c' w' _ ho' hb' _)
    have hb2 := hb0.trans hb'
    simp only [Nat.zero_add, List.nil_append] at ho'
    clear hb0 hb' hr1 hown
    go_wp2
    go_ret
    exact ⟨A', c', by simp, ho', hb2⟩

def hitW (v : Int) (x : Wt) : Bool := decide (x.who = v) || decide (x.to = v)
theorem vicPred_any (x : Wt) (v : Int) (B : Nat) (w : World) (hB : B < w.heap.size) (hc : w.cell? ⟨B, 0, none⟩ = some (.int .i64 v)) :
    Calls Try.prog 55 #[.agg #[.int .i64 x.who, .int .i64 x.to], .pointer (some ⟨B, 0, none⟩)] w (PBool w (hitW v x)) := by
  have hne : B ≠ w.heap.size := by omega
  have hb := (Below.refl w.heap.size w).alloc (Nat.le_refl _) (.cells #[.int .i64 x.who, .int .i64 x.to] 40)
  by_cases h1 : x.who = v
  · have h1' : (x.who == v) = true := by simp [h1]
    have hh : hitW v x = true := by simp [hitW, h1]
    rw [hh]
    clear h1 hh
    go_enter Try.func55, Try.ntmps55
    go_wp2
    go_ret
    exact ⟨rfl, hb⟩
  · have h1' : (x.who == v) = false := by simp [h1]
    by_cases h2 : x.to = v
    · have h2' : (x.to == v) = true := by simp [h2]
      have hh : hitW v x = true := by simp [hitW, h2]
      rw [hh]
      clear h1 h2 hh
      go_enter Try.func55, Try.ntmps55
      go_wp2
      go_ret
      exact ⟨rfl, hb⟩
    · have h2' : (x.to == v) = false := by simp [h2]
      have hh : hitW v x = false := by simp [hitW, h1, h2]
      rw [hh]
      clear h1 h2 hh
      go_enter Try.func55, Try.ntmps55
      go_wp2
      go_ret
      exact ⟨rfl, hb⟩

/-- The place of the first hit. -/
def PIdx (w : World) (v : Int) (ws : List Wt) (e : Ending) (w' : World) : Prop :=
  ∃ k : Nat, e = .returned (.int .i64 k) ∧ (∃ x, ws[k]? = some x ∧ hitW v x = true) ∧ (∀ x ∈ ws.take k, hitW v x = false) ∧ Below w.heap.size w w'
theorem idxFuncW_any (A : Option Addr) (c : Nat) (ws : List Wt) (v : Int) (B : Nat) (w : World) (hn : ws.length ≤ 100000) (hr : Rd w w.heap.size 2 A ws.length (wts ws)) (hB : B < w.heap.size) (hc : w.cell? ⟨B, 0, none⟩ = some (.int .i64 v))
    (hsome : ∃ x ∈ ws, hitW v x = true) :
    Calls Try.prog 60 #[.slice A ws.length c, .func (.func 55) #[] #[.pointer (some ⟨B, 0, none⟩)]] w (PIdx w v ws) := by
  go_enter Try.func60, Try.ntmps60
  go_wp2
  go_loopg [5, 8] ws.length (fun gk _ s8 wr => ∃ k : Nat, k ≤ ws.length ∧ gk = ws.length - k ∧ s8 = .int .i64 k ∧ Hid (∀ x ∈ ws.take k, hitW v x = false) ∧ Below w.heap.size w wr)
  case atStart => exact ⟨0, Nat.zero_le _, rfl, rfl, (show ∀ x ∈ ws.take 0, hitW v x = false by simp), Below.refl _ _⟩
  case round =>
    obtain ⟨k, hk, rfl, rfl, HM, hb⟩ := hrel
    by_cases hlt : k < ws.length
    · obtain ⟨b, off, x, rfl, _, hx, hc1, hc2⟩ := (hr.below hb).wt hlt
      have hcw : wr.cell? ⟨B, 0, none⟩ = some (.int .i64 v) := (hb.cell (p := ⟨B, 0, none⟩) hB).trans hc
      have hBw : B < wr.heap.size := Nat.lt_of_lt_of_le hB hb.size
      have HX := Lib.hid hx
      clear hr hx
      go_wp2_with fail
      refine (vicPred_any x v B _ hBw hcw).mono ?_
      rintro e w1 ⟨rfl, hb1⟩
      have hb2 := hb.trans (hb1.mono hb.size)
      cases hh : hitW v x
      · have HH := Lib.hid hh
        clear hh hc1 hc2 hcw
        go_wp2
        go_roundg (ws.length - (k + 1))
        case measure => omega
        case rel => exact ⟨k + 1, by omega, rfl, by go_num, take_ok (p := fun x => hitW v x = false) HX.out HM.out HH.out, hb2⟩
      · have HH := Lib.hid hh
        clear hh hc1 hc2 hcw
        go_wp2
        go_ret
        exact ⟨k, rfl, ⟨x, HX.out, HH.out⟩, HM.out, hb2⟩
    · exfalso
      obtain ⟨x, hx, hh⟩ := hsome
      have := HM.out x (by rw [take_all hlt]; exact hx)
      rw [this] at hh
      cases hh
end Go.Proofs.Ytfhofincbekadaa
