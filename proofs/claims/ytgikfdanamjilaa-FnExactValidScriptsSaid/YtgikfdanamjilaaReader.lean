/- Contracts of the reader: newReader, pick, one. -/
import Derived.Test.YtgikfdanamjilaaOwn
import Derived.Laws.BitsAllLaws
namespace Go.Proofs.Ytgikfdanamjilaa
open Go.RowKit

def bytesV (bs : List Int) : List Value := bs.map (Value.int .u8)
/-- The code that a law gets: bytes. -/
structure Code8 (w : World) (A : Option Addr) (n c : Nat) : Prop where
  le : n ≤ 1048576
  cap : n ≤ c
  byte : ∀ j, j < n → ∃ b off v, A = some ⟨b, off, none⟩ ∧ b < w.heap.size ∧ w.cell? ⟨b, off + j, none⟩ = some (.int .u8 v) ∧ 0 ≤ v ∧ v < 256

def PReader (w : World) (e : Ending) (w' : World) : Prop := ∃ g, e = .returned (.pointer (some ⟨g, 0, none⟩)) ∧ Reader w' g 0 ∧ w.heap.size ≤ g ∧ Below w.heap.size w w'

theorem Code8.reader {w : World} {A : Option Addr} {n c : Nat} (h : Code8 w A n c) {m : Nat} (hm : m ≤ n) (hm2 : m ≤ 2000) : Reader (w.alloc (.cells #[.slice A m c, .int .i64 0] 58)) w.heap.size 0 :=
  ⟨A, m, c, hm2, heap_alloc_new w _, fun j hj => by
    obtain ⟨b, off, v, h1, h2, h3, h4⟩ := h.byte j (by omega)
    exact ⟨b, off, v, h1, h2, (World.cell?_alloc_lt w _ ⟨b, off + j, none⟩ h2).trans h3, h4⟩⟩

theorem newReader_any (A : Option Addr) (n c : Nat) (w : World) (h : Code8 w A n c) : Calls Try.prog 14 #[.slice A n c] w (PReader w) := by
  have hle := h.le
  have hcap := h.cap
  by_cases hn : n ≤ 2000
  · have h1 := h.reader (Nat.le_refl n) hn
    clear h
    go_enter Try.func14, Try.ntmps14
    go_wp2
    go_ret
    exact ⟨_, rfl, h1, Nat.le_refl _, (Below.refl _ _).alloc (Nat.le_refl _) _⟩
  · have h1 := h.reader (m := 2000) (by omega) (Nat.le_refl _)
    obtain ⟨b, off, v, rfl, _⟩ := h.byte 0 (by omega)
    clear h
    have h2 : 2000 ≤ c := by omega
    go_enter Try.func14, Try.ntmps14
    go_wp2
    go_ret
    exact ⟨_, rfl, h1, Nat.le_refl _, (Below.refl _ _).alloc (Nat.le_refl _) _⟩

def PPick (w : World) (g p : Nat) (n : Int) (e : Ending) (w' : World) : Prop := ∃ r : Int, e = .returned (.int .i64 r) ∧ 0 ≤ r ∧ (1 ≤ n → r < n) ∧ (n < 1 → r = 0) ∧ Reader w' g (p + 1) ∧ w.grownBy w' (some g)

theorem grown_setCell (w : World) (a : Addr) (v : Value) : w.grownBy (w.setCell a v) (some a.block) :=
  ⟨rfl, rfl, rfl, by simp [World.setCell], fun k _ hne => Below.heap_setCell w a v k (fun e => hne (by rw [e]))⟩

theorem Reader.next {w : World} {g p : Nat} (h : Reader w g p) : Reader (w.setCell ⟨g, 1, none⟩ (.int .i64 ((p : Int) + 1))) g (p + 1) := by
  obtain ⟨A, n, c, hn, hh, hc⟩ := h
  refine ⟨A, n, c, hn, ?_, fun j hj => ?_⟩
  · simp [World.setCell, Array.getElem?_modify, hh]
  · obtain ⟨b, off, v, h1, h2, h3, h4⟩ := hc j hj
    refine ⟨b, off, v, h1, h2, ?_, h4⟩
    rw [World.cell?_setCell_other _ _ _ _ (by intro e; injection e with e1; omega)]
    exact h3
theorem Reader.drewN {w : World} {g p : Nat} (h : Reader w g p) (k : Nat) : Reader (w.drewN k) g p := h

theorem ofInt_i64 (a : Nat) (ha : a < 9223372036854775808) : (BitVec.ofInt 64 (a : Int)).toNat = a := by
  rw [BitVec.ofInt_natCast, BitVec.toNat_ofNat]; exact Nat.mod_eq_of_lt (by omega)
theorem i64_xor_nat (a b : Nat) (ha : a < 9223372036854775808) (hb : b < 9223372036854775808) : bits .xor .i64 (a : Int) (b : Int) = ((a ^^^ b : Nat) : Int) := by
  have hx : a ^^^ b < 2 ^ 63 := Nat.xor_lt_two_pow (by omega) (by omega)
  show IntKind.i64.wrap ((BitVec.ofInt 64 (a : Int) ^^^ BitVec.ofInt 64 (b : Int)).toNat : Int) = _
  rw [BitVec.toNat_xor, ofInt_i64 a ha, ofInt_i64 b hb, IntKind.wrap_i64]
  omega
theorem xor_nonneg (x : Int) (h0 : 0 ≤ x) (h1 : x ≤ 1000000000) : 0 ≤ bits .xor .i64 x (x / 64) := by
  obtain ⟨a, rfl⟩ := Int.eq_ofNat_of_zero_le h0
  have e : ((a : Int) / 64) = ((a / 64 : Nat) : Int) := by omega
  rw [e, i64_xor_nat a (a / 64) (by omega) (by omega)]
  omega

theorem pick_any (g p : Nat) (n : Int) (w : World) (hr : Reader w g p) (hp : p ≤ 1000000) (hn : n ≤ 1000000) : Calls Try.prog 28 #[.pointer (some ⟨g, 0, none⟩), .int .i64 n] w (PPick w g p n) := by
  have hx := hr.next
  have hgr := grown_setCell w ⟨g, 1, none⟩ (.int .i64 ((p : Int) + 1))
  obtain ⟨A, m, c, hm, hh, hc⟩ := hr
  have c0 := cell_of_row w g 0 _ _ _ hh
  have c1 := cell_of_row w g 1 _ _ _ hh
  have hfz : w.frozen? ⟨g, 1, none⟩ = false := by simp [World.frozen?, hh]
  simp at c0 c1
  clear hh
  by_cases h1 : n < 1
  · clear hc
    go_enter Try.func28, Try.ntmps28
    go_wp2
    go_ret
    exact ⟨0, rfl, by omega, by omega, fun _ => rfl, hx, hgr⟩
  · by_cases h2 : m = 0
    · subst h2
      have h2' : ((0 : Int) == 0) = true := rfl
      clear hc
      go_enter Try.func28, Try.ntmps28
      go_wp2
      go_ret
      exact ⟨0, rfl, by omega, by omega, fun _ => rfl, hx, hgr⟩
    · have h2' : ((m : Int) == 0) = false := by simp; omega
      by_cases h3 : p < m
      · obtain ⟨b, off, v, rfl, hbg, hcv, hv0, hv1⟩ := hc p h3
        have hcv2 : (w.setCell ⟨g, 1, none⟩ (.int .i64 ((p : Int) + 1))).cell? ⟨b, off + p, none⟩ = some (.int .u8 v) := by
          rw [World.cell?_setCell_other _ _ _ _ (by intro e; injection e with e1; omega)]
          exact hcv
        clear hc hcv
        go_enter Try.func28, Try.ntmps28
        go_wp2
        go_ret
        exact ⟨v % n, rfl, Int.emod_nonneg _ (by omega), fun _ => Int.emod_lt_of_pos _ (by omega), fun h => by omega, hx, hgr⟩
      · have hm0 : 0 < m := Nat.pos_of_ne_zero h2
        obtain ⟨b, off, v1, rfl, hbg, hcv1, hv0, hv1⟩ := hc (p % m) (Nat.mod_lt _ hm0)
        obtain ⟨b', off', v2, hA, hbg', hcv2, hw0, hw1⟩ := hc ((p * 7 + 3) % m) (Nat.mod_lt _ hm0)
        injection hA with hA
        injection hA with e1 e2
        subst e1 e2
        have hd1 : (w.setCell ⟨g, 1, none⟩ (.int .i64 ((p : Int) + 1))).cell? ⟨b, off + p % m, none⟩ = some (.int .u8 v1) := by
          rw [World.cell?_setCell_other _ _ _ _ (by intro e; injection e with e1; omega)]
          exact hcv1
        have hd2 : (w.setCell ⟨g, 1, none⟩ (.int .i64 ((p : Int) + 1))).cell? ⟨b, off + (p * 7 + 3) % m, none⟩ = some (.int .u8 v2) := by
          rw [World.cell?_setCell_other _ _ _ _ (by intro e; injection e with e1; omega)]
          exact hcv2
        have hl1 : p % m < m := Nat.mod_lt _ hm0
        have hl2 : (p * 7 + 3) % m < m := Nat.mod_lt _ hm0
        have hl3 : (p : Int) % (m : Int) < (m : Int) := Int.emod_lt_of_pos _ (by omega)
        have hl4 : ((p : Int) * 7 + 3) % (m : Int) < (m : Int) := Int.emod_lt_of_pos _ (by omega)
        have hl5 : 0 ≤ (p : Int) % (m : Int) := Int.emod_nonneg _ (by omega)
        have hl6 : 0 ≤ ((p : Int) * 7 + 3) % (m : Int) := Int.emod_nonneg _ (by omega)
        have hl7 : 0 ≤ (p : Int) / (m : Int) := Int.ediv_nonneg (by omega) (by omega)
        have hl8 : (p : Int) / (m : Int) ≤ 1000000 := Int.le_trans (Int.ediv_le_self _ (by omega)) (by omega)
        clear hc hcv1 hcv2
        go_enter Try.func28, Try.ntmps28
        go_wp2
        go_quiet (fail)
        go_wp2
        go_ret
        have hq := xor_nonneg (v1 * 131 + v2 * 1117 + (p : Int) * 29 + (p : Int) / (m : Int) * 53) (by omega) (by omega)
        exact ⟨_, rfl, Int.tmod_nonneg _ hq, fun h => Int.tmod_lt_of_pos _ (by omega), fun h => by omega, hx.drewN _, grown_drewN hgr _⟩

def POne (w : World) (g p : Nat) (xs : List Int) (e : Ending) (w' : World) : Prop := ∃ x : Int, e = .returned (.int .i64 x) ∧ x ∈ xs ∧ Reader w' g (p + 1) ∧ w.grownBy w' (some g)

theorem one_any (g p : Nat) (A : Option Addr) (c : Nat) (xs : List Int) (w : World) (hr : Reader w g p) (hp : p ≤ 1000000) (hx0 : 0 < xs.length) (hx1 : xs.length ≤ 1000)
    (hx : ∀ k, k < xs.length → ∃ b off x, A = some ⟨b, off, none⟩ ∧ b < w.heap.size ∧ b ≠ g ∧ xs[k]? = some x ∧ w.cell? ⟨b, off + k, none⟩ = some (.int .i64 x)) :
    Calls Try.prog 30 #[.pointer (some ⟨g, 0, none⟩), .slice A xs.length c] w (POne w g p xs) := by
  go_enter Try.func30, Try.ntmps30
  go_wp2_with fail
  refine (pick_any g p (xs.length : Int) _ hr hp (by omega)).mono ?_
  rintro e w1 ⟨r, rfl, hr0, hr1, _, hrd, hg⟩
  obtain ⟨k, rfl⟩ := Int.eq_ofNat_of_zero_le hr0
  have hk : k < xs.length := by have := hr1 (by omega); omega
  obtain ⟨b, off, x, rfl, hb, hne, hxk, hc⟩ := hx k hk
  have hc1 := hg.cell hc (by intro e; injection e with e; exact hne e)
  clear hx hr1 hr0 hc
  go_wp2
  go_ret
  exact ⟨x, rfl, List.mem_of_getElem? hxk, hrd, hg⟩
end Go.Proofs.Ytgikfdanamjilaa
