/- Contracts: spec.pathTo, spec.PathTo, spec.pathText, spec.PathText. -/
import Derived.Test.YtgofokifcplmoaaDoorTreI
import Derived.Test.YtgofokifcplmoaaDoorTreF
import Derived.Test.YtgofokifcplmoaaDoorTreJ
namespace Go.Proofs.YtgofokifcplmoaaDoor
open Go.RowKit
set_option maxRecDepth 100000
open Tl (Nd path validN validN_iff ValidN Grows pathText nameOf par)

theorem ints_append (xs ys : List Int) : ints (xs ++ ys) = ints xs ++ ints ys := by simp [ints]
theorem wpList_join_int {ops : Array Oper} {rest : List Oper} {o : Oper} {a : Act} {Q : Exit → Act → World → Prop} {W : World}
    (hgd : o.guard = none) (s x : Operand) (ho : o.op = .call { callee := .builtin .append, args := #[s, x], argTypes := #[29, 29] })
    {base n m B g : Nat} {A2 : Option Addr} {c c2 : Nat} {xs ys : List Int} (hs : a.eval s = .slice (some ⟨g, 0, none⟩) n c) (hown : W.ownsRow base 3 1 (.slice (some ⟨g, 0, none⟩) n c) n (ints xs))
    (hx : a.eval x = .slice A2 m c2) (hR : Rd W B 1 A2 m (ints ys)) (hlen : n + m ≤ 1000000) (hbase : base ≤ W.heap.size)
    (h : ∀ A' c' w', A' ≠ none → w'.ownsRow base 3 1 (.slice A' (n + m) c') (n + m) (ints (xs ++ ys)) → Below base W w' → wpList Tryd.prog ops Q rest (a.put o.dst (.slice A' (n + m) c')) w') :
    wpList Tryd.prog ops Q (o :: rest) a W := by
  obtain ⟨i0, hi, hz0, hz1, hz2⟩ := info_int
  refine wpList_join 29 3 i0 (.int .i64 0) 1 8 Tryd.underlying29 hi hz0 hz1 hz2 rfl (by decide) (by decide) hgd s x ho hs hown hx hR (ints_one ys) hlen hbase ?_
  intro A' c' w' hA ho' hb' _
  exact h A' c' w' hA (by rw [ints_append]; exact ho') hb'

set_option maxHeartbeats 1000000 in
theorem spathTo0_any (A : Option Addr) (c : Nat) (t : List Nd) (j : Nat) (w : World) (_hn : t.length ≤ 10000) (hV : ValidN t) (hj : j < t.length) (hr : Rd w w.heap.size 3 A t.length (nds t)) :
    Calls Tryd.prog 29 #[.slice A t.length c, .int .i64 j] w (PInts w (path t (j : Int))) := by
  have HG := Lib.hid hV.grows
  have HL := Lib.hid (path_len_le hV (i := (j : Int)) (by omega) (by omega))
  have hown0 := own_lit1 w 3 (.int .i64 (j : Int)) (base := w.heap.size) (Nat.le_refl _)
  have hb0 := (Below.refl w.heap.size w).alloc (Nat.le_refl _) (.cells #[.int .i64 (j : Int)] 3)
  go_enter Tryd.func29, Tryd.ntmps29
  go_wp2
  go_loopg [1, 5] j (fun gk s1 s2 wr => ∃ (acc : List Int) (A' : Option Addr) (c' : Nat), s1 = .int .i64 gk ∧ s2 = .slice A' acc.length c' ∧ gk < t.length ∧ Hid (path t (j : Int) = path t (par t (gk : Int)) ++ acc) ∧ acc.length ≤ 5 ∧
    wr.ownsRow w.heap.size 3 1 (.slice A' acc.length c') acc.length (ints acc) ∧ Below w.heap.size w wr)
  case atStart => exact ⟨[(j : Int)], _, 1, rfl, rfl, hj, (show _ = _ from Tl.path_step HG.out (by omega)), by simp, by simpa [ints] using hown0, hb0⟩
  case round =>
    clear hown0 hb0
    obtain ⟨acc, A', c', rfl, rfl, hgk, HP, hal, hown, hb⟩ := hrel
    by_cases hpos : (0 : Int) < (gk : Int)
    · obtain ⟨b, off, x, rfl, hbl, hx, hc1, hc2, hc3⟩ := (hr.below hb).nd hgk
      obtain ⟨pn, hpn, hp1⟩ : ∃ pn : Nat, x.parent = pn ∧ pn < gk := by
        rcases HG.out gk x hx with h1 | h1
        · omega
        · obtain ⟨pn, hpn⟩ := Int.eq_ofNat_of_zero_le h1.1
          exact ⟨pn, hpn, by omega⟩
      have HP2 : Hid (path t (j : Int) = path t (par t (pn : Int)) ++ ([(pn : Int)] ++ acc)) := by
        show _ = _
        rw [HP.out, Tl.par_of hx, hpn, Tl.path_step HG.out (i := (pn : Int)) (by omega), List.append_assoc]
      have hlen2 : ([(pn : Int)] ++ acc).length ≤ 5 := by
        have h1 := congrArg List.length HP2.out
        have h2 := HL.out.2
        rw [List.length_append] at h1
        omega
      have hbs := hb.size
      have hown2 := own_lit1 wr 3 (.int .i64 (pn : Int)) (base := w.heap.size) hbs
      have hro := (Rd.of_own hown).below ((Below.refl wr.heap.size wr).alloc (Nat.le_refl _) (.cells #[.int .i64 (pn : Int)] 3))
      have hb2 := hb.alloc hbs (.cells #[.int .i64 (pn : Int)] 3)
      rw [hpn] at hc1
      clear hx hpn hc2 hc3 hown
      go_wp2_with (at_builtin; refine wpList_join_int (xs := [(pn : Int)]) (ys := acc) rfl _ _ rfl rfl (by simpa [ints] using hown2) rfl hro (by omega) (by simp; omega) ?_; intro A2 c2 w2 hne ho2 hb3)
      have hb4 := hb2.trans hb3
      have hle : ([(pn : Int)] ++ acc).length = 1 + acc.length := by simp; omega
      rw [← hle] at ho2 ⊢
      clear hown2 hro hb2 hb3 hb
      go_wp2
      go_roundg pn
      case measure => omega
      case rel => exact ⟨_, A2, c2, rfl, rfl, by omega, HP2, hlen2, ho2, hb4⟩
    · have h0 : gk = 0 := by omega
      have HE : Hid (acc = path t (j : Int)) := by
        show _ = _
        rw [HP.out, h0]
        have hp := Tl.par_lt HG.out (i := ((0 : Nat) : Int)) (by omega)
        have e : par t ((0 : Nat) : Int) = -1 := by omega
        rw [e, Tl.path_neg]; rfl
      clear h0
      go_wp2
      go_ret
      rw [← HE.out]
      exact ⟨A', c', rfl, hown, hb⟩
end Go.Proofs.YtgofokifcplmoaaDoor
