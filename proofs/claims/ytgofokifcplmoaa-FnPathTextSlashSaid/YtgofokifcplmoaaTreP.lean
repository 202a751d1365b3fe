/- Contracts: spec.pathText, spec.PathText. -/
import Derived.Test.YtgofokifcplmoaaTreK
import Derived.Test.YtgofokifcplmoaaPTree3
import Derived.Laws.Concat
namespace Go.Proofs.Ytgofokifcplmoaa
open Go.RowKit
set_option maxRecDepth 100000
open Tl (Nd path validN validN_iff ValidN Grows pathText nameOf)

theorem bytes_app (a b : List UInt8) : (⟨a.toArray⟩ : ByteArray) ++ ⟨b.toArray⟩ = ⟨(a ++ b).toArray⟩ := by
  apply ByteArray.ext
  rw [ByteArray.data_append]
  simp
theorem add_bytes (P : Program) (a b : List UInt8) (h : a.length + b.length ≤ 100000000) (w : World) : (Op.stringOp .add ⟨a.toArray⟩ ⟨b.toArray⟩).run P w = .ok (.string ⟨(a ++ b).toArray⟩) w := by
  have h1 := run_string_add_sum (P := P) (w := w) ⟨a.toArray⟩ ⟨b.toArray⟩ (by show a.toArray.size + b.toArray.size ≤ _; simp; omega)
  rw [bytes_app] at h1
  exact h1
theorem textN_in {t : List Nd} {i : Int} (h : isN t i = true) : textN t i = pathText t i := by simp [textN, h]
theorem textN_no {t : List Nd} {i : Int} (h : isN t i = false) : textN t i = [] := by simp [textN, h]

set_option maxHeartbeats 1000000 in
theorem spathText0_any (A : Option Addr) (c : Nat) (t : List Nd) (i : Nat) (w : World) (hn : t.length ≤ 10000) (hN : isN t (i : Int) = true) (hS : Short t) (hr : Rd w w.heap.size 3 A t.length (nds t)) :
    Calls Try.prog 70 #[.slice A t.length c, .int .i64 i] w fun e w' => e = .returned (.string ⟨(pathText t (i : Int)).toArray⟩) ∧ Below w.heap.size w w' := by
  have HS := Lib.hid hS
  have HN := Lib.hid hN
  have hV := validN_iff.1 (isN_iff.1 hN).2
  have hil := (isN_iff.1 hN).1.2
  clear hN
  go_enter Try.func70, Try.ntmps70
  go_wp2_with fail
  refine (spathTo0_any A c t i _ hn hV (by omega) hr).mono ?_
  rintro e w1 ⟨A1, c1, rfl, ho1, hb1⟩
  have hl5 := pathN_len t i
  have hpe : pathN t (i : Int) = path t (i : Int) := by simp [pathN, HN.out]
  rw [hpe] at hl5
  have hr1 := hr.step hb1
  have hp1 := Rd.of_own ho1
  obtain ⟨ps, hps⟩ : ∃ ps, path t (i : Int) = ps := ⟨_, rfl⟩
  have hpos : 1 ≤ ps.length := by rw [← hps]; exact List.length_pos_iff.2 (Tl.path_ne_nil hV.grows (by omega))
  rw [hps] at hl5 hp1 ⊢
  have HPS := Lib.hid hps
  clear hpe hps ho1 hr hV
  go_wp2
  go_loopg [5, 7] ps.length (fun gk sv kv wr => ∃ (k : Nat) (acc : List UInt8), k + 1 ≤ ps.length ∧ gk = ps.length - k ∧ sv = .string ⟨acc.toArray⟩ ∧ kv = .int .i64 ((k + 1 : Nat) : Int) ∧ Hid (acc = textOf t (ps.tail.take k)) ∧ acc.length ≤ k * 3000000 ∧ w1 = wr)
  case atStart => exact ⟨0, [], by omega, rfl, rfl, rfl, (show _ = _ by simp [textOf]), by simp, rfl⟩
  case round =>
    obtain ⟨k, acc, hk, rfl, rfl, rfl, HA, hal, rfl⟩ := hrel
    by_cases hlt : k + 1 < ps.length
    · obtain ⟨b, off, z, rfl, hbl, hz, hcz⟩ := hp1.int hlt
      obtain ⟨j, x, rfl, hj, hx⟩ := path_nodes HN.out (by rw [HPS.out]; exact hz)
      obtain ⟨b2, off2, y, rfl, hbl2, hy, hc1, hc2, hc3⟩ := hr1.nd hj
      obtain rfl := Option.some.inj (hy.symm.trans hx)
      have hsz : y.name.length ≤ 2000000 := HS.out.get hx
      have hadd1 := fun w : World => add_bytes Try.prog acc [47] (by simp; omega) w
      have hadd2 := fun w : World => add_bytes Try.prog (acc ++ [47]) y.name (by simp; omega) w
      have HA2 : Hid (acc ++ 47 :: y.name = textOf t (ps.tail.take (k + 1))) := by
        show _ = _
        rw [tail_take_succ hz, textOf_snoc, HA.out, nameOf_get hx]
      clear hz hx hy hc1 hc3
      go_wp2
      clear hadd1 hadd2
      go_roundg (ps.length - (k + 1))
      case measure => omega
      case rel => exact ⟨k + 1, _, by omega, rfl, rfl, by go_num, HA2, by simp; omega, rfl⟩
    · have hke : k + 1 = ps.length := by omega
      have HT : Hid (textOf t ps.tail = acc) := by
        show _ = _
        rw [HA.out, List.take_of_length_le (by rw [List.length_tail]; omega)]
      clear hke
      by_cases h0 : i = 0
      · have h0' : ((i : Int) == 0) = true := by simp [h0]
        have HE : Hid (pathText t (i : Int) = [47]) := by
          show _ = _
          unfold pathText
          rw [if_pos (by omega)]
        clear h0
        go_wp2
        go_ret
        rw [HE.out]
        exact ⟨rfl, hb1⟩
      · have h0' : ((i : Int) == 0) = false := by rw [beq_eq_false_iff_ne]; omega
        have HE : Hid (pathText t (i : Int) = acc) := by
          show _ = _
          unfold pathText
          rw [if_neg (by omega), HPS.out]
          exact HT.out
        clear h0
        go_wp2
        go_ret
        rw [HE.out]
        exact ⟨rfl, hb1⟩
theorem spathText_any (A : Option Addr) (c : Nat) (t : List Nd) (i : Int) (w : World) (hn : t.length ≤ 10000) (hcap : t.length ≤ c) (hS : Short t) (hr : Rd w w.heap.size 3 A t.length (nds t)) :
    Calls Try.prog 39 #[.slice A t.length c, .int .i64 i] w fun e w' => e = .returned (.string ⟨(textN t i).toArray⟩) ∧ Below w.heap.size w w' := by
  go_enter Try.func39, Try.ntmps39
  go_wp2_with fail
  refine (svalidTree0_any A c t _ (by omega) hcap hS hr).mono ?_
  rintro e w1 ⟨rfl, hb1⟩
  have hr1 := hr.step hb1
  cases hv : validN t
  · have HE : Hid (textN t i = []) := by show _ = _; simp [textN, isN, hv]
    clear hv
    go_wp2
    go_ret
    rw [HE.out]
    exact ⟨rfl, hb1⟩
  · have HV := Lib.hid hv
    clear hv
    go_wp2_with fail
    refine (inRange_any _ _ _ _).mono ?_
    rintro e w2 ⟨rfl, rfl⟩
    by_cases hi : 0 ≤ i ∧ i ≤ (t.length : Int) - 1
    · have hN : isN t i = true := by simp [isN, inT, HV.out, hi]
      have HE := Lib.hid (textN_in hN)
      have HN := Lib.hid hN
      rw [decide_eq_true hi]
      obtain ⟨j, rfl, hj⟩ := isN_nat hN
      clear hi hN
      go_wp2_with fail
      refine (spathText0_any A c t j _ hn HN.out hS hr1).mono ?_
      rintro e w3 ⟨rfl, hb3⟩
      have hb4 := below_then hb1 hb3 hb1.size
      go_wp2
      go_ret
      rw [HE.out]
      exact ⟨rfl, hb4⟩
    · have HE : Hid (textN t i = []) := by show _ = _; simp [textN, isN, inT, hi]
      rw [decide_eq_false hi]
      clear hi
      go_wp2
      go_ret
      rw [HE.out]
      exact ⟨rfl, hb1⟩
end Go.Proofs.Ytgofokifcplmoaa
