/- The walk of FnVictimsOfSome. -/
import Derived.Test.YtfhofincbekadaaVicKit
import Derived.IntWalk
namespace Go.Proofs.Ytfhofincbekadaa
open Go.RowKit
open Tl (Wt okW validW validW_iff dropW victims deadOf mem_deadOf)

theorem vicL_dead {ws : List Wt} : ∀ v ∈ vicL ws, v ∈ dlL ws := by
  intro v hv
  unfold vicL at hv
  split at hv
  · rename_i h
    unfold dlL
    rw [h, if_pos rfl]
    exact Tl.victims_dead _ ws v hv
  · simp at hv
theorem vicL_nodup (ws : List Wt) : (vicL ws).Nodup := by
  unfold vicL
  split
  · exact Tl.victims_nodup _ ws
  · simp
/-- If there are victims: the first is the greatest one of the deadlock, and somebody of it stays. -/
theorem vicL_some {ws : List Wt} (h : vicL ws ≠ []) : (vicL ws).length < (dlL ws).length ∧ ∃ vs ds v, vicL ws = v :: vs ∧ dlL ws = ds ++ [v] := by
  have hv : validW ws = true := by
    cases hv : validW ws with
    | true => rfl
    | false => exact absurd (by unfold vicL; rw [hv]; rfl) h
  rw [vicL_valid hv] at h ⊢
  rw [dlL_valid hv]
  have hd : deadOf ws ≠ [] := fun hd => h ((victims_nil_iff ws).2 hd)
  refine ⟨?_, ?_⟩
  · obtain ⟨t, ht, hn⟩ := Tl.victims_stay ws.length ws (Nat.le_refl _) (validW_iff.1 hv).2 hd
    exact Tl.length_lt_of_sub (Tl.victims_nodup _ ws) (Tl.victims_dead _ ws) ht hn
  · rcases List.eq_nil_or_concat (deadOf ws) with he | ⟨ds, v, he⟩
    · exact absurd he hd
    · rw [List.concat_eq_append] at he
      obtain ⟨x, hx, _⟩ := dead_hit he
      have hl : 0 < ws.length := List.length_pos_of_mem hx
      obtain ⟨m, hm⟩ : ∃ m, ws.length = m + 1 := ⟨ws.length - 1, by omega⟩
      rw [hm, victims_step he]
      exact ⟨_, ds, v, rfl, he⟩

set_option maxHeartbeats 1000000 in
set_option maxRecDepth 100000 in
theorem law_FnVictimsOfSome (A : Option Addr) (n c : Nat) (w : World) (h : Code8 w A n c) : Calls Try.prog 15 #[.slice A n c] w (PBool w true) := by
  have hle : (n : Int) ≤ 1048576 := by have := h.le; omega
  go_enter Try.func15, Try.ntmps15
  go_wp2_with fail
  refine (drawVictimsOf_any A n c _ h).mono ?_
  rintro e w1 ⟨ws, A1, c1, rfl, ho1, hl1, hb1⟩
  have hr1 := Rd.of_own ho1
  have hle2 := vicL_len ws
  clear h ho1
  go_wp2_with fail
  refine (victimsOf_any A1 c1 ws _ (by omega) hr1).mono ?_
  rintro e w2 ⟨A2, c2, rfl, ho2, hb2⟩
  have hr2 := Rd.of_own ho2
  have hr1 := hr1.step hb2
  have hb2 := below_then hb1 hb2 hb1.size
  clear ho2 hb1
  go_wp2_with fail
  refine (svictimsOf_any A1 c1 ws _ (by omega) hr1).mono ?_
  rintro e w3 ⟨A3, c3, rfl, ho3, hb3⟩
  have hr3 := Rd.of_own ho3
  have hr1 := hr1.step hb3
  have hr2 := hr2.step hb3
  have hb3 := below_then hb2 hb3 hb2.size
  clear ho3 hb2
  go_wp2_with fail
  refine (equalInts_same A2 c2 (vicL ws) A3 c3 _ (by omega) hr2 hr3).mono ?_
  rintro e w4 ⟨rfl, hb4⟩
  have hr1 := hr1.step hb4
  have hr2 := hr2.step hb4
  have hb4 := below_then hb3 hb4 hb3.size
  clear hr3 hb3
  by_cases hvn : vicL ws = []
  · have HVN := Lib.hid hvn
    have hz : (((vicL ws).length : Int) == 0) = true := by rw [hvn]; rfl
    clear hvn
    go_wp2_with fail
    refine (svictimsOf_any A1 c1 ws _ (by omega) hr1).mono ?_
    rintro e w6 ⟨A3, c3, rfl, ho3, hb6⟩
    have hr3 := Rd.of_own ho3
    have hr2 := hr2.step hb6
    have hb6 := below_then hb4 hb6 hb4.size
    clear ho3 hb4
    go_wp2_with fail
    refine (equalInts_same A2 c2 (vicL ws) A3 c3 _ (by omega) hr2 hr3).mono ?_
    rintro e w7 ⟨rfl, hb7⟩
    have hb7 := below_then hb6 hb7 hb6.size
    go_wp2
    go_ret
    exact ⟨rfl, hb7⟩
  · have hz : (((vicL ws).length : Int) == 0) = false := by
      cases hq : vicL ws with
      | nil => exact absurd hq hvn
      | cons a r => simp; omega
    obtain ⟨hlt, vs, ds, v0, hvs, hds⟩ := vicL_some hvn
    have HVS := Lib.hid hvs
    have HDS := Lib.hid hds
    have hld := dlL_len ws
    have hvpos : 0 < (vicL ws).length := by
      cases hq : vicL ws with
      | nil => exact absurd hq hvn
      | cons a r => simp
    have hdl1 : (dlL ws).length = ds.length + 1 := by rw [hds]; simp
    clear hvs hds hvn
    go_wp2_with fail
    refine (deadlockOf_any A1 c1 ws _ (by omega) hr1).mono ?_
    rintro e w5 ⟨A5, c5, rfl, ho5, hb5⟩
    have hr5 := Rd.of_own ho5
    have hr2 := hr2.step hb5
    have hb5 := below_then hb4 hb5 hb4.size
    clear ho5 hb4 hr1 hz
    have HL1 := Lib.hid hdl1
    clear hdl1
    go_wp2
    go_loopg [6] (vicL ws).length (fun gk iv wr => ∃ k : Nat, k ≤ (vicL ws).length ∧ gk = (vicL ws).length - k ∧ iv = .int .i64 k ∧ Below w5.heap.size w5 wr)
    case atStart => exact ⟨0, by omega, rfl, rfl, Below.refl _ _⟩
    case round =>
      obtain ⟨k, hk, rfl, rfl, hbw⟩ := hrel
      by_cases hlk : k < (vicL ws).length
      · obtain ⟨b, off, x, rfl, hbl, hx, hcx⟩ := (hr2.below hbw).int hlk
        have hr5w := hr5.below hbw
        have hr2w := hr2.below hbw
        have hin : decide (x ∈ dlL ws) = true := by simpa using vicL_dead x (List.mem_of_getElem? hx)
        have hpl := placeOf_once (vicL_nodup ws) hx
        have HIN := Lib.hid hin
        have HPL := Lib.hid hpl
        have hne : ((k : Int) != (k : Int)) = false := by simp
        clear hin hpl hx
        go_wp2_with fail
        refine (lisIn_any A5 c5 (dlL ws) x _ (by omega) hr5w).mono ?_
        rintro e w7 ⟨rfl, rfl⟩
        rw [HIN.out]
        go_wp2_with fail
        refine (placeOf_any (some ⟨b, off, none⟩) c2 (vicL ws) x _ (by omega) hr2w).mono ?_
        rintro e w7 ⟨rfl, rfl⟩
        rw [HPL.out]
        go_wp2
        go_roundg ((vicL ws).length - (k + 1))
        case measure => omega
        case rel => exact ⟨k + 1, by omega, rfl, by go_num, hbw⟩
      · have hb7 := below_then hb5 hbw hb5.size
        obtain ⟨b, off, x, rfl, hbl, hx, hcx⟩ := (hr2.below hbw).int hvpos
        obtain ⟨b2, off2, y, rfl, hbl2, hy, hcy⟩ := (hr5.below hbw).int (k := ds.length) (by rw [HL1.out]; omega)
        have hxv : x = v0 := by rw [HVS.out] at hx; simpa using hx.symm
        have hyv : y = v0 := by
          rw [HDS.out, List.getElem?_append_right (Nat.le_refl _)] at hy
          simpa using hy.symm
        rw [hxv] at hcx
        rw [hyv] at hcy
        have hltz : ((vicL ws).length : Int) < ((dlL ws).length : Int) := by omega
        rw [HL1.out] at hltz ⊢
        have hd : decide (((vicL ws).length : Int) < (ds.length : Int) + 1) = true := by simp; omega
        simp only [Nat.add_zero] at hcx
        have hxx : (v0 == v0) = true := by simp
        clear hx hy hbw hr2 hr5 hxv hyv
        have hdl4 : ds.length + 1 ≤ 4 := by rw [← HL1.out]; exact hld
        have hdl5 : (ds.length : Int) < (ds.length : Int) + 1 := by omega
        have hw1 : IntKind.i64.wrap ((ds.length : Int) + 1 - 1) = (ds.length : Int) := by rw [IntWalk.i64_in _ (by omega)]; omega
        go_wp2
        go_quiet (fail)
        go_wp2
        go_ret
        exact ⟨rfl, below_drewN hb7 _⟩
end Go.Proofs.Ytfhofincbekadaa
