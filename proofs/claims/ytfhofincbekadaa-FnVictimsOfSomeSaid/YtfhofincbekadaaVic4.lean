/- Contracts: spec.dropped, spec.VictimsOf. -/
import Derived.Test.YtfhofincbekadaaVic3
import Derived.Test.YtfhofincbekadaaKeep
namespace Go.Proofs.Ytfhofincbekadaa
open Go.RowKit
open Tl (Wt okW validW validW_iff dropW victims deadOf mem_deadOf)

theorem dropW_yes {ws : List Wt} {k : Nat} {x : Wt} {v : Int} (hx : ws[k]? = some x) (h1 : x.who ≠ v) (h2 : x.to ≠ v) : dropW (ws.take (k + 1)) v = dropW (ws.take k) v ++ [x] := by
  unfold dropW; rw [take_succ_of hx, List.filter_append]; simp [h1, h2]
theorem dropW_no {ws : List Wt} {k : Nat} {x : Wt} {v : Int} (hx : ws[k]? = some x) (h : x.who = v ∨ x.to = v) : dropW (ws.take (k + 1)) v = dropW (ws.take k) v := by
  unfold dropW; rw [take_succ_of hx, List.filter_append]
  have : (List.filter (fun y : Wt => decide (y.who ≠ v ∧ y.to ≠ v)) [x]) = [] := by
    rw [List.filter_eq_nil_iff]
    intro y hy
    simp at hy
    subst hy
    simp only [decide_eq_true_eq]
    intro hh
    rcases h with h | h
    · exact hh.1 h
    · exact hh.2 h
  rw [this, List.append_nil]
theorem dropW_len (ws : List Wt) (v : Int) (k : Nat) : (dropW (ws.take k) v).length ≤ k := by
  unfold dropW
  exact Nat.le_trans (List.length_filter_le _ _) (by rw [List.length_take]; exact Nat.min_le_left _ _)

theorem dropped_any (A : Option Addr) (c : Nat) (ws : List Wt) (v : Int) (w : World) (hn : ws.length ≤ 100000) (hr : Rd w w.heap.size 2 A ws.length (wts ws)) :
    Calls Try.prog 56 #[.slice A ws.length c, .int .i64 v] w (PWts w (dropW ws v)) := by
  go_enter Try.func56, Try.ntmps56
  go_wp2
  go_loopg [5, 6] ws.length (fun gk ov iv wr => ∃ (k m : Nat) (A' : Option Addr) (c' : Nat), k ≤ ws.length ∧ gk = ws.length - k ∧ iv = .int .i64 k ∧ ov = .slice A' m c' ∧ Hid (m = (dropW (ws.take k) v).length) ∧
    wr.ownsRow w.heap.size 40 2 ov m (wts (dropW (ws.take k) v)) ∧ Below w.heap.size w wr)
  case atStart => exact ⟨0, 0, _, 0, Nat.zero_le _, rfl, rfl, rfl, rfl, own_lit0 w 40 2 (Nat.le_refl _), (Below.refl _ _).alloc (Nat.le_refl _) _⟩
  case round =>
    obtain ⟨k, m, A', c', hk, rfl, rfl, rfl, HM, hown, hb⟩ := hrel
    by_cases hlt : k < ws.length
    · obtain ⟨b, off, x, rfl, hbl, hx, hc1, hc2⟩ := (hr.below hb).wt hlt
      have hml := dropW_len ws v k
      by_cases h1 : x.who = v
      · have h1' : (x.who != v) = false := by simp [h1]
        have HN := Lib.hid (dropW_no hx (.inl h1))
        clear hx h1 hml
        go_wp2
        go_roundg (ws.length - (k + 1))
        case measure => omega
        case rel => exact ⟨k + 1, m, A', c', by omega, rfl, by go_num, rfl, by rw [HN.out]; exact HM, by rw [HN.out]; exact hown, hb⟩
      · have h1' : (x.who != v) = true := by simp [h1]
        by_cases h2 : x.to = v
        · have h2' : (x.to != v) = false := by simp [h2]
          have HN := Lib.hid (dropW_no hx (.inr h2))
          clear hx h1 h2 hml
          go_wp2
          go_roundg (ws.length - (k + 1))
          case measure => omega
          case rel => exact ⟨k + 1, m, A', c', by omega, rfl, by go_num, rfl, by rw [HN.out]; exact HM, by rw [HN.out]; exact hown, hb⟩
        · have h2' : (x.to != v) = true := by simp [h2]
          have HN := Lib.hid (dropW_yes hx h1 h2)
          clear hx h1 h2
          obtain rfl := HM.out
          clear HM
          go_wp2_with (at_builtin; refine wpList_push_wt rfl _ _ rfl rfl hown rfl rfl (by omega) hb.size ?_; intro A2 c2 w2 ho2 hb2 _)
          have hb3 := hb.trans hb2
          rw [← HN.out] at ho2
          clear hown hb hb2 hc1 hc2
          go_wp2
          go_roundg (ws.length - (k + 1))
          case measure => omega
          case rel => exact ⟨k + 1, (dropW (ws.take k) v).length + 1, A2, c2, by omega, rfl, by go_num, rfl, by show _ = _; rw [HN.out, List.length_append]; rfl, ho2, hb3⟩
    · rw [take_all hlt] at hown HM
      obtain rfl := HM.out
      clear HM
      go_wp2
      go_ret
      exact ⟨A', c', rfl, hown, hb⟩

/-- The waits that are left: those that came in, or a row of the call's own. -/
def LeftW (w : World) (base : Nat) (v : Value) (A : Option Addr) (c : Nat) (rs : List Wt) : Prop :=
  Rd w base 2 A rs.length (wts rs) ∨ (w.ownsRow base 40 2 (.slice A rs.length c) rs.length (wts rs) ∧ Ap v (.slice A rs.length c))
theorem LeftW.rd {w : World} {base c : Nat} {v : Value} {A : Option Addr} {rs : List Wt} (h : LeftW w base v A c rs) (hb : base ≤ w.heap.size) : Rd w w.heap.size 2 A rs.length (wts rs) := by
  rcases h with h | h
  · exact h.more hb
  · exact Rd.of_own h.1
theorem LeftW.below {w w' : World} {base c : Nat} {v : Value} {A : Option Addr} {rs : List Wt} (h : LeftW w base v A c rs) (hB : base ≤ w.heap.size) (hb : Below w.heap.size w w') : LeftW w' base v A c rs := by
  rcases h with h | h
  · exact .inl (h.below_ hb hB)
  · exact .inr ⟨own_below h.1 hb (Nat.le_refl _), h.2⟩

set_option maxHeartbeats 1000000 in
set_option maxRecDepth 100000 in
theorem svictimsOf_any (A : Option Addr) (c : Nat) (ws : List Wt) (w : World) (hn : ws.length ≤ 100000) (hr : Rd w w.heap.size 2 A ws.length (wts ws)) :
    Calls Try.prog 36 #[.slice A ws.length c] w (PInts w (vicL ws)) := by
  have hb0 := (Below.refl w.heap.size w).alloc (Nat.le_refl _) (.cells #[] 3)
  have hr0 := (hr.below hb0).more hb0.size
  cases hv : validW ws
  · have he : vicL ws = [] := by simp [vicL, hv]
    rw [he]
    clear he
    go_enter Try.func36, Try.ntmps36
    go_wp2_with fail
    refine (svalidWaits_any A c ws _ hn hr0).mono ?_
    rintro e w1 ⟨rfl, hb1⟩
    have hb2 := hb0.trans (hb1.mono hb0.size)
    rw [hv]
    go_wp2
    go_ret
    exact ⟨none, 0, rfl, World.ownsRow_nil _ _ _ _, hb2⟩
  · have he : vicL ws = victims ws.length ws := by simp [vicL, hv]
    rw [he]
    clear he
    have H0 : Hid (VicInv ws ws []) := VicInv.start hv
    go_enter Try.func36, Try.ntmps36
    go_wp2_with fail
    refine (svalidWaits_any A c ws _ hn hr0).mono ?_
    rintro e w1 ⟨rfl, hb1⟩
    have hb2 := hb0.trans (hb1.mono hb0.size)
    have hov0 := own_below (own_lit0 w 3 1 (base := w.heap.size) (Nat.le_refl _)) hb1 (Nat.le_refl _)
    have hr1 := hr.below hb2
    rw [hv]
    clear hv hr0 hb0 hb1
    go_wp2
    go_loopg [0, 3, 4] ws.length (fun gk r v _ wr => ∃ (rs : List Wt) (vs : List Int) (A2 : Option Addr) (c2 : Nat) (A3 : Option Addr) (c3 : Nat), r = .slice A2 rs.length c2 ∧ v = .slice A3 vs.length c3 ∧ gk = rs.length ∧ Hid (VicInv ws rs vs) ∧
      Hid (LeftW wr w.heap.size v A2 c2 rs) ∧ wr.ownsRow w.heap.size 3 1 v vs.length (ints vs) ∧ Below w.heap.size w wr)
    case atStart => exact ⟨ws, [], A, c, _, 0, rfl, rfl, rfl, H0, .inl hr1, hov0, hb2⟩
    case round =>
      clear hr1 hov0 hb2 H0
      obtain ⟨rs, vs, A2, c2, A3, c3, rfl, rfl, rfl, HI, HL, hov, hb⟩ := hrel
      have hrl := HI.out.len
      go_wp2_with fail
      refine (sdeadlockOf_any A2 c2 rs _ (by omega) (HL.out.rd hb.size)).mono ?_
      rintro e w3 ⟨A4, c4, rfl, ho4, hb3⟩
      have HL3 := Lib.hid (HL.out.below hb.size hb3)
      have hov3 := own_below hov hb3 (Nat.le_refl _)
      have hb4 := below_then hb hb3 hb.size
      have hr4 := Rd.of_own ho4
      have hd4 := dlL_len' rs
      have ho4' := own_base ho4 hb.size
      have hap4 : Ap (.slice A3 vs.length c3) (.slice A4 (dlL rs).length c4) := ap_base ho4 (fun k hk => (hov.lt k hk).2)
      rw [HI.out.dl] at hr4 hd4 ho4' hap4 ⊢
      clear hov hb hb3 ho4 HL
      rcases List.eq_nil_or_concat (deadOf rs) with hd | ⟨ds, v, hd⟩
      · have HE := Lib.hid (HI.out.end_ hd)
        rw [hd]
        simp only [List.length_nil]
        clear hd hr4 hd4 ho4' hap4
        go_wp2
        go_ret
        rw [← HE.out]
        exact ⟨A3, c3, rfl, hov3, hb4⟩
      · rw [List.concat_eq_append] at hd
        have hst := HI.out.step hd
        have HST := Lib.hid hst.1
        have hlt := hst.2
        rw [hd] at hr4 hd4 ho4' hap4 ⊢
        have hlen : (ds ++ [v]).length = ds.length + 1 := by simp
        obtain ⟨b, off, y, rfl, hbl, hy, hcy⟩ := hr4.int (k := ds.length) (by rw [hlen]; omega)
        have hyv : y = v := by
          rw [List.getElem?_append_right (Nat.le_refl _)] at hy
          simpa using hy.symm
        subst hyv
        rw [hlen] at hd4 ho4' hap4 ⊢
        have hix : (ints (ds ++ [y]))[ds.length]? = some (.int .i64 y) := by simp only [ints, List.getElem?_map, hy]; rfl
        have HIX := Lib.hid hix
        clear hd hst hr4 hlen hy hix
        go_wp2_with (first | (at_builtin; refine wpList_push_int rfl _ _ rfl rfl hov3 rfl rfl (by omega) hb4.size ?_; intro A5 c5 w5 ho5 hb6 hT
                              obtain ⟨ho6, hap6⟩ := hT ho4' hap4
                              have HL5 : Hid (LeftW w5 w.heap.size (.slice A5 (vs.length + 1) c5) A2 c2 rs) := by
                                rcases HL3.out with h | h
                                · exact .inl (h.below hb6)
                                · obtain ⟨h1, h2⟩ := hT h.1 h.2
                                  exact .inr ⟨h1, h2⟩
                              have hb7 := hb4.trans hb6
                              obtain ⟨b', off', hA', hbl', hcy'⟩ := (Rd.of_own ho6).2 ds.length _ HIX.out
                              injection hA' with hA'
                              injection hA' with e1 e2
                              subst e1 e2
                              clear hT ho4' hap4 hb6 hb4 hov3 hcy ho6 hap6 HL3))
        go_wp2_with fail
        refine (dropped_any A2 c2 rs y _ (by omega) (HL5.out.rd hb7.size)).mono ?_
        rintro e w6 ⟨A6, c6, rfl, ho7, hb8⟩
        have hov8 := own_below ho5 hb8 (Nat.le_refl _)
        have hap8 : Ap (.slice A5 (vs.length + 1) c5) (.slice A6 (dropW rs y).length c6) := ap_base ho7 (fun k hk => (ho5.lt k hk).2)
        have hb9 := below_then hb7 hb8 hb7.size
        have hor8 := own_base ho7 hb7.size
        clear ho5 ho7 hb7 hb8 HL5 hcy'
        go_wp2
        go_roundg (dropW rs y).length
        case measure => omega
        case rel => exact ⟨dropW rs y, vs ++ [y], A6, c6, A5, c5, rfl, by simp, rfl, HST, .inr ⟨hor8, by simpa using hap8⟩, by simpa using hov8, hb9⟩
end Go.Proofs.Ytfhofincbekadaa
