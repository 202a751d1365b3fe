/- Contract: impl.VictimsOf. -/
import Derived.Test.YtfhofincbekadaaVic2
import Derived.Test.YtfhofincbekadaaWaitsD
namespace Go.Proofs.Ytfhofincbekadaa
open Go.RowKit
open Tl (Wt okW validW validW_iff dropW victims deadOf mem_deadOf)

noncomputable def vicL (ws : List Wt) : List Int := if validW ws then victims ws.length ws else []
theorem victims_stop {ws : List Wt} (h : deadOf ws = []) (m : Nat) : victims m ws = [] := by
  cases m with
  | zero => rfl
  | succ m => unfold victims; rw [h]; rfl
theorem victims_step {ws : List Wt} {ds : List Int} {v : Int} (h : deadOf ws = ds ++ [v]) (m : Nat) : victims (m + 1) ws = v :: victims m (dropW ws v) := by
  show (match (deadOf ws).getLast? with | none => [] | some v => v :: victims m (dropW ws v)) = _
  rw [h, List.getLast?_concat]
theorem dead_hit {ws : List Wt} {ds : List Int} {v : Int} (h : deadOf ws = ds ++ [v]) : (∃ x ∈ ws, x.who = v) := by
  have hm : v ∈ deadOf ws := by rw [h]; simp
  obtain ⟨x, hx, hw, _⟩ := (mem_deadOf.1 hm).2.first
  exact ⟨x, hx, hw⟩
/-- What a round of VictimsOf knows. -/
structure VicInv (ws rs : List Wt) (vs : List Int) : Prop where
  fuel : ∃ m, rs.length ≤ m ∧ vs ++ victims m rs = victims ws.length ws
  valid : validW rs = true
  len : vs.length + rs.length ≤ ws.length
theorem VicInv.start {ws : List Wt} (h : validW ws = true) : VicInv ws ws [] := ⟨⟨ws.length, Nat.le_refl _, rfl⟩, h, by simp⟩
theorem VicInv.end_ {ws rs : List Wt} {vs : List Int} (h : VicInv ws rs vs) (hd : deadOf rs = []) : vs = victims ws.length ws := by
  obtain ⟨m, _, e⟩ := h.fuel
  rw [victims_stop hd, List.append_nil] at e
  exact e
theorem VicInv.step {ws rs : List Wt} {vs ds : List Int} {v : Int} (h : VicInv ws rs vs) (hd : deadOf rs = ds ++ [v]) : VicInv ws (dropW rs v) (vs ++ [v]) ∧ (dropW rs v).length < rs.length := by
  have hlt := Tl.dropW_length_lt (dead_hit hd)
  obtain ⟨m, hm, e⟩ := h.fuel
  cases m with
  | zero => omega
  | succ m =>
    rw [victims_step hd] at e
    have := h.len
    exact ⟨⟨⟨m, by omega, by rw [List.append_assoc]; exact e⟩, Tl.valid_dropW h.valid, by simp; omega⟩, hlt⟩
theorem dlL_len' (ws : List Wt) : (dlL ws).length ≤ 4 := by
  unfold dlL deadOf
  split
  · exact List.length_filter_le _ _
  · simp
theorem VicInv.dl {ws rs : List Wt} {vs : List Int} (h : VicInv ws rs vs) : dlL rs = deadOf rs := by unfold dlL; rw [h.valid, if_pos rfl]

set_option maxHeartbeats 1000000 in
set_option maxRecDepth 100000 in
theorem victimsOf_any (A : Option Addr) (c : Nat) (ws : List Wt) (w : World) (hn : ws.length ≤ 100000) (hr : Rd w w.heap.size 2 A ws.length (wts ws)) :
    Calls Try.prog 35 #[.slice A ws.length c] w (PInts w (vicL ws)) := by
  cases hv : validW ws
  · have he : vicL ws = [] := by simp [vicL, hv]
    rw [he]
    clear he
    go_enter Try.func35, Try.ntmps35
    go_wp2_with fail
    refine (validWaits_any A c ws _ hn hr).mono ?_
    rintro e w1 ⟨rfl, hb1⟩
    rw [hv]
    go_wp2
    go_ret
    exact ⟨none, 0, rfl, World.ownsRow_nil _ _ _ _, hb1⟩
  · have he : vicL ws = victims ws.length ws := by simp [vicL, hv]
    rw [he]
    clear he
    have H0 : Hid (VicInv ws ws []) := VicInv.start hv
    go_enter Try.func35, Try.ntmps35
    go_wp2_with fail
    refine (validWaits_any A c ws _ hn hr).mono ?_
    rintro e w1 ⟨rfl, hb1⟩
    have hr1 := hr.step hb1
    rw [hv]
    clear hv hr
    go_wp2_with fail
    refine (cloneW_any A c ws _ hn hr1).mono ?_
    rintro e w2 ⟨A2, c2, rfl, ho2, hb2⟩
    clear hr1
    go_wp2
    go_loopg [3, 4, 5, 6] ws.length (fun gk r v _ _ wr => ∃ (rs : List Wt) (vs : List Int) (A2 : Option Addr) (c2 : Nat) (A3 : Option Addr) (c3 : Nat), r = .slice A2 rs.length c2 ∧ v = .slice A3 vs.length c3 ∧ gk = rs.length ∧ Hid (VicInv ws rs vs) ∧
      wr.ownsRow w1.heap.size 40 2 r rs.length (wts rs) ∧ wr.ownsRow w1.heap.size 3 1 v vs.length (ints vs) ∧ Ap v r ∧ Below w1.heap.size w1 wr)
    case atStart => exact ⟨ws, [], A2, c2, none, 0, rfl, rfl, rfl, H0, ho2, World.ownsRow_nil _ _ _ _, .inl rfl, hb2⟩
    case round =>
      clear ho2 hb2 H0
      obtain ⟨rs, vs, A2, c2, A3, c3, rfl, rfl, rfl, HI, hor, hov, hap, hb⟩ := hrel
      have hrl := HI.out.len
      go_wp2_with fail
      refine (deadlockOf_any A2 c2 rs _ (by omega) (Rd.of_own hor)).mono ?_
      rintro e w3 ⟨A4, c4, rfl, ho4, hb3⟩
      have hor3 := own_below hor hb3 (Nat.le_refl _)
      have hov3 := own_below hov hb3 (Nat.le_refl _)
      have hb4 := below_then hb hb3 hb.size
      have hr4 := Rd.of_own ho4
      have hd4 := dlL_len' rs
      rw [HI.out.dl] at hr4 hd4 ⊢
      clear hor hov hb hb3 ho4
      rcases List.eq_nil_or_concat (deadOf rs) with hd | ⟨ds, v, hd⟩
      · have HE := Lib.hid (HI.out.end_ hd)
        rw [hd]
        simp only [List.length_nil]
        clear hd hr4 hd4
        go_wp2
        go_ret
        rw [← HE.out]
        exact ⟨A3, c3, rfl, own_base hov3 hb1.size, hb1.trans (hb4.mono hb1.size)⟩
      · rw [List.concat_eq_append] at hd
        have hst := HI.out.step hd
        have hhit := dead_hit hd
        have HST := Lib.hid hst.1
        have hlt := hst.2
        rw [hd] at hr4 hd4 ⊢
        have hlen : (ds ++ [v]).length = ds.length + 1 := by simp
        obtain ⟨b, off, y, rfl, hbl, hy, hcy⟩ := hr4.int (k := ds.length) (by rw [hlen]; omega)
        have hyv : y = v := by
          rw [List.getElem?_append_right (Nat.le_refl _)] at hy
          simpa using hy.symm
        subst hyv
        rw [hlen] at hd4 ⊢
        have hrpos : 0 < rs.length := by omega
        obtain ⟨g, rfl, hgb, hgl, _⟩ := own_addr hor3 hrpos
        clear hd hst hr4 hlen hy
        have hov4 := hov3.alloc (.cells #[.int .i64 y] 3)
        have hor4 := hor3.alloc (.cells #[.int .i64 y] 3)
        have hB4 := own_lit1 w3 3 (.int .i64 y) (base := w1.heap.size) hb4.size
        have hapB : Ap (.slice A3 vs.length c3) (.slice (some ⟨w3.heap.size, 0, none⟩) 1 1) := by
          cases hk : (Value.slice A3 vs.length c3).ownBlock with
          | none => exact .inl hk
          | some k =>
            have hlt2 := (hov3.lt k hk).2
            refine .inr (.inr ?_)
            rw [hk]
            intro e
            have : k = w3.heap.size := Option.some.inj e
            omega
        have hb5 := hb4.alloc hb4.size (.cells #[.int .i64 y] 3)
        go_wp2_with (at_builtin; refine wpList_push_int rfl _ _ rfl rfl hov4 rfl (by simp) (by omega) (by simp; have := hb4.size; omega) ?_; intro A5 c5 w5 ho5 hb6 hT)
        obtain ⟨hor5, hap5⟩ := hT hor4 hap
        obtain ⟨hB5, hapB5⟩ := hT hB4 hapB
        have hb7 := hb5.trans hb6
        have hcB := own_at hB5 (j := 0) rfl
        have hBl := (hB5.lt w3.heap.size rfl).2
        have hne : g ≠ w3.heap.size := by omega
        clear hT hov4 hor4 hB4 hb5 hb6 hcy hov3 hor3 hap hapB
        go_wp2_with fail
        refine (deleteFuncW_any g c2 w1.heap.size rs y w3.heap.size _ (by omega) hor5 hBl hne hcB (by obtain ⟨x, hx, hw⟩ := hhit; exact ⟨x, hx, by simp [hitW, hw]⟩)).mono ?_
        rintro e w6 ⟨rfl, hor6, hg6⟩
        have hov6 := Ap.kept (v := .slice (some ⟨g, 0, none⟩) rs.length c2) hap5.symm hg6 ho5
        have hb8 := hb7.trans (grown_below hg6 hgb hb7.size)
        have hap6 : Ap (.slice A5 (vs.length + 1) c5) (.slice (some ⟨g, 0, none⟩) (dropW rs y).length c2) := hap5
        clear hor5 hg6 ho5 hb7 hap5 hhit
        go_wp2
        go_roundg (dropW rs y).length
        case measure => omega
        case rel => exact ⟨dropW rs y, vs ++ [y], some ⟨g, 0, none⟩, c2, A5, c5, rfl, by simp, rfl, HST, hor6, by simpa using hov6, by simpa using hap6, hb8⟩
end Go.Proofs.Ytfhofincbekadaa
