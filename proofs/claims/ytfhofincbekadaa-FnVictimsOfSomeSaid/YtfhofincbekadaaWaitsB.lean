/- Contracts: marked, WaitsFor. -/
import Derived.Test.YtfhofincbekadaaWaitsA
import Derived.Test.YtfhofincbekadaaOwn
import Derived.Test.YtfhofincbekadaaPWaits2
namespace Go.Proofs.Ytfhofincbekadaa
open Go.RowKit
open Tl (Wt okW validW validW_iff T4 waitsFor setM cntM InvS InvR)

theorem T4_get {k : Nat} (hk : k < 4) : T4[k]? = some (k : Int) := by
  have hkk : k = 0 ∨ k = 1 ∨ k = 2 ∨ k = 3 := by omega
  rcases hkk with rfl | rfl | rfl | rfl <;> rfl
theorem filter_snoc_yes {S : Int → Bool} {k : Nat} (hk : k < 4) (h : S k = true) : (T4.take (k + 1)).filter S = (T4.take k).filter S ++ [(k : Int)] := by
  rw [take_succ_of (T4_get hk), List.filter_append]; simp [h]
theorem filter_snoc_no {S : Int → Bool} {k : Nat} (hk : k < 4) (h : S k = false) : (T4.take (k + 1)).filter S = (T4.take k).filter S := by
  rw [take_succ_of (T4_get hk), List.filter_append]; simp [h]
theorem filter_T4_all {S : Int → Bool} {k : Nat} (h : ¬ k < 4) : (T4.take k).filter S = T4.filter S := by
  rw [List.take_of_length_le (by simp [T4]; omega)]
theorem filter_T4_len (S : Int → Bool) (k : Nat) : ((T4.take k).filter S).length ≤ 4 := by
  have h1 := List.length_filter_le S (T4.take k)
  have h2 : (T4.take k).length ≤ 4 := by rw [List.length_take]; exact Nat.min_le_right _ _
  omega
theorem index_marks (S : Int → Bool) {k : Nat} (hk : k < 4) : ∀ w, (Instr.index 56 (.agg #[.bool (S 0), .bool (S 1), .bool (S 2), .bool (S 3)]) (.int .i64 (k : Int))).run Try.prog w = .ok (.bool (S k)) w := by
  have h0 : ∀ (b0 b1 b2 b3 : Bool) (w : World), (Instr.index 56 (.agg #[.bool b0, .bool b1, .bool b2, .bool b3]) (.int .i64 0)).run Try.prog w = .ok (.bool b0) w := fun _ _ _ _ _ => by kernel_rfl
  have h1 : ∀ (b0 b1 b2 b3 : Bool) (w : World), (Instr.index 56 (.agg #[.bool b0, .bool b1, .bool b2, .bool b3]) (.int .i64 1)).run Try.prog w = .ok (.bool b1) w := fun _ _ _ _ _ => by kernel_rfl
  have h2 : ∀ (b0 b1 b2 b3 : Bool) (w : World), (Instr.index 56 (.agg #[.bool b0, .bool b1, .bool b2, .bool b3]) (.int .i64 2)).run Try.prog w = .ok (.bool b2) w := fun _ _ _ _ _ => by kernel_rfl
  have h3 : ∀ (b0 b1 b2 b3 : Bool) (w : World), (Instr.index 56 (.agg #[.bool b0, .bool b1, .bool b2, .bool b3]) (.int .i64 3)).run Try.prog w = .ok (.bool b3) w := fun _ _ _ _ _ => by kernel_rfl
  intro w
  have hkk : k = 0 ∨ k = 1 ∨ k = 2 ∨ k = 3 := by omega
  rcases hkk with rfl | rfl | rfl | rfl
  · exact h0 _ _ _ _ _
  · exact h1 _ _ _ _ _
  · exact h2 _ _ _ _ _
  · exact h3 _ _ _ _ _

theorem marked_any (S : Int → Bool) (w : World) : Calls Try.prog 45 #[.agg #[.bool (S 0), .bool (S 1), .bool (S 2), .bool (S 3)]] w (PInts w (T4.filter S)) := by
  go_enter Try.func45, Try.ntmps45
  go_wp2
  go_loopg [3, 7] 4 (fun gk v i wr => ∃ (k : Nat) (A : Option Addr) (c : Nat), k ≤ 4 ∧ gk = 4 - k ∧ i = .int .i64 k ∧ v = .slice A ((T4.take k).filter S).length c ∧
    wr.ownsRow w.heap.size 3 1 v ((T4.take k).filter S).length (ints ((T4.take k).filter S)) ∧ Below w.heap.size w wr)
  case atStart => exact ⟨0, none, 0, by omega, rfl, rfl, rfl, World.ownsRow_nil _ _ _ _, (Below.refl _ _).alloc (Nat.le_refl _) _⟩
  case round =>
    obtain ⟨k, A, c, hk, rfl, rfl, rfl, hown, hb⟩ := hrel
    have hl := filter_T4_len S k
    by_cases hlt : k < 4
    · have hix := index_marks S hlt
      cases hS : S (k : Int)
      · have HS := Lib.hid (filter_snoc_no hlt hS)
        go_wp2
        go_roundg (4 - (k + 1))
        case measure => omega
        case rel => exact ⟨k + 1, A, c, by omega, rfl, by go_num, by rw [HS.out], by rw [HS.out]; exact hown, hb⟩
      · have HS := Lib.hid (filter_snoc_yes hlt hS)
        go_wp2_with (at_builtin; refine wpList_push_int rfl _ _ rfl rfl hown rfl rfl (by omega) hb.size ?_; intro A' c' w' ho' hb' _)
        have hb2 := hb.trans hb'
        clear hb hb' hown
        go_wp2
        go_roundg (4 - (k + 1))
        case measure => omega
        case rel => exact ⟨k + 1, A', c', by omega, rfl, by go_num, by rw [HS.out]; simp, by rw [HS.out]; simpa using ho', hb2⟩
    · have HE := Lib.hid (filter_T4_all (S := S) hlt)
      go_wp2
      go_ret
      rw [HE.out] at hown
      exact ⟨A, c, ret_slice (by rw [HE.out]), hown, hb⟩
/-- A block of four marks. -/
def Marks (w : World) (g : Nat) (S : Int → Bool) : Prop := w.heap[g]? = some (.cells #[.bool (S 0), .bool (S 1), .bool (S 2), .bool (S 3)] 56 (0, 0))
section
variable {w w' : World} {g : Nat} {S : Int → Bool}
theorem Marks.lt (h : Marks w g S) : g < w.heap.size := (Array.getElem?_eq_some_iff.1 h).1
theorem Marks.cell (h : Marks w g S) {t : Int} (h0 : 0 ≤ t) (h3 : t ≤ 3) : w.cell? ⟨g, t.toNat, none⟩ = some (.bool (S t)) := by
  rw [cell_of_row w g t.toNat _ _ _ h]
  have : t = 0 ∨ t = 1 ∨ t = 2 ∨ t = 3 := by omega
  rcases this with rfl | rfl | rfl | rfl <;> rfl
theorem Marks.all (h : Marks w g S) : w.cell? ⟨g, 0, none⟩ = some (.bool (S 0)) ∧ w.cell? ⟨g, 1, none⟩ = some (.bool (S 1)) ∧ w.cell? ⟨g, 2, none⟩ = some (.bool (S 2)) ∧ w.cell? ⟨g, 3, none⟩ = some (.bool (S 3)) :=
  ⟨h.cell (t := 0) (by decide) (by decide), h.cell (t := 1) (by decide) (by decide), h.cell (t := 2) (by decide) (by decide), h.cell (t := 3) (by decide) (by decide)⟩
theorem Marks.frozen (h : Marks w g S) (i : Nat) : w.frozen? ⟨g, i, none⟩ = false := by
  unfold Marks at h
  simp [World.frozen?, h]
theorem Marks.below {B : Nat} (h : Marks w g S) (hb : Below B w w') (hg : g < B) : Marks w' g S := (hb.block g hg).trans h
theorem Marks.alloc (h : Marks w g S) (o : Obj) : Marks (w.alloc o) g S := (Below.heap_alloc w o g h.lt).trans h
theorem Marks.set (h : Marks w g S) {t : Int} (h0 : 0 ≤ t) (h3 : t ≤ 3) : Marks (w.setCell ⟨g, t.toNat, none⟩ (.bool true)) g (setM S t) := by
  unfold Marks at *
  have : t = 0 ∨ t = 1 ∨ t = 2 ∨ t = 3 := by omega
  rcases this with rfl | rfl | rfl | rfl <;> simp [World.setCell, Array.getElem?_modify, h, setM]
end

theorem waitsFor_any (A : Option Addr) (c : Nat) (ws : List Wt) (who : Int) (w : World) (hn : ws.length ≤ 100000) (hr : Rd w w.heap.size 2 A ws.length (wts ws)) :
    Calls Try.prog 23 #[.slice A ws.length c, .int .i64 who] w (PInts w (if validW ws then waitsFor ws who else [])) := by
  cases hv : validW ws
  · go_enter Try.func23, Try.ntmps23
    go_wp2_with fail
    refine (validWaits_any A c ws _ hn hr).mono ?_
    rintro e w1 ⟨rfl, hb1⟩
    rw [hv]
    go_wp2
    go_ret
    exact ⟨none, 0, rfl, World.ownsRow_nil _ _ _ _, hb1⟩
  · have hok := (validW_iff.1 hv).2
    go_enter Try.func23, Try.ntmps23
    go_wp2_with fail
    refine (validWaits_any A c ws _ hn hr).mono ?_
    rintro e w1 ⟨rfl, hb1⟩
    rw [hv]
    have HV := Lib.hid hv
    clear hv
    go_wp2
    go_loopg [6] 9 (fun gk v wr => ∃ (stk : List Int) (S : Int → Bool) (A' : Option Addr) (c' : Nat), v = .slice A' stk.length c' ∧ gk + 2 * cntM S = 8 + stk.length ∧ stk.length ≤ 1 + cntM S ∧ InvS ws who S stk ∧
      wr.ownsRow (w1.heap.size + 1) 3 1 v stk.length (ints stk) ∧ Marks wr w1.heap.size S ∧ Below w1.heap.size w1 wr ∧ w1.heap.size + 1 ≤ wr.heap.size)
    case atStart =>
      refine ⟨[who], fun _ => false, some ⟨w1.heap.size + 1, 0, none⟩, 1, rfl, rfl, by simp, InvS.start ws who, ?_, ?_, ?_, ?_⟩
      · exact own_lit1' w1 _ 3 (.int .i64 who) (Nat.le_refl _)
      · exact (show Marks (w1.alloc _) w1.heap.size (fun _ => false) from heap_alloc_new w1 _).alloc _
      · exact ((Below.refl _ _).alloc (Nat.le_refl _) _).alloc (by simp) _
      · simp
    case round =>
      obtain ⟨stk, S, A', c', rfl, hgk, hls, hinv, hown, hmk, hbw, hsz⟩ := hrel
      have HG := Lib.hid hgk
      clear hgk
      rcases List.eq_nil_or_concat stk with rfl | ⟨stk, at_, rfl⟩
      · obtain ⟨hm0, hm1, hm2, hm3⟩ := hmk.all
        have HE := Lib.hid hinv.end_
        simp only [List.length_nil]
        clear hinv
        go_wp2_with fail
        refine (marked_any S _).mono ?_
        rintro e w2 ⟨A2, c2, rfl, ho2, hb2⟩
        have hb3 := (hb1.trans (hbw.mono hb1.size)).trans (hb2.mono (by have := hb1.size; omega))
        have ho3 := own_base (base' := w.heap.size) ho2 (by have := hb1.size; omega)
        clear ho2 hb2 hm0 hm1 hm2 hm3 hmk hbw hown
        rw [HE.out] at ho3 ⊢
        go_wp2
        go_ret
        exact ⟨A2, c2, rfl, ho3, hb3⟩
      · rw [List.concat_eq_append] at *
        have HI := Lib.hid hinv.pop
        clear hinv
        have hlen : (stk ++ [at_]).length = stk.length + 1 := by simp
        rw [hlen] at hown
        rw [ints_snoc] at hown
        have hown2 := own_pop hown rfl
        obtain ⟨g, rfl, hgb, hgl, hgc⟩ := own_addr hown (by omega)
        have hct := hgc stk.length (.int .i64 at_) (by rw [List.getElem?_append_right (by simp [ints])]; simp [ints])
        clear hown hgc
        simp only [hlen]
        clear hlen
        have hcnt := Tl.cntM_le S
        simp at hls
        have hcap : stk.length ≤ c' := by
          obtain ⟨_, _, hv2, hc2⟩ := own_slice hown2
          injection hv2 with _ _ e3
          omega
        have HG2 : Hid (8 + stk.length + 1 ≤ gk + 2 * cntM S ∧ stk.length ≤ 1 + cntM S) := ⟨by have := HG.out; simp at this; omega, by omega⟩
        have hsm : stk.length ≤ 8 := by omega
        clear HG hls
        go_wp2
        obtain ⟨wo, rfl⟩ : ∃ wo : World, wo = wr := ⟨_, rfl⟩
        obtain ⟨gk0, rfl⟩ : ∃ gk0 : Nat, gk0 = gk := ⟨_, rfl⟩
        clear hcap hct hcnt
        go_loopg [6, 31] ws.length (fun gi v i wr => ∃ (k : Nat) (stk : List Int) (S : Int → Bool) (A' : Option Addr) (c' : Nat), k ≤ ws.length ∧ gi = ws.length - k ∧ i = .int .i64 k ∧ v = .slice A' stk.length c' ∧
          Hid (8 + stk.length + 1 ≤ gk0 + 2 * cntM S ∧ stk.length ≤ 1 + cntM S) ∧ Hid (InvR ws who S stk at_ k) ∧
          wr.ownsRow (w1.heap.size + 1) 3 1 v stk.length (ints stk) ∧ Marks wr w1.heap.size S ∧ Below w1.heap.size w1 wr ∧ w1.heap.size + 1 ≤ wr.heap.size)
        case atStart => exact ⟨0, stk, S, _, c', Nat.zero_le _, rfl, rfl, rfl, HG2, HI, hown2, hmk, hbw, hsz⟩
        case round =>
          clear HG2 HI hown2 hmk hbw hsz hgb hgl
          obtain ⟨k, stk, S, A', c', hk, rfl, rfl, rfl, HG, HI, hown, hmk, hbw, hsz⟩ := hrel
          by_cases hlt : k < ws.length
          · obtain ⟨b, off, x, rfl, _, hx, hc1, hc2⟩ := (hr.below (hb1.trans (hbw.mono hb1.size))).wt hlt
            have hxo := hok x (List.mem_of_getElem? hx)
            have hbw1 := hbw.alloc (o := .cells #[.int .i64 x.who, .int .i64 x.to] 40) (by omega)
            have hmk1 := hmk.alloc (.cells #[.int .i64 x.who, .int .i64 x.to] 40)
            have hown1 := hown.alloc (.cells #[.int .i64 x.who, .int .i64 x.to] 40)
            clear hr
            have hto0 : 0 ≤ x.to := hxo.2.2.1
            have hto3 : x.to ≤ 3 := hxo.2.2.2.1
            by_cases hw : x.who = at_
            · have hw' : (x.who == at_) = true := by simp [hw]
              have hmc := hmk1.cell hto0 hto3
              have HW := Lib.hid hw
              have HX := Lib.hid hxo
              have HXX := Lib.hid hx
              clear hw hxo hx hok
              cases hS : S x.to
              · rw [hS] at hmc
                have HS := Lib.hid hS
                clear hS
                have hfz := hmk1.frozen x.to.toNat
                have hown2 := ownsRow_setCell_below hown1 (a := ⟨w1.heap.size, x.to.toNat, none⟩) (by simp) (.bool true)
                have hmk2 := hmk1.set hto0 hto3
                have hbw2 := hbw1.setCell (p := ⟨w1.heap.size, x.to.toNat, none⟩) (by simp) (.bool true)
                have hsm2 : stk.length ≤ 8 := by have := HG.out; have := Tl.cntM_le S; omega
                go_wp2_with (at_builtin; refine wpList_push_int rfl _ _ rfl rfl hown2 rfl (by simp) (by omega) (by rw [size_setCell]; simp; omega) ?_; intro A2 c2 w2 ho2 hb2 _)
                have hmk3 := hmk2.below hb2 (by omega)
                have hbw3 := hbw2.trans (hb2.mono (by omega))
                have hsz3 : w1.heap.size + 1 ≤ w2.heap.size := by have := hb2.size; simp [World.setCell] at this; omega
                clear hown hown1 hown2 hmk hmk1 hmk2 hmc hfz hbw hbw1 hbw2 hb2 hc1 hc2 hsz
                go_wp2
                go_roundg (ws.length - (k + 1))
                case measure => omega
                case rel =>
                  refine ⟨k + 1, stk ++ [x.to], setM S x.to, A2, c2, by omega, rfl, by go_num, by simp, ?_, HI.out.push HXX.out HW.out HX.out, by simpa using ho2, hmk3, hbw3, hsz3⟩
                  have h1 := HG.out
                  have h2 := Tl.cntM_set hto0 hto3 HS.out
                  exact ⟨by rw [h2]; simp; omega, by rw [h2]; simp; omega⟩
              · rw [hS] at hmc
                have HS := Lib.hid hS
                clear hS
                go_wp2
                go_roundg (ws.length - (k + 1))
                case measure => omega
                case rel => exact ⟨k + 1, stk, S, A', c', by omega, rfl, by go_num, rfl, HG, HI.out.skip HXX.out (fun _ => HS.out), hown1, hmk1, hbw1, by simp; omega⟩
            · have hw' : (x.who == at_) = false := by simp [hw]
              go_wp2
              go_roundg (ws.length - (k + 1))
              case measure => omega
              case rel => exact ⟨k + 1, stk, S, A', c', by omega, rfl, by go_num, rfl, HG, HI.out.skip hx (fun h => absurd h hw), hown1, hmk1, hbw1, by simp; omega⟩
          · go_wp2
            go_roundg (8 + stk.length - 2 * cntM S)
            case measure => have := HG.out; have := Tl.cntM_le S; omega
            case rel => exact ⟨stk, S, A', c', rfl, by have := HG.out; have := Tl.cntM_le S; omega, HG.out.2, HI.out.end_ (by omega), hown, hmk, hbw, hsz⟩
end Go.Proofs.Ytfhofincbekadaa
