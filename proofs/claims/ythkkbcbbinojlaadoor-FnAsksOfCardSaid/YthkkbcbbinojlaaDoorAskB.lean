/- Contracts: spec.AsksOf. -/
import Derived.Test.YthkkbcbbinojlaaDoorAskA
import Derived.Test.YthkkbcbbinojlaaDoorExt
import Derived.Deep.RegionHeld3
import Derived.StillTailTactics
import Derived.IntWalk
namespace Go.Proofs.YthkkbcbbinojlaaDoor
open Go.RowKit
set_option maxRecDepth 100000
open Tl (Lk Wt okM okL validT validT_iff askOk asksOf asksOk asksW asksW_snoc lockBlockers blockers)

theorem still_tail_as2 {P : Program} {id : Nat} {Q : Exit → Act → World → Prop} {a : Act} {w wd : World} {l : List Oper} (n : Nat) (hm : P.follows .mixedOrders = true) (hB : Region.lexTailB .any l.toArray n = true) (hwd : w.drew = wd)
    (h : wpStill P l.toArray wd (fun a' => wpList P l.toArray Q (l.drop n) a' wd) (l.take n) a) : (Code.region id l.toArray true).wp P Q a w := by
  subst hwd
  exact wp_region_still_tail n hm hB h
theorem not_who {qs : List Lk} {k : Nat} {v : Int} (h : ∀ a ∈ qs.take k, a.who ≠ v) : v ∉ (qs.take k).map Lk.who := by
  intro hm
  obtain ⟨a, ha, e⟩ := List.mem_map.1 hm
  exact h a ha e

set_option maxHeartbeats 2000000 in
theorem sasksOf_any (A : Option Addr) (c : Nat) (ls : List Lk) (A' : Option Addr) (c' : Nat) (qs : List Lk) (w : World) (hn : ls.length ≤ 100000) (hn' : qs.length ≤ 100000)
    (hr : Rd w w.heap.size 3 A ls.length (lks ls)) (hr' : Rd w w.heap.size 3 A' qs.length (lks qs)) :
    Calls Tryd.prog 11 #[.slice A ls.length c, .slice A' qs.length c'] w (PAskR w (asksOf ls qs)) := by
  obtain ⟨w0, hw0⟩ : ∃ w0, w.alloc (.cells #[] 38) = w0 := ⟨_, rfl⟩
  have hown0 := own_lit0 w 38 2 (base := w.heap.size) (Nat.le_refl _)
  have hb0 := (Below.refl w.heap.size w).alloc (Nat.le_refl _) (.cells #[] 38)
  rw [hw0] at hown0 hb0
  have hr0 := hr.step hb0
  go_enter Tryd.func11, Tryd.ntmps11
  go_wp2_with fail
  refine (svalidTable0_any A c ls _ hn hr0).mono ?_
  rintro e w1 ⟨rfl, hb1⟩
  have hown1 := own_below hown0 hb1 (Nat.le_refl _)
  have hb2 := below_then hb0 hb1 hb0.size
  clear hw0 hr0 hown0 hb0 hb1
  cases hv : validT ls
  · have HE : Hid (asksOf ls qs = none) := asksOf_not hv
    clear hv
    go_wp2
    refine bodyPost_ret (v := .tuple #[.slice none 0 0, .bool false]) (by simp [results, Tryd.results11, go_sem]) rfl ?_
    rw [HE.out]
    exact PAskR.none_ hb2
  · have HV := Lib.hid hv
    clear hv
    go_wp2
    go_loopg [6, 7] qs.length (fun gk lv iv wr => ∃ (k : Nat) (A2 : Option Addr) (c2 : Nat), gk = qs.length - k ∧ k ≤ qs.length ∧ lv = .slice A2 (asksW ls (qs.take k)).length c2 ∧ iv = .int .i64 k ∧ Hid (AskSt qs k) ∧
      wr.ownsRow w.heap.size 38 2 (.slice A2 (asksW ls (qs.take k)).length c2) (asksW ls (qs.take k)).length (wts (asksW ls (qs.take k))) ∧ Below w.heap.size w wr)
    case atStart => exact ⟨0, _, 0, rfl, by omega, rfl, rfl, askSt_zero qs, hown1, hb2⟩
    case round =>
      clear hown1 hb2
      obtain ⟨k, A2, c2, rfl, hk, rfl, rfl, HST, hown, hb⟩ := hrel
      have hlw := HST.out.len (ls := ls)
      by_cases hlt : k < qs.length
      · obtain ⟨b, off, x, rfl, hbl, hx, hc1, hc2, hc3⟩ := (hr'.below hb).lk hlt
        have hbl' : b < wr.heap.size := Nat.lt_of_lt_of_le hbl hb.size
        have hE1 := fun z : Ext wr => z.cell hc1 hbl'
        have hE2 := fun z : Ext wr => z.cell hc2 hbl'
        have hE3 := fun z : Ext wr => z.cell hc3 hbl'
        have HRL := Lib.hid (fun z : Ext wr => z.rd ((hr.below hb).more hb.size))
        obtain ⟨v, hvE⟩ : ∃ v, askOk x.who x.node x.mode = v := ⟨_, rfl⟩
        have HVA : Hid (Value.bool (validT ls && askOk x.who x.node x.mode) = .bool v) := by show _ = _; rw [HV.out, hvE]; rfl
        have HVE := Lib.hid hvE
        have HX := Lib.hid hx
        have hi0 : (0 : Int) ≤ (k : Int) := by omega
        have hi1 : (k : Int) < (qs.length : Int) := by omega
        clear hx hvE hc1 hc2 hc3
        go_wp2
        refine ext_region (by kernel_rfl) (by kernel_rfl) ?_
        repeat (go_big_quiet_step (first
          | (go_at_call_of 23 A; exact ext_call (validAsk_any A c ls x.who x.node x.mode _ hn (HRL.out _)) HVA.out)))
        refine wpQuiet_nil ?_
        rintro w' ⟨z, rfl⟩
        have hb4 := hb.trans (z.below.mono hb.size)
        have hown4 := own_below hown z.below (Nat.le_refl _)
        obtain ⟨w4, hw4⟩ : ∃ w4, z.to = w4 := ⟨_, rfl⟩
        rw [hw4] at hb4 hown4 ⊢
        clear hE1 hE2 hE3 hown hb hw4
        cases v
        · have HE : Hid (asksOf ls qs = none) := asksOf_bad HX.out HVE.out
          go_wp2
          refine bodyPost_ret (v := .tuple #[.slice none 0 0, .bool false]) (by simp [results, Tryd.results11, go_sem]) rfl ?_
          rw [HE.out]
          exact PAskR.none_ hb4
        · go_wp2
          go_loopg [8] k (fun gk2 jv wr2 => ∃ i m : Nat, gk2 = k - i ∧ i ≤ k ∧ jv = .int .i64 i ∧ Hid (∀ a ∈ qs.take i, a.who ≠ x.who) ∧ wr2 = w4.drewN m)
          case atStart => exact ⟨0, 0, rfl, by omega, rfl, (show ∀ a ∈ qs.take 0, _ by simp), rfl⟩
          case round =>
            obtain ⟨i, m, rfl, hi, rfl, HN, rfl⟩ := hrel
            obtain ⟨bx, offx, x2, hbx, _, hx2, hd1, hd2, hd3⟩ := (hr'.below hb4).lk hlt
            obtain ⟨rfl, rfl⟩ : b = bx ∧ off = offx := by simpa using hbx
            obtain rfl := Option.some.inj (hx2.symm.trans HX.out)
            by_cases hli : i < k
            · obtain ⟨by_, offy, y, hby, _, hy, he1, _, _⟩ := (hr'.below hb4).lk (k := i) (by omega)
              obtain ⟨rfl, rfl⟩ : b = by_ ∧ off = offy := by simpa using hby
              have hi2 : (i : Int) < (qs.length : Int) := by omega
              have hi3 : (0 : Int) ≤ (i : Int) := by omega
              by_cases hyw : y.who = x2.who
              · have he : (y.who == x2.who) = true := by simp [hyw]
                have HE : Hid (asksOf ls qs = none) := asksOf_dup HX.out (by
                  rw [← hyw]
                  exact List.mem_map_of_mem (List.mem_of_getElem? (i := i) (by rw [List.getElem?_take, if_pos hli]; exact hy)))
                have he2 : decide (y.who = x2.who) = true := decide_eq_true hyw
                clear hyw hy hbx hby hx2
                go_wp2
                go_quiet (fail)
                go_wp2
                refine bodyPost_ret (v := .tuple #[.slice none 0 0, .bool false]) (by simp [results, Tryd.results11, go_sem]) rfl ?_
                rw [HE.out]
                exact PAskR.none_ (below_drewN (below_drewN hb4 _) _)
              · have he : (y.who == x2.who) = false := by simp [hyw]
                have HN2 : Hid (∀ a ∈ qs.take (i + 1), a.who ≠ x2.who) := by
                  show ∀ a ∈ _, _
                  rw [take_succ_at hy]
                  intro a ha
                  rcases List.mem_append.1 ha with h3 | h3
                  · exact HN.out a h3
                  · obtain rfl : a = y := by simpa using h3
                    exact hyw
                clear hyw hy hbx hby hx2
                go_wp2
                go_quiet (fail)
                go_wp2
                go_roundg (k - (i + 1))
                case measure => omega
                case rel => exact ⟨i + 1, _, rfl, by omega, by go_num, HN2, (by first | rfl | exact World.drewN_drewN _ _ _)⟩
            · obtain rfl : i = k := by omega
              have HST2 := Lib.hid (HST.out.succ HX.out HVE.out (not_who HN.out))
              obtain ⟨w5, hw5⟩ : ∃ w5, w4.drewN m = w5 := ⟨_, rfl⟩
              obtain ⟨w6, hw6⟩ : ∃ w6, w5.drew = w6 := ⟨_, rfl⟩
              have hown6 := own_drew (own_drewN hown4 m)
              have hb6 := (below_drewN hb4 m).drew
              rw [hw5, hw6] at hown6 hb6
              have hr6 := (hr.below hb6).more hb6.size
              have he1 : w6.cell? ⟨b, off + i * 3, none⟩ = some (.int .i64 x2.who) := by rw [← hw6, ← hw5]; exact hd1
              have he2 : w6.cell? ⟨b, off + i * 3 + 1, none⟩ = some (.int .i64 x2.node) := by rw [← hw6, ← hw5]; exact hd2
              have he3 : w6.cell? ⟨b, off + i * 3 + 2, none⟩ = some (.int .i64 x2.mode) := by rw [← hw6, ← hw5]; exact hd3
              have hl1 : ¬ i < i := by omega
              rw [hw5]
              clear hw5 hown4 hb4 hbx hx2 hd1 hd2 hd3
              go_wp2
              refine still_tail_as2 16 (by kernel_rfl) (by kernel_rfl) hw6 ?_
              clear hw6
              simp only [List.take_succ_cons, List.take_zero, List.drop_succ_cons, List.drop_zero]
              repeat still_step
              try refine wpStill_nil ?_
              go_wp2_with fail
              refine (slockBlockers_any A c ls x2.who x2.node x2.mode _ hn hr6).mono ?_
              rintro e w7 ⟨A7, c7, rfl, ho7, hb7⟩
              have hbl7 := lockBlockers_len ls x2.who x2.node x2.mode
              have HWF := Lib.hid (wrow_full HX.out HV.out HVE.out (Nat.le_refl _))
              obtain ⟨bs, hbs⟩ : ∃ bs, lockBlockers ls x2.who x2.node x2.mode = bs := ⟨_, rfl⟩
              rw [hbs] at ho7 hbl7 HWF ⊢
              have hapl : Ap (.slice A2 (asksW ls (qs.take i)).length c2) (.slice A7 bs.length c7) := ap_base2 ho7 (fun k hk => (hown6.lt k hk).2)
              have hown7 := own_below hown6 hb7 (Nat.le_refl _)
              have hb8 := hb6.trans (hb7.mono hb6.size)
              obtain ⟨acc, hacc⟩ : ∃ acc, asksW ls (qs.take i) = acc := ⟨_, rfl⟩
              rw [hacc] at hlw hapl hown7 HWF ⊢
              have hw0 := wrow_zero acc bs x2.who
              clear hown6 hb6 hr6 he1 he2 he3 hacc hbs hb7
              go_wp2
              go_loopg [6, 10] bs.length (fun gk2 lv2 iv2 wr2 => ∃ (j : Nat) (A3 : Option Addr) (c3 : Nat), gk2 = bs.length - j ∧ j ≤ bs.length ∧ lv2 = .slice A3 (wrow acc bs x2.who j).length c3 ∧ iv2 = .int .i64 j ∧
                wr2.ownsRow w.heap.size 38 2 (.slice A3 (wrow acc bs x2.who j).length c3) (wrow acc bs x2.who j).length (wts (wrow acc bs x2.who j)) ∧
                wr2.ownsRow w6.heap.size 3 1 (.slice A7 bs.length c7) bs.length (ints bs) ∧ Ap (.slice A3 (wrow acc bs x2.who j).length c3) (.slice A7 bs.length c7) ∧ Below w.heap.size w wr2)
              case atStart => exact ⟨0, A2, c2, rfl, by omega, by rw [hw0], rfl, by rw [hw0]; exact hown7, ho7, by rw [hw0]; exact hapl, hb8⟩
              case round =>
                clear hown7 ho7 hapl hb8 hw0
                obtain ⟨j, A3, c3, rfl, hj, rfl, rfl, ho, hl, ap2, hbw⟩ := hrel
                have hwl := wrow_len acc bs x2.who j
                by_cases hlj : j < bs.length
                · obtain ⟨b7, off7, z, rfl, hb7l, hz, hcz⟩ := (Rd.of_own hl).int hlj
                  obtain ⟨bx, offx, x3, hbx, _, hx3, hd1, _, _⟩ := (hr'.below hbw).lk hlt
                  obtain ⟨rfl, rfl⟩ : b = bx ∧ off = offx := by simpa using hbx
                  obtain rfl := Option.some.inj (hx3.symm.trans HX.out)
                  have HZ := Lib.hid (wrow_succ (acc := acc) (who := x3.who) hz)
                  have HZZ := Lib.hid hz
                  have hi2 : (0 : Int) ≤ (j : Int) := by omega
                  have hi3 : (j : Int) < (bs.length : Int) := by omega
                  have hcell : ∀ W : World, W.ownsRow w6.heap.size 3 1 (.slice (some ⟨b7, off7, none⟩) bs.length c7) bs.length (ints bs) → W.cell? ⟨b7, off7 + j, none⟩ = some (.int .i64 z) := fun W h => by
                    obtain ⟨b', off', z', e, _, hz', hc'⟩ := (Rd.of_own h).int hlj
                    obtain ⟨rfl, rfl⟩ : b7 = b' ∧ off7 = off' := by simpa using e
                    obtain rfl := Option.some.inj (hz'.symm.trans HZZ.out)
                    exact hc'
                  have hld := own_drew hl
                  clear hz hx3 hbx
                  go_wp2
                  go_region_held3 (fun w' => w'.cell? ⟨b, off + i * 3, none⟩ = some (.int .i64 x3.who) ∧ w'.cell? ⟨b7, off7 + j, none⟩ = some (.int .i64 z))
                    (first | go_keep | exact hS)
                    (first
                      | (have hZ := own_drew ho; refine step_push_wt (y1 := x3.who) (y2 := z) (by rfl) _ _ (by rfl) (by rfl) (hZ.alloc _) (by rfl) (heap_alloc_new wr.drew _) (by omega) (by simp; have := hbw.size; omega) ?_; intro A4 c4 w8 ho8 hb8 hk8; have hk9 := hk8 (hld.alloc _) ap2; have hb9 := (hbw.drew.alloc hbw.size (.cells #[.int .i64 x3.who, .int .i64 z] 38)).trans hb8; have hS : w8.cell? ⟨b, off + i * 3, none⟩ = some (.int .i64 x3.who) ∧ w8.cell? ⟨b7, off7 + j, none⟩ = some (.int .i64 z) := ⟨(hb9.cell (p := ⟨b, off + i * 3, none⟩) hbl).trans ((hbw.cell (p := ⟨b, off + i * 3, none⟩) hbl).symm.trans hd1), hcell _ hk9.1⟩; clear hZ))
                  have hle : (wrow acc bs x3.who j).length + 1 = (wrow acc bs x3.who (j + 1)).length := by rw [HZ.out, List.length_append]; rfl
                  rw [← HZ.out, hle] at ho8
                  rw [hle] at hk9 ⊢
                  clear hS hk8 ho hl hld ap2 hbw hb8 hcz hd1 hcell hle
                  go_wp2
                  go_roundg (bs.length - (j + 1))
                  case measure => omega
                  case rel => exact ⟨j + 1, A4, c4, rfl, by omega, rfl, by go_num, ho8, hk9.1, hk9.2, hb9⟩
                · obtain rfl : j = bs.length := by omega
                  rw [HWF.out] at ho ⊢
                  clear hl ap2
                  go_wp2
                  go_roundg (qs.length - (i + 1))
                  case measure => omega
                  case rel => exact ⟨i + 1, A3, c3, rfl, by omega, rfl, by go_num, HST2, ho, hbw⟩
      · have hf := HST.out.full HV.out (by omega : qs.length ≤ k)
        have HE := Lib.hid hf.1
        rw [hf.2] at hown hlw ⊢
        clear hf
        go_wp2
        refine bodyPost_ret (v := .tuple #[.slice A2 (asksW ls qs).length c2, .bool true]) (by simp [results, Tryd.results11, go_sem]) rfl ?_
        rw [HE.out]
        exact PAskR.some_ rfl hown hb
end Go.Proofs.YthkkbcbbinojlaaDoor
