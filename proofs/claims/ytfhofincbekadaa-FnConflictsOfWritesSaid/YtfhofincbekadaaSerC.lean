/- Contract: behindOf. -/
import Derived.Test.YtfhofincbekadaaSerB
namespace Go.Proofs.Ytfhofincbekadaa
open Go.RowKit
open Tl (Ac okA validA validA_iff clash must takes clashes T4 mem_T4)

/-- A block that is known whole. -/
def Blk (w : World) (g : Nat) (cs : Array Value) (t : TypeId) : Prop := w.heap[g]? = some (.cells cs t (0, 0))
section
variable {w w' : World} {g : Nat} {cs : Array Value} {t : TypeId}
theorem Blk.lt (h : Blk w g cs t) : g < w.heap.size := (Array.getElem?_eq_some_iff.1 h).1
theorem Blk.cell (h : Blk w g cs t) (i : Nat) : w.cell? ⟨g, i, none⟩ = cs[i]? := cell_of_row w g i cs t (0, 0) h
theorem Blk.frozen (h : Blk w g cs t) (i : Nat) : w.frozen? ⟨g, i, none⟩ = false := by
  unfold Blk at h
  simp [World.frozen?, h]
theorem Blk.alloc (h : Blk w g cs t) (o : Obj) : Blk (w.alloc o) g cs t := (Below.heap_alloc w o g h.lt).trans h
theorem Blk.drew (h : Blk w g cs t) : Blk w.drew g cs t := h
theorem Blk.drewN (h : Blk w g cs t) (k : Nat) : Blk (w.drewN k) g cs t := h
theorem Blk.far (h : Blk w g cs t) {p : Addr} (hp : g ≠ p.block) (u : Value) : Blk (w.setCell p u) g cs t := (Below.heap_setCell w p u g hp).trans h
theorem Blk.below {B : Nat} (h : Blk w g cs t) (hb : Below B w w') (hg : g < B) : Blk w' g cs t := (hb.block g hg).trans h
theorem Blk.put4 {a0 a1 a2 a3 : Value} (h : Blk w g #[a0, a1, a2, a3] t) (b0 b1 b2 b3 : Value) : Blk ((((w.setCell ⟨g, 0, none⟩ b0).setCell ⟨g, 1, none⟩ b1).setCell ⟨g, 2, none⟩ b2).setCell ⟨g, 3, none⟩ b3) g #[b0, b1, b2, b3] t := by
  unfold Blk at *
  simp [World.setCell, Array.getElem?_modify, h]
end

set_option maxHeartbeats 2000000 in
set_option maxRecDepth 100000 in
theorem behindOf_any (A : Option Addr) (c : Nat) (xs : List Ac) (w : World) (hn : xs.length ≤ 100000) (hcap : xs.length ≤ c) (hok : ∀ x ∈ xs, okA x) (hr : Rd w w.heap.size 3 A xs.length (acs xs)) :
    Calls Try.prog 39 #[.slice A xs.length c] w fun e w' => e = .returned (.agg #[.int .i64 (maskI (must xs 0)), .int .i64 (maskI (must xs 1)), .int .i64 (maskI (must xs 2)), .int .i64 (maskI (must xs 3))]) ∧ Below w.heap.size w w' := by
  go_enter Try.func39, Try.ntmps39
  go_wp2
  go_loopg [10] xs.length (fun gk jv wr => ∃ (j : Nat) (M : Int → Int → Bool), j ≤ xs.length ∧ gk = xs.length - j ∧ jv = .int .i64 j ∧ Hid (SetsOf xs j 0 M) ∧ Sets wr (w.heap.size + 1) M ∧ Blk wr w.heap.size #[.int .i64 0, .int .i64 0, .int .i64 0, .int .i64 0] 50 ∧ Below w.heap.size w wr)
  case atStart => 
    refine ⟨0, fun _ _ => false, Nat.zero_le _, rfl, rfl, SetsOf.start xs, ?_, ?_, ((Below.refl _ _).alloc (Nat.le_refl _) _).alloc (by simp) _⟩
    · have h := heap_alloc_new (w.alloc (.cells #[.int .i64 0, .int .i64 0, .int .i64 0, .int .i64 0] 50)) (.cells #[.int .i64 0, .int .i64 0, .int .i64 0, .int .i64 0] 50)
      rw [show (w.alloc (.cells #[.int .i64 0, .int .i64 0, .int .i64 0, .int .i64 0] 50)).heap.size = w.heap.size + 1 from by simp] at h
      exact h
    · exact (show Blk (w.alloc _) w.heap.size _ _ from heap_alloc_new w _).alloc _
  case round =>
    obtain ⟨j, M, hj, rfl, rfl, HM, hst, hbk, hb⟩ := hrel
    by_cases hlt : j < xs.length
    · obtain ⟨b, off, y, rfl, hbl, hy, hy1, hy2, hy3⟩ := (hr.below hb).ac hlt
      have HY := Lib.hid hy
      have hd : decide ((j : Int) < (xs.length : Int)) = true := by simp; omega
      have hjc : j ≤ c := by omega
      have hblk : Blk (wr.alloc (.cells #[.int .i64 y.who, .int .i64 y.node, .bool y.write] 30)) wr.heap.size #[.int .i64 y.who, .int .i64 y.node, .bool y.write] 30 := heap_alloc_new wr _
      have hst2 := hst.alloc (.cells #[.int .i64 y.who, .int .i64 y.node, .bool y.write] 30)
      have hbk2 := hbk.alloc (.cells #[.int .i64 y.who, .int .i64 y.node, .bool y.write] 30)
      have hb2 := hb.alloc (o := .cells #[.int .i64 y.who, .int .i64 y.node, .bool y.write] 30) hb.size
      have hsl := hst.lt
      have hy_ok := hok y (List.mem_of_getElem? hy)
      clear hy
      go_wp2
      clear hd hy1 hy2 hy3 hst hbk hb
      obtain ⟨gy, hgy⟩ : ∃ gy, gy = wr.heap.size := ⟨_, rfl⟩
      rw [← hgy] at hblk hsl ⊢
      clear hgy
      obtain ⟨wo, hwo⟩ : ∃ wo : World, wo = wr.alloc (.cells #[.int .i64 y.who, .int .i64 y.node, .bool y.write] 30) := ⟨_, rfl⟩
      rw [← hwo] at hblk hst2 hbk2 hb2 ⊢
      clear hwo
      go_loopg [19] j (fun gk kv wr => ∃ (k : Nat) (M : Int → Int → Bool), k ≤ j ∧ gk = j - k ∧ kv = .int .i64 k ∧ Hid (SetsOf xs j k M) ∧ Sets wr (w.heap.size + 1) M ∧ Blk wr w.heap.size #[.int .i64 0, .int .i64 0, .int .i64 0, .int .i64 0] 50 ∧ Below w.heap.size w wr ∧
        Blk wr gy #[.int .i64 y.who, .int .i64 y.node, .bool y.write] 30)
      case atStart => exact ⟨0, M, Nat.zero_le _, rfl, rfl, (fun a b h0 h3 => by have := HM.out a b h0 h3; exact this), hst2, hbk2, hb2, hblk⟩
      case round =>
        clear hst2 hbk2 hb2 hblk HM
        obtain ⟨k, M, hk, rfl, rfl, HM, hst, hbk, hb, hblk⟩ := hrel
        by_cases hlk : k < j
        · obtain ⟨b2, off2, x, hA, hbl2, hx, hx1, hx2, hx3⟩ := (hr.below hb).ac (k := k) (by omega)
          injection hA with hA
          injection hA with e1 e2
          subst e1 e2
          have HX := Lib.hid hx
          have hxo := hok x (List.mem_of_getElem? hx)
          have hw0 : 0 ≤ x.who := hxo.1
          have hw3 : x.who ≤ 3 := hxo.2.1
          have hv0 : 0 ≤ y.who := hy_ok.1
          have hv3 : y.who ≤ 3 := hy_ok.2.1
          clear hx hok hxo
          obtain ⟨xb, hxb⟩ : ∃ xb, x.write = xb := ⟨_, rfl⟩
          obtain ⟨yb, hyb⟩ : ∃ yb, y.write = yb := ⟨_, rfl⟩
          rw [hxb] at hx3
          rw [hyb] at hblk
          have HXB := Lib.hid hxb
          have HYB := Lib.hid hyb
          clear hxb hyb
          have hst2 := hst.alloc (.cells #[.int .i64 x.who, .int .i64 x.node, .bool xb] 30)
          have hbk2 := hbk.alloc (.cells #[.int .i64 x.who, .int .i64 x.node, .bool xb] 30)
          have hblk2 := hblk.alloc (.cells #[.int .i64 x.who, .int .i64 x.node, .bool xb] 30)
          have hb2 := hb.alloc (o := .cells #[.int .i64 x.who, .int .i64 x.node, .bool xb] 30) hb.size
          have hx0 : (wr.alloc (.cells #[.int .i64 x.who, .int .i64 x.node, .bool xb] 30)).cell? ⟨wr.heap.size, 0, none⟩ = some (.int .i64 x.who) := (show Blk _ wr.heap.size _ _ from heap_alloc_new wr _).cell 0
          have hy0 : (wr.alloc (.cells #[.int .i64 x.who, .int .i64 x.node, .bool xb] 30)).cell? ⟨gy, 0, none⟩ = some (.int .i64 y.who) := hblk2.cell 0
          have hy1 : (wr.alloc (.cells #[.int .i64 x.who, .int .i64 x.node, .bool xb] 30)).cell? ⟨gy, 1, none⟩ = some (.int .i64 y.node) := hblk2.cell 1
          have hy2 : (wr.alloc (.cells #[.int .i64 x.who, .int .i64 x.node, .bool xb] 30)).cell? ⟨gy, 2, none⟩ = some (.bool yb) := hblk2.cell 2
          have hjk : (k : Int) < (j : Int) := by omega
          by_cases hq1 : x.who = y.who
          · have HK := Lib.hid (HM.out.skip HX.out HY.out (fun h => h.1 hq1))
            have hq : (x.who != y.who) = false := by simp [hq1]
            clear HM hq1
            go_wp2
            go_roundg (j - (k + 1))
            case measure => omega
            case rel => exact ⟨k + 1, M, by omega, rfl, by go_num, HK, hst2, hbk2, hb2, by rw [HYB.out]; exact hblk2⟩
          · by_cases hq2 : x.node = y.node
            · by_cases hq3 : xb = false ∧ yb = false
              · have HK := Lib.hid (HM.out.skip HX.out HY.out (fun h => by rw [HXB.out, HYB.out, hq3.1, hq3.2] at h; simp at h))
                have hqa : (x.who != y.who) = true := by simp [hq1]
                have hqb : (x.node == y.node) = true := by simp [hq2]
                obtain ⟨rfl, rfl⟩ := hq3
                clear HM hq1 hq2
                go_wp2
                go_roundg (j - (k + 1))
                case measure => omega
                case rel => exact ⟨k + 1, M, by omega, rfl, by go_num, HK, hst2, hbk2, hb2, by rw [HYB.out]; exact hblk2⟩
              · have HK := Lib.hid (HM.out.add hlk HX.out HY.out ⟨hq1, hq2, by rw [HXB.out, HYB.out]; cases xb <;> cases yb <;> simp_all⟩)
                have hqa : (x.who != y.who) = true := by simp [hq1]
                have hqb : (x.node == y.node) = true := by simp [hq2]
                have hcell := hst2.cell hw0 hw3
                have hfz := hst2.frozen x.who.toNat
                have hor := mask_or (S := M x.who) hv0 hv3
                have hput := hst2.put hw0 hw3 (fun u => decide (u = y.who) || M x.who u) (M' := fun a u => if a = x.who then (decide (u = y.who) || M x.who u) else M a u) (fun a u _ _ => rfl)
                have hbkp := hbk2.far (p := ⟨w.heap.size + 1, x.who.toNat, none⟩) (by simp) (.int .i64 (maskI (fun u => decide (u = y.who) || M x.who u)))
                have hblkp := hblk2.far (p := ⟨w.heap.size + 1, x.who.toNat, none⟩) (by simp; omega) (.int .i64 (maskI (fun u => decide (u = y.who) || M x.who u)))
                have hbp := hb2.setCell (p := ⟨w.heap.size + 1, x.who.toNat, none⟩) (by simp) (.int .i64 (maskI (fun u => decide (u = y.who) || M x.who u)))
                have hw4 : x.who < 4 := by omega
                clear hq1 hq2 HM
                cases xb
                · cases yb
                  · exact absurd ⟨rfl, rfl⟩ hq3
                  · clear hq3
                    go_wp2
                    obtain ⟨w9, hw9⟩ : ∃ w9 : World, w9 = wr.alloc (.cells #[.int .i64 x.who, .int .i64 x.node, .bool false] 30) := ⟨_, rfl⟩
                    rw [← hw9] at hx0 hy0 hcell hfz hput hbkp hblkp hbp ⊢
                    clear hw9 hx1 hx2 hx3 hy1 hy2 hst2 hbk2 hblk2 hb2
                    go_region
                    go_wp2
                    go_roundg (j - (k + 1))
                    case measure => omega
                    case rel =>
                      refine ⟨k + 1, _, by omega, rfl, by go_num, HK, hput, hbkp, ?_, ?_⟩
                      · exact below_drewN hbp 1
                      · rw [HYB.out]; exact hblkp
                · clear hq3
                  go_wp2
                  obtain ⟨w9, hw9⟩ : ∃ w9 : World, w9 = wr.alloc (.cells #[.int .i64 x.who, .int .i64 x.node, .bool true] 30) := ⟨_, rfl⟩
                  rw [← hw9] at hx0 hy0 hcell hfz hput hbkp hblkp hbp ⊢
                  clear hw9 hx1 hx2 hx3 hy1 hy2 hst2 hbk2 hblk2 hb2
                  go_region
                  go_wp2
                  go_roundg (j - (k + 1))
                  case measure => omega
                  case rel =>
                    refine ⟨k + 1, _, by omega, rfl, by go_num, HK, hput, hbkp, ?_, ?_⟩
                    · exact below_drewN hbp 1
                    · rw [HYB.out]; exact hblkp
            · have HK := Lib.hid (HM.out.skip HX.out HY.out (fun h => hq2 h.2.1))
              have hqa : (x.who != y.who) = true := by simp [hq1]
              have hqb : (x.node == y.node) = false := by simp [hq2]
              clear HM hq1 hq2
              go_wp2
              go_roundg (j - (k + 1))
              case measure => omega
              case rel => exact ⟨k + 1, M, by omega, rfl, by go_num, HK, hst2, hbk2, hb2, by rw [HYB.out]; exact hblk2⟩
        · have hkj : k = j := by omega
          subst hkj
          have HK := Lib.hid HM.out.row
          clear HM
          go_wp2
          go_roundg (xs.length - (k + 1))
          case measure => omega
          case rel => exact ⟨k + 1, M, by omega, rfl, by go_num, HK, hst, hbk, hb⟩
    · have HE := Lib.hid (HM.out.end_ (by omega))
      obtain ⟨ha0, ha1, ha2, ha3⟩ := hst.all
      have hc0 : wr.cell? ⟨w.heap.size, 0, none⟩ = some (.int .i64 0) := hbk.cell 0
      have hc1 : wr.cell? ⟨w.heap.size, 1, none⟩ = some (.int .i64 0) := hbk.cell 1
      have hc2 : wr.cell? ⟨w.heap.size, 2, none⟩ = some (.int .i64 0) := hbk.cell 2
      have hc3 : wr.cell? ⟨w.heap.size, 3, none⟩ = some (.int .i64 0) := hbk.cell 3
      have hf0 := hbk.frozen 0
      have hf1 := hbk.frozen 1
      have hf2 := hbk.frozen 2
      have hf3 := hbk.frozen 3
      clear hst HM
      go_wp2
      have hp4 := hbk.put4 (.int .i64 (maskI (M 0))) (.int .i64 (maskI (M 1))) (.int .i64 (maskI (M 2))) (.int .i64 (maskI (M 3)))
      have hb4 := (((hb.setCell (p := ⟨w.heap.size, 0, none⟩) (Nat.le_refl _) (.int .i64 (maskI (M 0)))).setCell (p := ⟨w.heap.size, 1, none⟩) (Nat.le_refl _) (.int .i64 (maskI (M 1)))).setCell (p := ⟨w.heap.size, 2, none⟩) (Nat.le_refl _) (.int .i64 (maskI (M 2)))).setCell (p := ⟨w.heap.size, 3, none⟩) (Nat.le_refl _) (.int .i64 (maskI (M 3)))
      generalize (((wr.setCell ⟨w.heap.size, 0, none⟩ (.int .i64 (maskI (M 0)))).setCell ⟨w.heap.size, 1, none⟩ (.int .i64 (maskI (M 1)))).setCell ⟨w.heap.size, 2, none⟩ (.int .i64 (maskI (M 2)))).setCell ⟨w.heap.size, 3, none⟩ (.int .i64 (maskI (M 3))) = w4 at hp4 hb4 ⊢
      have hd0 : w4.cell? ⟨w.heap.size, 0, none⟩ = some (.int .i64 (maskI (M 0))) := hp4.cell 0
      have hd1 : w4.cell? ⟨w.heap.size, 1, none⟩ = some (.int .i64 (maskI (M 1))) := hp4.cell 1
      have hd2 : w4.cell? ⟨w.heap.size, 2, none⟩ = some (.int .i64 (maskI (M 2))) := hp4.cell 2
      have hd3 : w4.cell? ⟨w.heap.size, 3, none⟩ = some (.int .i64 (maskI (M 3))) := hp4.cell 3
      refine bodyPost_ret (v := .agg #[.int .i64 (maskI (M 0)), .int .i64 (maskI (M 1)), .int .i64 (maskI (M 2)), .int .i64 (maskI (M 3))]) (by simp [results, Try.results39, go_sem, hd0, hd1, hd2, hd3]) rfl ⟨?_, hb4⟩
      rw [maskI_congr fun t h0 h3 => HE.out 0 t h0 h3, maskI_congr fun t h0 h3 => HE.out 1 t h0 h3, maskI_congr fun t h0 h3 => HE.out 2 t h0 h3, maskI_congr fun t h0 h3 => HE.out 3 t h0 h3]
end Go.Proofs.Ytfhofincbekadaa
