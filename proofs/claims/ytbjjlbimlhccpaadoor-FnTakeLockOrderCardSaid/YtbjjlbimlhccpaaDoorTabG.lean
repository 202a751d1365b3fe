/- Contracts: FreeLocks, of both packages; equalLocks at equal lists. -/
import Derived.Test.YtbjjlbimlhccpaaDoorTabC
import Derived.Test.YtbjjlbimlhccpaaDoorPTable2
namespace Go.Proofs.YtbjjlbimlhccpaaDoor
open Go.RowKit
open Tl (Lk okM okL validT validT_iff freeT)

theorem heap_alloc_new2 (w : World) (o o' : Obj) : ((w.alloc o).alloc o').heap[w.heap.size + 1]? = some o' := by
  rw [show w.heap.size + 1 = (w.alloc o).heap.size by simp]
  exact heap_alloc_new _ _
theorem freeT_yes {l : List Lk} {k : Nat} {x : Lk} {v : Int} (hx : l[k]? = some x) (h1 : x.who ≠ v) : freeT (l.take (k + 1)) v = freeT (l.take k) v ++ [x] := by
  unfold freeT; rw [take_succ_of hx, List.filter_append]; simp [h1]
theorem freeT_no {l : List Lk} {k : Nat} {x : Lk} {v : Int} (hx : l[k]? = some x) (h : x.who = v) : freeT (l.take (k + 1)) v = freeT (l.take k) v := by
  unfold freeT; rw [take_succ_of hx, List.filter_append]; simp [h]
theorem freeT_len (l : List Lk) (v : Int) (k : Nat) : (freeT (l.take k) v).length ≤ k := by
  unfold freeT
  exact Nat.le_trans (List.length_filter_le _ _) (by rw [List.length_take]; exact Nat.min_le_left _ _)
def freeL (l : List Lk) (who : Int) : List Lk := if validT l then freeT l who else []
theorem freeL_valid {l : List Lk} (h : validT l = true) (who : Int) : freeL l who = freeT l who := by unfold freeL; rw [h, if_pos rfl]
theorem freeL_len (l : List Lk) (who : Int) : (freeL l who).length ≤ l.length := by
  unfold freeL freeT
  split
  · exact List.length_filter_le _ _
  · simp

theorem freeLocks_any (A : Option Addr) (c : Nat) (l : List Lk) (who : Int) (w : World) (hn : l.length ≤ 100000) (hcap : l.length ≤ c) (hT : TabT w) (hr : Rd w w.heap.size 3 A l.length (lks l)) :
    Calls Tryd.prog 23 #[.slice A l.length c, .int .i64 who] w (PLks w (freeL l who)) := by
  cases hv : validT l
  · have he : freeL l who = [] := by simp [freeL, hv]
    rw [he]
    clear he
    go_enter Tryd.func23, Tryd.ntmps23
    go_wp2_with fail
    refine (validTable_any A c l _ hn hcap hT hr).mono ?_
    rintro e w1 ⟨rfl, hb1⟩
    rw [hv]
    go_wp2
    go_ret
    exact ⟨none, 0, rfl, World.ownsRow_nil _ _ _ _, hb1⟩
  · rw [freeL_valid hv]
    go_enter Tryd.func23, Tryd.ntmps23
    go_wp2_with fail
    refine (validTable_any A c l _ hn hcap hT hr).mono ?_
    rintro e w1 ⟨rfl, hb1⟩
    rw [hv]
    have hr1 := hr.step hb1
    clear hv hr hT
    go_wp2
    go_loopg [5, 13] l.length (fun gk ov s13 wr => ∃ (k m : Nat) (A' : Option Addr) (c' : Nat), k ≤ l.length ∧ gk = l.length - k ∧ s13 = .int .i64 k ∧ ov = .slice A' m c' ∧ Hid (m = (freeT (l.take k) who).length) ∧
      wr.ownsRow w1.heap.size 28 3 ov m (lks (freeT (l.take k) who)) ∧ Below w1.heap.size w1 wr)
    case atStart => exact ⟨0, 0, none, 0, Nat.zero_le _, rfl, rfl, rfl, rfl, World.ownsRow_nil _ _ _ _, Below.refl _ _⟩
    case round =>
      obtain ⟨k, m, A', c', hk, rfl, rfl, rfl, HM, hown, hb⟩ := hrel
      by_cases hlt : k < l.length
      · obtain ⟨b, off, x, rfl, hbl, hx, hc1, hc2, hc3⟩ := (hr1.below hb).lk hlt
        have hml := freeT_len l who k
        have hb2 := hb.alloc hb.size (.cells #[.int .i64 x.who, .int .i64 x.node, .int .i64 x.mode] 28)
        have hown2 := hown.alloc (.cells #[.int .i64 x.who, .int .i64 x.node, .int .i64 x.mode] 28)
        by_cases h1 : x.who = who
        · have h1' : (x.who != who) = false := by simp [h1]
          have HN := Lib.hid (freeT_no hx h1)
          clear hx h1
          go_wp2
          go_roundg (l.length - (k + 1))
          case measure => omega
          case rel => exact ⟨k + 1, m, A', c', by omega, rfl, by go_num, rfl, by rw [HN.out]; exact HM, by rw [HN.out]; exact hown2, hb2⟩
        · have h1' : (x.who != who) = true := by simp [h1]
          have HN := Lib.hid (freeT_yes hx h1)
          clear hx h1
          obtain rfl := HM.out
          clear HM
          go_wp2_with (at_builtin; refine wpList_push_lk rfl _ _ rfl x rfl (hown2.alloc _) rfl (heap_alloc_new2 wr _ _) (by omega) (by simp; have := hb.size; omega) ?_; intro A2 c2 w2 ho2 hb3 _)
          have hb4 := (hb2.alloc hb2.size (.cells #[.int .i64 x.who, .int .i64 x.node, .int .i64 x.mode] 28)).trans hb3
          rw [← HN.out] at ho2
          clear hown hown2 hb hb2 hb3 hc1 hc2 hc3
          go_wp2
          go_roundg (l.length - (k + 1))
          case measure => omega
          case rel => exact ⟨k + 1, (freeT (l.take k) who).length + 1, A2, c2, by omega, rfl, by go_num, rfl, by show _ = _; rw [HN.out, List.length_append]; rfl, ho2, hb4⟩
      · rw [take_all hlt] at hown HM
        have hb4 := below_then hb1 hb hb1.size
        have ho4 := own_base hown hb1.size
        obtain rfl := HM.out
        clear HM hown hb
        go_wp2
        go_ret
        exact ⟨A', c', rfl, ho4, hb4⟩

theorem sfreeLocks_any (A : Option Addr) (c : Nat) (l : List Lk) (who : Int) (w : World) (hn : l.length ≤ 100000) (hr : Rd w w.heap.size 3 A l.length (lks l)) :
    Calls Tryd.prog 25 #[.slice A l.length c, .int .i64 who] w (PLks w (freeL l who)) := by
  have hb0 := (Below.refl w.heap.size w).alloc (Nat.le_refl _) (.cells #[] 28)
  have hr0 := (hr.below hb0).more hb0.size
  cases hv : validT l
  · have he : freeL l who = [] := by simp [freeL, hv]
    rw [he]
    clear he
    go_enter Tryd.func25, Tryd.ntmps25
    go_wp2_with fail
    refine (svalidTable0_any A c l _ hn hr0).mono ?_
    rintro e w1 ⟨rfl, hb1⟩
    have hb2 := hb0.trans (hb1.mono hb0.size)
    rw [hv]
    go_wp2
    go_ret
    exact ⟨none, 0, rfl, World.ownsRow_nil _ _ _ _, hb2⟩
  · rw [freeL_valid hv]
    go_enter Tryd.func25, Tryd.ntmps25
    go_wp2_with fail
    refine (svalidTable0_any A c l _ hn hr0).mono ?_
    rintro e w1 ⟨rfl, hb1⟩
    have hb2 := hb0.trans (hb1.mono hb0.size)
    have hown0 := own_below (own_lit0 w 28 3 (base := w.heap.size) (Nat.le_refl _)) hb1 (Nat.le_refl _)
    rw [hv]
    have hrk := hr
    clear hv hr hr0 hb0 hb1
    go_wp2
    go_loopg [5, 6] l.length (fun gk ov s13 wr => ∃ (k m : Nat) (A' : Option Addr) (c' : Nat), k ≤ l.length ∧ gk = l.length - k ∧ s13 = .int .i64 k ∧ ov = .slice A' m c' ∧ Hid (m = (freeT (l.take k) who).length) ∧
      wr.ownsRow w.heap.size 28 3 ov m (lks (freeT (l.take k) who)) ∧ Below w.heap.size w wr)
    case atStart => exact ⟨0, 0, _, 0, Nat.zero_le _, rfl, rfl, rfl, rfl, hown0, hb2⟩
    case round =>
      clear hown0 hb2
      obtain ⟨k, m, A', c', hk, rfl, rfl, rfl, HM, hown, hb⟩ := hrel
      by_cases hlt : k < l.length
      · obtain ⟨b, off, x, rfl, hbl, hx, hc1, hc2, hc3⟩ := (hrk.below hb).lk hlt
        have hml := freeT_len l who k
        by_cases h1 : x.who = who
        · have h1' : (x.who != who) = false := by simp [h1]
          have HN := Lib.hid (freeT_no hx h1)
          clear hx h1
          go_wp2
          go_roundg (l.length - (k + 1))
          case measure => omega
          case rel => exact ⟨k + 1, m, A', c', by omega, rfl, by go_num, rfl, by rw [HN.out]; exact HM, by rw [HN.out]; exact hown, hb⟩
        · have h1' : (x.who != who) = true := by simp [h1]
          have HN := Lib.hid (freeT_yes hx h1)
          clear hx h1
          obtain rfl := HM.out
          clear HM
          go_wp2_with (at_builtin; refine wpList_push_lk rfl _ _ rfl x rfl (hown.alloc _) rfl (heap_alloc_new wr _) (by omega) (by simp; have := hb.size; omega) ?_; intro A2 c2 w2 ho2 hb3 _)
          have hb4 := (hb.alloc hb.size (.cells #[.int .i64 x.who, .int .i64 x.node, .int .i64 x.mode] 28)).trans hb3
          rw [← HN.out] at ho2
          clear hown hb hb3 hc1 hc2 hc3
          go_wp2
          go_roundg (l.length - (k + 1))
          case measure => omega
          case rel => exact ⟨k + 1, (freeT (l.take k) who).length + 1, A2, c2, by omega, rfl, by go_num, rfl, by show _ = _; rw [HN.out, List.length_append]; rfl, ho2, hb4⟩
      · rw [take_all hlt] at hown HM
        obtain rfl := HM.out
        clear HM
        go_wp2
        go_ret
        exact ⟨A', c', rfl, hown, hb⟩

theorem equalLocks_same (A : Option Addr) (c : Nat) (xs : List Lk) (A' : Option Addr) (c' : Nat) (w : World) {B : Nat} (hn : xs.length ≤ 100000) (hr : Rd w B 3 A xs.length (lks xs)) (hr' : Rd w B 3 A' xs.length (lks xs)) :
    Calls Tryd.prog 24 #[.slice A xs.length c, .slice A' xs.length c'] w (PBool w true) := by
  have hl1 : ((xs.length : Int) != (xs.length : Int)) = false := by simp
  go_enter Tryd.func24, Tryd.ntmps24
  go_wp2
  go_loopg [5] xs.length (fun gk i wr => ∃ k : Nat, k ≤ xs.length ∧ gk = xs.length - k ∧ i = .int .i64 k ∧ ∃ m, wr = w.drewN m)
  case atStart => exact ⟨0, Nat.zero_le _, rfl, rfl, 0, rfl⟩
  case round =>
    obtain ⟨k, hk, rfl, rfl, m, rfl⟩ := hrel
    by_cases hlt : k < xs.length
    · obtain ⟨b, off, x, rfl, _, hx, hc1, hc2, hc3⟩ := hr.lk hlt
      obtain ⟨b', off', y, rfl, _, hy, hd1, hd2, hd3⟩ := hr'.lk hlt
      obtain rfl : x = y := Option.some.inj (hx.symm.trans hy)
      clear hr hr' hx hy
      go_wp2
      go_quiet (fail)
      go_wp2
      go_roundg (xs.length - (k + 1))
      case measure => omega
      case rel => exact ⟨k + 1, by omega, rfl, by go_num, _, (by first | rfl | exact World.drewN_drewN _ _ _)⟩
    · go_wp2
      go_ret
      exact ⟨rfl, below_drewN (Below.refl _ _) _⟩
end Go.Proofs.YtbjjlbimlhccpaaDoor
