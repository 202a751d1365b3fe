/- Contracts: spec.reached, spec.WaitsFor. -/
import Derived.Test.YtfhofincbekadaaWaitsB
namespace Go.Proofs.Ytfhofincbekadaa
open Go.RowKit
open Tl (Wt okW validW validW_iff T4 waitsFor InvQ InvP)

theorem T4_len (p : Int → Bool) (k : Nat) : ((T4.take k).filter p).length ≤ 4 := filter_T4_len p k

set_option maxRecDepth 100000 in
theorem reached_any (A : Option Addr) (c : Nat) (ws : List Wt) (who : Int) (w : World) (hn : ws.length ≤ 100000) (hok : ∀ x ∈ ws, okW x) (hr : Rd w w.heap.size 2 A ws.length (wts ws)) :
    Calls Try.prog 47 #[.slice A ws.length c, .int .i64 who] w (PInts w (waitsFor ws who)) := by
  go_enter Try.func47, Try.ntmps47
  go_wp2
  go_loopg [5, 6, 7] 5 (fun gk v u iv wr => ∃ (i : Nat) (seen : List Int) (A1 : Option Addr) (c1 : Nat) (A2 : Option Addr) (c2 : Nat), gk = 5 - i ∧ i ≤ seen.length + 1 ∧ iv = .int .i64 i ∧ v = .slice A1 seen.length c1 ∧ u = .slice A2 (seen.length + 1) c2 ∧
    InvQ ws who seen i ∧ wr.ownsRow w.heap.size 3 1 v seen.length (ints seen) ∧ wr.ownsRow w.heap.size 3 1 u (seen.length + 1) (ints (who :: seen)) ∧ Ap v u ∧ Below w.heap.size w wr)
  case atStart =>
    refine ⟨0, [], some ⟨w.heap.size, 0, none⟩, 0, some ⟨w.heap.size + 1, 0, none⟩, 1, rfl, by simp, rfl, rfl, rfl, InvQ.start ws who, ?_, ?_, ?_, ?_⟩
    · exact (own_lit0 w 3 1 (Nat.le_refl _)).alloc _
    · exact own_lit1' w _ 3 (.int .i64 who) (by omega)
    · right; right; simp [Value.ownBlock]
    · exact ((Below.refl _ _).alloc (Nat.le_refl _) _).alloc (by simp) _
  case round =>
    obtain ⟨i, seen, A1, c1, A2, c2, rfl, hi, rfl, rfl, rfl, hinv, hown1, hown2, hap, hb⟩ := hrel
    have hsl := hinv.len
    by_cases hlt : i < seen.length + 1
    · obtain ⟨a, ha⟩ : ∃ a, (who :: seen)[i]? = some a := ⟨_, List.getElem?_eq_getElem (by simpa using hlt)⟩
      have HI := Lib.hid (hinv.round ha)
      have HA := Lib.hid ha
      clear hinv ha
      have hd : decide ((i : Int) < (seen.length : Int) + 1) = true := by simp; omega
      go_wp2
      clear hd
      obtain ⟨wo, rfl⟩ : ∃ wo : World, wo = wr := ⟨_, rfl⟩
      go_loopg [5, 6, 8] ws.length (fun gi v u kv wr => ∃ (k : Nat) (seen : List Int) (A1 : Option Addr) (c1 : Nat) (A2 : Option Addr) (c2 : Nat), gi = ws.length - k ∧ k ≤ ws.length ∧ kv = .int .i64 k ∧ v = .slice A1 seen.length c1 ∧ u = .slice A2 (seen.length + 1) c2 ∧
        Hid (InvP ws who seen i a k) ∧ wr.ownsRow w.heap.size 3 1 v seen.length (ints seen) ∧ wr.ownsRow w.heap.size 3 1 u (seen.length + 1) (ints (who :: seen)) ∧ Ap v u ∧ Below w.heap.size w wr)
      case atStart => exact ⟨0, seen, A1, c1, A2, c2, rfl, Nat.zero_le _, rfl, rfl, rfl, HI, hown1, hown2, hap, hb⟩
      case round =>
        clear HI hown1 hown2 hap hb HA hi hlt hsl
        obtain ⟨k, seen, A1, c1, A2, c2, rfl, hk, rfl, rfl, rfl, HI, hown1, hown2, hap, hb⟩ := hrel
        have hsl := HI.out.toInvQ.len
        have hil : i < seen.length + 1 := by
          have := (List.getElem?_eq_some_iff.1 HI.out.here).1
          simpa using this
        by_cases hlt : k < ws.length
        · obtain ⟨b, off, x, rfl, hbl, hx, hc1, hc2⟩ := (hr.below hb).wt hlt
          have hxo := hok x (List.mem_of_getElem? hx)
          obtain ⟨g, rfl, hg1, hg2, hgc⟩ := own_addr hown2 (by omega)
          have hca := hgc i (.int .i64 a) (by
            have := HI.out.here
            simp only [ints, List.getElem?_map, this, Option.map_some])
          have hrs := Rd.of_own hown1
          clear hr hgc
          have HX := Lib.hid hxo
          have HXX := Lib.hid hx
          clear hxo hx hok
          by_cases hw : x.who = a
          · have hw' : (x.who == a) = true := by simp [hw]
            have HW := Lib.hid hw
            clear hw
            by_cases hm : x.to ∈ seen
            · have HM := Lib.hid hm
              clear hm
              go_wp2
              go_quiet ((go_at_call 49; exact sisIn_q true (by omega) hrs (by simp [HM.out])))
              go_wp2
              go_roundg (ws.length - (k + 1))
              case measure => omega
              case rel => exact ⟨k + 1, seen, A1, c1, _, c2, rfl, by omega, by go_num, rfl, rfl, HI.out.skip HXX.out (fun _ => HM.out), own_drewN hown1 _, own_drewN hown2 _, hap, below_drewN hb _⟩
            · have HM := Lib.hid hm
              clear hm
              go_wp2
              go_quiet ((go_at_call 49; exact sisIn_q false (by omega) hrs (by simp [HM.out])))
              go_wp2_with (first
                | (at_builtin; refine wpList_push_int rfl (.tmp 46) (.tmp 52) rfl rfl (own_drewN hown1 _) rfl rfl (by omega) hb.size ?_; intro A3 c3 w2 ho1 hb2 hT
                   obtain ⟨ho2, hap2⟩ := hT (own_drewN hown2 _) hap
                   have hc3 := (hb2.cell (p := ⟨b, off + k * 2 + 1, none⟩) hbl).trans hc2
                   have hb3 := (below_drewN hb _).trans hb2
                   clear hT hown1 hown2 hap hb2 hc1 hc2 hca hb hrs)
                | (at_builtin; refine wpList_push_int (xs := who :: seen) rfl (.tmp 54) (.tmp 60) rfl rfl ho2 rfl rfl (by simp; omega) hb3.size ?_; intro A4 c4 w3 ho4 hb4 hT))
              obtain ⟨ho1', hap4⟩ := hT ho1 hap2.symm
              have hb5 := hb3.trans hb4
              clear hT ho1 ho2 hap2 hb3 hb4 hc3
              go_wp2
              go_roundg (ws.length - (k + 1))
              case measure => omega
              case rel =>
                refine ⟨k + 1, seen ++ [x.to], A3, c3, A4, c4, rfl, by omega, by go_num, by simp, by simp, HI.out.push HXX.out HW.out HX.out HM.out, by simpa using ho1', by simpa using ho4, hap4.symm, hb5⟩
          · have hw' : (x.who == a) = false := by simp [hw]
            have HW := Lib.hid hw
            clear hw
            go_wp2
            go_quiet (fail)
            go_wp2
            go_roundg (ws.length - (k + 1))
            case measure => omega
            case rel => exact ⟨k + 1, seen, A1, c1, _, c2, rfl, by omega, by go_num, rfl, rfl, HI.out.skip HXX.out (fun h => absurd h HW.out), own_drewN hown1 _, own_drewN hown2 _, hap, below_drewN hb _⟩
        · go_wp2
          go_roundg (5 - (i + 1))
          case measure => omega
          case rel => exact ⟨i + 1, seen, A1, c1, A2, c2, rfl, by omega, by go_num, rfl, rfl, HI.out.end_ (by omega), hown1, hown2, hap, hb⟩
    · have HE := Lib.hid (hinv.list (i := i) (by simp; omega))
      have hrs := Rd.of_own hown1
      clear hinv hok
      go_wp2
      obtain ⟨wo, rfl⟩ : ∃ wo : World, wo = wr := ⟨_, rfl⟩
      go_loopg [9, 10] 4 (fun gk v i wr => ∃ (k : Nat) (A : Option Addr) (c : Nat), k ≤ 4 ∧ gk = 4 - k ∧ i = .int .i64 k ∧ v = .slice A ((T4.take k).filter (fun t => decide (t ∈ seen))).length c ∧
        wr.ownsRow wo.heap.size 3 1 v ((T4.take k).filter (fun t => decide (t ∈ seen))).length (ints ((T4.take k).filter (fun t => decide (t ∈ seen)))) ∧ Below wo.heap.size wo wr)
      case atStart => exact ⟨0, _, 0, by omega, rfl, rfl, rfl, own_lit0 wo 3 1 (Nat.le_refl _), (Below.refl _ _).alloc (Nat.le_refl _) _⟩
      case round =>
        obtain ⟨k, A, c, hk, rfl, rfl, rfl, hown, hb2⟩ := hrel
        have hrs2 := hrs.below hb2
        have hl := filter_T4_len (fun t => decide (t ∈ seen)) k
        by_cases hlt : k < 4
        · cases hS : decide ((k : Int) ∈ seen)
          · have HS := Lib.hid (filter_snoc_no (S := fun t => decide (t ∈ seen)) hlt hS)
            go_wp2_with fail
            refine (sisIn_any A1 c1 seen (k : Int) _ (by omega) hrs2).mono ?_
            rintro e w' ⟨rfl, rfl⟩
            rw [hS]
            go_wp2
            go_roundg (4 - (k + 1))
            case measure => omega
            case rel => exact ⟨k + 1, A, c, by omega, rfl, by go_num, by rw [HS.out], by rw [HS.out]; exact hown, hb2⟩
          · have HS := Lib.hid (filter_snoc_yes (S := fun t => decide (t ∈ seen)) hlt hS)
            go_wp2_with fail
            refine (sisIn_any A1 c1 seen (k : Int) _ (by omega) hrs2).mono ?_
            rintro e w' ⟨rfl, rfl⟩
            rw [hS]
            clear hrs2
            go_wp2_with (at_builtin; refine wpList_push_int rfl _ _ rfl rfl hown rfl rfl (by omega) hb2.size ?_; intro A' c' w' ho' hb' _)
            have hb3 := hb2.trans hb'
            clear hb2 hb' hown
            go_wp2
            go_roundg (4 - (k + 1))
            case measure => omega
            case rel => exact ⟨k + 1, A', c', by omega, rfl, by go_num, by rw [HS.out]; simp, by rw [HS.out]; simpa using ho', hb3⟩
        · have HF := Lib.hid (filter_T4_all (S := fun t => decide (t ∈ seen)) hlt)
          go_wp2
          go_ret
          rw [HF.out, HE.out] at hown
          exact ⟨A, c, ret_slice (by rw [HF.out, HE.out]), own_base hown hb.size, hb.trans (hb2.mono hb.size)⟩

theorem swaitsFor_any (A : Option Addr) (c : Nat) (ws : List Wt) (who : Int) (w : World) (hn : ws.length ≤ 100000) (hr : Rd w w.heap.size 2 A ws.length (wts ws)) :
    Calls Try.prog 24 #[.slice A ws.length c, .int .i64 who] w (PInts w (if validW ws then waitsFor ws who else [])) := by
  cases hv : validW ws
  · go_enter Try.func24, Try.ntmps24
    go_wp2_with fail
    refine (svalidWaits_any A c ws _ hn hr).mono ?_
    rintro e w1 ⟨rfl, hb1⟩
    rw [hv]
    go_wp2
    go_ret
    exact ⟨none, 0, rfl, World.ownsRow_nil _ _ _ _, hb1⟩
  · have hok := (validW_iff.1 hv).2
    go_enter Try.func24, Try.ntmps24
    go_wp2_with fail
    refine (svalidWaits_any A c ws _ hn hr).mono ?_
    rintro e w1 ⟨rfl, hb1⟩
    rw [hv]
    have HV := Lib.hid hv
    clear hv
    go_wp2_with fail
    refine (reached_any A c ws who _ hn hok ((hr.below hb1).more hb1.size)).mono ?_
    rintro e w2 ⟨A2, c2, rfl, ho2, hb2⟩
    go_wp2
    go_ret
    exact ⟨A2, c2, rfl, own_base ho2 hb1.size, hb1.trans (hb2.mono hb1.size)⟩
end Go.Proofs.Ytfhofincbekadaa
