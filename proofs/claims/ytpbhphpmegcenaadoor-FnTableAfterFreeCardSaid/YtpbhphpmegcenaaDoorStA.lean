/- Contracts: slices.Delete of one lock; doStep, TableAfter, ValidSteps. -/
import Derived.Test.YtpbhphpmegcenaaDoorTabF
import Derived.Test.YtpbhphpmegcenaaDoorSts2
import Derived.Test.YtpbhphpmegcenaaDoorPSteps
import Derived.Lib.SliceRun
import Derived.IntWalk
import Derived.Shelf.Slices.Delete
namespace Go.Proofs.YtpbhphpmegcenaaDoor
open Go.RowKit
open Tl (Lk St okM okL validT validT_iff at_ at_iff dropL hasL hasL_iff doSt runS tableAfter validS takeLock dropL_erase)

set_option linter.unusedVariables false in
theorem own_setAll {base : Nat} {e : TypeId} {sz n c g : Nat} : ∀ (vs : List Value) (o : Nat) {w : World} {xs : List Value}, w.ownsRow base e sz (.slice (some ⟨g, 0, none⟩) n c) n xs → (w.setCells g o vs).ownsRow base e sz (.slice (some ⟨g, 0, none⟩) n c) n (setAll xs o vs)
  | [], _, _, _, h => h
  | v :: r, o, w, xs, h => own_setAll r (o + 1) (own_set h v (j := o))
theorem lks_drop {l : List Lk} {k : Nat} (hk : k ≤ l.length) : (lks l).drop (k * 3) = lks (l.drop k) := by
  have h := congrArg (List.drop (k * 3)) (show lks (l.take k ++ l.drop k) = lks (l.take k) ++ lks (l.drop k) from lks_append _ _)
  rw [List.take_append_drop] at h
  rw [h, List.drop_append_of_le_length (by rw [lks_len, List.length_take]; omega), List.drop_of_length_le (by rw [lks_len, List.length_take]; omega), List.nil_append]
theorem lks_one' (ys : List Lk) : ∀ u ∈ lks ys, u.oneCell' = true := lks_one ys

set_option maxHeartbeats 2000000 in
set_option maxRecDepth 100000 in
theorem deleteLk_j {base g c : Nat} (ws : List Lk) (k j : Nat) (w : World) (hkj : k < j) (hj1 : j ≤ k + 1) (hj : j ≤ ws.length) (hcap : ws.length ≤ c) (hown : w.ownsRow base 46 3 (.slice (some ⟨g, 0, none⟩) ws.length c) ws.length (lks ws)) (hg : base ≤ g) :
    Calls Tryd.prog 71 #[.slice (some ⟨g, 0, none⟩) ws.length c, .int .i64 k, .int .i64 j] w fun e w' =>
      e = .returned (.slice (some ⟨g, 0, none⟩) (k + (ws.length - j)) c) ∧ w'.ownsRow base 46 3 (.slice (some ⟨g, 0, none⟩) (k + (ws.length - j)) c) (k + (ws.length - j)) (lks (ws.take k ++ ws.drop j)) ∧ Below base w w' := by
  have mixed : Tryd.prog.follows Departure.mixedOrders = true := by kernel_rfl
  obtain ⟨i0, hi, hz0, hz1, hz2⟩ := info_lk
  have hln := lks_len ws
  obtain ⟨news, hnews⟩ : ∃ news, news = lks (ws.drop j) := ⟨_, rfl⟩
  have hlen : news.length = (ws.length - j) * 3 := by rw [hnews, lks_len, List.length_drop]
  have hat : ∀ t, t < ws.length * 3 → (w.cell? ⟨g, t, none⟩).isSome = true := fun t ht => by rw [own_at hown (List.getElem?_eq_getElem (l := lks ws) (i := t) (by rw [hln]; omega))]; rfl
  obtain ⟨A, hA, hsrc⟩ : ∃ A : Addr, (if c = j then some (⟨g, 0, none⟩ : Addr) else some ⟨g, j * 3, none⟩) = some A ∧ Hid (∀ t u, news[t]? = some u → w.drew.cell? (A.add t) = some u) := by
    by_cases h : c = j
    · refine ⟨⟨g, 0, none⟩, by simp [h], fun t u hu => ?_⟩
      have h0 : news.length = 0 := by rw [hlen]; omega
      rw [List.length_eq_zero_iff.1 h0] at hu
      simp at hu
    · refine ⟨⟨g, j * 3, none⟩, by simp [h], fun t u hu => ?_⟩
      rw [hnews, ← lks_drop (by omega), List.getElem?_drop] at hu
      rw [Addr.add_lit]
      exact own_at hown hu
  have s1 : Hid (news.length = (ws.length - j) * 3) := hlen
  have s2 : Hid (∀ u ∈ news, u.oneCell' = true) := by rw [hnews]; exact lks_one _
  have s3 : Hid (∀ t, t < news.length → (w.drew.cell? ⟨g, 0 + k * 3 + t, none⟩).isSome = true ∧ w.drew.frozen? ⟨g, 0 + k * 3 + t, none⟩ = false) := by
    intro t ht
    rw [hlen] at ht
    rw [Nat.zero_add]
    exact ⟨hat _ (by omega), own_frozen hown _⟩
  obtain ⟨W1, hW1⟩ : ∃ W1, W1 = w.drew.setCells g (0 + k * 3) news := ⟨_, rfl⟩
  have ho1 : W1.ownsRow base 46 3 (.slice (some ⟨g, 0, none⟩) ws.length c) ws.length (setAll (lks ws) (k * 3) news) := by
    rw [hW1, Nat.zero_add]; exact own_setAll news (k * 3) (own_drew hown)
  have hb1 : Below base w W1 := by rw [hW1]; exact (Below.refl base w).drew.trans (below_setCells_own hg _ _ _)
  have hse := setAll_eq news (lks ws) (k * 3) (by rw [hlen, hln]; omega)
  have hsl : (setAll (lks ws) (k * 3) news).length = ws.length * 3 := by
    have := ho1.1; exact this
  obtain ⟨vs, hclr⟩ := run_clear W1 36 46 (.agg #[.int .i64 0, .int .i64 0, .int .i64 0]) 3 Tryd.underlying36 Tryd.zeroValue46 rfl (by decide) (by intro u hu; simp [Value.cells] at hu; rcases hu with rfl | rfl | rfl <;> rfl) g ((k + (ws.length - j)) * 3) (ws.length - (k + (ws.length - j))) (c - (k + (ws.length - j)))
    (fun t ht => by rw [own_at ho1 (List.getElem?_eq_getElem (i := (k + (ws.length - j)) * 3 + t) (by rw [hsl]; omega))]; rfl) (fun t _ => own_frozen ho1 _)
  have ho2 := own_cleared ho1 (k := k + (ws.length - j)) (o := (k + (ws.length - j)) * 3) (by omega) (Nat.le_refl _) vs
  have hfin : (setAll (lks ws) (k * 3) news).take ((k + (ws.length - j)) * 3) = lks (ws.take k ++ ws.drop j) := by
    rw [hse, lks_append, lks_take, ← hnews, List.take_append_of_le_length (by rw [List.length_append, hlen, lks_len, List.length_take]; omega), List.take_of_length_le (by rw [List.length_append, hlen, lks_len, List.length_take]; omega)]
  rw [hfin] at ho2
  have hb2 := hb1.trans (below_setCells_own hg vs ((k + (ws.length - j)) * 3) W1)
  have hW : Hid (W1 = w.drew.setCells g (0 + k * 3) news) := hW1
  have HO : Hid ((W1.setCells g ((k + (ws.length - j)) * 3) vs).ownsRow base 46 3 (.slice (some ⟨g, 0, none⟩) (k + (ws.length - j)) c) (k + (ws.length - j)) (lks (ws.take k ++ ws.drop j))) := ho2
  have hic : k ≤ c := by omega
  have hjc : j ≤ c := by omega
  clear hW1 ho1 hb1 hse hsl ho2 hfin hat hln hnews hlen hown
  go_enter Tryd.func71, Tryd.ntmps71
  go_wp2_with fail
  go_region_law_o (refine step_append_room rfl (.tmp 22) (.tmp 25) 36 rfl 46 i0 3 Tryd.underlying36 hi hz1 g 0 k c (by simp [Act.eval, Act.put]) A (ws.length - j) (c - j) news (by simp [Act.eval, Act.put]) s1.out hsrc.out s2.out (by omega) s3.out ?_; rw [← hW.out])
  go_wp2
  go_ret
  exact ⟨rfl, HO.out, hb2⟩

theorem deleteLk_any {base g c : Nat} (ws : List Lk) (k : Nat) (w : World) (hk : k < ws.length) (hcap : ws.length ≤ c) (hown : w.ownsRow base 46 3 (.slice (some ⟨g, 0, none⟩) ws.length c) ws.length (lks ws)) (hg : base ≤ g) :
    Calls Tryd.prog 71 #[.slice (some ⟨g, 0, none⟩) ws.length c, .int .i64 k, .int .i64 ((k : Int) + 1)] w fun e w' =>
      e = .returned (.slice (some ⟨g, 0, none⟩) (k + (ws.length - (k + 1))) c) ∧ w'.ownsRow base 46 3 (.slice (some ⟨g, 0, none⟩) (k + (ws.length - (k + 1))) c) (k + (ws.length - (k + 1))) (lks (ws.take k ++ ws.drop (k + 1))) ∧ Below base w w' :=
  deleteLk_j ws k (k + 1) w (by omega) (Nat.le_refl _) (by omega) hcap hown hg

theorem hasL_idx {l : List Lk} {who node : Int} (h : hasL l who node = true) : ∃ k x, lockIdx l who node = (k : Nat) ∧ l[k]? = some x ∧ at_ who node x = true := by
  rcases lockIdx_cases l who node with ⟨_, _, hm⟩ | ⟨k, x, h1, hx, hat, _, _⟩
  · obtain ⟨x, hx, h1, h2⟩ := hasL_iff.1 h
    have := hm x hx
    rw [at_iff.2 ⟨h1, h2⟩] at this
    cases this
  · exact ⟨k, x, h1, hx, hat⟩
theorem hasL_not {l : List Lk} {who node : Int} (h : hasL l who node = false) : lockIdx l who node = -1 := by
  rcases lockIdx_cases l who node with ⟨h1, _, _⟩ | ⟨k, x, _, hx, hat, _, _⟩
  · exact h1
  · have : hasL l who node = true := by unfold hasL; exact List.any_eq_true.2 ⟨x, List.mem_of_getElem? hx, hat⟩
    rw [h] at this; cases this
theorem doSt_take {l : List Lk} {s : St} (h : s.free = false) : doSt l s = takeLock l s.who s.node s.mode := by unfold doSt; rw [h]; rfl
theorem doSt_mode {l : List Lk} {s : St} (h : s.free = true) (hm : s.mode ≠ 0) : doSt l s = none := by unfold doSt; simp [h, hm]
theorem doSt_has {l : List Lk} {s : St} (h : s.free = true) (hh : hasL l s.who s.node = false) : doSt l s = none := by unfold doSt; simp [h, hh]
theorem doSt_drop {l : List Lk} {s : St} (h : s.free = true) (hm : s.mode = 0) (hh : hasL l s.who s.node = true) : doSt l s = some (dropL l s.who s.node) := by unfold doSt; simp [h, hh, hm]

theorem cell4_new (w : World) (a b c d : Value) (t : TypeId) : ∀ j u, [a, b, c, d][j]? = some u → (w.alloc (.cells #[a, b, c, d] t)).cell? ((⟨w.heap.size, 0, none⟩ : Addr).add j) = some u := by
  intro j u hj
  match j, hj with
  | 0, hj => simp at hj; subst hj; simp [Addr.add]
  | 1, hj => simp at hj; subst hj; simp [Addr.add]
  | 2, hj => simp at hj; subst hj; simp [Addr.add]
  | 3, hj => simp at hj; subst hj; simp [Addr.add]
  | j + 4, hj => simp at hj

set_option maxHeartbeats 1000000 in
set_option maxRecDepth 100000 in
theorem doStep_any (A : Option Addr) (c : Nat) (l : List Lk) (s : St) (w : World) (hn : l.length ≤ 100000) (hcap : l.length ≤ c) (hv : validT l = true) (hT : TabT w) (hJ : TabJ w) (hr : Rd w w.heap.size 3 A l.length (lks l)) :
    Calls Tryd.prog 60 #[.slice A l.length c, .agg #[.int .i64 s.who, .bool s.free, .int .i64 s.node, .int .i64 s.mode]] w (PTake w (doSt l s)) := by
  have hb0 := (Below.refl w.heap.size w).alloc (Nat.le_refl _) (.cells #[.int .i64 s.who, .bool s.free, .int .i64 s.node, .int .i64 s.mode] 29)
  have hz := cell4_new w (.int .i64 s.who) (.bool s.free) (.int .i64 s.node) (.int .i64 s.mode) 29
  have hz0 := hz 0 _ rfl
  have hz1 := hz 1 _ rfl
  have hz2 := hz 2 _ rfl
  have hz3 := hz 3 _ rfl
  have hT0 := hT.step hb0
  have hJ0 := hJ.step hb0
  have hr0 := hr.step hb0
  clear hz hT hJ hr
  cases hf : s.free with
  | false =>
    rw [doSt_take hf]
    rw [hf] at hz1 hb0 hz0 hz2 hz3 hT0 hJ0 hr0
    clear hf
    go_enter Tryd.func60, Tryd.ntmps60
    go_wp2_with fail
    refine (takeLock_any A c l s.who s.node s.mode _ hn hcap hT0 hJ0 hr0).mono ?_
    rintro e w1 ⟨A1, c1, rfl, ho1, hb1⟩
    have hb2 := below_then hb0 hb1 hb0.size
    have ho2 := own_base ho1 hb0.size
    clear ho1 hz0 hz1 hz2 hz3
    go_wp2
    go_ret2
    exact ⟨A1, c1, rfl, ho2, hb2⟩
  | true =>
    rw [hf] at hz1 hb0 hz0 hz2 hz3 hT0 hJ0 hr0
    by_cases hm : s.mode = 0
    · have hm' : (s.mode != 0) = false := by simp [hm]
      cases hh : hasL l s.who s.node with
      | false =>
        rw [doSt_has hf hh]
        have HI := Lib.hid (hasL_not hh)
        clear hf hm hh
        go_enter Tryd.func60, Tryd.ntmps60
        go_wp2_with fail
        refine (lockAt_any A c l s.who s.node _ hn hr0).mono ?_
        rintro e w1 ⟨rfl, hb1⟩
        rw [HI.out]
        have hb2 := below_then hb0 hb1 hb0.size
        clear hz0 hz1 hz2 hz3
        go_wp2
        go_ret2
        exact PTake.none_ hb2
      | true =>
        rw [doSt_drop hf hm hh]
        obtain ⟨k, x, h1, hx, hat⟩ := hasL_idx hh
        have hk := (List.getElem?_eq_some_iff.1 hx).1
        have HD := Lib.hid (dropL_erase (validT_iff.1 hv).2.2 hx hat)
        have HI := Lib.hid h1
        have hw1 : IntKind.i64.wrap ((k : Int) + 1) = (k : Int) + 1 := by rw [IntWalk.i64_in _ (by omega)]
        clear hf hm hh hx hat h1
        go_enter Tryd.func60, Tryd.ntmps60
        go_wp2_with fail
        refine (lockAt_any A c l s.who s.node _ hn hr0).mono ?_
        rintro e w1 ⟨rfl, hb1⟩
        rw [HI.out]
        have hb2 := below_then hb0 hb1 hb0.size
        have hr1 := hr0.step hb1
        clear hz0 hz1 hz2 hz3 hb1 hb0 hr0
        go_wp2_with fail
        refine (cloneLk_any A c l _ hn hr1).mono ?_
        rintro e w2 ⟨A2, c2, rfl, ho2, hb3⟩
        have hb4 := below_then hb2 hb3 hb2.size
        have ho3 := own_base ho2 hb2.size
        obtain ⟨g, rfl, hg1, hg2, _⟩ := own_addr ho3 (by omega)
        have hcap2 : l.length ≤ c2 := by obtain ⟨_, _, hv, hc⟩ := own_slice ho3; injection hv with _ _ e3; omega
        clear ho2 hb3 hb2 hr1
        go_wp2_with fail
        refine (deleteLk_any l k _ hk hcap2 ho3 hg1).mono ?_
        rintro e w3 ⟨rfl, ho4, hb5⟩
        rw [HD.out] at ho4
        have hb6 := hb4.trans hb5
        have hlen : k + (l.length - (k + 1)) = (dropL l s.who s.node).length := by
          rw [← HD.out, List.length_append, List.length_take, List.length_drop]; omega
        rw [hlen] at ho4 ⊢
        clear hlen
        go_wp2
        go_ret2
        exact ⟨_, _, rfl, ho4, hb6⟩
    · have hm' : (s.mode != 0) = true := by simp [hm]
      rw [doSt_mode hf hm]
      clear hf hm
      go_enter Tryd.func60, Tryd.ntmps60
      go_wp2
      go_ret2
      exact PTake.none_ hb0
end Go.Proofs.YtpbhphpmegcenaaDoor
