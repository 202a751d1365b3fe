/- The walk of the law FnValidScriptsTwice. -/
import Derived.Test.YtgikfdanamjilaaLawR1
import Derived.Deep.RegionHeld3
import Derived.IntWalk
namespace Go.Proofs.Ytgikfdanamjilaa
open Go.RowKit
open Tl (Do Nd validN validSc)

theorem step_join_ss {ops : Array Oper} {o : Oper} {a : Act} {K : Act → World → Prop} {Q : Exit → Act → World → Prop} {E : Prop} {W : World}
    (hgd : o.guard = none) (s x : Operand) (ho : o.op = .call { callee := .builtin .append, args := #[s, x], argTypes := #[24, 24] })
    {base n m B g : Nat} {A2 : Option Addr} {c c2 : Nat} {xs ys : List Value} (hs : a.eval s = .slice (some ⟨g, 0, none⟩) n c) (hown : W.ownsRow base 28 1 (.slice (some ⟨g, 0, none⟩) n c) n xs)
    (hx : a.eval x = .slice A2 m c2) (hR : Rd W B 1 A2 m ys) (hone : ∀ u ∈ ys, u.oneCell' = true) (hlen : n + m ≤ 1000000) (hbase : base ≤ W.heap.size)
    (h : ∀ A' c' w', A' ≠ none → w'.ownsRow base 28 1 (.slice A' (n + m) c') (n + m) (xs ++ ys) → Below base W w' → (∀ {base2 : Nat} {e2 : TypeId} {sz2 n2 : Nat} {u : Value} {xs2 : List Value}, W.ownsRow base2 e2 sz2 u n2 xs2 → Ap (.slice (some ⟨g, 0, none⟩) n c) u → w'.ownsRow base2 e2 sz2 u n2 xs2 ∧ Ap (.slice A' (n + m) c') u) → K (a.put o.dst (.slice A' (n + m) c')) w') :
    if Region.wanted o (yielded ops a.tmps) = true then Oper.wp Try.prog o a W K Q else E := by
  have hw : Region.wanted o (yielded ops a.tmps) = true := by simp [Region.wanted, hgd]
  rw [if_pos hw]
  obtain ⟨i0, hi, hz0, hz1, hz2⟩ := info_ss
  obtain ⟨A', c', w', hr, hA, h2, h3, h4⟩ := run_join W 24 o.type 28 i0 (.slice none 0 0) 1 24 Try.underlying24 hi hz0 hz1 hz2 rfl (by decide) (by decide) hown (c2 := c2) hR hone hlen hbase
  unfold Oper.wp execOp
  simp only [ho, resolve, invoke, builtin, Sem.run_bind, Sem.run_pure, Result.andThen_ok, List.map_toArray, List.map_cons, List.map_nil, hs, hx, hr]
  exact h A' c' w' hA h2 h3 h4
theorem step_push_ss {ops : Array Oper} {o : Oper} {a : Act} {K : Act → World → Prop} {Q : Exit → Act → World → Prop} {E : Prop} {W : World}
    (hgd : o.guard = none) (s x : Operand) (ho : o.op = .call { callee := .builtin .append, args := #[s, x], argTypes := #[24, 24] })
    {base n g : Nat} {A P : Option Addr} {c k cp : Nat} {xs : List Value} (hs : a.eval s = .slice A n c) (hown : W.ownsRow base 28 1 (.slice A n c) n xs)
    (hx : a.eval x = .slice (some ⟨g, 0, none⟩) 1 1) {base2 : Nat} (hnew : W.ownsRow base2 28 1 (.slice (some ⟨g, 0, none⟩) 1 1) 1 [.slice P k cp]) (hlen : n ≤ 1000000) (hbase : base ≤ W.heap.size)
    (h : ∀ A' c' w', w'.ownsRow base 28 1 (.slice A' (n + 1) c') (n + 1) (xs ++ [.slice P k cp]) → Below base W w' → K (a.put o.dst (.slice A' (n + 1) c')) w') :
    if Region.wanted o (yielded ops a.tmps) = true then Oper.wp Try.prog o a W K Q else E := by
  obtain ⟨i0, hi, hz0, hz1, hz2⟩ := info_ss
  refine step_push 24 28 i0 (.slice none 0 0) 1 24 Try.underlying24 hi hz0 hz1 hz2 rfl (by decide) (by decide) hgd s x ho hs hown hx (new := [.slice P k cp]) (fun j u hj => hnew.cells (g := g) rfl j u hj) rfl (by intro u hu; simp at hu; subst hu; rfl) hlen hbase ?_
  intro A' c' w' ho' hb' _
  exact h A' c' w' ho' hb'

set_option maxHeartbeats 2000000 in
set_option maxRecDepth 100000 in
theorem law_FnValidScriptsTwice (A : Option Addr) (n c : Nat) (w : World) (h : Code8 w A n c) : Calls Try.prog 3 #[.slice A n c] w (PBool w true) := by
  have hle : (n : Int) ≤ 1048576 := by have := h.le; omega
  go_enter Try.func3, Try.ntmps3
  go_wp2_with fail
  refine (drawValidScripts_any A n c _ h).mono ?_
  rintro e w1 ⟨t, A1, c1, ss, A2, c2, rfl, ht1, ho1, hl, hb1⟩
  have hcap2 : ss.length ≤ c2 := by
    obtain ⟨vs, h1, _⟩ := ho1
    exact own_cap h1
  have hs1 := RdSS.of_own ho1
  clear h ho1
  go_wp2_with fail
  refine (validScripts_any A1 c1 t A2 c2 ss _ ht1.len5 ht1.cap ht1.short (by omega) ht1.rd hs1).mono ?_
  rintro e w2 ⟨rfl, hb2⟩
  have ht2 := ht1.step hb2
  have hs2 := hs1.step hb2
  have hb2 := below_then hb1 hb2 hb1.size
  clear ht1 hs1 hb1
  go_wp2_with fail
  refine (svalidScripts_any A1 c1 t A2 c2 ss _ ht2.len5 ht2.cap ht2.short (by omega) ht2.rd hs2).mono ?_
  rintro e w3 ⟨rfl, hb3⟩
  have ht3 := ht2.step hb3
  have hs3 := hs2.step hb3
  have hb3 := below_then hb2 hb3 hb2.size
  clear ht2 hs2 hb2
  have hsame : (validSc t ss != validSc t ss) = false := by simp
  have HCL := Lib.hid (svalidScripts_any A1 c1 t A2 c2 ss w3 ht3.len5 ht3.cap ht3.short (by omega) ht3.rd hs3)
  cases hv : validSc t ss
  · have HV := Lib.hid hv
    clear hv
    go_wp2_with fail
    refine HCL.out.mono ?_
    rintro e w5 ⟨rfl, hb5⟩
    have hb5 := below_then hb3 hb5 hb3.size
    rw [HV.out]
    go_wp2
    go_ret
    exact ⟨rfl, hb5⟩
  · have HV := Lib.hid hv
    clear hv
    by_cases h0 : ss.length = 0
    · have hz : ((ss.length : Int) == 0) = true := by rw [h0]; rfl
      clear h0
      go_wp2_with fail
      refine HCL.out.mono ?_
      rintro e w5 ⟨rfl, hb5⟩
      have hb5 := below_then hb3 hb5 hb3.size
      rw [HV.out]
      go_wp2
      go_ret
      exact ⟨rfl, hb5⟩
    · by_cases h4 : ss.length = 4
      · have hz : ((ss.length : Int) == 0) = false := by rw [h4]; rfl
        have hz4 : ((ss.length : Int) == 4) = true := by rw [h4]; rfl
        clear h4 h0
        go_wp2_with fail
        refine HCL.out.mono ?_
        rintro e w5 ⟨rfl, hb5⟩
        have hb5 := below_then hb3 hb5 hb3.size
        rw [HV.out]
        go_wp2
        go_ret
        exact ⟨rfl, hb5⟩
      · have hz : ((ss.length : Int) == 0) = false := by rw [beq_eq_false_iff_ne]; omega
        have hz4 : ((ss.length : Int) == 4) = false := by rw [beq_eq_false_iff_ne]; omega
        obtain ⟨vs, hvl, hR, hparts⟩ := hs3
        obtain ⟨s0, hs0⟩ : ∃ s0, ss[0]? = some s0 := ⟨_, List.getElem?_eq_getElem (by omega)⟩
        obtain ⟨v0, hv0⟩ : ∃ v0, vs[0]? = some v0 := ⟨_, List.getElem?_eq_getElem (by omega)⟩
        obtain ⟨P, cp, rfl, hP⟩ := hparts 0 _ _ hv0 hs0
        obtain ⟨b, off, rfl, hbl, hc0⟩ := hR.2 0 _ hv0
        rw [Nat.add_zero] at hc0
        have hone : ∀ u ∈ vs, u.oneCell' = true := by
          intro u hu
          obtain ⟨i, hi, rfl⟩ := List.getElem_of_mem hu
          obtain ⟨A', c', e, _⟩ := hparts i _ _ (List.getElem?_eq_getElem hi) (List.getElem?_eq_getElem (by omega : i < ss.length))
          rw [e]; rfl
        have HVV : Hid (validSc t (ss ++ [s0]) = true) := Tl.validSc_again HV.out (List.mem_of_getElem? hs0) (by omega)
        have HP := Lib.hid hparts
        have HVL := Lib.hid hvl
        have HS0 := Lib.hid hs0
        have hb0 := ((Below.refl w3.heap.size w3).alloc (Nat.le_refl _) (.cells #[] 28)).drew
        have hown := own_drew (own_lit0 w3 28 1 (Nat.le_refl _))
        have hrt := hR.below hb0
        have hb0b := (((Below.refl w3.heap.size w3).alloc (Nat.le_refl _) (.cells #[] 28)).alloc (by simp) (.cells #[.slice P s0.length cp] 28)).drew
        have hownb := own_drew ((own_lit0 w3 28 1 (Nat.le_refl _)).alloc (.cells #[.slice P s0.length cp] 28))
        have hnw := own_drew (own_lit1' w3 (.cells #[] 28) 28 (.slice P s0.length cp) (base := 0) (Nat.zero_le _))
        have hrtb := hR.below hb0b
        have hb0c := (((Below.refl w3.heap.size w3).alloc (Nat.le_refl _) (.cells #[.slice P s0.length cp] 28)).alloc (by simp) (.cells #[] 28)).drew
        have hownc := own_drew (own_lit0 (w3.alloc (.cells #[.slice P s0.length cp] 28)) 28 1 (base := w3.heap.size) (by simp))
        rw [World.size_alloc] at hownc
        have hnwc := own_drew ((own_lit1 w3 28 (.slice P s0.length cp) (base := 0) (Nat.zero_le _)).alloc (.cells #[] 28))
        have hrtc := hR.below hb0c
        have hl0 : 0 < ss.length := by omega
        have hlI : (0 : Int) < (ss.length : Int) := by omega
        have hl1 : decide ((0 : Int) < (ss.length : Int)) = true := decide_eq_true hlI
        have hl2 : decide (0 < ss.length) = true := decide_eq_true hl0
        have hfin : ∀ (w' : World) (A' : Option Addr) (c' : Nat), w'.ownsRow w3.heap.size 28 1 (.slice A' (ss.length + 1) c') (ss.length + 1) (vs ++ [.slice P s0.length cp]) → Below w3.heap.size w3 w' → RdSS w' w'.heap.size A' (ss ++ [s0]) := by
          intro w' A' c' ho hb
          refine ⟨vs ++ [.slice P s0.length cp], by simp [HVL.out], ?_, ?_⟩
          · rw [List.length_append, List.length_singleton]; exact Rd.of_own ho
          · intro i u q hu hq
            by_cases hi : i < vs.length
            · rw [List.getElem?_append_left hi] at hu
              rw [List.getElem?_append_left (by rw [← HVL.out]; exact hi)] at hq
              obtain ⟨A5, c5, e, hr5⟩ := HP.out i u q hu hq
              exact ⟨A5, c5, e, hr5.step hb⟩
            · rw [List.getElem?_append_right (by omega)] at hu
              rw [List.getElem?_append_right (by rw [← HVL.out]; omega)] at hq
              have hi0 : i - vs.length = 0 := by
                have := (List.getElem?_eq_some_iff.1 hu).1
                simp at this
                omega
              rw [hi0] at hu
              rw [← HVL.out, hi0] at hq
              have e1 := Option.some.inj hu
              have e2 := Option.some.inj hq
              subst e1 e2
              exact ⟨P, cp, rfl, hP.step hb⟩
        have HF := Lib.hid hfin
        have hlen5 : (ss ++ [s0]).length = ss.length + 1 := by simp
        have hvalid : ∀ (w' : World) (A' : Option Addr) (c' : Nat), w'.ownsRow w3.heap.size 28 1 (.slice A' (ss.length + 1) c') (ss.length + 1) (vs ++ [.slice P s0.length cp]) → Below w3.heap.size w3 w' → Calls Try.prog 6 #[.slice A1 t.length c1, .slice A' (ss.length + 1) c'] w' (PBool w' true) := by
          intro w' A' c' ho hb
          have ht := ht3.step hb
          have h5 := validScripts_any A1 c1 t A' c' (ss ++ [s0]) w' ht.len5 ht.cap ht.short (by rw [hlen5]; omega) ht.rd (HF.out w' A' c' ho hb)
          rw [hlen5, HVV.out] at h5
          exact h5
        have HVD := Lib.hid hvalid
        clear hparts hvl hs0 hv0 hR hfin hvalid hlen5 h0 h4 hP
        go_wp2
        go_region_held3 (fun w' => w'.cell? ⟨b, off, none⟩ = some (.slice P s0.length cp))
          (first | go_keep | exact hS3 | exact hS2 | exact hS1)
          (first
            | (have hZ := hown; have hZ2 := hrt; refine step_join_ss (xs := []) (by rfl) _ _ (by rfl) (by rfl) hZ (by rfl) hZ2 hone (by omega) (by simp) ?_; intro A' c' w' hne ho' hb' hk'; rw [Nat.zero_add ss.length, List.nil_append] at ho'; rw [Nat.zero_add ss.length]; have hb5 := hb0.trans hb'; have hS1 : w'.cell? ⟨b, off, none⟩ = some (.slice P s0.length cp) := (hb5.cell (p := ⟨b, off, none⟩) hbl).trans hc0; clear hZ hZ2 hne hb' hown hrt hk' hnw hownb hrtb hb0 hb0b hnwc hownc hrtc hb0c)
            | (have hZ := hownb; have hZ2 := hrtb; refine step_join_ss (xs := []) (by rfl) _ _ (by rfl) (by rfl) hZ (by rfl) hZ2 hone (by omega) (by simp; omega) ?_; intro A' c' w' hne ho' hb' hk'; rw [Nat.zero_add ss.length, List.nil_append] at ho'; rw [Nat.zero_add ss.length]; have hb5 := hb0b.trans hb'; have hnw5 := (hk' hnw (.inr (.inr (by simp [Value.ownBlock])))).1; have hS1 : w'.cell? ⟨b, off, none⟩ = some (.slice P s0.length cp) := (hb5.cell (p := ⟨b, off, none⟩) hbl).trans hc0; clear hZ hZ2 hne hb' hown hrt hk' hnw hownb hrtb hb0 hb0b hnwc hownc hrtc hb0c)
            | (have hZ := hownc; have hZ2 := hrtc; refine step_join_ss (xs := []) (by rfl) _ _ (by rfl) (by rfl) hZ (by rfl) hZ2 hone (by omega) (by simp; omega) ?_; intro A' c' w' hne ho' hb' hk'; rw [Nat.zero_add ss.length, List.nil_append] at ho'; rw [Nat.zero_add ss.length]; have hb5 := hb0c.trans hb'; have hnw5 := (hk' hnwc (.inr (.inr (by simp [Value.ownBlock])))).1; have hS1 : w'.cell? ⟨b, off, none⟩ = some (.slice P s0.length cp) := (hb5.cell (p := ⟨b, off, none⟩) hbl).trans hc0; clear hZ hZ2 hne hb' hown hrt hk' hnw hownb hrtb hb0 hb0b hnwc hownc hrtc hb0c)
            | (have hZ := ho'; refine step_push_ss (by rfl) _ _ (by rfl) (by simp [Act.eval]) (hZ.alloc _) (by rfl) (own_lit1 w' 28 (.slice P s0.length cp) (base := 0) (Nat.zero_le _)) (by omega) (by simp; have := hb5.size; omega) ?_; intro A'' c'' w'' ho'' hb''; have hb6 := (hb5.alloc hb5.size (.cells #[.slice P s0.length cp] 28)).trans hb''; have hS2 : w''.cell? ⟨b, off, none⟩ = some (.slice P s0.length cp) := (hb6.cell (p := ⟨b, off, none⟩) hbl).trans hc0; clear hZ ho' hS1 hb'')
            | (have hZ := ho'; have hZ2 := hnw5; refine step_push_ss (by rfl) _ _ (by rfl) (by simp [Act.eval]) hZ (by rfl) hZ2 (by omega) hb5.size ?_; intro A'' c'' w'' ho'' hb''; have hb6 := hb5.trans hb''; have hS2 : w''.cell? ⟨b, off, none⟩ = some (.slice P s0.length cp) := (hb6.cell (p := ⟨b, off, none⟩) hbl).trans hc0; clear hZ hZ2 hnw5 ho' hS1 hb'')
            | (have hZ := ho''; go_at_call 6; refine (HVD.out w'' A'' c'' hZ hb6).mono ?_; rintro e w9 ⟨rfl, hb9⟩; have hb10 := below_then hb6 hb9 hb6.size; have hS3 := (hb10.cell (p := ⟨b, off, none⟩) hbl).trans hc0))
        all_goals
          go_wp2
          go_ret
          exact ⟨rfl, below_then hb3 hb10 hb3.size⟩
end Go.Proofs.Ytgikfdanamjilaa
