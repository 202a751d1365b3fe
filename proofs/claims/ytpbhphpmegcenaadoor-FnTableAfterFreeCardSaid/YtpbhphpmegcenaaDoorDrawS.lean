/- Contracts: the draws of schedules. -/
import Derived.Test.YtpbhphpmegcenaaDoorReader
import Derived.Test.YtpbhphpmegcenaaDoorStC
import Derived.BigQuiet
import Derived.Deep.RegionHeld3
import Derived.IntWalk
namespace Go.Proofs.YtpbhphpmegcenaaDoor
open Go.RowKit
open Tl (St validS)

def PDrawS (w : World) (g p : Nat) (e : Ending) (w' : World) : Prop :=
  ∃ (ss : List St) (A : Option Addr) (c p' : Nat), e = .returned (.slice A ss.length c) ∧ w'.ownsRow w.heap.size 29 4 (.slice A ss.length c) ss.length (sts ss) ∧ ss.length ≤ 25 ∧ Reader w' g p' ∧ p' ≤ p + 150 ∧ w.grownBy w' (some g)

theorem own_lit4 (w : World) (e : TypeId) (a b c d : Value) {base : Nat} (hb : base ≤ w.heap.size) : (w.alloc (.cells #[a, b, c, d] e)).ownsRow base e 4 (.slice (some ⟨w.heap.size, 0, none⟩) 1 1) 1 [a, b, c, d] :=
  ⟨rfl, .inr ⟨w.heap.size, 1, #[a, b, c, d], rfl, hb, heap_alloc_new w _, Nat.le_refl _, by unfold maxLen; omega, rfl, rfl⟩⟩
theorem own_lit4' (w : World) (o : Obj) (e : TypeId) (a b c d : Value) {base : Nat} (hb : base ≤ w.heap.size + 1) : ((w.alloc o).alloc (.cells #[a, b, c, d] e)).ownsRow base e 4 (.slice (some ⟨w.heap.size + 1, 0, none⟩) 1 1) 1 [a, b, c, d] := by
  have h := own_lit4 (w.alloc o) e a b c d (base := base) (by simpa using hb)
  simpa using h
theorem own_lit0' (w : World) (o : Obj) (e : TypeId) (sz : Nat) {base : Nat} (hb : base ≤ w.heap.size + 1) : ((w.alloc o).alloc (.cells #[] e)).ownsRow base e sz (.slice (some ⟨w.heap.size + 1, 0, none⟩) 0 0) 0 [] := by
  have h := own_lit0 (w.alloc o) e sz (base := base) (by simpa using hb)
  simpa using h
theorem own_some {w : World} {base : Nat} {e : TypeId} {sz n c : Nat} {A : Option Addr} {xs : List Value} (h : w.ownsRow base e sz (.slice A n c) n xs) (hne : A ≠ none) : ∃ g, A = some ⟨g, 0, none⟩ := by
  rcases h.2 with ⟨hv, _⟩ | ⟨g, cap, cur, hv, _⟩
  · injection hv with e1; exact absurd e1 hne
  · injection hv with e1; exact ⟨g, e1⟩
theorem ap_new {w : World} {base : Nat} {e : TypeId} {sz n : Nat} {u : Value} {xs : List Value} (ho : w.ownsRow base e sz u n xs) {x m c : Nat} (hx : x = w.heap.size) : Ap (.slice (some ⟨x, 0, none⟩) m c) u := by
  cases hu : u.ownBlock with
  | none => exact .inr (.inl hu)
  | some k =>
    right; right
    intro e
    have h1 := (ho.lt k hu).2
    rw [hu] at e
    simp [Value.ownBlock] at e
    omega
theorem ap_ne {g g' n c n' c' : Nat} (h : g ≠ g') : Ap (.slice (some ⟨g, 0, none⟩) n c) (.slice (some ⟨g', 0, none⟩) n' c') := by
  right; right
  intro e
  simp [Value.ownBlock] at e
  exact h e
theorem step_join_stg {ops : Array Oper} {o : Oper} {a : Act} {K : Act → World → Prop} {Q : Exit → Act → World → Prop} {E : Prop} {W : World}
    (hw : Region.wanted o (yielded ops a.tmps) = true) (s x : Operand) (ho : o.op = .call { callee := .builtin .append, args := #[s, x], argTypes := #[23, 23] })
    {base n m B g : Nat} {A2 : Option Addr} {c c2 : Nat} {xs ys : List St} (hs : a.eval s = .slice (some ⟨g, 0, none⟩) n c) (hown : W.ownsRow base 29 4 (.slice (some ⟨g, 0, none⟩) n c) n (sts xs))
    (hx : a.eval x = .slice A2 m c2) (hR : Rd W B 4 A2 m (sts ys)) (hlen : n + m ≤ 1000000) (hbase : base ≤ W.heap.size)
    (h : ∀ A' c' w', A' ≠ none → w'.ownsRow base 29 4 (.slice A' (n + m) c') (n + m) (sts (xs ++ ys)) → Below base W w' → (∀ {base2 : Nat} {e2 : TypeId} {sz2 n2 : Nat} {u : Value} {xs2 : List Value}, W.ownsRow base2 e2 sz2 u n2 xs2 → Ap (.slice (some ⟨g, 0, none⟩) n c) u → w'.ownsRow base2 e2 sz2 u n2 xs2 ∧ Ap (.slice A' (n + m) c') u) → K (a.put o.dst (.slice A' (n + m) c')) w') :
    if Region.wanted o (yielded ops a.tmps) = true then Oper.wp Tryd.prog o a W K Q else E := by
  rw [if_pos hw]
  obtain ⟨i0, hi, hz0, hz1, hz2⟩ := info_st
  obtain ⟨A', c', w', hr, hA, h2, h3, h4⟩ := run_join W 23 o.type 29 i0 (.agg #[.int .i64 0, .bool false, .int .i64 0, .int .i64 0]) 4 32 Tryd.underlying23 hi hz0 hz1 hz2 rfl (by decide) (by decide) hown (c2 := c2) hR (sts_one ys) hlen hbase
  unfold Oper.wp execOp
  simp only [ho, resolve, invoke, builtin, Sem.run_bind, Sem.run_pure, Result.andThen_ok, List.map_toArray, List.map_cons, List.map_nil, hs, hx, hr]
  exact h A' c' w' hA (by rw [sts_append]; exact h2) h3 h4

set_option maxHeartbeats 2000000 in
set_option maxRecDepth 100000 in
theorem someSteps_any (g p : Nat) (w : World) (hr : Reader w g p) (hp : p ≤ 1000) : Calls Tryd.prog 45 #[.pointer (some ⟨g, 0, none⟩)] w (PDrawS w g p) := by
  have hgl := hr.lt
  have hg0 := grown_alloc (grown_refl w (some g)) (.cells #[] 29)
  have hr0 := hr.grown (grown_alloc (grown_refl w none) (.cells #[] 29)) (by simp)
  have hown0 := own_lit0 w 29 4 (base := w.heap.size) (Nat.le_refl _)
  go_enter Tryd.func45, Tryd.ntmps45
  go_wp2_with fail
  refine (pick_any g p 2 _ hr0 (by omega) (by omega)).mono ?_
  rintro e w1 ⟨a0, rfl, _, _, _, hr1, hg1⟩
  have hown1 := own_grown hown0 hg1 hgl
  have hgw1 := grown_trans hg0 hg1
  clear hown0 hg0 hr0 hg1 hr
  obtain ⟨wb, hwb⟩ : ∃ wb, wb = (a0 == 0) := ⟨_, rfl⟩
  have HWB := Lib.hid hwb
  go_wp2_with fail
  rw [← HWB.out]
  have hrd3 := hr1.grown (World.grownBy_alloc w1 (.cells (ints [8, 12, 5, 16, 3, 0, 24]).toArray 3) none) (by simp)
  refine (one_any g (p + 1) (some ⟨w1.heap.size, 0, none⟩) 7 [8, 12, 5, 16, 3, 0, 24] _ hrd3 (by omega) (by simp) (by simp) (lit_ints w1 [8, 12, 5, 16, 3, 0, 24] 3 (g := g) hr1.lt)).mono ?_
  rintro e w2 ⟨n, rfl, hn, hr2, hg2⟩
  have hown2 := own_grown (hown1.alloc (.cells (ints [8, 12, 5, 16, 3, 0, 24]).toArray 3)) hg2 hgl
  have hgw2 := grown_trans (grown_alloc hgw1 (.cells (ints [8, 12, 5, 16, 3, 0, 24]).toArray 3)) hg2
  have hn2 : 0 ≤ n ∧ n ≤ 24 := by simp at hn; omega
  obtain ⟨m, rfl⟩ := Int.eq_ofNat_of_zero_le hn2.1
  have hm : m ≤ 24 := by omega
  clear hown1 hgw1 hr1 hrd3 hg2 hn hn2 hwb HWB
  go_wp2
  go_loopg [3, 5] m (fun gk v i wr => ∃ (ss : List St) (A : Option Addr) (c q : Nat), i = .int .i64 gk ∧ v = .slice A ss.length c ∧ ss.length + gk ≤ 24 ∧ q + 4 * gk ≤ p + 130 ∧ gk ≤ 24 ∧
    wr.ownsRow w.heap.size 29 4 v ss.length (sts ss) ∧ Reader wr g q ∧ w.grownBy wr (some g))
  case atStart => exact ⟨[], _, 0, p + 2, rfl, rfl, by simp; omega, by omega, hm, hown2, hr2, hgw2⟩
  case round =>
    clear hown2 hr2 hgw2 hm
    obtain ⟨ss, A, c, q, rfl, rfl, hl, hq, hk24, hown, hrd, hgw⟩ := hrel
    by_cases hj : 0 < gk
    · go_wp2_with fail
      refine (pick_any g q 3 _ hrd (by omega) (by omega)).mono ?_
      rintro e w3 ⟨a, rfl, _, _, _, hrd3, hg3⟩
      have hown3 := own_grown hown hg3 hgl
      have hgw3 := grown_trans hgw hg3
      clear hown hgw hrd hg3
      go_wp2_with fail
      refine (pick_any g (q + 1) 5 _ hrd3 (by omega) (by omega)).mono ?_
      rintro e w4 ⟨b, rfl, _, _, _, hrd4, hg4⟩
      have hown4 := own_grown hown3 hg4 hgl
      have hgw4 := grown_trans hgw3 hg4
      clear hown3 hgw3 hrd3 hg4
      go_wp2_with fail
      refine (pick_any g (q + 1 + 1) 5 _ hrd4 (by omega) (by omega)).mono ?_
      rintro e w5 ⟨d, rfl, hd0, hd1, _, hrd5, hg5⟩
      have hd5 := hd1 (by omega)
      have hown5 := own_grown hown4 hg5 hgl
      have hgw5 := grown_trans hgw4 hg5
      have hgs := hgw5.size
      have hw1 : IntKind.i64.wrap (1 + d) = 1 + d := by rw [IntWalk.i64_in _ (by omega)]
      clear hown4 hgw4 hrd4 hg5 hd1
      have STEP : ∀ md : Int, Reader (w5.alloc (.cells #[.int .i64 a, .bool false, .int .i64 b, .int .i64 md] 29)) g (q + 1 + 1 + 1) ∧ (w5.alloc (.cells #[.int .i64 a, .bool false, .int .i64 b, .int .i64 md] 29)).ownsRow w.heap.size 29 4 (.slice A ss.length c) ss.length (sts ss) ∧
          w.grownBy (w5.alloc (.cells #[.int .i64 a, .bool false, .int .i64 b, .int .i64 md] 29)) (some g) ∧ (w5.alloc (.cells #[.int .i64 a, .bool false, .int .i64 b, .int .i64 md] 29)).ownsRow w.heap.size 29 4 (.slice (some ⟨w5.heap.size, 0, none⟩) 1 1) 1 [.int .i64 a, .bool false, .int .i64 b, .int .i64 md] :=
        fun md => ⟨hrd5.grown (World.grownBy_alloc w5 _ none) (by simp), hown5.alloc _, grown_alloc hgw5 _, own_lit4 w5 _ _ _ _ _ hgs⟩
      have AP5 : Ap (.slice (some ⟨w5.heap.size, 0, none⟩) 1 1) (.slice A ss.length c) := ap_new hown5 rfl
      clear hrd5 hown5 hgw5
      cases wb
      · go_wp2_with fail
        obtain ⟨hrd6, hown6, hgw6, hS6⟩ := STEP (1 + d)
        refine (pick_any g (q + 1 + 1 + 1) 3 _ hrd6 (by omega) (by omega)).mono ?_
        rintro e w7 ⟨r, rfl, _, _, _, hrd7, hg7⟩
        have hown7 := own_grown hown6 hg7 hgl
        have hS7 := own_grown hS6 hg7 hgl
        have hgw7 := grown_trans hgw6 hg7
        have hg6lt7 := (hS7.lt _ rfl).2
        clear hrd6 hown6 hgw6 hS6 hg7
        obtain ⟨g6, hg6⟩ : ∃ g6, g6 = w5.heap.size := ⟨_, rfl⟩
        rw [← hg6] at hS7 hg6lt7 hgs AP5 ⊢
        by_cases hr0 : r = 0
        · have hr0' : (r == 0) = true := by simp [hr0]
          have x1 := own_at hS7 (j := 1) rfl
          have x3 := own_at hS7 (j := 3) rfl
          have f1 := own_frozen hS7 1
          have f3 := own_frozen hS7 3
          have hS8 := own_set (own_set hS7 (.bool true) (j := 1)) (.int .i64 0) (j := 3)
          have hb8 := ((Below.refl w.heap.size w7).setCell (p := ⟨g6, 1, none⟩) hgs (.bool true)).setCell (p := ⟨g6, 3, none⟩) hgs (.int .i64 0)
          have hrd8 := hrd7.below hb8 hgl
          have hgw8 := grown_then hgw7 hb8
          have hown8 := AP5.kept (grown_trans (grown_setCell' w7 ⟨g6, 1, none⟩ (.bool true)) (grown_setCell' _ ⟨g6, 3, none⟩ (.int .i64 0))) hown7
          clear hr0 hg6 hb8
          go_wp2
          obtain ⟨w8, hw8⟩ : ∃ w8, w8 = (w7.setCell ⟨g6, 1, none⟩ (.bool true)).setCell ⟨g6, 3, none⟩ (.int .i64 0) := ⟨_, rfl⟩
          rw [← hw8] at hS8 hown8 hrd8 hgw8 ⊢
          have hg6lt := (hS8.lt _ rfl).2
          have hownS8 : w8.ownsRow w.heap.size 29 4 (.slice (some ⟨g6, 0, none⟩) 1 1) 1 [.int .i64 a, .bool true, .int .i64 b, .int .i64 0] := hS8
          clear hw8 hS8 hS7 hown7 hrd7 hgw7 x1 x3 f1 f3 hg6lt7
          have k0 := own_at hownS8 (j := 0) rfl
          have k1 := own_at hownS8 (j := 1) rfl
          have k2 := own_at hownS8 (j := 2) rfl
          have k3 := own_at hownS8 (j := 3) rfl
          clear hownS8
          by_cases h16 : ss.length < 16
          · have hlen : decide ((ss.length : Int) < 16) = true := decide_eq_true (by omega)
            have hR8 := Rd.of_own hown8
            have Ba := (Below.refl w8.heap.size w8).drew.alloc (Nat.le_refl _) (.cells #[] 29)
            have Bb := Ba.alloc Ba.size (.cells #[.int .i64 a, .bool true, .int .i64 b, .int .i64 0] 29)
            have Bs := (Below.refl w8.heap.size w8).drew.alloc (Nat.le_refl _) (.cells #[.int .i64 a, .bool true, .int .i64 b, .int .i64 0] 29)
            have Bc := Bs.alloc Bs.size (.cells #[] 29)
            have Ra := hR8.below Ba
            have Rb := hR8.below Bb
            have Rc := hR8.below Bc
            have oa := own_lit0 w8.drew 29 4 (base := w8.heap.size) (Nat.le_refl _)
            have ob := oa.alloc (.cells #[.int .i64 a, .bool true, .int .i64 b, .int .i64 0] 29)
            have oc := own_lit0' w8.drew (.cells #[.int .i64 a, .bool true, .int .i64 b, .int .i64 0] 29) 29 4 (base := w8.heap.size) (Nat.le_succ _)
            have sb := own_lit4' w8.drew (.cells #[] 29) 29 (.int .i64 a) (.bool true) (.int .i64 b) (.int .i64 0) (base := w8.heap.size) (Nat.le_succ _)
            have sc := (own_lit4 w8.drew 29 (.int .i64 a) (.bool true) (.int .i64 b) (.int .i64 0) (base := w8.heap.size) (Nat.le_refl _)).alloc (.cells #[] 29)
            obtain ⟨t, ht, htl⟩ : ∃ t, ss ++ [(⟨a, true, b, 0⟩ : St)] = t ∧ ss.length + 1 = t.length := ⟨_, rfl, by simp⟩
            have HT := Lib.hid ht
            have HTL := Lib.hid htl
            have htn : t.length ≤ 100000 := by omega
            clear ht htl hR8
            cases hvs : validS t
            · have HVS := Lib.hid hvs
              clear hvs
              go_region_held3 (fun w' => w'.cell? ⟨g6, 0, none⟩ = some (.int .i64 a) ∧ w'.cell? ⟨g6, 1, none⟩ = some (.bool true) ∧ w'.cell? ⟨g6, 2, none⟩ = some (.int .i64 b) ∧ w'.cell? ⟨g6, 3, none⟩ = some (.int .i64 0))
                (first
                  | go_keep
                  | exact ⟨(hB7.cell (p := ⟨g6, 0, none⟩) hg6lt).trans k0, (hB7.cell (p := ⟨g6, 1, none⟩) hg6lt).trans k1, (hB7.cell (p := ⟨g6, 2, none⟩) hg6lt).trans k2, (hB7.cell (p := ⟨g6, 3, none⟩) hg6lt).trans k3⟩
                  | exact ⟨(hB''.cell (p := ⟨g6, 0, none⟩) hg6lt).trans k0, (hB''.cell (p := ⟨g6, 1, none⟩) hg6lt).trans k1, (hB''.cell (p := ⟨g6, 2, none⟩) hg6lt).trans k2, (hB''.cell (p := ⟨g6, 3, none⟩) hg6lt).trans k3⟩
                  | exact ⟨(hB'.cell (p := ⟨g6, 0, none⟩) hg6lt).trans k0, (hB'.cell (p := ⟨g6, 1, none⟩) hg6lt).trans k1, (hB'.cell (p := ⟨g6, 2, none⟩) hg6lt).trans k2, (hB'.cell (p := ⟨g6, 3, none⟩) hg6lt).trans k3⟩)
                (first
                  | (refine step_join_stg (xs := []) (ys := ss) (by rfl) _ _ (by rfl) (by rfl) (by first | exact oa | exact ob | exact oc) (by rfl) (by first | exact Ra | exact Rb | exact Rc) (by omega) (by first | (simp; done) | (simp; omega)) ?_; intro A' c' w' hne ho' hb' hap; rw [Nat.zero_add ss.length, List.nil_append] at ho'; rw [Nat.zero_add ss.length]; obtain ⟨g', rfl⟩ := own_some ho' hne; have hB' : Below w8.heap.size w8 w' := (by first | exact Ba.trans hb' | exact Bb.trans hb' | exact Bc.trans hb'))
                  | (refine step_join_stg (xs := ss) (ys := [(⟨a, true, b, 0⟩ : St)]) (by rfl) _ _ (by rfl) (by rfl) (by first | exact ho' | exact ho'.alloc _) (by rfl) (by first | exact Rd.of_own ((hap sb (ap_ne (by simp))).1) | exact Rd.of_own ((hap sc (ap_ne (by simp))).1) | exact Rd.of_own (own_lit4 w' _ _ _ _ _ (base := w8.heap.size) hB'.size)) (by omega) (by first | exact hB'.size | exact (hB'.alloc hB'.size _).size) ?_; intro A'' c'' w'' hne' ho'' hb'' _; have hB'' : Below w8.heap.size w8 w'' := (by first | exact hB'.trans hb'' | exact (hB'.alloc hB'.size _).trans hb''); rw [HT.out, HTL.out] at ho''; rw [HTL.out]; clear hap)
                  | (go_at_call 43; refine (svalidSteps0_any A'' c'' t _ htn (Rd.of_own ho'')).mono ?_; rintro e w9 ⟨rfl, hb7⟩; rw [HVS.out]; have hB7 := below_then hB'' hb7 hB''.size))
              all_goals
                have j0 := (hB7.cell (p := ⟨g6, 0, none⟩) hg6lt).trans k0
                have j1 := (hB7.cell (p := ⟨g6, 1, none⟩) hg6lt).trans k1
                have j2 := (hB7.cell (p := ⟨g6, 2, none⟩) hg6lt).trans k2
                have j3 := (hB7.cell (p := ⟨g6, 3, none⟩) hg6lt).trans k3
                have hown9 := own_below hown8 hB7 (Nat.le_refl _)
                have hrd9 := hrd8.below hB7 hrd8.lt
                have hgw9 := grown_then hgw8 (hB7.mono hgw8.size)
              all_goals
                clear j0 j1 j2 j3
                go_wp2
                go_roundg (gk - 1)
                case measure => omega
                case rel => exact ⟨ss, A, c, q + 4, by go_num, rfl, by omega, by omega, by omega, hown9, hrd9, hgw9⟩
            · have HVS := Lib.hid hvs
              clear hvs
              go_region_held3 (fun w' => w'.cell? ⟨g6, 0, none⟩ = some (.int .i64 a) ∧ w'.cell? ⟨g6, 1, none⟩ = some (.bool true) ∧ w'.cell? ⟨g6, 2, none⟩ = some (.int .i64 b) ∧ w'.cell? ⟨g6, 3, none⟩ = some (.int .i64 0))
                (first
                  | go_keep
                  | exact ⟨(hB7.cell (p := ⟨g6, 0, none⟩) hg6lt).trans k0, (hB7.cell (p := ⟨g6, 1, none⟩) hg6lt).trans k1, (hB7.cell (p := ⟨g6, 2, none⟩) hg6lt).trans k2, (hB7.cell (p := ⟨g6, 3, none⟩) hg6lt).trans k3⟩
                  | exact ⟨(hB''.cell (p := ⟨g6, 0, none⟩) hg6lt).trans k0, (hB''.cell (p := ⟨g6, 1, none⟩) hg6lt).trans k1, (hB''.cell (p := ⟨g6, 2, none⟩) hg6lt).trans k2, (hB''.cell (p := ⟨g6, 3, none⟩) hg6lt).trans k3⟩
                  | exact ⟨(hB'.cell (p := ⟨g6, 0, none⟩) hg6lt).trans k0, (hB'.cell (p := ⟨g6, 1, none⟩) hg6lt).trans k1, (hB'.cell (p := ⟨g6, 2, none⟩) hg6lt).trans k2, (hB'.cell (p := ⟨g6, 3, none⟩) hg6lt).trans k3⟩)
                (first
                  | (refine step_join_stg (xs := []) (ys := ss) (by rfl) _ _ (by rfl) (by rfl) (by first | exact oa | exact ob | exact oc) (by rfl) (by first | exact Ra | exact Rb | exact Rc) (by omega) (by first | (simp; done) | (simp; omega)) ?_; intro A' c' w' hne ho' hb' hap; rw [Nat.zero_add ss.length, List.nil_append] at ho'; rw [Nat.zero_add ss.length]; obtain ⟨g', rfl⟩ := own_some ho' hne; have hB' : Below w8.heap.size w8 w' := (by first | exact Ba.trans hb' | exact Bb.trans hb' | exact Bc.trans hb'))
                  | (refine step_join_stg (xs := ss) (ys := [(⟨a, true, b, 0⟩ : St)]) (by rfl) _ _ (by rfl) (by rfl) (by first | exact ho' | exact ho'.alloc _) (by rfl) (by first | exact Rd.of_own ((hap sb (ap_ne (by simp))).1) | exact Rd.of_own ((hap sc (ap_ne (by simp))).1) | exact Rd.of_own (own_lit4 w' _ _ _ _ _ (base := w8.heap.size) hB'.size)) (by omega) (by first | exact hB'.size | exact (hB'.alloc hB'.size _).size) ?_; intro A'' c'' w'' hne' ho'' hb'' _; have hB'' : Below w8.heap.size w8 w'' := (by first | exact hB'.trans hb'' | exact (hB'.alloc hB'.size _).trans hb''); rw [HT.out, HTL.out] at ho''; rw [HTL.out]; clear hap)
                  | (go_at_call 43; refine (svalidSteps0_any A'' c'' t _ htn (Rd.of_own ho'')).mono ?_; rintro e w9 ⟨rfl, hb7⟩; rw [HVS.out]; have hB7 := below_then hB'' hb7 hB''.size))
              all_goals
                have j0 := (hB7.cell (p := ⟨g6, 0, none⟩) hg6lt).trans k0
                have j1 := (hB7.cell (p := ⟨g6, 1, none⟩) hg6lt).trans k1
                have j2 := (hB7.cell (p := ⟨g6, 2, none⟩) hg6lt).trans k2
                have j3 := (hB7.cell (p := ⟨g6, 3, none⟩) hg6lt).trans k3
                have hown9 := own_below hown8 hB7 (Nat.le_refl _)
                have hrd9 := hrd8.below hB7 hrd8.lt
                have hgw9 := grown_then hgw8 (hB7.mono hgw8.size)
              all_goals
                go_wp2_with (at_builtin; refine wpList_push_st rfl _ _ rfl (⟨a, true, b, 0⟩ : St) rfl (hown9.alloc _) rfl (heap_alloc_new w9 _) (by omega) (by simp; have := hgw9.size; omega) ?_; intro A3 c3 w3' ho3 hb3 _)
                have hb4 := ((Below.refl w.heap.size w9).alloc hgw9.size (.cells #[.int .i64 a, .bool true, .int .i64 b, .int .i64 0] 29)).trans hb3
                have hrd10 := hrd9.below hb4 hgl
                have hgw10 := grown_then hgw9 hb4
                clear hown9 hrd9 hgw9 hb3 hb4 j0 j1 j2 j3
                go_wp2
                go_roundg (gk - 1)
                case measure => omega
                case rel => exact ⟨ss ++ [(⟨a, true, b, 0⟩ : St)], A3, c3, q + 4, by go_num, (by rw [List.length_append]; rfl), by simp; omega, by omega, by omega, by simpa using ho3, hrd10, hgw10⟩
          · have hlen : decide ((ss.length : Int) < 16) = false := decide_eq_false (by omega)
            clear k0 k1 k2 k3
            go_quiet (fail)
            go_wp2
            go_roundg (gk - 1)
            case measure => omega
            case rel => exact ⟨ss, A, c, q + 4, by go_num, rfl, by omega, by omega, by omega, own_drewN hown8 _, hrd8.drewN _, grown_drewN hgw8 _⟩
        · have hr0' : (r == 0) = false := by simp [hr0]
          obtain ⟨w8, rfl⟩ : ∃ w8 : World, w8 = w7 := ⟨_, rfl⟩
          have hownS8 := hS7
          have hg6lt := hg6lt7
          have hown8 := hown7
          have hrd8 := hrd7
          have hgw8 := hgw7
          clear hr0 hg6 hS7 hown7 hrd7 hgw7 hg6lt7
          go_wp2
          have k0 := own_at hownS8 (j := 0) rfl
          have k1 := own_at hownS8 (j := 1) rfl
          have k2 := own_at hownS8 (j := 2) rfl
          have k3 := own_at hownS8 (j := 3) rfl
          clear hownS8
          by_cases h16 : ss.length < 16
          · have hlen : decide ((ss.length : Int) < 16) = true := decide_eq_true (by omega)
            have hR8 := Rd.of_own hown8
            have Ba := (Below.refl w8.heap.size w8).drew.alloc (Nat.le_refl _) (.cells #[] 29)
            have Bb := Ba.alloc Ba.size (.cells #[.int .i64 a, .bool false, .int .i64 b, .int .i64 (1 + d)] 29)
            have Bs := (Below.refl w8.heap.size w8).drew.alloc (Nat.le_refl _) (.cells #[.int .i64 a, .bool false, .int .i64 b, .int .i64 (1 + d)] 29)
            have Bc := Bs.alloc Bs.size (.cells #[] 29)
            have Ra := hR8.below Ba
            have Rb := hR8.below Bb
            have Rc := hR8.below Bc
            have oa := own_lit0 w8.drew 29 4 (base := w8.heap.size) (Nat.le_refl _)
            have ob := oa.alloc (.cells #[.int .i64 a, .bool false, .int .i64 b, .int .i64 (1 + d)] 29)
            have oc := own_lit0' w8.drew (.cells #[.int .i64 a, .bool false, .int .i64 b, .int .i64 (1 + d)] 29) 29 4 (base := w8.heap.size) (Nat.le_succ _)
            have sb := own_lit4' w8.drew (.cells #[] 29) 29 (.int .i64 a) (.bool false) (.int .i64 b) (.int .i64 (1 + d)) (base := w8.heap.size) (Nat.le_succ _)
            have sc := (own_lit4 w8.drew 29 (.int .i64 a) (.bool false) (.int .i64 b) (.int .i64 (1 + d)) (base := w8.heap.size) (Nat.le_refl _)).alloc (.cells #[] 29)
            obtain ⟨t, ht, htl⟩ : ∃ t, ss ++ [(⟨a, false, b, (1 + d)⟩ : St)] = t ∧ ss.length + 1 = t.length := ⟨_, rfl, by simp⟩
            have HT := Lib.hid ht
            have HTL := Lib.hid htl
            have htn : t.length ≤ 100000 := by omega
            clear ht htl hR8
            cases hvs : validS t
            · have HVS := Lib.hid hvs
              clear hvs
              go_region_held3 (fun w' => w'.cell? ⟨g6, 0, none⟩ = some (.int .i64 a) ∧ w'.cell? ⟨g6, 1, none⟩ = some (.bool false) ∧ w'.cell? ⟨g6, 2, none⟩ = some (.int .i64 b) ∧ w'.cell? ⟨g6, 3, none⟩ = some (.int .i64 (1 + d)))
                (first
                  | go_keep
                  | exact ⟨(hB7.cell (p := ⟨g6, 0, none⟩) hg6lt).trans k0, (hB7.cell (p := ⟨g6, 1, none⟩) hg6lt).trans k1, (hB7.cell (p := ⟨g6, 2, none⟩) hg6lt).trans k2, (hB7.cell (p := ⟨g6, 3, none⟩) hg6lt).trans k3⟩
                  | exact ⟨(hB''.cell (p := ⟨g6, 0, none⟩) hg6lt).trans k0, (hB''.cell (p := ⟨g6, 1, none⟩) hg6lt).trans k1, (hB''.cell (p := ⟨g6, 2, none⟩) hg6lt).trans k2, (hB''.cell (p := ⟨g6, 3, none⟩) hg6lt).trans k3⟩
                  | exact ⟨(hB'.cell (p := ⟨g6, 0, none⟩) hg6lt).trans k0, (hB'.cell (p := ⟨g6, 1, none⟩) hg6lt).trans k1, (hB'.cell (p := ⟨g6, 2, none⟩) hg6lt).trans k2, (hB'.cell (p := ⟨g6, 3, none⟩) hg6lt).trans k3⟩)
                (first
                  | (refine step_join_stg (xs := []) (ys := ss) (by rfl) _ _ (by rfl) (by rfl) (by first | exact oa | exact ob | exact oc) (by rfl) (by first | exact Ra | exact Rb | exact Rc) (by omega) (by first | (simp; done) | (simp; omega)) ?_; intro A' c' w' hne ho' hb' hap; rw [Nat.zero_add ss.length, List.nil_append] at ho'; rw [Nat.zero_add ss.length]; obtain ⟨g', rfl⟩ := own_some ho' hne; have hB' : Below w8.heap.size w8 w' := (by first | exact Ba.trans hb' | exact Bb.trans hb' | exact Bc.trans hb'))
                  | (refine step_join_stg (xs := ss) (ys := [(⟨a, false, b, (1 + d)⟩ : St)]) (by rfl) _ _ (by rfl) (by rfl) (by first | exact ho' | exact ho'.alloc _) (by rfl) (by first | exact Rd.of_own ((hap sb (ap_ne (by simp))).1) | exact Rd.of_own ((hap sc (ap_ne (by simp))).1) | exact Rd.of_own (own_lit4 w' _ _ _ _ _ (base := w8.heap.size) hB'.size)) (by omega) (by first | exact hB'.size | exact (hB'.alloc hB'.size _).size) ?_; intro A'' c'' w'' hne' ho'' hb'' _; have hB'' : Below w8.heap.size w8 w'' := (by first | exact hB'.trans hb'' | exact (hB'.alloc hB'.size _).trans hb''); rw [HT.out, HTL.out] at ho''; rw [HTL.out]; clear hap)
                  | (go_at_call 43; refine (svalidSteps0_any A'' c'' t _ htn (Rd.of_own ho'')).mono ?_; rintro e w9 ⟨rfl, hb7⟩; rw [HVS.out]; have hB7 := below_then hB'' hb7 hB''.size))
              all_goals
                have j0 := (hB7.cell (p := ⟨g6, 0, none⟩) hg6lt).trans k0
                have j1 := (hB7.cell (p := ⟨g6, 1, none⟩) hg6lt).trans k1
                have j2 := (hB7.cell (p := ⟨g6, 2, none⟩) hg6lt).trans k2
                have j3 := (hB7.cell (p := ⟨g6, 3, none⟩) hg6lt).trans k3
                have hown9 := own_below hown8 hB7 (Nat.le_refl _)
                have hrd9 := hrd8.below hB7 hrd8.lt
                have hgw9 := grown_then hgw8 (hB7.mono hgw8.size)
              all_goals
                clear j0 j1 j2 j3
                go_wp2
                go_roundg (gk - 1)
                case measure => omega
                case rel => exact ⟨ss, A, c, q + 4, by go_num, rfl, by omega, by omega, by omega, hown9, hrd9, hgw9⟩
            · have HVS := Lib.hid hvs
              clear hvs
              go_region_held3 (fun w' => w'.cell? ⟨g6, 0, none⟩ = some (.int .i64 a) ∧ w'.cell? ⟨g6, 1, none⟩ = some (.bool false) ∧ w'.cell? ⟨g6, 2, none⟩ = some (.int .i64 b) ∧ w'.cell? ⟨g6, 3, none⟩ = some (.int .i64 (1 + d)))
                (first
                  | go_keep
                  | exact ⟨(hB7.cell (p := ⟨g6, 0, none⟩) hg6lt).trans k0, (hB7.cell (p := ⟨g6, 1, none⟩) hg6lt).trans k1, (hB7.cell (p := ⟨g6, 2, none⟩) hg6lt).trans k2, (hB7.cell (p := ⟨g6, 3, none⟩) hg6lt).trans k3⟩
                  | exact ⟨(hB''.cell (p := ⟨g6, 0, none⟩) hg6lt).trans k0, (hB''.cell (p := ⟨g6, 1, none⟩) hg6lt).trans k1, (hB''.cell (p := ⟨g6, 2, none⟩) hg6lt).trans k2, (hB''.cell (p := ⟨g6, 3, none⟩) hg6lt).trans k3⟩
                  | exact ⟨(hB'.cell (p := ⟨g6, 0, none⟩) hg6lt).trans k0, (hB'.cell (p := ⟨g6, 1, none⟩) hg6lt).trans k1, (hB'.cell (p := ⟨g6, 2, none⟩) hg6lt).trans k2, (hB'.cell (p := ⟨g6, 3, none⟩) hg6lt).trans k3⟩)
                (first
                  | (refine step_join_stg (xs := []) (ys := ss) (by rfl) _ _ (by rfl) (by rfl) (by first | exact oa | exact ob | exact oc) (by rfl) (by first | exact Ra | exact Rb | exact Rc) (by omega) (by first | (simp; done) | (simp; omega)) ?_; intro A' c' w' hne ho' hb' hap; rw [Nat.zero_add ss.length, List.nil_append] at ho'; rw [Nat.zero_add ss.length]; obtain ⟨g', rfl⟩ := own_some ho' hne; have hB' : Below w8.heap.size w8 w' := (by first | exact Ba.trans hb' | exact Bb.trans hb' | exact Bc.trans hb'))
                  | (refine step_join_stg (xs := ss) (ys := [(⟨a, false, b, (1 + d)⟩ : St)]) (by rfl) _ _ (by rfl) (by rfl) (by first | exact ho' | exact ho'.alloc _) (by rfl) (by first | exact Rd.of_own ((hap sb (ap_ne (by simp))).1) | exact Rd.of_own ((hap sc (ap_ne (by simp))).1) | exact Rd.of_own (own_lit4 w' _ _ _ _ _ (base := w8.heap.size) hB'.size)) (by omega) (by first | exact hB'.size | exact (hB'.alloc hB'.size _).size) ?_; intro A'' c'' w'' hne' ho'' hb'' _; have hB'' : Below w8.heap.size w8 w'' := (by first | exact hB'.trans hb'' | exact (hB'.alloc hB'.size _).trans hb''); rw [HT.out, HTL.out] at ho''; rw [HTL.out]; clear hap)
                  | (go_at_call 43; refine (svalidSteps0_any A'' c'' t _ htn (Rd.of_own ho'')).mono ?_; rintro e w9 ⟨rfl, hb7⟩; rw [HVS.out]; have hB7 := below_then hB'' hb7 hB''.size))
              all_goals
                have j0 := (hB7.cell (p := ⟨g6, 0, none⟩) hg6lt).trans k0
                have j1 := (hB7.cell (p := ⟨g6, 1, none⟩) hg6lt).trans k1
                have j2 := (hB7.cell (p := ⟨g6, 2, none⟩) hg6lt).trans k2
                have j3 := (hB7.cell (p := ⟨g6, 3, none⟩) hg6lt).trans k3
                have hown9 := own_below hown8 hB7 (Nat.le_refl _)
                have hrd9 := hrd8.below hB7 hrd8.lt
                have hgw9 := grown_then hgw8 (hB7.mono hgw8.size)
              all_goals
                go_wp2_with (at_builtin; refine wpList_push_st rfl _ _ rfl (⟨a, false, b, (1 + d)⟩ : St) rfl (hown9.alloc _) rfl (heap_alloc_new w9 _) (by omega) (by simp; have := hgw9.size; omega) ?_; intro A3 c3 w3' ho3 hb3 _)
                have hb4 := ((Below.refl w.heap.size w9).alloc hgw9.size (.cells #[.int .i64 a, .bool false, .int .i64 b, .int .i64 (1 + d)] 29)).trans hb3
                have hrd10 := hrd9.below hb4 hgl
                have hgw10 := grown_then hgw9 hb4
                clear hown9 hrd9 hgw9 hb3 hb4 j0 j1 j2 j3
                go_wp2
                go_roundg (gk - 1)
                case measure => omega
                case rel => exact ⟨ss ++ [(⟨a, false, b, (1 + d)⟩ : St)], A3, c3, q + 4, by go_num, (by rw [List.length_append]; rfl), by simp; omega, by omega, by omega, by simpa using ho3, hrd10, hgw10⟩
          · have hlen : decide ((ss.length : Int) < 16) = false := decide_eq_false (by omega)
            clear k0 k1 k2 k3
            go_quiet (fail)
            go_wp2
            go_roundg (gk - 1)
            case measure => omega
            case rel => exact ⟨ss, A, c, q + 4, by go_num, rfl, by omega, by omega, by omega, own_drewN hown8 _, hrd8.drewN _, grown_drewN hgw8 _⟩
      · go_wp2_with fail
        obtain ⟨hrd6, hown6, hgw6, hS6⟩ := STEP (5)
        refine (pick_any g (q + 1 + 1 + 1) 3 _ hrd6 (by omega) (by omega)).mono ?_
        rintro e w7 ⟨r, rfl, _, _, _, hrd7, hg7⟩
        have hown7 := own_grown hown6 hg7 hgl
        have hS7 := own_grown hS6 hg7 hgl
        have hgw7 := grown_trans hgw6 hg7
        have hg6lt7 := (hS7.lt _ rfl).2
        clear hrd6 hown6 hgw6 hS6 hg7
        obtain ⟨g6, hg6⟩ : ∃ g6, g6 = w5.heap.size := ⟨_, rfl⟩
        rw [← hg6] at hS7 hg6lt7 hgs AP5 ⊢
        by_cases hr0 : r = 0
        · have hr0' : (r == 0) = true := by simp [hr0]
          have x1 := own_at hS7 (j := 1) rfl
          have x3 := own_at hS7 (j := 3) rfl
          have f1 := own_frozen hS7 1
          have f3 := own_frozen hS7 3
          have hS8 := own_set (own_set hS7 (.bool true) (j := 1)) (.int .i64 0) (j := 3)
          have hb8 := ((Below.refl w.heap.size w7).setCell (p := ⟨g6, 1, none⟩) hgs (.bool true)).setCell (p := ⟨g6, 3, none⟩) hgs (.int .i64 0)
          have hrd8 := hrd7.below hb8 hgl
          have hgw8 := grown_then hgw7 hb8
          have hown8 := AP5.kept (grown_trans (grown_setCell' w7 ⟨g6, 1, none⟩ (.bool true)) (grown_setCell' _ ⟨g6, 3, none⟩ (.int .i64 0))) hown7
          clear hr0 hg6 hb8
          go_wp2
          obtain ⟨w8, hw8⟩ : ∃ w8, w8 = (w7.setCell ⟨g6, 1, none⟩ (.bool true)).setCell ⟨g6, 3, none⟩ (.int .i64 0) := ⟨_, rfl⟩
          rw [← hw8] at hS8 hown8 hrd8 hgw8 ⊢
          have hg6lt := (hS8.lt _ rfl).2
          have hownS8 : w8.ownsRow w.heap.size 29 4 (.slice (some ⟨g6, 0, none⟩) 1 1) 1 [.int .i64 a, .bool true, .int .i64 b, .int .i64 0] := hS8
          clear hw8 hS8 hS7 hown7 hrd7 hgw7 x1 x3 f1 f3 hg6lt7
          have k0 := own_at hownS8 (j := 0) rfl
          have k1 := own_at hownS8 (j := 1) rfl
          have k2 := own_at hownS8 (j := 2) rfl
          have k3 := own_at hownS8 (j := 3) rfl
          clear hownS8
          by_cases h16 : ss.length < 16
          · have hlen : decide ((ss.length : Int) < 16) = true := decide_eq_true (by omega)
            have hR8 := Rd.of_own hown8
            have Ba := (Below.refl w8.heap.size w8).drew.alloc (Nat.le_refl _) (.cells #[] 29)
            have Bb := Ba.alloc Ba.size (.cells #[.int .i64 a, .bool true, .int .i64 b, .int .i64 0] 29)
            have Bs := (Below.refl w8.heap.size w8).drew.alloc (Nat.le_refl _) (.cells #[.int .i64 a, .bool true, .int .i64 b, .int .i64 0] 29)
            have Bc := Bs.alloc Bs.size (.cells #[] 29)
            have Ra := hR8.below Ba
            have Rb := hR8.below Bb
            have Rc := hR8.below Bc
            have oa := own_lit0 w8.drew 29 4 (base := w8.heap.size) (Nat.le_refl _)
            have ob := oa.alloc (.cells #[.int .i64 a, .bool true, .int .i64 b, .int .i64 0] 29)
            have oc := own_lit0' w8.drew (.cells #[.int .i64 a, .bool true, .int .i64 b, .int .i64 0] 29) 29 4 (base := w8.heap.size) (Nat.le_succ _)
            have sb := own_lit4' w8.drew (.cells #[] 29) 29 (.int .i64 a) (.bool true) (.int .i64 b) (.int .i64 0) (base := w8.heap.size) (Nat.le_succ _)
            have sc := (own_lit4 w8.drew 29 (.int .i64 a) (.bool true) (.int .i64 b) (.int .i64 0) (base := w8.heap.size) (Nat.le_refl _)).alloc (.cells #[] 29)
            obtain ⟨t, ht, htl⟩ : ∃ t, ss ++ [(⟨a, true, b, 0⟩ : St)] = t ∧ ss.length + 1 = t.length := ⟨_, rfl, by simp⟩
            have HT := Lib.hid ht
            have HTL := Lib.hid htl
            have htn : t.length ≤ 100000 := by omega
            clear ht htl hR8
            cases hvs : validS t
            · have HVS := Lib.hid hvs
              clear hvs
              go_region_held3 (fun w' => w'.cell? ⟨g6, 0, none⟩ = some (.int .i64 a) ∧ w'.cell? ⟨g6, 1, none⟩ = some (.bool true) ∧ w'.cell? ⟨g6, 2, none⟩ = some (.int .i64 b) ∧ w'.cell? ⟨g6, 3, none⟩ = some (.int .i64 0))
                (first
                  | go_keep
                  | exact ⟨(hB7.cell (p := ⟨g6, 0, none⟩) hg6lt).trans k0, (hB7.cell (p := ⟨g6, 1, none⟩) hg6lt).trans k1, (hB7.cell (p := ⟨g6, 2, none⟩) hg6lt).trans k2, (hB7.cell (p := ⟨g6, 3, none⟩) hg6lt).trans k3⟩
                  | exact ⟨(hB''.cell (p := ⟨g6, 0, none⟩) hg6lt).trans k0, (hB''.cell (p := ⟨g6, 1, none⟩) hg6lt).trans k1, (hB''.cell (p := ⟨g6, 2, none⟩) hg6lt).trans k2, (hB''.cell (p := ⟨g6, 3, none⟩) hg6lt).trans k3⟩
                  | exact ⟨(hB'.cell (p := ⟨g6, 0, none⟩) hg6lt).trans k0, (hB'.cell (p := ⟨g6, 1, none⟩) hg6lt).trans k1, (hB'.cell (p := ⟨g6, 2, none⟩) hg6lt).trans k2, (hB'.cell (p := ⟨g6, 3, none⟩) hg6lt).trans k3⟩)
                (first
                  | (refine step_join_stg (xs := []) (ys := ss) (by rfl) _ _ (by rfl) (by rfl) (by first | exact oa | exact ob | exact oc) (by rfl) (by first | exact Ra | exact Rb | exact Rc) (by omega) (by first | (simp; done) | (simp; omega)) ?_; intro A' c' w' hne ho' hb' hap; rw [Nat.zero_add ss.length, List.nil_append] at ho'; rw [Nat.zero_add ss.length]; obtain ⟨g', rfl⟩ := own_some ho' hne; have hB' : Below w8.heap.size w8 w' := (by first | exact Ba.trans hb' | exact Bb.trans hb' | exact Bc.trans hb'))
                  | (refine step_join_stg (xs := ss) (ys := [(⟨a, true, b, 0⟩ : St)]) (by rfl) _ _ (by rfl) (by rfl) (by first | exact ho' | exact ho'.alloc _) (by rfl) (by first | exact Rd.of_own ((hap sb (ap_ne (by simp))).1) | exact Rd.of_own ((hap sc (ap_ne (by simp))).1) | exact Rd.of_own (own_lit4 w' _ _ _ _ _ (base := w8.heap.size) hB'.size)) (by omega) (by first | exact hB'.size | exact (hB'.alloc hB'.size _).size) ?_; intro A'' c'' w'' hne' ho'' hb'' _; have hB'' : Below w8.heap.size w8 w'' := (by first | exact hB'.trans hb'' | exact (hB'.alloc hB'.size _).trans hb''); rw [HT.out, HTL.out] at ho''; rw [HTL.out]; clear hap)
                  | (go_at_call 43; refine (svalidSteps0_any A'' c'' t _ htn (Rd.of_own ho'')).mono ?_; rintro e w9 ⟨rfl, hb7⟩; rw [HVS.out]; have hB7 := below_then hB'' hb7 hB''.size))
              all_goals
                have j0 := (hB7.cell (p := ⟨g6, 0, none⟩) hg6lt).trans k0
                have j1 := (hB7.cell (p := ⟨g6, 1, none⟩) hg6lt).trans k1
                have j2 := (hB7.cell (p := ⟨g6, 2, none⟩) hg6lt).trans k2
                have j3 := (hB7.cell (p := ⟨g6, 3, none⟩) hg6lt).trans k3
                have hown9 := own_below hown8 hB7 (Nat.le_refl _)
                have hrd9 := hrd8.below hB7 hrd8.lt
                have hgw9 := grown_then hgw8 (hB7.mono hgw8.size)
              all_goals
                clear j0 j1 j2 j3
                go_wp2
                go_roundg (gk - 1)
                case measure => omega
                case rel => exact ⟨ss, A, c, q + 4, by go_num, rfl, by omega, by omega, by omega, hown9, hrd9, hgw9⟩
            · have HVS := Lib.hid hvs
              clear hvs
              go_region_held3 (fun w' => w'.cell? ⟨g6, 0, none⟩ = some (.int .i64 a) ∧ w'.cell? ⟨g6, 1, none⟩ = some (.bool true) ∧ w'.cell? ⟨g6, 2, none⟩ = some (.int .i64 b) ∧ w'.cell? ⟨g6, 3, none⟩ = some (.int .i64 0))
                (first
                  | go_keep
                  | exact ⟨(hB7.cell (p := ⟨g6, 0, none⟩) hg6lt).trans k0, (hB7.cell (p := ⟨g6, 1, none⟩) hg6lt).trans k1, (hB7.cell (p := ⟨g6, 2, none⟩) hg6lt).trans k2, (hB7.cell (p := ⟨g6, 3, none⟩) hg6lt).trans k3⟩
                  | exact ⟨(hB''.cell (p := ⟨g6, 0, none⟩) hg6lt).trans k0, (hB''.cell (p := ⟨g6, 1, none⟩) hg6lt).trans k1, (hB''.cell (p := ⟨g6, 2, none⟩) hg6lt).trans k2, (hB''.cell (p := ⟨g6, 3, none⟩) hg6lt).trans k3⟩
                  | exact ⟨(hB'.cell (p := ⟨g6, 0, none⟩) hg6lt).trans k0, (hB'.cell (p := ⟨g6, 1, none⟩) hg6lt).trans k1, (hB'.cell (p := ⟨g6, 2, none⟩) hg6lt).trans k2, (hB'.cell (p := ⟨g6, 3, none⟩) hg6lt).trans k3⟩)
                (first
                  | (refine step_join_stg (xs := []) (ys := ss) (by rfl) _ _ (by rfl) (by rfl) (by first | exact oa | exact ob | exact oc) (by rfl) (by first | exact Ra | exact Rb | exact Rc) (by omega) (by first | (simp; done) | (simp; omega)) ?_; intro A' c' w' hne ho' hb' hap; rw [Nat.zero_add ss.length, List.nil_append] at ho'; rw [Nat.zero_add ss.length]; obtain ⟨g', rfl⟩ := own_some ho' hne; have hB' : Below w8.heap.size w8 w' := (by first | exact Ba.trans hb' | exact Bb.trans hb' | exact Bc.trans hb'))
                  | (refine step_join_stg (xs := ss) (ys := [(⟨a, true, b, 0⟩ : St)]) (by rfl) _ _ (by rfl) (by rfl) (by first | exact ho' | exact ho'.alloc _) (by rfl) (by first | exact Rd.of_own ((hap sb (ap_ne (by simp))).1) | exact Rd.of_own ((hap sc (ap_ne (by simp))).1) | exact Rd.of_own (own_lit4 w' _ _ _ _ _ (base := w8.heap.size) hB'.size)) (by omega) (by first | exact hB'.size | exact (hB'.alloc hB'.size _).size) ?_; intro A'' c'' w'' hne' ho'' hb'' _; have hB'' : Below w8.heap.size w8 w'' := (by first | exact hB'.trans hb'' | exact (hB'.alloc hB'.size _).trans hb''); rw [HT.out, HTL.out] at ho''; rw [HTL.out]; clear hap)
                  | (go_at_call 43; refine (svalidSteps0_any A'' c'' t _ htn (Rd.of_own ho'')).mono ?_; rintro e w9 ⟨rfl, hb7⟩; rw [HVS.out]; have hB7 := below_then hB'' hb7 hB''.size))
              all_goals
                have j0 := (hB7.cell (p := ⟨g6, 0, none⟩) hg6lt).trans k0
                have j1 := (hB7.cell (p := ⟨g6, 1, none⟩) hg6lt).trans k1
                have j2 := (hB7.cell (p := ⟨g6, 2, none⟩) hg6lt).trans k2
                have j3 := (hB7.cell (p := ⟨g6, 3, none⟩) hg6lt).trans k3
                have hown9 := own_below hown8 hB7 (Nat.le_refl _)
                have hrd9 := hrd8.below hB7 hrd8.lt
                have hgw9 := grown_then hgw8 (hB7.mono hgw8.size)
              all_goals
                go_wp2_with (at_builtin; refine wpList_push_st rfl _ _ rfl (⟨a, true, b, 0⟩ : St) rfl (hown9.alloc _) rfl (heap_alloc_new w9 _) (by omega) (by simp; have := hgw9.size; omega) ?_; intro A3 c3 w3' ho3 hb3 _)
                have hb4 := ((Below.refl w.heap.size w9).alloc hgw9.size (.cells #[.int .i64 a, .bool true, .int .i64 b, .int .i64 0] 29)).trans hb3
                have hrd10 := hrd9.below hb4 hgl
                have hgw10 := grown_then hgw9 hb4
                clear hown9 hrd9 hgw9 hb3 hb4 j0 j1 j2 j3
                go_wp2
                go_roundg (gk - 1)
                case measure => omega
                case rel => exact ⟨ss ++ [(⟨a, true, b, 0⟩ : St)], A3, c3, q + 4, by go_num, (by rw [List.length_append]; rfl), by simp; omega, by omega, by omega, by simpa using ho3, hrd10, hgw10⟩
          · have hlen : decide ((ss.length : Int) < 16) = false := decide_eq_false (by omega)
            clear k0 k1 k2 k3
            go_quiet (fail)
            go_wp2
            go_roundg (gk - 1)
            case measure => omega
            case rel => exact ⟨ss, A, c, q + 4, by go_num, rfl, by omega, by omega, by omega, own_drewN hown8 _, hrd8.drewN _, grown_drewN hgw8 _⟩
        · have hr0' : (r == 0) = false := by simp [hr0]
          obtain ⟨w8, rfl⟩ : ∃ w8 : World, w8 = w7 := ⟨_, rfl⟩
          have hownS8 := hS7
          have hg6lt := hg6lt7
          have hown8 := hown7
          have hrd8 := hrd7
          have hgw8 := hgw7
          clear hr0 hg6 hS7 hown7 hrd7 hgw7 hg6lt7
          go_wp2
          have k0 := own_at hownS8 (j := 0) rfl
          have k1 := own_at hownS8 (j := 1) rfl
          have k2 := own_at hownS8 (j := 2) rfl
          have k3 := own_at hownS8 (j := 3) rfl
          clear hownS8
          by_cases h16 : ss.length < 16
          · have hlen : decide ((ss.length : Int) < 16) = true := decide_eq_true (by omega)
            have hR8 := Rd.of_own hown8
            have Ba := (Below.refl w8.heap.size w8).drew.alloc (Nat.le_refl _) (.cells #[] 29)
            have Bb := Ba.alloc Ba.size (.cells #[.int .i64 a, .bool false, .int .i64 b, .int .i64 (5)] 29)
            have Bs := (Below.refl w8.heap.size w8).drew.alloc (Nat.le_refl _) (.cells #[.int .i64 a, .bool false, .int .i64 b, .int .i64 (5)] 29)
            have Bc := Bs.alloc Bs.size (.cells #[] 29)
            have Ra := hR8.below Ba
            have Rb := hR8.below Bb
            have Rc := hR8.below Bc
            have oa := own_lit0 w8.drew 29 4 (base := w8.heap.size) (Nat.le_refl _)
            have ob := oa.alloc (.cells #[.int .i64 a, .bool false, .int .i64 b, .int .i64 (5)] 29)
            have oc := own_lit0' w8.drew (.cells #[.int .i64 a, .bool false, .int .i64 b, .int .i64 (5)] 29) 29 4 (base := w8.heap.size) (Nat.le_succ _)
            have sb := own_lit4' w8.drew (.cells #[] 29) 29 (.int .i64 a) (.bool false) (.int .i64 b) (.int .i64 (5)) (base := w8.heap.size) (Nat.le_succ _)
            have sc := (own_lit4 w8.drew 29 (.int .i64 a) (.bool false) (.int .i64 b) (.int .i64 (5)) (base := w8.heap.size) (Nat.le_refl _)).alloc (.cells #[] 29)
            obtain ⟨t, ht, htl⟩ : ∃ t, ss ++ [(⟨a, false, b, (5)⟩ : St)] = t ∧ ss.length + 1 = t.length := ⟨_, rfl, by simp⟩
            have HT := Lib.hid ht
            have HTL := Lib.hid htl
            have htn : t.length ≤ 100000 := by omega
            clear ht htl hR8
            cases hvs : validS t
            · have HVS := Lib.hid hvs
              clear hvs
              go_region_held3 (fun w' => w'.cell? ⟨g6, 0, none⟩ = some (.int .i64 a) ∧ w'.cell? ⟨g6, 1, none⟩ = some (.bool false) ∧ w'.cell? ⟨g6, 2, none⟩ = some (.int .i64 b) ∧ w'.cell? ⟨g6, 3, none⟩ = some (.int .i64 (5)))
                (first
                  | go_keep
                  | exact ⟨(hB7.cell (p := ⟨g6, 0, none⟩) hg6lt).trans k0, (hB7.cell (p := ⟨g6, 1, none⟩) hg6lt).trans k1, (hB7.cell (p := ⟨g6, 2, none⟩) hg6lt).trans k2, (hB7.cell (p := ⟨g6, 3, none⟩) hg6lt).trans k3⟩
                  | exact ⟨(hB''.cell (p := ⟨g6, 0, none⟩) hg6lt).trans k0, (hB''.cell (p := ⟨g6, 1, none⟩) hg6lt).trans k1, (hB''.cell (p := ⟨g6, 2, none⟩) hg6lt).trans k2, (hB''.cell (p := ⟨g6, 3, none⟩) hg6lt).trans k3⟩
                  | exact ⟨(hB'.cell (p := ⟨g6, 0, none⟩) hg6lt).trans k0, (hB'.cell (p := ⟨g6, 1, none⟩) hg6lt).trans k1, (hB'.cell (p := ⟨g6, 2, none⟩) hg6lt).trans k2, (hB'.cell (p := ⟨g6, 3, none⟩) hg6lt).trans k3⟩)
                (first
                  | (refine step_join_stg (xs := []) (ys := ss) (by rfl) _ _ (by rfl) (by rfl) (by first | exact oa | exact ob | exact oc) (by rfl) (by first | exact Ra | exact Rb | exact Rc) (by omega) (by first | (simp; done) | (simp; omega)) ?_; intro A' c' w' hne ho' hb' hap; rw [Nat.zero_add ss.length, List.nil_append] at ho'; rw [Nat.zero_add ss.length]; obtain ⟨g', rfl⟩ := own_some ho' hne; have hB' : Below w8.heap.size w8 w' := (by first | exact Ba.trans hb' | exact Bb.trans hb' | exact Bc.trans hb'))
                  | (refine step_join_stg (xs := ss) (ys := [(⟨a, false, b, (5)⟩ : St)]) (by rfl) _ _ (by rfl) (by rfl) (by first | exact ho' | exact ho'.alloc _) (by rfl) (by first | exact Rd.of_own ((hap sb (ap_ne (by simp))).1) | exact Rd.of_own ((hap sc (ap_ne (by simp))).1) | exact Rd.of_own (own_lit4 w' _ _ _ _ _ (base := w8.heap.size) hB'.size)) (by omega) (by first | exact hB'.size | exact (hB'.alloc hB'.size _).size) ?_; intro A'' c'' w'' hne' ho'' hb'' _; have hB'' : Below w8.heap.size w8 w'' := (by first | exact hB'.trans hb'' | exact (hB'.alloc hB'.size _).trans hb''); rw [HT.out, HTL.out] at ho''; rw [HTL.out]; clear hap)
                  | (go_at_call 43; refine (svalidSteps0_any A'' c'' t _ htn (Rd.of_own ho'')).mono ?_; rintro e w9 ⟨rfl, hb7⟩; rw [HVS.out]; have hB7 := below_then hB'' hb7 hB''.size))
              all_goals
                have j0 := (hB7.cell (p := ⟨g6, 0, none⟩) hg6lt).trans k0
                have j1 := (hB7.cell (p := ⟨g6, 1, none⟩) hg6lt).trans k1
                have j2 := (hB7.cell (p := ⟨g6, 2, none⟩) hg6lt).trans k2
                have j3 := (hB7.cell (p := ⟨g6, 3, none⟩) hg6lt).trans k3
                have hown9 := own_below hown8 hB7 (Nat.le_refl _)
                have hrd9 := hrd8.below hB7 hrd8.lt
                have hgw9 := grown_then hgw8 (hB7.mono hgw8.size)
              all_goals
                clear j0 j1 j2 j3
                go_wp2
                go_roundg (gk - 1)
                case measure => omega
                case rel => exact ⟨ss, A, c, q + 4, by go_num, rfl, by omega, by omega, by omega, hown9, hrd9, hgw9⟩
            · have HVS := Lib.hid hvs
              clear hvs
              go_region_held3 (fun w' => w'.cell? ⟨g6, 0, none⟩ = some (.int .i64 a) ∧ w'.cell? ⟨g6, 1, none⟩ = some (.bool false) ∧ w'.cell? ⟨g6, 2, none⟩ = some (.int .i64 b) ∧ w'.cell? ⟨g6, 3, none⟩ = some (.int .i64 (5)))
                (first
                  | go_keep
                  | exact ⟨(hB7.cell (p := ⟨g6, 0, none⟩) hg6lt).trans k0, (hB7.cell (p := ⟨g6, 1, none⟩) hg6lt).trans k1, (hB7.cell (p := ⟨g6, 2, none⟩) hg6lt).trans k2, (hB7.cell (p := ⟨g6, 3, none⟩) hg6lt).trans k3⟩
                  | exact ⟨(hB''.cell (p := ⟨g6, 0, none⟩) hg6lt).trans k0, (hB''.cell (p := ⟨g6, 1, none⟩) hg6lt).trans k1, (hB''.cell (p := ⟨g6, 2, none⟩) hg6lt).trans k2, (hB''.cell (p := ⟨g6, 3, none⟩) hg6lt).trans k3⟩
                  | exact ⟨(hB'.cell (p := ⟨g6, 0, none⟩) hg6lt).trans k0, (hB'.cell (p := ⟨g6, 1, none⟩) hg6lt).trans k1, (hB'.cell (p := ⟨g6, 2, none⟩) hg6lt).trans k2, (hB'.cell (p := ⟨g6, 3, none⟩) hg6lt).trans k3⟩)
                (first
                  | (refine step_join_stg (xs := []) (ys := ss) (by rfl) _ _ (by rfl) (by rfl) (by first | exact oa | exact ob | exact oc) (by rfl) (by first | exact Ra | exact Rb | exact Rc) (by omega) (by first | (simp; done) | (simp; omega)) ?_; intro A' c' w' hne ho' hb' hap; rw [Nat.zero_add ss.length, List.nil_append] at ho'; rw [Nat.zero_add ss.length]; obtain ⟨g', rfl⟩ := own_some ho' hne; have hB' : Below w8.heap.size w8 w' := (by first | exact Ba.trans hb' | exact Bb.trans hb' | exact Bc.trans hb'))
                  | (refine step_join_stg (xs := ss) (ys := [(⟨a, false, b, (5)⟩ : St)]) (by rfl) _ _ (by rfl) (by rfl) (by first | exact ho' | exact ho'.alloc _) (by rfl) (by first | exact Rd.of_own ((hap sb (ap_ne (by simp))).1) | exact Rd.of_own ((hap sc (ap_ne (by simp))).1) | exact Rd.of_own (own_lit4 w' _ _ _ _ _ (base := w8.heap.size) hB'.size)) (by omega) (by first | exact hB'.size | exact (hB'.alloc hB'.size _).size) ?_; intro A'' c'' w'' hne' ho'' hb'' _; have hB'' : Below w8.heap.size w8 w'' := (by first | exact hB'.trans hb'' | exact (hB'.alloc hB'.size _).trans hb''); rw [HT.out, HTL.out] at ho''; rw [HTL.out]; clear hap)
                  | (go_at_call 43; refine (svalidSteps0_any A'' c'' t _ htn (Rd.of_own ho'')).mono ?_; rintro e w9 ⟨rfl, hb7⟩; rw [HVS.out]; have hB7 := below_then hB'' hb7 hB''.size))
              all_goals
                have j0 := (hB7.cell (p := ⟨g6, 0, none⟩) hg6lt).trans k0
                have j1 := (hB7.cell (p := ⟨g6, 1, none⟩) hg6lt).trans k1
                have j2 := (hB7.cell (p := ⟨g6, 2, none⟩) hg6lt).trans k2
                have j3 := (hB7.cell (p := ⟨g6, 3, none⟩) hg6lt).trans k3
                have hown9 := own_below hown8 hB7 (Nat.le_refl _)
                have hrd9 := hrd8.below hB7 hrd8.lt
                have hgw9 := grown_then hgw8 (hB7.mono hgw8.size)
              all_goals
                go_wp2_with (at_builtin; refine wpList_push_st rfl _ _ rfl (⟨a, false, b, (5)⟩ : St) rfl (hown9.alloc _) rfl (heap_alloc_new w9 _) (by omega) (by simp; have := hgw9.size; omega) ?_; intro A3 c3 w3' ho3 hb3 _)
                have hb4 := ((Below.refl w.heap.size w9).alloc hgw9.size (.cells #[.int .i64 a, .bool false, .int .i64 b, .int .i64 (5)] 29)).trans hb3
                have hrd10 := hrd9.below hb4 hgl
                have hgw10 := grown_then hgw9 hb4
                clear hown9 hrd9 hgw9 hb3 hb4 j0 j1 j2 j3
                go_wp2
                go_roundg (gk - 1)
                case measure => omega
                case rel => exact ⟨ss ++ [(⟨a, false, b, (5)⟩ : St)], A3, c3, q + 4, by go_num, (by rw [List.length_append]; rfl), by simp; omega, by omega, by omega, by simpa using ho3, hrd10, hgw10⟩
          · have hlen : decide ((ss.length : Int) < 16) = false := decide_eq_false (by omega)
            clear k0 k1 k2 k3
            go_quiet (fail)
            go_wp2
            go_roundg (gk - 1)
            case measure => omega
            case rel => exact ⟨ss, A, c, q + 4, by go_num, rfl, by omega, by omega, by omega, own_drewN hown8 _, hrd8.drewN _, grown_drewN hgw8 _⟩
    · have hj0 : gk = 0 := by omega
      subst hj0
      go_wp2_with fail
      refine (pick_any g q 20 _ hrd (by omega) (by omega)).mono ?_
      rintro e w3 ⟨r, rfl, _, _, _, hrd3, hg3⟩
      have hown3 := own_grown hown hg3 hgl
      have hgw3 := grown_trans hgw hg3
      clear hown hgw hrd hg3
      by_cases hr0 : r = 0
      · have hr0' : (r == 0) = true := by simp [hr0]
        clear hr0
        go_wp2_with fail
        refine (pick_any g (q + 1) 5 _ hrd3 (by omega) (by omega)).mono ?_
        rintro e w4 ⟨a, rfl, _, _, _, hrd4, hg4⟩
        have hown4 := own_grown hown3 hg4 hgl
        have hgw4 := grown_trans hgw3 hg4
        clear hown3 hgw3 hrd3 hg4
        go_wp2_with fail
        refine (pick_any g (q + 1 + 1) 2 _ hrd4 (by omega) (by omega)).mono ?_
        rintro e w5 ⟨f, rfl, _, _, _, hrd5, hg5⟩
        have hown5 := own_grown hown4 hg5 hgl
        have hgw5 := grown_trans hgw4 hg5
        clear hown4 hgw4 hrd4 hg5
        go_wp2_with fail
        refine (pick_any g (q + 1 + 1 + 1) 13 _ hrd5 (by omega) (by omega)).mono ?_
        rintro e w6 ⟨b, rfl, _, _, _, hrd6, hg6⟩
        have hown6 := own_grown hown5 hg6 hgl
        have hgw6 := grown_trans hgw5 hg6
        clear hown5 hgw5 hrd5 hg6
        go_wp2_with fail
        refine (pick_any g (q + 1 + 1 + 1 + 1) 7 _ hrd6 (by omega) (by omega)).mono ?_
        rintro e w9 ⟨d, rfl, _, _, _, hrd9, hg9⟩
        have hown9 := own_grown hown6 hg9 hgl
        have hgw9 := grown_trans hgw6 hg9
        clear hown6 hgw6 hrd6 hg9
        go_wp2_with (at_builtin; refine wpList_push_st rfl _ _ rfl ⟨a, f == 0, b, d⟩ rfl (hown9.alloc _) rfl (heap_alloc_new w9 _) (by omega) (by simp; have := hgw9.size; omega) ?_; intro A3 c3 w3' ho3 hb3 _)
        have hb4 := ((Below.refl w.heap.size w9).alloc hgw9.size (.cells #[.int .i64 a, .bool (f == 0), .int .i64 b, .int .i64 d] 29)).trans hb3
        have hrd10 := hrd9.below hb4 hgl
        have hgw10 := grown_then hgw9 hb4
        clear hown9 hrd9 hgw9 hb3 hb4
        go_wp2
        go_ret
        exact ⟨ss ++ [⟨a, f == 0, b, d⟩], A3, c3, q + 5, ret_slice (by simp), by simpa using ho3, by simp; omega, hrd10, by omega, hgw10⟩
      · have hr0' : (r == 0) = false := by simp [hr0]
        clear hr0
        go_wp2
        go_ret
        exact ⟨ss, A, c, q + 1, rfl, hown3, by omega, hrd3, by omega, hgw3⟩
end Go.Proofs.YtpbhphpmegcenaaDoor
