/- Scripts in memory, owned; draws of scripts. -/
import Derived.Test.YtgikfdanamjilaaSc
import Derived.Test.YtgikfdanamjilaaDrawN3
namespace Go.Proofs.Ytgikfdanamjilaa
open Go.RowKit
set_option maxRecDepth 100000
open Tl (Do Nd)

def OwnSS (w : World) (base : Nat) (v : Value) (n : Nat) (ps : List (List Do)) : Prop :=
  ∃ vs : List Value, w.ownsRow base 28 1 v n vs ∧ vs.length = ps.length ∧ ∀ (i : Nat) (u : Value) (p : List Do), vs[i]? = some u → ps[i]? = some p → (∃ A c, u = .slice A p.length c) ∧ w.ownsRow base 46 2 u p.length (dws p) ∧ Ap v u
theorem OwnSS.grown {w w' : World} {base g : Nat} {v : Value} {n : Nat} {ps : List (List Do)} (h : OwnSS w base v n ps) (hg : w.grownBy w' (some g)) (hl : g < base) : OwnSS w' base v n ps := by
  obtain ⟨vs, h1, h2, h3⟩ := h
  exact ⟨vs, own_grown h1 hg hl, h2, fun i u p hu hp => ⟨(h3 i u p hu hp).1, own_grown (h3 i u p hu hp).2.1 hg hl, (h3 i u p hu hp).2.2⟩⟩
theorem OwnSS.below {w w' : World} {base B : Nat} {v : Value} {n : Nat} {ps : List (List Do)} (h : OwnSS w base v n ps) (hb : Below B w w') (hB : w.heap.size ≤ B) : OwnSS w' base v n ps := by
  obtain ⟨vs, h1, h2, h3⟩ := h
  exact ⟨vs, own_below h1 hb hB, h2, fun i u p hu hp => ⟨(h3 i u p hu hp).1, own_below (h3 i u p hu hp).2.1 hb hB, (h3 i u p hu hp).2.2⟩⟩
theorem OwnSS.alloc {w : World} {base : Nat} {v : Value} {n : Nat} {ps : List (List Do)} (h : OwnSS w base v n ps) (o : Obj) : OwnSS (w.alloc o) base v n ps := by
  obtain ⟨vs, h1, h2, h3⟩ := h
  exact ⟨vs, h1.alloc o, h2, fun i u p hu hp => ⟨(h3 i u p hu hp).1, (h3 i u p hu hp).2.1.alloc o, (h3 i u p hu hp).2.2⟩⟩
theorem OwnSS.base {w : World} {base base' : Nat} {v : Value} {n : Nat} {ps : List (List Do)} (h : OwnSS w base v n ps) (hb : base' ≤ base) : OwnSS w base' v n ps := by
  obtain ⟨vs, h1, h2, h3⟩ := h
  exact ⟨vs, own_base h1 hb, h2, fun i u p hu hp => ⟨(h3 i u p hu hp).1, own_base (h3 i u p hu hp).2.1 hb, (h3 i u p hu hp).2.2⟩⟩
theorem OwnSS.nil (w : World) (base : Nat) {v : Value} (h : w.ownsRow base 28 1 v 0 []) : OwnSS w base v 0 [] := ⟨[], h, rfl, fun i u p hu => by simp at hu⟩
theorem RdSS.of_own {w : World} {base c : Nat} {A : Option Addr} {ps : List (List Do)} (h : OwnSS w base (.slice A ps.length c) ps.length ps) : RdSS w w.heap.size A ps := by
  obtain ⟨vs, h1, h2, h3⟩ := h
  refine ⟨vs, h2, Rd.of_own h1, fun i u p hu hp => ?_⟩
  obtain ⟨⟨A', c', rfl⟩, h4, _⟩ := h3 i u p hu hp
  exact ⟨A', c', rfl, Rd.of_own h4⟩
theorem Try.infoSS : (Try.prog.info? 28).map (fun i => (i.zero, i.size, i.bytes)) = some (some (.slice none 0 0), 1, 24) := by kernel_rfl
theorem info_ss : ∃ i, Try.prog.info? 28 = some i ∧ i.zero = some (.slice none 0 0) ∧ i.size = 1 ∧ i.bytes = 24 := by
  obtain ⟨i0, hi, hz0, hz1, hz2⟩ := info_parts Try.infoSS
  exact ⟨i0, hi, hz0, hz1, hz2⟩
/-- 'out = append(out, part)'. -/
theorem wpList_push_ss {ops : Array Oper} {rest : List Oper} {o : Oper} {a : Act} {Q : Exit → Act → World → Prop} {W0 : World}
    (hgd : o.guard = none) (s x : Operand) (ho : o.op = .call { callee := .builtin .append, args := #[s, x], argTypes := #[24, 24] })
    {base g : Nat} {A : Option Addr} {c : Nat} {ps : List (List Do)} {P : Option Addr} {cp : Nat} {part : List Do} (hs : a.eval s = .slice A ps.length c) (hown : OwnSS W0 base (.slice A ps.length c) ps.length ps)
    (hpart : W0.ownsRow base 46 2 (.slice P part.length cp) part.length (dws part)) (hap : Ap (.slice A ps.length c) (.slice P part.length cp))
    (hx : a.eval x = .slice (some ⟨g, 0, none⟩) 1 1) (hg : g = W0.heap.size) (hlen : ps.length ≤ 1000000) (hbase : base ≤ W0.heap.size)
    (h : ∀ A' c' w', OwnSS w' base (.slice A' (ps.length + 1) c') (ps.length + 1) (ps ++ [part]) → Below base W0 w' → wpList Try.prog ops Q rest (a.put o.dst (.slice A' (ps.length + 1) c')) w') :
    wpList Try.prog ops Q (o :: rest) a (W0.alloc (.cells #[.slice P part.length cp] 28)) := by
  obtain ⟨vs, h1, h2, h3⟩ := hown
  obtain ⟨i0, hi, hz0, hz1, hz2⟩ := info_ss
  subst hg
  refine wpList_push 24 28 i0 (.slice none 0 0) 1 24 Try.underlying24 hi hz0 hz1 hz2 rfl (by decide) (by decide) hgd s x ho hs (h1.alloc _) hx (new := [.slice P part.length cp]) (cell_one_new' _ _ _) rfl (by intro u hu; simp at hu; subst hu; rfl) hlen (by simp; omega) ?_
  intro A' c' w' ho' hb' hg'
  refine h A' c' w' ⟨vs ++ [.slice P part.length cp], ho', by simp [h2], fun i u p hu hp => ?_⟩ (((Below.refl _ _).alloc hbase _).trans hb')
  by_cases hl : i < vs.length
  · rw [List.getElem?_append_left hl] at hu
    rw [List.getElem?_append_left (by omega)] at hp
    obtain ⟨e, ho1, ha1⟩ := h3 i u p hu hp
    have := hg' (ho1.alloc _) ha1
    exact ⟨e, this.1, this.2⟩
  · rw [List.getElem?_append_right (by omega)] at hu hp
    have hi0 : i - vs.length = 0 := by
      have := (List.getElem?_eq_some_iff.1 hu).1
      simp at this
      omega
    rw [hi0] at hu
    rw [← h2, hi0] at hp
    have e1 := Option.some.inj hu
    have e2 := Option.some.inj hp
    subst e1 e2
    have := hg' (hpart.alloc _) hap
    exact ⟨⟨_, _, rfl⟩, this.1, this.2⟩
theorem ap_size {w : World} {base base2 : Nat} {e e2 : TypeId} {sz sz2 n n2 D : Nat} {v u : Value} {xs ys : List Value} (h : w.ownsRow base e sz v n xs) (hw : w.heap.size ≤ D) {w2 : World} (h2 : w2.ownsRow base2 e2 sz2 u n2 ys) (hD : D ≤ base2) : Ap v u := by
  cases hv : v.ownBlock with
  | none => exact .inl hv
  | some k =>
    cases hu : u.ownBlock with
    | none => exact .inr (.inl hu)
    | some k2 =>
      have h3 := (h.lt k hv).2
      have h4 := (h2.lt k2 hu).1
      refine .inr (.inr ?_)
      rw [hv, hu]
      intro e
      have : k = k2 := Option.some.inj e
      omega

theorem OwnSS.put0 {w : World} {base gr n c : Nat} {ps : List (List Do)} (h : OwnSS w base (.slice (some ⟨gr, 0, none⟩) n c) n ps) {P : Option Addr} {cp : Nat} {part : List Do} (hp : w.ownsRow base 46 2 (.slice P part.length cp) part.length (dws part))
    (hap : Ap (.slice (some ⟨gr, 0, none⟩) n c) (.slice P part.length cp)) : OwnSS (w.setCell ⟨gr, 0, none⟩ (.slice P part.length cp)) base (.slice (some ⟨gr, 0, none⟩) n c) n (ps.set 0 part) := by
  obtain ⟨vs, h1, h2, h3⟩ := h
  have hg := grown_setCell' w ⟨gr, 0, none⟩ (.slice P part.length cp)
  refine ⟨vs.set 0 (.slice P part.length cp), own_set h1 _ (j := 0), by simp [h2], fun i u p hu hq => ?_⟩
  by_cases hi : i = 0
  · subst hi
    rw [List.getElem?_set] at hu hq
    simp only [if_true] at hu hq
    split at hu
    · split at hq
      · obtain rfl := Option.some.inj hu
        obtain rfl := Option.some.inj hq
        exact ⟨⟨P, cp, rfl⟩, Ap.kept hap hg hp, hap⟩
      · cases hq
    · cases hu
  · rw [List.getElem?_set_ne (fun e => hi e.symm)] at hu hq
    obtain ⟨e, ho, ha⟩ := h3 i u p hu hq
    exact ⟨e, Ap.kept ha hg ho, ha⟩
theorem OwnSS.at0 {w : World} {base c : Nat} {A : Option Addr} {ps : List (List Do)} (h : OwnSS w base (.slice A ps.length c) ps.length ps) (hn : 0 < ps.length) : ∃ gr v, A = some ⟨gr, 0, none⟩ ∧ base ≤ gr ∧ gr < w.heap.size ∧ w.cell? ⟨gr, 0, none⟩ = some v ∧ w.frozen? ⟨gr, 0, none⟩ = false := by
  obtain ⟨vs, h1, h2, h3⟩ := h
  obtain ⟨gr, rfl, hg1, hg2, hgc⟩ := own_addr h1 hn
  exact ⟨gr, _, rfl, hg1, hg2, hgc 0 _ (List.getElem?_eq_getElem (by omega)), own_frozen h1 0⟩
def PSs (w : World) (g : Nat) (e : Ending) (w' : World) : Prop := ∃ (ss : List (List Do)) (A' : Option Addr) (c' p' : Nat), e = .returned (.slice A' ss.length c') ∧ OwnSS w' w.heap.size (.slice A' ss.length c') ss.length ss ∧ ss.length ≤ 5 ∧ Reader w' g p' ∧ w.grownBy w' (some g)
set_option maxHeartbeats 2000000 in
theorem someScripts_any (g p : Nat) (A : Option Addr) (c : Nat) (t : List Nd) (w : World) (hr : Reader w g p) (hp : p ≤ 1000) (htl : t.length ≤ 2000000) : Calls Try.prog 16 #[.pointer (some ⟨g, 0, none⟩), .slice A t.length c] w (PSs w g) := by
  have hgl := hr.lt
  go_enter Try.func16, Try.ntmps16
  go_wp2_with fail
  have hg1 := grown_alloc (grown_refl w (some g)) (.cells #[] 28)
  have hr2 := (hr.grown (grown_alloc (grown_alloc (grown_refl w none) (.cells #[] 28)) (.cells (ints [3, 2, 4, 1, 0, 5]).toArray 3)) (by simp))
  refine (one_any g p (some ⟨w.heap.size + 1, 0, none⟩) 6 [3, 2, 4, 1, 0, 5] _ hr2 (by omega) (by simp) (by simp) (by have := lit_ints (w.alloc (.cells #[] 28)) [3, 2, 4, 1, 0, 5] 3 (g := g) (by simp; omega); simpa using this)).mono ?_
  rintro e w1 ⟨n, rfl, hn, hr1, hg⟩
  have hown := OwnSS.nil _ _ (own_grown ((own_lit0 w 28 1 (Nat.le_refl _)).alloc (.cells (ints [3, 2, 4, 1, 0, 5]).toArray 3)) hg hgl)
  have hgw := grown_trans (grown_alloc hg1 _) hg
  have hn2 : 0 ≤ n ∧ n ≤ 5 := by simp at hn; omega
  obtain ⟨m, rfl⟩ := Int.eq_ofNat_of_zero_le hn2.1
  have hm : m ≤ 5 := by omega
  clear hg hg1 hr2 hr hn hn2
  go_wp2
  go_loopg [5, 6] m (fun gk v i wr => ∃ (ss : List (List Do)) (A : Option Addr) (c q : Nat), i = .int .i64 gk ∧ v = .slice A ss.length c ∧ ss.length + gk ≤ 5 ∧ q + 10 * gk ≤ p + 60 ∧ gk ≤ 5 ∧
    OwnSS wr w.heap.size v ss.length ss ∧ Reader wr g q ∧ w.grownBy wr (some g))
  case atStart => exact ⟨[], _, 0, p + 1, rfl, rfl, by simp; omega, by omega, hm, hown, hr1, hgw⟩
  case round =>
    clear hown hr1 hgw hm
    obtain ⟨ss, A2, c2, q, rfl, rfl, hl, hq, hk5, hown, hrd, hgw⟩ := hrel
    by_cases hj : 0 < gk
    · have hgwr := hrd.lt
      have hpr := own_lit0 wr 46 2 (base := wr.heap.size) (Nat.le_refl _)
      have hgi := grown_alloc (grown_refl wr (some g)) (.cells #[] 46)
      have hr3 := hrd.grown (grown_alloc (grown_refl wr none) (.cells #[] 46)) (by simp)
      obtain ⟨G, rfl⟩ : ∃ G, G = gk := ⟨gk, rfl⟩
      obtain ⟨D, hD⟩ : ∃ D, wr.heap.size = D := ⟨_, rfl⟩
      have hgD : g < D := by omega
      have hDb : w.heap.size ≤ D := by have := hgw.size; omega
      rw [hD] at hpr
      obtain ⟨w2, hw2⟩ : ∃ w2, wr.alloc (.cells #[] 46) = w2 := ⟨_, rfl⟩
      have hsz2 : D ≤ w2.heap.size := by rw [← hw2]; simp; omega
      rw [hw2] at hpr hgi hr3
      obtain ⟨W, hW, hWD⟩ : ∃ W, W = wr ∧ W.heap.size = D := ⟨wr, rfl, hD⟩
      rw [← hW] at hgi
      rw [← hW] at hown hgw
      clear hrd hW
      go_wp2_with fail
      refine (pick_any g q 3 _ hr3 (by omega) (by omega)).mono ?_
      rintro e w3 ⟨a, rfl, ha0, ha1, _, hr4, hg4⟩
      obtain ⟨m, rfl⟩ := Int.eq_ofNat_of_zero_le ha0
      have hm3 : m ≤ 2 := by have := ha1 (by omega); omega
      have hp4 := own_grown hpr hg4 hgD
      have hg5 := grown_trans hgi hg4
      clear hpr hgi hr3 hg4 ha0 ha1 hw2
      go_wp2
      go_loopg [7, 8] (m + 1) (fun gk2 v i wr2 => ∃ (part : List Do) (A3 : Option Addr) (c3 q3 : Nat), i = .int .i64 gk2 ∧ v = .slice A3 part.length c3 ∧ part.length + gk2 ≤ 3 ∧ q3 + 2 * gk2 ≤ q + 9 ∧ gk2 ≤ 3 ∧
        wr2.ownsRow D 46 2 (.slice A3 part.length c3) part.length (dws part) ∧ Reader wr2 g q3 ∧ W.grownBy wr2 (some g))
      case atStart => exact ⟨[], _, 0, q + 1, by go_num, rfl, by simp; omega, by omega, by omega, hp4, hr4, hg5⟩
      case round =>
        clear hp4 hr4 hg5
        obtain ⟨part, A3, c3, q3, rfl, rfl, hpl, hq3, hk3, hpt, hrd, hgW⟩ := hrel
        by_cases hj2 : 0 < gk
        · have hc : ((t.length : Int) < 1 ∧ (t.length : Int) ≤ 1 ∧ (t.length : Int) < 5 ∧ (t.length : Int) ≤ 5) ∨ ((1 : Int) ≤ (t.length : Int) ∧ (t.length : Int) ≤ 1 ∧ (t.length : Int) < 5 ∧ (t.length : Int) ≤ 5) ∨ ((1 : Int) ≤ (t.length : Int) ∧ (1 : Int) < (t.length : Int) ∧ (t.length : Int) < 5 ∧ (t.length : Int) ≤ 5) ∨ ((1 : Int) ≤ (t.length : Int) ∧ (1 : Int) < (t.length : Int) ∧ (5 : Int) ≤ (t.length : Int) ∧ (t.length : Int) ≤ 5) ∨ ((1 : Int) ≤ (t.length : Int) ∧ (1 : Int) < (t.length : Int) ∧ (5 : Int) ≤ (t.length : Int) ∧ (5 : Int) < (t.length : Int)) := by omega
          rcases hc with ⟨k1, k2, k3, k4⟩ | ⟨k1, k2, k3, k4⟩ | ⟨k1, k2, k3, k4⟩ | ⟨k1, k2, k3, k4⟩ | ⟨k1, k2, k3, k4⟩
          all_goals
            go_wp2_with fail
            refine (pick_any g q3 _ _ hrd (by omega) (by omega)).mono ?_
            rintro e w4 ⟨b, rfl, _, _, _, hr5, hg5⟩
            have hp5 := own_grown hpt hg5 hgD
            have hgW5 := grown_trans hgW hg5
            clear hpt hrd hgW hg5
            go_wp2_with fail
            have hr6 := hr5.grown (World.grownBy_alloc w4 (.cells (ints [0, 5, -3, 50, 1, 0]).toArray 3) none) (by simp)
            refine (one_any g (q3 + 1) (some ⟨w4.heap.size, 0, none⟩) 6 [0, 5, -3, 50, 1, 0] _ hr6 (by omega) (by simp) (by simp) (lit_ints w4 [0, 5, -3, 50, 1, 0] 3 (g := g) hr5.lt)).mono ?_
            rintro e w5 ⟨z, rfl, _, hr7, hg7⟩
            have hp7 := own_grown (hp5.alloc (.cells (ints [0, 5, -3, 50, 1, 0]).toArray 3)) hg7 hgD
            have hgW7 := grown_trans (grown_alloc hgW5 (.cells (ints [0, 5, -3, 50, 1, 0]).toArray 3)) hg7
            clear hp5 hr5 hgW5 hr6 hg7
            have hszD : D ≤ w5.heap.size := by have := hgW7.size; omega
            go_wp2_with (at_builtin; refine wpList_push_dw rfl _ _ rfl ⟨b, z⟩ rfl (hp7.alloc _) rfl (heap_alloc_new w5 _) (by omega) (by simp; omega) ?_; intro A4 c4 w6 hp8 hb8 _)
            have hb9 := ((Below.refl D w5).alloc hszD (.cells #[.int .i64 b, .int .i64 z] 46)).trans hb8
            have hr9 := hr7.below hb9 hgD
            have hgW9 := grown_then hgW7 (by rw [hWD]; exact hb9)
            have hle : part.length + 1 = (part ++ [(⟨b, z⟩ : Do)]).length := by simp
            rw [hle] at hp8 ⊢
            clear hp7 hr7 hgW7 hb8 hb9
            go_wp2
            go_roundg (gk - 1)
            case measure => omega
            case rel => exact ⟨_, A4, c4, q3 + 1 + 1, by go_num, rfl, by omega, by omega, by omega, hp8, hr9, hgW9⟩
        · have h0 : gk = 0 := by omega
          subst h0
          have hown9 := hown.grown hgW hgl
          have hap : Ap (.slice A2 ss.length c2) (.slice A3 part.length c3) := by
            obtain ⟨vs, h1, _⟩ := hown
            exact ap_size h1 (by omega) hpt (Nat.le_refl D)
          have hpt2 := own_base hpt hDb
          have hszw : w.heap.size ≤ wr.heap.size := by have := hgW.size; omega
          go_wp2_with (at_builtin; refine wpList_push_ss rfl _ _ rfl rfl hown9 hpt2 hap rfl rfl (by omega) (by omega) ?_; intro A4 c4 w6 ho6 hb6)
          have hr9 := hrd.below hb6 hgl
          have hgw9 := grown_then (grown_trans hgw hgW) hb6
          have hle : ss.length + 1 = (ss ++ [part]).length := by simp
          rw [hle] at ho6 ⊢
          clear hown9 hap hpt2 hb6
          go_wp2
          go_roundg (G - 1)
          case measure => omega
          case rel => exact ⟨_, A4, c4, q3, by go_num, rfl, by omega, by omega, by omega, ho6, hr9, hgw9⟩
    · have h0 : gk = 0 := by omega
      subst h0
      by_cases hw : 0 < ss.length
      · go_wp2_with fail
        refine (pick_any g q 16 _ hrd (by omega) (by omega)).mono ?_
        rintro e w3 ⟨a, rfl, ha0, _, _, hr4, hg4⟩
        have ho4 := hown.grown hg4 hgl
        have hgw4 := grown_trans hgw hg4
        clear hown hrd hgw hg4
        by_cases hz : a = 0
        · subst hz
          go_wp2_with fail
          have hr5 := hr4.grown (World.grownBy_alloc w3 (.cells (ints [0, 12, -1]).toArray 3) none) (by simp)
          refine (one_any g (q + 1) (some ⟨w3.heap.size, 0, none⟩) 3 [0, 12, -1] _ hr5 (by omega) (by simp) (by simp) (lit_ints w3 [0, 12, -1] 3 (g := g) hr4.lt)).mono ?_
          rintro e w4 ⟨y, rfl, _, hr6, hg6⟩
          have ho6 := (ho4.alloc (.cells (ints [0, 12, -1]).toArray 3)).grown hg6 hgl
          have hgw6 := grown_trans (grown_alloc hgw4 (.cells (ints [0, 12, -1]).toArray 3)) hg6
          clear ho4 hr4 hgw4 hr5 hg6
          go_wp2_with fail
          have hr7 := hr6.grown (World.grownBy_alloc w4 (.cells (ints [51, 5]).toArray 3) none) (by simp)
          refine (one_any g (q + 1 + 1) (some ⟨w4.heap.size, 0, none⟩) 2 [51, 5] _ hr7 (by omega) (by simp) (by simp) (lit_ints w4 [51, 5] 3 (g := g) hr6.lt)).mono ?_
          rintro e w5 ⟨z, rfl, _, hr8, hg8⟩
          have ho8 := (ho6.alloc (.cells (ints [51, 5]).toArray 3)).grown hg8 hgl
          have hgw8 := grown_trans (grown_alloc hgw6 (.cells (ints [51, 5]).toArray 3)) hg8
          clear ho6 hr6 hgw6 hr7 hg8
          have hs5 : w.heap.size ≤ w5.heap.size := hgw8.size
          obtain ⟨gr, v0, rfl, hgr1, hgr2, hc0, hf0⟩ := (ho8.alloc (.cells #[.int .i64 y, .int .i64 z] 46)).at0 hw
          have hpart : (w5.alloc (.cells #[.int .i64 y, .int .i64 z] 46)).ownsRow w.heap.size 46 2 (.slice (some ⟨w5.heap.size, 0, none⟩) ([(⟨y, z⟩ : Do)] : List Do).length 1) ([(⟨y, z⟩ : Do)] : List Do).length (dws [⟨y, z⟩]) :=
            ⟨rfl, .inr ⟨w5.heap.size, 1, #[.int .i64 y, .int .i64 z], rfl, hs5, heap_alloc_new w5 _, Nat.le_refl _, by unfold maxLen; omega, rfl, rfl⟩⟩
          have hap : Ap (.slice (some ⟨gr, 0, none⟩) ss.length c2) (.slice (some ⟨w5.heap.size, 0, none⟩) ([(⟨y, z⟩ : Do)] : List Do).length 1) := by
            obtain ⟨vs, h1, _⟩ := ho8
            have h3 := (h1.lt gr rfl).2
            refine .inr (.inr fun e => ?_)
            have : gr = w5.heap.size := Option.some.inj e
            omega
          have hoN := (ho8.alloc (.cells #[.int .i64 y, .int .i64 z] 46)).put0 hpart hap
          have hbw := ((Below.refl w.heap.size w5).alloc hs5 (.cells #[.int .i64 y, .int .i64 z] 46)).setCell (p := ⟨gr, 0, none⟩) hgr1 (.slice (some ⟨w5.heap.size, 0, none⟩) 1 1)
          have hrN := hr8.below hbw hgl
          have hgN := grown_then hgw8 hbw
          have hl5 : (ss.set 0 [(⟨y, z⟩ : Do)]).length = ss.length := List.length_set
          clear ho8 hpart hap hr8 hgw8 hbw
          go_wp2
          go_ret
          exact ⟨ss.set 0 [⟨y, z⟩], _, c2, q + 3, ret_slice hl5.symm, by rw [hl5]; exact hoN, by rw [hl5]; omega, hrN, hgN⟩
        · have hz' : (a == 0) = false := by simp [hz]
          go_wp2
          go_ret
          exact ⟨ss, A2, c2, q + 1, rfl, ho4, by omega, hr4, hgw4⟩
      · go_wp2
        go_ret
        exact ⟨ss, A2, c2, q, rfl, hown, by omega, hrd, hgw⟩
end Go.Proofs.Ytgikfdanamjilaa
