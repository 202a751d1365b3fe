/- Contracts: Meeting, of both packages. -/
import Derived.Test.YtgofokifcplmoaaTreE
import Derived.Test.YtgofokifcplmoaaPTree3
namespace Go.Proofs.Ytgofokifcplmoaa
open Go.RowKit
set_option maxRecDepth 100000
open Tl (Nd path validN validN_iff ValidN Grows above above_iff meet)

/-- What Meeting answers. -/
noncomputable def meetN (t : List Nd) (a b : Int) : Int := if isN t a && isN t b then meet t a b else -1
theorem meetN_in {t : List Nd} {a b : Int} (h1 : isN t a = true) (h2 : isN t b = true) : meetN t a b = meet t a b := by simp [meetN, h1, h2]
theorem meetN_no {t : List Nd} {a b : Int} (h : isN t a = false) : meetN t a b = -1 := by simp [meetN, h]
theorem meetN_no2 {t : List Nd} {a b : Int} (h : isN t b = false) : meetN t a b = -1 := by simp [meetN, h]
theorem meetN_pos {t : List Nd} {a b : Int} (h1 : isN t a = true) (h2 : isN t b = true) : 0 ≤ meetN t a b ∧ meetN t a b ≤ a ∧ meetN t a b ∈ path t a ∧ meetN t a b ∈ path t b := by
  have ha := (isN_iff.1 h1).1
  have hb := (isN_iff.1 h2).1
  have hg := isN_grows h1
  rw [meetN_in h1 h2]
  have hm := Tl.meet_mem hg ha.1 ha.2 hb.1 hb.2
  have hl := Tl.mem_path_le hg a ha.1 _ hm.1
  exact ⟨hl.1, hl.2, hm.1, hm.2⟩
theorem meetN_max {t : List Nd} {a b n : Int} (h1 : isN t a = true) (h2 : isN t b = true) (h3 : n ∈ path t a) (h4 : n ∈ path t b) : n ≤ meetN t a b := by
  rw [meetN_in h1 h2]
  exact Tl.meet_max (isN_grows h1) (isN_iff.1 h1).1.1 h3 h4
theorem meetN_eq {t : List Nd} {a b m : Int} (h1 : isN t a = true) (h2 : isN t b = true) (h3 : m ∈ path t a) (h4 : m ∈ path t b) (hm : ∀ n, n ∈ path t a → n ∈ path t b → n ≤ m) : meetN t a b = m := by
  have ha := (isN_iff.1 h1).1
  have hb := (isN_iff.1 h2).1
  rw [meetN_in h1 h2]
  exact Tl.meet_eq (isN_grows h1) ha.1 ha.2 hb.1 hb.2 h3 h4 hm

set_option maxHeartbeats 1000000 in
theorem meeting_any (A : Option Addr) (c : Nat) (t : List Nd) (a b : Int) (w : World) (hn : t.length ≤ 10000) (hcap : t.length ≤ c) (hS : Short t) (hr : Rd w w.heap.size 3 A t.length (nds t)) :
    Calls Try.prog 19 #[.slice A t.length c, .int .i64 a, .int .i64 b] w (PIn w (meetN t a b)) := by
  go_enter Try.func19, Try.ntmps19
  go_wp2_with fail
  refine (isNode_any A c t a _ (by omega) hcap hS hr).mono ?_
  rintro e w1 ⟨rfl, hb1⟩
  have hr1 := hr.step hb1
  cases hv : isN t a
  · have HE : Hid (meetN t a b = -1) := meetN_no hv
    clear hv
    go_wp2
    go_ret
    exact ⟨ret_int HE.out.symm, hb1⟩
  · have HV := Lib.hid hv
    clear hv
    go_wp2_with fail
    refine (isNode_any A c t b _ (by omega) hcap hS hr1).mono ?_
    rintro e w2 ⟨rfl, hb2⟩
    have hr2 := hr1.step hb2
    have hb3 := below_then hb1 hb2 hb1.size
    cases hv2 : isN t b
    · have HE : Hid (meetN t a b = -1) := meetN_no2 hv2
      clear hv2
      go_wp2
      go_ret
      exact ⟨ret_int HE.out.symm, hb3⟩
    · have HV2 := Lib.hid hv2
      obtain ⟨ja, rfl, hja⟩ := isN_nat HV.out
      obtain ⟨jb, rfl, hjb⟩ := isN_nat HV2.out
      have HG := Lib.hid (isN_grows HV.out)
      clear hv2 hr hr1 hb1 hb2
      go_wp2
      go_loopg [7] (t.length - 1) (fun gk nv wr => nv = .int .i64 gk ∧ gk < t.length ∧ Hid (∀ n : Int, n ∈ path t (ja : Int) → n ∈ path t (jb : Int) → n ≤ gk) ∧ w2 = wr)
      case atStart =>
        refine ⟨by simp; omega, by omega, ?_, rfl⟩
        intro n h1 h2
        have := (Tl.mem_path_le HG.out (ja : Int) (by omega) n h1).2
        omega
      case round =>
        obtain ⟨rfl, hgk, HM, rfl⟩ := hrel
        by_cases hpos : (0 : Int) < (gk : Int)
        · go_wp2_with fail
          refine (reaches_any A c t gk ja _ (by omega) HG.out (by omega) hja hr2).mono ?_
          rintro e w3 ⟨rfl, rfl⟩
          have next : ¬ ((gk : Int) ∈ path t (ja : Int) ∧ (gk : Int) ∈ path t (jb : Int)) → ∀ n : Int, n ∈ path t (ja : Int) → n ∈ path t (jb : Int) → n ≤ ((gk - 1 : Nat) : Int) := by
            intro hno n h1 h2
            have h3 := HM.out n h1 h2
            by_cases e : n = gk
            · subst e; exact absurd ⟨h1, h2⟩ hno
            · omega
          have NEXT := Lib.hid next
          clear next
          cases h1 : above t (gk : Int) (ja : Int)
          · have HN2 := Lib.hid (NEXT.out (fun h => by rw [← above_iff, h1] at h; cases h.1))
            clear h1
            go_wp2
            go_roundg (gk - 1)
            case measure => omega
            case rel => exact ⟨by go_num, by omega, HN2, rfl⟩
          · have H1 := Lib.hid (above_iff.1 h1)
            clear h1
            go_wp2_with fail
            refine (reaches_any A c t gk jb _ (by omega) HG.out (by omega) hjb hr2).mono ?_
            rintro e w3 ⟨rfl, rfl⟩
            cases h2 : above t (gk : Int) (jb : Int)
            · have HN2 := Lib.hid (NEXT.out (fun h => by have h3 := above_iff.2 h.2; rw [h2] at h3; cases h3))
              clear h2
              go_wp2
              go_roundg (gk - 1)
              case measure => omega
              case rel => exact ⟨by go_num, by omega, HN2, rfl⟩
            · have HE := Lib.hid (meetN_eq HV.out HV2.out H1.out (above_iff.1 h2) HM.out)
              clear h2
              go_wp2
              go_ret
              exact ⟨ret_int HE.out.symm, hb3⟩
        · have h0 : gk = 0 := by omega
          have HE : Hid (meetN t (ja : Int) (jb : Int) = 0) := by
            refine meetN_eq HV.out HV2.out (Tl.root_mem HG.out _ (by omega) (by omega)) (Tl.root_mem HG.out _ (by omega) (by omega)) ?_
            intro n h1 h2
            have := HM.out n h1 h2
            omega
          clear h0
          go_wp2
          go_ret
          exact ⟨ret_int HE.out.symm, hb3⟩
set_option maxHeartbeats 1000000 in
theorem smeeting_any (A : Option Addr) (c : Nat) (t : List Nd) (a b : Int) (w : World) (hn : t.length ≤ 10000) (hcap : t.length ≤ c) (hS : Short t) (hr : Rd w w.heap.size 3 A t.length (nds t)) :
    Calls Try.prog 20 #[.slice A t.length c, .int .i64 a, .int .i64 b] w (PIn w (meetN t a b)) := by
  go_enter Try.func20, Try.ntmps20
  go_wp2_with fail
  refine (svalidTree0_any A c t _ (by omega) hcap hS hr).mono ?_
  rintro e w1 ⟨rfl, hb1⟩
  have hr1 := hr.step hb1
  cases hv : validN t
  · have HE : Hid (meetN t a b = -1) := by show _ = _; simp [meetN, isN, hv]
    clear hv
    go_wp2
    go_ret
    exact ⟨ret_int HE.out.symm, hb1⟩
  · have HV := Lib.hid hv
    clear hv
    go_wp2_with fail
    refine (inRange_any _ _ _ _).mono ?_
    rintro e w2 ⟨rfl, rfl⟩
    by_cases hi : 0 ≤ a ∧ a ≤ (t.length : Int) - 1
    · rw [decide_eq_true hi]
      have HNA : Hid (isN t a = true) := by show _ = _; simp [isN, inT, HV.out, hi]
      clear hi
      go_wp2_with fail
      refine (inRange_any _ _ _ _).mono ?_
      rintro e w2 ⟨rfl, rfl⟩
      by_cases hi2 : 0 ≤ b ∧ b ≤ (t.length : Int) - 1
      · rw [decide_eq_true hi2]
        have HNB : Hid (isN t b = true) := by show _ = _; simp [isN, inT, HV.out, hi2]
        clear hi2
        obtain ⟨ja, rfl, hja⟩ := isN_nat HNA.out
        obtain ⟨jb, rfl, hjb⟩ := isN_nat HNB.out
        have HG := Lib.hid (isN_grows HNA.out)
        clear hr
        go_wp2
        go_loopg [1] ja (fun gk nv wr => nv = .int .i64 gk ∧ gk ≤ ja ∧ Hid ((gk : Int) ∈ path t (ja : Int)) ∧ Hid (∀ n : Int, n ∈ path t (ja : Int) → n ∈ path t (jb : Int) → n ∈ path t (gk : Int)) ∧ w1 = wr)
        case atStart => exact ⟨rfl, Nat.le_refl _, Tl.self_mem_path HG.out (by omega), fun n h1 _ => h1, rfl⟩
        case round =>
          obtain ⟨rfl, hgk, HM, HC, rfl⟩ := hrel
          have hgl : gk < t.length := by omega
          go_wp2_with fail
          refine (sabove_any A c t gk jb _ (by omega) HG.out (by omega) hjb hr1).mono ?_
          rintro e w3 ⟨rfl, rfl⟩
          cases h1 : above t (gk : Int) (jb : Int)
          · have hno : (gk : Int) ∉ path t (jb : Int) := Tl.above_false.1 h1
            obtain ⟨b0, off, x, rfl, hbl, hx, hc1, hc2, hc3⟩ := hr1.nd hgl
            have hne0 : gk ≠ 0 := by
              rintro rfl
              exact hno (Tl.root_mem HG.out _ (by omega) (by omega))
            obtain ⟨pn, hpn, hp1⟩ : ∃ pn : Nat, x.parent = pn ∧ pn < gk := by
              rcases HG.out gk x hx with h2 | h2
              · omega
              · obtain ⟨pn, hpn⟩ := Int.eq_ofNat_of_zero_le h2.1
                exact ⟨pn, hpn, by omega⟩
            have hst : ∀ n : Int, n ∈ path t (gk : Int) ↔ n = (gk : Int) ∨ (0 ≤ x.parent ∧ n ∈ path t x.parent) := by
              intro n
              rw [Tl.mem_path_step HG.out (by omega), Tl.par_of hx]
            have HM2 : Hid ((pn : Int) ∈ path t (ja : Int)) := by
              show _
              refine Tl.above_trans HG.out (by omega) ?_ HM.out
              rw [hst, hpn]
              exact .inr ⟨by omega, Tl.self_mem_path HG.out (by omega)⟩
            have HC2 : Hid (∀ n : Int, n ∈ path t (ja : Int) → n ∈ path t (jb : Int) → n ∈ path t (pn : Int)) := by
              show ∀ _, _
              intro n h2 h3
              rcases (hst n).1 (HC.out n h2 h3) with h4 | h4
              · rw [h4] at h3
                exact absurd h3 hno
              · rw [← hpn]; exact h4.2
            rw [hpn] at hc1
            clear h1 hno hx hst hpn hc2 hc3
            go_wp2
            go_roundg pn
            case measure => omega
            case rel => exact ⟨rfl, by omega, HM2, HC2, rfl⟩
          · have HE : Hid (meetN t (ja : Int) (jb : Int) = (gk : Int)) := by
              refine meetN_eq HNA.out HNB.out HM.out (above_iff.1 h1) ?_
              intro n h2 h3
              exact (Tl.mem_path_le HG.out (gk : Int) (by omega) n (HC.out n h2 h3)).2
            clear h1
            go_wp2
            go_ret
            exact ⟨ret_int HE.out.symm, hb1⟩
      · have HE : Hid (meetN t a b = -1) := by show _ = _; simp [meetN, isN, inT, hi2]
        rw [decide_eq_false hi2]
        clear hi2
        go_wp2
        go_ret
        exact ⟨ret_int HE.out.symm, hb1⟩
    · have HE : Hid (meetN t a b = -1) := by show _ = _; simp [meetN, isN, inT, hi]
      rw [decide_eq_false hi]
      clear hi
      go_wp2
      go_ret
      exact ⟨ret_int HE.out.symm, hb1⟩
end Go.Proofs.Ytgofokifcplmoaa
