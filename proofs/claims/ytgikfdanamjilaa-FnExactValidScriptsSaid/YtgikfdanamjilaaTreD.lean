/- Contracts: spec.depth, spec.validNode, spec.validTree, spec.ValidTree. -/
import Derived.Test.YtgikfdanamjilaaTreC
namespace Go.Proofs.Ytgikfdanamjilaa
open Go.RowKit
set_option maxRecDepth 100000
open Tl (Nd nameOk kid path validN validN_iff nodeOk nodesOk ValidN Grows)

/-- One step up: node 0, or a node with a parent before it. -/
theorem up_cases {t : List Nd} {K : Nat} (hg : Grows (t.take K)) {j : Nat} {n : Nd} (hj : j < K) (hn : t[j]? = some n) :
    (j = 0 ∧ n.parent = -1 ∧ path t (j : Int) = [0]) ∨ (0 ≤ n.parent ∧ n.parent < j ∧ path t (j : Int) = path t n.parent ++ [(j : Int)]) := by
  have ht : (t.take K)[j]? = some n := by rw [List.getElem?_take, if_pos hj]; exact hn
  rcases hg j n ht with ⟨h0, h1⟩ | h1
  · left
    subst h0
    refine ⟨rfl, h1, ?_⟩
    have := Tl.path_zero hg
    rw [Tl.path_take hg (by omega)] at this
    exact this
  · right
    refine ⟨h1.1, h1.2, ?_⟩
    have h2 := Tl.path_step hg (i := (j : Int)) (by omega)
    rw [Tl.par_of ht, Tl.path_take hg (by omega), Tl.path_take hg (by omega)] at h2
    exact h2

theorem depth_any (A : Option Addr) (c : Nat) (t : List Nd) (K k : Nat) (w : World) {B : Nat} (hn : t.length ≤ 2000000) (hg : Grows (t.take K)) (hk : k < K) (hK : K ≤ t.length) (hr : Rd w B 3 A t.length (nds t)) :
    Calls Try.prog 42 #[.slice A t.length c, .int .i64 k] w fun e w' => e = .returned (.int .i64 (((path t (k : Int)).length : Int) - 1)) ∧ w = w' := by
  have HG := Lib.hid hg
  clear hg
  go_enter Try.func42, Try.ntmps42
  go_wp2
  go_loopg [1, 5] k (fun gk a n wr => ∃ m : Nat, a = .int .i64 gk ∧ n = .int .i64 m ∧ m + gk ≤ k ∧ Hid (m + (path t (gk : Int)).length = (path t (k : Int)).length) ∧ w = wr)
  case atStart => exact ⟨0, rfl, rfl, by omega, (show 0 + _ = _ by omega), rfl⟩
  case round =>
    obtain ⟨m, rfl, rfl, hm, HM, rfl⟩ := hrel
    obtain ⟨b, off, x, rfl, hbl, hx, hc1, hc2, hc3⟩ := hr.nd (k := gk) (by omega)
    have hgl : gk < t.length := by omega
    have hmb : m ≤ 2000000 := by omega
    rcases up_cases HG.out (by omega) hx with ⟨h0, h1, h2⟩ | ⟨h1, h2, h3⟩
    · have HE : Hid ((m : Int) = ((path t (k : Int)).length : Int) - 1) := by
        show _ = _
        have := HM.out
        rw [h2] at this
        simp at this
        omega
      have h1' : ¬ (0 ≤ x.parent) := by omega
      clear hr hx h0 h1 h2
      go_wp2
      go_ret
      exact ⟨ret_int HE.out, rfl⟩
    · obtain ⟨pn, hpn⟩ := Int.eq_ofNat_of_zero_le h1
      rw [hpn] at h2 h3 hc1
      have hp0 : (0 : Int) ≤ (pn : Int) := by omega
      have HE : Hid ((m + 1) + (path t (pn : Int)).length = (path t (k : Int)).length) := by
        show _ = _
        have := HM.out
        rw [h3] at this
        simp at this
        omega
      clear hr hx h1 h3 hpn
      go_wp2
      go_roundg pn
      case measure => omega
      case rel => exact ⟨m + 1, rfl, by go_num, by omega, HE, rfl⟩

theorem validName_q {s : List UInt8} {b : Bool} {w : World} {n : Nat} (hs : s.length ≤ 2000000) (hb : nameOk s = b) :
    Calls Try.prog 40 #[.string ⟨s.toArray⟩] (w.drewN n) fun e w'' => e = .returned (.bool b) ∧ ∃ m, w'' = w.drewN m :=
  quiet_same (validName_at s _ hs) (by rw [hb])
theorem skid_q {A : Option Addr} {c m : Nat} {t : List Nd} {p : Int} {s : List UInt8} {w : World} {n B : Nat} {v : Int} (hm : m = t.length) (hn : t.length ≤ 2000000) (h0 : ∀ n, t[0]? = some n → isKid p s n = false) (hr : Rd w B 3 A m (nds t)) (hv : kid t p s = v) :
    Calls Try.prog 41 #[.slice A m c, .int .i64 p, .string ⟨s.toArray⟩] (w.drewN n) fun e w'' => e = .returned (.int .i64 v) ∧ ∃ m, w'' = w.drewN m := by
  subst hm
  exact quiet_same (skid_any A c t p s _ hn h0 (hr.drewN n)) (by rw [hv])
theorem depth_q {A : Option Addr} {c : Nat} {t : List Nd} {K k : Nat} {w : World} {n B : Nat} {v : Int} (hn : t.length ≤ 2000000) (hg : Grows (t.take K)) (hk : k < K) (hK : K ≤ t.length) (hr : Rd w B 3 A t.length (nds t)) (hv : ((path t (k : Int)).length : Int) - 1 = v) :
    Calls Try.prog 42 #[.slice A t.length c, .int .i64 k] (w.drewN n) fun e w'' => e = .returned (.int .i64 v) ∧ ∃ m, w'' = w.drewN m :=
  quiet_same (depth_any A c t K k _ hn hg hk hK (hr.drewN n)) (by rw [hv])

theorem validNode_any (A : Option Addr) (c k : Nat) (t : List Nd) (n : Nd) (w : World) {B : Nat} (hn : t.length ≤ 2000000) (hcap : t.length ≤ c) (hS : Short t) (hok : nodesOk t k) (hk : k < t.length) (hx : t[k]? = some n) (hr : Rd w B 3 A t.length (nds t)) :
    Calls Try.prog 33 #[.slice A t.length c, .int .i64 k] w fun e w' => e = .returned (.bool (decide (nodeOk t k n))) ∧ ∃ m, w' = w.drewN m := by
  have HS := Lib.hid hS
  have HOK := Lib.hid hok
  have HX := Lib.hid hx
  obtain ⟨b, off, x, rfl, hbl, hx2, hc1, hc2, hc3⟩ := hr.nd hk
  obtain rfl := Option.some.inj (hx2.symm.trans hx)
  have hHR := Lib.hid hr
  clear hS hok hx hx2 hr
  by_cases hv : -1000 ≤ x.value ∧ x.value ≤ 1000
  · by_cases hk0 : k = 0
    · have hk0' : ((k : Int) == 0) = true := by simp [hk0]
      by_cases hp : x.parent = -1
      · by_cases hnm : x.name = []
        · have HE : Hid (decide (nodeOk t k x) = true) := by subst hk0; exact decide_eq_true (node_root_ok hv hp hnm)
          have hp' : (x.parent == -1) = true := by simp [hp]
          have hnm' : (x.name == []) = true := by simp [hnm]
          clear hp hnm hk0
          go_enter Try.func33, Try.ntmps33
          go_wp2_with fail
          refine (inRange_any _ _ _ _).mono ?_
          rintro e w2 ⟨rfl, rfl⟩
          rw [decide_eq_true hv]
          clear hv
          go_wp2
          go_ret
          exact ⟨ret_bool HE.out.symm, 0, rfl⟩
        · have HE : Hid (decide (nodeOk t k x) = false) := by subst hk0; exact decide_eq_false (node_root fun h => hnm h.2)
          have hp' : (x.parent == -1) = true := by simp [hp]
          have hnm' : (x.name == []) = false := by simp [hnm]
          clear hp hnm hk0
          go_enter Try.func33, Try.ntmps33
          go_wp2_with fail
          refine (inRange_any _ _ _ _).mono ?_
          rintro e w2 ⟨rfl, rfl⟩
          rw [decide_eq_true hv]
          clear hv
          go_wp2
          go_ret
          exact ⟨ret_bool HE.out.symm, 0, rfl⟩
      · have HE : Hid (decide (nodeOk t k x) = false) := by subst hk0; exact decide_eq_false (node_root fun h => hp h.1)
        have hp' : (x.parent == -1) = false := by simp [hp]
        clear hp hk0
        go_enter Try.func33, Try.ntmps33
        go_wp2_with fail
        refine (inRange_any _ _ _ _).mono ?_
        rintro e w2 ⟨rfl, rfl⟩
        rw [decide_eq_true hv]
        clear hv
        go_wp2
        go_ret
        exact ⟨ret_bool HE.out.symm, 0, rfl⟩
    · have hk0' : ((k : Int) == 0) = false := by simp [hk0]
      by_cases hp : 0 ≤ x.parent ∧ x.parent ≤ (k : Int) - 1
      · have HP := Lib.hid hp
        cases hnm : nameOk x.name
        · have HNM := Lib.hid hnm
          have HE : Hid (decide (nodeOk t k x) = false) := decide_eq_false (node_name hk0 hnm)
          clear hnm
          go_enter Try.func33, Try.ntmps33
          go_wp2_with fail
          refine (inRange_any _ _ _ _).mono ?_
          rintro e w2 ⟨rfl, rfl⟩
          rw [decide_eq_true hv]
          clear hv hp hk0
          go_wp2
          go_quiet (first | (go_at_call 34; exact inRange_yes HP.out) | (go_at_call 40; exact validName_q (HS.out.get HX.out) HNM.out))
          go_wp2
          go_ret
          exact ⟨ret_bool HE.out.symm, _, rfl⟩
        · have HNM := Lib.hid hnm
          have HZ : Hid (∀ m, (t.take k)[0]? = some m → isKid x.parent x.name m = false) := by
            intro m hm
            rw [List.getElem?_take, if_pos (by omega)] at hm
            have h0 := (HOK.out 0 m (by omega) hm).2
            rw [isKid_not]
            rintro ⟨h1, _⟩
            rcases h0 with h0 | h0
            · omega
            · exact h0.1 rfl
          have hrt := hHR.out.take (k := k) (by omega)
          rw [nds_take] at hrt
          have HRT := Lib.hid hrt
          have HR0 := hHR
          clear hrt
          have hkc : k ≤ c := by omega
          have hkl : k ≤ t.length := by omega
          rcases kid_lt (t.take k) x.parent x.name with hkd | hkd
          · have HKD := Lib.hid hkd
            have hg := grows_succ HOK.out HX.out ⟨hp.1, by omega⟩
            have HG := Lib.hid hg
            have hls := path_len_step HOK.out HX.out ⟨hp.1, by omega⟩
            have hln := path_len_ok HOK.out hp.1 (by omega) hkl
            obtain ⟨dv, hdv⟩ : ∃ dv : Int, ((path t (k : Int)).length : Int) - 1 = dv := ⟨_, rfl⟩
            have HDP := Lib.hid hdv
            have hdv1 : 0 ≤ dv ∧ dv ≤ 5 := by omega
            by_cases hdeep : (path t (k : Int)).length ≤ 5
            · have HE : Hid (decide (nodeOk t k x) = true) := decide_eq_true (node_ok hk0 hv ⟨hp.1, by omega⟩ hnm hkd hdeep)
              have hd4 : dv ≤ 4 := by omega
              clear hnm hkd hg hls hln hdeep hdv
              go_enter Try.func33, Try.ntmps33
              go_wp2_with fail
              refine (inRange_any _ _ _ _).mono ?_
              rintro e w2 ⟨rfl, rfl⟩
              rw [decide_eq_true hv]
              clear hv hp hk0
              go_wp2
              go_quiet (first | (go_at_call 34; exact inRange_yes HP.out) | (go_at_call 40; exact validName_q (HS.out.get HX.out) HNM.out) | (go_at_call 41; exact skid_q (by rw [List.length_take]; omega) (by rw [List.length_take]; omega) HZ.out HRT.out HKD.out) | (go_at_call 42; exact depth_q hn HG.out (by omega) (by omega) HR0.out HDP.out))
              go_wp2
              go_ret
              exact ⟨ret_bool HE.out.symm, _, rfl⟩
            · have HE : Hid (decide (nodeOk t k x) = false) := decide_eq_false (node_deep hk0 hdeep)
              have hd4 : ¬ dv ≤ 4 := by omega
              clear hnm hkd hg hls hln hdeep hdv
              go_enter Try.func33, Try.ntmps33
              go_wp2_with fail
              refine (inRange_any _ _ _ _).mono ?_
              rintro e w2 ⟨rfl, rfl⟩
              rw [decide_eq_true hv]
              clear hv hp hk0
              go_wp2
              go_quiet (first | (go_at_call 34; exact inRange_yes HP.out) | (go_at_call 40; exact validName_q (HS.out.get HX.out) HNM.out) | (go_at_call 41; exact skid_q (by rw [List.length_take]; omega) (by rw [List.length_take]; omega) HZ.out HRT.out HKD.out) | (go_at_call 42; exact depth_q hn HG.out (by omega) (by omega) HR0.out HDP.out))
              go_wp2
              go_ret
              exact ⟨ret_bool (by rw [HE.out]; simp; omega), _, rfl⟩
          · obtain ⟨kv, hkv⟩ : ∃ kv, kid (t.take k) x.parent x.name = kv := ⟨_, rfl⟩
            have HKD := Lib.hid hkv
            have hk1 : 0 ≤ kv := by omega
            have HE : Hid (decide (nodeOk t k x) = false) := decide_eq_false (node_kid hk0 (by omega))
            have hd4 : ¬ kv < 0 := by omega
            have hd5 : decide (kv < 0) = false := decide_eq_false hd4
            clear hnm hkd hkv
            go_enter Try.func33, Try.ntmps33
            go_wp2_with fail
            refine (inRange_any _ _ _ _).mono ?_
            rintro e w2 ⟨rfl, rfl⟩
            rw [decide_eq_true hv]
            clear hv hp hk0
            go_wp2
            go_quiet (first | (go_at_call 34; exact inRange_yes HP.out) | (go_at_call 40; exact validName_q (HS.out.get HX.out) HNM.out) | (go_at_call 41; exact skid_q (by rw [List.length_take]; omega) (by rw [List.length_take]; omega) HZ.out HRT.out HKD.out))
            go_wp2
            go_ret
            exact ⟨ret_bool HE.out.symm, _, rfl⟩
      · have HP := Lib.hid (show ¬ (0 ≤ x.parent ∧ x.parent ≤ (k : Int) - 1) from hp)
        have HE : Hid (decide (nodeOk t k x) = false) := decide_eq_false (node_parent hk0 (fun h => hp (by omega)))
        go_enter Try.func33, Try.ntmps33
        go_wp2_with fail
        refine (inRange_any _ _ _ _).mono ?_
        rintro e w2 ⟨rfl, rfl⟩
        rw [decide_eq_true hv]
        clear hv hp hk0
        go_wp2
        go_quiet (first | (go_at_call 34; exact inRange_no HP.out))
        go_wp2
        go_ret
        exact ⟨ret_bool HE.out.symm, _, rfl⟩
  · have HE : Hid (decide (nodeOk t k x) = false) := decide_eq_false (node_value hv)
    go_enter Try.func33, Try.ntmps33
    go_wp2_with fail
    refine (inRange_any _ _ _ _).mono ?_
    rintro e w2 ⟨rfl, rfl⟩
    rw [decide_eq_false hv]
    clear hv
    go_wp2
    go_ret
    exact ⟨ret_bool HE.out.symm, 0, rfl⟩

theorem svalidTree0_any (A : Option Addr) (c : Nat) (t : List Nd) (w : World) {B : Nat} (hn : t.length ≤ 2000000) (hcap : t.length ≤ c) (hS : Short t) (hr : Rd w B 3 A t.length (nds t)) :
    Calls Try.prog 19 #[.slice A t.length c] w (PBool w (validN t)) := by
  have HS := Lib.hid hS
  clear hS
  go_enter Try.func19, Try.ntmps19
  go_wp2
  go_loopg [3] t.length (fun gk i wr => ∃ k m : Nat, k ≤ t.length ∧ gk = t.length - k ∧ i = .int .i64 k ∧ Hid (nodesOk t k) ∧ wr = w.drewN m)
  case atStart => exact ⟨0, 0, Nat.zero_le _, rfl, rfl, nodesOk_zero t, rfl⟩
  case round =>
    obtain ⟨k, m, hk, rfl, rfl, HN, rfl⟩ := hrel
    by_cases hlt : k < t.length
    · obtain ⟨n, hx⟩ : ∃ n, t[k]? = some n := ⟨_, List.getElem?_eq_getElem hlt⟩
      have HX := Lib.hid hx
      clear hx
      go_wp2_with fail
      refine (validNode_any A c k t n _ hn hcap HS.out HN.out hlt HX.out (hr.drewN m)).mono ?_
      rintro e w1 ⟨rfl, m1, rfl⟩
      by_cases ho : nodeOk t k n
      · rw [decide_eq_true ho]
        have HN1 := Lib.hid (nodesOk_succ HN.out HX.out ho)
        clear ho
        go_wp2
        go_roundg (t.length - (k + 1))
        case measure => omega
        case rel => exact ⟨k + 1, m + m1, by omega, rfl, by go_num, HN1, by first | rfl | exact World.drewN_drewN _ _ _⟩
      · rw [decide_eq_false ho]
        have HE := Lib.hid (validN_bad HX.out ho)
        clear ho
        go_wp2
        go_ret
        exact ⟨ret_bool HE.out.symm, (by first | exact below_drewN (Below.refl _ _) _ | exact below_drewN (below_drewN (Below.refl _ _) _) _)⟩
    · have hkl : k = t.length := by omega
      go_wp2_with fail
      refine (inRange_any _ _ _ _).mono ?_
      rintro e w1 ⟨rfl, rfl⟩
      have HE : Hid (decide ((1 : Int) ≤ (t.length : Int) ∧ (t.length : Int) ≤ 12) = validN t) := by
        show _ = _
        by_cases hl : 1 ≤ t.length ∧ t.length ≤ 12
        · rw [validN_good hl HN.out (by omega)]; simp; omega
        · rw [validN_len hl]; simp; omega
      rw [HE.out]
      clear hkl
      go_wp2
      go_ret
      exact ⟨rfl, below_drewN (Below.refl _ _) _⟩

end Go.Proofs.Ytgikfdanamjilaa
