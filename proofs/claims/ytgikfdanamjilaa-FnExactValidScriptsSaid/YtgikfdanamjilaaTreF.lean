/- Contracts: AddNode, of both packages. -/
import Derived.Test.YtgikfdanamjilaaTreE
namespace Go.Proofs.Ytgikfdanamjilaa
open Go.RowKit
set_option maxRecDepth 100000
open Tl (Nd nameOk kid path validN validN_iff nodeOk nodesOk ValidN Grows)

/-- A tree with a node more. -/
noncomputable def addT (t : List Nd) (n : Nd) : Option (List Nd) := if validN t && validN (t ++ [n]) then some (t ++ [n]) else none
theorem addT_some {t m : List Nd} {n : Nd} (h : addT t n = some m) : validN t = true ∧ validN m = true ∧ m = t ++ [n] := by
  unfold addT at h
  split at h
  · rename_i h1
    obtain rfl := Option.some.inj h
    simp at h1
    exact ⟨h1.1, h1.2, rfl⟩
  · cases h
theorem addT_no {t : List Nd} {n : Nd} (h : validN t = false) : addT t n = none := by simp [addT, h]
theorem addT_no2 {t : List Nd} {n : Nd} (h : validN (t ++ [n]) = false) : addT t n = none := by simp [addT, h]
theorem addT_yes {t : List Nd} {n : Nd} (h : validN t = true) (h2 : validN (t ++ [n]) = true) : addT t n = some (t ++ [n]) := by simp [addT, h, h2]
theorem addT_full {t : List Nd} {n : Nd} (h : t.length = 12) : addT t n = none := addT_no2 (validN_len (by rw [List.length_append]; simp; omega))

def PAdd (w : World) (t : List Nd) (r : Option (List Nd)) (e : Ending) (w' : World) : Prop :=
  ∃ A c, e = .returned (.tuple #[.slice A (r.getD []).length c, .int .i64 (if r.isSome then (t.length : Int) else -1), .bool r.isSome]) ∧
    w'.ownsRow w.heap.size 52 3 (.slice A (r.getD []).length c) (r.getD []).length (nds (r.getD [])) ∧ Below w.heap.size w w'
theorem PAdd.none_ {w w' : World} {t : List Nd} (h : Below w.heap.size w w') : PAdd w t none (.returned (.tuple #[.slice none 0 0, .int .i64 (-1), .bool false])) w' :=
  ⟨none, 0, rfl, World.ownsRow_nil _ _ _ _, h⟩
theorem PAdd.some_ {w w' : World} {t m : List Nd} {A : Option Addr} {k c : Nat} (hk : k = m.length) (ho : w'.ownsRow w.heap.size 52 3 (.slice A k c) k (nds m)) (h : Below w.heap.size w w') : PAdd w t (some m) (.returned (.tuple #[.slice A k c, .int .i64 (t.length : Int), .bool true])) w' := by
  subst hk
  exact ⟨A, c, rfl, ho, h⟩
theorem own_cap {w : World} {base : Nat} {e : TypeId} {sz n c : Nat} {A : Option Addr} {xs : List Value} (h : w.ownsRow base e sz (.slice A n c) n xs) : n ≤ c := by
  obtain ⟨A', c', h1, h2⟩ := own_slice h
  injection h1 with e1 e2 e3
  omega
theorem short_snoc {t : List Nd} (h : Short t) {n : Nd} (hn : n.name.length ≤ 2000000) : Short (t ++ [n]) := by
  intro m hm
  rcases List.mem_append.1 hm with hm | hm
  · exact h m hm
  · simp at hm; subst hm; exact hn

theorem saddNode_any (A : Option Addr) (c : Nat) (t : List Nd) (p : Int) (s : List UInt8) (v : Int) (w : World) (hn : t.length ≤ 10000) (hcap : t.length ≤ c) (hS : Short t) (hs : s.length ≤ 2000000) (hr : Rd w w.heap.size 3 A t.length (nds t)) :
    Calls Try.prog 38 #[.slice A t.length c, .int .i64 p, .string ⟨s.toArray⟩, .int .i64 v] w (PAdd w t (addT t ⟨p, s, v⟩)) := by
  have HS2 := Lib.hid (short_snoc hS (n := ⟨p, s, v⟩) hs)
  cases hv : validN t
  · rw [addT_no hv]
    have HV := Lib.hid hv
    clear hv
    go_enter Try.func38, Try.ntmps38
    go_wp2_with fail
    refine (svalidTree0_any A c t _ (by omega) hcap hS hr).mono ?_
    rintro e w1 ⟨rfl, hb1⟩
    rw [HV.out]
    go_wp2
    refine bodyPost_ret (v := .tuple #[.slice none 0 0, .int .i64 (-1), .bool false]) (by simp [results, Try.results38, go_sem]) rfl ?_
    exact PAdd.none_ hb1
  · have HV := Lib.hid hv
    have hl := (validN_iff.1 hv).1
    clear hv
    by_cases hfull : t.length = 12
    · rw [addT_full hfull]
      have hfull' : ((t.length : Int) == 12) = true := by simp [hfull]
      clear hfull
      go_enter Try.func38, Try.ntmps38
      go_wp2_with fail
      refine (svalidTree0_any A c t _ (by omega) hcap hS hr).mono ?_
      rintro e w1 ⟨rfl, hb1⟩
      rw [HV.out]
      go_wp2
      refine bodyPost_ret (v := .tuple #[.slice none 0 0, .int .i64 (-1), .bool false]) (by simp [results, Try.results38, go_sem]) rfl ?_
      exact PAdd.none_ hb1
    have hfull' : ((t.length : Int) == 12) = false := by simp; omega
    cases hv2 : validN (t ++ [⟨p, s, v⟩])
    · rw [addT_no2 hv2]
      have HV2 := Lib.hid hv2
      clear hv2
      go_enter Try.func38, Try.ntmps38
      go_wp2_with fail
      refine (svalidTree0_any A c t _ (by omega) hcap hS hr).mono ?_
      rintro e w1 ⟨rfl, hb1⟩
      have hb0 := (Below.refl w1.heap.size w1).alloc (Nat.le_refl _) (.cells #[] 52)
      have hr1 := (hr.step hb1).below hb0
      have hown := own_lit0 w1 52 3 (Nat.le_refl _)
      rw [HV.out]
      clear hr
      go_wp2_with (first
        | (at_builtin; refine wpList_join_nd (xs := []) rfl _ _ rfl rfl hown rfl hr1 (by omega) (by simp) ?_; intro A2 c2 w2 _ ho2 hb2 _; simp only [Nat.zero_add, List.nil_append] at ho2 ⊢; have hb3 := hb0.trans hb2; have hb3s := hb3.size; clear hr1 hb2 hb0 hown)
        | (at_builtin; refine wpList_push_nd rfl _ _ rfl ⟨p, s, v⟩ rfl (ho2.alloc _) rfl (heap_alloc_new w2 _) (by omega) (by simp; omega) ?_; intro A3 c3 w3 ho3 hb5 _))
      have hb4 := hb3.alloc hb3.size (.cells #[.int .i64 p, .string ⟨s.toArray⟩, .int .i64 v] 52)
      have hb6 := hb1.trans ((hb4.trans hb5).mono hb1.size)
      have hcap3 := own_cap ho3
      have hr3 := Rd.of_own ho3
      have hle : (t ++ [(⟨p, s, v⟩ : Nd)]).length = t.length + 1 := by simp
      rw [← hle] at hr3 hcap3 ho3 ⊢
      clear ho2 hb5 hb4
      go_wp2_with fail
      refine (svalidTree0_any A3 c3 _ _ (by rw [hle]; omega) hcap3 HS2.out hr3).mono ?_
      rintro e w4 ⟨rfl, hb7⟩
      have hb8 := hb6.trans (hb7.mono hb6.size)
      have ho7 := own_base (own_below ho3 hb7 (Nat.le_refl _)) hb1.size
      rw [HV2.out]
      clear ho3 hr3 hb6 hb7 hb1
      go_wp2
      refine bodyPost_ret (v := .tuple #[.slice none 0 0, .int .i64 (-1), .bool false]) (by simp [results, Try.results38, go_sem]) rfl ?_
      exact PAdd.none_ hb8
    · rw [addT_yes HV.out hv2]
      have HV2 := Lib.hid hv2
      clear hv2
      go_enter Try.func38, Try.ntmps38
      go_wp2_with fail
      refine (svalidTree0_any A c t _ (by omega) hcap hS hr).mono ?_
      rintro e w1 ⟨rfl, hb1⟩
      have hb0 := (Below.refl w1.heap.size w1).alloc (Nat.le_refl _) (.cells #[] 52)
      have hr1 := (hr.step hb1).below hb0
      have hown := own_lit0 w1 52 3 (Nat.le_refl _)
      rw [HV.out]
      clear hr
      go_wp2_with (first
        | (at_builtin; refine wpList_join_nd (xs := []) rfl _ _ rfl rfl hown rfl hr1 (by omega) (by simp) ?_; intro A2 c2 w2 _ ho2 hb2 _; simp only [Nat.zero_add, List.nil_append] at ho2 ⊢; have hb3 := hb0.trans hb2; have hb3s := hb3.size; clear hr1 hb2 hb0 hown)
        | (at_builtin; refine wpList_push_nd rfl _ _ rfl ⟨p, s, v⟩ rfl (ho2.alloc _) rfl (heap_alloc_new w2 _) (by omega) (by simp; omega) ?_; intro A3 c3 w3 ho3 hb5 _))
      have hb4 := hb3.alloc hb3.size (.cells #[.int .i64 p, .string ⟨s.toArray⟩, .int .i64 v] 52)
      have hb6 := hb1.trans ((hb4.trans hb5).mono hb1.size)
      have hcap3 := own_cap ho3
      have hr3 := Rd.of_own ho3
      have hle : (t ++ [(⟨p, s, v⟩ : Nd)]).length = t.length + 1 := by simp
      rw [← hle] at hr3 hcap3 ho3 ⊢
      clear ho2 hb5 hb4
      go_wp2_with fail
      refine (svalidTree0_any A3 c3 _ _ (by rw [hle]; omega) hcap3 HS2.out hr3).mono ?_
      rintro e w4 ⟨rfl, hb7⟩
      have hb8 := hb6.trans (hb7.mono hb6.size)
      have ho7 := own_base (own_below ho3 hb7 (Nat.le_refl _)) hb1.size
      rw [HV2.out]
      clear ho3 hr3 hb6 hb7 hb1
      go_wp2
      refine bodyPost_ret (v := .tuple #[.slice A3 (t ++ [(⟨p, s, v⟩ : Nd)]).length c3, .int .i64 (t.length : Int), .bool true]) (by simp [results, Try.results38, go_sem]) rfl ?_
      exact PAdd.some_ rfl ho7 hb8
end Go.Proofs.Ytgikfdanamjilaa
