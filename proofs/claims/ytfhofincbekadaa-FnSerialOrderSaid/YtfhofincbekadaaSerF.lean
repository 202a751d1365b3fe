/- Contracts: spec.serial, spec.SerialOrder. -/
import Derived.Test.YtfhofincbekadaaSerE
namespace Go.Proofs.Ytfhofincbekadaa
open Go.RowKit
open Tl (Ac okA validA validA_iff clash must takes clashes T4 mem_T4 free free_iff serial serialGo serialOk allDone allDone_iff must_takes)

def fAll (xs : List Ac) (done : List Int) (t : Int) (j : Nat) : Bool := (takes xs t && !decide (t ∈ done)) && (T4.take j).all fun a => decide (a ∈ done) || !must xs a t
theorem fAll_zero (xs : List Ac) (done : List Int) (t : Int) : fAll xs done t 0 = (takes xs t && !decide (t ∈ done)) := by simp [fAll]
theorem fAll_succ (xs : List Ac) (done : List Int) (t : Int) {j : Nat} (hj : j < 4) : fAll xs done t (j + 1) = (fAll xs done t j && (decide ((j : Int) ∈ done) || !must xs j t)) := by
  unfold fAll
  rw [T4_take_succ hj, List.all_append]
  simp [Bool.and_assoc]
theorem fAll_four (xs : List Ac) (done : List Int) (t : Int) {j : Nat} (hj : 4 ≤ j) : fAll xs done t j = free xs done t := by
  unfold fAll free
  rw [List.take_of_length_le (by simpa [T4] using hj)]
  simp
/-- How far the search for the next one has come. -/
def FindAt (xs : List Ac) (done : List Int) (k : Nat) (v : Int) : Prop := (v = -1 ∧ (T4.take k).find? (free xs done) = none) ∨ (T4.find? (free xs done) = some v)
theorem FindAt.hit {xs : List Ac} {done : List Int} {k : Nat} (h : FindAt xs done k (-1)) (hk : k < 4) (hf : free xs done k = true) : T4.find? (free xs done) = some (k : Int) := by
  rcases h with ⟨_, h⟩ | h
  · rw [← List.take_append_drop k T4, List.find?_append, h, T4_drop hk, List.find?_cons, hf]; rfl
  · have := mem_T4.1 (List.mem_of_find?_eq_some h); omega
theorem FindAt.skip {xs : List Ac} {done : List Int} {k : Nat} (h : FindAt xs done k (-1)) (hk : k < 4) (hf : free xs done k = false) : FindAt xs done (k + 1) (-1) := by
  rcases h with ⟨_, h⟩ | h
  · exact .inl ⟨rfl, by rw [T4_take_succ hk, List.find?_append, h, List.find?_cons, hf]; rfl⟩
  · exact .inr h
theorem FindAt.none_ {xs : List Ac} {done : List Int} {k : Nat} (h : FindAt xs done k (-1)) (hk : 4 ≤ k) : T4.find? (free xs done) = none := by
  rcases h with ⟨_, h⟩ | h
  · rwa [List.take_of_length_le (by simpa [T4] using hk)] at h
  · have := mem_T4.1 (List.mem_of_find?_eq_some h); omega
theorem FindAt.some_ {xs : List Ac} {done : List Int} {k : Nat} {v : Int} (h : FindAt xs done k v) (hv : v ≠ -1) : T4.find? (free xs done) = some v := by
  rcases h with ⟨h, _⟩ | h
  · exact absurd h hv
  · exact h
theorem FindAt.range {xs : List Ac} {done : List Int} {k : Nat} {v : Int} (h : FindAt xs done k v) : v = -1 ∨ (0 ≤ v ∧ v ≤ 3) := by
  rcases h with ⟨h, _⟩ | h
  · exact .inl h
  · exact .inr (mem_T4.1 (List.mem_of_find?_eq_some h))

set_option maxHeartbeats 2000000 in
set_option maxRecDepth 100000 in
theorem serial_any (A : Option Addr) (c : Nat) (xs : List Ac) (w : World) (hn : xs.length ≤ 100000) (hok : ∀ x ∈ xs, okA x) (hr : Rd w w.heap.size 3 A xs.length (acs xs)) :
    Calls Try.prog 51 #[.slice A xs.length c] w (PInts w (serial xs)) := by
  go_enter Try.func51, Try.ntmps51
  go_wp2
  go_loopg [3] 4 (fun gk ov wr => ∃ (done : List Int) (n : Nat) (A' : Option Addr) (c' : Nat), n = gk ∧ n ≤ 4 ∧ ov = .slice A' done.length c' ∧ Hid (SerAt xs done n) ∧ done.length ≤ 4 ∧ 
    wr.ownsRow w.heap.size 3 1 ov done.length (ints done) ∧ Below w.heap.size w wr)
  case atStart => exact ⟨[], 4, _, 0, rfl, Nat.le_refl _, rfl, SerAt.start xs, by simp, own_lit0 w 3 1 (Nat.le_refl _), (Below.refl _ _).alloc (Nat.le_refl _) _⟩
  case round =>
    obtain ⟨done, n, A', c', hgk, hn4, rfl, HS, hl4, hown, hb⟩ := hrel
    subst hgk
    go_wp2
    obtain ⟨wo, rfl⟩ : ∃ wo : World, wo = wr := ⟨_, rfl⟩
    go_loopg [4, 5] 4 (fun gk nv tv wr => ∃ (k : Nat) (v : Int), k ≤ 4 ∧ gk = 4 - k ∧ tv = .int .i64 k ∧ nv = .int .i64 v ∧ Hid (FindAt xs done k v) ∧ 
      wr.ownsRow w.heap.size 3 1 (.slice A' done.length c') done.length (ints done) ∧ Below w.heap.size w wr)
    case atStart => exact ⟨0, -1, Nat.zero_le _, rfl, rfl, rfl, .inl ⟨rfl, rfl⟩, hown, hb⟩
    case round =>
      clear hown hb
      obtain ⟨k, v, hk, rfl, rfl, rfl, HF, hown, hb⟩ := hrel
      have hvr := HF.out.range
      by_cases hv : v = -1
      · subst hv
        by_cases hk4 : k < 4
        · have hd : decide ((k : Int) < 4) = true := by simp; omega
          have hr1 := (hr.below hb).more hb.size
          have hro := Rd.of_own hown
          have HZ := Lib.hid (fAll_zero xs done k)
          clear hvr
          go_wp2_with fail
          refine (takesPart_any A c xs (k : Int) _ hn hr1).mono ?_
          rintro e w' ⟨rfl, rfl⟩
          cases ht : takes xs (k : Int)
          · have HK : Hid (FindAt xs done (k + 1) (-1)) := HF.out.skip hk4 (by rw [← fAll_four xs done k (Nat.le_refl 4)]; simp [fAll, ht])
            clear ht
            go_wp2
            obtain ⟨wq, rfl⟩ : ∃ wq : World, wq = wr := ⟨_, rfl⟩
            clear hd hr1 hro
            go_loopg [6, 7] 4 (fun gk fv av wr => ∃ j : Nat, j ≤ 4 ∧ gk = 4 - j ∧ fv = .bool false ∧ av = .int .i64 j ∧ wr.ownsRow w.heap.size 3 1 (.slice A' done.length c') done.length (ints done) ∧ Below w.heap.size w wr)
            case atStart => exact ⟨0, Nat.zero_le _, rfl, rfl, rfl, hown, hb⟩
            case round =>
              clear hown hb
              obtain ⟨j, hj, rfl, rfl, rfl, hown, hb⟩ := hrel
              by_cases hj4 : j < 4
              · go_wp2
                go_roundg (4 - (j + 1))
                case measure => omega
                case rel => exact ⟨j + 1, by omega, rfl, rfl, by go_num, hown, hb⟩
              · go_wp2
                go_roundg (4 - (k + 1))
                case measure => omega
                case rel => exact ⟨k + 1, -1, by omega, rfl, by go_num, rfl, HK, hown, hb⟩
          · rw [ht] at HZ
            have HTk := Lib.hid ht
            clear ht
            go_wp2_with fail
            refine (sisIn_any A' c' done (k : Int) _ (by omega) hro).mono ?_
            rintro e w' ⟨rfl, rfl⟩
            cases hi : decide ((k : Int) ∈ done)
            · have HT : Hid (fAll xs done k 0 = true) := by show _ = _; rw [HZ.out, hi]; rfl
              clear hi
              go_wp2
              obtain ⟨wq, rfl⟩ : ∃ wq : World, wq = wr := ⟨_, rfl⟩
              clear hd hr1 hro
              go_loopg [6, 7] 4 (fun gk fv av wr => ∃ j : Nat, j ≤ 4 ∧ gk = 4 - j ∧ fv = .bool (fAll xs done k j) ∧ av = .int .i64 j ∧ wr.ownsRow w.heap.size 3 1 (.slice A' done.length c') done.length (ints done) ∧ Below w.heap.size w wr)
              case atStart => exact ⟨0, Nat.zero_le _, rfl, by rw [HT.out], rfl, hown, hb⟩
              case round =>
                clear hown hb
                obtain ⟨j, hj, rfl, rfl, rfl, hown, hb⟩ := hrel
                by_cases hj4 : j < 4
                · have HU := Lib.hid (fAll_succ xs done k hj4)
                  cases hf : fAll xs done k j
                  · rw [hf] at HU
                    clear hf
                    go_wp2
                    go_roundg (4 - (j + 1))
                    case measure => omega
                    case rel => exact ⟨j + 1, by omega, rfl, by rw [HU.out]; rfl, by go_num, hown, hb⟩
                  · rw [hf] at HU
                    clear hf
                    have hro := Rd.of_own hown
                    have hr1 := (hr.below hb).more hb.size
                    have hdj : decide ((j : Int) < 4) = true := by simp; omega
                    go_wp2_with fail
                    refine (sisIn_any A' c' done (j : Int) _ (by omega) hro).mono ?_
                    rintro e w' ⟨rfl, rfl⟩
                    cases hi : decide ((j : Int) ∈ done)
                    · rw [hi] at HU
                      clear hi hro
                      go_wp2_with fail
                      refine (mustFollow_any A c xs (j : Int) (k : Int) _ hn hr1).mono ?_
                      rintro e w' ⟨rfl, hb'⟩
                      have hb2 := below_then hb hb' hb.size
                      have hown2 := own_below hown hb' (Nat.le_refl _)
                      clear hb hb' hown hr1
                      cases hm : must xs (j : Int) (k : Int)
                      · rw [hm] at HU
                        clear hm
                        go_wp2
                        go_roundg (4 - (j + 1))
                        case measure => omega
                        case rel => exact ⟨j + 1, by omega, rfl, by rw [HU.out]; rfl, by go_num, hown2, hb2⟩
                      · rw [hm] at HU
                        clear hm
                        go_wp2
                        go_roundg (4 - (j + 1))
                        case measure => omega
                        case rel => exact ⟨j + 1, by omega, rfl, by rw [HU.out]; rfl, by go_num, hown2, hb2⟩
                    · rw [hi] at HU
                      clear hi hro
                      go_wp2
                      go_roundg (4 - (j + 1))
                      case measure => omega
                      case rel => exact ⟨j + 1, by omega, rfl, by rw [HU.out]; rfl, by go_num, hown, hb⟩
                · have HE := Lib.hid (fAll_four xs done k (j := j) (by omega))
                  rw [HE.out]
                  cases hf : free xs done k
                  · have HK : Hid (FindAt xs done (k + 1) (-1)) := HF.out.skip hk4 hf
                    clear hf
                    go_wp2
                    go_roundg (4 - (k + 1))
                    case measure => omega
                    case rel => exact ⟨k + 1, -1, by omega, rfl, by go_num, rfl, HK, hown, hb⟩
                  · have HK : Hid (FindAt xs done (k + 1) k) := .inr (HF.out.hit hk4 hf)
                    clear hf
                    go_wp2
                    go_roundg (4 - (k + 1))
                    case measure => omega
                    case rel => exact ⟨k + 1, k, by omega, rfl, by go_num, rfl, HK, hown, hb⟩
            · have HK : Hid (FindAt xs done (k + 1) (-1)) := HF.out.skip hk4 (by rw [← fAll_four xs done k (Nat.le_refl 4)]; simp [fAll, of_decide_eq_true hi])
              clear hi
              go_wp2
              obtain ⟨wq, rfl⟩ : ∃ wq : World, wq = wr := ⟨_, rfl⟩
              clear hd hr1 hro
              go_loopg [6, 7] 4 (fun gk fv av wr => ∃ j : Nat, j ≤ 4 ∧ gk = 4 - j ∧ fv = .bool false ∧ av = .int .i64 j ∧ wr.ownsRow w.heap.size 3 1 (.slice A' done.length c') done.length (ints done) ∧ Below w.heap.size w wr)
              case atStart => exact ⟨0, Nat.zero_le _, rfl, rfl, rfl, hown, hb⟩
              case round =>
                clear hown hb
                obtain ⟨j, hj, rfl, rfl, rfl, hown, hb⟩ := hrel
                by_cases hj4 : j < 4
                · go_wp2
                  go_roundg (4 - (j + 1))
                  case measure => omega
                  case rel => exact ⟨j + 1, by omega, rfl, rfl, by go_num, hown, hb⟩
                · go_wp2
                  go_roundg (4 - (k + 1))
                  case measure => omega
                  case rel => exact ⟨k + 1, -1, by omega, rfl, by go_num, rfl, HK, hown, hb⟩
        · have HE := Lib.hid (HS.out.ends (HF.out.none_ (by omega)))
          go_wp2
          go_ret
          rw [HE.out]
          exact ⟨A', c', rfl, hown, hb⟩
      · have HE := HF.out.some_ hv
        have hv0 : 0 ≤ v := by omega
        obtain ⟨m, hm, hS2, hl4, ht0, ht3⟩ := HS.out.next hok HE
        have HS2 := Lib.hid hS2
        have hvn : ¬ v < 0 := by omega
        have hd : decide ((k : Int) < 4) = decide ((k : Int) < 4) := rfl
        clear HE hS2 hv hvr hd
        by_cases hk4 : (k : Int) < 4
        · go_wp2_with (at_builtin; refine wpList_push_int rfl _ _ rfl rfl hown rfl rfl (by omega) hb.size ?_; intro A2 c2 w7 ho7 hb7 _)
          have hb8 := hb.trans hb7
          clear hown hb7
          go_wp2
          go_roundg m
          case measure => omega
          case rel => exact ⟨done ++ [v], m, A2, c2, rfl, by omega, by simp, HS2, by simp; omega, by simpa [ints] using ho7, hb8⟩
        · go_wp2_with (at_builtin; refine wpList_push_int rfl _ _ rfl rfl hown rfl rfl (by omega) hb.size ?_; intro A2 c2 w7 ho7 hb7 _)
          have hb8 := hb.trans hb7
          clear hown hb7
          go_wp2
          go_roundg m
          case measure => omega
          case rel => exact ⟨done ++ [v], m, A2, c2, rfl, by omega, by simp, HS2, by simp; omega, by simpa [ints] using ho7, hb8⟩
end Go.Proofs.Ytfhofincbekadaa
