/- Words for the laws on trees. -/
import Derived.Test.YtgikfdanamjilaaDrawN3
import Derived.Test.YtgikfdanamjilaaLawKit
namespace Go.Proofs.Ytgikfdanamjilaa
open Go.RowKit
set_option maxRecDepth 100000
open Tl (Nd validN validN_iff ValidN)

theorem TreeW.valid {w : World} {A : Option Addr} {c : Nat} {t : List Nd} (h : TreeW w A c t) : Calls Try.prog 17 #[.slice A t.length c] w (PBool w (validN t)) :=
  validTree_any A c t w h.len5 h.cap h.short h.rd
theorem TreeW.take {w : World} {A : Option Addr} {c : Nat} {t : List Nd} (h : TreeW w A c t) {k : Nat} (hk : k ≤ t.length) : TreeW w A c (t.take k) := by
  have hl : (t.take k).length = k := by rw [List.length_take]; omega
  have h1 := h.rd.take hk
  rw [nds_take] at h1
  exact ⟨by rw [hl]; exact Nat.le_trans hk h.cap, by rw [hl]; exact h1, by rw [hl]; exact Nat.le_trans hk h.len, h.short.take k⟩
theorem TreeW.valid_at {w : World} {A : Option Addr} {c m : Nat} {t : List Nd} (h : TreeW w A c t) (hm : m ≤ t.length) : Calls Try.prog 17 #[.slice A m c] w (PBool w (validN (t.take m))) := by
  have hl : (t.take m).length = m := by rw [List.length_take]; omega
  have := (h.take hm).valid
  rw [hl] at this
  exact this
theorem TreeW.own {w : World} {base c : Nat} {A : Option Addr} {t : List Nd} (h : w.ownsRow base 52 3 (.slice A t.length c) t.length (nds t)) (hl : t.length ≤ 13) (hS : Short t) : TreeW w A c t := ⟨own_cap h, Rd.of_own h, hl, hS⟩
theorem TreeW.same {w w' : World} {c : Nat} {A : Option Addr} {t : List Nd} (h : TreeW w A c t) (hw : w = w') : TreeW w' A c t := hw ▸ h
/-- A node of a tree in memory. -/
theorem TreeW.at_ {w : World} {A : Option Addr} {c : Nat} {t : List Nd} (h : TreeW w A c t) {k : Nat} (hk : k < t.length) :
    ∃ b off x, A = some ⟨b, off, none⟩ ∧ b < w.heap.size ∧ t[k]? = some x ∧ w.cell? ⟨b, off + k * 3, none⟩ = some (.int .i64 (x.parent)) ∧ w.cell? ⟨b, off + k * 3 + 1, none⟩ = some (.string (⟨x.name.toArray⟩)) ∧ w.cell? ⟨b, off + k * 3 + 2, none⟩ = some (.int .i64 (x.value)) := h.rd.nd hk
end Go.Proofs.Ytgikfdanamjilaa
