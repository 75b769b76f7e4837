/- Package hints at int keys: the functions' contracts by what is noted. No condition but that arguments fit their kinds, and sizes. -/
import Derived.Test.YtccpkafmbmkmfaaHintsStrikeInt
namespace Go.Proofs.Ytccpkafmbmkmfaa.hInt
open Go.RowKit
set_option linter.unusedVariables false
set_option linter.unusedSimpArgs false

theorem vals_note {C : Noted Int} (h : MKeys C) (k k' : Int) (v : Int) : valsOf (noteC C k v) k' = if k' = k ∧ v ∉ valsOf C k then valsOf C k ++ [v] else valsOf C k' := by
  unfold noteC
  by_cases hm : v ∈ valsOf C k
  · rw [if_pos hm, if_neg (fun e => e.2 hm)]
  · rw [if_neg hm, valsOf_put h]
    by_cases hk : k' = k
    · rw [if_pos hk, if_pos ⟨hk, hm⟩]
    · rw [if_neg hk, if_neg (fun e => hk e.1)]
theorem total_note {C : Noted Int} (h : MKeys C) (k : Int) (v : Int) : totalOf (noteC C k v) = totalOf C + if v ∈ valsOf C k then 0 else 1 := by
  unfold noteC
  by_cases hm : v ∈ valsOf C k
  · rw [if_pos hm, if_pos hm]; rfl
  · rw [if_neg hm, if_neg hm]
    have := sum_put C h k (valsOf C k ++ [v])
    rw [List.length_append, List.length_singleton] at this
    omega
theorem vals_strike {C : Noted Int} (h : MKeys C) (k k' : Int) (v : Int) : valsOf (strikeC C k v) k' = if k' = k then (valsOf C k).erase v else valsOf C k' := by
  unfold strikeC
  by_cases hm : v ∈ valsOf C k
  · rw [if_pos hm]
    by_cases he : (valsOf C k).erase v = []
    · rw [if_pos he, valsOf_del h, he]
    · rw [if_neg he, valsOf_put h]
  · rw [if_neg hm]
    by_cases hk : k' = k
    · rw [if_pos hk, hk, List.erase_of_not_mem hm]
    · rw [if_neg hk]
theorem total_strike {C : Noted Int} (h : MKeys C) (k : Int) (v : Int) : totalOf (strikeC C k v) + (if v ∈ valsOf C k then 1 else 0) = totalOf C := by
  unfold strikeC
  by_cases hm : v ∈ valsOf C k
  · rw [if_pos hm, if_pos hm]
    have h1 := List.length_erase_of_mem hm
    have h2 := List.length_pos_of_mem hm
    by_cases he : (valsOf C k).erase v = []
    · rw [if_pos he]
      have h3 := sum_del C h k
      rw [he] at h1
      simp at h1
      omega
    · rw [if_neg he]
      have h3 := sum_put C h k ((valsOf C k).erase v)
      omega
  · rw [if_neg hm, if_neg hm]; rfl
/-- an index of int keys in which C is noted -/
abbrev Is (w : World) (S : Nat → Prop) (g b : Nat) (C : Noted Int) : Prop := Idx w S fk ok TI g b C
theorem idx_new (w : World) : Calls Try.prog 26 #[] w fun e w' => e = .returned (.pointer (some ⟨w.heap.size + 1, 0, none⟩)) ∧ Is w' (fun i => w.heap.size ≤ i) (w.heap.size + 1) w.heap.size [] ∧ Below w.heap.size w w' :=
  (new_any w).mono fun e w' ⟨he, hi, hb⟩ => ⟨he, ⟨[], rfl, hi⟩, hb⟩
variable {w : World} {S : Nat → Prop} {g b : Nat} {C : Noted Int}
theorem idx_note (k : Int) (hk : ok k) (v : Int) (hv : -9223372036854775808 ≤ v ∧ v ≤ 9223372036854775807) (h : Is w S g b C) (ht : totalOf C ≤ 549755813888) :
    Calls Try.prog 27 #[.pointer (some ⟨g, 0, none⟩), fk k, .int .i64 v] w fun e w' => e = .returned (.bool (decide (v ∉ valsOf C k))) ∧ Is w' (fun i => S i ∨ w.heap.size ≤ i) g b (noteC C k v) ∧ Touch S w w' := by
  obtain ⟨E, rfl, h⟩ := h; exact note_any w S g b E k hk v hv h ht
theorem idx_strike (k : Int) (hk : ok k) (v : Int) (hv : -9223372036854775808 ≤ v ∧ v ≤ 9223372036854775807) (h : Is w S g b C) (ht : totalOf C ≤ 549755813888) :
    Calls Try.prog 30 #[.pointer (some ⟨g, 0, none⟩), fk k, .int .i64 v] w fun e w' => e = .returned (.bool (decide (v ∈ valsOf C k))) ∧ Is w' (fun i => S i ∨ w.heap.size ≤ i) g b (strikeC C k v) ∧ Touch (fun i => i = g ∨ i = b) w w' := by
  obtain ⟨E, rfl, h⟩ := h; exact strike_any w S g b E k hk v hv h ht
theorem idx_tells (k : Int) (hk : ok k) (h : Is w S g b C) (ht : totalOf C ≤ 549755813888) : Tells (.pointer (some ⟨g, 0, none⟩)) k (valsOf C k) w := by
  obtain ⟨E, rfl, h⟩ := h
  exact tells_live hk h (by have := vals_le (notedOf E) (noted_keys h.keysE) k; omega)
theorem idx_inI (k : Int) (h : Is w S g b C) : InI (valsOf C k) := by
  obtain ⟨E, rfl, h⟩ := h; exact h.inI k
theorem idx_at (k : Int) (hk : ok k) (h : Is w S g b C) (ht : totalOf C ≤ 549755813888) :
    Calls Try.prog 28 #[.pointer (some ⟨g, 0, none⟩), fk k] w fun e w' => ∃ v, e = .returned v ∧ w'.ownsRow w.heap.size 3 1 v (valsOf C k).length ((valsOf C k).map ci) ∧ Below w.heap.size w w' := idx_tells k hk h ht w (Below.refl _ _)
theorem idx_has (k : Int) (hk : ok k) (v : Int) (h : Is w S g b C) (ht : totalOf C ≤ 549755813888) :
    Calls Try.prog 31 #[.pointer (some ⟨g, 0, none⟩), fk k, .int .i64 v] w fun e w' => e = .returned (.bool (decide (v ∈ valsOf C k))) ∧ Below w.heap.size w w' :=
  has_any (some ⟨g, 0, none⟩) k v (valsOf C k) (idx_inI k h) (by have := vals_le C h.keys k; omega) w (idx_tells k hk h ht)
end Go.Proofs.Ytccpkafmbmkmfaa.hInt
