/- Package hints at string keys: the functions' contracts by what is noted. No condition but that arguments fit their kinds, and sizes. -/
import Derived.Test.YtccpkafmbmkmfaaHintsStrikeStr
namespace Go.Proofs.Ytccpkafmbmkmfaa.hStr
open Go.RowKit
set_option linter.unusedVariables false
set_option linter.unusedSimpArgs false

/-- an index of string keys in which C is noted -/
abbrev Is (w : World) (S : Nat → Prop) (g b : Nat) (C : Noted ByteArray) : Prop := Idx w S fk ok TI g b C
theorem idx_new (w : World) : Calls Try.prog 71 #[] w fun e w' => e = .returned (.pointer (some ⟨w.heap.size + 1, 0, none⟩)) ∧ Is w' (fun i => w.heap.size ≤ i) (w.heap.size + 1) w.heap.size [] ∧ Below w.heap.size w w' :=
  (new_any w).mono fun e w' ⟨he, hi, hb⟩ => ⟨he, ⟨[], rfl, hi⟩, hb⟩
variable {w : World} {S : Nat → Prop} {g b : Nat} {C : Noted ByteArray}
theorem idx_note (k : ByteArray) (hk : ok k) (v : Int) (hv : -9223372036854775808 ≤ v ∧ v ≤ 9223372036854775807) (h : Is w S g b C) (ht : totalOf C ≤ 549755813888) :
    Calls Try.prog 72 #[.pointer (some ⟨g, 0, none⟩), fk k, .int .i64 v] w fun e w' => e = .returned (.bool (decide (v ∉ valsOf C k))) ∧ Is w' (fun i => S i ∨ w.heap.size ≤ i) g b (noteC C k v) ∧ Touch S w w' := by
  obtain ⟨E, rfl, h⟩ := h; exact note_any w S g b E k hk v hv h ht
theorem idx_strike (k : ByteArray) (hk : ok k) (v : Int) (hv : -9223372036854775808 ≤ v ∧ v ≤ 9223372036854775807) (h : Is w S g b C) (ht : totalOf C ≤ 549755813888) :
    Calls Try.prog 73 #[.pointer (some ⟨g, 0, none⟩), fk k, .int .i64 v] w fun e w' => e = .returned (.bool (decide (v ∈ valsOf C k))) ∧ Is w' (fun i => S i ∨ w.heap.size ≤ i) g b (strikeC C k v) ∧ Touch (fun i => i = g ∨ i = b) w w' := by
  obtain ⟨E, rfl, h⟩ := h; exact strike_any w S g b E k hk v hv h ht
theorem idx_tells (k : ByteArray) (hk : ok k) (h : Is w S g b C) (ht : totalOf C ≤ 549755813888) : Tells (.pointer (some ⟨g, 0, none⟩)) k (valsOf C k) w := by
  obtain ⟨E, rfl, h⟩ := h
  exact tells_live hk h (by have := vals_le (notedOf E) (noted_keys h.keysE) k; omega)
theorem idx_inI (k : ByteArray) (h : Is w S g b C) : InI (valsOf C k) := by
  obtain ⟨E, rfl, h⟩ := h; exact h.inI k
theorem idx_at (k : ByteArray) (hk : ok k) (h : Is w S g b C) (ht : totalOf C ≤ 549755813888) :
    Calls Try.prog 74 #[.pointer (some ⟨g, 0, none⟩), fk k] w fun e w' => ∃ v, e = .returned v ∧ w'.ownsRow w.heap.size 3 1 v (valsOf C k).length ((valsOf C k).map ci) ∧ Below w.heap.size w w' := idx_tells k hk h ht w (Below.refl _ _)
theorem idx_has (k : ByteArray) (hk : ok k) (v : Int) (h : Is w S g b C) (ht : totalOf C ≤ 549755813888) :
    Calls Try.prog 111 #[.pointer (some ⟨g, 0, none⟩), fk k, .int .i64 v] w fun e w' => e = .returned (.bool (decide (v ∈ valsOf C k))) ∧ Below w.heap.size w w' :=
  has_any (some ⟨g, 0, none⟩) k v (valsOf C k) (idx_inI k h) (by have := vals_le C h.keys k; omega) w (idx_tells k hk h ht)
end Go.Proofs.Ytccpkafmbmkmfaa.hStr
