/- How an argument of slices of bytes is opened. No condition. -/
import Derived.Test.YtdikknfdgpdenaaOpen
import Derived.Test.YtdikknfdgpdenaaRows8
import Derived.Test.YtdikknfdgpdenaaBulk
import Derived.Deep.Matrix
namespace Go.Proofs.Ytdikknfdgpdenaa
open Go.ChangeShapes Go.WideShapes Go.ChangeAt Go.RowKit Go.Deep
set_option linter.unusedVariables false

def toB (zs : List Int) : List (BitVec 8) := zs.map fun z => BitVec.ofNat 8 z.toNat
theorem toB_cells (zs : List Int) (h : ∀ z ∈ zs, (Lit.int .u8 z).wf = true) : zs.map (Value.int .u8) = (toB zs).map c8 := by
  induction zs with
  | nil => rfl
  | cons z zs ih =>
    obtain ⟨b, hb⟩ := of_wf_u8 (h z (by simp))
    rw [List.map_cons, ih (fun z hz => h z (by simp [hz]))]
    simp [toB, c8, hb]
theorem toB_len (zs : List Int) : (toB zs).length = zs.length := by simp [toB]
theorem bulk_rows {H : Type} (f : Nat → DataW H) (g : Nat → List (BitVec 8)) : ∀ l : List Nat, (∀ r ∈ l, 1 + (g r).length ≤ Rows.uptoBulk (f r)) → (l.map g).length + (l.map g).flatten.length ≤ Rows.uptoBulkAll (l.map f)
  | [], _ => by simp
  | a :: l, h => by
    have h1 := h a (by simp)
    have h2 := bulk_rows f g l (fun r hr => h r (by simp [hr]))
    simp only [List.map_cons, List.length_cons, List.flatten_cons, List.length_append, Rows.uptoBulkAll]
    omega
theorem bulk_row {H : Type} (A : Option Addr) (L : Nat) (zs : List Int) (hL : L ≤ zs.length) (h0 : A = none → zs.length = 0) : 1 + (toB (zs.take L)).length ≤ Rows.uptoBulk (intRow (H := H) .u8 A L zs) := by
  rw [toB_len, List.length_take]
  cases A with
  | none => have := h0 rfl; simp only [intRow, Rows.uptoBulk]; omega
  | some a =>
    have h := bulks.slice_le (H := H) (lits .u8 (zs.take L)) (lits .u8 (zs.drop L))
    simp only [intRow]
    have e : (lits (H := H) .u8 (zs.take L)).length = min L zs.length := by simp [lits]
    omega
section
variable {H : Type} {enc : TypeId × Value → H} {P : Program} {w : World} {base : Nat} {held : Bool}
theorem open_rows8 {t e q : TypeId} {A : Option Addr} {n c : Nat} {d : DataW H} {p : List MemPlace} (ht : P.underlying t = some (.slice e)) (he : P.underlying e = some (.slice q)) (hq : P.underlying q = some (.int .u8))
    (ce : P.cellsOf e = 1) (cq : P.cellsOf q = 1) (h : DataW.Trod enc P w base (fun _ => true) held t (.slice A n c) d p) :
    ∃ (vs : List Value) (ps : List (List (BitVec 8))), Reads w w.heap.size 1 A n vs ∧ Rows8 w w.heap.size vs ps ∧ n ≤ 9223372036854775807 ∧ n ≤ c ∧ (∀ p ∈ ps, p.length ≤ 9223372036854775807) ∧ ps.length + ps.flatten.length ≤ Rows.uptoBulk d := by
  obtain ⟨fuel, hf⟩ := h
  rcases open_int_rows ht he hq ce cq hf with ⟨hcs, hx⟩ | ⟨a, len, cap, A', L, C, Z, hcs, hb, hl, hm, hx, hr⟩
  · simp [Value.cells] at hcs
    obtain ⟨rfl, rfl, rfl⟩ := hcs
    exact ⟨[], [], Reads.none_, ⟨rfl, fun i v p hv => by simp at hv⟩, by omega, by omega, by simp, by simp⟩
  · simp [Value.cells] at hcs
    obtain ⟨rfl, rfl, rfl⟩ := hcs
    unfold maxLen at hm
    have row : ∀ r, r < n → Row8 w w.heap.size (.slice (A' r) (L r) (C r)) (toB ((Z r).take (L r))) := by
      intro r hrn
      obtain ⟨_, h1, h2, h3, h4, h5, h6⟩ := hr r (by omega)
      refine ⟨_, _, _, rfl, ?_, h1⟩
      rw [← toB_cells _ (fun z hz => h4 z (List.mem_of_mem_take hz))]
      refine ⟨by simp; omega, fun hn => ?_⟩
      cases hA : A' r with
      | none => have := h5 hA; omega
      | some a' =>
        obtain ⟨_, hc⟩ := h6 a' hA
        refine ⟨a', rfl, ?_, fun j u hu => ?_⟩
        · have := block_lt_of_cell (hc 0 (by omega))
          rwa [block_of_add] at this
        · have hj : j < L r := by
            have := (List.getElem?_eq_some_iff.1 hu).1
            simp at this; omega
          have hj' : j < (Z r).length := by omega
          rw [hc j (by omega)]
          simp [hj, hj'] at hu
          rw [← hu]
          simp [List.getD, hj']
    refine ⟨(List.range n).map fun r => .slice (A' r) (L r) (C r), (List.range n).map fun r => toB ((Z r).take (L r)), ⟨by simp, fun hn => ⟨a, rfl, ?_, fun j u hu => ?_⟩⟩, ⟨by simp, fun i v p hv hp => ?_⟩, by omega, hl, fun p hp => ?_, ?_⟩
    · have := block_lt_of_cell (hr 0 (by omega)).1
      rwa [block_of_add] at this
    · have hj : j < n := by
        have := (List.getElem?_eq_some_iff.1 hu).1
        simpa using this
      rw [(hr j (by omega)).1]
      simp [hj] at hu
      rw [← hu]
    · have hi : i < n := by
        have := (List.getElem?_eq_some_iff.1 hv).1
        simpa using this
      simp [hi] at hv hp
      rw [← hv, ← hp]
      exact row i hi
    · obtain ⟨r, hrn, rfl⟩ := List.mem_map.1 hp
      obtain ⟨_, h1, h2, h3, _⟩ := hr r (by have := List.mem_range.1 hrn; omega)
      unfold maxLen at h2
      rw [toB_len, List.length_take]; omega
    · have hd : d = (DataW.slice ((List.range n).map fun r => intRow .u8 (A' r) (L r) (Z r)) ((List.range (c - n)).map fun j => intRow .u8 (A' (n + j)) (L (n + j)) (Z (n + j)))) := by
        injection hx
      rw [hd]
      have h1 := bulk_rows (H := H) (fun r => intRow .u8 (A' r) (L r) (Z r)) (fun r => toB ((Z r).take (L r))) (List.range n) (fun r hrn => by
        obtain ⟨_, h1, h2, h3, _, h5, _⟩ := hr r (by have := List.mem_range.1 hrn; omega)
        exact bulk_row _ _ _ (by omega) (fun e => by rw [h3]; exact h5 e))
      have h2 := bulks.slice_elems (H := H) ((List.range n).map fun r => intRow .u8 (A' r) (L r) (Z r)) ((List.range (c - n)).map fun j => intRow .u8 (A' (n + j)) (L (n + j)) (Z (n + j)))
      omega
end
end Go.Proofs.Ytdikknfdgpdenaa
