/- How arguments are opened: from the form's readings to what the walks ask. No condition. -/
import Derived.Test.YtccpkafmbmkmfaaLists
import Derived.ProofKit
import Derived.OpenShut
import Derived.ShutString
import Derived.ChangeOld
namespace Go.Proofs.Ytccpkafmbmkmfaa
open Go.ChangeShapes Go.WideShapes Go.ChangeAt Go.RowKit
set_option linter.unusedVariables false

theorem of_wf_u8 {x : Int} (h : (Lit.int .u8 x).wf = true) : ∃ b : BitVec 8, x = (b.toNat : Int) := by
  simp [Lit.wf, IntKind.min, IntKind.max, IntKind.signed, IntKind.bits] at h
  exact ⟨BitVec.ofNat 8 x.toNat, by rw [BitVec.toNat_ofNat]; omega⟩
theorem of_wf_u16 {x : Int} (h : (Lit.int .u16 x).wf = true) : ∃ b : BitVec 16, x = (b.toNat : Int) := by
  simp [Lit.wf, IntKind.min, IntKind.max, IntKind.signed, IntKind.bits] at h
  exact ⟨BitVec.ofNat 16 x.toNat, by rw [BitVec.toNat_ofNat]; omega⟩
theorem of_wf_u32 {x : Int} (h : (Lit.int .u32 x).wf = true) : ∃ b : BitVec 32, x = (b.toNat : Int) := by
  simp [Lit.wf, IntKind.min, IntKind.max, IntKind.signed, IntKind.bits] at h
  exact ⟨BitVec.ofNat 32 x.toNat, by rw [BitVec.toNat_ofNat]; omega⟩
theorem of_wf_u64 {x : Int} (h : (Lit.int .u64 x).wf = true) : ∃ b : BitVec 64, x = (b.toNat : Int) := by
  simp [Lit.wf, IntKind.min, IntKind.max, IntKind.signed, IntKind.bits] at h
  exact ⟨BitVec.ofNat 64 x.toNat, by rw [BitVec.toNat_ofNat]; omega⟩
theorem of_wf_i64 {x : Int} (h : (Lit.int .i64 x).wf = true) : -9223372036854775808 ≤ x ∧ x ≤ 9223372036854775807 := by
  simp [Lit.wf, IntKind.min, IntKind.max, IntKind.signed, IntKind.bits] at h
  exact ⟨by omega, by omega⟩
abbrev ci (z : Int) : Value := .int .i64 z
theorem block_lt_of_cell {w : World} {a : Addr} {v : Value} (h : w.cell? a = some v) : a.block < w.heap.size := by
  rcases Nat.lt_or_ge a.block w.heap.size with h1 | h1
  · exact h1
  · unfold World.cell? at h; rw [Array.getElem?_eq_none h1] at h; cases h
section
variable {H : Type} {enc : TypeId × Value → H} {P : Program} {w : World} {base : Nat} {spare : Nat → Bool} {held : Bool}
theorem open_rowk {k : IntKind} {t e : TypeId} {A : Option Addr} {n c : Nat} {d : DataW H} {p : List MemPlace} (ht : P.underlying t = some (.slice e)) (he : P.underlying e = some (.int k)) (hc : P.cellsOf e = 1)
    (h : DataW.Trod enc P w base spare held t (.slice A n c) d p) : ∃ zs : List Int, Reads w w.heap.size 1 A n (zs.map (Value.int k)) ∧ n ≤ 9223372036854775807 ∧ n ≤ c ∧ ∀ z ∈ zs, (Lit.int k z).wf = true := by
  obtain ⟨fuel, hf⟩ := h
  rcases open_ints ht he hc hf with ⟨hcs, _⟩ | ⟨x, l, c', zs, hcs, _, hl, hm, hz, _, hcell, hwz⟩
  · simp [Value.cells] at hcs
    obtain ⟨rfl, rfl, rfl⟩ := hcs
    exact ⟨[], Reads.none_, by omega, by omega, by simp⟩
  · simp [Value.cells] at hcs
    obtain ⟨rfl, rfl, rfl⟩ := hcs
    unfold maxLen at hm
    have hzl : n ≤ zs.length := by rw [hz]; split <;> omega
    clear hz
    refine ⟨zs.take n, ⟨by simp; omega, fun hn => ⟨x, rfl, ?_, fun j u hu => ?_⟩⟩, by omega, hl, fun z hzm => hwz z (List.mem_of_mem_take hzm)⟩
    · have := block_lt_of_cell (hcell 0 (by omega))
      rwa [block_of_add] at this
    · have hj : j < (zs.take n).length := by
        have := (List.getElem?_eq_some_iff.1 hu).1
        simpa using this
      have hj' : j < zs.length := by rw [List.length_take] at hj; omega
      rw [hcell j hj']
      have hjn : j < n := by rw [List.length_take] at hj; omega
      simp [hjn, hj'] at hu
      rw [← hu]
      simp [List.getD, hj']
theorem open_row8 {t e : TypeId} {A : Option Addr} {n c : Nat} {d : DataW H} {p : List MemPlace} (ht : P.underlying t = some (.slice e)) (he : P.underlying e = some (.int .u8)) (hc : P.cellsOf e = 1)
    (h : DataW.Trod enc P w base spare held t (.slice A n c) d p) : ∃ bs : List (BitVec 8), Reads w w.heap.size 1 A n (bs.map c8) ∧ n ≤ 9223372036854775807 ∧ n ≤ c := by
  obtain ⟨zs, hr, hn, hnc, hw⟩ := open_rowk ht he hc h
  have : ∃ bs : List (BitVec 8), zs.map (Value.int .u8) = bs.map c8 := by
    clear hr
    induction zs with
    | nil => exact ⟨[], rfl⟩
    | cons z zs ih =>
      obtain ⟨b, hb⟩ := of_wf_u8 (hw z (by simp))
      obtain ⟨bs, hbs⟩ := ih (fun z hz => hw z (by simp [hz]))
      exact ⟨b :: bs, by rw [List.map_cons, List.map_cons, hbs, hb]⟩
  obtain ⟨bs, e⟩ := this
  exact ⟨bs, e ▸ hr, hn, hnc⟩
theorem open_row32 {t e : TypeId} {A : Option Addr} {n c : Nat} {d : DataW H} {p : List MemPlace} (ht : P.underlying t = some (.slice e)) (he : P.underlying e = some (.int .u32)) (hc : P.cellsOf e = 1)
    (h : DataW.Trod enc P w base spare held t (.slice A n c) d p) : ∃ bs : List (BitVec 32), Reads w w.heap.size 1 A n (bs.map c32) ∧ n ≤ 9223372036854775807 ∧ n ≤ c := by
  obtain ⟨zs, hr, hn, hnc, hw⟩ := open_rowk ht he hc h
  have : ∃ bs : List (BitVec 32), zs.map (Value.int .u32) = bs.map c32 := by
    clear hr
    induction zs with
    | nil => exact ⟨[], rfl⟩
    | cons z zs ih =>
      obtain ⟨b, hb⟩ := of_wf_u32 (hw z (by simp))
      obtain ⟨bs, hbs⟩ := ih (fun z hz => hw z (by simp [hz]))
      exact ⟨b :: bs, by rw [List.map_cons, List.map_cons, hbs, hb]⟩
  obtain ⟨bs, e⟩ := this
  exact ⟨bs, e ▸ hr, hn, hnc⟩
theorem open_rowi {t e : TypeId} {A : Option Addr} {n c : Nat} {d : DataW H} {p : List MemPlace} (ht : P.underlying t = some (.slice e)) (he : P.underlying e = some (.int .i64)) (hc : P.cellsOf e = 1)
    (h : DataW.Trod enc P w base spare held t (.slice A n c) d p) : ∃ zs : List Int, Reads w w.heap.size 1 A n (zs.map ci) ∧ n ≤ 9223372036854775807 ∧ n ≤ c ∧ ∀ z ∈ zs, -9223372036854775808 ≤ z ∧ z ≤ 9223372036854775807 := by
  obtain ⟨zs, hr, hn, hnc, hw⟩ := open_rowk ht he hc h
  exact ⟨zs, hr, hn, hnc, fun z hz => of_wf_i64 (hw z hz)⟩
end
end Go.Proofs.Ytccpkafmbmkmfaa
