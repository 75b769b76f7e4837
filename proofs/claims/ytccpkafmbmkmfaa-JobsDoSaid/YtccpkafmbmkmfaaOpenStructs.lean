/- An argument that is a slice of structs: opened, by what each element reads as. No condition. -/
import Derived.Test.YtccpkafmbmkmfaaMem
import Derived.Test.YtccpkafmbmkmfaaProg
import Derived.Deep.Slices
import Derived.Test.YtccpkafmbmkmfaaOpen
namespace Go.Proofs.Ytccpkafmbmkmfaa
open Go.ChangeShapes Go.WideShapes Go.ChangeAt Go.RowKit Go.Deep
set_option linter.unusedVariables false

theorem reads_of_rows {α : Type} (enc : α → List Value) (m : Nat) (he : ∀ x, (enc x).length = m) {w : World} {B : Nat} {ad : Addr} (hb : ad.block < B) (g : Nat → α) : ∀ n, (∀ i, i < n → ∀ j u, (enc (g i))[j]? = some u → w.cell? (ad.add (i * m + j)) = some u) →
    Reads w B m (some ad) n (((List.range n).map g).flatMap enc) := by
  have hlen : ∀ n, (((List.range n).map g).flatMap enc).length = n * m := by
    intro n
    induction n with
    | zero => simp
    | succ n ih => rw [List.range_succ, List.map_append, List.flatMap_append, List.length_append, ih, Nat.succ_mul]; simp [he]
  intro n h
  refine ⟨hlen n, fun hn0 => ⟨ad, rfl, hb, ?_⟩⟩
  clear hb hn0
  revert h
  induction n with
  | zero => intro _ j u hu; simp at hu
  | succ n ih =>
    intro h j u hu
    rw [List.range_succ, List.map_append, List.flatMap_append] at hu
    by_cases hj : j < n * m
    · rw [List.getElem?_append_left (by rw [hlen]; exact hj)] at hu
      exact ih (fun i hi => h i (by omega)) j u hu
    · rw [List.getElem?_append_right (by rw [hlen]; omega), hlen] at hu
      have := h n (by omega) (j - n * m) u (by simpa using hu)
      rwa [show n * m + (j - n * m) = j by omega] at this
theorem two_of {α : Type} (l : List α) (h : l.length = 2) : ∃ a b, l = [a, b] := by
  match l, h with
  | [a, b], _ => exact ⟨a, b, rfl⟩
theorem three_of {α : Type} (l : List α) (h : l.length = 3) : ∃ a b c, l = [a, b, c] := by
  match l, h with
  | [a, b, c], _ => exact ⟨a, b, c, rfl⟩
section
variable {H : Type} {enc : TypeId × Value → H} {P : Program} {w : World} {base : Nat} {held : Bool}
/-- what each element reads as is handed in -/
theorem open_structs {α : Type} (ea : α → List Value) (ok : α → Prop) (m : Nat) (hm0 : 0 < m) (hea : ∀ x, (ea x).length = m) {t e : TypeId} {A : Option Addr} {n c : Nat} {d : DataW H} {p : List MemPlace} (ht : P.underlying t = some (.slice e)) (hC : P.cellsOf e = m) [Inhabited α]
    (hrow : ∀ (fuel : Nat) (cs : List Value) x, DataW.trod enc P w base (fun _ => true) held fuel e cs = some x → cs.length = m → ∃ a, cs = ea a ∧ ok a)
    (h : DataW.Trod enc P w base (fun _ => true) held t (.slice A n c) d p) : ∃ L : List α, Reads w w.heap.size m A n (L.flatMap ea) ∧ L.length = n ∧ (∀ a ∈ L, ok a) ∧ n ≤ 9223372036854775807 ∧ n ≤ c := by
  obtain ⟨fuel, hf⟩ := h
  rcases open_slice ht hf with ⟨hcs, _⟩ | ⟨a, len, cap, k, f', D, Pl, hcs, hb, hl, hm, hk, hx, hi⟩
  · simp [Value.cells] at hcs
    obtain ⟨rfl, rfl, rfl⟩ := hcs
    exact ⟨[], Reads.none_, rfl, by simp, by omega, by omega⟩
  · simp [Value.cells] at hcs
    obtain ⟨rfl, rfl, rfl⟩ := hcs
    unfold maxLen at hm
    have hnk : n ≤ k := by rw [hk]; simpa using hl
    have hex : ∀ i, ∃ x : α, i < n → ok x ∧ ∀ j u, (ea x)[j]? = some u → w.cell? (a.add (i * m + j)) = some u := by
      intro i
      by_cases hin : i < n
      · obtain ⟨cs', hc, ht'⟩ := hi i (by omega)
        rw [hC] at hc
        obtain ⟨_, hcl, hat⟩ := World.cells?_some hc
        obtain ⟨x, hxe, hok⟩ := hrow _ _ _ ht' hcl
        refine ⟨x, fun _ => ⟨hok, fun j u hu => ?_⟩⟩
        have hj : j < m := by have := (List.getElem?_eq_some_iff.1 hu).1; rwa [hea] at this
        rw [← Go.Deep.add_add, hat j hj, ← hu, ← hxe]
      · exact ⟨default, fun h => absurd h hin⟩
    obtain ⟨g, hg⟩ := Classical.skolem.1 hex
    refine ⟨(List.range n).map g, ?_, by simp, fun x hx => ?_, by omega, hl⟩
    · rcases Nat.eq_zero_or_pos n with h0 | h0
      · subst h0; exact ⟨by simp, fun h => absurd h (by omega)⟩
      refine reads_of_rows ea m hea ?_ g n fun i hi' j u hu => (hg i hi').2 j u hu
      have hl0 : 0 < (ea (g 0)).length := by rw [hea]; exact hm0
      have := block_lt_of_cell ((hg 0 h0).2 0 _ (List.getElem?_eq_getElem hl0))
      rwa [block_of_add] at this
    · obtain ⟨i, hi', rfl⟩ := List.mem_map.1 hx
      exact (hg i (by simpa using hi')).1
end
end Go.Proofs.Ytccpkafmbmkmfaa
