/- What is noted in an index of numbers, as a set of pairs. No condition. -/
import Derived.Test.YtccpkafmbmkmfaaHintsLenInt
import Derived.Test.YtccpkafmbmkmfaaRefPairs
namespace Go.Proofs.Ytccpkafmbmkmfaa
open Go.RowKit
set_option linter.unusedVariables false
set_option linter.unusedSimpArgs false

/-- no number stands twice at a key -/
def Uniq (C : Noted Int) : Prop := ∀ k, (valsOf C k).Nodup
theorem Uniq.nil : Uniq [] := fun k => by simp [valsOf, mget]
theorem Uniq.note {C : Noted Int} (h : Uniq C) (hk : MKeys C) (k v : Int) : Uniq (hInt.noteC C k v) := fun k' => by
  rw [hInt.vals_note hk]
  split
  · rename_i e
    refine List.nodup_append.2 ⟨h k, by simp, fun x hx y hy => ?_⟩
    simp only [List.mem_singleton] at hy
    subst hy
    exact fun e' => e.2 (e' ▸ hx)
  · exact h k'
theorem Uniq.strike {C : Noted Int} (h : Uniq C) (hk : MKeys C) (k v : Int) : Uniq (hInt.strikeC C k v) := fun k' => by
  rw [hInt.vals_strike hk]
  split
  · exact (h k).erase v
  · exact h k'
theorem mem_note {C : Noted Int} (hk : MKeys C) (k v k' v' : Int) : v' ∈ valsOf (hInt.noteC C k v) k' ↔ v' ∈ valsOf C k' ∨ (k' = k ∧ v' = v) := by
  rw [hInt.vals_note hk]
  split
  · rename_i e
    obtain ⟨rfl, e⟩ := e
    rw [List.mem_append, List.mem_singleton]
    simp
  · rename_i e
    constructor
    · exact .inl
    · rintro (h | ⟨rfl, rfl⟩)
      · exact h
      · by_cases hm : v' ∈ valsOf C k'
        · exact hm
        · exact absurd ⟨rfl, hm⟩ e
theorem mem_strike {C : Noted Int} (hu : Uniq C) (hk : MKeys C) (k v k' v' : Int) : v' ∈ valsOf (hInt.strikeC C k v) k' ↔ v' ∈ valsOf C k' ∧ ¬ (k' = k ∧ v' = v) := by
  rw [hInt.vals_strike hk]
  split
  · rename_i e
    subst e
    rw [(hu k').mem_erase_iff]
    constructor
    · rintro ⟨h1, h2⟩; exact ⟨h2, fun e => h1 e.2⟩
    · rintro ⟨h1, h2⟩; exact ⟨fun e => h2 ⟨rfl, e⟩, h1⟩
  · rename_i e
    exact ⟨fun h => ⟨h, fun e' => e e'.1⟩, fun h => h.1⟩
theorem noted_empty {C : Noted Int} (hk : MKeys C) (hn : ∀ p ∈ C, p.2 ≠ []) (he : ∀ k, valsOf C k = []) : C = [] := by
  cases C with
  | nil => rfl
  | cons p C =>
    exfalso
    have h1 := he p.1
    have h2 : mget (p :: C) p.1 = some p.2 := mget_mem hk (by simp)
    rw [valsOf, h2] at h1
    exact hn p (by simp) h1
theorem no_vals {xs : List Int} (h : ∀ v, v ∉ xs) : xs = [] := List.eq_nil_iff_forall_not_mem.2 h
/-- the place that is struck in a round -/
theorem turn_hits (n t q : Nat) (hq : q < n) : ∃ j, j < n ∧ (j + t) % n = q := by
  refine ⟨(q + (n - t % n)) % n, Nat.mod_lt _ (by omega), ?_⟩
  have h1 : t % n < n := Nat.mod_lt _ (by omega)
  rw [Nat.mod_add_mod]
  have h2 : q + (n - t % n) + t = q + n * (t / n + 1) := by
    have := Nat.div_add_mod t n
    have e : n * (t / n + 1) = n * (t / n) + n := Nat.mul_succ _ _
    omega
  rw [h2, Nat.add_mul_mod_self_left, Nat.mod_eq_of_lt hq]
/-- the index when so many have been noted -/
structure GoneA (L : PairL) (k : Nat) (C : Noted Int) : Prop where
  uniq : Uniq C
  mem : ∀ x y, y ∈ valsOf C x ↔ (x, y) ∈ L.take k
  tot : totalOf C ≤ k
theorem GoneA.nil (L : PairL) : GoneA L 0 [] := ⟨Uniq.nil, fun x y => by simp [valsOf, mget], Nat.zero_le _⟩
theorem GoneA.next {L : PairL} {k : Nat} {C : Noted Int} (h : GoneA L k C) (hk : MKeys C) (hlt : k < L.length) : GoneA L (k + 1) (hInt.noteC C L[k].1 L[k].2) := by
  refine ⟨h.uniq.note hk _ _, fun x y => ?_, ?_⟩
  · rw [mem_note hk, h.mem, mem_take_succ L k hlt]
    constructor
    · rintro (h1 | ⟨rfl, rfl⟩)
      · exact .inl h1
      · exact .inr rfl
    · rintro (h1 | h1)
      · exact .inl h1
      · exact .inr ⟨congrArg Prod.fst h1, congrArg Prod.snd h1⟩
  · rw [hInt.total_note hk]
    have := h.tot
    split <;> omega
/-- the index when so many have been struck, from the t-th on -/
structure GoneB (L : PairL) (t i : Nat) (C : Noted Int) : Prop where
  uniq : Uniq C
  mem : ∀ x y, y ∈ valsOf C x ↔ (x, y) ∈ L ∧ ∀ j, j < i → L[(j + t) % L.length]? ≠ some (x, y)
  tot : totalOf C ≤ L.length
theorem GoneA.b {L : PairL} {t : Nat} {C : Noted Int} (h : GoneA L L.length C) : GoneB L t 0 C :=
  ⟨h.uniq, fun x y => by rw [h.mem, List.take_length]; simp, h.tot⟩
theorem GoneB.next {L : PairL} {t i q : Nat} {C : Noted Int} (h : GoneB L t i C) (hk : MKeys C) (hq : q = (i + t) % L.length) (hlt : q < L.length) : GoneB L t (i + 1) (hInt.strikeC C L[q].1 L[q].2) := by
  refine ⟨h.uniq.strike hk _ _, fun x y => ?_, ?_⟩
  · rw [mem_strike h.uniq hk, h.mem]
    constructor
    · rintro ⟨⟨h1, h2⟩, h3⟩
      refine ⟨h1, fun j hj e => ?_⟩
      by_cases hji : j = i
      · subst hji
        rw [← hq, List.getElem?_eq_getElem hlt] at e
        injection e with e
        exact h3 ⟨by rw [e], by rw [e]⟩
      · exact h2 j (by omega) e
    · rintro ⟨h1, h2⟩
      refine ⟨⟨h1, fun j hj => h2 j (by omega)⟩, fun e => h2 i (by omega) ?_⟩
      rw [← hq, List.getElem?_eq_getElem hlt, e.1, e.2]
  · have := hInt.total_strike hk L[q].1 L[q].2
    have := h.tot
    omega
theorem GoneB.has {L : PairL} {t i q : Nat} {C : Noted Int} (h : GoneB L t i C) (hk : MKeys C) (hlt : q < L.length) : L[q].2 ∉ valsOf (hInt.strikeC C L[q].1 L[q].2) L[q].1 := by
  rw [mem_strike h.uniq hk]
  exact fun e => e.2 ⟨rfl, rfl⟩
theorem GoneB.end_ {L : PairL} {t : Nat} {C : Noted Int} (h : GoneB L t L.length C) (hk : MKeys C) (hn : ∀ p ∈ C, p.2 ≠ []) : C = [] := by
  refine noted_empty hk hn fun x => no_vals fun y hy => ?_
  obtain ⟨h1, h2⟩ := (h.mem x y).1 hy
  obtain ⟨q, hq, e⟩ := List.getElem_of_mem h1
  obtain ⟨j, hj, e2⟩ := turn_hits L.length t q hq
  exact h2 j hj (by rw [e2, List.getElem?_eq_getElem hq, e])
end Go.Proofs.Ytccpkafmbmkmfaa
