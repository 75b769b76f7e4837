/- What is noted, as the document's list of pairs. No condition. -/
import Derived.Test.YtccpkafmbmkmfaaHintsPlain
import Derived.Test.YtccpkafmbmkmfaaHintsCloneInt
import Derived.Test.YtccpkafmbmkmfaaRefKeys
namespace Go.Proofs.Ytccpkafmbmkmfaa
open Go.RowKit
set_option linter.unusedVariables false
set_option linter.unusedSimpArgs false

theorem valsP_mem (L : PairL) (x y : Int) : y ∈ valsP L x ↔ (x, y) ∈ L := by
  unfold valsP
  rw [List.mem_map]
  constructor
  · rintro ⟨p, hp, rfl⟩
    obtain ⟨h1, h2⟩ := List.mem_filter.1 hp
    have : p.1 = x := by simpa using h2
    subst this; exact h1
  · intro h; exact ⟨(x, y), List.mem_filter.2 ⟨h, by simp⟩, rfl⟩
theorem valsP_nodup {L : PairL} (h : L.Nodup) (x : Int) : (valsP L x).Nodup := by
  induction L with
  | nil => simp [valsP]
  | cons p L ih =>
    rw [List.nodup_cons] at h
    have ih := ih h.2
    by_cases hp : p.1 = x
    · have e : valsP (p :: L) x = p.2 :: valsP L x := by simp [valsP, List.filter_cons, hp]
      rw [e, List.nodup_cons]
      refine ⟨fun hm => h.1 ?_, ih⟩
      have := (valsP_mem L x p.2).1 hm
      rw [← hp] at this; exact this
    · have e : valsP (p :: L) x = valsP L x := by simp [valsP, List.filter_cons, hp]
      rw [e]; exact ih
theorem valsP_snoc (L : PairL) (p : Int × Int) (x : Int) : valsP (L ++ [p]) x = if x = p.1 then valsP L x ++ [p.2] else valsP L x := by
  unfold valsP
  rw [List.filter_append, List.map_append]
  by_cases h : x = p.1
  · subst h; simp
  · have : p.1 ≠ x := fun e => h e.symm
    simp [h, this]
theorem valsP_without (L : PairL) (p : Int × Int) (x : Int) : valsP (without L p) x = if x = p.1 then (valsP L x).filter (fun y => !decide (y = p.2)) else valsP L x := by
  induction L with
  | nil => simp [valsP, without]
  | cons q L ih =>
    have e1 : without (q :: L) p = if q = p then without L p else q :: without L p := by
      unfold without; rw [List.filter_cons]; by_cases h : q = p <;> simp [h]
    have e2 : ∀ M : PairL, valsP (q :: M) x = if q.1 = x then q.2 :: valsP M x else valsP M x := fun M => by
      by_cases h : q.1 = x <;> simp [valsP, List.filter_cons, h]
    rw [e1]
    by_cases h : q = p
    · subst h
      rw [if_pos rfl, ih, e2]
      by_cases hx : x = q.1
      · subst hx; simp [List.filter_cons]
      · have : q.1 ≠ x := fun e => hx e.symm
        simp [hx, this]
    · rw [if_neg h, e2, e2, ih]
      by_cases hq : q.1 = x
      · subst hq
        by_cases hp : q.1 = p.1
        · have h2 : q.2 ≠ p.2 := fun e => h (Prod.ext hp e)
          simp [hp, h2]
        · simp [hp]
      · simp [hq]
theorem erase_filter {xs : List Int} (h : xs.Nodup) (y : Int) : xs.erase y = xs.filter (fun z => !decide (z = y)) := by
  rw [h.erase_eq_filter]
  refine List.filter_congr fun z _ => ?_
  by_cases e : z = y <;> simp [e]
/-- the index and the list bear the same -/
structure DoR (C : Noted Int) (L : PairL) : Prop where
  vals : ∀ x, valsOf C x = valsP L x
  nodup : L.Nodup
  tot : totalOf C = L.length
theorem DoR.nil : DoR [] [] := ⟨fun x => by simp [valsOf, mget, valsP], by simp, rfl⟩
theorem DoR.mem {C : Noted Int} {L : PairL} (h : DoR C L) (x y : Int) : y ∈ valsOf C x ↔ (x, y) ∈ L := by rw [h.vals, valsP_mem]
theorem DoR.same {C : Noted Int} {L : PairL} (h : DoR C L) {x y : Int} (hm : (x, y) ∈ L) : DoR (hInt.noteC C x y) L := by
  unfold hInt.noteC
  rw [if_pos ((h.mem x y).2 hm)]; exact h
theorem DoR.note {C : Noted Int} {L : PairL} (h : DoR C L) (hk : MKeys C) {x y : Int} (hm : (x, y) ∉ L) : DoR (hInt.noteC C x y) (L ++ [(x, y)]) := by
  have hy : y ∉ valsOf C x := fun e => hm ((h.mem x y).1 e)
  refine ⟨fun x' => ?_, ?_, ?_⟩
  · rw [hInt.vals_note hk, valsP_snoc]
    by_cases hx : x' = x
    · subst hx; rw [if_pos ⟨rfl, hy⟩, if_pos rfl, h.vals]
    · rw [if_neg (fun e => hx e.1), if_neg hx, h.vals]
  · refine List.nodup_append.2 ⟨h.nodup, by simp, fun p hp q hq => ?_⟩
    simp only [List.mem_singleton] at hq
    subst hq
    exact fun e => hm (e ▸ hp)
  · rw [hInt.total_note hk, if_neg hy, h.tot, List.length_append]; rfl
theorem without_erase {L : PairL} (h : L.Nodup) (p : Int × Int) : without L p = L.erase p := by
  rw [h.erase_eq_filter]
  unfold without
  refine List.filter_congr fun z _ => ?_
  by_cases e : z = p <;> simp [e]
theorem DoR.strike {C : Noted Int} {L : PairL} (h : DoR C L) (hk : MKeys C) (x y : Int) : DoR (hInt.strikeC C x y) (without L (x, y)) := by
  refine ⟨fun x' => ?_, h.nodup.filter _, ?_⟩
  · rw [hInt.vals_strike hk, valsP_without]
    by_cases hx : x' = x
    · subst hx
      rw [if_pos rfl, if_pos rfl, h.vals, erase_filter (valsP_nodup h.nodup _)]
    · rw [if_neg hx, if_neg hx, h.vals]
  · have h1 := hInt.total_strike hk x y
    rw [without_erase h.nodup]
    by_cases hm : (x, y) ∈ L
    · rw [if_pos ((h.mem x y).2 hm), h.tot] at h1
      have := List.length_erase_of_mem hm
      omega
    · rw [if_neg (fun e => hm ((h.mem x y).1 e)), h.tot] at h1
      rw [List.erase_of_not_mem hm]; omega
theorem DoR.perm {C D : Noted Int} {L : PairL} (h : DoR C L) (hk : MKeys C) (hp : C.Perm D) : DoR D L :=
  ⟨fun x => by rw [hInt.valsOf_perm hk hp, h.vals], h.nodup, by rw [hInt.totalOf_perm hp, h.tot]⟩
theorem len_le_nodup : ∀ (l m : List Int), l.Nodup → (∀ x ∈ l, x ∈ m) → l.length ≤ m.length
  | [], _, _, _ => by simp
  | a :: l, m, hn, hs => by
    rw [List.nodup_cons] at hn
    have hm : a ∈ m := hs a (by simp)
    have := len_le_nodup l (m.erase a) hn.2 fun x hx => (List.mem_erase_of_ne (fun (e : x = a) => hn.1 (by rw [← e]; exact hx))).2 (hs x (by simp [hx]))
    have h1 := List.length_erase_of_mem hm
    have h2 := List.length_pos_of_mem hm
    simp; omega
theorem keysP_nodup' (ks : List Int) : (keysP ks).Nodup := by
  suffices h : ∀ (r : List Int), (keysP r.reverse).Nodup by simpa using h ks.reverse
  intro r
  induction r with
  | nil => simp [keysP]
  | cons a r ih =>
    rw [List.reverse_cons, keysP_snoc]
    split
    · exact ih
    · rename_i h
      refine List.nodup_append.2 ⟨ih, by simp, fun x hx y hy => ?_⟩
      simp only [List.mem_singleton] at hy
      subst hy
      exact fun e => h (e ▸ hx)
theorem DoR.keys {C : Noted Int} {L : PairL} (h : DoR C L) (hk : MKeys C) (hn : ∀ p ∈ C, p.2 ≠ []) : C.length = (keysP (L.map (·.1))).length := by
  have hmem : ∀ x, x ∈ C.map (·.1) ↔ x ∈ keysP (L.map (·.1)) := fun x => by
    rw [keysP_mem]
    constructor
    · intro hx
      obtain ⟨p, hp, rfl⟩ := List.mem_map.1 hx
      have hv : valsOf C p.1 = p.2 := by unfold valsOf; rw [mget_mem hk (show (p.1, p.2) ∈ C from hp)]; rfl
      obtain ⟨y, hy⟩ := List.exists_mem_of_ne_nil _ (hn p hp)
      rw [← hv] at hy
      exact List.mem_map.2 ⟨_, (h.mem p.1 y).1 hy, rfl⟩
    · intro hx
      obtain ⟨p, hp, rfl⟩ := List.mem_map.1 hx
      have hy := (h.mem p.1 p.2).2 hp
      cases hg : mget C p.1 with
      | none => unfold valsOf at hy; rw [hg] at hy; simp at hy
      | some ys => exact List.mem_map.2 ⟨_, mget_some hg, rfl⟩
  have h1 := len_le_nodup (C.map (·.1)) (keysP (L.map (·.1))) (by unfold MKeys at hk; exact hk) fun x hx => (hmem x).1 hx
  have h2 := len_le_nodup (keysP (L.map (·.1))) (C.map (·.1)) (keysP_nodup' _) fun x hx => (hmem x).2 hx
  simp at h1 h2
  omega
/-- a copy, and what it was copied from: each apart from the other -/
theorem live_clone {w W : World} {K : Nat → Prop} {g b : Nat} {C : Noted Int} (h : hInt.Live w W K g b C) (ht : totalOf C ≤ 549755813888) (hK : hInt.There W K) :
    Calls Try.prog 35 #[.pointer (some ⟨g, 0, none⟩)] W fun e w' => ∃ g2 b2 C2, e = .returned (.pointer (some ⟨g2, 0, none⟩)) ∧ C.Perm C2 ∧ Below W.heap.size W w' ∧
      hInt.Live w w' K g2 b2 C2 ∧ hInt.Live w w' (fun i => K i ∨ (W.heap.size ≤ i ∧ i < w'.heap.size)) g b C ∧ hInt.Is w' (fun i => W.heap.size ≤ i ∧ i < w'.heap.size) g2 b2 C2 := by
  obtain ⟨S, h1, h2, h3⟩ := id h
  obtain ⟨E, rfl, hE⟩ := h2
  refine (hInt.clone_any W S g b E hE ht).mono ?_
  rintro e w' ⟨g2, b2, C2, rfl, hi, hp, hb⟩
  have hi2 : hInt.Is w' (fun i => W.heap.size ≤ i ∧ i < w'.heap.size) g2 b2 C2 := hi.mono fun i hi hs => ⟨hs, hi⟩
  refine ⟨g2, b2, C2, rfl, hp.symm, hb, ⟨_, fun i hs => ⟨Nat.le_trans h3.size hs.1, fun hk => by have := hK i hk; have := hs.1; omega⟩, hi2, below_next h3 hb⟩, ?_, hi2⟩
  exact ((h.more (K' := fun i => K i ∨ W.heap.size ≤ i) (fun i hi hn => hi.resolve_left hn)).later hb).more fun i hi hn => absurd (hi.imp id fun h => h.1) hn
end Go.Proofs.Ytccpkafmbmkmfaa
