/- An index of package hints: its word. No condition. -/
import Derived.Test.YtccpkafmbmkmfaaTouch
import Derived.Test.YtccpkafmbmkmfaaMaps
import Derived.Test.YtccpkafmbmkmfaaOpen
namespace Go.Proofs.Ytccpkafmbmkmfaa
open Go.RowKit
set_option linter.unusedVariables false
set_option linter.unusedSimpArgs false

/-- what is noted: of each key its numbers -/
abbrev Noted (α : Type) := List (α × List Int)
/-- .. with the slice that holds them -/
abbrev Kept (α : Type) := List (α × (Value × List Int))
section
variable {α : Type}
def slicesOf (E : Kept α) : List (α × Value) := E.map fun p => (p.1, p.2.1)
def notedOf (E : Kept α) : Noted α := E.map fun p => (p.1, p.2.2)
def totalOf (C : Noted α) : Nat := (C.map fun p => p.2.length).sum
def InI (xs : List Int) : Prop := ∀ x ∈ xs, -9223372036854775808 ≤ x ∧ x ≤ 9223372036854775807
/-- BLOCK g IS AN INDEX: of blocks in S alone -/
structure IdxIs (w : World) (S : Nat → Prop) (f : α → Value) (ok : α → Prop) (T : TypeId) (g b : Nat) (n : Int) (E : Kept α) : Prop where
  head : Blk w g T #[.map (some b), .int .i64 n]
  map : MapIs w b f ok (slicesOf E)
  rows : ∀ p ∈ E, w.ownsRow 0 3 1 p.2.1 p.2.2.length (p.2.2.map ci) ∧ p.2.2 ≠ [] ∧ InI p.2.2
  sg : S g
  sb : S b
  foot : ∀ p ∈ E, ∀ r, p.2.1.ownBlock = some r → S r
  apart : ∀ p ∈ E, ∀ q ∈ E, p.1 ≠ q.1 → p.2.1.ownBlock ≠ q.2.1.ownBlock
  tn : 3 ≠ T
variable {w w' : World} {S S' : Nat → Prop} {f : α → Value} {ok : α → Prop} {T : TypeId} {g b : Nat} {n : Int} {E : Kept α}
theorem IdxIs.keysE (h : IdxIs w S f ok T g b n E) : MKeys E := by
  have := h.map.1
  unfold MKeys slicesOf at this
  rw [List.map_map] at this
  exact this
theorem IdxIs.lt (h : IdxIs w S f ok T g b n E) : g < w.heap.size := h.head.lt
theorem IdxIs.keep (h : IdxIs w S f ok T g b n E) (hk : ∀ i, i < w.heap.size → S i → w'.heap[i]? = w.heap[i]?) : IdxIs w' S f ok T g b n E :=
  ⟨(hk g h.head.lt h.sg).trans h.head, h.map.block (hk b h.map.lt h.sb), fun p hp => ⟨own_block (h.rows p hp).1 fun r hr => hk r (own_lt (h.rows p hp).1 hr).2 (h.foot p hp r hr), (h.rows p hp).2⟩, h.sg, h.sb, h.foot, h.apart, h.tn⟩
theorem IdxIs.below (h : IdxIs w S f ok T g b n E) (hb : Below w.heap.size w w') : IdxIs w' S f ok T g b n E := h.keep fun i hi _ => hb.block i hi
theorem IdxIs.below' {B : Nat} (h : IdxIs w S f ok T g b n E) (hb : Below B w w') (hS : ∀ i, S i → i < B) : IdxIs w' S f ok T g b n E := h.keep fun i _ hs => hb.block i (hS i hs)
theorem IdxIs.touch (h : IdxIs w S f ok T g b n E) (hb : Touch S' w w') (hS : ∀ i, i < w.heap.size → S i → ¬ S' i) : IdxIs w' S f ok T g b n E := h.keep fun i hi hs => hb.block i hi (hS i hi hs)
theorem IdxIs.mono (h : IdxIs w S f ok T g b n E) (hS : ∀ i, i < w.heap.size → S i → S' i) : IdxIs w S' f ok T g b n E :=
  ⟨h.head, h.map, h.rows, hS g h.head.lt h.sg, hS b h.map.lt h.sb, fun p hp r hr => hS r (own_lt (h.rows p hp).1 hr).2 (h.foot p hp r hr), h.apart, h.tn⟩
theorem noted_keys {E : Kept α} (h : MKeys E) : MKeys (notedOf E) := by
  unfold MKeys notedOf at *
  rw [List.map_map]; exact h
theorem IdxIs.ne (h : IdxIs w S f ok T g b n E) : b ≠ g := h.map.ne_blk h.head
/-- the number alone turns -/
theorem IdxIs.setN (h : IdxIs w S f ok T g b n E) (m : Int) : IdxIs (w.setCell ⟨g, 1, none⟩ (.int .i64 m)) S f ok T g b m E :=
  ⟨by have := h.head.set_ 1 (.int .i64 m); simpa using this, h.map.setCell h.ne _, fun p hp => ⟨own_block (h.rows p hp).1 fun r hr => Below.heap_setCell _ _ _ _ (fun e => own_blk_ne (h.rows p hp).1 h.head h.tn (by rw [hr]; exact congrArg some e)), (h.rows p hp).2⟩, h.sg, h.sb, h.foot, h.apart, h.tn⟩
/-- AN INDEX IN WHICH C IS NOTED -/
def Idx (w : World) (S : Nat → Prop) (f : α → Value) (ok : α → Prop) (T : TypeId) (g b : Nat) (C : Noted α) : Prop := ∃ E, C = notedOf E ∧ IdxIs w S f ok T g b (totalOf C : Int) E
theorem Idx.below {C : Noted α} (h : Idx w S f ok T g b C) (hb : Below w.heap.size w w') : Idx w' S f ok T g b C := by
  obtain ⟨E, e, h⟩ := h; exact ⟨E, e, h.below hb⟩
theorem Idx.keep {C : Noted α} (h : Idx w S f ok T g b C) (hk : ∀ i, i < w.heap.size → S i → w'.heap[i]? = w.heap[i]?) : Idx w' S f ok T g b C := by
  obtain ⟨E, e, h⟩ := h; exact ⟨E, e, h.keep hk⟩
theorem Idx.touch {C : Noted α} (h : Idx w S f ok T g b C) (hb : Touch S' w w') (hS : ∀ i, i < w.heap.size → S i → ¬ S' i) : Idx w' S f ok T g b C := by
  obtain ⟨E, e, h⟩ := h; exact ⟨E, e, h.touch hb hS⟩
theorem Idx.mono {C : Noted α} (h : Idx w S f ok T g b C) (hS : ∀ i, i < w.heap.size → S i → S' i) : Idx w S' f ok T g b C := by
  obtain ⟨E, e, h⟩ := h; exact ⟨E, e, h.mono hS⟩
theorem Idx.keys {C : Noted α} (h : Idx w S f ok T g b C) : MKeys C := by
  obtain ⟨E, rfl, h⟩ := h; exact noted_keys h.keysE
theorem Idx.lt {C : Noted α} (h : Idx w S f ok T g b C) : g < w.heap.size ∧ b < w.heap.size ∧ S g ∧ S b := by
  obtain ⟨E, rfl, h⟩ := h; exact ⟨h.lt, h.map.lt, h.sg, h.sb⟩
theorem Idx.nonempty {C : Noted α} (h : Idx w S f ok T g b C) : ∀ p ∈ C, p.2 ≠ [] := by
  obtain ⟨E, rfl, h⟩ := h
  intro p hp
  obtain ⟨q, hq, rfl⟩ := List.mem_map.1 hp
  exact (h.rows q hq).2.1
end
section
variable {α β γ : Type} [DecidableEq α]
theorem mget_map (l : List (α × β)) (k : β → γ) (a : α) : mget (l.map fun p => (p.1, k p.2)) a = (mget l a).map k := by
  induction l with
  | nil => rfl
  | cons p l ih =>
    unfold mget at ih ⊢
    rw [List.map_cons, List.find?_cons, List.find?_cons]
    by_cases h : p.1 = a
    · simp [h]
    · simp [h] at ih ⊢; simpa [List.find?_map] using ih
theorem mput_map (l : List (α × β)) (k : β → γ) (a : α) (v : β) : (mput l a v).map (fun p => (p.1, k p.2)) = mput (l.map fun p => (p.1, k p.2)) a (k v) := by
  unfold mput
  rw [mget_map, Option.isSome_map]
  split
  · rw [List.map_map, List.map_map]
    refine List.map_congr_left fun p _ => ?_
    show (((if p.1 = a then (a, v) else p).1, k (if p.1 = a then (a, v) else p).2) : α × γ) = if p.1 = a then (a, k v) else (p.1, k p.2)
    split <;> rfl
  · simp
theorem mdel_map (l : List (α × β)) (k : β → γ) (a : α) : (mdel l a).map (fun p => (p.1, k p.2)) = mdel (l.map fun p => (p.1, k p.2)) a := by
  unfold mdel
  rw [List.filter_map]
  rfl
/-- a key's numbers -/
def valsOf (C : Noted α) (a : α) : List Int := (mget C a).getD []
theorem valsOf_put {C : Noted α} (h : MKeys C) (a b : α) (xs : List Int) : valsOf (mput C a xs) b = if b = a then xs else valsOf C b := by
  unfold valsOf
  rw [mget_mput h]
  split <;> rfl
theorem valsOf_del {C : Noted α} (h : MKeys C) (a b : α) : valsOf (mdel C a) b = if b = a then [] else valsOf C b := by
  unfold valsOf
  rw [mget_mdel h]
  split <;> rfl
/-- the numbers in all, behind a put and a strike -/
theorem sum_put : ∀ (C : Noted α), MKeys C → ∀ (a : α) (xs : List Int), totalOf (mput C a xs) + (valsOf C a).length = totalOf C + xs.length := by
  intro C
  induction C with
  | nil => intro _ a xs; simp [mput, mget, valsOf, totalOf]
  | cons p C ih =>
    intro hk a xs
    have hk' : MKeys C := by unfold MKeys at hk ⊢; rw [List.map_cons, List.nodup_cons] at hk; exact hk.2
    have hn : p.1 ∉ C.map (·.1) := by unfold MKeys at hk; rw [List.map_cons, List.nodup_cons] at hk; exact hk.1
    by_cases h : p.1 = a
    · have e1 : mget (p :: C) a = some p.2 := by simp [mget, h]
      have e2 : mput (p :: C) a xs = (a, xs) :: C := by
        unfold mput
        rw [e1]
        simp only [Option.isSome_some, if_true, List.map_cons, if_pos h, List.cons.injEq, true_and]
        refine (List.map_congr_left fun q hq => ?_).trans (List.map_id _)
        have : q.1 ≠ a := fun e => hn (List.mem_map.2 ⟨q, hq, by rw [e, h]⟩)
        simp [this]
      rw [e2]
      simp [valsOf, e1, totalOf]; omega
    · have e1 : mget (p :: C) a = mget C a := by simp [mget, List.find?_cons, h]
      have e2 : mput (p :: C) a xs = p :: mput C a xs := by
        unfold mput
        rw [e1]
        split
        · simp [h]
        · rfl
      have := ih hk' a xs
      rw [e2]
      simp only [valsOf, e1] at this ⊢
      simp only [totalOf, List.map_cons, List.sum_cons] at this ⊢
      omega
theorem sum_del : ∀ (C : Noted α), MKeys C → ∀ (a : α), totalOf (mdel C a) + (valsOf C a).length = totalOf C := by
  intro C
  induction C with
  | nil => intro _ a; simp [mdel, mget, valsOf, totalOf]
  | cons p C ih =>
    intro hk a
    have hk' : MKeys C := by unfold MKeys at hk ⊢; rw [List.map_cons, List.nodup_cons] at hk; exact hk.2
    have hn : p.1 ∉ C.map (·.1) := by unfold MKeys at hk; rw [List.map_cons, List.nodup_cons] at hk; exact hk.1
    by_cases h : p.1 = a
    · have e1 : mget (p :: C) a = some p.2 := by simp [mget, h]
      have e2 : mdel (p :: C) a = C := by
        unfold mdel
        rw [List.filter_cons_of_neg (by simp [h])]
        refine List.filter_eq_self.2 fun q hq => ?_
        have : q.1 ≠ a := fun e => hn (List.mem_map.2 ⟨q, hq, by rw [e, h]⟩)
        simpa using this
      rw [e2]
      simp [valsOf, e1, totalOf]; omega
    · have e1 : mget (p :: C) a = mget C a := by simp [mget, List.find?_cons, h]
      have e2 : mdel (p :: C) a = p :: mdel C a := by unfold mdel; rw [List.filter_cons_of_pos (by simpa using h)]
      have := ih hk' a
      rw [e2]
      simp only [valsOf, e1] at this ⊢
      simp only [totalOf, List.map_cons, List.sum_cons] at this ⊢
      omega
theorem vals_le (C : Noted α) (h : MKeys C) (a : α) : (valsOf C a).length ≤ totalOf C := by have := sum_del C h a; omega
/-- the slice at a key -/
def sliceAt (E : Kept α) (a : α) : Value := ((mget E a).map (·.1)).getD (.slice none 0 0)
theorem valsOf_noted (E : Kept α) (a : α) : valsOf (notedOf E) a = ((mget E a).map (·.2)).getD [] := by
  unfold valsOf notedOf; rw [mget_map]
theorem sliceAt_eq (E : Kept α) (a : α) : (mget (slicesOf E) a).getD (.slice none 0 0) = sliceAt E a := by
  unfold sliceAt slicesOf; rw [mget_map]
variable {w w' : World} {S : Nat → Prop} {f : α → Value} {ok : α → Prop} {T : TypeId} {g b : Nat} {n : Int} {E : Kept α}
theorem IdxIs.own (h : IdxIs w S f ok T g b n E) (a : α) : w.ownsRow 0 3 1 (sliceAt E a) (valsOf (notedOf E) a).length ((valsOf (notedOf E) a).map ci) := by
  rw [valsOf_noted, sliceAt]
  cases hg : mget E a with
  | none => exact World.ownsRow_nil _ _ _ _
  | some q => exact (h.rows _ (mget_some hg)).1
theorem IdxIs.inI (h : IdxIs w S f ok T g b n E) (a : α) : InI (valsOf (notedOf E) a) := by
  rw [valsOf_noted]
  cases hg : mget E a with
  | none => intro x hx; simp at hx
  | some q => exact (h.rows _ (mget_some hg)).2.2
theorem IdxIs.footAt (h : IdxIs w S f ok T g b n E) (a : α) {r : Nat} (hr : (sliceAt E a).ownBlock = some r) : S r ∧ r ≠ g ∧ r ≠ b ∧ r < w.heap.size ∧ ∀ p ∈ E, p.1 ≠ a → p.2.1.ownBlock ≠ some r := by
  unfold sliceAt at hr
  cases hg : mget E a with
  | none => rw [hg] at hr; cases hr
  | some q =>
    rw [hg] at hr
    have hr : q.1.ownBlock = some r := hr
    have hm := mget_some hg
    have ho := (h.rows _ hm).1
    refine ⟨h.foot _ hm r hr, fun e => ?_, fun e => ?_, (own_lt ho hr).2, fun p hp hne e => ?_⟩
    · subst e
      exact own_blk_ne ho h.head h.tn hr
    · subst e
      exact h.map.not_row ho hr.symm
    · exact h.apart p hp _ hm hne (by rw [e]; exact hr.symm)
/-- a key's slice turns: the row of its own and new blocks first, then the map -/
theorem IdxIs.put (h : IdxIs w S f ok T g b n E) {a : α} {v' : Value} {xs : List Int} {w1 w2 : World} (hg1 : w.grownBy w1 (sliceAt E a).ownBlock) (hown : w1.ownsRow 0 3 1 v' xs.length (xs.map ci)) (hne : xs ≠ []) (hI : InI xs)
    (hat : v'.ownBlock = (sliceAt E a).ownBlock ∨ ∃ r, v'.ownBlock = some r ∧ w.heap.size ≤ r) (hm : MapIs w2 b f ok (mput (slicesOf E) a v')) (hg2 : w1.grownBy w2 (some b)) :
    IdxIs w2 (fun i => S i ∨ w.heap.size ≤ i) f ok T g b n (mput E a (v', xs)) := by
  have hk := h.keysE
  have hrow : ∀ r, (sliceAt E a).ownBlock = some r → S r ∧ r ≠ g ∧ r ≠ b ∧ r < w.heap.size ∧ ∀ p ∈ E, p.1 ≠ a → p.2.1.ownBlock ≠ some r := fun r hr => h.footAt a hr
  have hb1 : w1.heap[b]? = w.heap[b]? := hg1.block b h.map.lt (fun e => (hrow b e.symm).2.2.1 rfl)
  have hgr : v'.ownBlock ≠ some b := fun e => by
    rcases hat with h1 | ⟨r, h1, h2⟩
    · exact (hrow b (by rw [← h1]; exact e)).2.2.1 rfl
    · rw [e] at h1; injection h1 with h1; have := h.map.lt; omega
  have keep2 : ∀ {u : Value} {m : Nat} {ys : List Value}, w1.ownsRow 0 3 1 u m ys → u.ownBlock ≠ some b → w2.ownsRow 0 3 1 u m ys := fun ho hu =>
    own_block ho fun r hr => hg2.block r (own_lt ho hr).2 (fun e => hu (by rw [hr]; exact e))
  refine ⟨?_, by unfold slicesOf; rw [mput_map]; exact hm, ?_, .inl h.sg, .inl h.sb, ?_, ?_, h.tn⟩
  · have e1 : w1.heap[g]? = w.heap[g]? := hg1.block g h.head.lt (fun e => (hrow g e.symm).2.1 rfl)
    have e2 : w2.heap[g]? = w1.heap[g]? := hg2.block g (Nat.lt_of_lt_of_le h.head.lt hg1.size) (fun e => by injection e with e; exact h.ne e.symm)
    exact e2.trans (e1.trans h.head)
  · intro p hp
    rcases mem_mput.1 hp with rfl | ⟨hp, hpa⟩
    · exact ⟨keep2 hown hgr, hne, hI⟩
    · obtain ⟨ho, h2⟩ := h.rows p hp
      have h3 : w1.ownsRow 0 3 1 p.2.1 p.2.2.length (p.2.2.map ci) := own_block ho fun r hr => hg1.block r (own_lt ho hr).2 (fun e => (hrow r e.symm).2.2.2.2 p hp hpa hr)
      exact ⟨keep2 h3 (fun e => h.map.not_row ho e.symm), h2⟩
  · intro p hp r hr
    rcases mem_mput.1 hp with rfl | ⟨hp, _⟩
    · rcases hat with h1 | ⟨r', h1, h2⟩
      · exact .inl (hrow r (by rw [← h1]; exact hr)).1
      · have hr : v'.ownBlock = some r := hr
        rw [h1] at hr; injection hr with hr; exact .inr (by omega)
    · exact .inl (h.foot p hp r hr)
  · have hnew : ∀ q ∈ E, q.1 ≠ a → q.2.1.ownBlock ≠ v'.ownBlock := fun q hq hqa e => by
      obtain ⟨ho, hqe, _⟩ := h.rows q hq
      obtain ⟨r, hr, _, hlt⟩ := own_some ho (by have := List.length_pos_iff.2 hqe; exact this)
      rcases hat with h1 | ⟨r', h1, h2⟩
      · exact (hrow r (by rw [← h1, ← e]; exact hr)).2.2.2.2 q hq hqa hr
      · rw [hr, h1] at e; injection e with e; omega
    intro p hp q hq hpq
    rcases mem_mput.1 hp with rfl | ⟨hp, hpa⟩ <;> rcases mem_mput.1 hq with rfl | ⟨hq, hqa⟩
    · exact absurd rfl hpq
    · exact fun e => hnew q hq hqa e.symm
    · exact hnew p hp hpa
    · exact h.apart p hp q hq hpq
/-- a key is struck -/
theorem IdxIs.drop (h : IdxIs w S f ok T g b n E) {a : α} {w2 : World} (hm : MapIs w2 b f ok (mdel (slicesOf E) a)) (hg2 : w.grownBy w2 (some b)) : IdxIs w2 S f ok T g b n (mdel E a) := by
  refine ⟨?_, by unfold slicesOf; rw [mdel_map]; exact hm, ?_, h.sg, h.sb, fun p hp => h.foot p (mem_mdel.1 hp).1, fun p hp q hq => h.apart p (mem_mdel.1 hp).1 q (mem_mdel.1 hq).1, h.tn⟩
  · exact (hg2.block g h.head.lt (fun e => by injection e with e; exact h.ne e.symm)).trans h.head
  · intro p hp
    obtain ⟨ho, h2⟩ := h.rows p (mem_mdel.1 hp).1
    exact ⟨own_block ho fun r hr => hg2.block r (own_lt ho hr).2 (fun e => h.map.not_row ho (by rw [hr]; exact e.symm)), h2⟩
theorem noted_put (E : Kept α) (a : α) (v : Value) (xs : List Int) : notedOf (mput E a (v, xs)) = mput (notedOf E) a xs := mput_map E (fun q => q.2) a (v, xs)
theorem noted_del (E : Kept α) (a : α) : notedOf (mdel E a) = mdel (notedOf E) a := mdel_map E (fun q => q.2) a
end
end Go.Proofs.Ytccpkafmbmkmfaa
