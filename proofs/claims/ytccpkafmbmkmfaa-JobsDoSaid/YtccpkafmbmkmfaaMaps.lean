/- A map's block, known by its entries in their order: made, looked up, written, struck from, counted, gone through. No condition. -/
import Derived.Test.YtccpkafmbmkmfaaMem
import Derived.Test.YtccpkafmbmkmfaaRel
import Derived.Maps.OwnSet
import Derived.Maps.RangeWalk
import Derived.Shelf.Abstract
namespace Go.Proofs.Ytccpkafmbmkmfaa
open Go.RowKit Go.MapKept Go.ChangeMaps
set_option linter.unusedVariables false
set_option linter.unusedSimpArgs false

/-- a key's type k, its keys read as values by f -/
structure KeyFn (P : Program) (k : TypeId) {α : Type} (f : α → Value) (ok : α → Prop) : Prop where
  keyed : Maps.Keyed P k
  reads : ∀ a, ok a → ∃ l, keyOf P k (f a) = some l
  inj : ∀ a b, f a = f b → a = b

section keys
variable {α β : Type}
/-- no key stands twice -/
def MKeys (l : List (α × β)) : Prop := (l.map (·.1)).Nodup
theorem MKeys.unique {l : List (α × β)} (h : MKeys l) {a : α} {u v : β} (hu : (a, u) ∈ l) (hv : (a, v) ∈ l) : u = v := by
  induction l with
  | nil => cases hu
  | cons p l ih =>
    unfold MKeys at h ih
    rw [List.map_cons, List.nodup_cons] at h
    rcases List.mem_cons.1 hu with e | hu'
    · rcases List.mem_cons.1 hv with e' | hv'
      · rw [← e] at e'; injection e' with _ e2; exact e2.symm
      · exact absurd (List.mem_map.2 ⟨_, hv', by rw [← e]⟩) h.1
    · rcases List.mem_cons.1 hv with e' | hv'
      · exact absurd (List.mem_map.2 ⟨_, hu', by rw [← e']⟩) h.1
      · exact ih h.2 hu' hv'
end keys
section plain
variable {α β : Type} [DecidableEq α]
/-- what stands at a key -/
def mget (l : List (α × β)) (a : α) : Option β := (l.find? (fun p => decide (p.1 = a))).map (·.2)
def mput (l : List (α × β)) (a : α) (v : β) : List (α × β) := if (mget l a).isSome then l.map (fun p => if p.1 = a then (a, v) else p) else l ++ [(a, v)]
def mdel (l : List (α × β)) (a : α) : List (α × β) := l.filter (fun p => !decide (p.1 = a))
theorem mget_nil (a : α) : mget ([] : List (α × β)) a = none := rfl
theorem mget_none {l : List (α × β)} {a : α} : mget l a = none ↔ ∀ p ∈ l, p.1 ≠ a := by
  simp [mget]
theorem mget_some {l : List (α × β)} {a : α} {v : β} (h : mget l a = some v) : (a, v) ∈ l := by
  simp only [mget, Option.map_eq_some_iff] at h
  obtain ⟨p, hp, rfl⟩ := h
  have h1 := List.mem_of_find?_eq_some hp
  have h2 := List.find?_some hp
  have : p.1 = a := by simpa using h2
  subst this; exact h1
theorem mget_mem {l : List (α × β)} (h : MKeys l) {a : α} {v : β} (hm : (a, v) ∈ l) : mget l a = some v := by
  cases hg : mget l a with
  | none => exact absurd rfl (mget_none.1 hg _ hm)
  | some u => rw [h.unique hm (mget_some hg)]
theorem mget_iff {l : List (α × β)} (h : MKeys l) {a : α} {v : β} : mget l a = some v ↔ (a, v) ∈ l := ⟨mget_some, mget_mem h⟩
theorem mput_keys {l : List (α × β)} {a : α} {v : β} (h : MKeys l) : MKeys (mput l a v) := by
  unfold mput
  split
  · unfold MKeys at h ⊢
    have e : (l.map (fun p => if p.1 = a then (a, v) else p)).map (·.1) = l.map (·.1) := by
      rw [List.map_map]
      refine List.map_congr_left fun p _ => ?_
      show (if p.1 = a then (a, v) else p).1 = p.1
      split
      · rename_i e; exact e.symm
      · rfl
    rw [e]; exact h
  · rename_i hn
    have hn : mget l a = none := by cases hg : mget l a <;> simp [hg] at hn ⊢
    unfold MKeys at h ⊢
    rw [List.map_append, List.map_cons, List.map_nil]
    refine List.nodup_append.2 ⟨h, by simp, fun x hx y hy => ?_⟩
    simp only [List.mem_singleton] at hy
    subst hy
    obtain ⟨p, hp, rfl⟩ := List.mem_map.1 hx
    exact mget_none.1 hn p hp
theorem mem_mput {l : List (α × β)} {a : α} {v : β} {p : α × β} : p ∈ mput l a v ↔ p = (a, v) ∨ (p ∈ l ∧ p.1 ≠ a) := by
  unfold mput
  cases hg : mget l a with
  | none =>
    have hn := mget_none.1 hg
    simp only [Option.isSome_none, Bool.false_eq_true, if_false, List.mem_append, List.mem_singleton]
    constructor
    · rintro (h | h)
      · exact .inr ⟨h, hn p h⟩
      · exact .inl h
    · rintro (h | h)
      · exact .inr h
      · exact .inl h.1
  | some u =>
    simp only [Option.isSome_some, if_true, List.mem_map]
    constructor
    · rintro ⟨q, hq, rfl⟩
      split
      · exact .inl rfl
      · rename_i h; exact .inr ⟨hq, h⟩
    · rintro (rfl | ⟨h, hne⟩)
      · exact ⟨(a, u), mget_some hg, by simp⟩
      · exact ⟨p, h, by simp [hne]⟩
theorem mem_mdel {l : List (α × β)} {a : α} {p : α × β} : p ∈ mdel l a ↔ p ∈ l ∧ p.1 ≠ a := by simp [mdel]
theorem mdel_keys {l : List (α × β)} {a : α} (h : MKeys l) : MKeys (mdel l a) := (List.filter_sublist.map _).nodup h
theorem mget_mput {l : List (α × β)} (h : MKeys l) (a b : α) (v : β) : mget (mput l a v) b = if b = a then some v else mget l b := by
  split
  · rename_i e; subst e
    exact mget_mem (mput_keys h) (mem_mput.2 (.inl rfl))
  · rename_i hne
    cases hg : mget l b with
    | none =>
      refine mget_none.2 fun p hp e => ?_
      rcases mem_mput.1 hp with rfl | ⟨h1, _⟩
      · exact hne e.symm
      · exact mget_none.1 hg p h1 e
    | some u => exact mget_mem (mput_keys h) (mem_mput.2 (.inr ⟨mget_some hg, hne⟩))
theorem mget_mdel {l : List (α × β)} (h : MKeys l) (a b : α) : mget (mdel l a) b = if b = a then none else mget l b := by
  split
  · rename_i e; subst e
    exact mget_none.2 fun p hp => (mem_mdel.1 hp).2
  · rename_i hne
    cases hg : mget l b with
    | none => exact mget_none.2 fun p hp e => mget_none.1 hg p (mem_mdel.1 hp).1 e
    | some u => exact mget_mem (mdel_keys h) (mem_mdel.2 ⟨mget_some hg, hne⟩)
end plain

section
variable {α : Type} {P : Program} {k t e : TypeId} {f : α → Value} {ok : α → Prop} {w w' : World} {b : Nat} {l : List (α × Value)}
/-- an entry as key and value -/
def entryOf (f : α → Value) (p : α × Value) : Value × Value := (f p.1, p.2)
/-- BLOCK b IS A MAP WITH THESE ENTRIES -/
def MapIs (w : World) (b : Nat) (f : α → Value) (ok : α → Prop) (l : List (α × Value)) : Prop :=
  MKeys l ∧ (∀ p ∈ l, ok p.1) ∧ ∃ es clock, w.heap[b]? = some (.map es clock) ∧ Stamped es clock ∧ es.toList.map (fun e => (e.key, e.val)) = l.map (entryOf f)
theorem MapIs.lt (h : MapIs w b f ok l) : b < w.heap.size := by
  obtain ⟨_, _, es, clock, hb, _⟩ := h
  exact (Array.getElem?_eq_some_iff.1 hb).1
theorem MapIs.block (h : MapIs w b f ok l) (hb' : w'.heap[b]? = w.heap[b]?) : MapIs w' b f ok l := by
  obtain ⟨h1, h2, es, clock, hb, h3⟩ := h
  exact ⟨h1, h2, es, clock, hb'.trans hb, h3⟩
theorem MapIs.kept {row : Option Nat} (h : MapIs w b f ok l) (hg : w.grownBy w' row) (hne : some b ≠ row) : MapIs w' b f ok l := h.block (hg.block b h.lt hne)
theorem MapIs.below {B : Nat} (h : MapIs w b f ok l) (hb : Below B w w') (hlt : b < B) : MapIs w' b f ok l := h.block (hb.block b hlt)
theorem MapIs.alloc (h : MapIs w b f ok l) (o : Obj) : MapIs (w.alloc o) b f ok l := h.kept (World.grownBy_alloc w o none) (by simp)
theorem MapIs.drew (h : MapIs w b f ok l) : MapIs w.drew b f ok l := h
theorem MapIs.setCell (h : MapIs w b f ok l) {a : Addr} (ha : b ≠ a.block) (u : Value) : MapIs (w.setCell a u) b f ok l := h.block (Below.heap_setCell _ _ _ _ ha)
theorem MapIs.made (w : World) (f : α → Value) (ok : α → Prop) : MapIs (w.alloc (.map #[] 0)) w.heap.size f ok [] :=
  ⟨by simp [MKeys], by simp, #[], 0, (MapKept.heap_alloc w _).1, stamped_empty 0, by simp⟩
theorem MapIs.ne_blk {g : Nat} {u : TypeId} {cs : Array Value} (h : MapIs w b f ok l) (h' : Blk w g u cs) : b ≠ g := by
  obtain ⟨_, _, es, clock, hb, _⟩ := h
  rintro rfl
  unfold Blk at h'
  rw [hb] at h'; cases h'
theorem MapIs.not_row {base size n : Nat} {E : TypeId} {v : Value} {xs : List Value} (h : MapIs w b f ok l) (h' : w.ownsRow base E size v n xs) : some b ≠ v.ownBlock := by
  obtain ⟨_, _, es, clock, hb, _⟩ := h
  rcases h'.2 with ⟨rfl, _⟩ | ⟨g, cap, cur, rfl, _, hh, _⟩
  · simp [Value.ownBlock]
  · simp only [Value.ownBlock]
    intro e1
    injection e1 with e1
    subst e1
    rw [hb] at hh; cases hh
theorem entries_get {es : Array MapEntry} (he : es.toList.map (fun e => (e.key, e.val)) = l.map (entryOf f)) {i : Nat} {x : MapEntry} (hx : es.toList[i]? = some x) : ∃ p, l[i]? = some p ∧ x.key = f p.1 ∧ x.val = p.2 := by
  have h1 : (es.toList.map (fun e => (e.key, e.val)))[i]? = some (x.key, x.val) := by rw [List.getElem?_map, hx]; rfl
  rw [he, List.getElem?_map] at h1
  cases hp : l[i]? with
  | none => rw [hp] at h1; cases h1
  | some p =>
    rw [hp] at h1
    simp only [Option.map_some, Option.some.injEq, entryOf, Prod.mk.injEq] at h1
    exact ⟨p, rfl, h1.1.symm, h1.2.symm⟩
theorem entries_mem {es : Array MapEntry} (he : es.toList.map (fun e => (e.key, e.val)) = l.map (entryOf f)) {x : MapEntry} (hx : x ∈ es.toList) : ∃ p ∈ l, x.key = f p.1 ∧ x.val = p.2 := by
  obtain ⟨i, hi⟩ := List.getElem?_of_mem hx
  obtain ⟨p, hp, h1, h2⟩ := entries_get he hi
  exact ⟨p, List.mem_of_getElem? hp, h1, h2⟩
theorem entries_of {es : Array MapEntry} (he : es.toList.map (fun e => (e.key, e.val)) = l.map (entryOf f)) {i : Nat} {p : α × Value} (hp : l[i]? = some p) : ∃ x, es.toList[i]? = some x ∧ x.key = f p.1 ∧ x.val = p.2 := by
  have h1 : (l.map (entryOf f))[i]? = some (f p.1, p.2) := by rw [List.getElem?_map, hp]; rfl
  rw [← he, List.getElem?_map] at h1
  cases hx : es.toList[i]? with
  | none => rw [hx] at h1; cases h1
  | some x =>
    rw [hx] at h1
    simp only [Option.map_some, Option.some.injEq, Prod.mk.injEq] at h1
    exact ⟨x, rfl, h1.1, h1.2⟩
/-- where a key stands -/
theorem MapIs.find [DecidableEq α] (K : KeyFn P k f ok) (h : MapIs w b f ok l) {a : α} (ha : ok a) {es : Array MapEntry} (he : es.toList.map (fun e => (e.key, e.val)) = l.map (entryOf f)) (w : World) :
    ((Instr.findKey k (f a) es.toList).run P w = .ok none w ∧ mget l a = none ∧ ∀ x ∈ es.toList, x.key ≠ f a) ∨
    ∃ j x v, (Instr.findKey k (f a) es.toList).run P w = .ok (some (j, v)) w ∧ es.toList[j]? = some x ∧ x.key = f a ∧ x.val = v ∧ l[j]? = some (a, v) ∧ mget l a = some v := by
  obtain ⟨la, hla⟩ := K.reads a ha
  have hks : ∀ x ∈ es.toList, ∃ l, keyOf P k x.key = some l := fun x hx => by
    obtain ⟨p, hp, h1, _⟩ := entries_mem he hx
    rw [h1]; exact K.reads p.1 (h.2.1 p hp)
  rcases K.keyed.find w hla es.toList hks with ⟨h1, h2⟩ | ⟨j, x, h1, h2, h3⟩
  · refine .inl ⟨h1, mget_none.2 fun p hp e => ?_, h2⟩
    obtain ⟨i, hi⟩ := List.getElem?_of_mem hp
    obtain ⟨x, hx, h3, _⟩ := entries_of he hi
    exact h2 x (List.mem_of_getElem? hx) (by rw [h3, e])
  · obtain ⟨p, hp, h4, h5⟩ := entries_get he h2
    have e : p.1 = a := K.inj _ _ (by rw [← h4, h3])
    refine .inr ⟨j, x, x.val, h1, h2, h3, rfl, ?_, ?_⟩
    · rw [hp, h5, ← e]
    · refine mget_mem h.1 ?_
      have := List.mem_of_getElem? hp
      rw [h5, ← e]; exact this
/-- 'm[a]', 'v, ok := m[a]' -/
theorem MapIs.lookup [DecidableEq α] (K : KeyFn P k f ok) (ht : P.underlying t = some (.map k e)) (h : MapIs w b f ok l) {a : α} (ha : ok a) (c : Bool) {z : Value} (hz : (zeroValue e).run P w = .ok z w) :
    (Instr.lookup t (.map (some b)) (f a) c).run P w = .ok (if c then .tuple #[(mget l a).getD z, .bool (mget l a).isSome] else (mget l a).getD z) w := by
  obtain ⟨h1, h2, es, clock, hb, hs, he⟩ := id h
  obtain ⟨la, hla⟩ := K.reads a ha
  rcases h.find K ha he w with ⟨hf, hg, _⟩ | ⟨j, x, v, hf, _, _, _, _, hg⟩
  · rw [hg]
    simp [Instr.lookup, run_underlying ht, MapKept.run_getObj_map hb, K.keyed.check w _ hla, hf, hz, Result.andThen]
  · rw [hg]
    simp [Instr.lookup, run_underlying ht, MapKept.run_getObj_map hb, K.keyed.check w _ hla, hf, Result.andThen]
theorem grownBy_setBlock {es es' : Array MapEntry} {c c' : Nat} (hb : w.heap[b]? = some (.map es c)) : w.grownBy (setBlock w b (.map es' c')) (some b) :=
  ⟨rfl, rfl, rfl, by simp [setBlock], fun i _ hi => heap_setBlock_other hb _ (fun e1 => hi (by rw [e1]))⟩
/-- 'm[a] = v' -/
theorem MapIs.update [DecidableEq α] (K : KeyFn P k f ok) (ht : P.underlying t = some (.map k e)) (h : MapIs w b f ok l) {a : α} (ha : ok a) (v : Value) :
    ∃ w', (Instr.mapUpdate t (.map (some b)) (f a) v).run P w = .ok () w' ∧ MapIs w' b f ok (mput l a v) ∧ w.grownBy w' (some b) ∧ w'.heap.size = w.heap.size := by
  obtain ⟨h1, h2, es, clock, hb, hs, he⟩ := id h
  obtain ⟨la, hla⟩ := K.reads a ha
  have hok : ∀ p ∈ mput l a v, ok p.1 := fun p hp => by
    rcases mem_mput.1 hp with rfl | ⟨hp, _⟩
    · exact ha
    · exact h2 p hp
  rcases h.find K ha he w with ⟨hf, hg, hno⟩ | ⟨j, x, u, hf, hx, hxk, hxv, hj, hg⟩
  · refine ⟨setBlock w b (.map (es.push ⟨f a, v, clock⟩) (clock + 1)), ?_, ⟨mput_keys h1, hok, _, _, heap_setBlock_same hb _, stamped_push hs hno, ?_⟩, grownBy_setBlock hb, by simp [setBlock]⟩
    · simp [Instr.mapUpdate, run_underlying ht, MapKept.run_getObj_map hb, K.keyed.check w false hla, hf, MapKept.run_setObj_map _ hb, Result.andThen, setBlock]
    · simp [mput, hg, he, entryOf]
  · have hjx : es[j]? = some x := by simpa using hx
    refine ⟨setBlock w b (.map (es.modify j (fun e' => { e' with key := f a, val := v })) clock), ?_, ⟨mput_keys h1, hok, _, _, heap_setBlock_same hb _, stamped_modify hs _ _ (fun _ _ => rfl) (fun e' _ he' => ?_), ?_⟩, grownBy_setBlock hb, by simp [setBlock]⟩
    · simp [Instr.mapUpdate, run_underlying ht, MapKept.run_getObj_map hb, K.keyed.check w false hla, hf, hjx, hxk, K.keyed.stays w hla, MapKept.run_setObj_map _ hb, Result.andThen, setBlock]
    · rw [hjx] at he'; cases he'; exact hxk.symm
    · have hlist : (es.modify j (fun e' => { e' with key := f a, val := v })).toList = es.toList.set j { x with key := f a, val := v } := by rw [Array.toList_modify, modify_eq_set _ _ _ _ hx]
      rw [hlist, List.map_set, he]
      have hm : mput l a v = l.map (fun p => if p.1 = a then (a, v) else p) := by simp [mput, hg]
      rw [hm, List.map_map]
      apply List.ext_getElem?
      intro i
      rw [List.getElem?_set, List.getElem?_map, List.getElem?_map]
      have hjl : j < l.length := (List.getElem?_eq_some_iff.1 hj).1
      by_cases hij : j = i
      · subst hij
        rw [hj]
        simp [hjl, entryOf]
      · rw [if_neg hij]
        cases hp : l[i]? with
        | none => rfl
        | some p =>
          have hne : p.1 ≠ a := fun e1 => hij (by
            have hn := h1
            unfold MKeys at hn
            have g1 : (l.map (·.1))[j]? = some a := by rw [List.getElem?_map, hj]; rfl
            have g2 : (l.map (·.1))[i]? = some a := by rw [List.getElem?_map, hp, ← e1]; rfl
            exact (List.getElem?_inj (by simpa using hjl) hn).1 (g1.trans g2.symm))
          simp [hne]
/-- 'delete(m, a)' -/
theorem MapIs.delete [DecidableEq α] (K : KeyFn P k f ok) (ht : P.underlying t = some (.map k e)) (h : MapIs w b f ok l) {a : α} (ha : ok a) (ty : TypeId) :
    ∃ w', (Builtin.delete_ #[t, k] ty #[.map (some b), f a]).run P w = .ok (.tuple #[]) w' ∧ MapIs w' b f ok (mdel l a) ∧ w.grownBy w' (some b) ∧ w'.heap.size = w.heap.size := by
  obtain ⟨h1, h2, es, clock, hb, hs, he⟩ := id h
  obtain ⟨la, hla⟩ := K.reads a ha
  have hok : ∀ p ∈ mdel l a, ok p.1 := fun p hp => h2 p (mem_mdel.1 hp).1
  rcases h.find K ha he w with ⟨hf, hg, hno⟩ | ⟨j, x, u, hf, hx, hxk, hxv, hj, hg⟩
  · refine ⟨setBlock w b (.map es clock), ?_, ⟨mdel_keys h1, hok, _, _, heap_setBlock_same hb _, hs, ?_⟩, grownBy_setBlock hb, by simp [setBlock]⟩
    · simp [Builtin.delete_, run_underlying ht, MapKept.run_getObj_map hb, K.keyed.check w _ hla, hf, MapKept.run_setObj_map _ hb, Result.andThen, setBlock]
    · have : mdel l a = l := List.filter_eq_self.2 fun p hp => by simpa using mget_none.1 hg p hp
      rw [this, he]
  · have hjs : j < es.size := by simpa using (List.getElem?_eq_some_iff.1 hx).1
    have hjl : j < l.length := (List.getElem?_eq_some_iff.1 hj).1
    have hsub : (es.eraseIdxIfInBounds j).toList = es.toList.eraseIdx j := by
      unfold Array.eraseIdxIfInBounds
      rw [dif_pos hjs]
      simp
    refine ⟨setBlock w b (.map (es.eraseIdxIfInBounds j) clock), ?_, ⟨mdel_keys h1, hok, _, _, heap_setBlock_same hb _, stamped_erase hs j, ?_⟩, grownBy_setBlock hb, by simp [setBlock]⟩
    · simp [Builtin.delete_, run_underlying ht, MapKept.run_getObj_map hb, K.keyed.check w _ hla, hf, MapKept.run_setObj_map _ hb, Result.andThen, setBlock]
    · rw [hsub, map_eraseIdx, he, ← map_eraseIdx]
      congr 1
      symm
      have hd : ∀ (m : List (α × Value)) (j : Nat) (u : Value), (m.map (·.1)).Nodup → m[j]? = some (a, u) → m.filter (fun p => !decide (p.1 = a)) = m.eraseIdx j := by
        intro m
        induction m with
        | nil => intro j u _ h; simp at h
        | cons p m ih =>
          intro j u hn hj
          rw [List.map_cons, List.nodup_cons] at hn
          cases j with
          | zero =>
            simp at hj
            subst hj
            rw [List.filter_cons_of_neg (by simp), List.eraseIdx_cons_zero]
            refine List.filter_eq_self.2 fun q hq => ?_
            have : q.1 ≠ a := fun e1 => hn.1 (List.mem_map.2 ⟨q, hq, e1⟩)
            simpa using this
          | succ j =>
            simp at hj
            have : p.1 ≠ a := fun e1 => hn.1 (List.mem_map.2 ⟨_, List.mem_of_getElem? hj, by simp [e1]⟩)
            rw [List.filter_cons_of_pos (by simpa using this), List.eraseIdx_cons_succ, ih j u hn.2 hj]
      exact hd l j u h1 hj
/-- 'len(m)' -/
theorem MapIs.len (ht : P.underlying t = some (.map k e)) (h : MapIs w b f ok l) (ty : TypeId) : (Builtin.len_ #[t] ty #[.map (some b)]).run P w = .ok (.int .i64 (l.length : Int)) w := by
  obtain ⟨h1, h2, es, clock, hb, hs, he⟩ := h
  have : es.size = l.length := by have := congrArg List.length he; simpa using this
  simp [Builtin.len_, run_underlying ht, MapKept.run_getObj_map hb, Result.andThen, goInt, this]

/-- 'for a, v := range m' UNDER WAY: block r is an iterator over the map in block b; 'left' is still to come -/
def MapWalk (w : World) (b r : Nat) (f : α → Value) (ok : α → Prop) (l left : List (α × Value)) : Prop :=
  MKeys l ∧ (∀ p ∈ l, ok p.1) ∧ ∃ es clock since seen c0, w.heap[b]? = some (.map es clock) ∧ Stamped es clock ∧ es.toList.map (fun e => (e.key, e.val)) = l.map (entryOf f) ∧
    w.heap[r]? = some (.mapIter (some b) since seen c0) ∧ (∀ x ∈ es.toList, x.born < since) ∧ since ≤ c0 ∧ since ≤ clock ∧
    (leftOf es seen).toList.map (fun e => (e.key, e.val)) = left.map (entryOf f)
theorem MapWalk.ne {left : List (α × Value)} {r : Nat} (h : MapWalk w b r f ok l left) : r ≠ b := by
  obtain ⟨_, _, es, clock, since, seen, c0, hb, _, _, hr, _⟩ := h
  rintro rfl
  rw [hb] at hr; cases hr
theorem MapWalk.map {left : List (α × Value)} {r : Nat} (h : MapWalk w b r f ok l left) : MapIs w b f ok l := by
  obtain ⟨h1, h2, es, clock, since, seen, c0, hb, h3, h4, _⟩ := h
  exact ⟨h1, h2, es, clock, hb, h3, h4⟩
theorem MapWalk.lt {left : List (α × Value)} {r : Nat} (h : MapWalk w b r f ok l left) : r < w.heap.size := by
  obtain ⟨_, _, es, clock, since, seen, c0, _, _, _, hr, _⟩ := h
  exact (Array.getElem?_eq_some_iff.1 hr).1
theorem MapWalk.block {left : List (α × Value)} {r : Nat} (h : MapWalk w b r f ok l left) (hb' : w'.heap[b]? = w.heap[b]?) (hr' : w'.heap[r]? = w.heap[r]?) : MapWalk w' b r f ok l left := by
  obtain ⟨h1, h2, es, clock, since, seen, c0, hb, h3, h4, hr, h5⟩ := h
  exact ⟨h1, h2, es, clock, since, seen, c0, hb'.trans hb, h3, h4, hr'.trans hr, h5⟩
theorem MapWalk.kept {row : Option Nat} {left : List (α × Value)} {r : Nat} (h : MapWalk w b r f ok l left) (hg : w.grownBy w' row) (hb' : some b ≠ row) (hr' : some r ≠ row) : MapWalk w' b r f ok l left :=
  h.block (hg.block b h.map.lt hb') (hg.block r h.lt hr')
/-- 'range m' -/
theorem MapIs.range (ht : P.underlying t = some (.map k e)) (h : MapIs w b f ok l) :
    ∃ w', (Instr.range t (.map (some b))).run P w = .ok (.pointer (some ⟨w.heap.size, 0, none⟩)) w' ∧ MapWalk w' b w.heap.size f ok l l ∧ w.grownBy w' none ∧ w'.heap.size = w.heap.size + 1 := by
  have hlt := h.lt
  obtain ⟨h1, h2, es, clock, hb, hs, he⟩ := h
  refine ⟨_, run_range_map w t k e b es clock ht hb, ⟨h1, h2, es, clock, clock, #[], clock, ((MapKept.heap_alloc w _).2 b hlt).trans hb, hs, he, (MapKept.heap_alloc w _).1, hs.1, Nat.le_refl _, Nat.le_refl _, ?_⟩, World.grownBy_alloc w _ none, by simp⟩
  rw [← he]
  unfold leftOf
  rw [Array.toList_filter]
  congr 1
  exact List.filter_eq_self.2 fun x _ => by simp
/-- what is left, read off the world -/
def walkLeft (w : World) (b r : Nat) : Nat := w.rangeLeft b r
theorem MapWalk.left_eq {left : List (α × Value)} {r : Nat} (h : MapWalk w b r f ok l left) : w.rangeLeft b r = left.length := by
  obtain ⟨_, _, es, clock, since, seen, c0, hb, _, _, hr, _, _, _, he⟩ := h
  simp only [World.rangeLeft, hb, hr]
  have := congrArg List.length he
  simpa using this
/-- the step -/
theorem MapWalk.next [DecidableEq α] (K : KeyFn P k f ok) {left : List (α × Value)} {r : Nat} (h : MapWalk w b r f ok l left) (ty : TypeId) :
    (left = [] ∧ (Instr.next (.pointer (some ⟨r, 0, none⟩)) false ty).run P w = .ok (.tuple #[.bool false]) w) ∨
    ∃ p w', p ∈ left ∧ p ∈ l ∧ (Instr.next (.pointer (some ⟨r, 0, none⟩)) false ty).run P w = .ok (.tuple #[.bool true, f p.1, p.2]) w' ∧
      MapWalk w' b r f ok l (mdel left p.1) ∧ w.grownBy w' (some r) ∧ w'.heap.size = w.heap.size ∧ (Instr.entry (.pointer (some ⟨r, 0, none⟩))).run P w' = .ok (.tuple #[f p.1, p.2]) w' := by
  have hne := h.ne
  obtain ⟨h1, h2, es, clock, since, seen, c0, hb, hs, he, hr, hold, hsc, hsk, hl⟩ := h
  have hborn := ((stamped_iff es clock).1 hs).2.1
  have hkeys := ((stamped_iff es clock).1 hs).2.2
  rcases run_next_at (P := P) w ty r b since c0 seen es clock hr hb hold hsc with ⟨h0, hrun⟩ | ⟨x, hx, w1, hal, hrun⟩
  · refine .inl ⟨?_, hrun⟩
    have := congrArg List.length hl
    simp [h0] at this
    exact List.eq_nil_of_length_eq_zero this.symm
  · obtain ⟨hxm, hxs⟩ := mem_left hx
    obtain ⟨p, hp, hpk, hpv⟩ := entries_mem hl hx
    obtain ⟨q, hq, hqk, hqv⟩ := entries_mem he hxm
    have hpq : p = q := by
      have e1 : p.1 = q.1 := K.inj _ _ (by rw [← hpk, hqk])
      have e2 : p.2 = q.2 := by rw [← hpv, hqv]
      exact Prod.ext e1 e2
    have hr1 : w1.heap[r]? = some (.mapIter (some b) since seen c0) := by rcases hal with rfl | rfl <;> exact hr
    have hb1 : w1.heap[b]? = some (.map es clock) := by rcases hal with rfl | rfl <;> exact hb
    have hset := heap_set (o' := .mapIter (some b) since (seen.push x.born) clock) hr1
    have hb' : (setBlock w1 r (.mapIter (some b) since (seen.push x.born) clock)).heap[b]? = some (.map es clock) := (hset.2 b (fun e1 => hne e1.symm)).trans hb1
    refine .inr ⟨p, _, hp, hpq ▸ hq, by rw [← hpk, ← hpv]; exact hrun, ⟨h1, h2, es, clock, since, seen.push x.born, clock, hb', hs, he, hset.1, hold, hsk, hsk, ?_⟩, ?_, ?_, ?_⟩
    · -- what is left: all but this one
      have e1 : (leftOf es (seen.push x.born)).toList = (leftOf es seen).toList.filter (fun y => !(y.born == x.born)) := by
        unfold leftOf
        rw [Array.toList_filter, Array.toList_filter, List.filter_filter]
        refine List.filter_congr fun y _ => ?_
        rw [contains_push]
        cases seen.contains y.born <;> cases (y.born == x.born) <;> rfl
      rw [e1]
      have key : ∀ (ys : List MapEntry) (m : List (α × Value)), ys.map (fun e => (e.key, e.val)) = m.map (entryOf f) → (∀ y ∈ ys, y ∈ es.toList) →
          (ys.filter (fun y => !(y.born == x.born))).map (fun e => (e.key, e.val)) = (mdel m p.1).map (entryOf f) := by
        intro ys
        induction ys with
        | nil => intro m hm _; cases m <;> simp at hm; rfl
        | cons y ys ih =>
          intro m hm hys
          cases m with
          | nil => simp at hm
          | cons q m =>
            simp only [List.map_cons, List.cons.injEq] at hm
            have hih := ih m hm.2 (fun z hz => hys z (by simp [hz]))
            have hym := hys y (by simp)
            have hyk : y.key = f q.1 := congrArg Prod.fst hm.1
            by_cases hbx : y.born = x.born
            · have exy : y = x := born_inj hborn hym hxm hbx
              have eqp : q.1 = p.1 := K.inj _ _ (by rw [← hyk, exy, hpk])
              rw [List.filter_cons_of_neg (by simp [hbx])]
              have : mdel (q :: m) p.1 = mdel m p.1 := by simp [mdel, List.filter_cons, eqp]
              rw [this]; exact hih
            · have eqp : q.1 ≠ p.1 := fun e1 => hbx (congrArg MapEntry.born (entry_eq_of_key hkeys hym hxm (by rw [hyk, hpk, e1])))
              rw [List.filter_cons_of_pos (by simp [hbx])]
              have : mdel (q :: m) p.1 = q :: mdel m p.1 := by simp [mdel, List.filter_cons, eqp]
              rw [this, List.map_cons, List.map_cons, hih, hm.1]
      exact key _ _ hl fun y hy => (mem_left hy).1
    · rcases hal with rfl | rfl <;> exact ⟨rfl, rfl, rfl, by simp [setBlock], fun i _ hi => hset.2 i (fun e1 => hi (by rw [e1]))⟩
    · rcases hal with rfl | rfl <;> simp [setBlock]
    · rw [← hpk, ← hpv]
      exact run_entry_at _ r b since seen es clock x hset.1 hb' hxm hborn
end
end Go.Proofs.Ytccpkafmbmkmfaa
