/- Package hints at string keys: an index of the call's own, apart from certain blocks. No condition but that arguments fit their kinds, and sizes. -/
import Derived.Test.YtccpkafmbmkmfaaHintsIdxStr
import Derived.RangeFuncWrites
namespace Go.Proofs.Ytccpkafmbmkmfaa.hStr
open Go.RowKit
set_option linter.unusedVariables false
set_option linter.unusedSimpArgs false

/-- made since w0; its blocks are none of K -/
def Live (w0 W : World) (K : Nat → Prop) (g b : Nat) (C : Noted ByteArray) : Prop := ∃ S, (∀ i, S i → w0.heap.size ≤ i ∧ ¬ K i) ∧ Is W S g b C ∧ Below w0.heap.size w0 W
/-- what K names is there -/
def There (W : World) (K : Nat → Prop) : Prop := ∀ i, K i → i < W.heap.size
variable {w0 W W' : World} {K K' : Nat → Prop} {g b : Nat} {C : Noted ByteArray}
theorem There.later (h : There W K) (hs : W.heap.size ≤ W'.heap.size) : There W' K := fun i hi => Nat.lt_of_lt_of_le (h i hi) hs
theorem Live.below (h : Live w0 W K g b C) : Below w0.heap.size w0 W := h.choose_spec.2.2
theorem Live.keys (h : Live w0 W K g b C) : MKeys C := by obtain ⟨S, _, h2, _⟩ := h; exact h2.keys
theorem Live.nonempty (h : Live w0 W K g b C) : ∀ p ∈ C, p.2 ≠ [] := by obtain ⟨S, _, h2, _⟩ := h; exact h2.nonempty
theorem Live.inI (h : Live w0 W K g b C) (k : ByteArray) : InI (valsOf C k) := by obtain ⟨S, _, h2, _⟩ := h; exact idx_inI k h2
/-- what K names lies as it lay; all else is made anew -/
def Spared (K : Nat → Prop) (W W' : World) : Prop := W.heap.size ≤ W'.heap.size ∧ ∀ i, i < W.heap.size → K i → W'.heap[i]? = W.heap[i]?
theorem Spared.refl (K : Nat → Prop) (W : World) : Spared K W W := ⟨Nat.le_refl _, fun _ _ _ => rfl⟩
theorem Spared.trans {A B C : World} (h : Spared K A B) (k : Spared K B C) : Spared K A C := ⟨Nat.le_trans h.1 k.1, fun i hi hK => (k.2 i (Nat.lt_of_lt_of_le hi h.1) hK).trans (h.2 i hi hK)⟩
theorem Spared.of_below (h : Below W.heap.size W W') : Spared K W W' := ⟨h.size, fun i hi _ => h.block i hi⟩
theorem Spared.blk {q : Nat} {t : TypeId} {cs : Array Value} (h : Spared K W W') (hb : Blk W q t cs) (hK : K q) : Blk W' q t cs := (h.2 q hb.lt hK).trans hb
theorem Live.later (h : Live w0 W K g b C) (hb : Below W.heap.size W W') : Live w0 W' K g b C := by
  obtain ⟨S, h1, h2, h3⟩ := h
  exact ⟨S, h1, h2.below hb, below_next h3 hb⟩
theorem Live.more (h : Live w0 W K g b C) (hK : ∀ i, K' i → ¬ K i → W.heap.size ≤ i) : Live w0 W K' g b C := by
  obtain ⟨S, h1, h2, h3⟩ := h
  refine ⟨fun i => S i ∧ i < W.heap.size, fun i hi => ⟨(h1 i hi.1).1, fun hk => ?_⟩, h2.mono fun i hi hs => ⟨hs, hi⟩, h3⟩
  by_cases hKi : K i
  · exact (h1 i hi.1).2 hKi
  · have := hK i hk hKi; have := hi.2; omega
/-- a cell of a block that K names is written -/
theorem Live.set (h : Live w0 W K g b C) {q : Nat} (hq : K q) (h0 : w0.heap.size ≤ q) (i : Nat) (u : Value) : Live w0 (W.setCell ⟨q, i, none⟩ u) K g b C := by
  obtain ⟨S, h1, h2, h3⟩ := h
  exact ⟨S, h1, h2.keep fun j hj hs => Below.heap_setCell _ _ _ _ (fun e => (h1 j hs).2 (by rw [e]; exact hq)), h3.setCell (p := ⟨q, i, none⟩) h0 u⟩
theorem live_new (hb : Below w0.heap.size w0 W) (hK : There W K) : Calls Try.prog 71 #[] W fun e w' => e = .returned (.pointer (some ⟨W.heap.size + 1, 0, none⟩)) ∧ Live w0 w' K (W.heap.size + 1) W.heap.size [] ∧ Below W.heap.size W w' :=
  (idx_new W).mono fun e w' ⟨he, hi, hb1⟩ => ⟨he, ⟨_, fun i hi => ⟨Nat.le_trans hb.size hi, fun hk => by have := hK i hk; have hi : W.heap.size ≤ i := hi; omega⟩, hi, below_next hb hb1⟩, hb1⟩
theorem live_note (k : ByteArray) (hk : ok k) (v : Int) (hv : -9223372036854775808 ≤ v ∧ v ≤ 9223372036854775807) (h : Live w0 W K g b C) (ht : totalOf C ≤ 549755813888) (hK : There W K) :
    Calls Try.prog 72 #[.pointer (some ⟨g, 0, none⟩), fk k, .int .i64 v] W fun e w' => e = .returned (.bool (decide (v ∉ valsOf C k))) ∧ Live w0 w' K g b (noteC C k v) ∧ Spared K W w' := by
  obtain ⟨S, h1, h2, h3⟩ := h
  refine (idx_note k hk v hv h2 ht).mono fun e w' ⟨he, hi, hT⟩ => ⟨he, ⟨_, fun i hi => ?_, hi, h3.trans (hT.below h3.size fun i hi hs => by have := (h1 i hs).1; omega)⟩, hT.size, fun i hi hk => hT.block i hi fun hs => (h1 i hs).2 hk⟩
  rcases hi with hi | hi
  · exact h1 i hi
  · exact ⟨Nat.le_trans h3.size hi, fun hk => by have := hK i hk; omega⟩
theorem live_strike (k : ByteArray) (hk : ok k) (v : Int) (hv : -9223372036854775808 ≤ v ∧ v ≤ 9223372036854775807) (h : Live w0 W K g b C) (ht : totalOf C ≤ 549755813888) (hK : There W K) :
    Calls Try.prog 73 #[.pointer (some ⟨g, 0, none⟩), fk k, .int .i64 v] W fun e w' => e = .returned (.bool (decide (v ∈ valsOf C k))) ∧ Live w0 w' K g b (strikeC C k v) ∧ Spared K W w' ∧ Touch (fun i => i = g ∨ i = b) W w' := by
  obtain ⟨S, h1, h2, h3⟩ := h
  have hgb : ∀ i, i = g ∨ i = b → S i := fun i hi => hi.elim (fun e => by rw [e]; exact h2.lt.2.2.1) (fun e => by rw [e]; exact h2.lt.2.2.2)
  refine (idx_strike k hk v hv h2 ht).mono fun e w' ⟨he, hi, hT⟩ => ⟨he, ⟨_, fun i hi => ?_, hi, h3.trans (hT.below h3.size fun i hi hs => by have := (h1 i (hgb i hs)).1; omega)⟩, ⟨hT.size, fun i hi hk => hT.block i hi fun hs => (h1 i (hgb i hs)).2 hk⟩, hT⟩
  rcases hi with hi | hi
  · exact h1 i hi
  · exact ⟨Nat.le_trans h3.size hi, fun hk => by have := hK i hk; omega⟩
theorem live_at (k : ByteArray) (hk : ok k) (h : Live w0 W K g b C) (ht : totalOf C ≤ 549755813888) :
    Calls Try.prog 74 #[.pointer (some ⟨g, 0, none⟩), fk k] W fun e w' => ∃ v, e = .returned v ∧ w'.ownsRow W.heap.size 3 1 v (valsOf C k).length ((valsOf C k).map ci) ∧ Below W.heap.size W w' := by
  obtain ⟨S, h1, h2, h3⟩ := h; exact idx_at k hk h2 ht
theorem live_tells (k : ByteArray) (hk : ok k) (h : Live w0 W K g b C) (ht : totalOf C ≤ 549755813888) : Tells (.pointer (some ⟨g, 0, none⟩)) k (valsOf C k) W := by
  obtain ⟨S, h1, h2, h3⟩ := h; exact idx_tells k hk h2 ht
theorem live_has (k : ByteArray) (hk : ok k) (v : Int) (h : Live w0 W K g b C) (ht : totalOf C ≤ 549755813888) :
    Calls Try.prog 111 #[.pointer (some ⟨g, 0, none⟩), fk k, .int .i64 v] W fun e w' => e = .returned (.bool (decide (v ∈ valsOf C k))) ∧ Below W.heap.size W w' := by
  obtain ⟨S, h1, h2, h3⟩ := h; exact idx_has k hk v h2 ht
theorem live_new' (hb : Below w0.heap.size w0 W) (hK : There W K) : Calls Try.prog 71 #[] W fun e w' => ∃ g b, e = .returned (.pointer (some ⟨g, 0, none⟩)) ∧ Live w0 w' K g b [] ∧ Below W.heap.size W w' ∧ W.heap.size ≤ g ∧ W.heap.size ≤ b :=
  (live_new hb hK).mono fun e w' ⟨he, hl, hb1⟩ => ⟨_, _, he, hl, hb1, by omega, Nat.le_refl _⟩
/-- what is no cells turns, other than the map -/
theorem IsOwn {S : Nat → Prop} {row : Option Nat} (h : Is W S g b C) (hg : W.grownBy W' row) (hr : ∀ r, row = some r → r ≠ b ∧ ∃ o : Obj, W.heap[r]? = some o ∧ o.isCells = false) : Is W' S g b C := by
  obtain ⟨E, e, h⟩ := h
  have key : ∀ {i : Nat} {cs t fr}, W.heap[i]? = some (.cells cs t fr) → some i ≠ row := fun {i cs t fr} hi e => by
    obtain ⟨_, o, ho, hc⟩ := hr i e.symm
    rw [hi] at ho
    injection ho with ho
    subst ho
    simp [Obj.isCells] at hc
  refine ⟨E, e, ⟨h.head.grown hg (key h.head), h.map.kept hg (fun e => (hr b e.symm).1 rfl), fun p hp => ⟨?_, (h.rows p hp).2⟩, h.sg, h.sb, h.foot, h.apart, h.tn⟩⟩
  have ho := (h.rows p hp).1
  rcases ho.2 with h0 | ⟨g', cap, cur, h1, h2, h3, h4⟩
  · exact ⟨ho.1, .inl h0⟩
  · exact ⟨ho.1, .inr ⟨g', cap, cur, h1, h2, (hg.block g' (Array.getElem?_eq_some_iff.1 h3).1 (key h3)).trans h3, h4⟩⟩
theorem Live.own {row : Option Nat} (h : Live w0 W K g b C) (hg : W.grownBy W' row) (hr : ∀ r, row = some r → w0.heap.size ≤ r ∧ r ≠ b ∧ ∃ o : Obj, W.heap[r]? = some o ∧ o.isCells = false) : Live w0 W' K g b C := by
  obtain ⟨S, h1, h2, h3⟩ := h
  exact ⟨S, h1, IsOwn h2 hg (fun r e => (hr r e).2), h3.grown hg h3.size (fun k e => (hr k e).1)⟩
theorem Live.blocks (h : Live w0 W K g b C) : g < W.heap.size ∧ b < W.heap.size ∧ ¬ K g ∧ ¬ K b ∧ w0.heap.size ≤ g ∧ w0.heap.size ≤ b := by
  obtain ⟨S, h1, h2, h3⟩ := h
  obtain ⟨a1, a2, a3, a4⟩ := h2.lt
  exact ⟨a1, a2, (h1 g a3).2, (h1 b a4).2, (h1 g a3).1, (h1 b a4).1⟩
end Go.Proofs.Ytccpkafmbmkmfaa.hStr
