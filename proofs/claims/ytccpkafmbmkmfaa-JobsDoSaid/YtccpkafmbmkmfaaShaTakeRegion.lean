/- What is kept in the region with which package sha's take begins: two tables and a state are laid, whatever comes first. No condition. -/
import Derived.Test.YtccpkafmbmkmfaaShaSched
import Derived.Test.YtccpkafmbmkmfaaRelJoint
namespace Go.Proofs.Ytccpkafmbmkmfaa
open Go.RowKit
set_option linter.unusedVariables false
set_option linter.unusedSimpArgs false

theorem Blk.setRow_ {w : World} {g : Nat} {t : TypeId} {cs : Array Value} (h : Blk w g t cs) (c' : Array Value) : Blk (w.setRow g c') g t c' := setRow_heap w g cs c' t (0, 0) h
theorem Blk.setRow_far {w : World} {g k : Nat} {t : TypeId} {cs : Array Value} (h : Blk w g t cs) (c' : Array Value) (hk : g ≠ k) : Blk (w.setRow k c') g t cs := (setRow_other w k g c' hk).trans h
def ptr (g : Nat) : Value := .pointer (some ⟨g, 0, none⟩)
theorem ptr_inj {g h : Nat} (e : ptr g = ptr h) : g = h := by injection e with e; injection e with e; injection e
/-- a block of the call's own behind a value: as it was made, or as it was filled -/
def Own1 (B : Nat) (t : TypeId) (Z C : Array Value) (filled : Bool) (v : Value) (w : World) : Prop := ∃ g, v = ptr g ∧ B ≤ g ∧ Blk w g t (if filled then C else Z)
theorem Own1.below {B : Nat} {t : TypeId} {Z C : Array Value} {f : Bool} {v : Value} {w w' : World} (h : Own1 B t Z C f v w) (hb : Below w.heap.size w w') : Own1 B t Z C f v w' := by
  obtain ⟨g, h1, h2, h3⟩ := h
  exact ⟨g, h1, h2, h3.below hb h3.lt⟩
theorem Own1.other {B k : Nat} {t : TypeId} {Z C c' : Array Value} {f : Bool} {v : Value} {w : World} (h : Own1 B t Z C f v w) (hk : v ≠ ptr k) : Own1 B t Z C f v (w.setRow k c') := by
  obtain ⟨g, h1, h2, h3⟩ := h
  exact ⟨g, h1, h2, h3.setRow_far c' (fun e => hk (by rw [h1, e]))⟩
theorem Own1.ne_ {B B' : Nat} {t t' : TypeId} {Z C Z' C' : Array Value} {f f' : Bool} {v v' : Value} {w : World} (h : Own1 B t Z C f v w) (h' : Own1 B' t' Z' C' f' v' w) (hne : t ≠ t') : v ≠ v' := by
  obtain ⟨g, h1, h2, h3⟩ := h
  obtain ⟨g', h1', h2', h3'⟩ := h'
  intro e
  rw [h1, h1'] at e
  exact Blk.ne_ h3 h3' hne (ptr_inj e)
/-- what is kept: the operations 4, 5, 6 make three blocks, 7, 8, 9 fill them -/
def TakeJ (W0 : World) (t ts : TypeId) (Z4 C4 Z5 C5 Z6 C6 : Array Value) (L : Nat → Bool) (vs : Nat → Value) (w : World) : Prop :=
  Below W0.heap.size W0 w ∧ (L 4 = true → Own1 W0.heap.size t Z4 C4 (L 7) (vs 4) w) ∧ (L 5 = true → Own1 W0.heap.size t Z5 C5 (L 8) (vs 5) w) ∧ (L 6 = true → Own1 W0.heap.size ts Z6 C6 (L 9) (vs 6) w) ∧
  (L 4 = true → L 5 = true → vs 4 ≠ vs 5) ∧ (L 7 = true → L 4 = true) ∧ (L 8 = true → L 5 = true) ∧ (L 9 = true → L 6 = true)
section
variable {W0 : World} {t ts : TypeId} {Z4 C4 Z5 C5 Z6 C6 : Array Value} {L : Nat → Bool} {vs : Nat → Value} {w w' : World}
theorem takeJ_start (h : Below W0.heap.size W0 w) (vs : Nat → Value) : TakeJ W0 t ts Z4 C4 Z5 C5 Z6 C6 (fun _ => false) vs w := by
  refine ⟨h, ?_, ?_, ?_, ?_, ?_, ?_, ?_⟩ <;> intro h <;> cases h
theorem takeJ_keep {i : Nat} {v : Value} (hi : i < 4) (h : TakeJ W0 t ts Z4 C4 Z5 C5 Z6 C6 L vs w) (hb : Below w.heap.size w w') : TakeJ W0 t ts Z4 C4 Z5 C5 Z6 C6 (more L i) (upd vs i v) w' := by
  obtain ⟨h0, h4, h5, h6, h7, h8, h9, h10⟩ := h
  have m : ∀ k, 4 ≤ k → more L i k = L k := fun k hk => by simp [more]; intro e; omega
  have u : ∀ k, 4 ≤ k → upd vs i v k = vs k := fun k hk => by simp [upd]; intro e; omega
  unfold TakeJ
  rw [m 4 (by omega), m 5 (by omega), m 6 (by omega), m 7 (by omega), m 8 (by omega), m 9 (by omega), u 4 (by omega), u 5 (by omega), u 6 (by omega)]
  exact ⟨below_next h0 hb, fun h => (h4 h).below hb, fun h => (h5 h).below hb, fun h => (h6 h).below hb, h7, h8, h9, h10⟩
theorem own1_new (W0 : World) (t : TypeId) (Z C : Array Value) (h : W0.heap.size ≤ w.heap.size) : Own1 W0.heap.size t Z C false (ptr w.heap.size) (w.alloc (.cells Z t)) :=
  ⟨_, rfl, h, Blk.new w t Z⟩
theorem own1_ne_new {B : Nat} {t : TypeId} {Z C : Array Value} {f : Bool} {v : Value} (h : Own1 B t Z C f v w) : v ≠ ptr w.heap.size := by
  obtain ⟨g, h1, h2, h3⟩ := h
  intro e
  rw [h1] at e
  have := ptr_inj e
  have := h3.lt
  omega
theorem takeJ_alloc4 (hL : L 4 = false) (h : TakeJ W0 t ts Z4 C4 Z5 C5 Z6 C6 L vs w) : TakeJ W0 t ts Z4 C4 Z5 C5 Z6 C6 (more L 4) (upd vs 4 (ptr w.heap.size)) (w.alloc (.cells Z4 t)) := by
  obtain ⟨h0, h4, h5, h6, h7, h8, h9, h10⟩ := h
  have hb := (Below.refl w.heap.size w).alloc (Nat.le_refl _) (.cells Z4 t)
  have L7 : L 7 = false := by cases e : L 7 with | false => rfl | true => rw [h8 e] at hL; cases hL
  refine ⟨below_next h0 hb, fun _ => ?_, fun h => (h5 h).below hb, fun h => (h6 h).below hb, fun _ h e => own1_ne_new (h5 h) e.symm, fun h => ?_, h9, h10⟩
  · show Own1 _ _ _ _ (L 7) (ptr w.heap.size) _
    rw [L7]; exact own1_new W0 t Z4 C4 h0.size
  · rfl
theorem takeJ_alloc5 (hL : L 5 = false) (h : TakeJ W0 t ts Z4 C4 Z5 C5 Z6 C6 L vs w) : TakeJ W0 t ts Z4 C4 Z5 C5 Z6 C6 (more L 5) (upd vs 5 (ptr w.heap.size)) (w.alloc (.cells Z5 t)) := by
  obtain ⟨h0, h4, h5, h6, h7, h8, h9, h10⟩ := h
  have hb := (Below.refl w.heap.size w).alloc (Nat.le_refl _) (.cells Z5 t)
  have L8 : L 8 = false := by cases e : L 8 with | false => rfl | true => rw [h9 e] at hL; cases hL
  refine ⟨below_next h0 hb, fun h => (h4 h).below hb, fun _ => ?_, fun h => (h6 h).below hb, fun h _ e => own1_ne_new (h4 h) e, h8, fun h => ?_, h10⟩
  · show Own1 _ _ _ _ (L 8) (ptr w.heap.size) _
    rw [L8]; exact own1_new W0 t Z5 C5 h0.size
  · rfl
theorem takeJ_alloc6 (hL : L 6 = false) (h : TakeJ W0 t ts Z4 C4 Z5 C5 Z6 C6 L vs w) : TakeJ W0 t ts Z4 C4 Z5 C5 Z6 C6 (more L 6) (upd vs 6 (ptr w.heap.size)) (w.alloc (.cells Z6 ts)) := by
  obtain ⟨h0, h4, h5, h6, h7, h8, h9, h10⟩ := h
  have hb := (Below.refl w.heap.size w).alloc (Nat.le_refl _) (.cells Z6 ts)
  have L9 : L 9 = false := by cases e : L 9 with | false => rfl | true => rw [h10 e] at hL; cases hL
  refine ⟨below_next h0 hb, fun h => (h4 h).below hb, fun h => (h5 h).below hb, fun _ => ?_, h7, h8, h9, fun h => ?_⟩
  · show Own1 _ _ _ _ (L 9) (ptr w.heap.size) _
    rw [L9]; exact own1_new W0 ts Z6 C6 h0.size
  · rfl
theorem takeJ_store7 (hL : L 7 = false) (l4 : L 4 = true) (hne : t ≠ ts) (h : TakeJ W0 t ts Z4 C4 Z5 C5 Z6 C6 L vs w) :
    ∃ g, vs 4 = ptr g ∧ Blk w g t Z4 ∧ ∀ v, TakeJ W0 t ts Z4 C4 Z5 C5 Z6 C6 (more L 7) (upd vs 7 v) (w.setRow g C4) := by
  obtain ⟨h0, h4, h5, h6, h7, h8, h9, h10⟩ := h
  have hq := h4 l4
  obtain ⟨g, e, hg, hb⟩ := h4 l4
  rw [hL] at hb
  refine ⟨g, e, hb, fun v => ⟨below_setRow h0 hg _, fun _ => ⟨g, e, hg, hb.setRow_ C4⟩, fun h => (h5 h).other (fun e' => h7 l4 h (e.trans e'.symm)), fun h => (h6 h).other (fun e' => hq.ne_ (h6 h) hne (e.trans e'.symm)), h7, fun _ => l4, h9, h10⟩⟩
theorem takeJ_store8 (hL : L 8 = false) (l5 : L 5 = true) (hne : t ≠ ts) (h : TakeJ W0 t ts Z4 C4 Z5 C5 Z6 C6 L vs w) :
    ∃ g, vs 5 = ptr g ∧ Blk w g t Z5 ∧ ∀ v, TakeJ W0 t ts Z4 C4 Z5 C5 Z6 C6 (more L 8) (upd vs 8 v) (w.setRow g C5) := by
  obtain ⟨h0, h4, h5, h6, h7, h8, h9, h10⟩ := h
  have hq := h5 l5
  obtain ⟨g, e, hg, hb⟩ := h5 l5
  rw [hL] at hb
  refine ⟨g, e, hb, fun v => ⟨below_setRow h0 hg _, fun h => (h4 h).other (fun e' => h7 h l5 (e'.trans e.symm)), fun _ => ⟨g, e, hg, hb.setRow_ C5⟩, fun h => (h6 h).other (fun e' => hq.ne_ (h6 h) hne (e.trans e'.symm)), h7, h8, fun _ => l5, h10⟩⟩
theorem takeJ_store9 (hL : L 9 = false) (l6 : L 6 = true) (hne : t ≠ ts) (h : TakeJ W0 t ts Z4 C4 Z5 C5 Z6 C6 L vs w) :
    ∃ g, vs 6 = ptr g ∧ Blk w g ts Z6 ∧ ∀ v, TakeJ W0 t ts Z4 C4 Z5 C5 Z6 C6 (more L 9) (upd vs 9 v) (w.setRow g C6) := by
  obtain ⟨h0, h4, h5, h6, h7, h8, h9, h10⟩ := h
  have hq := h6 l6
  obtain ⟨g, e, hg, hb⟩ := h6 l6
  rw [hL] at hb
  refine ⟨g, e, hb, fun v => ⟨below_setRow h0 hg _, fun h => (h4 h).other (fun e' => (h4 h).ne_ hq hne (e'.trans e.symm)), fun h => (h5 h).other (fun e' => (h5 h).ne_ hq hne (e'.trans e.symm)), fun _ => ⟨g, e, hg, hb.setRow_ C6⟩, h7, h8, h9, fun _ => l6⟩⟩
theorem takeJ_end (h : TakeJ W0 t ts Z4 C4 Z5 C5 Z6 C6 L vs w) (hL : ∀ k, k < 10 → L k = true) (hne : t ≠ ts) :
    ∃ g4 g5 g6, vs 4 = ptr g4 ∧ vs 5 = ptr g5 ∧ vs 6 = ptr g6 ∧ W0.heap.size ≤ g4 ∧ W0.heap.size ≤ g5 ∧ W0.heap.size ≤ g6 ∧ Blk w g4 t C4 ∧ Blk w g5 t C5 ∧ Blk w g6 ts C6 ∧ Below W0.heap.size W0 w ∧ g4 ≠ g6 ∧ g5 ≠ g6 := by
  obtain ⟨h0, h4, h5, h6, h7, h8, h9, h10⟩ := h
  obtain ⟨g4, e4, b4, k4⟩ := h4 (hL 4 (by omega))
  obtain ⟨g5, e5, b5, k5⟩ := h5 (hL 5 (by omega))
  obtain ⟨g6, e6, b6, k6⟩ := h6 (hL 6 (by omega))
  rw [hL 7 (by omega)] at k4
  rw [hL 8 (by omega)] at k5
  rw [hL 9 (by omega)] at k6
  exact ⟨g4, g5, g6, e4, e5, e6, b4, b5, b6, k4, k5, k6, h0, Blk.ne_ k4 k6 hne, Blk.ne_ k5 k6 hne⟩
end
end Go.Proofs.Ytccpkafmbmkmfaa
