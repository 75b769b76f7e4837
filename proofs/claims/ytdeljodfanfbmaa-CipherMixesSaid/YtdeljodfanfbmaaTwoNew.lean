/- What is kept in a region that makes two blocks of one type, in either order, and fills them: 'x, y := f(a), g(b)'. No condition. -/
import Derived.Test.YtdeljodfanfbmaaStoreAt
import Derived.Test.YtdeljodfanfbmaaRelJoint
import Derived.Test.YtdeljodfanfbmaaBlks
import Derived.Test.YtdeljodfanfbmaaCipherXor
namespace Go.Proofs.Ytdeljodfanfbmaa
open Go.RowKit
set_option linter.unusedVariables false
set_option linter.unusedSimpArgs false

def ptr2 (g : Nat) : Value := .pointer (some ⟨g, 0, none⟩)
theorem ptr2_inj {g h : Nat} (e : ptr2 g = ptr2 h) : g = h := by injection e with e; injection e with e; injection e
/-- a block of the call's own behind a value: as it was made, or as it was filled -/
def OwnB (B : Nat) (t : TypeId) (Z C : Array Value) (filled : Bool) (v : Value) (w : World) : Prop := ∃ g, v = ptr2 g ∧ B ≤ g ∧ Blk w g t (if filled then C else Z)
theorem OwnB.below {B : Nat} {t : TypeId} {Z C : Array Value} {f : Bool} {v : Value} {w w' : World} (h : OwnB B t Z C f v w) (hb : Below w.heap.size w w') : OwnB B t Z C f v w' := by
  obtain ⟨g, h1, h2, h3⟩ := h
  exact ⟨g, h1, h2, h3.below hb h3.lt⟩
theorem OwnB.other {B k : Nat} {t : TypeId} {Z C c' : Array Value} {f : Bool} {v : Value} {w : World} (h : OwnB B t Z C f v w) (hk : v ≠ ptr2 k) : OwnB B t Z C f v (w.setRow k c') := by
  obtain ⟨g, h1, h2, h3⟩ := h
  exact ⟨g, h1, h2, h3.setRow_far c' (fun e => hk (by rw [h1, e]))⟩
theorem ownB_new (B : Nat) (t : TypeId) (Z C : Array Value) {w : World} (h : B ≤ w.heap.size) : OwnB B t Z C false (ptr2 w.heap.size) (w.alloc (.cells Z t)) := ⟨_, rfl, h, Blk.new w t Z⟩
theorem ownB_ne_new {B : Nat} {t : TypeId} {Z C : Array Value} {f : Bool} {v : Value} {w : World} (h : OwnB B t Z C f v w) : v ≠ ptr2 w.heap.size := by
  obtain ⟨g, h1, h2, h3⟩ := h
  intro e
  rw [h1] at e
  have := ptr2_inj e
  have := h3.lt
  omega
/-- the operations 4 and 5 make two blocks, 6 and 7 fill them -/
def TwoJ (W0 : World) (t : TypeId) (Z C4 C5 : Array Value) (L : Nat → Bool) (vs : Nat → Value) (w : World) : Prop :=
  Below W0.heap.size W0 w ∧ (L 4 = true → OwnB W0.heap.size t Z C4 (L 6) (vs 4) w) ∧ (L 5 = true → OwnB W0.heap.size t Z C5 (L 7) (vs 5) w) ∧ (L 4 = true → L 5 = true → vs 4 ≠ vs 5) ∧ (L 6 = true → L 4 = true) ∧ (L 7 = true → L 5 = true)
section
variable {W0 : World} {t : TypeId} {Z C4 C5 : Array Value} {L : Nat → Bool} {vs : Nat → Value} {w w' : World}
theorem twoJ_start (h : Below W0.heap.size W0 w) (vs : Nat → Value) : TwoJ W0 t Z C4 C5 (fun _ => false) vs w := by
  refine ⟨h, ?_, ?_, ?_, ?_, ?_⟩ <;> intro h <;> cases h
theorem twoJ_keep {i : Nat} {v : Value} (hi : i < 4) (h : TwoJ W0 t Z C4 C5 L vs w) (hb : Below w.heap.size w w') : TwoJ W0 t Z C4 C5 (more L i) (upd vs i v) w' := by
  obtain ⟨h0, h4, h5, h6, h7, h8⟩ := h
  have m : ∀ k, 4 ≤ k → more L i k = L k := fun k hk => by simp [more]; intro e; omega
  have u : ∀ k, 4 ≤ k → upd vs i v k = vs k := fun k hk => by simp [upd]; intro e; omega
  unfold TwoJ
  rw [m 4 (by omega), m 5 (by omega), m 6 (by omega), m 7 (by omega), u 4 (by omega), u 5 (by omega)]
  exact ⟨below_next h0 hb, fun h => (h4 h).below hb, fun h => (h5 h).below hb, h6, h7, h8⟩
theorem twoJ_alloc4 (hL : L 4 = false) (h : TwoJ W0 t Z C4 C5 L vs w) : TwoJ W0 t Z C4 C5 (more L 4) (upd vs 4 (ptr2 w.heap.size)) (w.alloc (.cells Z t)) := by
  obtain ⟨h0, h4, h5, h6, h7, h8⟩ := h
  have hb := (Below.refl w.heap.size w).alloc (Nat.le_refl _) (.cells Z t)
  have L6 : L 6 = false := by cases e : L 6 with | false => rfl | true => rw [h7 e] at hL; cases hL
  refine ⟨below_next h0 hb, fun _ => ?_, fun h => (h5 h).below hb, fun _ h e => ownB_ne_new (h5 h) e.symm, fun h => rfl, h8⟩
  show OwnB _ _ _ _ (L 6) (ptr2 w.heap.size) _
  rw [L6]; exact ownB_new _ t Z C4 h0.size
theorem twoJ_alloc5 (hL : L 5 = false) (h : TwoJ W0 t Z C4 C5 L vs w) : TwoJ W0 t Z C4 C5 (more L 5) (upd vs 5 (ptr2 w.heap.size)) (w.alloc (.cells Z t)) := by
  obtain ⟨h0, h4, h5, h6, h7, h8⟩ := h
  have hb := (Below.refl w.heap.size w).alloc (Nat.le_refl _) (.cells Z t)
  have L7 : L 7 = false := by cases e : L 7 with | false => rfl | true => rw [h8 e] at hL; cases hL
  refine ⟨below_next h0 hb, fun h => (h4 h).below hb, fun _ => ?_, fun h _ e => ownB_ne_new (h4 h) e, h7, fun h => rfl⟩
  show OwnB _ _ _ _ (L 7) (ptr2 w.heap.size) _
  rw [L7]; exact ownB_new _ t Z C5 h0.size
theorem twoJ_store6 (hL : L 6 = false) (l4 : L 4 = true) (h : TwoJ W0 t Z C4 C5 L vs w) : ∃ g, vs 4 = ptr2 g ∧ Blk w g t Z ∧ ∀ v, TwoJ W0 t Z C4 C5 (more L 6) (upd vs 6 v) (w.setRow g C4) := by
  obtain ⟨h0, h4, h5, h6, h7, h8⟩ := h
  obtain ⟨g, e, hg, hb⟩ := h4 l4
  rw [hL] at hb
  exact ⟨g, e, hb, fun v => ⟨below_setRow h0 hg _, fun _ => ⟨g, e, hg, hb.setRow_ C4⟩, fun h => (h5 h).other (fun e' => h6 l4 h (e.trans e'.symm)), h6, fun _ => l4, h8⟩⟩
theorem twoJ_store7 (hL : L 7 = false) (l5 : L 5 = true) (h : TwoJ W0 t Z C4 C5 L vs w) : ∃ g, vs 5 = ptr2 g ∧ Blk w g t Z ∧ ∀ v, TwoJ W0 t Z C4 C5 (more L 7) (upd vs 7 v) (w.setRow g C5) := by
  obtain ⟨h0, h4, h5, h6, h7, h8⟩ := h
  obtain ⟨g, e, hg, hb⟩ := h5 l5
  rw [hL] at hb
  exact ⟨g, e, hb, fun v => ⟨below_setRow h0 hg _, fun h => (h4 h).other (fun e' => h6 h l5 (e'.trans e.symm)), fun _ => ⟨g, e, hg, hb.setRow_ C5⟩, h6, h7, fun _ => l5⟩⟩
theorem twoJ_end (h : TwoJ W0 t Z C4 C5 L vs w) (hL : ∀ k, k < 8 → L k = true) : ∃ g4 g5, vs 4 = ptr2 g4 ∧ vs 5 = ptr2 g5 ∧ W0.heap.size ≤ g4 ∧ W0.heap.size ≤ g5 ∧ Blk w g4 t C4 ∧ Blk w g5 t C5 ∧ Below W0.heap.size W0 w ∧ g4 ≠ g5 := by
  obtain ⟨h0, h4, h5, h6, h7, h8⟩ := h
  obtain ⟨g4, e4, b4, k4⟩ := h4 (hL 4 (by omega))
  obtain ⟨g5, e5, b5, k5⟩ := h5 (hL 5 (by omega))
  have hne := h6 (hL 4 (by omega)) (hL 5 (by omega))
  rw [hL 6 (by omega)] at k4
  rw [hL 7 (by omega)] at k5
  exact ⟨g4, g5, e4, e5, b4, b5, k4, k5, h0, fun e => hne (by rw [e4, e5, e])⟩
end
/-- what its operations yield: two loads, two calls, two blocks, two stores -/
def twoS (V4 C4 V5 C5 : Array Value) (k : Nat) (v : Value) : Prop := match k with
  | 0 => v = .agg V4
  | 1 => v = .agg C4
  | 2 => v = .agg V5
  | 3 => v = .agg C5
  | 4 => ∃ g, v = ptr2 g
  | 5 => ∃ g, v = ptr2 g
  | _ => v = undef
end Go.Proofs.Ytdeljodfanfbmaa
