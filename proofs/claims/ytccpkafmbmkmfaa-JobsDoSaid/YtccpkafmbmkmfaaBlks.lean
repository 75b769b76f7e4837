/- Blocks that were laid one behind another, and how they lie on. No condition. -/
import Derived.Test.YtccpkafmbmkmfaaMem
import Derived.RangeFuncFrom
namespace Go.Proofs.Ytccpkafmbmkmfaa
open Go.RowKit
set_option linter.unusedVariables false

theorem Blk.new_ {w : World} {t : TypeId} {cs : Array Value} {n : Nat} (hn : n = w.heap.size) : Blk (w.alloc (.cells cs t)) n t cs := by subst hn; exact Blk.new w t cs
theorem blks2 (w : World) (t1 t2 : TypeId) (c1 c2 : Array Value) : ∃ W, (w.alloc (.cells c1 t1)).alloc (.cells c2 t2) = W ∧ W.heap.size = w.heap.size + 2 ∧
    Blk W w.heap.size t1 c1 ∧ Blk W (w.heap.size + 1) t2 c2 ∧ Below w.heap.size w W :=
  ⟨_, rfl, by simp, (Blk.new w t1 c1).alloc _, Blk.new_ (by simp), ((Below.refl _ w).alloc (Nat.le_refl _) _).alloc (by simp) _⟩
theorem blks3 (w : World) (t1 t2 t3 : TypeId) (c1 c2 c3 : Array Value) : ∃ W, ((w.alloc (.cells c1 t1)).alloc (.cells c2 t2)).alloc (.cells c3 t3) = W ∧ W.heap.size = w.heap.size + 3 ∧
    Blk W w.heap.size t1 c1 ∧ Blk W (w.heap.size + 1) t2 c2 ∧ Blk W (w.heap.size + 2) t3 c3 ∧ Below w.heap.size w W := by
  obtain ⟨W, hW, h0, h1, h2, hB⟩ := blks2 w t1 t2 c1 c2
  exact ⟨_, rfl, by simp, by rw [hW]; exact h1.alloc _, by rw [hW]; exact h2.alloc _, Blk.new_ (by simp), by rw [hW]; exact hB.alloc (by omega) _⟩
theorem blks4 (w : World) (t1 t2 t3 t4 : TypeId) (c1 c2 c3 c4 : Array Value) : ∃ W, (((w.alloc (.cells c1 t1)).alloc (.cells c2 t2)).alloc (.cells c3 t3)).alloc (.cells c4 t4) = W ∧ W.heap.size = w.heap.size + 4 ∧
    Blk W w.heap.size t1 c1 ∧ Blk W (w.heap.size + 1) t2 c2 ∧ Blk W (w.heap.size + 2) t3 c3 ∧ Blk W (w.heap.size + 3) t4 c4 ∧ Below w.heap.size w W := by
  obtain ⟨W, hW, h0, h1, h2, h3, hB⟩ := blks3 w t1 t2 t3 c1 c2 c3
  exact ⟨_, rfl, by simp, by rw [hW]; exact h1.alloc _, by rw [hW]; exact h2.alloc _, by rw [hW]; exact h3.alloc _, Blk.new_ (by simp), by rw [hW]; exact hB.alloc (by omega) _⟩
theorem blks5 (w : World) (t1 t2 t3 t4 t5 : TypeId) (c1 c2 c3 c4 c5 : Array Value) : ∃ W, ((((w.alloc (.cells c1 t1)).alloc (.cells c2 t2)).alloc (.cells c3 t3)).alloc (.cells c4 t4)).alloc (.cells c5 t5) = W ∧ W.heap.size = w.heap.size + 5 ∧
    Blk W w.heap.size t1 c1 ∧ Blk W (w.heap.size + 1) t2 c2 ∧ Blk W (w.heap.size + 2) t3 c3 ∧ Blk W (w.heap.size + 3) t4 c4 ∧ Blk W (w.heap.size + 4) t5 c5 ∧ Below w.heap.size w W := by
  obtain ⟨W, hW, h0, h1, h2, h3, h4, hB⟩ := blks4 w t1 t2 t3 t4 c1 c2 c3 c4
  exact ⟨_, rfl, by simp, by rw [hW]; exact h1.alloc _, by rw [hW]; exact h2.alloc _, by rw [hW]; exact h3.alloc _, by rw [hW]; exact h4.alloc _, Blk.new_ (by simp), by rw [hW]; exact hB.alloc (by omega) _⟩
/-- a block of another's lies as it lay -/
theorem ownFrom_blk {β : Type} {B g : Nat} {t : TypeId} {cs : β → Array Value} (h : g < B) : OwnFrom B (fun (s : β) W => Blk W g t (cs s)) :=
  fun s A B' row hs hg hr => hs.grown hg (fun e => by have := (hr _ e.symm).1; omega)
theorem ownFrom_heap {β : Type} {B g : Nat} {o : Obj} (h : g < B) : OwnFrom B (fun (_ : β) W => W.heap[g]? = some o) :=
  fun s A B' row hs hg hr => (hg.block g (Array.getElem?_eq_some_iff.1 hs).1 (fun e => by have := (hr _ e.symm).1; omega)).trans hs
theorem ownFrom_pure {β : Type} {B : Nat} {p : β → Prop} : OwnFrom B (fun (s : β) _ => p s) := fun s A B' row hs hg hr => hs
end Go.Proofs.Ytccpkafmbmkmfaa
