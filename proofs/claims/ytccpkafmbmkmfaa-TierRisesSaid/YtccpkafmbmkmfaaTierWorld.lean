/- The world in which miradorlaw28.TierRises begins its loop. No condition. -/
import Derived.RangeFuncFrom
import Derived.Test.YtccpkafmbmkmfaaTierRise
namespace Go.Proofs.Ytccpkafmbmkmfaa
open Go.RowKit Go.Shelf
set_option linter.unusedVariables false

def riseW (w : World) (b h q : Nat) (s m : Int) : World :=
  ((((((w.alloc (.cells #[.int .u32 (b : Int), .int .u32 (h : Int), .int .i64 s, .int .i64 m] 24)).alloc (.cells #[.int .u8 (q : Int)] 5)).alloc (.cells #[.bool false] 4)).alloc
    (.cells #[.int .u32 (b : Int)] 22)).alloc (.cells #[.int .i64 s] 3)).alloc (.cells #[.int .i64 m] 3)).alloc (.cells #[.int .i64 0] 3)
theorem riseW_size (w : World) (b h q : Nat) (s m : Int) : (riseW w b h q s m).heap.size = w.heap.size + 7 := by simp [riseW]
theorem riseW_below (w : World) (b h q : Nat) (s m : Int) : Below w.heap.size w (riseW w b h q s m) := by
  unfold riseW
  exact ((((((((Below.refl _ w).alloc (Nat.le_refl _) _).alloc (by simp) _).alloc (by simp; omega) _).alloc (by simp; omega) _).alloc (by simp; omega) _).alloc (by simp; omega) _).alloc (by simp; omega) _)
theorem cell_at {W : World} {B i : Nat} {vs : Array Value} {v : Value} {t : TypeId} (h : W.heap[B]? = some (.cells vs t (0, 0))) (hv : vs[i]? = some v) : W.cell? ⟨B, i, none⟩ = some v ∧ W.frozen? ⟨B, i, none⟩ = false := by
  constructor <;> simp [World.cell?, World.frozen?, h, hv]
theorem heap_keep {W : World} {l : Nat} {o x : Obj} (h : W.heap[l]? = some x) : (W.alloc o).heap[l]? = some x := (Below.heap_alloc W o l (Array.getElem?_eq_some_iff.1 h).1).trans h
theorem new_at {W : World} {o : Obj} {n : Nat} (hn : n = W.heap.size) : (W.alloc o).heap[n]? = some o := by subst hn; exact World.alloc_heap_new W o
theorem riseW_heap (w : World) (b h q : Nat) (s m : Int) :
    (riseW w b h q s m).heap[w.heap.size]? = some (.cells #[.int .u32 (b : Int), .int .u32 (h : Int), .int .i64 s, .int .i64 m] 24) ∧ (riseW w b h q s m).heap[w.heap.size + 1]? = some (.cells #[.int .u8 (q : Int)] 5) ∧
    (riseW w b h q s m).heap[w.heap.size + 2]? = some (.cells #[.bool false] 4) ∧ (riseW w b h q s m).heap[w.heap.size + 3]? = some (.cells #[.int .u32 (b : Int)] 22) ∧
    (riseW w b h q s m).heap[w.heap.size + 4]? = some (.cells #[.int .i64 s] 3) ∧ (riseW w b h q s m).heap[w.heap.size + 5]? = some (.cells #[.int .i64 m] 3) ∧
    (riseW w b h q s m).heap[w.heap.size + 6]? = some (.cells #[.int .i64 0] 3) := by
  unfold riseW
  exact ⟨heap_keep (heap_keep (heap_keep (heap_keep (heap_keep (heap_keep (new_at rfl)))))), heap_keep (heap_keep (heap_keep (heap_keep (heap_keep (new_at (by simp)))))), heap_keep (heap_keep (heap_keep (heap_keep (new_at (by simp))))),
    heap_keep (heap_keep (heap_keep (new_at (by simp)))), heap_keep (heap_keep (new_at (by simp))), heap_keep (new_at (by simp)), new_at (by simp)⟩
end Go.Proofs.Ytccpkafmbmkmfaa
