/- Package hints at int keys: Has. No condition but that arguments fit their kinds. -/
import Derived.Test.YtccpkafmbmkmfaaHintsEachInt
import Derived.Test.YtccpkafmbmkmfaaBlks
namespace Go.Proofs.Ytccpkafmbmkmfaa.hInt
open Go.RowKit Go.Shelf
set_option linter.unusedVariables false
set_option linter.unusedSimpArgs false
attribute [local go_sem] Oper.semAt_some

/-- what holds cells from n0 on lies as it lay -/
def KpC (n0 : Nat) (A B : World) : Prop := ∀ (i : Nat) cs t fr, n0 ≤ i → A.heap[i]? = some (.cells cs t fr) → B.heap[i]? = A.heap[i]?
theorem KpC.refl (n0 : Nat) (A : World) : KpC n0 A A := fun _ _ _ _ _ _ => rfl
theorem KpC.trans {n0 : Nat} {A B C : World} (h : KpC n0 A B) (k : KpC n0 B C) : KpC n0 A C := fun i cs t fr hi hA => by
  have h1 := h i cs t fr hi hA
  exact (k i cs t fr hi (h1.trans hA)).trans h1
theorem KpC.book {n0 : Nat} {w : World} (W : World) (l : Nat) (o o' : Obj) (_ : w.heap.size ≤ l) (h : W.heap[l]? = some o) (hc : o.isCells = false) (_ : o.isWalk = false) : KpC n0 W (W.putObj l o') := fun i cs t fr hi hA => by
  refine World.putObj_heap_other ?_
  rintro rfl
  rw [hA] at h
  injection h with h
  subst h
  simp [Obj.isCells] at hc
set_option maxRecDepth 100000 in
set_option maxHeartbeats 1600000 in
theorem has_in (p : Option Addr) (k : Int) (v : Int) (xs : List Int) (hI : InI xs) (hxl : xs.length ≤ 1099511627776) (w : World) (hT : Tells (.pointer p) k xs w) :
    CallsIn Fence.wide 6 Try.prog 31 #[.pointer p, fk k, .int .i64 v] w fun e w' => e = .returned (.bool (decide (v ∈ xs))) ∧ Below w.heap.size w w' := by
  refine callsIn_of_wp_marks Try.func31 rfl trivial ?_ rfl
  simp only [Try.ntmps31, List.size_toArray, List.length_cons, List.length_nil, Nat.reduceAdd, Nat.reduceSub, Array.replicate_succ, Array.replicate_zero, List.push_toArray, List.append_toArray, List.nil_append, List.cons_append]
  refine wpIn_wide.2 ?_
  replace hT := hide hT
  replace hI := hide hI
  go_wp2_with (go_at_call 40; (with_reducible refine (each_any _ _ _).mono ?_); rintro e w' ⟨rfl, rfl⟩)
  obtain ⟨W0, hW0, sz, b1, b2, b3, b4, hB0⟩ := blks4 w 3 4 46 3 #[.int .i64 v] #[.bool false] #[.pointer p] #[fk k]
  change Code.wp _ _ _ _ ((((w.alloc (.cells #[.int .i64 v] 3)).alloc (.cells #[.bool false] 4)).alloc (.cells #[.pointer p] 46)).alloc (.cells #[fk k] 3))
  rw [hW0]
  have hT0 := hT.out.later hB0
  clear hW0
  refine (wpIn_wide (n := 6)).1 ?_
  refine wpIn_rangeFunc_ownF rfl (by omega) (gf := 80) (lb := #[.pointer (some ⟨w.heap.size + 2, 0, none⟩), .pointer (some ⟨w.heap.size + 3, 0, none⟩)]) rfl trivial (enters_of Try.func80 (by kernel_rfl) rfl)
    (each1_stops 5 (by omega) (w.heap.size + 2) (w.heap.size + 3) p k xs hI.out hxl (KpC W0.heap.size) W0 (fun A B h i cs t fr hi hA => h i cs t fr hi hA) (by omega) (by omega) ((b3.cell 0).trans rfl) ((b4.cell 0).trans rfl) hT0)
    KpC.trans KpC.book (Below.refl _ _) (fun _ => rfl)
    (fun pre W => Blk W w.heap.size 3 #[.int .i64 v] ∧ Blk W (w.heap.size + 1) 4 #[.bool false] ∧ v ∉ pre ∧ Below w.heap.size w W)
    (fun c pre W => (c = .ret ∧ v ∈ pre ∧ Blk W (w.heap.size + 1) 4 #[.bool true]) ∧ Below w.heap.size w W)
    ?hI ?hIx ?h0 ?a1 ?assign ?body ?done ?stop
  case hI => exact OwnFrom.and (ownFrom_blk (by omega)) (OwnFrom.and (ownFrom_blk (by omega)) (OwnFrom.and (fun _ _ _ _ h _ _ => h) (ownFrom_below (Nat.le_refl _) (by omega))))
  case hIx => exact fun c => OwnFrom.and (OwnFrom.and (fun _ _ _ _ h _ _ => h) (OwnFrom.and (fun _ _ _ _ h _ _ => h) (ownFrom_blk (by omega)))) (ownFrom_below (Nat.le_refl _) (by omega))
  case h0 => exact ⟨b1, b2, by simp, hB0⟩
  case assign =>
    intro l x W K hK
    gi_wp2
    exact hK
  case body =>
    clear b1 b2 b3 b4 hB0 hT0
    rintro l pre x W ⟨c1, c2, hP, hB⟩ hlen
    have k1 : W.cell? ⟨w.heap.size, 0, none⟩ = some (.int .i64 v) := (c1.cell 0).trans rfl
    have k2 : W.cell? ⟨w.heap.size + 1, 0, none⟩ = some (.bool false) := (c2.cell 0).trans rfl
    have f2 := c2.frozen 0
    have n2 := hide (c2.set_ 0 (.bool true))
    replace c1 := hide c1
    replace c2 := hide c2
    replace hP := hide hP
    replace hB := hide hB
    by_cases hx : x = v
    · subst hx
      have hx' : (x == x) = true := by simp
      gi_wp2
      refine ⟨KeepsOthers.setCell _ _ _, ⟨rfl, by simp, ?_⟩, hB.out.setCell (p := ⟨w.heap.size + 1, 0, none⟩) (by dsimp only; omega) _⟩
      simpa using n2.out
    · have hx' : (x == v) = false := by simpa using hx
      have HX := hide hx
      clear hx
      gi_wp2
      exact ⟨KeepsOthers.refl _, KpC.refl _ _, c1.out, c2.out, by
        intro hm
        rcases List.mem_append.1 hm with hm | hm
        · exact hP.out hm
        · simp at hm; exact HX.out hm.symm, hB.out⟩
  case stop =>
    clear b1 b2 b3 b4 hB0 hT0
    rintro D c pre W hD hsp ⟨⟨rfl, hm, c2⟩, hB⟩ hK
    have hmx : v ∈ xs := hsp.subset hm
    have hDs : D < W.heap.size := (Array.getElem?_eq_some_iff.1 hK).1
    have hput := grownBy_putObj' W D (.deferred none)
    have hc5 : (W.putObj D (.deferred none)).cell? ⟨w.heap.size + 1, 0, none⟩ = some (.bool true) := ((c2.grown hput (by intro e; cases e; omega)).cell 0).trans rfl
    replace c2 := hide c2
    replace hB := hide hB
    gi_wp2
    refine ⟨by simp, .inl ⟨_, _, rfl, run_takeDeferred hK, ?_⟩⟩
    refine ⟨.bool true, ?_, by rw [decide_eq_true hmx], hB.out.trans (belowK_b (w := w) (Nat.le_refl _) _ D _ _ (by omega) hK rfl rfl)⟩
    simp [results, Try.f31, go_sem, hc5]
  case done =>
    clear b1 b2 b3 b4 hB0 hT0
    rintro D ys W hD rfl ⟨c1, c2, hP, hB⟩ hK
    have hDs : D < W.heap.size := (Array.getElem?_eq_some_iff.1 hK).1
    have k2 : W.cell? ⟨w.heap.size + 1, 0, none⟩ = some (.bool false) := (c2.cell 0).trans rfl
    have f2 := c2.frozen 0
    have hK' := (KeepsOthers.setCell W ⟨w.heap.size + 1, 0, none⟩ (.bool false)).same D _ hK rfl
    have hput := grownBy_putObj' (W.setCell ⟨w.heap.size + 1, 0, none⟩ (.bool false)) D (.deferred none)
    have hc5 : ((W.setCell ⟨w.heap.size + 1, 0, none⟩ (.bool false)).putObj D (.deferred none)).cell? ⟨w.heap.size + 1, 0, none⟩ = some (.bool false) := (((c2.set_ 0 (.bool false)).grown hput (by intro e; cases e; omega)).cell 0).trans rfl
    replace c1 := hide c1
    replace c2 := hide c2
    replace hB := hide hB
    replace hK := hide hK
    replace hP := hide hP
    go_wp2
    refine ⟨by simp, .inl ⟨_, _, rfl, run_takeDeferred hK', ?_⟩⟩
    refine ⟨.bool false, ?_, by rw [decide_eq_false hP.out], (hB.out.setCell (p := ⟨w.heap.size + 1, 0, none⟩) (by dsimp only; omega) _).trans (belowK_b (w := w) (Nat.le_refl _) _ D _ _ (by omega) hK' rfl rfl)⟩
    simp [results, Try.f31, go_sem, hc5]
theorem has_any (p : Option Addr) (k : Int) (v : Int) (xs : List Int) (hI : InI xs) (hxl : xs.length ≤ 1099511627776) (w : World) (hT : Tells (.pointer p) k xs w) :
    Calls Try.prog 31 #[.pointer p, fk k, .int .i64 v] w fun e w' => e = .returned (.bool (decide (v ∈ xs))) ∧ Below w.heap.size w w' := callsIn_wide.1 (has_in p k v xs hI hxl w hT)
end Go.Proofs.Ytccpkafmbmkmfaa.hInt
