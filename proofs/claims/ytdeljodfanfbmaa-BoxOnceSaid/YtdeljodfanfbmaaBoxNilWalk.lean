/- The walk of miradorlaw05.BoxNil. No condition. -/
import Derived.Test.YtdeljodfanfbmaaBoxTellsWalk
import Derived.Test.YtdeljodfanfbmaaBlks
namespace Go.Proofs.Ytdeljodfanfbmaa
open Go.RowKit Go.Shelf
set_option linter.unusedVariables false
set_option linter.unusedSimpArgs false
attribute [local go_sem] Oper.semAt_some

theorem box_seq_nil (f : Nat) (c : Array Value) (W : World) : Sem.run Try.prog (binOp BinOp.eql 37 (.func (.func f) #[] c) .nilFunc) W = .ok (.bool false) W := by kernel_rfl
set_option maxRecDepth 100000 in
set_option maxHeartbeats 1600000 in
theorem boxNil_in (x n : Nat) (hx : x < 256) (hn : n < 4294967296) (w : World) :
    CallsIn Fence.wide 6 Try.prog 8 #[.int .u8 (x : Int), .int .u32 (n : Int)] w fun e w' => e = .returned (.bool true) ∧ Below w.heap.size w w' := by
  obtain ⟨Z, hZ, hz0, hz1⟩ : ∃ Z, Try.zeroCells43 = Z ∧ Z[0]? = some (.bool false) ∧ ∀ i, i < 512 → Z[1 + i]? = some (.int .u8 0) := ⟨_, rfl, by rw [zero_box]; simp, fun i hi => by rw [zero_box, Array.getElem?_append_right (by simp)]; simp [hi]⟩
  replace hz0 := hide hz0
  replace hz1 := hide hz1
  refine callsIn_of_wp_marks Try.func8 rfl trivial ?_ rfl
  simp only [Try.ntmps8, List.size_toArray, List.length_cons, List.length_nil, Nat.reduceAdd, Nat.reduceSub, Array.replicate_succ, Array.replicate_zero, List.push_toArray, List.append_toArray, List.nil_append, List.cons_append]
  have SN := box_seq_nil
  refine wpIn_wide.2 ?_
  go_wp2_with (go_at_call 33; with_reducible refine (all_any _ _).mono ?_; rintro e w' ⟨rfl, rfl⟩)
  clear SN hZ
  obtain ⟨W0, hW0⟩ : ∃ W0, (((w.alloc (.cells Z 43)).alloc (.cells #[.int .i64 0] 3)).alloc (.cells #[.pointer none] 31)).alloc (.cells #[.pointer (some ⟨w.heap.size, 0, none⟩)] 31) = W0 := ⟨_, rfl⟩
  have sz : W0.heap.size = w.heap.size + 4 := by rw [← hW0]; simp
  have b1 : Blk W0 w.heap.size 43 Z := by rw [← hW0]; exact (((Blk.new w _ Z).alloc _).alloc _).alloc _
  have b2 : Blk W0 (w.heap.size + 1) 3 #[.int .i64 0] := by
    rw [← hW0]
    have := Blk.new (w.alloc (.cells Z 43)) 3 #[.int .i64 0]
    rw [World.size_alloc] at this
    exact (this.alloc _).alloc _
  have b3 : Blk W0 (w.heap.size + 2) 31 #[.pointer none] := by
    rw [← hW0]
    have := Blk.new ((w.alloc (.cells Z 43)).alloc (.cells #[.int .i64 0] 3)) 31 #[.pointer none]
    rw [World.size_alloc, World.size_alloc] at this
    exact this.alloc _
  have b4 : Blk W0 (w.heap.size + 3) 31 #[.pointer (some ⟨w.heap.size, 0, none⟩)] := by
    rw [← hW0]
    have := Blk.new (((w.alloc (.cells Z 43)).alloc (.cells #[.int .i64 0] 3)).alloc (.cells #[.pointer none] 31)) 31 #[.pointer (some ⟨w.heap.size, 0, none⟩)]
    rw [World.size_alloc, World.size_alloc, World.size_alloc] at this
    exact this
  have hB0 : Below w.heap.size w W0 := by
    rw [← hW0]
    exact ((((Below.refl _ w).alloc (Nat.le_refl _) _).alloc (by simp) _).alloc (by simp; omega) _).alloc (by simp; omega) _
  change Code.wp _ _ _ _ ((((w.alloc (.cells Z 43)).alloc (.cells #[.int .i64 0] 3)).alloc (.cells #[.pointer none] 31)).alloc (.cells #[.pointer (some ⟨w.heap.size, 0, none⟩)] 31))
  rw [hW0]
  clear hW0
  refine (wpIn_wide (n := 6)).1 ?_
  refine wpIn_rangeFunc_ownF rfl (by omega) (gf := 57) (lb := #[.pointer (some ⟨w.heap.size + 2, 0, none⟩)]) rfl trivial (enters_of Try.func57 (by kernel_rfl) rfl)
    (all_none 5 (by omega) (w.heap.size + 2) (fun _ _ => True) (byteRow sub) W0 (by omega) ((b3.cell 0).trans rfl))
    (fun _ _ => trivial) (fun _ _ _ _ _ _ _ _ => trivial) (Below.refl _ _) (fun _ => rfl)
    (fun pre W => Blk W w.heap.size 43 Z ∧ Blk W (w.heap.size + 1) 3 #[.int .i64 0] ∧ Blk W (w.heap.size + 3) 31 #[.pointer (some ⟨w.heap.size, 0, none⟩)] ∧ Below w.heap.size w W)
    (fun c pre W => False)
    ?hI ?hIx ?h0 ?a1 ?assign ?body ?done ?stop
  case hI => exact OwnFrom.and (ownFrom_blk (by omega)) (OwnFrom.and (ownFrom_blk (by omega)) (OwnFrom.and (ownFrom_blk (by omega)) (ownFrom_below (Nat.le_refl _) (by omega))))
  case hIx => exact fun c s A B row hs hg hr => hs
  case h0 => exact ⟨b1, b2, b4, hB0⟩
  case assign =>
    intro l x W K hK
    gi_wp2
    exact hK
  case body => exact fun l pre x W _ h => absurd h (by omega)
  case stop => exact fun D c pre W _ h => h.elim
  case done =>
    clear b1 b2 b3 b4 hB0
    rintro D1 xs W1 hD1 _ ⟨b1, b2, b4, hB1⟩ hK1
    have sz1 : w.heap.size + 4 ≤ D1 := by omega
    have sz2 : D1 < W1.heap.size := (Array.getElem?_eq_some_iff.1 hK1).1
    clear sz hD1
    replace b1 := hide b1
    replace b2 := hide b2
    replace hK1 := hide hK1
    go_wp2
    refine (wpIn_wide (n := 6)).1 ?_
    refine wpIn_rangeFunc_ownF rfl (by omega) (gf := 57) (lb := #[.pointer (some ⟨w.heap.size + 3, 0, none⟩)]) rfl trivial (enters_of Try.func57 (by kernel_rfl) rfl)
      (all_blank 5 (by omega) (w.heap.size + 3) w.heap.size (fun _ _ => True) (byteRow sub) W1 (by omega) (by omega) ((b4.cell 0).trans rfl) ((b1.out.cell 0).trans hz0.out))
      (fun _ _ => trivial) (fun _ _ _ _ _ _ _ _ => trivial) (Below.refl _ _) (fun _ => rfl)
      (fun pre W => Blk W w.heap.size 43 Z ∧ Blk W (w.heap.size + 1) 3 #[.int .i64 0] ∧ W.heap[D1]? = some (.deferred (some [])) ∧ Below w.heap.size w W)
      (fun c pre W => False)
      ?hI2 ?hIx2 ?h02 ?a2 ?assign2 ?body2 ?done2 ?stop2
    case hI2 => exact OwnFrom.and (ownFrom_blk (by omega)) (OwnFrom.and (ownFrom_blk (by omega)) (OwnFrom.and (ownFrom_heap (by omega)) (ownFrom_below (Nat.le_refl _) (by omega))))
    case hIx2 => exact fun c s A B row hs hg hr => hs
    case h02 => exact ⟨b1.out, b2.out, hK1.out, hB1⟩
    case assign2 =>
      intro l x W K hK
      gi_wp2
      exact hK
    case body2 => exact fun l pre x W _ h => absurd h (by omega)
    case stop2 => exact fun D c pre W _ h => h.elim
    case done2 =>
      clear b1 b2 b4 hB1 hK1
      rintro D2 xs W2 hD2 _ ⟨b1, b2, hK1, hB2⟩ hK2
      have hc := (b2.cell 0).trans rfl
      have hbl : ∀ i, i < 256 → W2.cell? ⟨w.heap.size, 1 + i, none⟩ = some (.int .u8 0) := fun i hi => (b1.cell (1 + i)).trans (hz1.out i (by omega))
      have hbk : W2.cell? ⟨w.heap.size, 257 + x, none⟩ = some (.int .u8 0) := (b1.cell (257 + x)).trans (by have := hz1.out (256 + x) (by omega); rw [← this]; congr 1; omega)
      have C1 := hide (sub_nil x W2)
      have C2 := hide (back_nil x W2)
      have C3 := hide (sub_cell w.heap.size x _ hx W2 (hbl x hx))
      have C4 := hide (back_cell w.heap.size x _ hx W2 hbk)
      have C5 := hide (word_nil n hn W2)
      have C6 := hide (word_blank w.heap.size n hn W2 hbl)
      replace hK1 := hide hK1
      replace hK2 := hide hK2
      clear hbl hbk b1 b2
      go_wp2_with (first
        | (go_at_call 26; (first | with_reducible refine C1.out.mono ?_ | with_reducible refine C3.out.mono ?_); rintro e w' ⟨rfl, rfl⟩)
        | (go_at_call 28; (first | with_reducible refine C2.out.mono ?_ | with_reducible refine C4.out.mono ?_); rintro e w' ⟨rfl, rfl⟩)
        | (go_at_call 30; (first | with_reducible refine C5.out.mono ?_ | with_reducible refine C6.out.mono ?_); rintro e w' ⟨rfl, rfl⟩)
        | (go_at_call 32; with_reducible refine (alive05_any _).mono ?_; rintro e w3 ⟨rfl, hB3⟩))
      have k2 : D2 < W2.heap.size := (Array.getElem?_eq_some_iff.1 hK2.out).1
      have k1 : D1 < W2.heap.size := (Array.getElem?_eq_some_iff.1 hK1.out).1
      have e2 := (hB3.block D2 k2).trans hK2.out
      have e1 := (hB3.block D1 k1).trans hK1.out
      have e1' : (w3.putObj D2 (.deferred none)).heap[D1]? = some (.deferred (some [])) := (World.putObj_heap_other (by omega)).trans e1
      refine ⟨by simp, .inl ⟨_, _, rfl, run_takeDeferred e2, ⟨by simp, .inl ⟨_, _, rfl, run_takeDeferred e1', ?_⟩⟩⟩⟩
      refine ⟨_, results_tmp rfl _ _ _, rfl, ?_⟩
      have q2 : Below w.heap.size w w3 := hB2.trans (hB3.mono hB2.size)
      have q3 := q2.trans (belowK_b (w := w) (Nat.le_refl _) w3 D2 _ (.deferred none) (by omega) e2 rfl rfl)
      exact q3.trans (belowK_b (w := w) (Nat.le_refl _) _ D1 _ (.deferred none) (by omega) e1' rfl rfl)
theorem boxNil_walk (w : World) (x0 : BitVec 8) (x1 : BitVec 32) :
    Calls Try.prog 8 #[.int .u8 (x0.toNat : Int), .int .u32 (x1.toNat : Int)] w fun e w' => e = .returned (.bool true) ∧ Below w.heap.size w w' :=
  callsIn_wide.1 (boxNil_in x0.toNat x1.toNat x0.isLt x1.isLt w)
end Go.Proofs.Ytdeljodfanfbmaa
