/- Package cipher's Encrypt and Decrypt of a nil cipher, and of one that no call made. No condition. -/
import Derived.Test.YtdeljodfanfbmaaCipherDec
namespace Go.Proofs.Ytdeljodfanfbmaa
open Go.RowKit Go.Shelf
set_option linter.unusedVariables false
set_option linter.unusedSimpArgs false
set_option maxRecDepth 100000 in
set_option maxHeartbeats 800000 in
theorem encrypt_nil (b : List (BitVec 8)) (V : Array Value) (hV : BVal b V) (w : World) :
    Calls Try.prog 35 #[.pointer none, .agg V] w fun e w' => e = .returned (.agg V) ∧ Below w.heap.size w w' := by
  obtain ⟨Z, hZ, hZv⟩ := zeroB
  obtain ⟨W0, hW0, sz, b0, b1, hB⟩ := blks2 w 46 46 V Z
  have Q0 := hide b0
  have Q1 := hide b1
  have HB := hide hB
  have HV := hide hV
  replace hZ := hide hZ
  replace hW0 := hide hW0
  replace hZv := hide hZv
  clear b0 b1 hB hV sz
  go_enter Try.func35, Try.ntmps35
  go_wp2_with (first
    | (refine wpList_alloc_is rfl 46 rfl Z hZ.out ?_; rw [hW0.out])
    | ((with_reducible show wpList _ _ _ (⟨_, .load 46 _, _, _, _, _⟩ :: _) _ _); refine wpList_load_row rfl 46 _ rfl w.heap.size rfl 46 V (0, 0) _ Q0.out Try.underlying46 rfl HV.out.info ?_)
    | ((with_reducible show wpList _ _ _ (⟨_, .store _ _ _, _, _, _, _⟩ :: _) _ _); refine wpList_store_row rfl 46 _ _ rfl (w.heap.size + 1) rfl V rfl 46 _ Q1.out HV.out.info (by rw [hZv.out.size, HV.out.size]) HV.out.one ?_))
  refine bodyPost_ret (v := .agg V) ?_ rfl ⟨rfl, ?_⟩
  · exact results_cell_row rfl _ _ (w.heap.size + 1) 46 V (0, 0) _ rfl (setRow_heap _ _ _ _ _ _ Q1.out) Try.underlying46 rfl HV.out.info
  · exact below_setRow HB.out (by omega) _
set_option maxRecDepth 100000 in
set_option maxHeartbeats 800000 in
theorem encrypt_blank (b : List (BitVec 8)) (V : Array Value) (hV : BVal b V) (g : Nat) (w : World) (hg : g < w.heap.size) (hc : w.cell? ⟨g, 240, none⟩ = some (.pointer none)) :
    Calls Try.prog 35 #[.pointer (some ⟨g, 0, none⟩), .agg V] w fun e w' => e = .returned (.agg V) ∧ Below w.heap.size w w' := by
  obtain ⟨Z, hZ, hZv⟩ := zeroB
  obtain ⟨W0, hW0, sz, b0, b1, hB⟩ := blks2 w 46 46 V Z
  have hc0 : W0.cell? ⟨g, 240, none⟩ = some (.pointer none) := (hB.cell (p := ⟨g, 240, none⟩) hg).trans hc
  have Q0 := hide b0
  have Q1 := hide b1
  have HB := hide hB
  have HV := hide hV
  replace hZ := hide hZ
  replace hW0 := hide hW0
  replace hZv := hide hZv
  clear b0 b1 hB hV sz
  go_enter Try.func35, Try.ntmps35
  go_wp2_with (first
    | (refine wpList_alloc_is rfl 46 rfl Z hZ.out ?_; rw [hW0.out])
    | ((with_reducible show wpList _ _ _ (⟨_, .load 46 _, _, _, _, _⟩ :: _) _ _); refine wpList_load_row rfl 46 _ rfl w.heap.size rfl 46 V (0, 0) _ Q0.out Try.underlying46 rfl HV.out.info ?_)
    | ((with_reducible show wpList _ _ _ (⟨_, .store _ _ _, _, _, _, _⟩ :: _) _ _); refine wpList_store_row rfl 46 _ _ rfl (w.heap.size + 1) rfl V rfl 46 _ Q1.out HV.out.info (by rw [hZv.out.size, HV.out.size]) HV.out.one ?_))
  refine bodyPost_ret (v := .agg V) ?_ rfl ⟨rfl, ?_⟩
  · exact results_cell_row rfl _ _ (w.heap.size + 1) 46 V (0, 0) _ rfl (setRow_heap _ _ _ _ _ _ Q1.out) Try.underlying46 rfl HV.out.info
  · exact below_setRow HB.out (by omega) _
set_option maxRecDepth 100000 in
set_option maxHeartbeats 800000 in
theorem decrypt_nil (b : List (BitVec 8)) (V : Array Value) (hV : BVal b V) (w : World) :
    Calls Try.prog 36 #[.pointer none, .agg V] w fun e w' => e = .returned (.agg V) ∧ Below w.heap.size w w' := by
  obtain ⟨Z, hZ, hZv⟩ := zeroB
  obtain ⟨W0, hW0, sz, b0, b1, hB⟩ := blks2 w 46 46 V Z
  have Q0 := hide b0
  have Q1 := hide b1
  have HB := hide hB
  have HV := hide hV
  replace hZ := hide hZ
  replace hW0 := hide hW0
  replace hZv := hide hZv
  clear b0 b1 hB hV sz
  go_enter Try.func36, Try.ntmps36
  go_wp2_with (first
    | (refine wpList_alloc_is rfl 46 rfl Z hZ.out ?_; rw [hW0.out])
    | ((with_reducible show wpList _ _ _ (⟨_, .load 46 _, _, _, _, _⟩ :: _) _ _); refine wpList_load_row rfl 46 _ rfl w.heap.size rfl 46 V (0, 0) _ Q0.out Try.underlying46 rfl HV.out.info ?_)
    | ((with_reducible show wpList _ _ _ (⟨_, .store _ _ _, _, _, _, _⟩ :: _) _ _); refine wpList_store_row rfl 46 _ _ rfl (w.heap.size + 1) rfl V rfl 46 _ Q1.out HV.out.info (by rw [hZv.out.size, HV.out.size]) HV.out.one ?_))
  refine bodyPost_ret (v := .agg V) ?_ rfl ⟨rfl, ?_⟩
  · exact results_cell_row rfl _ _ (w.heap.size + 1) 46 V (0, 0) _ rfl (setRow_heap _ _ _ _ _ _ Q1.out) Try.underlying46 rfl HV.out.info
  · exact below_setRow HB.out (by omega) _
set_option maxRecDepth 100000 in
set_option maxHeartbeats 800000 in
theorem decrypt_blank (b : List (BitVec 8)) (V : Array Value) (hV : BVal b V) (g : Nat) (w : World) (hg : g < w.heap.size) (hc : w.cell? ⟨g, 240, none⟩ = some (.pointer none)) :
    Calls Try.prog 36 #[.pointer (some ⟨g, 0, none⟩), .agg V] w fun e w' => e = .returned (.agg V) ∧ Below w.heap.size w w' := by
  obtain ⟨Z, hZ, hZv⟩ := zeroB
  obtain ⟨W0, hW0, sz, b0, b1, hB⟩ := blks2 w 46 46 V Z
  have hc0 : W0.cell? ⟨g, 240, none⟩ = some (.pointer none) := (hB.cell (p := ⟨g, 240, none⟩) hg).trans hc
  have Q0 := hide b0
  have Q1 := hide b1
  have HB := hide hB
  have HV := hide hV
  replace hZ := hide hZ
  replace hW0 := hide hW0
  replace hZv := hide hZv
  clear b0 b1 hB hV sz
  go_enter Try.func36, Try.ntmps36
  go_wp2_with (first
    | (refine wpList_alloc_is rfl 46 rfl Z hZ.out ?_; rw [hW0.out])
    | ((with_reducible show wpList _ _ _ (⟨_, .load 46 _, _, _, _, _⟩ :: _) _ _); refine wpList_load_row rfl 46 _ rfl w.heap.size rfl 46 V (0, 0) _ Q0.out Try.underlying46 rfl HV.out.info ?_)
    | ((with_reducible show wpList _ _ _ (⟨_, .store _ _ _, _, _, _, _⟩ :: _) _ _); refine wpList_store_row rfl 46 _ _ rfl (w.heap.size + 1) rfl V rfl 46 _ Q1.out HV.out.info (by rw [hZv.out.size, HV.out.size]) HV.out.one ?_))
  refine bodyPost_ret (v := .agg V) ?_ rfl ⟨rfl, ?_⟩
  · exact results_cell_row rfl _ _ (w.heap.size + 1) 46 V (0, 0) _ rfl (setRow_heap _ _ _ _ _ _ Q1.out) Try.underlying46 rfl HV.out.info
  · exact below_setRow HB.out (by omega) _
end Go.Proofs.Ytdeljodfanfbmaa
