/- Package cipher's Mix and Unmix. No condition. -/
import Derived.Test.YtdeljodfanfbmaaCipherBy
namespace Go.Proofs.Ytdeljodfanfbmaa
open Go.RowKit
set_option linter.unusedVariables false
set_option linter.unusedSimpArgs false

set_option maxRecDepth 100000 in
set_option maxHeartbeats 800000 in
theorem cmix_any (col : List (BitVec 8)) (V : Array Value) (hV : CVal col V) (w : World) :
    Calls Try.prog 40 #[.agg V] w fun e w' => e = .returned (.agg ((byC mixRow col).map c8).toArray) ∧ Below w.heap.size w w' := by
  obtain ⟨Z, hZ, hZv⟩ := zeroC
  obtain ⟨W0, hW0, sz, b0, b1, hB⟩ := blks2 w 63 63 V Z
  obtain ⟨K, hK⟩ := cVal mixRow rfl
  obtain ⟨R, hR⟩ := cVal (byC mixRow col) (byC_len _ _)
  have HVi := hide hV.info
  have HK : Hid (Try.prog.built 63 [(0, .int .u8 2), (1, .int .u8 3), (2, .int .u8 1), (3, .int .u8 1)] = some K) := hide (by rw [hK.val]; kernel_rfl)
  have HC := hide (by_any mixRow col V K hV hK W0)
  rw [← hR.val] at HC ⊢
  have HRi := hide hR.info
  have HRo := hide hR.one
  have HZs : Hid (Z.size = R.size) := hide (by rw [hZv.size, hR.size])
  have HB := hide hB
  have Q0 := hide b0
  have Q1 := hide b1
  replace hZ := hide hZ
  replace hW0 := hide hW0
  clear hV hK hR hZv hB b0 b1
  go_enter Try.func40, Try.ntmps40
  go_wp2_with (first
    | (refine wpList_alloc_is rfl 63 rfl Z hZ.out ?_)
    | (rw [hW0.out]; (with_reducible show wpList _ _ _ (⟨_, .load _ _, _, _, _, _⟩ :: _) _ _); refine wpList_load_row rfl 63 _ rfl w.heap.size rfl 63 V (0, 0) _ Q0.out Try.underlying63 rfl HVi.out ?_)
    | ((with_reducible show wpList _ _ _ (⟨_, .build _ _, _, _, _, _⟩ :: _) _ _); refine wpList_build_is rfl 63 _ rfl K (by exact HK.out) ?_)
    | (go_at_call 69; (with_reducible refine HC.out.mono ?_); rintro e w1 ⟨rfl, hb1⟩; have B1 := hide hb1; have K1 := hide (Q1.out.below hb1 (by omega)); have B2 := hide (HB.out.trans (hb1.mono (by omega))); clear hb1)
    | ((with_reducible show wpList _ _ _ (⟨_, .store _ _ _, _, _, _, _⟩ :: _) _ _); refine wpList_store_row rfl 63 _ _ rfl (w.heap.size + 1) rfl R rfl 63 _ K1.out HRi.out HZs.out HRo.out ?_))
  refine bodyPost_ret (v := .agg R) ?_ rfl ⟨rfl, ?_⟩
  · exact results_cell_row rfl _ _ (w.heap.size + 1) 63 R (0, 0) _ rfl (setRow_heap _ _ _ _ _ _ K1.out) Try.underlying63 rfl HRi.out
  · exact below_setRow B2.out (by omega) _
set_option maxRecDepth 100000 in
set_option maxHeartbeats 800000 in
theorem cunmix_any (col : List (BitVec 8)) (V : Array Value) (hV : CVal col V) (w : World) :
    Calls Try.prog 42 #[.agg V] w fun e w' => e = .returned (.agg ((byC unRow col).map c8).toArray) ∧ Below w.heap.size w w' := by
  obtain ⟨Z, hZ, hZv⟩ := zeroC
  obtain ⟨W0, hW0, sz, b0, b1, hB⟩ := blks2 w 63 63 V Z
  obtain ⟨K, hK⟩ := cVal unRow rfl
  obtain ⟨R, hR⟩ := cVal (byC unRow col) (byC_len _ _)
  have HVi := hide hV.info
  have HK : Hid (Try.prog.built 63 [(0, .int .u8 14), (1, .int .u8 11), (2, .int .u8 13), (3, .int .u8 9)] = some K) := hide (by rw [hK.val]; kernel_rfl)
  have HC := hide (by_any unRow col V K hV hK W0)
  rw [← hR.val] at HC ⊢
  have HRi := hide hR.info
  have HRo := hide hR.one
  have HZs : Hid (Z.size = R.size) := hide (by rw [hZv.size, hR.size])
  have HB := hide hB
  have Q0 := hide b0
  have Q1 := hide b1
  replace hZ := hide hZ
  replace hW0 := hide hW0
  clear hV hK hR hZv hB b0 b1
  go_enter Try.func42, Try.ntmps42
  go_wp2_with (first
    | (refine wpList_alloc_is rfl 63 rfl Z hZ.out ?_)
    | (rw [hW0.out]; (with_reducible show wpList _ _ _ (⟨_, .load _ _, _, _, _, _⟩ :: _) _ _); refine wpList_load_row rfl 63 _ rfl w.heap.size rfl 63 V (0, 0) _ Q0.out Try.underlying63 rfl HVi.out ?_)
    | ((with_reducible show wpList _ _ _ (⟨_, .build _ _, _, _, _, _⟩ :: _) _ _); refine wpList_build_is rfl 63 _ rfl K (by exact HK.out) ?_)
    | (go_at_call 69; (with_reducible refine HC.out.mono ?_); rintro e w1 ⟨rfl, hb1⟩; have B1 := hide hb1; have K1 := hide (Q1.out.below hb1 (by omega)); have B2 := hide (HB.out.trans (hb1.mono (by omega))); clear hb1)
    | ((with_reducible show wpList _ _ _ (⟨_, .store _ _ _, _, _, _, _⟩ :: _) _ _); refine wpList_store_row rfl 63 _ _ rfl (w.heap.size + 1) rfl R rfl 63 _ K1.out HRi.out HZs.out HRo.out ?_))
  refine bodyPost_ret (v := .agg R) ?_ rfl ⟨rfl, ?_⟩
  · exact results_cell_row rfl _ _ (w.heap.size + 1) 63 R (0, 0) _ rfl (setRow_heap _ _ _ _ _ _ K1.out) Try.underlying63 rfl HRi.out
  · exact below_setRow B2.out (by omega) _
end Go.Proofs.Ytdeljodfanfbmaa
