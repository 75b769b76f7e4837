/- The walks of package sha's small functions: the sum of three, the constants, the start. No condition. -/
import Derived.Test.YtccpkafmbmkmfaaSha
import Derived.Test.YtccpkafmbmkmfaaInfo
import Derived.Test.YtccpkafmbmkmfaaArr
import Derived.Test.YtccpkafmbmkmfaaBlks
import Derived.Laws.CopyOwn
namespace Go.Proofs.Ytccpkafmbmkmfaa
open Go.RowKit
set_option linter.unusedVariables false

theorem xor_any (x y z : BitVec 32) (w : World) :
    Calls Try.prog 137 #[.int .u32 (x.toNat : Int), .int .u32 (y.toNat : Int), .int .u32 (z.toNat : Int)] w fun e w' => e = .returned (.int .u32 ((x ^^^ y ^^^ z).toNat : Int)) ∧ w = w' := by
  go_enter Try.func137, Try.ntmps137
  go_wp2
  go_ret
  exact ⟨ret_u32 (by rw [xor_u32, xor_u32]), rfl⟩
theorem info_k : (Try.prog.info? 179).map (·.size) = some (shaK.map c32).toArray.size := by kernel_rfl
theorem oneCell_words (l : List (BitVec 32)) : (l.map c32).toArray.all (·.oneCell') = true := by
  rw [Array.all_eq_true_iff_forall_mem]
  intro v hv
  obtain ⟨x, _, rfl⟩ := List.mem_map.1 (by simpa using hv : v ∈ l.map c32)
  rfl
theorem oneCell_bytes (l : List (BitVec 8)) : (l.map c8).toArray.all (·.oneCell') = true := by
  rw [Array.all_eq_true_iff_forall_mem]
  intro v hv
  obtain ⟨x, _, rfl⟩ := List.mem_map.1 (by simpa using hv : v ∈ l.map c8)
  rfl
theorem zero_k : ∃ Z : Array Value, (Try.prog.info? 179).map (·.zero) = some (some (.agg Z)) ∧ Z.size = 64 ∧ Z = (List.replicate 64 (c32 0)).toArray := ⟨(List.replicate 64 (c32 0)).toArray, by kernel_rfl, rfl, rfl⟩
theorem zero_s : ∃ Z : Array Value, (Try.prog.info? 172).map (·.zero) = some (some (.agg Z)) ∧ Z.size = 8 := ⟨(List.replicate 8 (c32 0)).toArray, by kernel_rfl, rfl⟩
theorem info_s : (Try.prog.info? 172).map (·.size) = some 8 := by kernel_rfl
set_option maxRecDepth 100000 in
theorem starts_any (w : World) :
    Calls Try.prog 129 #[] w fun e w' => e = .returned (.agg (shaH.list.map c32).toArray) ∧ Below w.heap.size w w' := by
  obtain ⟨Z, hZ, hs⟩ := zero_s
  replace hs := hide hs
  replace hZ := hide hZ
  obtain ⟨H, hH⟩ : ∃ H, H = (shaH.list.map c32).toArray := ⟨_, rfl⟩
  have hHs : H.size = 8 := by rw [hH]; rfl
  have h1 := hide (show H.all (·.oneCell') = true by rw [hH]; exact oneCell_words _)
  rw [← hH]
  replace hHs := hide hHs
  replace hH := hide hH
  go_enter Try.func129, Try.ntmps129
  go_wp2_with (first
    | (refine wpList_alloc_is rfl 172 rfl Z hZ.out ?_)
    | (refine wpList_build_is rfl 172 _ rfl H (by rw [hH.out]; kernel_rfl) ?_)
    | (refine wpList_store_row rfl 172 _ _ rfl w.heap.size rfl H rfl 172 Z (heap_alloc_last _ _) (by rw [hHs.out]; exact info_s) (by rw [hs.out, hHs.out]) h1.out ?_))
  refine bodyPost_ret (v := .agg H) ?_ rfl ⟨rfl, ?_⟩
  · exact results_cell_row rfl _ _ w.heap.size 172 H (0, 0) _ rfl (setRow_heap _ _ _ _ _ _ (heap_alloc_last _ _)) Try.underlying172 rfl (by rw [hHs.out]; exact info_s)
  · exact below_setRow ((Below.refl _ w).alloc (Nat.le_refl _) _) (Nat.le_refl _) _
set_option maxRecDepth 100000 in
theorem constants_any (w : World) :
    Calls Try.prog 135 #[] w fun e w' => e = .returned (.agg (shaK.map c32).toArray) ∧ Below w.heap.size w w' := by
  obtain ⟨Z, hZ, hs, _⟩ := zero_k
  replace hs := hide hs
  replace hZ := hide hZ
  obtain ⟨H, hH⟩ : ∃ H, H = (shaK.map c32).toArray := ⟨_, rfl⟩
  have HI : Hid ((Try.prog.info? 179).map (·.size) = some H.size) := hide (by rw [hH]; exact info_k)
  have hHs : H.size = 64 := by rw [hH]; rfl
  have h1 := hide (show H.all (·.oneCell') = true by rw [hH]; exact oneCell_words _)
  rw [← hH]
  replace hHs := hide hHs
  replace hH := hide hH
  go_enter Try.func135, Try.ntmps135
  go_wp2_with (first
    | (refine wpList_alloc_is rfl 179 rfl Z hZ.out ?_)
    | (refine wpList_build_is rfl 179 _ rfl H (by rw [hH.out]; kernel_rfl) ?_)
    | (refine wpList_store_row rfl 179 _ _ rfl w.heap.size rfl H rfl 179 Z (heap_alloc_last _ _) HI.out (by rw [hs.out, hHs.out]) h1.out ?_))
  refine bodyPost_ret (v := .agg H) ?_ rfl ⟨rfl, ?_⟩
  · exact results_cell_row rfl _ _ w.heap.size 179 H (0, 0) _ rfl (setRow_heap _ _ _ _ _ _ (heap_alloc_last _ _)) Try.underlying179 rfl HI.out
  · exact below_setRow ((Below.refl _ w).alloc (Nat.le_refl _) _) (Nat.le_refl _) _
end Go.Proofs.Ytccpkafmbmkmfaa
