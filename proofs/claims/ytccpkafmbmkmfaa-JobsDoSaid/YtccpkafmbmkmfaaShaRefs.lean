/- Chapter 02's reference: a word turned, the constants, the start. No condition. -/
import Derived.Test.YtccpkafmbmkmfaaShaConst
namespace Go.Proofs.Ytccpkafmbmkmfaa
open Go.RowKit
set_option linter.unusedVariables false
set_option linter.unusedSimpArgs false

theorem refright_2 (x : BitVec 32) (w : World) :
    Calls Try.prog 123 #[.int .u32 (x.toNat : Int), .int .i64 2] w fun e w' => e = .returned (.int .u32 ((rotr x 2).toNat : Int)) ∧ ∃ n, w' = w.drewN n := by
  have HE : Hid (bits .or .u32 ((x.toNat : Int) / 4) ((x.toNat : Int) * 1073741824 % 4294967296) = ((rotr x 2).toNat : Int)) := hide (right_u32 x 2)
  go_enter Try.func123, Try.ntmps123
  go_wp2
  go_quiet (fail)
  go_wp2
  go_ret
  exact ⟨ret_u32 HE.out, _, rfl⟩
theorem refright_6 (x : BitVec 32) (w : World) :
    Calls Try.prog 123 #[.int .u32 (x.toNat : Int), .int .i64 6] w fun e w' => e = .returned (.int .u32 ((rotr x 6).toNat : Int)) ∧ ∃ n, w' = w.drewN n := by
  have HE : Hid (bits .or .u32 ((x.toNat : Int) / 64) ((x.toNat : Int) * 67108864 % 4294967296) = ((rotr x 6).toNat : Int)) := hide (right_u32 x 6)
  go_enter Try.func123, Try.ntmps123
  go_wp2
  go_quiet (fail)
  go_wp2
  go_ret
  exact ⟨ret_u32 HE.out, _, rfl⟩
theorem refright_7 (x : BitVec 32) (w : World) :
    Calls Try.prog 123 #[.int .u32 (x.toNat : Int), .int .i64 7] w fun e w' => e = .returned (.int .u32 ((rotr x 7).toNat : Int)) ∧ ∃ n, w' = w.drewN n := by
  have HE : Hid (bits .or .u32 ((x.toNat : Int) / 128) ((x.toNat : Int) * 33554432 % 4294967296) = ((rotr x 7).toNat : Int)) := hide (right_u32 x 7)
  go_enter Try.func123, Try.ntmps123
  go_wp2
  go_quiet (fail)
  go_wp2
  go_ret
  exact ⟨ret_u32 HE.out, _, rfl⟩
theorem refright_11 (x : BitVec 32) (w : World) :
    Calls Try.prog 123 #[.int .u32 (x.toNat : Int), .int .i64 11] w fun e w' => e = .returned (.int .u32 ((rotr x 11).toNat : Int)) ∧ ∃ n, w' = w.drewN n := by
  have HE : Hid (bits .or .u32 ((x.toNat : Int) / 2048) ((x.toNat : Int) * 2097152 % 4294967296) = ((rotr x 11).toNat : Int)) := hide (right_u32 x 11)
  go_enter Try.func123, Try.ntmps123
  go_wp2
  go_quiet (fail)
  go_wp2
  go_ret
  exact ⟨ret_u32 HE.out, _, rfl⟩
theorem refright_13 (x : BitVec 32) (w : World) :
    Calls Try.prog 123 #[.int .u32 (x.toNat : Int), .int .i64 13] w fun e w' => e = .returned (.int .u32 ((rotr x 13).toNat : Int)) ∧ ∃ n, w' = w.drewN n := by
  have HE : Hid (bits .or .u32 ((x.toNat : Int) / 8192) ((x.toNat : Int) * 524288 % 4294967296) = ((rotr x 13).toNat : Int)) := hide (right_u32 x 13)
  go_enter Try.func123, Try.ntmps123
  go_wp2
  go_quiet (fail)
  go_wp2
  go_ret
  exact ⟨ret_u32 HE.out, _, rfl⟩
theorem refright_17 (x : BitVec 32) (w : World) :
    Calls Try.prog 123 #[.int .u32 (x.toNat : Int), .int .i64 17] w fun e w' => e = .returned (.int .u32 ((rotr x 17).toNat : Int)) ∧ ∃ n, w' = w.drewN n := by
  have HE : Hid (bits .or .u32 ((x.toNat : Int) / 131072) ((x.toNat : Int) * 32768 % 4294967296) = ((rotr x 17).toNat : Int)) := hide (right_u32 x 17)
  go_enter Try.func123, Try.ntmps123
  go_wp2
  go_quiet (fail)
  go_wp2
  go_ret
  exact ⟨ret_u32 HE.out, _, rfl⟩
theorem refright_18 (x : BitVec 32) (w : World) :
    Calls Try.prog 123 #[.int .u32 (x.toNat : Int), .int .i64 18] w fun e w' => e = .returned (.int .u32 ((rotr x 18).toNat : Int)) ∧ ∃ n, w' = w.drewN n := by
  have HE : Hid (bits .or .u32 ((x.toNat : Int) / 262144) ((x.toNat : Int) * 16384 % 4294967296) = ((rotr x 18).toNat : Int)) := hide (right_u32 x 18)
  go_enter Try.func123, Try.ntmps123
  go_wp2
  go_quiet (fail)
  go_wp2
  go_ret
  exact ⟨ret_u32 HE.out, _, rfl⟩
theorem refright_19 (x : BitVec 32) (w : World) :
    Calls Try.prog 123 #[.int .u32 (x.toNat : Int), .int .i64 19] w fun e w' => e = .returned (.int .u32 ((rotr x 19).toNat : Int)) ∧ ∃ n, w' = w.drewN n := by
  have HE : Hid (bits .or .u32 ((x.toNat : Int) / 524288) ((x.toNat : Int) * 8192 % 4294967296) = ((rotr x 19).toNat : Int)) := hide (right_u32 x 19)
  go_enter Try.func123, Try.ntmps123
  go_wp2
  go_quiet (fail)
  go_wp2
  go_ret
  exact ⟨ret_u32 HE.out, _, rfl⟩
theorem refright_22 (x : BitVec 32) (w : World) :
    Calls Try.prog 123 #[.int .u32 (x.toNat : Int), .int .i64 22] w fun e w' => e = .returned (.int .u32 ((rotr x 22).toNat : Int)) ∧ ∃ n, w' = w.drewN n := by
  have HE : Hid (bits .or .u32 ((x.toNat : Int) / 4194304) ((x.toNat : Int) * 1024 % 4294967296) = ((rotr x 22).toNat : Int)) := hide (right_u32 x 22)
  go_enter Try.func123, Try.ntmps123
  go_wp2
  go_quiet (fail)
  go_wp2
  go_ret
  exact ⟨ret_u32 HE.out, _, rfl⟩
theorem refright_25 (x : BitVec 32) (w : World) :
    Calls Try.prog 123 #[.int .u32 (x.toNat : Int), .int .i64 25] w fun e w' => e = .returned (.int .u32 ((rotr x 25).toNat : Int)) ∧ ∃ n, w' = w.drewN n := by
  have HE : Hid (bits .or .u32 ((x.toNat : Int) / 33554432) ((x.toNat : Int) * 128 % 4294967296) = ((rotr x 25).toNat : Int)) := hide (right_u32 x 25)
  go_enter Try.func123, Try.ntmps123
  go_wp2
  go_quiet (fail)
  go_wp2
  go_ret
  exact ⟨ret_u32 HE.out, _, rfl⟩
set_option maxRecDepth 100000 in
theorem refstarts_any (w : World) : Calls Try.prog 114 #[] w fun e w' => e = .returned (.slice (some ⟨w.heap.size, 0, none⟩) 8 8) ∧ w' = w.alloc (.cells (shaH.list.map c32).toArray 22) := by
  go_enter Try.func114, Try.ntmps114
  go_wp2
  go_ret
  exact ⟨rfl, rfl⟩
set_option maxRecDepth 100000 in
theorem refconstants_any (w : World) : Calls Try.prog 124 #[] w fun e w' => e = .returned (.slice (some ⟨w.heap.size, 0, none⟩) 64 64) ∧ w' = w.alloc (.cells (shaK.map c32).toArray 22) := by
  go_enter Try.func124, Try.ntmps124
  go_wp2
  go_ret
  exact ⟨rfl, rfl⟩
end Go.Proofs.Ytccpkafmbmkmfaa
