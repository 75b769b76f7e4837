/- The walk of the law WordTurns: it returns true. No condition. -/
import Derived.Test.YtdikknfdgpdenaaWordBytes
namespace Go.Proofs.Ytdikknfdgpdenaa
open Go.RowKit
set_option linter.unusedVariables false
theorem wordTurns_walk (w : World) (x0 : BitVec 32) (x1 : Int) (l1 : -9223372036854775808 ≤ x1) (u1 : x1 ≤ 9223372036854775807) :
    Calls Try.prog 4 #[.int .u32 (x0.toNat : Int), .int .i64 x1] w fun e w' => e = .returned (.bool true) ∧ Below w.heap.size w w' := by
  go_enter Try.func4, Try.ntmps4
  have e1 := rotl_rotr x0 (turnN x1) (turnN_lt x1)
  have e2 := rotr_rotl x0 (turnN x1) (turnN_lt x1)
  go_wp2_with (first
    | (go_at_call 19; refine (left_any _ _ _).mono ?_; rintro e w' ⟨rfl, rfl⟩)
    | (go_at_call 21; refine (right_any _ _ _).mono ?_; rintro e w' ⟨rfl, rfl⟩)
    | (go_at_call 22; refine (refleft_any _ _ _).mono ?_; rintro e w' ⟨rfl, rfl⟩)
    | (go_at_call 23; refine (refright_any _ _ _).mono ?_; rintro e w' ⟨rfl, rfl⟩)
    | (go_at_call 20; refine (alive01_any _).mono ?_; rintro e w' ⟨rfl, hb⟩))
  go_ret
  exact ⟨rfl, hb⟩
end Go.Proofs.Ytdikknfdgpdenaa
