/- The walks of package word: each function's contract but that of Left. No condition but that arguments fit their kinds. -/
import Derived.Test.YtccpkafmbmkmfaaWord
import Derived.Test.YtccpkafmbmkmfaaProg
namespace Go.Proofs.Ytccpkafmbmkmfaa
open Go.RowKit
set_option linter.unusedVariables false

theorem tmod32 (b : Int) : -32 < b.tmod 32 ∧ b.tmod 32 < 32 ∧ (b.tmod 32 - b) % 32 = 0 := by
  by_cases h : 0 ≤ b
  · rw [Int.tmod_eq_emod_of_nonneg h]; omega
  · have e : b.tmod 32 = -((-b).tmod 32) := by rw [Int.neg_tmod, Int.neg_neg]
    rw [e, Int.tmod_eq_emod_of_nonneg (by omega)]; omega
theorem rest_eq (b : Int) : IntKind.u64.wrap ((wrap64 (b.tmod 32 + 32)).tmod 32) = b % 32 := by
  have e := tmod32 b
  have h : wrap64 (b.tmod 32 + 32) = b.tmod 32 + 32 := IntWalk.wrap64_in _ (by omega)
  rw [h, Int.tmod_eq_emod_of_nonneg (by omega), IntWalk.u64_in _ (by omega)]
  omega
theorem rest_any (b : Int) (w : World) :
    Calls Try.prog 142 #[.int .i64 b] w fun e w' => e = .returned (.int .u64 (b % 32)) ∧ w = w' := by
  go_enter Try.func142, Try.ntmps142
  go_wp2
  go_ret
  exact ⟨by simp [rest_eq], rfl⟩
/-- the turn's number as a natural one -/
def turnN (b : Int) : Nat := (b % 32).toNat
theorem turnN_lt (b : Int) : turnN b < 32 := by unfold turnN; omega
theorem turnN_eq (b : Int) : b % 32 = (turnN b : Int) := by unfold turnN; omega
theorem rest_any' (b : Int) (w : World) :
    Calls Try.prog 142 #[.int .i64 b] w fun e w' => e = .returned (.int .u64 (turnN b : Int)) ∧ w = w' := by
  rw [← turnN_eq]; exact rest_any b w
theorem right_any (x : BitVec 32) (b : Int) (w : World) :
    Calls Try.prog 138 #[.int .u32 (x.toNat : Int), .int .i64 b] w fun e w' => e = .returned (.int .u32 ((rotr x (turnN b)).toNat : Int)) ∧ w = w' := by
  have hk := turnN_lt b
  go_enter Try.func138, Try.ntmps138
  go_wp2_with (go_at_call 142; refine (rest_any' b _).mono ?_; rintro e w' ⟨rfl, rfl⟩)
  go_ret
  exact ⟨ret_u32 (right_u32 x _), rfl⟩
theorem choose_any (x y z : BitVec 32) (w : World) :
    Calls Try.prog 139 #[.int .u32 (x.toNat : Int), .int .u32 (y.toNat : Int), .int .u32 (z.toNat : Int)] w fun e w' => e = .returned (.int .u32 ((choose x y z).toNat : Int)) ∧ w = w' := by
  go_enter Try.func139, Try.ntmps139
  go_wp2
  go_ret
  exact ⟨ret_u32 (choose_u32 x y z), rfl⟩
theorem majority_any (x y z : BitVec 32) (w : World) :
    Calls Try.prog 140 #[.int .u32 (x.toNat : Int), .int .u32 (y.toNat : Int), .int .u32 (z.toNat : Int)] w fun e w' => e = .returned (.int .u32 ((majority x y z).toNat : Int)) ∧ w = w' := by
  go_enter Try.func140, Try.ntmps140
  go_wp2
  go_ret
  exact ⟨ret_u32 (majority_u32 x y z), rfl⟩
end Go.Proofs.Ytccpkafmbmkmfaa
