/- The walks of package word and of its reference: each function's contract. No condition but that arguments fit their kinds. -/
import Derived.Test.YtdeljodfanfbmaaWord
import Derived.Test.YtdeljodfanfbmaaProg
namespace Go.Proofs.Ytdeljodfanfbmaa
open Go.RowKit
set_option linter.unusedVariables false

theorem tmod32 (b : Int) : -32 < b.tmod 32 ∧ b.tmod 32 < 32 ∧ (b.tmod 32 - b) % 32 = 0 := by
  by_cases h : 0 ≤ b
  · rw [Int.tmod_eq_emod_of_nonneg h]; omega
  · have e : b.tmod 32 = -((-b).tmod 32) := by rw [Int.neg_tmod, Int.neg_neg]
    rw [e, Int.tmod_eq_emod_of_nonneg (by omega)]; omega
theorem rest_eq (b : Int) : IntKind.u64.wrap ((wrap64 (b.tmod 32 + 32)).tmod 32) = b % 32 := by
  have e := tmod32 b
  have h : wrap64 (b.tmod 32 + 32) = b.tmod 32 + 32 := IntWalk.wrap64_in _ (by omega)
  rw [h, Int.tmod_eq_emod_of_nonneg (by omega), IntWalk.u64_in _ (by omega)]
  omega
theorem rest_any (b : Int) (w : World) :
    Calls Try.prog 75 #[.int .i64 b] w fun e w' => e = .returned (.int .u64 (b % 32)) ∧ w = w' := by
  go_enter Try.func75, Try.ntmps75
  go_wp2
  go_ret
  exact ⟨by simp [rest_eq], rfl⟩
/-- the turn's number as a natural one -/
def turnN (b : Int) : Nat := (b % 32).toNat
theorem turnN_lt (b : Int) : turnN b < 32 := by unfold turnN; omega
theorem turnN_eq (b : Int) : b % 32 = (turnN b : Int) := by unfold turnN; omega
theorem rest_any' (b : Int) (w : World) :
    Calls Try.prog 75 #[.int .i64 b] w fun e w' => e = .returned (.int .u64 (turnN b : Int)) ∧ w = w' := by
  rw [← turnN_eq]; exact rest_any b w
theorem left_any (x : BitVec 32) (b : Int) (w : World) :
    Calls Try.prog 73 #[.int .u32 (x.toNat : Int), .int .i64 b] w fun e w' => e = .returned (.int .u32 ((rotl x (turnN b)).toNat : Int)) ∧ w = w' := by
  have hk := turnN_lt b
  go_enter Try.func73, Try.ntmps73
  go_wp2_with (go_at_call 75; refine (rest_any' b _).mono ?_; rintro e w' ⟨rfl, rfl⟩)
  go_ret
  exact ⟨ret_u32 (left_u32 x _), rfl⟩
end Go.Proofs.Ytdeljodfanfbmaa
