/- The walk of the law WordPicks: it returns true. No condition. -/
import Derived.Test.YtdikknfdgpdenaaWordBytes
namespace Go.Proofs.Ytdikknfdgpdenaa
open Go.RowKit
set_option linter.unusedVariables false
theorem turnN7 : turnN 7 = 7 := by decide
theorem wordPicks_walk (w : World) (x0 : BitVec 32) (x1 : BitVec 32) (x2 : BitVec 32) :
    Calls Try.prog 3 #[.int .u32 (x0.toNat : Int), .int .u32 (x1.toNat : Int), .int .u32 (x2.toNat : Int)] w fun e w' => e = .returned (.bool true) ∧ Below w.heap.size w w' := by
  go_enter Try.func3, Try.ntmps3
  have e1 := majority_turn x0 x1 x2
  have e2 := choose_rotl x0 x1 x2 7 (by omega)
  have e3 := choose_same x0 x1
  have e4 := turnN7
  go_wp2_with (first
    | (go_at_call 19; refine (left_any _ _ _).mono ?_; rintro e w' ⟨rfl, rfl⟩)
    | (go_at_call 15; refine (choose_any _ _ _ _).mono ?_; rintro e w' ⟨rfl, rfl⟩)
    | (go_at_call 16; refine (majority_any _ _ _ _).mono ?_; rintro e w' ⟨rfl, rfl⟩)
    | (go_at_call 17; refine (refchoose_any _ _ _ _).mono ?_; rintro e w' ⟨rfl, rfl⟩)
    | (go_at_call 18; refine (refmajority_any _ _ _ _).mono ?_; rintro e w' ⟨rfl, rfl⟩)
    | (go_at_call 20; refine (alive01_any _).mono ?_; rintro e w' ⟨rfl, hb⟩))
  go_ret
  exact ⟨rfl, hb⟩
end Go.Proofs.Ytdikknfdgpdenaa
