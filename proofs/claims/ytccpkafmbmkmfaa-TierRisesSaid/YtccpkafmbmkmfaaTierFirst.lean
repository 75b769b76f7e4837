/- Package tier's Rise, and the reference's First. No condition but that arguments fit their kinds. -/
import Derived.RangeFuncNested
import Derived.RangeFuncBound
import Derived.RangeFuncCalls
import Derived.RangeFuncLeaves
import Derived.Shelf.Abstract
import Derived.Shelf.RegionOpen
import Derived.WalkKit
import Derived.OwnWalkIn
import Derived.TacticsInMore
import Derived.LoopNIn
import Derived.LoopIn
import Derived.Test.YtccpkafmbmkmfaaTierTellsWalk
namespace Go.Proofs.Ytccpkafmbmkmfaa
open Go.RowKit Go.Shelf
set_option linter.unusedVariables false

set_option maxRecDepth 100000 in
set_option maxHeartbeats 1600000 in
theorem first_any (b k : Nat) (s : Int) (hb : b ≤ 4294967295) (hk : k ≤ 1000) (s0 : -9223372036854775808 ≤ s) (s1 : s ≤ 9223372036854775807) (w : World) :
    Calls Try.prog 18 #[.int .u32 (b : Int), .int .i64 s, .int .i64 (k : Int)] w fun e w' =>
      (((b : Int) + farS s * k ≤ 4294967295 ∧ e = .returned (.tuple #[.int .u32 ((b : Int) + farS s * k), .bool true])) ∨ (4294967295 < (b : Int) + farS s * k ∧ e = .returned (.tuple #[.int .u32 0, .bool false]))) ∧ w = w' := by
  obtain ⟨t, ht⟩ : ∃ t, t = (b : Int) + farS s * k := ⟨_, rfl⟩
  rw [← ht]
  by_cases c3 : s < 1
  · have e3 : farS s = 1 := by simp [farS, c3]
    rw [e3] at ht
    have HT := hide ht
    clear e3 ht
    go_enter Try.func18, Try.ntmps18
    go_wp2
    go_loop [8, 9] (fun a i => ∃ n v : Nat, n ≤ k ∧ i = .int .i64 (n : Int) ∧ a = .int .i64 (v : Int) ∧ v ≤ 4294967295 ∧ Hid ((v : Int) = b + (1 : Int) * n)) (fun _ i => k - (intOf i).toNat)
    case atStart => exact ⟨0, b, by omega, rfl, rfl, by omega, hide (by simp)⟩
    case round =>
      obtain ⟨n, v, hn, rfl, rfl, hv, HV⟩ := hrel
      by_cases hlt : n < k
      · have hstep : (b : Int) + (1 : Int) * n + (1 : Int) ≤ b + (1 : Int) * k := by
          have h1 : (1 : Int) * ((n : Int) + 1) ≤ (1 : Int) * (k : Int) := Int.mul_le_mul_of_nonneg_left (by omega) (by omega)
          rw [Int.mul_add, Int.mul_one] at h1
          omega
        have HS := hide hstep
        clear hstep
        by_cases h1 : 4294967295 - (v : Int) < (1 : Int)
        · have HR := hide (show 4294967295 < t from by rw [HT.out]; have := HS.out; have := HV.out; omega)
          go_wp2
          go_ret2
          exact ⟨.inr ⟨HR.out, rfl⟩, rfl⟩
        · have h1' : (1 : Int) ≤ 4294967295 - (v : Int) := by omega
          have HN := hide (show ((v : Int) + (1 : Int)) = b + (1 : Int) * ((n + 1 : Nat) : Int) from by
            have e : (1 : Int) * ((n + 1 : Nat) : Int) = (1 : Int) * n + (1 : Int) := by push_cast; rw [Int.mul_add, Int.mul_one]
            rw [e]; have := HV.out; omega)
          go_wp2
          go_round
          case rel => exact ⟨n + 1, (v + (1 : Int)).toNat, by omega, by go_num, by go_num, by omega, hide (by rw [Int.toNat_of_nonneg (by omega)]; exact HN.out)⟩
          case measure => simp [intOf]; omega
      · obtain rfl : n = k := by omega
        go_wp2
        go_ret2
        have hvt : t = (v : Int) := HT.out.trans HV.out.symm
        exact ⟨.inl ⟨by omega, by rw [hvt]; rfl⟩, rfl⟩
  · have e3 : farS s = s := by simp [farS, c3]
    rw [e3] at ht
    have HT := hide ht
    clear e3 ht
    have c3' : 1 ≤ s := by omega
    go_enter Try.func18, Try.ntmps18
    go_wp2
    go_loop [8, 9] (fun a i => ∃ n v : Nat, n ≤ k ∧ i = .int .i64 (n : Int) ∧ a = .int .i64 (v : Int) ∧ v ≤ 4294967295 ∧ Hid ((v : Int) = b + s * n)) (fun _ i => k - (intOf i).toNat)
    case atStart => exact ⟨0, b, by omega, rfl, rfl, by omega, hide (by simp)⟩
    case round =>
      obtain ⟨n, v, hn, rfl, rfl, hv, HV⟩ := hrel
      by_cases hlt : n < k
      · have hstep : (b : Int) + s * n + s ≤ b + s * k := by
          have h1 : s * ((n : Int) + 1) ≤ s * (k : Int) := Int.mul_le_mul_of_nonneg_left (by omega) (by omega)
          rw [Int.mul_add, Int.mul_one] at h1
          omega
        have HS := hide hstep
        clear hstep
        by_cases h1 : 4294967295 - (v : Int) < s
        · have HR := hide (show 4294967295 < t from by rw [HT.out]; have := HS.out; have := HV.out; omega)
          go_wp2
          go_ret2
          exact ⟨.inr ⟨HR.out, rfl⟩, rfl⟩
        · have h1' : s ≤ 4294967295 - (v : Int) := by omega
          have HN := hide (show ((v : Int) + s) = b + s * ((n + 1 : Nat) : Int) from by
            have e : s * ((n + 1 : Nat) : Int) = s * n + s := by push_cast; rw [Int.mul_add, Int.mul_one]
            rw [e]; have := HV.out; omega)
          go_wp2
          go_round
          case rel => exact ⟨n + 1, (v + s).toNat, by omega, by go_num, by go_num, by omega, hide (by rw [Int.toNat_of_nonneg (by omega)]; exact HN.out)⟩
          case measure => simp [intOf]; omega
      · obtain rfl : n = k := by omega
        go_wp2
        go_ret2
        have hvt : t = (v : Int) := HT.out.trans HV.out.symm
        exact ⟨.inl ⟨by omega, by rw [hvt]; rfl⟩, rfl⟩
end Go.Proofs.Ytccpkafmbmkmfaa
