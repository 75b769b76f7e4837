/- The walks of package box's small functions and of its reference. No condition but that arguments fit their kinds. -/
import Derived.Test.YtdeljodfanfbmaaFieldMore
import Derived.Test.YtdeljodfanfbmaaBox
namespace Go.Proofs.Ytdeljodfanfbmaa
open Go.RowKit
set_option linter.unusedVariables false

theorem rot_u8 (a k : Nat) (ha : a < 256) (hk : k ≤ 8) : bits .or .u8 ((a : Int) * 2 ^ k % 256) ((a : Int) / 2 ^ (8 - k)) = (rot8 a k : Int) := by
  have e1 : (a : Int) * 2 ^ k % 256 = ((a * 2 ^ k % 256 : Nat) : Int) := by simp
  have e2 : (a : Int) / 2 ^ (8 - k) = ((a / 2 ^ (8 - k) : Nat) : Int) := by simp
  rw [e1, e2, u8_or_nat _ _ (Nat.mod_lt _ (by omega)) (Nat.lt_of_le_of_lt (Nat.div_le_self _ _) ha)]; rfl
theorem turn_any (a k : Nat) (ha : a < 256) (h1 : 1 ≤ k) (hk : k ≤ 7) (w : World) :
    Calls Try.prog 72 #[.int .u8 (a : Int), .int .u64 (k : Int)] w fun e w' => e = .returned (.int .u8 (rot8 a k : Int)) ∧ w = w' := by
  have HE := hide (rot_u8 a k ha (by omega))
  go_enter Try.func72, Try.ntmps72
  go_wp2
  go_ret
  exact ⟨ret_u8 HE.out, rfl⟩
theorem mix_any (a : Nat) (ha : a < 256) (w : World) :
    Calls Try.prog 55 #[.int .u8 (a : Int)] w fun e w' => e = .returned (.int .u8 (mixN a : Int)) ∧ w = w' := by
  have T1 : Hid (∀ w : World, Calls Try.prog 72 #[.int .u8 (a : Int), .int .u64 1] w fun e w' => e = .returned (.int .u8 (rot8 a 1 : Int)) ∧ w = w') := hide (fun w => turn_any a 1 ha (by omega) (by omega) w)
  have T2 : Hid (∀ w : World, Calls Try.prog 72 #[.int .u8 (a : Int), .int .u64 2] w fun e w' => e = .returned (.int .u8 (rot8 a 2 : Int)) ∧ w = w') := hide (fun w => turn_any a 2 ha (by omega) (by omega) w)
  have T3 : Hid (∀ w : World, Calls Try.prog 72 #[.int .u8 (a : Int), .int .u64 3] w fun e w' => e = .returned (.int .u8 (rot8 a 3 : Int)) ∧ w = w') := hide (fun w => turn_any a 3 ha (by omega) (by omega) w)
  have T4 : Hid (∀ w : World, Calls Try.prog 72 #[.int .u8 (a : Int), .int .u64 4] w fun e w' => e = .returned (.int .u8 (rot8 a 4 : Int)) ∧ w = w') := hide (fun w => turn_any a 4 ha (by omega) (by omega) w)
  have r1 := rot8_lt a 1 ha
  have r2 := rot8_lt a 2 ha
  have r3 := rot8_lt a 3 ha
  have r4 := rot8_lt a 4 ha
  have HE : bits .xor .u8 (bits .xor .u8 (bits .xor .u8 (bits .xor .u8 (bits .xor .u8 (a : Int) (rot8 a 1 : Int)) (rot8 a 2 : Int)) (rot8 a 3 : Int)) (rot8 a 4 : Int)) 99 = (mixN a : Int) := by
    have e99 : (99 : Int) = ((99 : Nat) : Int) := rfl
    rw [u8_xor_nat _ _ ha r1, u8_xor_nat _ _ (xor_lt8 ha r1) r2, u8_xor_nat _ _ (xor_lt8 (xor_lt8 ha r1) r2) r3, u8_xor_nat _ _ (xor_lt8 (xor_lt8 (xor_lt8 ha r1) r2) r3) r4, e99,
      u8_xor_nat _ _ (xor_lt8 (xor_lt8 (xor_lt8 (xor_lt8 ha r1) r2) r3) r4) (by omega)]
    rfl
  replace HE := hide HE
  go_enter Try.func55, Try.ntmps55
  go_wp2_with (go_at_call 72; (first | with_reducible refine (T1.out _).mono ?_ | with_reducible refine (T2.out _).mono ?_ | with_reducible refine (T3.out _).mono ?_ | with_reducible refine (T4.out _).mono ?_); rintro e w' ⟨rfl, rfl⟩)
  go_ret
  exact ⟨ret_u8 HE.out, rfl⟩
theorem sh_succ (b k : Nat) : shN b (k + 1) = 2 * shN b k + shBit b (7 - k) := rfl
set_option maxRecDepth 100000 in
set_option maxHeartbeats 1600000 in
theorem shifted_any (b : Nat) (hb : b < 256) (w : World) :
    Calls Try.prog 56 #[.int .i64 (b : Int)] w fun e w' => e = .returned (.int .u8 (mixN b : Int)) ∧ ∃ n, w' = w.drewN n := by
  have HM := hide (box_all b hb).1
  go_enter Try.func56, Try.ntmps56
  go_wp2
  go_loopw [3, 4] (fun o i wr => ∃ k : Nat, k ≤ 8 ∧ i = .int .i64 (7 - (k : Int)) ∧ o = .int .i64 (shN b k : Int) ∧ ∃ j, wr = w.drewN j) (fun _ i _ => (intOf i + 1).toNat)
  case atStart => exact ⟨0, by omega, rfl, rfl, 0, rfl⟩
  case round =>
    obtain ⟨k, hk, rfl, rfl, j, rfl⟩ := hrel
    have hs : ∀ j, j ≤ 8 → shN b j < 2 ^ 8 := fun j hj => Nat.lt_of_lt_of_le (shN_lt b j) (Nat.pow_le_pow_right (by omega) hj)
    have h0 := hs k hk
    clear hs
    rcases (by omega : k = 0 ∨ k = 1 ∨ k = 2 ∨ k = 3 ∨ k = 4 ∨ k = 5 ∨ k = 6 ∨ k = 7 ∨ k = 8) with rfl | rfl | rfl | rfl | rfl | rfl | rfl | rfl | rfl
    · go_wp2
      go_quiet (fail)
      go_wp2
      go_roundw
      case rel =>
        refine ⟨1, by omega, rfl, int_i64 (by rw [sh_succ b 0]; simp only [shBit, Nat.reduceAdd, Nat.reduceMod, Nat.reducePow, Nat.reduceSub, Nat.reduceDiv]; omega), _, rfl⟩
      case measure => simp [intOf]
    · go_wp2
      go_quiet (fail)
      go_wp2
      go_roundw
      case rel =>
        refine ⟨2, by omega, rfl, int_i64 (by rw [sh_succ b 1]; simp only [shBit, Nat.reduceAdd, Nat.reduceMod, Nat.reducePow, Nat.reduceSub, Nat.reduceDiv]; omega), _, rfl⟩
      case measure => simp [intOf]
    · go_wp2
      go_quiet (fail)
      go_wp2
      go_roundw
      case rel =>
        refine ⟨3, by omega, rfl, int_i64 (by rw [sh_succ b 2]; simp only [shBit, Nat.reduceAdd, Nat.reduceMod, Nat.reducePow, Nat.reduceSub, Nat.reduceDiv]; omega), _, rfl⟩
      case measure => simp [intOf]
    · go_wp2
      go_quiet (fail)
      go_wp2
      go_roundw
      case rel =>
        refine ⟨4, by omega, rfl, int_i64 (by rw [sh_succ b 3]; simp only [shBit, Nat.reduceAdd, Nat.reduceMod, Nat.reducePow, Nat.reduceSub, Nat.reduceDiv]; omega), _, rfl⟩
      case measure => simp [intOf]
    · go_wp2
      go_quiet (fail)
      go_wp2
      go_roundw
      case rel =>
        refine ⟨5, by omega, rfl, int_i64 (by rw [sh_succ b 4]; simp only [shBit, Nat.reduceAdd, Nat.reduceMod, Nat.reducePow, Nat.reduceSub, Nat.reduceDiv]; omega), _, rfl⟩
      case measure => simp [intOf]
    · go_wp2
      go_quiet (fail)
      go_wp2
      go_roundw
      case rel =>
        refine ⟨6, by omega, rfl, int_i64 (by rw [sh_succ b 5]; simp only [shBit, Nat.reduceAdd, Nat.reduceMod, Nat.reducePow, Nat.reduceSub, Nat.reduceDiv]; omega), _, rfl⟩
      case measure => simp [intOf]
    · go_wp2
      go_quiet (fail)
      go_wp2
      go_roundw
      case rel =>
        refine ⟨7, by omega, rfl, int_i64 (by rw [sh_succ b 6]; simp only [shBit, Nat.reduceAdd, Nat.reduceMod, Nat.reducePow, Nat.reduceSub, Nat.reduceDiv]; omega), _, rfl⟩
      case measure => simp [intOf]
    · go_wp2
      go_quiet (fail)
      go_wp2
      go_roundw
      case rel =>
        refine ⟨8, by omega, rfl, int_i64 (by rw [sh_succ b 7]; simp only [shBit, Nat.reduceAdd, Nat.reduceMod, Nat.reducePow, Nat.reduceSub, Nat.reduceDiv]; omega), _, rfl⟩
      case measure => simp [intOf]
    · go_wp2
      go_ret
      exact ⟨ret_u8 (by have := HM.out; omega), _, rfl⟩
end Go.Proofs.Ytdeljodfanfbmaa
