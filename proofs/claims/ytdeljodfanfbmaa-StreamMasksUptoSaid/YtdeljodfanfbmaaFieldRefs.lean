/- The walks of the reference of chapter 04: each function's contract. No condition but that arguments fit their kinds. -/
import Derived.Test.YtdeljodfanfbmaaFieldWalks
namespace Go.Proofs.Ytdeljodfanfbmaa
open Go.RowKit
set_option linter.unusedVariables false

theorem ofInt_i64 (a : Nat) (ha : a < 9223372036854775808) : (BitVec.ofInt 64 (a : Int)).toNat = a := by
  rw [BitVec.ofInt_natCast, BitVec.toNat_ofNat]; exact Nat.mod_eq_of_lt (by omega)
theorem i64_xor_nat (a b : Nat) (ha : a < 9223372036854775808) (hb : b < 9223372036854775808) : bits .xor .i64 (a : Int) (b : Int) = ((a ^^^ b : Nat) : Int) := by
  have hx : a ^^^ b < 2 ^ 63 := Nat.xor_lt_two_pow (by omega) (by omega)
  show IntKind.i64.wrap ((BitVec.ofInt 64 (a : Int) ^^^ BitVec.ofInt 64 (b : Int)).toNat : Int) = _
  rw [BitVec.toNat_xor, ofInt_i64 a ha, ofInt_i64 b hb, IntKind.wrap_i64]
  omega
theorem tm2 (b j c : Nat) (h : b / 2 ^ j % 2 = c) : ((b : Int) / 2 ^ j).tmod 2 = (c : Int) := by
  have e : (b : Int) / 2 ^ j = ((b / 2 ^ j : Nat) : Int) := by simp
  rw [e, ← h, Int.tmod_eq_emod_of_nonneg (Int.natCast_nonneg _)]; omega
theorem a2k (a k : Nat) (ha : a < 256) (hk : k < 8) : a * 2 ^ k < 32768 := by
  have h1 : a * 2 ^ k ≤ 255 * 2 ^ k := Nat.mul_le_mul_right _ (by omega)
  have h2 : 2 ^ k ≤ 2 ^ 7 := Nat.pow_le_pow_right (by omega) (by omega)
  omega
theorem cl_lt (a b k : Nat) (ha : a < 256) (hk : k ≤ 8) : cl a b k < 32768 := by
  induction k with
  | zero => show 0 < 32768; omega
  | succ k ih =>
    have h1 := a2k a k ha (by omega)
    refine Nat.xor_lt_two_pow (n := 15) (ih (by omega)) ?_
    rcases Nat.mod_two_eq_zero_or_one (b / 2 ^ k) with h | h <;> rw [h] <;> omega
theorem red_lt (p k : Nat) (hp : p < 32768) (hk : k ≤ 7) : red p k < 32768 := by
  induction k with
  | zero => exact hp
  | succ k ih =>
    refine Nat.xor_lt_two_pow (n := 15) (ih (by omega)) ?_
    have h2 : 2 ^ (6 - k) ≤ 2 ^ 6 := Nat.pow_le_pow_right (by omega) (by omega)
    have h3 : 283 * 2 ^ (6 - k) ≤ 283 * 2 ^ 6 := Nat.mul_le_mul_left _ h2
    rcases Nat.mod_two_eq_zero_or_one (red p k / 2 ^ (14 - k)) with h | h <;> rw [h] <;> omega
theorem cl_yes (a b k : Nat) (ha : a < 256) (hk : k < 8) (h : b / 2 ^ k % 2 = 1) : bits .xor .i64 (cl a b k : Int) ((a : Int) * 2 ^ k) = (cl a b (k + 1) : Int) := by
  have h1 := cl_lt a b k ha (by omega)
  have h2 := a2k a k ha hk
  have e : (a : Int) * 2 ^ k = ((a * 2 ^ k : Nat) : Int) := by simp
  rw [e, i64_xor_nat _ _ (by omega) (by omega)]
  simp [cl, h]
theorem cl_no (a b k : Nat) (h : b / 2 ^ k % 2 ≠ 1) : cl a b (k + 1) = cl a b k := by
  have h : b / 2 ^ k % 2 = 0 := by omega
  simp [cl, h]
theorem red_yes (p m : Nat) (hp : p < 32768) (hm : m ≤ 6) (h : red p (6 - m) / 2 ^ (m + 8) % 2 = 1) : bits .xor .i64 (red p (6 - m) : Int) (283 * 2 ^ m) = (red p (7 - m) : Int) := by
  have h1 := red_lt p (6 - m) hp (by omega)
  have h2 : 2 ^ m ≤ 2 ^ 6 := Nat.pow_le_pow_right (by omega) hm
  have e : (283 : Int) * 2 ^ m = ((283 * 2 ^ m : Nat) : Int) := by simp
  rw [e, i64_xor_nat _ _ (by omega) (by omega)]
  have e7 : 7 - m = (6 - m) + 1 := by omega
  have e6 : 6 - (6 - m) = m := by omega
  have e14 : 14 - (6 - m) = m + 8 := by omega
  rw [e7]
  simp only [red, e6, e14, h, Nat.mul_one]
theorem red_no (p m : Nat) (hm : m ≤ 6) (h : red p (6 - m) / 2 ^ (m + 8) % 2 ≠ 1) : red p (7 - m) = red p (6 - m) := by
  have h : red p (6 - m) / 2 ^ (m + 8) % 2 = 0 := by omega
  have e7 : 7 - m = (6 - m) + 1 := by omega
  have e6 : 6 - (6 - m) = m := by omega
  have e14 : 14 - (6 - m) = m + 8 := by omega
  rw [e7]
  simp only [red, e6, e14, h, Nat.mul_zero, Nat.xor_zero]
theorem p283 (m : Nat) (hm : m ≤ 6) : (0 : Int) ≤ 283 * 2 ^ m ∧ (283 : Int) * 2 ^ m ≤ 18112 := by
  have h2 : 2 ^ m ≤ 2 ^ 6 := Nat.pow_le_pow_right (by omega) hm
  have e : (283 : Int) * 2 ^ m = ((283 * 2 ^ m : Nat) : Int) := by simp
  rw [e]; omega
theorem ref_small (a b : Nat) (ha : a < 256) (hb : b < 256) : red (cl a b 8) 7 % 256 = times a b := by
  have h := ref_times a b ha hb
  unfold refTimes at h
  rw [h]
  exact Nat.mod_eq_of_lt (times_lt a b ha)
set_option maxRecDepth 100000 in
set_option maxHeartbeats 800000 in
theorem reftimes_any (a b : Nat) (ha : a < 256) (hb : b < 256) (w : World) :
    Calls Try.prog 16 #[.int .u8 (a : Int), .int .u8 (b : Int)] w fun e w' => e = .returned (.int .u8 (times a b : Int)) ∧ w = w' := by
  have HE := hide (ref_small a b ha hb)
  go_enter Try.func16, Try.ntmps16
  go_wp2
  go_loop [5, 6] (fun p i => ∃ k : Nat, k ≤ 8 ∧ i = .int .i64 (k : Int) ∧ p = .int .i64 (cl a b k : Int)) (fun _ i => 8 - (intOf i).toNat)
  case atStart => exact ⟨0, by omega, rfl, rfl⟩
  case round =>
    obtain ⟨k, hk, rfl, rfl⟩ := hrel
    by_cases hlt : k < 8
    · have hcl := cl_lt a b k ha hk
      have h2 : (0 : Int) ≤ (a : Int) * 2 ^ k ∧ (a : Int) * 2 ^ k ≤ 32767 := by
        have e : (a : Int) * 2 ^ k = ((a * 2 ^ k : Nat) : Int) := by simp
        have := a2k a k ha hlt
        rw [e]; omega
      by_cases h1 : b / 2 ^ k % 2 = 1
      · have e1 : (((b : Int) / 2 ^ k).tmod 2 == 1) = true := by rw [tm2 _ _ _ h1]; rfl
        have HS := hide (cl_yes a b k ha hlt h1)
        clear h1
        go_wp2
        go_round
        case rel => exact ⟨k + 1, by omega, by go_num, int_i64 HS.out⟩
        case measure => simp [intOf]; omega
      · have e1 : (((b : Int) / 2 ^ k).tmod 2 == 1) = false := by rw [tm2 b k 0 (by omega)]; rfl
        have HS := hide (cl_no a b k h1)
        clear h1
        go_wp2
        go_round
        case rel => exact ⟨k + 1, by omega, by go_num, by rw [HS.out]⟩
        case measure => simp [intOf]; omega
    · obtain rfl : k = 8 := by omega
      have hP := cl_lt a b 8 ha (by omega)
      obtain ⟨P, hPe⟩ : ∃ P, P = cl a b 8 := ⟨_, rfl⟩
      rw [← hPe] at hP HE ⊢
      clear hPe
      go_wp2
      go_loop [5, 7] (fun p i => ∃ m : Nat, m ≤ 7 ∧ i = .int .i64 ((m : Int) + 7) ∧ p = .int .i64 (red P (7 - m) : Int)) (fun _ i => (intOf i - 7).toNat)
      case atStart => exact ⟨7, by omega, rfl, rfl⟩
      case round =>
        obtain ⟨m, hm, rfl, rfl⟩ := hrel
        obtain rfl | ⟨m, rfl⟩ : m = 0 ∨ ∃ j, m = j + 1 := by cases m <;> simp
        · go_wp2
          go_ret
          refine ⟨ret_u8 ?_, rfl⟩
          rw [← HE.out]; simp
        · have e8 : ((m + 1 : Nat) : Int) + 7 = (m : Int) + 8 := by omega
          have e6 : 7 - (m + 1) = 6 - m := by omega
          rw [e8, e6]
          clear e8 e6
          have hr := red_lt P (6 - m) hP (by omega)
          have h2 := p283 m (by omega)
          by_cases h1 : red P (6 - m) / 2 ^ (m + 8) % 2 = 1
          · have e1 : (((red P (6 - m) : Int) / 2 ^ (m + 8)).tmod 2 == 1) = true := by rw [tm2 _ _ _ h1]; rfl
            have HS := hide (red_yes P m hP (by omega) h1)
            clear h1
            go_wp2
            go_round
            case rel => exact ⟨m, by omega, by go_num, int_i64 HS.out⟩
            case measure => simp [intOf]; omega
          · have e1 : (((red P (6 - m) : Int) / 2 ^ (m + 8)).tmod 2 == 1) = false := by rw [tm2 (red P (6 - m)) (m + 8) 0 (by omega)]; rfl
            have HS := hide (red_no P m (by omega) h1)
            clear h1
            go_wp2
            go_round
            case rel => exact ⟨m, by omega, by go_num, by rw [HS.out]⟩
            case measure => simp [intOf]; omega
end Go.Proofs.Ytdeljodfanfbmaa
