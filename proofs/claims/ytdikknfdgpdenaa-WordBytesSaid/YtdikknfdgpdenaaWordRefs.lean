/- The walks of the reference of chapter 01: each function's contract. No condition but that arguments fit their kinds. -/
import Derived.Test.YtdikknfdgpdenaaWordWalks
namespace Go.Proofs.Ytdikknfdgpdenaa
open Go.RowKit
set_option linter.unusedVariables false

theorem refleft_step (x : BitVec 32) (k n : Nat) (hk : k < n) (hn : n < 32) : ((2 * ((rotl x k).toNat : Int) % 4294967296 + ((rotl x k).toNat : Int) / 2147483648) % 4294967296) = ((rotl x (k + 1)).toNat : Int) := by
  rw [← rotl_succ x k (by omega), rotl_one]; omega
theorem refright_step (x : BitVec 32) (k n : Nat) (hk : k < n) (hn : n < 32) : ((((rotr x k).toNat : Int) / 2 + ((rotr x k).toNat : Int) % 2 * 2147483648 % 4294967296) % 4294967296) = ((rotr x (k + 1)).toNat : Int) := by
  rw [← rotr_succ x k (by omega), rotr_one]
  have := (rotr x k).isLt
  omega
theorem refleft_any (x : BitVec 32) (b : Int) (w : World) :
    Calls Try.prog 22 #[.int .u32 (x.toNat : Int), .int .i64 b] w fun e w' => e = .returned (.int .u32 ((rotl x (turnN b)).toNat : Int)) ∧ w = w' := by
  have hk := turnN_lt b
  have hb := turnN_eq b
  have ht := tmod32 b
  by_cases hn : b.tmod 32 < 0
  · have E := hide (show b.tmod 32 + 32 = (turnN b : Int) by omega)
    clear hb
    go_enter Try.func22, Try.ntmps22
    go_wp2
    rw [E.out]
    go_loop [0, 6] (fun v i => ∃ k : Nat, k ≤ turnN b ∧ i = .int .i64 k ∧ v = .int .u32 ((rotl x k).toNat : Int)) (fun _ i => turnN b - (intOf i).toNat)
    case atStart => exact ⟨0, by omega, rfl, by rw [rotl_zero]⟩
    case round =>
      obtain ⟨k, hkb, rfl, rfl⟩ := hrel
      by_cases hlt : k < turnN b
      · have hx := (rotl x k).isLt
        go_wp2
        go_round
        case rel => exact ⟨k + 1, by omega, by go_num, by rw [← refleft_step x k _ hlt hk]; go_num⟩
        case measure => simp [intOf]; omega
      · have e : k = turnN b := by omega
        go_wp2
        go_ret
        exact ⟨rfl, rfl⟩
  · have E := hide (show b.tmod 32 = (turnN b : Int) by omega)
    go_enter Try.func22, Try.ntmps22
    go_wp2
    rw [E.out]
    clear hb
    go_loop [0, 6] (fun v i => ∃ k : Nat, k ≤ turnN b ∧ i = .int .i64 k ∧ v = .int .u32 ((rotl x k).toNat : Int)) (fun _ i => turnN b - (intOf i).toNat)
    case atStart => exact ⟨0, by omega, rfl, by rw [rotl_zero]⟩
    case round =>
      obtain ⟨k, hkb, rfl, rfl⟩ := hrel
      by_cases hlt : k < turnN b
      · have hx := (rotl x k).isLt
        go_wp2
        go_round
        case rel => exact ⟨k + 1, by omega, by go_num, by rw [← refleft_step x k _ hlt hk]; go_num⟩
        case measure => simp [intOf]; omega
      · have e : k = turnN b := by omega
        go_wp2
        go_ret
        exact ⟨rfl, rfl⟩
theorem refright_any (x : BitVec 32) (b : Int) (w : World) :
    Calls Try.prog 23 #[.int .u32 (x.toNat : Int), .int .i64 b] w fun e w' => e = .returned (.int .u32 ((rotr x (turnN b)).toNat : Int)) ∧ w = w' := by
  have hk := turnN_lt b
  have hb := turnN_eq b
  have ht := tmod32 b
  by_cases hn : b.tmod 32 < 0
  · have E := hide (show b.tmod 32 + 32 = (turnN b : Int) by omega)
    clear hb
    go_enter Try.func23, Try.ntmps23
    go_wp2
    rw [E.out]
    go_loop [0, 6] (fun v i => ∃ k : Nat, k ≤ turnN b ∧ i = .int .i64 k ∧ v = .int .u32 ((rotr x k).toNat : Int)) (fun _ i => turnN b - (intOf i).toNat)
    case atStart => exact ⟨0, by omega, rfl, by rw [rotr_zero]⟩
    case round =>
      obtain ⟨k, hkb, rfl, rfl⟩ := hrel
      by_cases hlt : k < turnN b
      · have hx := (rotr x k).isLt
        go_wp2
        go_round
        case rel => exact ⟨k + 1, by omega, by go_num, by rw [← refright_step x k _ hlt hk]; go_num⟩
        case measure => simp [intOf]; omega
      · have e : k = turnN b := by omega
        go_wp2
        go_ret
        exact ⟨rfl, rfl⟩
  · have E := hide (show b.tmod 32 = (turnN b : Int) by omega)
    go_enter Try.func23, Try.ntmps23
    go_wp2
    rw [E.out]
    clear hb
    go_loop [0, 6] (fun v i => ∃ k : Nat, k ≤ turnN b ∧ i = .int .i64 k ∧ v = .int .u32 ((rotr x k).toNat : Int)) (fun _ i => turnN b - (intOf i).toNat)
    case atStart => exact ⟨0, by omega, rfl, by rw [rotr_zero]⟩
    case round =>
      obtain ⟨k, hkb, rfl, rfl⟩ := hrel
      by_cases hlt : k < turnN b
      · have hx := (rotr x k).isLt
        go_wp2
        go_round
        case rel => exact ⟨k + 1, by omega, by go_num, by rw [← refright_step x k _ hlt hk]; go_num⟩
        case measure => simp [intOf]; omega
      · have e : k = turnN b := by omega
        go_wp2
        go_ret
        exact ⟨rfl, rfl⟩

/-- a bit, as the reference tells it -/
theorem bit_eq (x : BitVec 32) (i : Nat) : wrap64 ((x.toNat : Int) / 2 ^ i % 2) = (bitN x i : Int) := by
  have h2 := bitN_lt x i
  have e : (x.toNat : Int) / 2 ^ i % 2 = (bitN x i : Int) := by unfold bitN; simp
  rw [e]; exact IntWalk.wrap64_in _ (by omega)
theorem bit_any (x : BitVec 32) (i : Nat) (hi : i < 32) (w : World) :
    Calls Try.prog 61 #[.int .u32 (x.toNat : Int), .int .i64 (i : Int)] w fun e w' => e = .returned (.int .i64 (bitN x i : Int)) ∧ w = w' := by
  go_enter Try.func61, Try.ntmps61
  go_wp2
  go_ret
  exact ⟨ret_i64 (bit_eq x i), rfl⟩
theorem top_all (x : BitVec 32) : x.toNat / 2 ^ 32 = 0 := Nat.div_eq_of_lt x.isLt
theorem top_step (x : BitVec 32) (m : Nat) : x.toNat / 2 ^ m = 2 * (x.toNat / 2 ^ (m + 1)) + bitN x m := by
  unfold bitN
  have e : x.toNat / 2 ^ (m + 1) = x.toNat / 2 ^ m / 2 := by
    rw [Nat.div_div_eq_div_mul, ← Nat.pow_succ]
  omega
theorem choose_bitN (x y z : BitVec 32) (i : Nat) : bitN (choose x y z) i = if bitN x i = 1 then bitN y i else bitN z i := by
  simp only [bitN_eq, choose_bit]
  cases x.getLsbD i <;> simp
theorem majority_bitN (x y z : BitVec 32) (i : Nat) : bitN (majority x y z) i = if 2 ≤ bitN x i + bitN y i + bitN z i then 1 else 0 := by
  simp only [bitN_eq, majority_bit]
  cases x.getLsbD i <;> cases y.getLsbD i <;> cases z.getLsbD i <;> rfl
theorem out_lt (x : BitVec 32) (m : Nat) : x.toNat / 2 ^ m < 4294967296 := Nat.lt_of_le_of_lt (Nat.div_le_self _ _) x.isLt
theorem out_step (c : BitVec 32) (m n : Nat) (h : bitN c m = n) : (2 * ((c.toNat : Int) / 2 ^ (m + 1)) % 4294967296 + (n : Int) % 4294967296) % 4294967296 = ((c.toNat / 2 ^ m : Nat) : Int) := by
  have h1 := top_step c m
  have h2 := out_lt c m
  rw [h] at h1
  have h3 : ((c.toNat : Int) / 2 ^ (m + 1)) = ((c.toNat / 2 ^ (m + 1) : Nat) : Int) := by simp
  rw [h3]
  omega
theorem out_step1 (c : BitVec 32) (m : Nat) (h : bitN c m = 1) : ((2 * ((c.toNat : Int) / 2 ^ (m + 1)) % 4294967296) + 1) = ((c.toNat / 2 ^ m : Nat) : Int) := by
  have := out_step c m 1 h; omega
theorem out_step0 (c : BitVec 32) (m : Nat) (h : bitN c m = 0) : (2 * ((c.toNat : Int) / 2 ^ (m + 1)) % 4294967296) = ((c.toNat / 2 ^ m : Nat) : Int) := by
  have := out_step c m 0 h; omega
theorem int_u32 {a b : Int} (h : a = b) : Value.int .u32 a = .int .u32 b := by rw [h]
set_option maxHeartbeats 400000 in
theorem refchoose_any (x y z : BitVec 32) (w : World) :
    Calls Try.prog 17 #[.int .u32 (x.toNat : Int), .int .u32 (y.toNat : Int), .int .u32 (z.toNat : Int)] w fun e w' => e = .returned (.int .u32 ((choose x y z).toNat : Int)) ∧ w = w' := by
  obtain ⟨c, hc⟩ : ∃ c, c = choose x y z := ⟨_, rfl⟩
  rw [← hc]
  have HC := hide hc
  clear hc
  go_enter Try.func17, Try.ntmps17
  go_wp2
  go_loop [7, 8] (fun o i => ∃ j : Nat, j ≤ 32 ∧ i = .int .i64 ((j : Int) - 1) ∧ o = .int .u32 ((c.toNat / 2 ^ j : Nat) : Int)) (fun _ i => (intOf i + 1).toNat)
  case atStart => exact ⟨32, by omega, rfl, by rw [top_all]; rfl⟩
  case round =>
    obtain ⟨j, hj, rfl, rfl⟩ := hrel
    obtain rfl | ⟨m, rfl⟩ : j = 0 ∨ ∃ m, j = m + 1 := by cases j <;> simp
    · go_wp2
      go_ret
      exact ⟨by simp, rfl⟩
    · have e1 : ((m + 1 : Nat) : Int) - 1 = (m : Int) := by omega
      rw [e1]
      clear e1
      have bx := bitN_lt x m
      have BS := hide (choose_bitN x y z m)
      rw [← HC.out] at BS
      by_cases h1 : bitN x m = 1
      · have h2 : ((bitN x m : Int) == 1) = true := by simp [h1]
        have H1 := hide h1
        clear h1
        go_wp2_with (go_at_call 61; refine (bit_any _ _ (by omega) _).mono ?_; rintro e w' ⟨rfl, rfl⟩)
        go_round
        case rel => exact ⟨m, by omega, rfl, int_u32 (out_step c m _ (by rw [BS.out, if_pos H1.out]))⟩
        case measure => simp [intOf]
      · have h2 : ((bitN x m : Int) == 1) = false := by simp; omega
        have H1 := hide h1
        clear h1
        go_wp2_with (go_at_call 61; refine (bit_any _ _ (by omega) _).mono ?_; rintro e w' ⟨rfl, rfl⟩)
        go_round
        case rel => exact ⟨m, by omega, rfl, int_u32 (out_step c m _ (by rw [BS.out, if_neg H1.out]))⟩
        case measure => simp [intOf]
set_option maxHeartbeats 400000 in
theorem refmajority_any (x y z : BitVec 32) (w : World) :
    Calls Try.prog 18 #[.int .u32 (x.toNat : Int), .int .u32 (y.toNat : Int), .int .u32 (z.toNat : Int)] w fun e w' => e = .returned (.int .u32 ((majority x y z).toNat : Int)) ∧ w = w' := by
  obtain ⟨c, hc⟩ : ∃ c, c = majority x y z := ⟨_, rfl⟩
  rw [← hc]
  have HC := hide hc
  clear hc
  go_enter Try.func18, Try.ntmps18
  go_wp2
  go_loop [7, 8] (fun o i => ∃ j : Nat, j ≤ 32 ∧ i = .int .i64 ((j : Int) - 1) ∧ o = .int .u32 ((c.toNat / 2 ^ j : Nat) : Int)) (fun _ i => (intOf i + 1).toNat)
  case atStart => exact ⟨32, by omega, rfl, by rw [top_all]; rfl⟩
  case round =>
    obtain ⟨j, hj, rfl, rfl⟩ := hrel
    obtain rfl | ⟨m, rfl⟩ : j = 0 ∨ ∃ m, j = m + 1 := by cases j <;> simp
    · go_wp2
      go_ret
      exact ⟨by simp, rfl⟩
    · have e1 : ((m + 1 : Nat) : Int) - 1 = (m : Int) := by omega
      rw [e1]
      clear e1
      have bx := bitN_lt x m
      have by_ := bitN_lt y m
      have bz := bitN_lt z m
      have BS := hide (majority_bitN x y z m)
      rw [← HC.out] at BS
      by_cases h1 : (2 : Int) ≤ (bitN x m : Int) + (bitN y m : Int) + (bitN z m : Int)
      · go_wp2_with (go_at_call 61; refine (bit_any _ _ (by omega) _).mono ?_; rintro e w' ⟨rfl, rfl⟩)
        go_round
        case rel => exact ⟨m, by omega, rfl, int_u32 (out_step1 c m (by rw [BS.out, if_pos (by omega)]))⟩
        case measure => simp [intOf]
      · go_wp2_with (go_at_call 61; refine (bit_any _ _ (by omega) _).mono ?_; rintro e w' ⟨rfl, rfl⟩)
        go_round
        case rel => exact ⟨m, by omega, rfl, int_u32 (out_step0 c m (by rw [BS.out, if_neg (by omega)]))⟩
        case measure => simp [intOf]
end Go.Proofs.Ytdikknfdgpdenaa
