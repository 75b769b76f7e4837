/- Plain laws of words of 32 bits: what is turned, chosen, and had by two of three; and how the walk spells them. No condition. -/
import Derived.Test.YtccpkafmbmkmfaaBase
namespace Go.Proofs.Ytccpkafmbmkmfaa
open Go.RowKit
set_option linter.unusedVariables false

/-! words of 32 bits, plain -/
def rotl (x : BitVec 32) (k : Nat) : BitVec 32 := (x <<< k) ||| (x >>> (32 - k))
def rotr (x : BitVec 32) (k : Nat) : BitVec 32 := (x >>> k) ||| (x <<< (32 - k))
def choose (x y z : BitVec 32) : BitVec 32 := z ^^^ (x &&& (y ^^^ z))
def majority (x y z : BitVec 32) : BitVec 32 := (x &&& y) ||| (z &&& (x ||| y))

theorem rotl_bit (x : BitVec 32) (k i : Nat) (hk : k < 32) (hi : i < 32) : (rotl x k).getLsbD i = x.getLsbD ((i + (32 - k)) % 32) := by
  simp only [rotl, BitVec.getLsbD_or, BitVec.getLsbD_shiftLeft, BitVec.getLsbD_ushiftRight]
  by_cases h : i < k
  · have e : (i + (32 - k)) % 32 = 32 - k + i := by omega
    simp [h, hi, e]
  · have e : (i + (32 - k)) % 32 = i - k := by omega
    have e2 : x.getLsbD (32 - k + i) = false := BitVec.getLsbD_of_ge _ _ (by omega)
    simp [h, hi, e, e2]
theorem rotr_bit (x : BitVec 32) (k i : Nat) (hk : k < 32) (hi : i < 32) : (rotr x k).getLsbD i = x.getLsbD ((i + k) % 32) := by
  simp only [rotr, BitVec.getLsbD_or, BitVec.getLsbD_shiftLeft, BitVec.getLsbD_ushiftRight]
  by_cases h : i < 32 - k
  · have e : (i + k) % 32 = k + i := by omega
    simp [h, hi, e]
  · have e : (i + k) % 32 = i - (32 - k) := by omega
    have e2 : x.getLsbD (k + i) = false := BitVec.getLsbD_of_ge _ _ (by omega)
    simp [h, hi, e, e2]
theorem rotl_rotr (x : BitVec 32) (k : Nat) (hk : k < 32) : rotl (rotr x k) k = x := by
  refine BitVec.eq_of_getLsbD_eq fun i hi => ?_
  rw [rotl_bit _ _ _ hk hi, rotr_bit _ _ _ hk (Nat.mod_lt _ (by omega))]
  congr 1; omega
theorem rotr_rotl (x : BitVec 32) (k : Nat) (hk : k < 32) : rotr (rotl x k) k = x := by
  refine BitVec.eq_of_getLsbD_eq fun i hi => ?_
  rw [rotr_bit _ _ _ hk hi, rotl_bit _ _ _ hk (Nat.mod_lt _ (by omega))]
  congr 1; omega
theorem rotl_zero (x : BitVec 32) : rotl x 0 = x := by
  refine BitVec.eq_of_getLsbD_eq fun i hi => ?_
  rw [rotl_bit _ _ _ (by omega) hi]; congr 1; omega
theorem rotr_zero (x : BitVec 32) : rotr x 0 = x := by
  refine BitVec.eq_of_getLsbD_eq fun i hi => ?_
  rw [rotr_bit _ _ _ (by omega) hi]; congr 1; omega
theorem rotl_succ (x : BitVec 32) (k : Nat) (hk : k + 1 < 32) : rotl (rotl x k) 1 = rotl x (k + 1) := by
  refine BitVec.eq_of_getLsbD_eq fun i hi => ?_
  rw [rotl_bit _ _ _ (by omega) hi, rotl_bit _ _ _ (by omega) (Nat.mod_lt _ (by omega)), rotl_bit _ _ _ hk hi]; congr 1; omega
theorem rotr_succ (x : BitVec 32) (k : Nat) (hk : k + 1 < 32) : rotr (rotr x k) 1 = rotr x (k + 1) := by
  refine BitVec.eq_of_getLsbD_eq fun i hi => ?_
  rw [rotr_bit _ _ _ (by omega) hi, rotr_bit _ _ _ (by omega) (Nat.mod_lt _ (by omega)), rotr_bit _ _ _ hk hi]; congr 1; omega
theorem choose_bit (x y z : BitVec 32) (i : Nat) : (choose x y z).getLsbD i = if x.getLsbD i then y.getLsbD i else z.getLsbD i := by
  simp only [choose, BitVec.getLsbD_xor, BitVec.getLsbD_and]
  cases x.getLsbD i <;> cases y.getLsbD i <;> cases z.getLsbD i <;> rfl
theorem majority_bit (x y z : BitVec 32) (i : Nat) : (majority x y z).getLsbD i = decide (2 ≤ (x.getLsbD i).toNat + (y.getLsbD i).toNat + (z.getLsbD i).toNat) := by
  simp only [majority, BitVec.getLsbD_or, BitVec.getLsbD_and]
  cases x.getLsbD i <;> cases y.getLsbD i <;> cases z.getLsbD i <;> rfl
theorem majority_turn (x y z : BitVec 32) : majority z x y = majority x y z := by
  refine BitVec.eq_of_getLsbD_eq fun i hi => ?_
  rw [majority_bit, majority_bit]
  cases x.getLsbD i <;> cases y.getLsbD i <;> cases z.getLsbD i <;> rfl
theorem choose_same (x y : BitVec 32) : choose x y y = y := by
  refine BitVec.eq_of_getLsbD_eq fun i hi => ?_
  rw [choose_bit]; split <;> rfl
theorem choose_rotl (x y z : BitVec 32) (k : Nat) (hk : k < 32) : choose (rotl x k) (rotl y k) (rotl z k) = rotl (choose x y z) k := by
  refine BitVec.eq_of_getLsbD_eq fun i hi => ?_
  rw [choose_bit, rotl_bit _ _ _ hk hi, rotl_bit _ _ _ hk hi, rotl_bit _ _ _ hk hi, rotl_bit _ _ _ hk hi, choose_bit]

/-! as the walk spells them -/
theorem toNat_lt (x : BitVec 32) : (x.toNat : Int) < 4294967296 := by have := x.isLt; omega
theorem shl_u32 (x : BitVec 32) (k : Nat) : (x.toNat : Int) * 2 ^ k % 4294967296 = ((x <<< k).toNat : Int) := by
  rw [BitVec.toNat_shiftLeft, Nat.shiftLeft_eq]
  simp
theorem shr_u32 (x : BitVec 32) (k : Nat) : (x.toNat : Int) / 2 ^ k = ((x >>> k).toNat : Int) := by
  rw [BitVec.toNat_ushiftRight, Nat.shiftRight_eq_div_pow]
  simp
theorem or_u32 (x y : BitVec 32) : bits .or .u32 (x.toNat : Int) (y.toNat : Int) = ((x ||| y).toNat : Int) := by
  rw [u32_or_nat _ _ x.isLt y.isLt, BitVec.toNat_or]
theorem and_u32 (x y : BitVec 32) : bits .and .u32 (x.toNat : Int) (y.toNat : Int) = ((x &&& y).toNat : Int) := by
  rw [u32_and_nat _ _ x.isLt y.isLt, BitVec.toNat_and]
theorem xor_u32 (x y : BitVec 32) : bits .xor .u32 (x.toNat : Int) (y.toNat : Int) = ((x ^^^ y).toNat : Int) := by
  rw [u32_xor_nat _ _ x.isLt y.isLt, BitVec.toNat_xor]
theorem add_u32 (x y : BitVec 32) : ((x.toNat : Int) + (y.toNat : Int)) % 4294967296 = ((x + y).toNat : Int) := by
  rw [BitVec.toNat_add]; simp
theorem left_u32 (x : BitVec 32) (k : Nat) : bits .or .u32 ((x.toNat : Int) * 2 ^ k % 4294967296) ((x.toNat : Int) / 2 ^ (32 - k)) = ((rotl x k).toNat : Int) := by
  rw [shl_u32, shr_u32, or_u32]; rfl
theorem right_u32 (x : BitVec 32) (k : Nat) : bits .or .u32 ((x.toNat : Int) / 2 ^ k) ((x.toNat : Int) * 2 ^ (32 - k) % 4294967296) = ((rotr x k).toNat : Int) := by
  rw [shl_u32, shr_u32, or_u32]; rfl
theorem choose_u32 (x y z : BitVec 32) : bits .xor .u32 (z.toNat : Int) (bits .and .u32 (x.toNat : Int) (bits .xor .u32 (y.toNat : Int) (z.toNat : Int))) = ((choose x y z).toNat : Int) := by
  rw [xor_u32, and_u32, xor_u32]; rfl
theorem majority_u32 (x y z : BitVec 32) : bits .or .u32 (bits .and .u32 (x.toNat : Int) (y.toNat : Int)) (bits .and .u32 (z.toNat : Int) (bits .or .u32 (x.toNat : Int) (y.toNat : Int))) = ((majority x y z).toNat : Int) := by
  rw [and_u32, or_u32, and_u32, or_u32]; rfl
theorem or_disj (a b k : Nat) (h : b < 2 ^ k) : 2 ^ k * a ||| b = 2 ^ k * a + b := (Nat.two_pow_add_eq_or_of_lt h a).symm
theorem rotl_one (x : BitVec 32) : (rotl x 1).toNat = (2 * x.toNat + x.toNat / 2147483648) % 4294967296 := by
  have hx := x.isLt
  rw [rotl, BitVec.toNat_or, BitVec.toNat_shiftLeft, BitVec.toNat_ushiftRight, Nat.shiftLeft_eq, Nat.shiftRight_eq_div_pow]
  have e : x.toNat * 2 ^ 1 % 2 ^ 32 = 2 ^ 1 * (x.toNat % 2147483648) := by omega
  rw [e, or_disj _ _ 1 (by omega)]; omega
theorem rotr_one (x : BitVec 32) : (rotr x 1).toNat = x.toNat / 2 + x.toNat % 2 * 2147483648 := by
  have hx := x.isLt
  rw [rotr, BitVec.toNat_or, BitVec.toNat_shiftLeft, BitVec.toNat_ushiftRight, Nat.shiftLeft_eq, Nat.shiftRight_eq_div_pow, Nat.or_comm]
  have e : x.toNat * 2 ^ (32 - 1) % 2 ^ 32 = 2 ^ 31 * (x.toNat % 2) := by omega
  rw [e, or_disj _ _ 31 (by omega)]; omega
/-- a bit, as the references say it -/
def bitN (x : BitVec 32) (i : Nat) : Nat := x.toNat / 2 ^ i % 2
theorem bitN_lt (x : BitVec 32) (i : Nat) : bitN x i < 2 := Nat.mod_lt _ (by omega)
theorem bitN_eq (x : BitVec 32) (i : Nat) : bitN x i = (x.getLsbD i).toNat := by
  unfold bitN
  rw [BitVec.getLsbD, Nat.testBit_eq_decide_div_mod_eq]
  have := Nat.mod_lt (x.toNat / 2 ^ i) (show 0 < 2 by omega)
  by_cases h : x.toNat / 2 ^ i % 2 = 1
  · simp [h]
  · have h0 : x.toNat / 2 ^ i % 2 = 0 := by omega
    simp [h0]
theorem top_succ (x : BitVec 32) (k : Nat) (hk : k < 32) : x.toNat / 2 ^ (31 - k) = 2 * (x.toNat / 2 ^ (32 - k)) + bitN x (31 - k) := by
  unfold bitN
  have e : x.toNat / 2 ^ (32 - k) = x.toNat / 2 ^ (31 - k) / 2 := by
    rw [Nat.div_div_eq_div_mul, ← Nat.pow_succ]; congr 2; omega
  omega
end Go.Proofs.Ytccpkafmbmkmfaa
