/- Chapter 03, plain: a key's block, a tag. No condition. -/
import Derived.Test.YtdikknfdgpdenaaSha
namespace Go.Proofs.Ytdikknfdgpdenaa
open Go.RowKit
set_option linter.unusedVariables false

theorem xor_u8 (x y : BitVec 8) : bits .xor .u8 (x.toNat : Int) (y.toNat : Int) = ((x ^^^ y).toNat : Int) := by
  rw [u8_xor_nat _ _ x.isLt y.isLt, BitVec.toNat_xor]
theorem or_u8 (x y : BitVec 8) : bits .or .u8 (x.toNat : Int) (y.toNat : Int) = ((x ||| y).toNat : Int) := by
  rw [u8_or_nat _ _ x.isLt y.isLt, BitVec.toNat_or]
/-- the key as it goes in -/
def keyOf (key : List (BitVec 8)) : List (BitVec 8) := if key.length ≤ 64 then key else shaOf key
theorem keyOf_len (key : List (BitVec 8)) : (keyOf key).length ≤ 64 := by
  unfold keyOf; split
  · assumption
  · rw [shaOf_len]; omega
def padK (K : List (BitVec 8)) : List (BitVec 8) := (List.range 64).map fun i => K.getD i 0
def xorK (K : List (BitVec 8)) (by_ : BitVec 8) (k : Nat) : List (BitVec 8) := (List.range k).map fun i => K.getD i 0 ^^^ by_
/-- a key's block, each byte xor one -/
def blockOf (key : List (BitVec 8)) (by_ : BitVec 8) : List (BitVec 8) := xorK (keyOf key) by_ 64
def macOf (key b : List (BitVec 8)) : List (BitVec 8) := shaOf (blockOf key 92 ++ shaOf (blockOf key 54 ++ b))
theorem xorK_len (K : List (BitVec 8)) (b : BitVec 8) (k : Nat) : (xorK K b k).length = k := by simp [xorK]
theorem padK_len (K : List (BitVec 8)) : (padK K).length = 64 := by simp [padK]
theorem blockOf_len (key : List (BitVec 8)) (b : BitVec 8) : (blockOf key b).length = 64 := xorK_len _ _ _
theorem macOf_len (key b : List (BitVec 8)) : (macOf key b).length = 32 := shaOf_len _
theorem xorK_succ (K : List (BitVec 8)) (b : BitVec 8) (k : Nat) : xorK K b (k + 1) = xorK K b k ++ [K.getD k 0 ^^^ b] := by simp [xorK, List.range_succ]
theorem padK_get (K : List (BitVec 8)) (k : Nat) (h : k < 64) : (padK K)[k]? = some (K.getD k 0) := by simp [padK, h]
/-- behind k rounds -/
def halfK (K : List (BitVec 8)) (b : BitVec 8) (k : Nat) : List (BitVec 8) := xorK K b k ++ (padK K).drop k
theorem halfK_zero (K : List (BitVec 8)) (b : BitVec 8) : halfK K b 0 = padK K := by simp [halfK, xorK]
theorem halfK_all (K : List (BitVec 8)) (b : BitVec 8) : halfK K b 64 = xorK K b 64 := by
  simp [halfK, List.drop_eq_nil_of_le (Nat.le_of_eq (padK_len K))]
theorem halfK_len (K : List (BitVec 8)) (b : BitVec 8) (k : Nat) (h : k ≤ 64) : (halfK K b k).length = 64 := by simp [halfK, xorK_len, padK_len]; omega
theorem halfK_get (K : List (BitVec 8)) (b : BitVec 8) (k : Nat) (h : k < 64) : (halfK K b k)[k]? = some (K.getD k 0) := by
  rw [halfK, List.getElem?_append_right (by rw [xorK_len]; omega), xorK_len, Nat.sub_self, List.getElem?_drop, Nat.add_zero, padK_get K k h]
theorem halfK_set (K : List (BitVec 8)) (b : BitVec 8) (k : Nat) (h : k < 64) : (halfK K b k).set k (K.getD k 0 ^^^ b) = halfK K b (k + 1) := by
  have e : (padK K).drop k = K.getD k 0 :: (padK K).drop (k + 1) := by
    rw [List.drop_eq_getElem_cons (by rw [padK_len]; exact h)]
    congr 1
    have := padK_get K k h
    rw [List.getElem?_eq_getElem (by rw [padK_len]; exact h)] at this
    injection this
  rw [halfK, halfK, e, List.set_append_right _ _ (by rw [xorK_len]; omega), xorK_len, Nat.sub_self, List.set_cons_zero, xorK_succ, List.append_assoc]
  rfl
theorem padK_splice (K : List (BitVec 8)) (h : K.length ≤ 64) : padK K = K ++ List.replicate (64 - K.length) 0#8 := by
  apply List.ext_getElem?
  intro i
  by_cases hi : i < 64
  · rw [padK_get K i hi]
    by_cases hk : i < K.length
    · rw [List.getElem?_append_left hk]; simp [List.getD, hk]
    · rw [List.getElem?_append_right (by omega), List.getElem?_replicate, if_pos (by omega)]
      simp [List.getD, hk]
  · rw [List.getElem?_eq_none (by rw [padK_len]; omega), List.getElem?_eq_none (by simp; omega)]
end Go.Proofs.Ytdikknfdgpdenaa
