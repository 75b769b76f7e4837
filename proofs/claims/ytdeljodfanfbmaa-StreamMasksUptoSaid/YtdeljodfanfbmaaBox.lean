/- The box of substitutes, plain: what is made of an inverse, its undoing, and the reference's spelling. No condition. -/
import Derived.Test.YtdeljodfanfbmaaField
set_option linter.unusedVariables false
namespace Go.Proofs.Ytdeljodfanfbmaa
/-- a byte turned to the left -/
def rot8 (b k : Nat) : Nat := (b * 2 ^ k % 256) ||| (b / 2 ^ (8 - k))
def mixN (b : Nat) : Nat := b ^^^ rot8 b 1 ^^^ rot8 b 2 ^^^ rot8 b 3 ^^^ rot8 b 4 ^^^ 99
def unmixN (b : Nat) : Nat := rot8 b 1 ^^^ rot8 b 3 ^^^ rot8 b 6 ^^^ 5
theorem rot8_lt (b k : Nat) (hb : b < 256) : rot8 b k < 256 :=
  Nat.or_lt_two_pow (n := 8) (Nat.mod_lt _ (by omega)) (Nat.lt_of_le_of_lt (Nat.div_le_self _ _) hb)
theorem mixN_lt (b : Nat) (hb : b < 256) : mixN b < 256 := by
  have h1 := rot8_lt b 1 hb; have h2 := rot8_lt b 2 hb; have h3 := rot8_lt b 3 hb; have h4 := rot8_lt b 4 hb
  exact xor_lt8 (xor_lt8 (xor_lt8 (xor_lt8 (xor_lt8 hb h1) h2) h3) h4) (by omega)
theorem unmixN_lt (b : Nat) (hb : b < 256) : unmixN b < 256 := by
  have h1 := rot8_lt b 1 hb; have h3 := rot8_lt b 3 hb; have h6 := rot8_lt b 6 hb
  exact xor_lt8 (xor_lt8 (xor_lt8 h1 h3) h6) (by omega)
/-- as the reference makes it, bit by bit from the highest one on -/
def shBit (b i : Nat) : Nat := (99 / 2 ^ i + b / 2 ^ i + b / 2 ^ ((i + 4) % 8) + b / 2 ^ ((i + 5) % 8) + b / 2 ^ ((i + 6) % 8) + b / 2 ^ ((i + 7) % 8)) % 2
def shN (b : Nat) : Nat → Nat
  | 0 => 0
  | k + 1 => 2 * shN b k + shBit b (7 - k)
theorem shBit_lt (b i : Nat) : shBit b i < 2 := Nat.mod_lt _ (by omega)
theorem shN_lt (b k : Nat) : shN b k < 2 ^ k := by
  induction k with
  | zero => exact Nat.one_pos
  | succ k ih => have := shBit_lt b (7 - k); simp only [shN, Nat.pow_succ]; omega
def boxChk : Bool := allB (fun b => Nat.beq (shN b 8) (mixN b) && Nat.beq (unmixN (mixN b)) b && Nat.beq (mixN (unmixN b)) b && !Nat.beq (mixN (fastP 8 b 254 1)) b) 256
theorem boxChk_ok : boxChk = true := by decide +kernel
theorem box_all (b : Nat) (hb : b < 256) : shN b 8 = mixN b ∧ unmixN (mixN b) = b ∧ mixN (unmixN b) = b ∧ mixN (inv b) ≠ b := by
  have h := allB_spec _ 256 boxChk_ok b hb
  simp only [Bool.and_eq_true, Bool.not_eq_true', Nat.beq_eq] at h
  obtain ⟨⟨⟨h1, h2⟩, h3⟩, h4⟩ := h
  refine ⟨h1, h2, h3, fun e => ?_⟩
  have e2 : fastP 8 b 254 1 = inv b := by
    rw [fastP_eq 8 b 254 1 hb (by omega) (by omega), one_times _ (powN_lt b 254 hb)]; rfl
  rw [e2, e] at h4
  rw [Nat.beq_refl] at h4
  cases h4
theorem inv_zero : inv 0 = 0 := powN_zero 253
theorem inv_inv (a : Nat) (h : a < 256) : inv (inv a) = a := by
  by_cases h0 : a = 0
  · subst h0; rw [inv_zero, inv_zero]
  · have h1 := times_inv a h h0
    have hi := inv_lt a h
    have h2 : inv a ≠ 0 := fun e => by rw [e, times_zero] at h1; omega
    exact (inv_unique (inv a) a hi h h2 (by rw [times_comm _ _ hi h]; exact h1)).symm
def sub (x : Nat) : Nat := mixN (inv x)
def back (x : Nat) : Nat := inv (unmixN x)
theorem sub_lt (x : Nat) (h : x < 256) : sub x < 256 := mixN_lt _ (inv_lt x h)
theorem back_lt (x : Nat) (h : x < 256) : back x < 256 := inv_lt _ (unmixN_lt x h)
theorem back_sub (x : Nat) (h : x < 256) : back (sub x) = x := by
  unfold back sub; rw [(box_all _ (inv_lt x h)).2.1, inv_inv x h]
theorem sub_back (x : Nat) (h : x < 256) : sub (back x) = x := by
  unfold back sub; rw [inv_inv _ (unmixN_lt x h), (box_all _ h).2.2.1]
theorem sub_ne (x : Nat) (h : x < 256) : sub x ≠ x := (box_all x h).2.2.2
theorem sub_inj (x y : Nat) (hx : x < 256) (hy : y < 256) (h : sub x = sub y) : x = y := by
  rw [← back_sub x hx, h, back_sub y hy]
theorem shN_inv (x : Nat) (h : x < 256) : shN (inv x) 8 = sub x := (box_all _ (inv_lt x h)).1
/-! the powers of 3, and of its inverse -/
theorem inv_pow (a k : Nat) (h : a < 256) : powN (inv a) k = inv (powN a k) := by
  unfold inv
  rw [← powN_mul a 254 k h, ← powN_mul a k 254 h, Nat.mul_comm]
theorem inv3 : inv 3 = 246 := by
  have : fastP 8 3 254 1 = inv 3 := by
    rw [fastP_eq 8 3 254 1 (by omega) (by omega) (by omega), one_times _ (powN_lt 3 254 (by omega))]; rfl
  rw [← this]; decide +kernel
/-- a byte but 0 is one of the first 255 powers of 3 -/
theorem gen_onto (x : Nat) (h : x < 256) (h0 : x ≠ 0) : ∃ k, k < 255 ∧ powN 3 k = x := ⟨_, (log_pow x h h0).2, (log_pow x h h0).1⟩
theorem gen_ne (k : Nat) : powN 3 k ≠ 0 := by
  have h1 := powN_lt 3 k (by omega)
  intro e
  have : powN (powN 3 k) 255 = 1 := by
    rw [← powN_mul 3 k 255 (by omega), Nat.mul_comm, powN_mul 3 255 k (by omega), gen_one, powN_one]
  rw [e, powN_zero 254] at this
  omega
end Go.Proofs.Ytdeljodfanfbmaa
