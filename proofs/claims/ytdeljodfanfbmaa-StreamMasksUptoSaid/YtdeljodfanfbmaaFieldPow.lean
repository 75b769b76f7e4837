/- Powers with any exponent, plain. No condition. -/
import Derived.Test.YtdeljodfanfbmaaField
set_option linter.unusedVariables false
namespace Go.Proofs.Ytdeljodfanfbmaa
/-- what package field's Power answers -/
def powI (a : Nat) (n : Int) : Nat := if n = 0 then 1 else if a = 0 then 0 else powN a (n % 255).toNat
theorem powI_lt (a : Nat) (n : Int) (h : a < 256) : powI a n < 256 := by
  unfold powI
  split
  · omega
  · split
    · omega
    · exact powN_lt _ _ h
theorem powI_ne (a : Nat) (n : Int) (h0 : a ≠ 0) : powI a n = powN a (n % 255).toNat := by
  unfold powI
  by_cases h : n = 0
  · rw [if_pos h, h]; rfl
  · rw [if_neg h, if_neg h0]
theorem powI_nat (a n : Nat) (h : a < 256) : powI a (n : Int) = powN a n := by
  by_cases h0 : a = 0
  · subst h0
    unfold powI
    by_cases h1 : n = 0
    · subst h1; rfl
    · rw [if_neg (by omega), if_pos rfl]
      obtain ⟨k, rfl⟩ : ∃ k, n = k + 1 := ⟨n - 1, by omega⟩
      rw [powN_zero]
  · rw [powI_ne a _ h0, pow_mod a n 255 h (pow255 a h h0)]
    congr 1
theorem powI_add (a : Nat) (m n : Int) (h : a < 256) (h0 : a ≠ 0) : times (powI a m) (powI a n) = powI a (m + n) := by
  rw [powI_ne a _ h0, powI_ne a _ h0, powI_ne a _ h0, ← powN_add _ _ _ h, pow_mod a _ 255 h (pow255 a h h0)]
  congr 1
  omega
theorem powI_neg (a k : Nat) (h : a < 256) : powN (inv a) k = powI a (-(k : Int)) := by
  by_cases h0 : a = 0
  · subst h0
    have e : inv 0 = 0 := by unfold inv; exact powN_zero 253
    rw [e]
    unfold powI
    by_cases h1 : k = 0
    · subst h1; rfl
    · rw [if_neg (by omega), if_pos rfl]
      obtain ⟨j, rfl⟩ : ∃ j, k = j + 1 := ⟨k - 1, by omega⟩
      rw [powN_zero]
  · have h1 : times (powN a k) (powN (inv a) k) = 1 := by
      rw [← powN_times _ _ _ h (inv_lt a h), times_inv a h h0, powN_one]
    have h2 : times (powN a k) (powI a (-(k : Int))) = 1 := by
      rw [← powI_nat a k h, powI_add _ _ _ h h0]
      have : (k : Int) + -(k : Int) = 0 := by omega
      rw [this]; rfl
    have hp := powN_lt a k h
    have hz : powN a k ≠ 0 := fun e => by rw [e, zero_times _ (powN_lt _ _ (inv_lt a h))] at h1; omega
    rw [inv_unique _ _ hp (powN_lt _ _ (inv_lt a h)) hz h1, inv_unique _ _ hp (powI_lt _ _ h) hz h2]
theorem powI_ord (a o : Nat) (n : Int) (h : a < 256) (h0 : a ≠ 0) (ho : IsOrd a o) : powI a n = powI a (n.tmod (o : Int)) := by
  have hd := ho.div h h0
  have h1 := ho.1
  have hdv : (o : Int) ∣ 255 := by
    have : o ∣ 255 := Nat.dvd_of_mod_eq_zero hd
    exact Int.ofNat_dvd.mpr this
  have e1 : ∀ x : Int, ((x % 255).toNat % o : Nat) = ((x % (o : Int)).toNat : Nat) := fun x => by
    have h2 : ((x % 255).toNat : Int) = x % 255 := Int.toNat_of_nonneg (by omega)
    have h3 : (0 : Int) ≤ x % (o : Int) := Int.emod_nonneg _ (by omega)
    have h4 : (((x % 255).toNat % o : Nat) : Int) = x % (o : Int) := by
      rw [Int.natCast_emod, h2, Int.emod_emod_of_dvd _ hdv]
    omega
  have e2 : n.tmod (o : Int) % (o : Int) = n % (o : Int) := by
    have h2 : n.tmod (o : Int) = n - (o : Int) * n.tdiv (o : Int) := by have := Int.tmod_add_mul_tdiv n o; omega
    rw [h2, Int.sub_mul_emod_self_left]
  rw [powI_ne a _ h0, powI_ne a _ h0, pow_mod a _ o h ho.2.1, pow_mod a ((n.tmod (o : Int) % 255).toNat) o h ho.2.1, e1, e1, e2]
theorem powI_zero (a : Nat) : powI a 0 = 1 := rfl
theorem powI_z (n : Int) (h : n ≠ 0) : powI 0 n = 0 := by unfold powI; rw [if_neg h, if_pos rfl]
theorem tmod255 (n : Int) : (n.tmod 255 + 255).tmod 255 = n % 255 := by
  have h1 : n.tmod 255 = n - 255 * n.tdiv 255 := by have := Int.tmod_add_mul_tdiv n 255; omega
  have h2 : -255 < n.tmod 255 := by
    have := Int.lt_tmod_of_pos n (show (0 : Int) < 255 by omega); omega
  rw [Int.tmod_eq_emod_of_nonneg (by omega)]
  omega
theorem tmodN (n c : Int) (hc : 0 < c) : -c < n.tmod c ∧ n.tmod c < c := ⟨Int.lt_tmod_of_pos n hc, Int.tmod_lt_of_pos n hc⟩
end Go.Proofs.Ytdeljodfanfbmaa
