/- Chapter 02's roots, plain: primes, numbers by digits of 16 bits. No condition. -/
import Derived.Test.YtdikknfdgpdenaaSha
namespace Go.Proofs.Ytdikknfdgpdenaa
open Go.RowKit
set_option linter.unusedVariables false

def primesL : List Nat := [1, 2, 3, 5, 7, 11, 13, 17, 19, 23, 29, 31, 37, 41, 43, 47, 53, 59, 61, 67, 71, 73, 79, 83, 89, 97, 101, 103, 107, 109, 113, 127, 131, 137, 139, 149, 151, 157, 163, 167, 173, 179, 181, 191, 193, 197, 199, 211, 223, 227, 229, 233, 239, 241, 251, 257, 263, 269, 271, 277, 281, 283, 293, 307, 311]
def primeP (k : Nat) : Nat := primesL.getD k 0
theorem primes_gap : (List.range 64).all (fun k => (List.range 312).all fun n => !(decide (primeP k < n) && decide (n < primeP (k + 1))) || (List.range 18).any fun e => decide (2 ≤ e) && decide (e * e ≤ n) && n % e == 0) = true := by decide +kernel
theorem primes_prime : (List.range 64).all (fun k => (List.range 19).all fun e => decide (e < 2) || decide (primeP (k + 1) < e * e) || !(primeP (k + 1) % e == 0)) = true := by decide +kernel
theorem primes_up : (List.range 64).all (fun k => decide (primeP k < primeP (k + 1)) && decide (primeP (k + 1) ≤ 311)) = true := by decide +kernel
theorem prime_gap {k n : Nat} (hk : k < 64) (h1 : primeP k < n) (h2 : n < primeP (k + 1)) : ∃ e, 2 ≤ e ∧ e * e ≤ n ∧ n % e = 0 := by
  have hu := List.all_eq_true.1 primes_up k (by simpa using hk)
  simp at hu
  have h := List.all_eq_true.1 (List.all_eq_true.1 primes_gap k (by simpa using hk)) n (by simp; omega)
  simp [h1, h2] at h
  obtain ⟨e, _, ⟨h3, h4⟩, h5⟩ := h
  exact ⟨e, h3, h4, h5⟩
theorem prime_prime {k e : Nat} (hk : k < 64) (h1 : 2 ≤ e) (h2 : e * e ≤ primeP (k + 1)) : primeP (k + 1) % e ≠ 0 := by
  have hu := List.all_eq_true.1 primes_up k (by simpa using hk)
  simp at hu
  have he : e < 19 := by
    rcases Nat.lt_or_ge e 19 with h | h
    · exact h
    · have : 19 * 19 ≤ e * e := Nat.mul_le_mul h h
      omega
  have h := List.all_eq_true.1 (List.all_eq_true.1 primes_prime k (by simpa using hk)) e (by simpa using he)
  simp at h
  rcases h with (h | h) | h
  · omega
  · omega
  · exact h
theorem prime_up {k : Nat} (hk : k < 64) : primeP k < primeP (k + 1) ∧ primeP (k + 1) ≤ 311 := by
  have hu := List.all_eq_true.1 primes_up k (by simpa using hk)
  simpa using hu
/-! numbers by digits -/
def valOf : List Nat → Nat
  | [] => 0
  | d :: l => d + 65536 * valOf l
theorem valOf_nil : valOf [] = 0 := rfl
theorem valOf_append (l m : List Nat) : valOf (l ++ m) = valOf l + 65536 ^ l.length * valOf m := by
  induction l with
  | nil => simp [valOf]
  | cons d l ih =>
    simp only [List.cons_append, valOf, ih, List.length_cons, Nat.pow_succ]
    rw [Nat.mul_add, Nat.mul_comm (65536 ^ l.length) 65536, Nat.mul_assoc]; omega
theorem valOf_lt (l : List Nat) (h : ∀ d ∈ l, d < 65536) : valOf l < 65536 ^ l.length := by
  induction l with
  | nil => simp [valOf]
  | cons d l ih =>
    have h1 := ih (fun e he => h e (by simp [he]))
    have h2 := h d (by simp)
    simp only [valOf, List.length_cons, Nat.pow_succ]
    omega
theorem valOf_zeros (n : Nat) : valOf (List.replicate n 0) = 0 := by
  induction n with
  | zero => rfl
  | succ n ih => simp [List.replicate_succ, valOf, ih]
theorem valOf_set (l : List Nat) (i x : Nat) (h : i < l.length) : valOf (l.set i x) + 65536 ^ i * l.getD i 0 = valOf l + 65536 ^ i * x := by
  induction l generalizing i with
  | nil => simp at h
  | cons d l ih =>
    cases i with
    | zero => simp [valOf]; omega
    | succ i =>
      have := ih i (by simpa using h)
      simp only [List.set_cons_succ, valOf, List.getD_cons_succ, Nat.pow_succ]
      have e1 : 65536 ^ i * 65536 * l.getD i 0 = 65536 * (65536 ^ i * l.getD i 0) := by rw [Nat.mul_comm (65536 ^ i) 65536, Nat.mul_assoc]
      have e2 : 65536 ^ i * 65536 * x = 65536 * (65536 ^ i * x) := by rw [Nat.mul_comm (65536 ^ i) 65536, Nat.mul_assoc]
      rw [e1, e2]; omega
theorem valOf_take_succ (l : List Nat) (k : Nat) (h : k < l.length) : valOf (l.take (k + 1)) = valOf (l.take k) + 65536 ^ k * l.getD k 0 := by
  rw [List.take_succ_eq_append_getElem h, valOf_append]
  simp [valOf, List.getD, h, Nat.min_eq_left (Nat.le_of_lt h)]
theorem valOf_drop (l : List Nat) (k : Nat) : valOf (l.drop k) = l.getD k 0 + 65536 * valOf (l.drop (k + 1)) := by
  by_cases h : k < l.length
  · rw [List.drop_eq_getElem_cons h]
    simp [valOf, List.getD, h]
  · rw [List.drop_eq_nil_of_le (by omega), List.drop_eq_nil_of_le (by omega)]
    simp [valOf, List.getD, h]
theorem valOf_cut (l : List Nat) (k : Nat) (h : ∀ d ∈ l, d < 65536) : ∃ low, low < 65536 ^ k ∧ valOf l = low + 65536 ^ k * valOf (l.drop k) := by
  by_cases hk : k ≤ l.length
  · refine ⟨valOf (l.take k), ?_, ?_⟩
    · have := valOf_lt (l.take k) (fun d hd => h d (List.mem_of_mem_take hd))
      rwa [List.length_take, Nat.min_eq_left hk] at this
    · have e : valOf l = valOf (l.take k ++ l.drop k) := by rw [List.take_append_drop]
      rw [e, valOf_append, List.length_take, Nat.min_eq_left hk]
  · refine ⟨valOf l, ?_, ?_⟩
    · have h1 := valOf_lt l h
      exact Nat.lt_of_lt_of_le h1 (Nat.pow_le_pow_right (by omega) (by omega))
    · rw [List.drop_eq_nil_of_le (by omega)]; simp [valOf]
/-- where the digits part first, seen from the top -/
theorem valOf_less (a b : List Nat) (k : Nat) (ha : ∀ d ∈ a, d < 65536) (hb : ∀ d ∈ b, d < 65536) (he : valOf (a.drop (k + 1)) = valOf (b.drop (k + 1))) (hlt : a.getD k 0 < b.getD k 0) : valOf a < valOf b := by
  obtain ⟨la, h1, h2⟩ := valOf_cut a k ha
  obtain ⟨lb, h3, h4⟩ := valOf_cut b k hb
  have h5 : valOf (a.drop k) + 1 ≤ valOf (b.drop k) := by rw [valOf_drop a k, valOf_drop b k, he]; omega
  have h6 : 65536 ^ k * (valOf (a.drop k) + 1) ≤ 65536 ^ k * valOf (b.drop k) := Nat.mul_le_mul_left _ h5
  rw [Nat.mul_add, Nat.mul_one] at h6
  omega
theorem most_at (a b : List Nat) (k : Nat) (ha : ∀ d ∈ a, d < 65536) (hb : ∀ d ∈ b, d < 65536) (he : valOf (a.drop (k + 1)) = valOf (b.drop (k + 1))) (hne : a.getD k 0 ≠ b.getD k 0) : decide (valOf a ≤ valOf b) = decide (a.getD k 0 < b.getD k 0) := by
  rw [decide_eq_decide]
  rcases Nat.lt_or_gt_of_ne hne with h | h
  · have := valOf_less a b k ha hb he h; omega
  · have := valOf_less b a k hb ha he.symm h; omega
/-- a step of a product: a place, and what is carried -/
theorem times_step (V B o x y c t V' : Nat) (ht : t = o + x * y + c) (h : V' + B * o = V + B * (t % 65536)) : V' + B * 65536 * (t / 65536) = V + B * c + B * (x * y) := by
  have h1 : B * t = B * (t % 65536) + B * 65536 * (t / 65536) := by
    rw [Nat.mul_assoc, ← Nat.mul_add]; congr 1; omega
  have h2 : B * t = B * o + B * (x * y) + B * c := by rw [ht, Nat.mul_add, Nat.mul_add]
  omega
theorem times_bound {o x y c : Nat} (ho : o < 65536) (hx : x < 65536) (hy : y < 65536) (hc : c < 65536) : o + x * y + c < 4294967296 := by
  have : x * y ≤ 65535 * 65535 := Nat.mul_le_mul (by omega) (by omega)
  omega
/-- a round of a product -/
theorem times_round (o o' b : List Nat) (i k x c t V0 : Nat) (hk : k < b.length) (hp : i + k < o.length) (ht : t = o.getD (i + k) 0 + x * b.getD k 0 + c) (ho : o' = o.set (i + k) (t % 65536))
    (h : valOf o + 65536 ^ (i + k) * c = V0 + 65536 ^ i * (x * valOf (b.take k))) : valOf o' + 65536 ^ (i + (k + 1)) * (t / 65536) = V0 + 65536 ^ i * (x * valOf (b.take (k + 1))) := by
  have h1 := valOf_set o (i + k) (t % 65536) hp
  rw [← ho] at h1
  have h2 := times_step (valOf o) (65536 ^ (i + k)) (o.getD (i + k) 0) x (b.getD k 0) c t (valOf o') ht h1
  rw [valOf_take_succ b k hk, Nat.mul_add, Nat.mul_add, ← Nat.add_assoc i k 1, Nat.pow_succ, h2, h, Nat.add_assoc]
  congr 2
  rw [Nat.pow_add, Nat.mul_assoc]
  congr 1
  rw [← Nat.mul_assoc, Nat.mul_comm (65536 ^ k) x, Nat.mul_assoc]
theorem times_end (o o' a b : List Nat) (i c : Nat) (hi : i < a.length) (hp : i + b.length < o.length) (ho : o' = o.set (i + b.length) c) (hz : o.getD (i + b.length) 0 = 0)
    (h : valOf o + 65536 ^ (i + b.length) * c = valOf (a.take i) * valOf b + 65536 ^ i * (a.getD i 0 * valOf (b.take b.length))) : valOf o' = valOf (a.take (i + 1)) * valOf b := by
  have h1 := valOf_set o (i + b.length) c hp
  rw [← ho, hz, Nat.mul_zero, Nat.add_zero] at h1
  rw [h1, h, List.take_length, valOf_take_succ a i hi, Nat.add_mul, Nat.mul_assoc]
/-- is it the root, that often? -/
def rootB (n p k : Nat) : Bool := decide (n ^ k ≤ p * 65536 ^ (2 * k)) && !decide ((n + 1) ^ k ≤ p * 65536 ^ (2 * k))
def goodOf (i : Nat) : Nat → Nat
  | 0 => 0
  | v + 1 => goodOf i v + (if rootB ((v + 1) * 4294967296 + (shaK.getD i 0).toNat) (primeP (i + 1)) 3 then 1 else 0) + (if decide (i < 8) && rootB ((v + 1) * 4294967296 + (shaH.list.getD i 0).toNat) (primeP (i + 1)) 2 then 100 else 0)
theorem good_all : (List.range 64).all (fun i => goodOf i 19 == if i < 8 then 101 else 1) = true := by decide +kernel
theorem good_is {i : Nat} (hi : i < 64) : goodOf i 19 = if i < 8 then 101 else 1 := by
  have h := List.all_eq_true.1 good_all i (by simpa using hi)
  simpa using h
end Go.Proofs.Ytdikknfdgpdenaa
