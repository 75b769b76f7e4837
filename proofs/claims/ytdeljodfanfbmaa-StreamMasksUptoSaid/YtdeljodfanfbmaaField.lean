/- The field of 256 elements, plain: products, powers, orders, and the reference product. No condition. -/
set_option linter.unusedVariables false
namespace Go.Proofs.Ytdeljodfanfbmaa
/-! the field of 256 elements, plain -/
def tw (a : Nat) : Nat := (a * 2 % 256) ^^^ (27 * (a / 128))
def twN (a : Nat) : Nat → Nat
  | 0 => a
  | k + 1 => tw (twN a k)
def pN (a b : Nat) : Nat → Nat
  | 0 => 0
  | k + 1 => pN a b k ^^^ (twN a k * (b / 2 ^ k % 2))
def times (a b : Nat) : Nat := pN a b 8
theorem tw_lt (a : Nat) (h : a < 256) : tw a < 256 := Nat.xor_lt_two_pow (n := 8) (by omega) (by omega)
theorem twN_lt (a k : Nat) (h : a < 256) : twN a k < 256 := by
  induction k with
  | zero => exact h
  | succ k ih => exact tw_lt _ ih
theorem mulbit_lt (x c : Nat) (hx : x < 256) : x * (c % 2) < 256 := by
  rcases Nat.mod_two_eq_zero_or_one c with h | h <;> rw [h] <;> omega
theorem pN_lt (a b k : Nat) (h : a < 256) : pN a b k < 256 := by
  induction k with
  | zero => show 0 < 256; omega
  | succ k ih => exact Nat.xor_lt_two_pow (n := 8) ih (mulbit_lt _ _ (twN_lt a k h))
theorem times_lt (a b : Nat) (h : a < 256) : times a b < 256 := pN_lt a b 8 h

/-! sums -/
theorem bit_xor (b c k : Nat) : (b ^^^ c) / 2 ^ k % 2 = (b / 2 ^ k % 2 + c / 2 ^ k % 2) % 2 := by
  have h : ∀ n : Nat, n / 2 ^ k % 2 = (n.testBit k).toNat := by
    intro n
    rw [Nat.testBit_eq_decide_div_mod_eq]
    rcases Nat.mod_two_eq_zero_or_one (n / 2 ^ k) with h | h <;> simp [h]
  rw [h, h, h, Nat.testBit_xor]
  cases b.testBit k <;> cases c.testBit k <;> rfl
theorem pN_xor (a b c k : Nat) : pN a (b ^^^ c) k = pN a b k ^^^ pN a c k := by
  induction k with
  | zero => simp [pN]
  | succ k ih =>
    simp only [pN, ih, bit_xor]
    have e : twN a k * ((b / 2 ^ k % 2 + c / 2 ^ k % 2) % 2) = (twN a k * (b / 2 ^ k % 2)) ^^^ (twN a k * (c / 2 ^ k % 2)) := by
      rcases Nat.mod_two_eq_zero_or_one (b / 2 ^ k) with h | h <;> rcases Nat.mod_two_eq_zero_or_one (c / 2 ^ k) with h' | h' <;> simp [h, h']
    rw [e]
    ac_rfl
theorem times_xor (a b c : Nat) : times a (b ^^^ c) = times a b ^^^ times a c := pN_xor a b c 8

/-! what goes over sums is known by its values at the bits -/
theorem split_top (n c : Nat) (h : c < 2 ^ n) : 2 ^ n + c = 2 ^ n ^^^ c := by
  apply Nat.eq_of_testBit_eq
  intro i
  have e : 2 ^ n + c = 2 ^ n * 1 + c := by omega
  rw [e, Nat.testBit_two_pow_mul_add 1 h, Nat.testBit_xor, Nat.testBit_two_pow]
  by_cases h1 : i < n
  · rw [if_pos h1]
    have : decide (n = i) = false := by simp; omega
    rw [this]; simp
  · rw [if_neg h1]
    have hc : c.testBit i = false := Nat.testBit_lt_two_pow (Nat.lt_of_lt_of_le h (Nat.pow_le_pow_right (by omega) (by omega)))
    rw [hc]
    by_cases h2 : n = i
    · subst h2; simp
    · have e1 : decide (n = i) = false := by simp [h2]
      rw [e1]
      have e2 : i - n = (i - n - 1) + 1 := by omega
      rw [e2, Nat.testBit_succ]
      simp
theorem additive_eq (f g : Nat → Nat) (hf : ∀ x y, f (x ^^^ y) = f x ^^^ f y) (hg : ∀ x y, g (x ^^^ y) = g x ^^^ g y) (h : ∀ k, k < 8 → f (2 ^ k) = g (2 ^ k)) : ∀ b, b < 256 → f b = g b := by
  have h0 : ∀ (f : Nat → Nat), (∀ x y, f (x ^^^ y) = f x ^^^ f y) → f 0 = 0 := fun f hf => by
    have := hf 0 0
    rw [Nat.xor_self] at this
    rw [this, Nat.xor_self]
  have key : ∀ n, n ≤ 8 → ∀ b, b < 2 ^ n → f b = g b := by
    intro n
    induction n with
    | zero => intro _ b hb; have : b = 0 := by omega
              subst this; rw [h0 f hf, h0 g hg]
    | succ n ih =>
      intro hn b hb
      by_cases hlt : b < 2 ^ n
      · exact ih (by omega) b hlt
      · have e : b = 2 ^ n ^^^ (b - 2 ^ n) := by
          rw [← split_top n (b - 2 ^ n) (by have := Nat.pow_succ 2 n; omega)]; omega
        rw [e, hf, hg, h n (by omega), ih (by omega) _ (by have := Nat.pow_succ 2 n; omega)]
  exact key 8 (Nat.le_refl _)
def allB (f : Nat → Bool) : Nat → Bool
  | 0 => true
  | n + 1 => f n && allB f n
theorem allB_spec (f : Nat → Bool) (n : Nat) (h : allB f n = true) : ∀ i, i < n → f i = true := by
  induction n with
  | zero => intro i hi; omega
  | succ n ih =>
    simp only [allB, Bool.and_eq_true] at h
    intro i hi
    by_cases e : i = n
    · subst e; exact h.1
    · exact ih h.2 i (by omega)
theorem tw_xor (a b : Nat) (ha : a < 256) (hb : b < 256) : tw (a ^^^ b) = tw a ^^^ tw b := by
  have e1 : (a ^^^ b) / 128 % 2 = (a / 128 % 2 + b / 128 % 2) % 2 := bit_xor a b 7
  have ha2 : a / 128 < 2 := by omega
  have hb2 : b / 128 < 2 := by omega
  have hab : (a ^^^ b) < 2 ^ 8 := Nat.xor_lt_two_pow (by omega) (by omega)
  have e2 : (a ^^^ b) * 2 % 256 = (a * 2 % 256) ^^^ (b * 2 % 256) := by
    apply Nat.eq_of_testBit_eq
    intro i
    have h256 : (256 : Nat) = 2 ^ 8 := rfl
    rw [h256, Nat.testBit_xor, Nat.testBit_mod_two_pow, Nat.testBit_mod_two_pow, Nat.testBit_mod_two_pow]
    have hm : ∀ n : Nat, (n * 2).testBit i = (decide (1 ≤ i) && n.testBit (i - 1)) := fun n => by
      have := Nat.testBit_mul_two_pow n i 1
      simpa using this
    rw [hm, hm, hm, Nat.testBit_xor]
    cases decide (i < 8) <;> cases decide (1 ≤ i) <;> simp
  unfold tw
  rw [e2]
  have e3 : 27 * ((a ^^^ b) / 128) = (27 * (a / 128)) ^^^ (27 * (b / 128)) := by
    have h1 : a / 128 = 0 ∨ a / 128 = 1 := by omega
    have h2 : b / 128 = 0 ∨ b / 128 = 1 := by omega
    have h3 : (a ^^^ b) / 128 < 2 := by omega
    rcases h1 with h1 | h1 <;> rcases h2 with h2 | h2 <;> rw [h1, h2] at e1 ⊢ <;> (have e4 : (a ^^^ b) / 128 = _ := (Nat.mod_eq_of_lt h3).symm.trans e1) <;> rw [e4] <;> rfl
  rw [e3]
  ac_rfl
/-! doubling goes over products: by the eight bits of one factor, at all others -/
def twChk : Bool := allB (fun x => allB (fun k => Nat.beq (times x (tw (2 ^ k))) (tw (times x (2 ^ k)))) 8) 256
theorem twChk_ok : twChk = true := by decide +kernel
theorem times_one (a : Nat) : times a 1 = a := by simp [times, pN, twN]
theorem times_zero (a : Nat) : times a 0 = 0 := by simp [times, pN]
theorem xor_lt8 {a b : Nat} (ha : a < 256) (hb : b < 256) : a ^^^ b < 256 := Nat.xor_lt_two_pow (n := 8) (by omega) (by omega)
theorem times_tw (x y : Nat) (hx : x < 256) (hy : y < 256) : times x (tw y) = tw (times x y) := by
  have hb : ∀ k, k < 8 → times x (tw (2 ^ k)) = tw (times x (2 ^ k)) := by
    intro k hk
    have h1 := allB_spec _ 256 twChk_ok x hx
    have h2 := allB_spec _ 8 h1 k hk
    exact Nat.eq_of_beq_eq_true h2
  have key : ∀ n, n ≤ 8 → ∀ b, b < 2 ^ n → times x (tw b) = tw (times x b) := by
    intro n
    induction n with
    | zero => intro _ b hb; have : b = 0 := by omega
              subst this; simp [times_zero, tw]
    | succ n ih =>
      intro hn b hlt2
      by_cases hlt : b < 2 ^ n
      · exact ih (by omega) b hlt
      · have hp : 2 ^ n ≤ 2 ^ 7 := Nat.pow_le_pow_right (by omega) (by omega)
        have hc : b - 2 ^ n < 2 ^ n := by have := Nat.pow_succ 2 n; omega
        have e : b = 2 ^ n ^^^ (b - 2 ^ n) := by rw [← split_top n _ hc]; omega
        rw [e, tw_xor _ _ (by omega) (by omega), times_xor, times_xor, hb n (by omega), ih (by omega) _ hc, tw_xor _ _ (times_lt _ _ hx) (times_lt _ _ hx)]
  exact key 8 (Nat.le_refl _) y hy
theorem times_twN (x y k : Nat) (hx : x < 256) (hy : y < 256) : times x (twN y k) = twN (times x y) k := by
  induction k with
  | zero => rfl
  | succ k ih => simp only [twN]; rw [times_tw x _ hx (twN_lt y k hy), ih]
theorem times_assoc (x y z : Nat) (hx : x < 256) (hy : y < 256) : times x (times y z) = times (times x y) z := by
  have key : ∀ k, times x (pN y z k) = pN (times x y) z k := by
    intro k
    induction k with
    | zero => simp [pN, times_zero]
    | succ k ih =>
      simp only [pN]
      rw [times_xor, ih]
      congr 1
      rcases Nat.mod_two_eq_zero_or_one (z / 2 ^ k) with h | h <;> rw [h]
      · simp [times_zero]
      · simp [times_twN x y k hx hy]
  exact key 8
def comChk : Bool := allB (fun k => allB (fun j => Nat.beq (times (2 ^ k) (2 ^ j)) (times (2 ^ j) (2 ^ k))) 8) 8
theorem comChk_ok : comChk = true := by decide +kernel
theorem twN_xor (a b k : Nat) (ha : a < 256) (hb : b < 256) : twN (a ^^^ b) k = twN a k ^^^ twN b k := by
  induction k with
  | zero => rfl
  | succ k ih => simp only [twN]; rw [ih, tw_xor _ _ (twN_lt a k ha) (twN_lt b k hb)]
theorem xor_times (a b c : Nat) (ha : a < 256) (hb : b < 256) : times (a ^^^ b) c = times a c ^^^ times b c := by
  have key : ∀ k, pN (a ^^^ b) c k = pN a c k ^^^ pN b c k := by
    intro k
    induction k with
    | zero => simp [pN]
    | succ k ih =>
      simp only [pN]
      rw [ih, twN_xor a b k ha hb]
      rcases Nat.mod_two_eq_zero_or_one (c / 2 ^ k) with h | h <;> rw [h] <;> simp
      ac_rfl
  exact key 8
theorem times_comm (x y : Nat) (hx : x < 256) (hy : y < 256) : times x y = times y x := by
  have hb : ∀ k j, k < 8 → j < 8 → times (2 ^ k) (2 ^ j) = times (2 ^ j) (2 ^ k) := by
    intro k j hk hj
    exact Nat.eq_of_beq_eq_true (allB_spec _ 8 (allB_spec _ 8 comChk_ok k hk) j hj)
  have pow8 : ∀ k, k < 8 → 2 ^ k < 256 := fun k hk => by
    have : 2 ^ k ≤ 2 ^ 7 := Nat.pow_le_pow_right (by omega) (by omega)
    omega
  -- at a bit, for all y
  have h1 : ∀ k, k < 8 → ∀ n, n ≤ 8 → ∀ b, b < 2 ^ n → times (2 ^ k) b = times b (2 ^ k) := by
    intro k hk n
    induction n with
    | zero => intro _ b hb; have : b = 0 := by omega
              subst this
              have : times 0 (2 ^ k) = 0 := by
                have := xor_times 0 0 (2 ^ k) (by omega) (by omega)
                rw [Nat.xor_self, Nat.xor_self] at this; exact this
              rw [times_zero, this]
    | succ n ih =>
      intro hn b hlt2
      by_cases hlt : b < 2 ^ n
      · exact ih (by omega) b hlt
      · have hp := pow8 n (by omega)
        have hc : b - 2 ^ n < 2 ^ n := by have := Nat.pow_succ 2 n; omega
        have e : b = 2 ^ n ^^^ (b - 2 ^ n) := by rw [← split_top n _ hc]; omega
        rw [e, times_xor, xor_times _ _ _ hp (by omega), hb k n hk (by omega), ih (by omega) _ hc]
  have h2 : ∀ n, n ≤ 8 → ∀ b, b < 2 ^ n → times b y = times y b := by
    intro n
    induction n with
    | zero => intro _ b hb; have : b = 0 := by omega
              subst this
              have : times 0 y = 0 := by
                have := xor_times 0 0 y (by omega) (by omega)
                rw [Nat.xor_self, Nat.xor_self] at this; exact this
              rw [times_zero, this]
    | succ n ih =>
      intro hn b hlt2
      by_cases hlt : b < 2 ^ n
      · exact ih (by omega) b hlt
      · have hp := pow8 n (by omega)
        have hc : b - 2 ^ n < 2 ^ n := by have := Nat.pow_succ 2 n; omega
        have e : b = 2 ^ n ^^^ (b - 2 ^ n) := by rw [← split_top n _ hc]; omega
        rw [e, times_xor, xor_times _ _ _ hp (by omega), h1 n (by omega) 8 (Nat.le_refl _) y hy, ih (by omega) _ hc]
  exact h2 8 (Nat.le_refl _) x hx

/-! powers -/
def powN (a : Nat) : Nat → Nat
  | 0 => 1
  | n + 1 => times (powN a n) a
theorem powN_lt (a n : Nat) (h : a < 256) : powN a n < 256 := by
  induction n with
  | zero => show 1 < 256; omega
  | succ n ih => exact times_lt _ _ ih
theorem one_times (a : Nat) (h : a < 256) : times 1 a = a := by rw [times_comm 1 a (by omega) h, times_one]
theorem zero_times (a : Nat) (h : a < 256) : times 0 a = 0 := by rw [times_comm 0 a (by omega) h, times_zero]
theorem powN_add (a m n : Nat) (h : a < 256) : powN a (m + n) = times (powN a m) (powN a n) := by
  induction n with
  | zero => simp [powN, times_one]
  | succ n ih => rw [← Nat.add_assoc]; simp only [powN]; rw [ih, times_assoc _ _ _ (powN_lt a m h) (powN_lt a n h)]
theorem powN_mul (a m n : Nat) (h : a < 256) : powN a (m * n) = powN (powN a m) n := by
  induction n with
  | zero => rfl
  | succ n ih => rw [Nat.mul_succ, powN_add _ _ _ h, ih]; rfl
theorem powN_one (n : Nat) : powN 1 n = 1 := by
  induction n with
  | zero => rfl
  | succ n ih => simp only [powN]; rw [ih, times_one]
theorem powN_zero (n : Nat) : powN 0 (n + 1) = 0 := by simp only [powN]; rw [times_zero]
theorem powN_times (a b n : Nat) (ha : a < 256) (hb : b < 256) : powN (times a b) n = times (powN a n) (powN b n) := by
  induction n with
  | zero => simp [powN, times_one]
  | succ n ih =>
    simp only [powN]
    have hA := powN_lt a n ha
    have hB := powN_lt b n hb
    rw [ih, times_assoc _ _ _ (times_lt _ _ hA) ha, ← times_assoc (powN a n) (powN b n) a hA hB, times_comm (powN b n) a hB ha, times_assoc (powN a n) a (powN b n) hA ha,
      ← times_assoc (times (powN a n) a) (powN b n) b (times_lt _ _ hA) hB]
/-- the power of 3 that an element is -/
def logs : List Nat := [0, 0, 25, 1, 50, 2, 26, 198, 75, 199, 27, 104, 51, 238, 223, 3, 100, 4, 224, 14, 52, 141, 129, 239, 76, 113, 8, 200, 248, 105, 28, 193, 125, 194, 29, 181, 249, 185, 39, 106, 77, 228, 166, 114, 154, 201, 9, 120, 101, 47, 138, 5, 33, 15, 225, 36, 18, 240, 130, 69, 53, 147, 218, 142, 150, 143, 219, 189, 54, 208, 206, 148, 19, 92, 210, 241, 64, 70, 131, 56, 102, 221, 253, 48, 191, 6, 139, 98, 179, 37, 226, 152, 34, 136, 145, 16, 126, 110, 72, 195, 163, 182, 30, 66, 58, 107, 40, 84, 250, 133, 61, 186, 43, 121, 10, 21, 155, 159, 94, 202, 78, 212, 172, 229, 243, 115, 167, 87, 175, 88, 168, 80, 244, 234, 214, 116, 79, 174, 233, 213, 231, 230, 173, 232, 44, 215, 117, 122, 235, 22, 11, 245, 89, 203, 95, 176, 156, 169, 81, 160, 127, 12, 246, 111, 23, 196, 73, 236, 216, 67, 31, 45, 164, 118, 123, 183, 204, 187, 62, 90, 251, 96, 177, 134, 59, 82, 161, 108, 170, 85, 41, 157, 151, 178, 135, 144, 97, 190, 220, 252, 188, 149, 207, 205, 55, 63, 91, 209, 83, 57, 132, 60, 65, 162, 109, 71, 20, 42, 158, 93, 86, 242, 211, 171, 68, 17, 146, 217, 35, 32, 46, 137, 180, 124, 184, 38, 119, 153, 227, 165, 103, 74, 237, 222, 197, 49, 254, 24, 13, 99, 140, 128, 192, 247, 112, 7]
/-- the powers of 3, one behind the other, are those that 'logs' says -/
def genChk : Nat → Nat → Nat → Bool
  | 0, _, x => Nat.beq x 1
  | n + 1, k, x => Nat.beq (logs.getD x 0) k && genChk n (k + 1) (times x 3)
theorem genChk_ok : genChk 255 0 1 = true := by decide +kernel
theorem gen_all (n k : Nat) (h : genChk n k (powN 3 k) = true) : powN 3 (k + n) = 1 ∧ ∀ j, k ≤ j → j < k + n → logs.getD (powN 3 j) 0 = j := by
  induction n generalizing k with
  | zero => exact ⟨Nat.eq_of_beq_eq_true h, fun j h1 h2 => by omega⟩
  | succ n ih =>
    simp only [genChk, Bool.and_eq_true] at h
    have := ih (k + 1) h.2
    refine ⟨by rw [← this.1]; congr 1; omega, fun j h1 h2 => ?_⟩
    by_cases e : j = k
    · subst e; exact Nat.eq_of_beq_eq_true h.1
    · exact this.2 j (by omega) (by omega)
theorem gen_one : powN 3 255 = 1 := by have := (gen_all 255 0 genChk_ok).1; simpa using this
theorem gen_log (j : Nat) (h : j < 255) : logs.getD (powN 3 j) 0 = j := (gen_all 255 0 genChk_ok).2 j (by omega) (by omega)
theorem gen_inj (i j : Nat) (hi : i < 255) (hj : j < 255) (h : powN 3 i = powN 3 j) : i = j := by rw [← gen_log i hi, ← gen_log j hj, h]
theorem pow_sq (x n : Nat) : powN x (2 * n) = powN x (n + n) := by congr 1; omega
/-- a power by squares, for the kernel -/
def fastP : Nat → Nat → Nat → Nat → Nat
  | 0, _, _, p => p
  | f + 1, x, n, p => fastP f (times x x) (n / 2) (if n % 2 = 1 then times p x else p)
theorem fastP_eq (f : Nat) : ∀ (x n p : Nat), x < 256 → p < 256 → n < 2 ^ f → fastP f x n p = times p (powN x n) := by
  induction f with
  | zero => intro x n p hx hp hn; have : n = 0 := by omega
            subst this; simp [fastP, powN, times_one]
  | succ f ih =>
    intro x n p hx hp hn
    have hxx := times_lt x x hx
    have hn2 : n / 2 < 2 ^ f := by have := Nat.pow_succ 2 f; omega
    have e2 : powN (times x x) (n / 2) = powN x (n / 2 + n / 2) := by rw [powN_times x x _ hx hx, powN_add _ _ _ hx]
    simp only [fastP]
    by_cases h : n % 2 = 1
    · rw [if_pos h, ih _ _ _ hxx (times_lt _ _ hp) hn2, e2]
      have e3 : powN x n = times x (powN x (n / 2 + n / 2)) := by
        have : n = 1 + (n / 2 + n / 2) := by omega
        conv => lhs; rw [this]
        rw [powN_add _ _ _ hx]
        simp [powN, one_times x hx]
      rw [e3, times_assoc _ _ _ hp hx]
    · rw [if_neg h, ih _ _ _ hxx hp hn2, e2]
      congr 2; omega
def logChk : Bool := allB (fun x => Nat.beq x 0 || Nat.beq (fastP 8 3 (logs.getD x 0) 1) x && Nat.ble (logs.getD x 0) 254) 256
theorem logChk_ok : logChk = true := by decide +kernel
theorem log_pow (x : Nat) (hx : x < 256) (h0 : x ≠ 0) : powN 3 (logs.getD x 0) = x ∧ logs.getD x 0 < 255 := by
  have h := allB_spec _ 256 logChk_ok x hx
  simp only [Bool.or_eq_true, Bool.and_eq_true] at h
  rcases h with h | ⟨h1, h2⟩
  · exact absurd (Nat.eq_of_beq_eq_true h) h0
  · have h3 := Nat.le_of_ble_eq_true h2
    have h1 := Nat.eq_of_beq_eq_true h1
    rw [fastP_eq 8 3 _ 1 (by omega) (by omega) (by omega), one_times _ (powN_lt _ _ (by omega))] at h1
    exact ⟨h1, by omega⟩
theorem pow255 (x : Nat) (hx : x < 256) (h0 : x ≠ 0) : powN x 255 = 1 := by
  obtain ⟨h1, _⟩ := log_pow x hx h0
  rw [← h1, ← powN_mul _ _ _ (by omega), Nat.mul_comm, powN_mul _ _ _ (by omega), gen_one, powN_one]
theorem pow_mod (x n o : Nat) (hx : x < 256) (h : powN x o = 1) : powN x n = powN x (n % o) := by
  have e : n = o * (n / o) + n % o := (Nat.div_add_mod n o).symm
  conv => lhs; rw [e]
  rw [powN_add _ _ _ hx, powN_mul _ _ _ hx, h, powN_one, one_times _ (powN_lt _ _ hx)]
/-- what makes 1 -/
def inv (a : Nat) : Nat := powN a 254
theorem inv_lt (a : Nat) (h : a < 256) : inv a < 256 := powN_lt a 254 h
theorem times_inv (a : Nat) (h : a < 256) (h0 : a ≠ 0) : times a (inv a) = 1 := by
  rw [times_comm _ _ h (inv_lt a h)]; exact pow255 a h h0
theorem inv_unique (a b : Nat) (h : a < 256) (hb : b < 256) (h0 : a ≠ 0) (hab : times a b = 1) : b = inv a := by
  have e : times (inv a) (times a b) = b := by
    rw [times_assoc _ _ _ (inv_lt a h) h, times_comm (inv a) a (inv_lt a h) h, times_inv a h h0, one_times b hb]
  rw [hab, times_one] at e
  exact e.symm
theorem no_zero (a b : Nat) (ha : a < 256) (hb : b < 256) (h : times a b = 0) : a = 0 ∨ b = 0 := by
  by_cases h0 : a = 0
  · exact .inl h0
  · right
    have e : times (inv a) (times a b) = b := by
      rw [times_assoc _ _ _ (inv_lt a ha) ha, times_comm (inv a) a (inv_lt a ha) ha, times_inv a ha h0, one_times b hb]
    rw [h, times_zero] at e
    exact e.symm
/-- the order -/
def IsOrd (a n : Nat) : Prop := 1 ≤ n ∧ powN a n = 1 ∧ ∀ j, 1 ≤ j → j < n → powN a j ≠ 1
theorem IsOrd.unique {a m n : Nat} (hm : IsOrd a m) (hn : IsOrd a n) : m = n := by
  rcases Nat.lt_trichotomy m n with h | h | h
  · exact absurd hm.2.1 (hn.2.2 m hm.1 h)
  · exact h
  · exact absurd hn.2.1 (hm.2.2 n hn.1 h)
theorem IsOrd.le {a n : Nat} (hn : IsOrd a n) (ha : a < 256) (h0 : a ≠ 0) : n ≤ 255 := by
  rcases Nat.lt_or_ge 255 n with h | h
  · exact absurd (pow255 a ha h0) (hn.2.2 255 (by omega) h)
  · exact h
theorem IsOrd.div {a n : Nat} (hn : IsOrd a n) (ha : a < 256) (h0 : a ≠ 0) : 255 % n = 0 := by
  rcases Nat.eq_zero_or_pos (255 % n) with h | h
  · exact h
  · exact absurd ((pow_mod a 255 n ha hn.2.1).symm.trans (pow255 a ha h0)) (hn.2.2 _ h (Nat.mod_lt _ (by have := hn.1; omega)))
/-! the reference's product -/
def cl (a b : Nat) : Nat → Nat
  | 0 => 0
  | k + 1 => cl a b k ^^^ (a * 2 ^ k * (b / 2 ^ k % 2))
def red (p : Nat) : Nat → Nat
  | 0 => p
  | k + 1 => red p k ^^^ (283 * 2 ^ (6 - k) * (red p k / 2 ^ (14 - k) % 2))
def refTimes (a b : Nat) : Nat := red (cl a b 8) 7
theorem sel_xor (t x y z : Nat) (h : z % 2 = (x % 2 + y % 2) % 2) : t * (z % 2) = (t * (x % 2)) ^^^ (t * (y % 2)) := by
  rw [h]
  rcases Nat.mod_two_eq_zero_or_one x with h | h <;> rcases Nat.mod_two_eq_zero_or_one y with h' | h' <;> simp [h, h']
theorem cl_xor (a b c k : Nat) : cl a (b ^^^ c) k = cl a b k ^^^ cl a c k := by
  induction k with
  | zero => simp [cl]
  | succ k ih =>
    simp only [cl]
    rw [ih, sel_xor _ _ _ _ (bit_xor b c k)]
    ac_rfl
theorem red_xor (p q k : Nat) : red (p ^^^ q) k = red p k ^^^ red q k := by
  induction k with
  | zero => rfl
  | succ k ih =>
    simp only [red]
    rw [ih, sel_xor _ _ _ _ (bit_xor (red p k) (red q k) (14 - k))]
    ac_rfl
def refChk : Bool := allB (fun x => allB (fun k => Nat.beq (times x (2 ^ k)) (refTimes x (2 ^ k))) 8) 256
theorem refChk_ok : refChk = true := by decide +kernel
theorem ref_times (a b : Nat) (ha : a < 256) (hb : b < 256) : refTimes a b = times a b := by
  refine additive_eq (refTimes a) (times a) (fun x y => ?_) (times_xor a) (fun k hk => ?_) b hb
  · unfold refTimes; rw [cl_xor, red_xor]
  · exact (Nat.eq_of_beq_eq_true (allB_spec _ 8 (allB_spec _ 256 refChk_ok a ha) k hk)).symm
end Go.Proofs.Ytdeljodfanfbmaa
