/- Chapter 02's reference: the primes; package sha's Constant and Start. Condition: a place from 0 to 63. -/
import Derived.Test.YtdikknfdgpdenaaRoots
import Derived.Test.YtdikknfdgpdenaaShaAlive
namespace Go.Proofs.Ytdikknfdgpdenaa
open Go.RowKit
set_option linter.unusedVariables false
set_option linter.unusedSimpArgs false

theorem u64_in (n : Int) (h : 0 ≤ n ∧ n ≤ 18446744073709551615) : IntKind.u64.wrap n = n := by rw [IntKind.wrap_u64]; omega
set_option maxRecDepth 100000 in
set_option maxHeartbeats 800000 in
theorem prime_any (i : Nat) (hi : i < 64) (w : World) : Calls Try.prog 43 #[.int .i64 (i : Int)] w fun e w' => e = .returned (.int .u64 (primeP (i + 1) : Int)) ∧ w = w' := by
  have hi1 : (i : Int) < 64 := by omega
  go_enter Try.func43, Try.ntmps43
  go_wp2
  go_loop [3, 4] (fun x y => ∃ k : Nat, k ≤ i + 1 ∧ y = .int .i64 (k : Int) ∧ x = .int .u64 (primeP k : Int)) (fun _ y => i + 1 - (intOf y).toNat)
  case atStart => exact ⟨0, by omega, rfl, rfl⟩
  case round =>
    obtain ⟨k, hk, rfl, rfl⟩ := hrel
    by_cases hlt : k ≤ i
    · have hd : decide ((k : Int) ≤ (i : Int)) = true := by simp; omega
      have hk64 : k < 64 := by omega
      obtain ⟨hup, h311⟩ := prime_up hk64
      obtain ⟨p, hp⟩ : ∃ p, p = primeP k := ⟨_, rfl⟩
      obtain ⟨q, hq⟩ : ∃ q, q = primeP (k + 1) := ⟨_, rfl⟩
      have HG : Hid (∀ n, p < n → n < q → ∃ e, 2 ≤ e ∧ e * e ≤ n ∧ n % e = 0) := hide (by rw [hp, hq]; exact fun n h1 h2 => prime_gap hk64 h1 h2)
      have HPr : Hid (∀ e, 2 ≤ e → e * e ≤ q → q % e ≠ 0) := hide (by rw [hq]; exact fun e h1 h2 => prime_prime hk64 h1 h2)
      rw [← hp, ← hq] at hup
      rw [← hq] at h311
      rw [← hp]
      replace hp := hide hp
      replace hq := hide hq
      have hp1 : (p : Int) < 311 := by omega
      have hpw := u64_in ((p : Int) + 1) (by omega)
      have hpe : (p : Int) + 1 = ((p + 1 : Nat) : Int) := by omega
      replace hpe := hide hpe
      have hk0 : (0 : Int) ≤ (k : Int) := by omega
      have hk1 : (k : Int) < 64 := by omega
      go_wp2
      go_loop [3, 5] (fun x y => ∃ n d : Nat, x = .int .u64 (n : Int) ∧ y = .int .u64 (d : Int) ∧ p < n ∧ n ≤ q ∧ 2 ≤ d ∧ d ≤ 18 ∧ Hid (∀ e, 2 ≤ e → e < d → n % e ≠ 0)) (fun x y => (q - (intOf x).toNat) * 100 + (100 - (intOf y).toNat))
      case atStart => exact ⟨p + 1, 2, int_u64 (by omega), rfl, by omega, by omega, by omega, by omega, hide (fun e h1 h2 => by omega)⟩
      case round =>
        obtain ⟨n, d, rfl, rfl, hpn, hnq, hd2, hd18, hno⟩ := hrel
        obtain ⟨s, hs⟩ : ∃ s, s = d * d := ⟨_, rfl⟩
        have hs1 : s ≤ 18 * 18 := by rw [hs]; exact Nat.mul_le_mul hd18 hd18
        have hs2 : (d : Int) * (d : Int) = (s : Int) := by rw [hs]; simp
        have hs3 := u64_in (s : Int) (by omega)
        by_cases hle : s ≤ n
        · have hd' : decide ((s : Int) ≤ (n : Int)) = true := by simp; omega
          obtain ⟨r, hr⟩ : ∃ r, r = n % d := ⟨_, rfl⟩
          have hr1 : (n : Int) % (d : Int) = (r : Int) := by rw [hr]; simp
          have hr2 : Int.tmod (n : Int) (d : Int) = (r : Int) := by rw [Int.tmod_eq_emod_of_nonneg (by omega), hr1]
          have hdz : ((d : Int) == 0) = false := by rw [beq_eq_false_iff_ne]; omega
          have hdn : ¬ d = 0 := by omega
          have hdp : 0 < d := by omega
          have hnw := u64_in ((n : Int) + 1) (by omega)
          have hdw := u64_in ((d : Int) + 1) (by omega)
          by_cases hr0 : r = 0
          · have hrz : ((r : Int) == 0) = true := by rw [hr0]; rfl
            have hlt2 : n < q := by
              rcases Nat.lt_or_ge n q with h | h
              · exact h
              · have e : n = q := by omega
                exact absurd (by rw [← e, ← hr, hr0]) (HPr.out d hd2 (by rw [← e, ← hs]; exact hle))
            clear hs hr hr0
            go_wp2
            go_round
            case rel => exact ⟨n + 1, 2, int_u64 (by omega), rfl, by omega, by omega, by omega, by omega, hide (fun e h1 h2 => by omega)⟩
            case measure => simp [intOf]; omega
          · have hrz : ((r : Int) == 0) = false := by rw [beq_eq_false_iff_ne]; omega
            have hno2 : Hid (∀ e, 2 ≤ e → e < d + 1 → n % e ≠ 0) := hide (fun e h1 h2 => by
              by_cases h : e = d
              · subst h; rw [← hr]; exact hr0
              · exact hno.out e h1 (by omega))
            have hd17 : d ≤ 17 := by
              rcases Nat.lt_or_ge d 18 with h | h
              · omega
              · have : 18 * 18 ≤ d * d := Nat.mul_le_mul h h
                omega
            clear hs hr hno
            go_wp2
            go_round
            case rel => exact ⟨n, d + 1, rfl, int_u64 (by omega), hpn, hnq, by omega, by omega, hno2⟩
            case measure => simp [intOf]; omega
        · have hd' : decide ((s : Int) ≤ (n : Int)) = false := by simp; omega
          have heq : n = q := by
            rcases Nat.lt_or_ge n q with h | h
            · obtain ⟨e, h1, h2, h3⟩ := HG.out n hpn h
              rcases Nat.lt_or_ge e d with h4 | h4
              · exact absurd h3 (hno.out e h1 h4)
              · have : d * d ≤ e * e := Nat.mul_le_mul h4 h4
                omega
            · omega
          subst heq
          clear hs hno
          go_wp2
          go_round
          case rel => exact ⟨k + 1, by omega, int_succ k, by rw [hq.out]⟩
          case measure => simp [intOf]; omega
    · obtain rfl : k = i + 1 := by omega
      have hd : decide (((i + 1 : Nat) : Int) ≤ (i : Int)) = false := by simp; omega
      go_wp2
      go_ret
      exact ⟨rfl, rfl⟩
end Go.Proofs.Ytdikknfdgpdenaa
