/- The walks of package field: each function's contract. No condition but that arguments fit their kinds. -/
import Derived.Test.YtdeljodfanfbmaaMem
import Derived.Test.YtdeljodfanfbmaaField
import Derived.Test.YtdeljodfanfbmaaProg
namespace Go.Proofs.Ytdeljodfanfbmaa
open Go.RowKit
set_option linter.unusedVariables false

theorem tw_u8 (a : Nat) (h : a < 256) : bits .xor .u8 ((a : Int) * 2 % 256) (27 * ((a : Int) / 128)) = (tw a : Int) := by
  have e1 : (a : Int) * 2 % 256 = ((a * 2 % 256 : Nat) : Int) := by omega
  have e2 : 27 * ((a : Int) / 128) = ((27 * (a / 128) : Nat) : Int) := by omega
  rw [e1, e2, u8_xor_nat _ _ (by omega) (by omega)]; rfl
theorem twice_any (a : Nat) (h : a < 256) (w : World) :
    Calls Try.prog 53 #[.int .u8 (a : Int)] w fun e w' => e = .returned (.int .u8 (tw a : Int)) ∧ w = w' := by
  go_enter Try.func53, Try.ntmps53
  go_wp2
  go_ret
  exact ⟨ret_u8 (tw_u8 a h), rfl⟩
theorem times_step (a b k : Nat) (ha : a < 256) (hb : b < 256) : bits .xor .u8 (pN a b k : Int) ((twN a k : Int) * bits .and .u8 ((b : Int) / 2 ^ k) 1 % 256) = (pN a b (k + 1) : Int) := by
  have h1 := pN_lt a b k ha
  have h2 := twN_lt a k ha
  have hd : b / 2 ^ k < 256 := Nat.lt_of_le_of_lt (Nat.div_le_self _ _) hb
  have e1 : (b : Int) / 2 ^ k = ((b / 2 ^ k : Nat) : Int) := by simp
  have e2 : bits .and .u8 ((b : Int) / 2 ^ k) 1 = ((b / 2 ^ k % 2 : Nat) : Int) := by
    have := u8_and_nat (b / 2 ^ k) 1 hd (by omega)
    rw [Nat.and_one_is_mod] at this
    rw [e1]; exact this
  have h3 := mulbit_lt (twN a k) (b / 2 ^ k) h2
  have e3 : (twN a k : Int) * ((b / 2 ^ k % 2 : Nat) : Int) % 256 = ((twN a k * (b / 2 ^ k % 2) : Nat) : Int) := by
    rw [← Int.natCast_mul]
    omega
  rw [e2, e3, u8_xor_nat _ _ h1 h3]; rfl
theorem times_any (a b : Nat) (ha : a < 256) (hb : b < 256) (w : World) :
    Calls Try.prog 15 #[.int .u8 (a : Int), .int .u8 (b : Int)] w fun e w' => e = .returned (.int .u8 (times a b : Int)) ∧ w = w' := by
  go_enter Try.func15, Try.ntmps15
  go_wp2
  go_loop [0, 5, 7] (fun x p i => ∃ k : Nat, k ≤ 8 ∧ i = .int .i64 k ∧ x = .int .u8 (twN a k : Int) ∧ p = .int .u8 (pN a b k : Int)) (fun _ _ i => 8 - (intOf i).toNat)
  case atStart => exact ⟨0, by omega, rfl, rfl, rfl⟩
  case round =>
    obtain ⟨k, hk, rfl, rfl, rfl⟩ := hrel
    by_cases hlt : k < 8
    · have h2 := twN_lt a k ha
      have HS := hide (times_step a b k ha hb)
      go_wp2_with (go_at_call 53; refine (twice_any _ (by omega) _).mono ?_; rintro e w' ⟨rfl, rfl⟩)
      go_round
      case rel => exact ⟨k + 1, by omega, by go_num, rfl, int_u8 HS.out⟩
      case measure => simp [intOf]; omega
    · obtain rfl : k = 8 := by omega
      go_wp2
      go_ret
      exact ⟨rfl, rfl⟩
theorem add04_any (a b : Nat) (ha : a < 256) (hb : b < 256) (w : World) :
    Calls Try.prog 17 #[.int .u8 (a : Int), .int .u8 (b : Int)] w fun e w' => e = .returned (.int .u8 ((a ^^^ b : Nat) : Int)) ∧ w = w' := by
  go_enter Try.func17, Try.ntmps17
  go_wp2
  go_ret
  exact ⟨ret_u8 (u8_xor_nat a b ha hb), rfl⟩
theorem i64_and_one (n : Nat) (h : n < 4611686018427387904) : bits .and .i64 (n : Int) 1 = ((n % 2 : Nat) : Int) := by
  show IntKind.i64.wrap ((BitVec.ofInt 64 (n : Int) &&& BitVec.ofInt 64 1).toNat : Int) = _
  have e1 : (BitVec.ofInt 64 (n : Int)).toNat = n := by rw [BitVec.ofInt_natCast, BitVec.toNat_ofNat]; exact Nat.mod_eq_of_lt (by omega)
  have e2 : (BitVec.ofInt 64 1).toNat = 1 := by decide
  rw [BitVec.toNat_and, e1, e2, Nat.and_one_is_mod, IntWalk.i64_in _ (by omega)]
/-- what is left of a power while it is raised -/
theorem raise_step (p x n : Nat) (hp : p < 256) (hx : x < 256) : times (if n % 2 = 1 then times p x else p) (powN (times x x) (n / 2)) = times p (powN x n) := by
  have hxx := times_lt x x hx
  have e2 : powN (times x x) (n / 2) = powN x (n / 2 + n / 2) := by rw [powN_times x x _ hx hx, powN_add _ _ _ hx]
  rw [e2]
  by_cases h : n % 2 = 1
  · rw [if_pos h]
    have e3 : powN x n = times x (powN x (n / 2 + n / 2)) := by
      have : n = 1 + (n / 2 + n / 2) := by omega
      conv => lhs; rw [this]
      rw [powN_add _ _ _ hx]
      simp [powN, one_times x hx]
    rw [e3, times_assoc _ _ _ hp hx]
  · rw [if_neg h]
    congr 2; omega
set_option maxHeartbeats 400000 in
theorem raise_any (a n : Nat) (ha : a < 256) (hn : n < 1000000) (w : World) :
    Calls Try.prog 54 #[.int .u8 (a : Int), .int .i64 (n : Int)] w fun e w' => e = .returned (.int .u8 (powN a n : Int)) ∧ w = w' := by
  obtain ⟨t, ht⟩ : ∃ t, t = powN a n := ⟨_, rfl⟩
  rw [← ht]
  have HT := hide ht
  clear ht
  go_enter Try.func54, Try.ntmps54
  go_wp2
  go_loop [0, 1, 5] (fun x i p => ∃ (m A p0 : Nat), i = .int .i64 (m : Int) ∧ m < 1000000 ∧ x = .int .u8 (A : Int) ∧ A < 256 ∧ p = .int .u8 (p0 : Int) ∧ p0 < 256 ∧ Hid (times p0 (powN A m) = t)) (fun _ i _ => (intOf i).toNat)
  case atStart => exact ⟨n, a, 1, rfl, hn, rfl, ha, rfl, by omega, hide (by rw [HT.out, one_times _ (powN_lt _ _ ha)])⟩
  case round =>
    obtain ⟨m, A, p0, rfl, hm, rfl, hA, rfl, hp, HR⟩ := hrel
    by_cases h0 : m = 0
    · subst h0
      have e : t = p0 := by rw [← HR.out]; simp [powN, times_one]
      have E := hide e
      clear e
      go_wp2
      go_ret
      exact ⟨by rw [E.out]; rfl, rfl⟩
    · have h0' : (0 : Int) < (m : Int) := by omega
      have hs := raise_step p0 A m hp hA
      rw [HR.out] at hs
      by_cases h1 : m % 2 = 1
      · have e1 : (bits .and .i64 (m : Int) 1 == 1) = true := by rw [i64_and_one m (by omega), h1]; rfl
        rw [if_pos h1] at hs
        have HS := hide hs
        clear hs
        go_wp2_with (go_at_call 15; refine (times_any _ _ (by first | assumption | exact times_lt _ _ (by assumption)) (by assumption) _).mono ?_; rintro e w' ⟨rfl, rfl⟩)
        go_round
        case rel => exact ⟨m / 2, times A A, times p0 A, by go_num, by omega, rfl, times_lt _ _ hA, rfl, times_lt _ _ hp, HS⟩
        case measure => simp [intOf]; omega
      · have e1 : (bits .and .i64 (m : Int) 1 == 1) = false := by
          have : m % 2 = 0 := by omega
          rw [i64_and_one m (by omega), this]; rfl
        rw [if_neg h1] at hs
        have HS := hide hs
        clear hs
        go_wp2_with (go_at_call 15; refine (times_any _ _ (by assumption) (by assumption) _).mono ?_; rintro e w' ⟨rfl, rfl⟩)
        go_round
        case rel => exact ⟨m / 2, times A A, p0, by go_num, by omega, rfl, times_lt _ _ hA, rfl, hp, HS⟩
        case measure => simp [intOf]; omega
theorem inverse_any (a : Nat) (ha : a < 256) (w : World) :
    Calls Try.prog 18 #[.int .u8 (a : Int)] w fun e w' => e = .returned (.int .u8 (inv a : Int)) ∧ w = w' := by
  have hr : ∀ w, Calls Try.prog 54 #[.int .u8 (a : Int), .int .i64 254] w fun e w' => e = .returned (.int .u8 (inv a : Int)) ∧ w = w' := fun w => raise_any a 254 ha (by omega) w
  have HR := hide hr
  clear hr
  go_enter Try.func18, Try.ntmps18
  go_wp2_with (go_at_call 54; refine (HR.out _).mono ?_; rintro e w' ⟨rfl, rfl⟩)
  go_ret
  exact ⟨rfl, rfl⟩
theorem order_zero (w : World) :
    Calls Try.prog 20 #[.int .u8 0] w fun e w' => e = .returned (.int .i64 0) ∧ w = w' := by
  go_enter Try.func20, Try.ntmps20
  go_wp2
  go_ret
  exact ⟨rfl, rfl⟩
theorem powN_1 (a : Nat) (h : a < 256) : powN a 1 = a := by simp [powN, one_times a h]
theorem order_any (a : Nat) (ha : a < 256) (h0 : a ≠ 0) (w : World) :
    Calls Try.prog 20 #[.int .u8 (a : Int)] w fun e w' => (∃ n : Nat, e = .returned (.int .i64 (n : Int)) ∧ IsOrd a n) ∧ w = w' := by
  have h0' : ((a : Int) == 0) = false := by simp [h0]
  have P1 := hide (powN_1 a ha)
  clear h0
  have h00 := hide (show a ≠ 0 by simpa using h0')
  go_enter Try.func20, Try.ntmps20
  go_wp2
  go_loop [3, 4] (fun i p => ∃ n q : Nat, 1 ≤ n ∧ n ≤ 255 ∧ i = .int .i64 (n : Int) ∧ p = .int .u8 (q : Int) ∧ q < 256 ∧ Hid (q = powN a n ∧ ∀ j, 1 ≤ j → j < n → powN a j ≠ 1)) (fun i _ => 255 - (intOf i).toNat)
  case atStart => exact ⟨1, a, by omega, by omega, rfl, rfl, ha, hide ⟨P1.out.symm, fun j h1 h2 => by omega⟩⟩
  case round =>
    obtain ⟨n, q, n1, n2, rfl, rfl, hq, HQ⟩ := hrel
    by_cases h1 : q = 1
    · have e1 : ((q : Int) != 1) = false := by simp [h1]
      have HI := hide (show IsOrd a n from ⟨n1, by rw [← HQ.out.1, h1], HQ.out.2⟩)
      clear h1
      go_wp2
      go_ret
      exact ⟨⟨n, rfl, HI.out⟩, rfl⟩
    · have e1 : ((q : Int) != 1) = true := by rw [bne_iff_ne]; omega
      have n3 : n < 255 := by
        rcases Nat.lt_or_ge n 255 with h | h
        · exact h
        · exfalso
          have : n = 255 := by omega
          have h2 := HQ.out.1
          rw [this, pow255 a ha h00.out] at h2
          exact h1 h2
      have HN := hide (show times q a = powN a (n + 1) ∧ ∀ j, 1 ≤ j → j < n + 1 → powN a j ≠ 1 from ⟨by rw [HQ.out.1]; rfl, fun j j1 j2 => by
        by_cases e : j = n
        · subst e; rw [← HQ.out.1]; exact h1
        · exact HQ.out.2 j j1 (by omega)⟩)
      clear h1
      go_wp2_with (go_at_call 15; refine (times_any _ _ (by assumption) (by assumption) _).mono ?_; rintro e w' ⟨rfl, rfl⟩)
      go_round
      case rel => exact ⟨n + 1, times q a, by omega, by omega, by go_num, rfl, times_lt _ _ hq, HN⟩
      case measure => simp [intOf]; omega
end Go.Proofs.Ytdeljodfanfbmaa
