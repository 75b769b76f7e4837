/- The walks of tier.Next and of the reference's First. Condition: at most 300 tiers. -/
import Derived.Test.YtccpkafmbmkmfaaTierWalks
namespace Go.Proofs.Ytccpkafmbmkmfaa
open Go.RowKit
set_option linter.unusedVariables false

theorem next_any (b h : Nat) (s m : Int) (hb : b ≤ 4294967295) (hh : h ≤ 4294967295) (s0 : -9223372036854775808 ≤ s) (s1 : s ≤ 9223372036854775807) (m0 : -9223372036854775808 ≤ m) (m1 : m ≤ 300) (w : World) :
    Calls Try.prog 16 #[.int .u32 (b : Int), .int .u32 (h : Int), .int .i64 s, .int .i64 m] w fun e w' =>
      (e = .returned (.tuple #[.int .u32 0, .bool false]) ∧ NoNext b h s m ∨ ∃ v : Nat, e = .returned (.tuple #[.int .u32 (v : Int), .bool true]) ∧ v ≤ 4294967295 ∧ (v : Int) = nextAt b h s m ∧ ¬ NoNext b h s m) ∧ w = w' := by
  obtain ⟨n, hn⟩ : ∃ n, n = tierAt b h s m := ⟨_, rfl⟩
  have p0 := tierAt_pos b h s m
  have p1 := tierAt_few b h s m
  have hc := at_any b h s m hb hh s0 s1 m0 (by omega)
  unfold NoNext nextAt
  rw [← hn] at p0 p1 hc ⊢
  have f1 := farS_pos s
  have f2 := farS_le s s1
  have HC := hide hc
  have HN := hide hn
  clear hc hn
  by_cases c1 : m < 1
  · by_cases c3 : s < 1
    all_goals
      go_enter Try.func16, Try.ntmps16
      go_wp2_with (go_at_call 14; refine (HC.out _).mono ?_; rintro e w' ⟨rfl, rfl⟩)
      go_ret2
      exact ⟨.inl ⟨rfl, .inl c1⟩, rfl⟩
  by_cases c2 : m - 1 ≤ n
  · by_cases c3 : s < 1
    all_goals
      go_enter Try.func16, Try.ntmps16
      go_wp2_with (go_at_call 14; refine (HC.out _).mono ?_; rintro e w' ⟨rfl, rfl⟩)
      go_ret2
      exact ⟨.inl ⟨rfl, .inr (.inl c2)⟩, rfl⟩
  by_cases c3 : s < 1
  · have e3 : farS s = 1 := by simp [farS, c3]
    rw [e3] at f1 f2 ⊢
    have c2' : n < m - 1 := by omega
    by_cases c4 : 4294967295 < (b : Int) + (n + 1)
    · go_enter Try.func16, Try.ntmps16
      go_wp2_with (go_at_call 14; refine (HC.out _).mono ?_; rintro e w' ⟨rfl, rfl⟩)
      go_ret2
      exact ⟨.inl ⟨rfl, .inr (.inr (.inr (by omega)))⟩, rfl⟩
    · go_enter Try.func16, Try.ntmps16
      go_wp2_with (go_at_call 14; refine (HC.out _).mono ?_; rintro e w' ⟨rfl, rfl⟩)
      go_ret2
      exact ⟨.inr ⟨((b : Int) + (n + 1)).toNat, by simp; omega, by omega, by omega, by omega⟩, rfl⟩
  · have e3 : farS s = s := by simp [farS, c3]
    rw [e3] at f1 f2 ⊢
    have c2' : n < m - 1 := by omega
    by_cases c5 : 4294967295 < s
    · go_enter Try.func16, Try.ntmps16
      go_wp2_with (go_at_call 14; refine (HC.out _).mono ?_; rintro e w' ⟨rfl, rfl⟩)
      go_ret2
      exact ⟨.inl ⟨rfl, .inr (.inr (.inl c5))⟩, rfl⟩
    have q0 : 0 ≤ s * (n + 1) := Int.mul_nonneg (by omega) (by omega)
    have q1 : s * (n + 1) ≤ 4294967295 * 300 := Int.mul_le_mul (by omega) (by omega) (by omega) (by omega)
    by_cases c4 : 4294967295 < (b : Int) + s * (n + 1)
    · go_enter Try.func16, Try.ntmps16
      go_wp2_with (go_at_call 14; refine (HC.out _).mono ?_; rintro e w' ⟨rfl, rfl⟩)
      go_ret2
      exact ⟨.inl ⟨rfl, .inr (.inr (.inr c4))⟩, rfl⟩
    · go_enter Try.func16, Try.ntmps16
      go_wp2_with (go_at_call 14; refine (HC.out _).mono ?_; rintro e w' ⟨rfl, rfl⟩)
      go_ret2
      exact ⟨.inr ⟨((b : Int) + s * (n + 1)).toNat, by simp; omega, by omega, by omega, by omega⟩, rfl⟩
end Go.Proofs.Ytccpkafmbmkmfaa
