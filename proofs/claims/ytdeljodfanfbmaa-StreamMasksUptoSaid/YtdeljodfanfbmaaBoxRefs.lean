/- The walks of chapter 05's reference: a byte's substitute, whose substitute a byte is, a word's. No condition but that arguments fit their kinds. -/
import Derived.Test.YtdeljodfanfbmaaBoxWalks
namespace Go.Proofs.Ytdeljodfanfbmaa
open Go.RowKit
set_option linter.unusedVariables false

theorem refsub_any (x : Nat) (hx : x < 256) (w : World) :
    Calls Try.prog 27 #[.int .u8 (x : Int)] w fun e w' => e = .returned (.int .u8 (sub x : Int)) ∧ ∃ n, w' = w.drewN n := by
  have hi := inv_lt x hx
  have H1 : ∀ w, Calls Try.prog 19 #[.int .u8 (x : Int)] w fun e w' => e = .returned (.int .u8 (inv x : Int)) ∧ w = w' := fun w => refinverse_any x hx w
  have H2 : ∀ w, Calls Try.prog 56 #[.int .i64 (inv x : Int)] w fun e w' => e = .returned (.int .u8 (sub x : Int)) ∧ ∃ n, w' = w.drewN n := fun w => shifted_any (inv x) hi w
  replace H1 := hide H1
  replace H2 := hide H2
  go_enter Try.func27, Try.ntmps27
  go_wp2_with (first
    | (go_at_call 19; with_reducible refine (H1.out _).mono ?_; rintro e w' ⟨rfl, rfl⟩)
    | (go_at_call 56; with_reducible refine (H2.out _).mono ?_; rintro e w' ⟨rfl, n, rfl⟩))
  go_ret
  exact ⟨rfl, _, rfl⟩
set_option maxRecDepth 100000 in
set_option maxHeartbeats 800000 in
theorem refback_any (x : Nat) (hx : x < 256) (w : World) :
    Calls Try.prog 29 #[.int .u8 (x : Int)] w fun e w' => e = .returned (.int .u8 (back x : Int)) ∧ ∃ n, w' = w.drewN n := by
  go_enter Try.func29, Try.ntmps29
  go_wp2
  go_loopw [3] (fun i wr => ∃ k : Nat, k ≤ 256 ∧ i = .int .i64 (k : Int) ∧ Hid (∀ j, j < k → sub j ≠ x) ∧ ∃ j, wr = w.drewN j) (fun i _ => 256 - (intOf i).toNat)
  case atStart => exact ⟨0, by omega, rfl, hide (fun j h => by omega), 0, rfl⟩
  case round =>
    obtain ⟨k, hk, rfl, HK, j, rfl⟩ := hrel
    by_cases hlt : k < 256
    · have e8 : (k : Int) % 256 = (k : Int) := by omega
      have E8 := hide e8
      clear e8
      have hs := sub_lt k hlt
      have H1 : ∀ w, Calls Try.prog 27 #[.int .u8 (k : Int)] w fun e w' => e = .returned (.int .u8 (sub k : Int)) ∧ ∃ n, w' = w.drewN n := fun w => refsub_any k hlt w
      replace H1 := hide H1
      by_cases h1 : sub k = x
      · have e1 : ((sub k : Int) == (x : Int)) = true := by rw [h1]; simp
        have HI := hide (show k = back x by rw [← h1, back_sub k hlt])
        clear h1
        go_wp2_with (go_at_call 27; (try rw [E8.out]); with_reducible refine (H1.out _).mono ?_; rintro e w' ⟨rfl, n, rfl⟩)
        go_ret
        exact ⟨ret_u8 (by rw [← HI.out]), _, rfl⟩
      · have e1 : ((sub k : Int) == (x : Int)) = false := by simp; omega
        have HN := hide (show ∀ j, j < k + 1 → sub j ≠ x from fun j hj => by
          by_cases e : j = k
          · rw [e]; exact h1
          · exact HK.out j (by omega))
        clear h1
        go_wp2_with (go_at_call 27; (try rw [E8.out]); with_reducible refine (H1.out _).mono ?_; rintro e w' ⟨rfl, n, rfl⟩)
        go_roundw
        case rel => exact ⟨k + 1, by omega, by go_num, HN, _, rfl⟩
        case measure => simp [intOf]; omega
    · exact absurd (sub_back x hx) (HK.out (back x) (by have := back_lt x hx; omega))
/-- a word's substitute -/
def subW (n : Nat) : Nat := sub (n / 16777216) * 16777216 + sub (n / 65536 % 256) * 65536 + sub (n / 256 % 256) * 256 + sub (n % 256)
set_option maxRecDepth 100000 in
set_option maxHeartbeats 800000 in
theorem refword_any (n : Nat) (hn : n < 4294967296) (w : World) :
    Calls Try.prog 31 #[.int .u32 (n : Int)] w fun e w' => e = .returned (.int .u32 (subW n : Int)) ∧ ∃ n, w' = w.drewN n := by
  have H3 : ∀ w, Calls Try.prog 27 #[.int .u8 ((n : Int) / 16777216)] w fun e w' => e = .returned (.int .u8 (sub (n / 16777216) : Int)) ∧ ∃ n, w' = w.drewN n := fun w => refsub_any (n / 16777216) (by omega) w
  have H2 : ∀ w, Calls Try.prog 27 #[.int .u8 ((n : Int) / 65536 % 256)] w fun e w' => e = .returned (.int .u8 (sub (n / 65536 % 256) : Int)) ∧ ∃ n, w' = w.drewN n := fun w => refsub_any (n / 65536 % 256) (by omega) w
  have H1 : ∀ w, Calls Try.prog 27 #[.int .u8 ((n : Int) / 256 % 256)] w fun e w' => e = .returned (.int .u8 (sub (n / 256 % 256) : Int)) ∧ ∃ n, w' = w.drewN n := fun w => refsub_any (n / 256 % 256) (by omega) w
  have H0 : ∀ w, Calls Try.prog 27 #[.int .u8 ((n : Int) % 256)] w fun e w' => e = .returned (.int .u8 (sub (n % 256) : Int)) ∧ ∃ n, w' = w.drewN n := fun w => refsub_any (n % 256) (by omega) w
  have HE : Hid (subW n = sub (n / 16777216) * 16777216 + sub (n / 65536 % 256) * 65536 + sub (n / 256 % 256) * 256 + sub (n % 256)) := hide rfl
  replace H3 := hide H3
  replace H2 := hide H2
  replace H1 := hide H1
  replace H0 := hide H0
  have b3 := sub_lt (n / 16777216) (by omega)
  have b2 := sub_lt (n / 65536 % 256) (by omega)
  have b1 := sub_lt (n / 256 % 256) (by omega)
  have b0 := sub_lt (n % 256) (by omega)
  generalize sub (n / 16777216) = s3 at *
  generalize sub (n / 65536 % 256) = s2 at *
  generalize sub (n / 256 % 256) = s1 at *
  generalize sub (n % 256) = s0 at *
  generalize subW n = S at *
  go_enter Try.func31, Try.ntmps31
  go_wp2
  go_loopw [3, 4] (fun o i wr => ∃ k : Nat, k ≤ 4 ∧ i = .int .i64 (3 - (k : Int)) ∧ o = .int .u32 (if k = 0 then (0 : Int) else if k = 1 then (s3 : Int) else if k = 2 then (256 * s3 + s2 : Int) else if k = 3 then 256 * (256 * s3 + s2) + s1 else S) ∧ ∃ j, wr = w.drewN j) (fun _ i _ => (intOf i + 1).toNat)
  case atStart => exact ⟨0, by omega, rfl, rfl, 0, rfl⟩
  case round =>
    obtain ⟨k, hk, rfl, rfl, j, rfl⟩ := hrel
    rcases (by omega : k = 0 ∨ k = 1 ∨ k = 2 ∨ k = 3 ∨ k = 4) with rfl | rfl | rfl | rfl | rfl
    · go_wp2_with (go_at_call 27; with_reducible refine (H3.out _).mono ?_; rintro e w' ⟨rfl, n, rfl⟩)
      go_roundw
      case rel => exact ⟨1, by omega, rfl, by first | rfl | simp, _, rfl⟩
      case measure => simp [intOf]
    · go_wp2_with (go_at_call 27; with_reducible refine (H2.out _).mono ?_; rintro e w' ⟨rfl, n, rfl⟩)
      go_roundw
      case rel => exact ⟨2, by omega, rfl, by first | rfl | simp, _, rfl⟩
      case measure => simp [intOf]
    · go_wp2_with (go_at_call 27; with_reducible refine (H1.out _).mono ?_; rintro e w' ⟨rfl, n, rfl⟩)
      go_roundw
      case rel => exact ⟨3, by omega, rfl, by first | rfl | simp, _, rfl⟩
      case measure => simp [intOf]
    · go_wp2_with (go_at_call 27; with_reducible refine (H0.out _).mono ?_; rintro e w' ⟨rfl, n, rfl⟩)
      go_roundw
      case rel => exact ⟨4, by omega, rfl, by rw [HE.out]; simp; omega, _, rfl⟩
      case measure => simp [intOf]
    · go_wp2
      go_ret
      exact ⟨rfl, _, rfl⟩
end Go.Proofs.Ytdeljodfanfbmaa
