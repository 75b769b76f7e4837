/- The rest of chapter 04's walks: inverse, order and power, of the package and of the reference, and the liveness test. No condition but that arguments fit their kinds. -/
import Derived.Test.YtdeljodfanfbmaaFieldRefs
import Derived.Test.YtdeljodfanfbmaaFieldPow
namespace Go.Proofs.Ytdeljodfanfbmaa
open Go.RowKit
set_option linter.unusedVariables false

set_option maxRecDepth 100000 in
set_option maxHeartbeats 800000 in
theorem refinverse_any (a : Nat) (ha : a < 256) (w : World) :
    Calls Try.prog 19 #[.int .u8 (a : Int)] w fun e w' => e = .returned (.int .u8 (inv a : Int)) ∧ w = w' := by
  go_enter Try.func19, Try.ntmps19
  go_wp2
  go_loop [3] (fun i => ∃ k : Nat, 1 ≤ k ∧ k ≤ 256 ∧ i = .int .i64 (k : Int) ∧ Hid (∀ j, j < k → times a j ≠ 1)) (fun i => 256 - (intOf i).toNat)
  case atStart =>
    refine ⟨1, by omega, by omega, rfl, hide (fun j hj => ?_)⟩
    obtain rfl : j = 0 := by omega
    rw [times_zero]; omega
  case round =>
    obtain ⟨k, k1, k2, rfl, HK⟩ := hrel
    by_cases hlt : k < 256
    · have e8 : (k : Int) % 256 = (k : Int) := by omega
      have E8 := hide e8
      clear e8
      by_cases h1 : times a k = 1
      · have e1 : ((times a k : Int) == 1) = true := by rw [h1]; rfl
        have HI := hide (show k = inv a from inv_unique a k ha hlt (fun e => by rw [e, zero_times _ hlt] at h1; omega) h1)
        clear h1
        go_wp2_with (go_at_call 16; (try rw [E8.out]); with_reducible refine (reftimes_any a k (by assumption) (by assumption) _).mono ?_; rintro e w' ⟨rfl, rfl⟩)
        go_ret
        exact ⟨ret_u8 (by rw [← HI.out]), rfl⟩
      · have e1 : ((times a k : Int) == 1) = false := by simp; omega
        have HN := hide (show ∀ j, j < k + 1 → times a j ≠ 1 from fun j hj => by
          by_cases e : j = k
          · rw [e]; exact h1
          · exact HK.out j (by omega))
        clear h1
        go_wp2_with (go_at_call 16; (try rw [E8.out]); with_reducible refine (reftimes_any a k (by assumption) (by assumption) _).mono ?_; rintro e w' ⟨rfl, rfl⟩)
        go_round
        case rel => exact ⟨k + 1, by omega, by omega, by go_num, HN⟩
        case measure => simp [intOf]; omega
    · obtain rfl : k = 256 := by omega
      have hz : 0 = inv a := by
        by_cases h0 : a = 0
        · subst h0; unfold inv; exact (powN_zero 253).symm
        · exact absurd (times_inv a ha h0) (HK.out _ (inv_lt a ha))
      have HZ := hide hz
      clear hz
      go_wp2
      go_ret
      exact ⟨by rw [← HZ.out]; rfl, rfl⟩
/-- the order, and nothing for nought -/
def OrdOf (a n : Nat) : Prop := (a ≠ 0 → IsOrd a n) ∧ (a = 0 → n = 0)
theorem OrdOf.unique {a m n : Nat} (h : OrdOf a m) (h' : OrdOf a n) : m = n := by
  by_cases h0 : a = 0
  · rw [h.2 h0, h'.2 h0]
  · exact (h.1 h0).unique (h'.1 h0)
open Classical in
noncomputable def ordN (a : Nat) : Nat := if h : ∃ n, OrdOf a n then h.choose else 0
theorem ordN_of {a n : Nat} (h : OrdOf a n) : ordN a = n := by
  have hx : ∃ n, OrdOf a n := ⟨n, h⟩
  unfold ordN
  rw [dif_pos hx]
  exact hx.choose_spec.unique h
theorem pow_zero_all (n : Nat) (h : 1 ≤ n) : powN 0 n = 0 := by
  obtain ⟨k, rfl⟩ : ∃ k, n = k + 1 := ⟨n - 1, by omega⟩
  exact powN_zero k
set_option maxRecDepth 100000 in
set_option maxHeartbeats 800000 in
theorem reforder_any (a : Nat) (ha : a < 256) (w : World) :
    Calls Try.prog 21 #[.int .u8 (a : Int)] w fun e w' => e = .returned (.int .i64 (ordN a : Int)) ∧ w = w' := by
  go_enter Try.func21, Try.ntmps21
  go_wp2
  go_loop [3, 4] (fun p i => ∃ k : Nat, 1 ≤ k ∧ k ≤ 256 ∧ i = .int .i64 (k : Int) ∧ p = .int .u8 (powN a (k - 1) : Int) ∧ Hid (∀ j, 1 ≤ j → j < k → powN a j ≠ 1)) (fun _ i => 256 - (intOf i).toNat)
  case atStart => exact ⟨1, by omega, by omega, rfl, rfl, hide (fun j h1 h2 => by omega)⟩
  case round =>
    obtain ⟨k, k1, k2, rfl, rfl, HK⟩ := hrel
    obtain ⟨i, rfl⟩ : ∃ i, k = i + 1 := ⟨k - 1, by omega⟩
    simp only [Nat.add_sub_cancel]
    have hp := powN_lt a i ha
    by_cases hlt : i < 255
    · have hlt' : ((i + 1 : Nat) : Int) < 256 := by omega
      have HT : ∀ w, Calls Try.prog 16 #[.int .u8 (powN a i : Int), .int .u8 (a : Int)] w fun e w' => e = .returned (.int .u8 (powN a (i + 1) : Int)) ∧ w = w' := fun w => reftimes_any _ _ hp ha w
      have HT := hide HT
      have hq := powN_lt a (i + 1) ha
      have HI : powN a (i + 1) = 1 → ordN a = i + 1 := fun h1 => ordN_of ⟨fun _ => ⟨by omega, h1, HK.out⟩, fun h => by rw [h, powN_zero] at h1; omega⟩
      have HN : powN a (i + 1) ≠ 1 → ∀ j, 1 ≤ j → j < i + 1 + 1 → powN a j ≠ 1 := fun h1 j j1 j2 => by
          by_cases e : j = i + 1
          · rw [e]; exact h1
          · exact HK.out j j1 (by omega)
      have HQ : powN a (i + 1 + 1 - 1) = powN a (i + 1) := rfl
      have HN := hide HN
      have HI := hide HI
      generalize powN a i = q at hp HT ⊢
      generalize powN a (i + 1) = q1 at hq HT HI HN HQ
      have HQ := hide HQ
      clear HK
      by_cases h1 : q1 = 1
      · have e1 : ((q1 : Int) == 1) = true := by rw [h1]; rfl
        have HI := hide (HI.out h1)
        clear h1
        go_wp2_with (go_at_call 16; refine (HT.out _).mono ?_; rintro e w' ⟨rfl, rfl⟩)
        go_ret
        exact ⟨by rw [HI.out]; rfl, rfl⟩
      · have e1 : ((q1 : Int) == 1) = false := by simp; omega
        have HN := hide (HN.out h1)
        clear h1
        go_wp2_with (go_at_call 16; refine (HT.out _).mono ?_; rintro e w' ⟨rfl, rfl⟩)
        go_round
        case rel => exact ⟨i + 1 + 1, by omega, by omega, by go_num, by rw [HQ.out], HN⟩
        case measure => simp [intOf]; omega
    · obtain rfl : i = 255 := by omega
      have hz : ordN a = 0 := by
        refine ordN_of ⟨fun h0 => ?_, fun _ => rfl⟩
        exact absurd (pow255 a ha h0) (HK.out 255 (by omega) (by omega))
      have HZ := hide hz
      clear hz
      go_wp2
      go_ret
      exact ⟨by rw [HZ.out]; rfl, rfl⟩
theorem order_all (a : Nat) (ha : a < 256) (w : World) :
    Calls Try.prog 20 #[.int .u8 (a : Int)] w fun e w' => e = .returned (.int .i64 (ordN a : Int)) ∧ w = w' := by
  by_cases h0 : a = 0
  · subst h0
    refine (order_zero w).mono ?_
    rintro e w' ⟨rfl, rfl⟩
    exact ⟨by rw [ordN_of (n := 0) ⟨fun h => absurd rfl h, fun _ => rfl⟩]; rfl, rfl⟩
  · refine (order_any a ha h0 w).mono ?_
    rintro e w' ⟨⟨n, rfl, hn⟩, rfl⟩
    exact ⟨by rw [ordN_of (n := n) ⟨fun _ => hn, fun h => absurd h h0⟩], rfl⟩
theorem tmod_255 (n : Int) : n.tmod 255 % 255 = n % 255 := by
  have h1 : n.tmod 255 = n - 255 * n.tdiv 255 := by have := Int.tmod_add_mul_tdiv n 255; omega
  omega
theorem power_any (a : Nat) (n : Int) (ha : a < 256) (w : World) :
    Calls Try.prog 23 #[.int .u8 (a : Int), .int .i64 n] w fun e w' => e = .returned (.int .u8 (powI a n : Int)) ∧ w = w' := by
  by_cases hn : n = 0
  · subst hn
    go_enter Try.func23, Try.ntmps23
    go_wp2
    go_ret
    exact ⟨rfl, rfl⟩
  · have e1 : (n == 0) = false := by simp [hn]
    by_cases h0 : a = 0
    · subst h0
      have HZ := hide (powI_z n hn)
      clear hn
      go_enter Try.func23, Try.ntmps23
      go_wp2
      go_ret
      exact ⟨by rw [HZ.out]; rfl, rfl⟩
    · have e2 : ((a : Int) == 0) = false := by simp [h0]
      have hr : ∀ w, Calls Try.prog 54 #[.int .u8 (a : Int), .int .i64 (n.tmod 255 % 255)] w fun e w' => e = .returned (.int .u8 (powI a n : Int)) ∧ w = w' := fun w => by
        rw [tmod_255, powI_ne a n h0]
        obtain ⟨m, hm⟩ : ∃ m : Nat, n % 255 = (m : Int) := ⟨(n % 255).toNat, (Int.toNat_of_nonneg (by omega)).symm⟩
        have hm2 : m < 1000000 := by omega
        rw [hm, Int.toNat_natCast]
        exact raise_any a m ha hm2 w
      have HR := hide hr
      have hb := tmodN n 255 (by omega)
      have hb' : -255 < n.tmod 255 ∧ n.tmod 255 < 255 := hb
      clear hr hb h0 hn
      go_enter Try.func23, Try.ntmps23
      go_wp2_with (go_at_call 54; with_reducible refine (HR.out _).mono ?_; rintro e w' ⟨rfl, rfl⟩)
      go_ret
      exact ⟨rfl, rfl⟩
set_option maxRecDepth 100000 in
set_option maxHeartbeats 800000 in
theorem refpower_any (a : Nat) (n : Int) (ha : a < 256) (h1 : -1000 ≤ n) (h2 : n ≤ 1000) (w : World) :
    Calls Try.prog 24 #[.int .u8 (a : Int), .int .i64 n] w fun e w' => e = .returned (.int .u8 (powI a n : Int)) ∧ w = w' := by
  by_cases hn : n < 0
  · obtain ⟨m, rfl⟩ : ∃ m : Nat, n = -(m : Int) := ⟨(-n).toNat, by omega⟩
    have hb := inv_lt a ha
    have HR : ∀ w, Calls Try.prog 19 #[.int .u8 (a : Int)] w fun e w' => e = .returned (.int .u8 (inv a : Int)) ∧ w = w' := fun w => refinverse_any a ha w
    have HR := hide HR
    have HP := powI_neg a m ha
    generalize inv a = b at hb HR HP
    have HP := hide HP
    have hm : m ≤ 1000 := by omega
    have hm0 : 0 < m := by omega
    have d1 : decide (-(m : Int) < 0) = true := by simpa using hn
    clear hn h1 h2
    go_enter Try.func24, Try.ntmps24
    go_wp2_with (go_at_call 19; with_reducible refine (HR.out _).mono ?_; rintro e w' ⟨rfl, rfl⟩)
    go_loop [5, 6] (fun p i => ∃ k : Nat, k ≤ m ∧ i = .int .i64 (k : Int) ∧ p = .int .u8 (powN b k : Int)) (fun _ i => m - (intOf i).toNat)
    case atStart => exact ⟨0, by omega, rfl, rfl⟩
    case round =>
      obtain ⟨k, hk, rfl, rfl⟩ := hrel
      by_cases hlt : k < m
      · have hp := powN_lt b k hb
        go_wp2_with (go_at_call 16; with_reducible refine (reftimes_any _ _ (by assumption) (by assumption) _).mono ?_; rintro e w' ⟨rfl, rfl⟩)
        go_round
        case rel => exact ⟨k + 1, by omega, by go_num, rfl⟩
        case measure => simp [intOf]; omega
      · obtain rfl : k = m := by omega
        go_wp2
        go_ret
        exact ⟨by rw [← HP.out]; rfl, rfl⟩
  · obtain ⟨m, rfl⟩ : ∃ m : Nat, n = (m : Int) := ⟨n.toNat, by omega⟩
    have hm : m ≤ 1000 := by omega
    have d1 : decide ((m : Int) < 0) = false := by simp
    rw [powI_nat a m ha]
    clear hn h1 h2
    go_enter Try.func24, Try.ntmps24
    go_wp2
    go_loop [5, 6] (fun p i => ∃ k : Nat, k ≤ m ∧ i = .int .i64 (k : Int) ∧ p = .int .u8 (powN a k : Int)) (fun _ i => m - (intOf i).toNat)
    case atStart => exact ⟨0, by omega, rfl, rfl⟩
    case round =>
      obtain ⟨k, hk, rfl, rfl⟩ := hrel
      by_cases hlt : k < m
      · have hp := powN_lt a k ha
        go_wp2_with (go_at_call 16; with_reducible refine (reftimes_any _ _ (by assumption) (by assumption) _).mono ?_; rintro e w' ⟨rfl, rfl⟩)
        go_round
        case rel => exact ⟨k + 1, by omega, by go_num, rfl⟩
        case measure => simp [intOf]; omega
      · obtain rfl : k = m := by omega
        go_wp2
        go_ret
        exact ⟨rfl, rfl⟩
theorem ord3 : ordN 3 = 255 := by
  refine ordN_of ⟨fun _ => ⟨by omega, gen_one, fun j h1 h2 h => ?_⟩, fun h => by omega⟩
  have := gen_inj j 0 h2 (by omega) (by rw [h]; rfl)
  omega
theorem t87 : times 87 131 = 193 := by decide +kernel
theorem i83 : inv 83 = 202 := by decide +kernel
set_option maxRecDepth 100000 in
theorem alive04_any (w : World) :
    Calls Try.prog 22 #[] w fun e w' => e = .returned (.bool true) ∧ w = w' := by
  have H1 : ∀ w, Calls Try.prog 15 #[.int .u8 87, .int .u8 131] w fun e w' => e = .returned (.int .u8 193) ∧ w = w' := fun w => by
    have := times_any 87 131 (by omega) (by omega) w
    rw [t87] at this
    exact this
  have H2 : ∀ w, Calls Try.prog 18 #[.int .u8 83] w fun e w' => e = .returned (.int .u8 202) ∧ w = w' := fun w => by
    have := inverse_any 83 (by omega) w
    rw [i83] at this
    exact this
  have H3 : ∀ w, Calls Try.prog 20 #[.int .u8 3] w fun e w' => e = .returned (.int .i64 255) ∧ w = w' := fun w => by
    have := order_all 3 (by omega) w
    rw [ord3] at this
    exact this
  have H4 : ∀ w, Calls Try.prog 17 #[.int .u8 5, .int .u8 6] w fun e w' => e = .returned (.int .u8 3) ∧ w = w' := fun w => add04_any 5 6 (by omega) (by omega) w
  have H1 := hide H1
  have H2 := hide H2
  have H3 := hide H3
  have H4 := hide H4
  go_enter Try.func22, Try.ntmps22
  go_wp2_with (first
    | (go_at_call 15; with_reducible refine (H1.out _).mono ?_; rintro e w' ⟨rfl, rfl⟩)
    | (go_at_call 18; with_reducible refine (H2.out _).mono ?_; rintro e w' ⟨rfl, rfl⟩)
    | (go_at_call 20; with_reducible refine (H3.out _).mono ?_; rintro e w' ⟨rfl, rfl⟩)
    | (go_at_call 17; with_reducible refine (H4.out _).mono ?_; rintro e w' ⟨rfl, rfl⟩))
  go_ret
  exact ⟨rfl, rfl⟩
end Go.Proofs.Ytdeljodfanfbmaa
