/- The walks of package tier and of its reference. No condition but that arguments fit their kinds. -/
import Derived.Test.YtccpkafmbmkmfaaMem
import Derived.Test.YtccpkafmbmkmfaaProg
namespace Go.Proofs.Ytccpkafmbmkmfaa
open Go.RowKit
set_option linter.unusedVariables false

/-- the step, at least 1 -/
def farS (s : Int) : Int := if s < 1 then 1 else s
theorem farS_pos (s : Int) : 1 ≤ farS s := by unfold farS; split <;> omega
theorem farS_le (s : Int) (h : s ≤ 9223372036854775807) : farS s ≤ 9223372036854775807 := by unfold farS; split <;> omega
/-- the tier due -/
def tierAt (b h : Nat) (s m : Int) : Int := if h ≤ b ∨ m < 1 then 0 else min (((h : Int) - b) / farS s) (m - 1)
theorem at_any (b h : Nat) (s m : Int) (hb : b ≤ 4294967295) (hh : h ≤ 4294967295) (s0 : -9223372036854775808 ≤ s) (s1 : s ≤ 9223372036854775807) (m0 : -9223372036854775808 ≤ m) (m1 : m ≤ 9223372036854775807) (w : World) :
    Calls Try.prog 14 #[.int .u32 (b : Int), .int .u32 (h : Int), .int .i64 s, .int .i64 m] w fun e w' => e = .returned (.int .i64 (tierAt b h s m)) ∧ w = w' := by
  by_cases c1 : h ≤ b
  · have c1' : (h : Int) ≤ (b : Int) := by omega
    go_enter Try.func14, Try.ntmps14
    go_wp2
    go_ret
    exact ⟨by simp [tierAt, c1], rfl⟩
  have c1' : ¬ (h : Int) ≤ (b : Int) := by omega
  by_cases c2 : m < 1
  · go_enter Try.func14, Try.ntmps14
    go_wp2
    go_ret
    exact ⟨by simp [tierAt, c2], rfl⟩
  by_cases c3 : s < 1
  · have ef : farS s = 1 := by simp [farS, c3]
    have EF := hide ef
    clear ef
    by_cases c4 : (h : Int) - (b : Int) ≤ m - 1
    · go_enter Try.func14, Try.ntmps14
      go_wp2
      go_ret
      refine ⟨ret_i64 ?_, rfl⟩
      unfold tierAt
      rw [if_neg (by omega), EF.out, Int.ediv_one, Int.min_def, if_pos c4]
    · have c4' : m - 1 < (h : Int) - (b : Int) := by omega
      go_enter Try.func14, Try.ntmps14
      go_wp2
      go_ret
      refine ⟨ret_i64 ?_, rfl⟩
      unfold tierAt
      rw [if_neg (by omega), EF.out, Int.ediv_one, Int.min_def, if_neg (by omega)]
  · have ef : farS s = s := by simp [farS, c3]
    have EF := hide ef
    clear ef
    have q0 : 0 ≤ ((h : Int) - (b : Int)) / s := Int.ediv_nonneg (by omega) (by omega)
    have q1 : ((h : Int) - (b : Int)) / s ≤ 4294967295 := Int.le_trans (Int.ediv_le_self _ (by omega)) (by omega)
    by_cases c4 : ((h : Int) - (b : Int)) / s ≤ m - 1
    · go_enter Try.func14, Try.ntmps14
      go_wp2
      go_ret
      refine ⟨ret_i64 ?_, rfl⟩
      unfold tierAt
      rw [if_neg (by omega), EF.out, Int.min_def, if_pos c4]
    · have c4' : m - 1 < ((h : Int) - (b : Int)) / s := by omega
      go_enter Try.func14, Try.ntmps14
      go_wp2
      go_ret
      refine ⟨ret_i64 ?_, rfl⟩
      unfold tierAt
      rw [if_neg (by omega), EF.out, Int.min_def, if_neg (by omega)]
/-- the reference's At: one tier a round -/
theorem refat_step {g f q : Int} {n : Nat} (hq : q = g / f) (hf : 1 ≤ f) (hg : 0 ≤ g) : f ≤ g - n * f ↔ (n : Int) + 1 ≤ q := by
  subst hq
  rw [Int.le_ediv_iff_mul_le (by omega)]
  constructor
  · intro h
    have : (n + 1 : Int) * f = n * f + f := by rw [Int.add_mul, Int.one_mul]
    omega
  · intro h
    have : (n + 1 : Int) * f = n * f + f := by rw [Int.add_mul, Int.one_mul]
    omega
theorem tierAt_range {b h : Nat} {t f m : Int} (ht : t = if h ≤ b ∨ m < 1 then 0 else min (((h : Int) - b) / f) (m - 1)) (hf : 1 ≤ f) (hm : 1 ≤ m) : 0 ≤ t ∧ t ≤ m - 1 := by
  by_cases c : h ≤ b
  · rw [if_pos (.inl c)] at ht; omega
  · rw [if_neg (by omega)] at ht
    have : 0 ≤ ((h : Int) - b) / f := Int.ediv_nonneg (by omega) (by omega)
    omega
theorem refat_on {b h k : Nat} {t f m z : Int} (ht : t = if h ≤ b ∨ m < 1 then 0 else min (((h : Int) - b) / f) (m - 1)) (hf : 1 ≤ f) (hz : z = (h : Int) - (b : Int) - k * f) (hk : (k : Int) < t) : (k : Int) < m - 1 ∧ f ≤ z := by
  by_cases c : h ≤ b ∨ m < 1
  · rw [if_pos c] at ht; omega
  · rw [if_neg c] at ht
    have h1 := (refat_step (g := (h : Int) - b) (f := f) (n := k) rfl hf (by omega)).2 (by omega)
    omega
theorem refat_off {b h k : Nat} {f m z : Int} (ht : (k : Int) = if h ≤ b ∨ m < 1 then 0 else min (((h : Int) - b) / f) (m - 1)) (hf : 1 ≤ f) (hz : z = (h : Int) - (b : Int) - k * f) : ¬ (k : Int) < m - 1 ∨ ((k : Int) < m - 1 ∧ z < f) := by
  by_cases c : h ≤ b ∨ m < 1
  · rw [if_pos c] at ht
    have : (k : Int) * f = 0 := by rw [ht]; simp
    omega
  · rw [if_neg c] at ht
    have h1 := (refat_step (g := (h : Int) - b) (f := f) (n := k) rfl hf (by omega)).1
    omega
theorem refat_any (b h : Nat) (s m : Int) (hb : b ≤ 4294967295) (hh : h ≤ 4294967295) (s0 : -9223372036854775808 ≤ s) (s1 : s ≤ 9223372036854775807) (m0 : -9223372036854775808 ≤ m) (m1 : m ≤ 9223372036854775807) (w : World) :
    Calls Try.prog 15 #[.int .u32 (b : Int), .int .u32 (h : Int), .int .i64 s, .int .i64 m] w fun e w' => e = .returned (.int .i64 (tierAt b h s m)) ∧ w = w' := by
  by_cases c2 : m < 1
  · go_enter Try.func15, Try.ntmps15
    go_wp2
    go_ret
    exact ⟨by simp [tierAt, c2], rfl⟩
  obtain ⟨f, hf⟩ : ∃ f, f = farS s := ⟨_, rfl⟩
  have f1 := farS_pos s
  have f2 := farS_le s s1
  rw [← hf] at f1 f2
  obtain ⟨t, ht⟩ : ∃ t, t = tierAt b h s m := ⟨_, rfl⟩
  rw [← ht]
  unfold tierAt at ht
  rw [← hf] at ht
  have HF := hide hf
  have HT := hide ht
  clear hf ht
  have t0 : 0 ≤ t ∧ t ≤ m - 1 := tierAt_range HT.out f1 (by omega)
  obtain ⟨t0, t9⟩ := t0
  by_cases c3 : s < 1
  · have e3 : f = 1 := by rw [HF.out]; simp [farS, c3]
    subst e3
    go_enter Try.func15, Try.ntmps15
    go_wp2
    go_loop [9, 10] (fun i g => ∃ (k : Nat) (z : Int), i = .int .i64 k ∧ g = .int .i64 z ∧ (k : Int) ≤ t ∧ (k : Int) ≤ 9223372036854775807 ∧ -4294967295 ≤ z ∧ z ≤ 4294967295 ∧ Hid (z = (h : Int) - (b : Int) - k * 1)) (fun i _ => (t - intOf i).toNat)
    case atStart => exact ⟨0, _, rfl, rfl, t0, by omega, by omega, by omega, hide (by simp)⟩
    case round =>
      obtain ⟨k, z, rfl, rfl, kt, k9, z1, z2, HZ⟩ := hrel
      by_cases hc : (k : Int) < t
      · obtain ⟨g1, g2⟩ := refat_on (HT.out) f1 HZ.out hc
        go_wp2
        go_round
        case rel => exact ⟨k + 1, z - 1, by go_num, rfl, by omega, by omega, by omega, by omega, hide (by rw [HZ.out]; push_cast; rw [Int.add_mul, Int.one_mul]; omega)⟩
        case measure => simp [intOf]; omega
      · obtain rfl : t = (k : Int) := by omega
        rcases refat_off (HT.out) f1 HZ.out with g1 | ⟨g1, g2⟩
        · go_wp2
          go_ret
          exact ⟨rfl, rfl⟩
        · go_wp2
          go_ret
          exact ⟨rfl, rfl⟩
  · have e3 : f = s := by rw [HF.out]; simp [farS, c3]
    subst e3
    go_enter Try.func15, Try.ntmps15
    go_wp2
    go_loop [9, 10] (fun i g => ∃ (k : Nat) (z : Int), i = .int .i64 k ∧ g = .int .i64 z ∧ (k : Int) ≤ t ∧ (k : Int) ≤ 9223372036854775807 ∧ -4294967295 ≤ z ∧ z ≤ 4294967295 ∧ Hid (z = (h : Int) - (b : Int) - k * f)) (fun i _ => (t - intOf i).toNat)
    case atStart => exact ⟨0, _, rfl, rfl, t0, by omega, by omega, by omega, hide (by simp)⟩
    case round =>
      obtain ⟨k, z, rfl, rfl, kt, k9, z1, z2, HZ⟩ := hrel
      by_cases hc : (k : Int) < t
      · obtain ⟨g1, g2⟩ := refat_on (HT.out) f1 HZ.out hc
        go_wp2
        go_round
        case rel => exact ⟨k + 1, z - f, by go_num, rfl, by omega, by omega, by omega, by omega, hide (by rw [HZ.out]; push_cast; rw [Int.add_mul, Int.one_mul]; omega)⟩
        case measure => simp [intOf]; omega
      · obtain rfl : t = (k : Int) := by omega
        rcases refat_off (HT.out) f1 HZ.out with g1 | ⟨g1, g2⟩
        · go_wp2
          go_ret
          exact ⟨rfl, rfl⟩
        · go_wp2
          go_ret
          exact ⟨rfl, rfl⟩
theorem le_tierAt (b h : Nat) (s m k : Int) (hk : 1 ≤ k) : k ≤ tierAt b h s m ↔ k ≤ m - 1 ∧ (b : Int) + k * farS s ≤ h := by
  have f1 := farS_pos s
  have hkf : k * 1 ≤ k * farS s := Int.mul_le_mul_of_nonneg_left f1 (by omega)
  unfold tierAt
  by_cases c : h ≤ b ∨ m < 1
  · rw [if_pos c]; omega
  · rw [if_neg c]
    have h1 : k ≤ ((h : Int) - b) / farS s ↔ k * farS s ≤ (h : Int) - b := Int.le_ediv_iff_mul_le (by omega)
    have h2 : k ≤ min (((h : Int) - b) / farS s) (m - 1) ↔ k ≤ ((h : Int) - b) / farS s ∧ k ≤ m - 1 := by omega
    rw [h2, h1]; omega
theorem tierAt_pos (b h : Nat) (s m : Int) : 0 ≤ tierAt b h s m := by
  unfold tierAt
  by_cases c : h ≤ b ∨ m < 1
  · rw [if_pos c]; omega
  · rw [if_neg c]
    have : 0 ≤ ((h : Int) - b) / farS s := Int.ediv_nonneg (by omega) (by have := farS_pos s; omega)
    omega
theorem tierAt_few (b h : Nat) (s m : Int) : tierAt b h s m = 0 ∨ tierAt b h s m ≤ m - 1 := by
  have h0 := tierAt_pos b h s m
  by_cases c : tierAt b h s m = 0
  · exact .inl c
  · exact .inr ((le_tierAt b h s m _ (by omega)).1 (Int.le_refl _)).1
/-- what is 1 at least and what is at most: the tier -/
theorem tierAt_eq (b h : Nat) (s m n : Int) (hn : 0 ≤ n) (h1 : 1 ≤ n → n ≤ m - 1 ∧ (b : Int) + n * farS s ≤ h) (h2 : ¬ (n + 1 ≤ m - 1 ∧ (b : Int) + (n + 1) * farS s ≤ h)) : tierAt b h s m = n := by
  have h0 := tierAt_pos b h s m
  have a1 : n ≤ tierAt b h s m := by
    by_cases c : 1 ≤ n
    · exact (le_tierAt b h s m n c).2 (h1 c)
    · omega
  have a2 : ¬ n + 1 ≤ tierAt b h s m := fun hx => h2 ((le_tierAt b h s m (n + 1) (by omega)).1 hx)
  omega
theorem mul_succ_far (n f : Int) : (n + 1) * f = n * f + f := by rw [Int.add_mul, Int.one_mul]
/-- a height more: the same tier, or the next one -/
theorem tierAt_next (b h : Nat) (s m : Int) : tierAt b (h + 1) s m = tierAt b h s m ∨ tierAt b (h + 1) s m = tierAt b h s m + 1 := by
  have f1 := farS_pos s
  have p0 := tierAt_pos b h s m
  have p1 := tierAt_pos b (h + 1) s m
  have a : tierAt b h s m ≤ tierAt b (h + 1) s m := by
    by_cases c : 1 ≤ tierAt b h s m
    · have h1 := (le_tierAt b h s m _ c).1 (Int.le_refl _)
      exact (le_tierAt b (h + 1) s m _ c).2 ⟨h1.1, by omega⟩
    · omega
  have c : ¬ tierAt b h s m + 2 ≤ tierAt b (h + 1) s m := by
    intro c
    have h1 := (le_tierAt b (h + 1) s m _ (by omega)).1 c
    have h2 : ¬ tierAt b h s m + 1 ≤ tierAt b h s m := by omega
    have h3 := mt (le_tierAt b h s m (tierAt b h s m + 1) (by omega)).2 h2
    have e : (tierAt b h s m + 2) * farS s = (tierAt b h s m + 1) * farS s + farS s := by
      have := mul_succ_far (tierAt b h s m + 1) (farS s)
      rw [← this]; congr 1; omega
    omega
  omega
/-- the next height at which another tier is due -/
def nextAt (b h : Nat) (s m : Int) : Int := (b : Int) + farS s * (tierAt b h s m + 1)
def NoNext (b h : Nat) (s m : Int) : Prop := m < 1 ∨ m - 1 ≤ tierAt b h s m ∨ 4294967295 < farS s ∨ 4294967295 < nextAt b h s m
theorem far_one (f n : Int) (hf : 1 ≤ f) (hn : 0 ≤ n) : f ≤ f * (n + 1) := by
  have := Int.mul_le_mul_of_nonneg_left (show 1 ≤ n + 1 by omega) (show 0 ≤ f by omega)
  omega
theorem noNext_law (b h : Nat) (s m : Int) (hh : h ≤ 4294967295) (hno : NoNext b h s m) : tierAt b 4294967295 s m = tierAt b h s m := by
  have f1 := farS_pos s
  have p0 := tierAt_pos b h s m
  refine tierAt_eq b _ s m _ p0 (fun c => ?_) (fun ⟨c1, c2⟩ => ?_)
  · have h1 := (le_tierAt b h s m _ c).1 (Int.le_refl _)
    exact ⟨h1.1, by omega⟩
  · have e : farS s * (tierAt b h s m + 1) = (tierAt b h s m + 1) * farS s := Int.mul_comm _ _
    have := far_one (farS s) (tierAt b h s m) f1 p0
    rcases hno with h | h | h | h
    · omega
    · omega
    · omega
    · unfold nextAt at h; omega
theorem next_law (b h : Nat) (s m : Int) (v : Nat) (hv : (v : Int) = nextAt b h s m) (hno : ¬ NoNext b h s m) :
    h < v ∧ tierAt b v s m = tierAt b h s m + 1 ∧ tierAt b (v - 1) s m = tierAt b h s m := by
  have f1 := farS_pos s
  have p0 := tierAt_pos b h s m
  unfold NoNext at hno
  unfold nextAt at hno hv
  have e : farS s * (tierAt b h s m + 1) = (tierAt b h s m + 1) * farS s := Int.mul_comm _ _
  have h2 : ¬ tierAt b h s m + 1 ≤ tierAt b h s m := by omega
  have h3 := mt (le_tierAt b h s m (tierAt b h s m + 1) (by omega)).2 h2
  have e2 := mul_succ_far (tierAt b h s m + 1) (farS s)
  have e3 := mul_succ_far (tierAt b h s m) (farS s)
  have hlt : h < v := by omega
  refine ⟨hlt, tierAt_eq b v s m _ (by omega) (fun _ => ⟨by omega, by omega⟩) (fun ⟨_, c2⟩ => by omega), ?_⟩
  refine tierAt_eq b (v - 1) s m _ p0 (fun c => ?_) (fun ⟨_, c2⟩ => by omega)
  have h1 := (le_tierAt b h s m _ c).1 (Int.le_refl _)
  exact ⟨h1.1, by omega⟩
end Go.Proofs.Ytccpkafmbmkmfaa
