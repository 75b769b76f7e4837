/- The walk of the law TierTells: it returns true. No condition. -/
import Derived.Test.YtccpkafmbmkmfaaTierNext
import Derived.Deep.DeepCutAuto
namespace Go.Proofs.Ytccpkafmbmkmfaa
open Go.RowKit
set_option linter.unusedVariables false

theorem alive28_a (w : World) : Calls Try.prog 14 #[.int .u32 10, .int .u32 12, .int .i64 3, .int .i64 3] w fun e w' => e = .returned (.int .i64 0) ∧ w = w' := by
  have h := at_any 10 12 3 3 (by omega) (by omega) (by omega) (by omega) (by omega) (by omega) w
  have e : tierAt 10 12 3 3 = 0 := by decide
  rw [e] at h; exact h
theorem alive28_b (w : World) : Calls Try.prog 14 #[.int .u32 10, .int .u32 13, .int .i64 3, .int .i64 3] w fun e w' => e = .returned (.int .i64 1) ∧ w = w' := by
  have h := at_any 10 13 3 3 (by omega) (by omega) (by omega) (by omega) (by omega) (by omega) w
  have e : tierAt 10 13 3 3 = 1 := by decide
  rw [e] at h; exact h
theorem alive28_c (w : World) : Calls Try.prog 14 #[.int .u32 10, .int .u32 100, .int .i64 3, .int .i64 3] w fun e w' => e = .returned (.int .i64 2) ∧ w = w' := by
  have h := at_any 10 100 3 3 (by omega) (by omega) (by omega) (by omega) (by omega) (by omega) w
  have e : tierAt 10 100 3 3 = 2 := by decide
  rw [e] at h; exact h
theorem alive28_any (w : World) : Calls Try.prog 13 #[] w fun e w' => e = .returned (.bool true) ∧ w = w' := by
  go_enter Try.func13, Try.ntmps13
  go_wp2_with (go_at_call 14; first
    | ((with_reducible refine (alive28_a _).mono ?_); rintro e w' ⟨rfl, rfl⟩)
    | ((with_reducible refine (alive28_b _).mono ?_); rintro e w' ⟨rfl, rfl⟩)
    | ((with_reducible refine (alive28_c _).mono ?_); rintro e w' ⟨rfl, rfl⟩))
  go_ret
  exact ⟨rfl, rfl⟩
theorem tierTells_big (b h : Nat) (s m : Int) (hm : 300 < m) (w : World) :
    Calls Try.prog 3 #[.agg #[.int .u32 (b : Int), .int .u32 (h : Int), .int .i64 s, .int .i64 m]] w fun e w' => e = .returned (.bool true) ∧ Below w.heap.size w w' := by
  go_enter Try.func3, Try.ntmps3
  go_wp2_with (go_at_call 13; refine (alive28_any _).mono ?_; rintro e w' ⟨rfl, rfl⟩)
  go_ret
  exact ⟨rfl, (Below.refl _ _).alloc (Nat.le_refl _) _⟩
set_option maxRecDepth 100000 in
set_option maxHeartbeats 4000000 in
theorem tierTells_few (b h : Nat) (s m : Int) (hb : b ≤ 4294967295) (hh : h ≤ 4294967295) (s0 : -9223372036854775808 ≤ s) (s1 : s ≤ 9223372036854775807) (m0 : -9223372036854775808 ≤ m) (m1 : m ≤ 300) (w : World) :
    Calls Try.prog 3 #[.agg #[.int .u32 (b : Int), .int .u32 (h : Int), .int .i64 s, .int .i64 m]] w fun e w' => e = .returned (.bool true) ∧ Below w.heap.size w w' := by
  obtain ⟨n, hn⟩ : ∃ n, n = tierAt b h s m := ⟨_, rfl⟩
  have p0 := tierAt_pos b h s m
  have p1 := tierAt_few b h s m
  have hc := at_any b h s m hb hh s0 s1 m0 (by omega)
  have hr := refat_any b h s m hb hh s0 s1 m0 (by omega)
  have hx := next_any b h s m hb hh s0 s1 m0 m1
  have ht := tierAt_next b h s m
  have hno := noNext_law b h s m hh
  have hne := next_law b h s m
  rw [← hn] at p0 p1 hc hr ht hno hne
  have HC := hide hc
  have HR := hide hr
  have HX := hide hx
  have HNO := hide hno
  have HNE := hide hne
  have HT := hide ht
  have P1 := hide p1
  clear hc hn hr hx hno hne ht p1
  have HC1 : Hid (h < 4294967295 → ∀ W, Calls Try.prog 14 #[.int .u32 (b : Int), .int .u32 ((h : Int) + 1), .int .i64 s, .int .i64 m] W fun e w' => e = .returned (.int .i64 (tierAt b (h + 1) s m)) ∧ W = w') := fun hlt W => by
    have := at_any b (h + 1) s m hb (by omega) s0 s1 m0 (by omega) W
    push_cast at this
    exact this
  have HC2 : Hid (∀ W, Calls Try.prog 14 #[.int .u32 (b : Int), .int .u32 4294967295, .int .i64 s, .int .i64 m] W fun e w' => e = .returned (.int .i64 (tierAt b 4294967295 s m)) ∧ W = w') := fun W => by
    have := at_any b 4294967295 s m hb (by omega) s0 s1 m0 (by omega) W
    exact this
  have HC3 : Hid (∀ v : Nat, v ≤ 4294967295 → ∀ W, Calls Try.prog 14 #[.int .u32 (b : Int), .int .u32 (v : Int), .int .i64 s, .int .i64 m] W fun e w' => e = .returned (.int .i64 (tierAt b v s m)) ∧ W = w') := fun v hv W =>
    at_any b v s m hb hv s0 s1 m0 (by omega) W
  have HC4 : Hid (∀ v : Nat, 0 < v → v ≤ 4294967295 → ∀ W, Calls Try.prog 14 #[.int .u32 (b : Int), .int .u32 ((v : Int) - 1), .int .i64 s, .int .i64 m] W fun e w' => e = .returned (.int .i64 (tierAt b (v - 1) s m)) ∧ W = w') := fun v h0 hv W => by
    have := at_any b (v - 1) s m hb (by omega) s0 s1 m0 (by omega) W
    have e : ((v - 1 : Nat) : Int) = (v : Int) - 1 := by omega
    rw [e] at this
    exact this
  obtain e0 | e0 : (0 < n ∧ n < m) ∨ n ≤ 0 := by have := P1.out; omega
  all_goals
    go_enter Try.func3, Try.ntmps3
    go_wp2_with fail
    refine (HC.out _).mono ?_
    rintro e w' ⟨rfl, rfl⟩
    go_wp2_with fail
    refine (HR.out _).mono ?_
    rintro e w' ⟨rfl, rfl⟩
    go_upto_region 6 with fail
    obtain hq | hq | hq : ((h : Int) < 4294967295 ∧ tierAt b (h + 1) s m = n) ∨ ((h : Int) < 4294967295 ∧ tierAt b (h + 1) s m = n + 1) ∨ ¬ (h : Int) < 4294967295 := by have := HT.out; omega
    all_goals
      first
        | (obtain ⟨hq, hq2⟩ := hq
           have HQ := hide hq2
           clear hq2
           go_wp2_with fail
           refine (HC1.out (by omega) _).mono ?_
           rintro e w' ⟨rfl, rfl⟩
           rw [HQ.out])
        | skip
      have hb2 : (n + 1 != n) = true := by rw [bne_iff_ne]; omega
      have hb3 : n + 1 ≤ 300 := by omega
      go_wp2_with fail
      refine (HX.out _).mono ?_
      rintro e w' ⟨⟨rfl, hnn⟩ | ⟨v, rfl, hv, hve, hnn⟩, rfl⟩
      · have HN := hide (HNO.out hnn)
        clear hnn
        go_wp2_with fail
        refine (HC2.out _).mono ?_
        rintro e w' ⟨rfl, rfl⟩
        rw [HN.out]
        go_wp2_with (go_at_call 13; refine (alive28_any _).mono ?_; rintro e w' ⟨rfl, rfl⟩)
        go_ret
        exact ⟨rfl, (Below.refl _ _).alloc (Nat.le_refl _) _⟩
      · obtain ⟨v1, v2, v3⟩ := HNE.out v hve hnn
        first
          | (exfalso; omega)
          | (have V2 := hide v2
             have V3 := hide v3
             clear v2 v3 hve hnn
             have v1' : (h : Int) < (v : Int) := by omega
             go_wp2_with fail
             refine (HC3.out v hv _).mono ?_
             rintro e w' ⟨rfl, rfl⟩
             rw [V2.out]
             go_wp2_with fail
             refine (HC4.out v (by omega) hv _).mono ?_
             rintro e w' ⟨rfl, rfl⟩
             rw [V3.out]
             go_wp2_with (go_at_call 13; refine (alive28_any _).mono ?_; rintro e w' ⟨rfl, rfl⟩)
             go_ret
             exact ⟨rfl, (Below.refl _ _).alloc (Nat.le_refl _) _⟩)
theorem tierTells_walk (b h : Nat) (s m : Int) (hb : b ≤ 4294967295) (hh : h ≤ 4294967295) (s0 : -9223372036854775808 ≤ s) (s1 : s ≤ 9223372036854775807) (m0 : -9223372036854775808 ≤ m) (m1 : m ≤ 9223372036854775807) (w : World) :
    Calls Try.prog 3 #[.agg #[.int .u32 (b : Int), .int .u32 (h : Int), .int .i64 s, .int .i64 m]] w fun e w' => e = .returned (.bool true) ∧ Below w.heap.size w w' := by
  by_cases hm : 300 < m
  · exact tierTells_big b h s m hm w
  · exact tierTells_few b h s m hb hh s0 s1 m0 (by omega) w
end Go.Proofs.Ytccpkafmbmkmfaa
