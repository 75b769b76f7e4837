/- The walk of miradorlaw04.FieldLaws. No condition. -/
import Derived.Test.YtdeljodfanfbmaaFieldTellsWalk
namespace Go.Proofs.Ytdeljodfanfbmaa
open Go.RowKit
set_option linter.unusedVariables false

set_option maxRecDepth 100000 in
set_option maxHeartbeats 1600000 in
theorem fieldLaws_core (a b c ab abc bc bx s ac : Nat) (w : World)
    (hz : (((abc : Int) == 0) = true ∧ (((a : Int) == 0) = true ∨ ((a : Int) == 0) = false ∧ (((b : Int) == 0) = true ∨ ((b : Int) == 0) = false ∧ ((c : Int) == 0) = true))) ∨ (((abc : Int) == 0) = false ∧ ((a : Int) == 0) = false ∧ ((b : Int) == 0) = false ∧ ((c : Int) == 0) = false))
    (H1 : Hid (Two8 15 a b ab)) (H2 : Hid (Two8 15 ab c abc)) (H3 : Hid (Two8 15 b c bc))
    (H4 : Hid (Two8 15 a bc abc)) (H5 : Hid (Two8 17 b c bx)) (H6 : Hid (Two8 15 a bx s))
    (H7 : Hid (Two8 15 b a ab)) (H8 : Hid (Two8 15 a c ac)) (H9 : Hid (Two8 17 ab ac s))
    (HO : Hid (∀ w : World, Calls Try.prog 15 #[.int .u8 (a : Int), .int .u8 1] w fun e w' => e = .returned (.int .u8 (a : Int)) ∧ w = w')) :
    Calls Try.prog 4 #[.int .u8 (a : Int), .int .u8 (b : Int), .int .u8 (c : Int)] w fun e w' => e = .returned (.bool true) ∧ w = w' := by
  rcases hz with ⟨z1, z2 | ⟨z2, z3 | ⟨z3, z4⟩⟩⟩ | ⟨z1, z2, z3, z4⟩
  all_goals
    go_enter Try.func4, Try.ntmps4
    go_wp2_with (first
      | (go_at_call 15; first
          | with_reducible refine (H1.out _).mono ?_
          | with_reducible refine (H2.out _).mono ?_
          | with_reducible refine (H3.out _).mono ?_
          | with_reducible refine (H4.out _).mono ?_
          | with_reducible refine (H6.out _).mono ?_
          | with_reducible refine (H7.out _).mono ?_
          | with_reducible refine (H8.out _).mono ?_
          | with_reducible refine (HO.out _).mono ?_
         rintro e w' ⟨rfl, rfl⟩)
      | (go_at_call 17; first
          | with_reducible refine (H5.out _).mono ?_
          | with_reducible refine (H9.out _).mono ?_
         rintro e w' ⟨rfl, rfl⟩)
      | (go_at_call 22; with_reducible refine (alive04_any _).mono ?_; rintro e w' ⟨rfl, rfl⟩))
    go_ret
    exact ⟨rfl, rfl⟩
theorem zero_prod (a b c : Nat) (ha : a < 256) (hb : b < 256) (hc : c < 256) : (((times (times a b) c : Nat) : Int) == 0) = true ∧ (((a : Int) == 0) = true ∨ ((a : Int) == 0) = false ∧ (((b : Int) == 0) = true ∨ ((b : Int) == 0) = false ∧ ((c : Int) == 0) = true)) ∨ ((((times (times a b) c : Nat) : Int) == 0) = false ∧ ((a : Int) == 0) = false ∧ ((b : Int) == 0) = false ∧ ((c : Int) == 0) = false) := by
  have zt : ∀ n : Nat, n = 0 → ((n : Int) == 0) = true := fun n h => by rw [h]; rfl
  have zf : ∀ n : Nat, n ≠ 0 → ((n : Int) == 0) = false := fun n h => by simp; omega
  by_cases h1 : a = 0
  · exact .inl ⟨zt _ (by rw [h1, zero_times b hb, zero_times c hc]), .inl (zt _ h1)⟩
  · by_cases h2 : b = 0
    · exact .inl ⟨zt _ (by rw [h2, times_zero, zero_times c hc]), .inr ⟨zf _ h1, .inl (zt _ h2)⟩⟩
    · by_cases h3 : c = 0
      · exact .inl ⟨zt _ (by rw [h3, times_zero]), .inr ⟨zf _ h1, .inr ⟨zf _ h2, zt _ h3⟩⟩⟩
      · refine .inr ⟨zf _ (fun h => ?_), zf _ h1, zf _ h2, zf _ h3⟩
        rcases no_zero _ _ (times_lt _ _ ha) hc h with h | h
        · rcases no_zero _ _ ha hb h with h | h
          · exact h1 h
          · exact h2 h
        · exact h3 h
theorem fieldLaws_walk (w : World) (x0 : BitVec 8) (x1 : BitVec 8) (x2 : BitVec 8) :
    Calls Try.prog 4 #[.int .u8 (x0.toNat : Int), .int .u8 (x1.toNat : Int), .int .u8 (x2.toNat : Int)] w fun e w' => e = .returned (.bool true) ∧ Below w.heap.size w w' := by
  have ha : x0.toNat < 256 := x0.isLt
  have hb : x1.toNat < 256 := x1.isLt
  have hc : x2.toNat < 256 := x2.isLt
  generalize x0.toNat = a at ha ⊢
  generalize x1.toNat = b at hb ⊢
  generalize x2.toNat = c at hc ⊢
  have T : ∀ a b t, a < 256 → b < 256 → times a b = t → Two8 15 a b t := fun a b t ha hb h w => by rw [← h]; exact times_any a b ha hb w
  have P : ∀ a b t, a < 256 → b < 256 → a ^^^ b = t → Two8 17 a b t := fun a b t ha hb h w => by rw [← h]; exact add04_any a b ha hb w
  refine (fieldLaws_core a b c (times a b) (times (times a b) c) (times b c) (b ^^^ c) (times a (b ^^^ c)) (times a c) w (zero_prod a b c ha hb hc)
    (hide (T _ _ _ ha hb rfl)) (hide (T _ _ _ (times_lt _ _ ha) hc rfl)) (hide (T _ _ _ hb hc rfl)) (hide (T _ _ _ ha (times_lt _ _ hb) (times_assoc a b c ha hb)))
    (hide (P _ _ _ hb hc rfl)) (hide (T _ _ _ ha (xor_lt8 hb hc) rfl)) (hide (T _ _ _ hb ha (times_comm b a hb ha))) (hide (T _ _ _ ha hc rfl))
    (hide (P _ _ _ (times_lt _ _ ha) (times_lt _ _ ha) (times_xor a b c).symm)) (hide (fun w => T a 1 a ha (by omega) (times_one a) w))).mono ?_
  rintro e w' ⟨rfl, rfl⟩
  exact ⟨rfl, Below.refl _ _⟩
end Go.Proofs.Ytdeljodfanfbmaa
