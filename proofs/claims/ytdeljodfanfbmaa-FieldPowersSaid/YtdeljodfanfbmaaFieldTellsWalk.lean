/- The walk of miradorlaw04.FieldTells. No condition. -/
import Derived.Test.YtdeljodfanfbmaaFieldMore
namespace Go.Proofs.Ytdeljodfanfbmaa
open Go.RowKit
set_option linter.unusedVariables false

/-- a call of this function at two small numbers answers this small number -/
abbrev Two8 (f a b r : Nat) : Prop := ∀ w : World, Calls Try.prog f #[.int .u8 (a : Int), .int .u8 (b : Int)] w fun e w' => e = .returned (.int .u8 (r : Int)) ∧ w = w'
abbrev One8 (f a r : Nat) : Prop := ∀ w : World, Calls Try.prog f #[.int .u8 (a : Int)] w fun e w' => e = .returned (.int .u8 (r : Int)) ∧ w = w'
abbrev One64 (f a r : Nat) : Prop := ∀ w : World, Calls Try.prog f #[.int .u8 (a : Int)] w fun e w' => e = .returned (.int .i64 (r : Int)) ∧ w = w'
set_option maxRecDepth 100000 in
set_option maxHeartbeats 800000 in
theorem fieldTells_core (a b t s i o : Nat) (w : World) (hx : bits .xor .u8 (a : Int) (b : Int) = (s : Int))
    (H1 : Hid (Two8 15 a b t)) (H2 : Hid (Two8 16 a b t)) (H3 : Hid (Two8 17 a b s))
    (H4 : Hid (One8 18 a i)) (H5 : Hid (One8 19 a i))
    (H6 : Hid (One64 20 a o)) (H7 : Hid (One64 21 a o)) :
    Calls Try.prog 3 #[.int .u8 (a : Int), .int .u8 (b : Int)] w fun e w' => e = .returned (.bool true) ∧ w = w' := by
  go_enter Try.func3, Try.ntmps3
  go_wp2_with (first
    | (go_at_call 15; with_reducible refine (H1.out _).mono ?_; rintro e w' ⟨rfl, rfl⟩)
    | (go_at_call 16; with_reducible refine (H2.out _).mono ?_; rintro e w' ⟨rfl, rfl⟩)
    | (go_at_call 17; with_reducible refine (H3.out _).mono ?_; rintro e w' ⟨rfl, rfl⟩)
    | (go_at_call 18; with_reducible refine (H4.out _).mono ?_; rintro e w' ⟨rfl, rfl⟩)
    | (go_at_call 19; with_reducible refine (H5.out _).mono ?_; rintro e w' ⟨rfl, rfl⟩)
    | (go_at_call 20; with_reducible refine (H6.out _).mono ?_; rintro e w' ⟨rfl, rfl⟩)
    | (go_at_call 21; with_reducible refine (H7.out _).mono ?_; rintro e w' ⟨rfl, rfl⟩)
    | (go_at_call 22; with_reducible refine (alive04_any _).mono ?_; rintro e w' ⟨rfl, rfl⟩))
  go_ret
  exact ⟨rfl, rfl⟩
theorem fieldTells_walk (w : World) (x0 : BitVec 8) (x1 : BitVec 8) :
    Calls Try.prog 3 #[.int .u8 (x0.toNat : Int), .int .u8 (x1.toNat : Int)] w fun e w' => e = .returned (.bool true) ∧ Below w.heap.size w w' := by
  have ha : x0.toNat < 256 := x0.isLt
  have hb : x1.toNat < 256 := x1.isLt
  refine (fieldTells_core x0.toNat x1.toNat _ _ _ _ w (u8_xor_nat _ _ ha hb) (hide (fun w => times_any _ _ ha hb w)) (hide (fun w => reftimes_any _ _ ha hb w)) (hide (fun w => add04_any _ _ ha hb w)) (hide (fun w => inverse_any _ ha w)) (hide (fun w => refinverse_any _ ha w)) (hide (fun w => order_all _ ha w)) (hide (fun w => reforder_any _ ha w))).mono ?_
  rintro e w' ⟨rfl, rfl⟩
  exact ⟨rfl, Below.refl _ _⟩
end Go.Proofs.Ytdeljodfanfbmaa
