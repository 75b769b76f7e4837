/- The walk of miradorlaw04.FieldPowers. No condition. -/
import Derived.Test.YtdeljodfanfbmaaFieldTellsWalk
import Derived.Test.YtdeljodfanfbmaaRel
import Derived.Deep.DeepCutAuto
namespace Go.Proofs.Ytdeljodfanfbmaa
open Go.RowKit
set_option linter.unusedVariables false
attribute [local go_sem] Gives givesUpon

/-- a call of this function at a small number and an integer answers this small number -/
abbrev Pow8 (f a : Nat) (n : Int) (r : Nat) : Prop := ∀ w : World, Calls Try.prog f #[.int .u8 (a : Int), .int .i64 n] w fun e w' => e = .returned (.int .u8 (r : Int)) ∧ w = w'
set_option maxRecDepth 100000 in
set_option maxHeartbeats 1600000 in
theorem fieldPowers_none (a pn pm r : Nat) (n m : Int) (w : World) (ha : ((a : Int) == 0) = true) (hn : (n == 0) = true ∨ (n == 0) = false ∧ r = 0)
    (h1 : Hid (Pow8 23 a (n.tmod 500) pn)) (h2 : Hid (Pow8 23 a (m.tmod 500) pm))
    (h3 : Hid (Pow8 24 a (n.tmod 500) pn)) (h4 : Hid (Pow8 24 a (m.tmod 500) pm))
    (h5 : Hid (Pow8 23 a n r))
    (h6 : Hid (∀ w : World, Calls Try.prog 23 #[.int .u8 0, .int .i64 0] w fun e w' => e = .returned (.int .u8 1) ∧ w = w')) :
    Calls Try.prog 5 #[.int .u8 (a : Int), .int .i64 n, .int .i64 m] w fun e w' => e = .returned (.bool true) ∧ w = w' := by
  rcases hn with hn | ⟨hn, rfl⟩
  all_goals
    go_enter Try.func5, Try.ntmps5
    go_wp2_with (first
      | (go_at_call 23; first
          | with_reducible refine (h1.out _).mono ?_
          | with_reducible refine (h2.out _).mono ?_
          | with_reducible refine (h5.out _).mono ?_
          | with_reducible refine (h6.out _).mono ?_
         rintro e w' ⟨rfl, rfl⟩)
      | (go_at_call 24; first
          | with_reducible refine (h3.out _).mono ?_
          | with_reducible refine (h4.out _).mono ?_
         rintro e w' ⟨rfl, rfl⟩)
      | (go_at_call 22; with_reducible refine (alive04_any _).mono ?_; rintro e w' ⟨rfl, rfl⟩))
    go_ret
    exact ⟨rfl, rfl⟩
set_option maxRecDepth 100000 in
set_option maxHeartbeats 1600000 in
theorem fieldPowers_some (a pn pm ps q i o : Nat) (n m : Int) (w : World) (ha : ((a : Int) == 0) = false) (o1 : (0 : Int) < (o : Int)) (oN : 0 < o) (oz : ¬ o = 0) (oD : decide (0 < o) = true) (o2 : ((o : Int) == 0) = false) (o3 : (Int.tmod 255 (o : Int) == 0) = true)
    (b1 : -500 < n.tmod 500 ∧ n.tmod 500 < 500) (b2 : -500 < m.tmod 500 ∧ m.tmod 500 < 500) (b3 : -256 < n.tmod (o : Int) ∧ n.tmod (o : Int) < 256)
    (h1 : Hid (Pow8 23 a (n.tmod 500) pn)) (h2 : Hid (Pow8 23 a (m.tmod 500) pm))
    (h3 : Hid (Pow8 24 a (n.tmod 500) pn)) (h4 : Hid (Pow8 24 a (m.tmod 500) pm))
    (h5 : Hid (One64 20 a o))
    (k1 : Hid (Two8 15 pn pm ps)) (k2 : Hid (Pow8 23 a (IntKind.i64.wrap (n.tmod 500 + m.tmod 500)) ps))
    (k3 : Hid (Pow8 23 a n q)) (k4 : Hid (Pow8 23 a (n.tmod (o : Int)) q))
    (k5 : Hid (One8 18 a i)) (k6 : Hid (∀ w : World, Calls Try.prog 15 #[.int .u8 (a : Int), .int .u8 (i : Int)] w fun e w' => e = .returned (.int .u8 1) ∧ w = w')) :
    Calls Try.prog 5 #[.int .u8 (a : Int), .int .i64 n, .int .i64 m] w fun e w' => e = .returned (.bool true) ∧ Below w.heap.size w w' := by
  go_enter Try.func5, Try.ntmps5
  go_upto_region 8 with (first
      | (go_at_call 23; first
          | with_reducible refine (h1.out _).mono ?_
          | with_reducible refine (h2.out _).mono ?_
         rintro e w' ⟨rfl, rfl⟩)
      | (go_at_call 24; first
          | with_reducible refine (h3.out _).mono ?_
          | with_reducible refine (h4.out _).mono ?_
         rintro e w' ⟨rfl, rfl⟩)
      | (go_at_call 20; with_reducible refine (h5.out _).mono ?_; rintro e w' ⟨rfl, rfl⟩))
  apply wp_region_rel (C := fun W => Below w.heap.size w W) (M := fun W W' => Below W.heap.size W W') (ss := [_, _, _, _, _, _, _, _, _, _, _, _, _, _, _, _, _, _, _, _, _, _, _, _, _, _, _, _, _, _, _, _, _, _, _, _, _, _, _, _]) (by kernel_rfl) (by kernel_rfl) (by kernel_rfl) (Below.refl _ _).drew
  repeat (first
    | (apply relWalk_const (fun W => Below.refl _ _)
       · (intro W hC hF
          clear hF
          go_simp
          with_reducible exact rfl)
       (try simp only [Act.put, List.setIfInBounds_toArray, List.set_cons_zero, List.set_cons_succ]))
    | (apply relWalk_constW
       · go_simp
       · (intro W hC hF
          clear hF
          go_simp
          first
            | with_reducible refine (k1.out _).mono ?_
            | with_reducible refine (k2.out _).mono ?_
            | with_reducible refine (k3.out _).mono ?_
            | with_reducible refine (k4.out _).mono ?_
            | with_reducible refine (k5.out _).mono ?_
            | with_reducible refine (k6.out _).mono ?_
            | with_reducible refine (alive04_any _).mono ?_
          rintro e w4 ⟨rfl, rfl⟩
          exact ⟨_, rfl, rfl, hC, Below.refl _ _⟩)
       (try simp only [Act.put, List.setIfInBounds_toArray, List.set_cons_zero, List.set_cons_succ])))
  apply relWalk_nil
  intro wy hC hF
  go_wp2
  go_ret
  exact ⟨rfl, hC⟩
theorem ord_from (a : Nat) (h : powN a 255 = 1) : ∀ d k, k + d = 255 → 1 ≤ k → (∀ j, 1 ≤ j → j < k → powN a j ≠ 1) → ∃ n, IsOrd a n := by
  intro d
  induction d with
  | zero => intro k hk h1 hj; exact ⟨255, by omega, h, fun j j1 j2 => hj j j1 (by omega)⟩
  | succ d ih =>
    intro k hk h1 hj
    by_cases hp : powN a k = 1
    · exact ⟨k, h1, hp, hj⟩
    · refine ih (k + 1) (by omega) (by omega) (fun j j1 j2 => ?_)
      by_cases e : j = k
      · rw [e]; exact hp
      · exact hj j j1 (by omega)
theorem ord_ex (a : Nat) (ha : a < 256) (h0 : a ≠ 0) : ∃ n, IsOrd a n :=
  ord_from a (pow255 a ha h0) 254 1 (by omega) (by omega) (fun j h1 h2 => by omega)
theorem fieldPowers_walk (w : World) (x0 : BitVec 8) (x1 : Int) (l1 : -9223372036854775808 ≤ x1) (u1 : x1 ≤ 9223372036854775807) (x2 : Int) (l2 : -9223372036854775808 ≤ x2) (u2 : x2 ≤ 9223372036854775807) :
    Calls Try.prog 5 #[.int .u8 (x0.toNat : Int), .int .i64 x1, .int .i64 x2] w fun e w' => e = .returned (.bool true) ∧ Below w.heap.size w w' := by
  have ha : x0.toNat < 256 := x0.isLt
  generalize x0.toNat = a at ha ⊢
  have b1 := tmodN x1 500 (by omega)
  have b2 := tmodN x2 500 (by omega)
  by_cases h0 : a = 0
  · refine (fieldPowers_none a (powI a (x1.tmod 500)) (powI a (x2.tmod 500)) (powI a x1) x1 x2 w (by rw [h0]; rfl) ?_
      (hide (fun w => power_any a _ ha w)) (hide (fun w => power_any a _ ha w)) (hide (fun w => refpower_any a _ ha (by omega) (by omega) w)) (hide (fun w => refpower_any a _ ha (by omega) (by omega) w))
      (hide (fun w => power_any a _ ha w)) (hide (fun w => power_any 0 0 (by omega) w))).mono ?_
    · by_cases hn : x1 = 0
      · exact .inl (by rw [hn]; rfl)
      · exact .inr ⟨by simp [hn], by rw [h0, powI_z _ hn]⟩
    · rintro e w' ⟨rfl, rfl⟩
      exact ⟨rfl, Below.refl _ _⟩
  · obtain ⟨o, ho⟩ := ord_ex a ha h0
    have hoe : ordN a = o := ordN_of ⟨fun _ => ho, fun h => absurd h h0⟩
    have hd := ho.div ha h0
    have hl := ho.le ha h0
    have h1 := ho.1
    have b3 := tmodN x1 o (by omega)
    refine fieldPowers_some a (powI a (x1.tmod 500)) (powI a (x2.tmod 500)) (powI a (x1.tmod 500 + x2.tmod 500)) (powI a x1) (inv a) o x1 x2 w (by simp [h0]) (by omega) (by omega) (by omega) (by simp; omega) (by simp; omega) (by show (((255 % o : Nat) : Int) == 0) = true; rw [hd]; rfl)
      b1 b2 ⟨by omega, by omega⟩
      (hide (fun w => power_any a _ ha w)) (hide (fun w => power_any a _ ha w)) (hide (fun w => refpower_any a _ ha (by omega) (by omega) w)) (hide (fun w => refpower_any a _ ha (by omega) (by omega) w))
      (hide (fun w => by rw [← hoe]; exact order_all a ha w))
      (hide (fun w => by rw [← powI_add _ _ _ ha h0]; exact times_any _ _ (powI_lt _ _ ha) (powI_lt _ _ ha) w))
      (hide (fun w => by rw [IntWalk.i64_in _ (by omega)]; exact power_any a _ ha w)) (hide (fun w => power_any a _ ha w)) (hide (fun w => by rw [powI_ord a o x1 ha h0 ho]; exact power_any a _ ha w))
      (hide (fun w => inverse_any a ha w)) (hide (fun w => ?_))
    have := times_any a (inv a) ha (inv_lt a ha) w
    rw [times_inv a ha h0] at this
    exact this
end Go.Proofs.Ytdeljodfanfbmaa
