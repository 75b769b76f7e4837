/- The walk of miradorlaw05.BoxTells. No condition. -/
import Derived.Test.YtdeljodfanfbmaaBoxUse
namespace Go.Proofs.Ytdeljodfanfbmaa
open Go.RowKit
set_option linter.unusedVariables false

theorem IsBox.drewN {w : World} {g : Nat} (h : IsBox w g) (n : Nat) : IsBox (w.drewN n) g := h
theorem below_quiet {B n : Nat} {a w : World} (h : Below B a w) : Below B a (w.drewN n) := below_drewN h n
set_option maxRecDepth 100000 in
set_option maxHeartbeats 800000 in
theorem boxTells_core (x n y S : Nat) (hx : x < 256) (hn : n < 4294967296) (hy : sub x = y) (hS : subW n = S) (hne : ((y : Int) != (x : Int)) = true) (w : World) :
    Calls Try.prog 6 #[.int .u8 (x : Int), .int .u32 (n : Int)] w fun e w' => e = .returned (.bool true) ∧ Below w.heap.size w w' := by
  have hyl : y < 256 := by rw [← hy]; exact sub_lt x hx
  have hby : back y = x := by rw [← hy, back_sub x hx]
  obtain ⟨z, hz⟩ : ∃ z, back x = z := ⟨_, rfl⟩
  have R1 : ∀ w, Calls Try.prog 27 #[.int .u8 (x : Int)] w fun e w' => e = .returned (.int .u8 (y : Int)) ∧ ∃ n, w' = w.drewN n := fun w => by rw [← hy]; exact refsub_any x hx w
  have R2 : ∀ w, Calls Try.prog 29 #[.int .u8 (x : Int)] w fun e w' => e = .returned (.int .u8 (z : Int)) ∧ ∃ n, w' = w.drewN n := fun w => by rw [← hz]; exact refback_any x hx w
  have R3 : ∀ w, Calls Try.prog 31 #[.int .u32 (n : Int)] w fun e w' => e = .returned (.int .u32 (S : Int)) ∧ ∃ n, w' = w.drewN n := fun w => by rw [← hS]; exact refword_any n hn w
  have H1 : ∀ g w, IsBox w g → Calls Try.prog 26 #[.pointer (some ⟨g, 0, none⟩), .int .u8 (x : Int)] w fun e w' => e = .returned (.int .u8 (y : Int)) ∧ w = w' := fun g w hb => by rw [← hy]; exact boxsub_any g x hx w hb
  have H2 : ∀ g w, IsBox w g → Calls Try.prog 28 #[.pointer (some ⟨g, 0, none⟩), .int .u8 (y : Int)] w fun e w' => e = .returned (.int .u8 (x : Int)) ∧ w = w' := fun g w hb => by have := boxback_any g y hyl w hb; rwa [hby] at this
  have H3 : ∀ g w, IsBox w g → Calls Try.prog 28 #[.pointer (some ⟨g, 0, none⟩), .int .u8 (x : Int)] w fun e w' => e = .returned (.int .u8 (z : Int)) ∧ w = w' := fun g w hb => by rw [← hz]; exact boxback_any g x hx w hb
  have H4 : ∀ g w, IsBox w g → Calls Try.prog 30 #[.pointer (some ⟨g, 0, none⟩), .int .u32 (n : Int)] w fun e w' => e = .returned (.int .u32 (S : Int)) ∧ w = w' := fun g w hb => by rw [← hS]; exact boxword_any g n hn w hb
  replace R1 := hide R1
  replace R2 := hide R2
  replace R3 := hide R3
  replace H1 := hide H1
  replace H2 := hide H2
  replace H3 := hide H3
  replace H4 := hide H4
  clear hy hS hby hz
  go_enter Try.func6, Try.ntmps6
  go_wp2_with (go_at_call 25; refine (boxnew_any _).mono ?_; rintro e w1 ⟨g, rfl, hg, hb, hB⟩)
  have hbn := hide (fun n => hb.drewN n)
  replace hb := hide hb
  replace hB := hide hB
  go_wp2_with (first
    | (go_at_call 26; with_reducible refine (H1.out _ _ (by first | exact hb.out | exact hbn.out _)).mono ?_; rintro e w' ⟨rfl, rfl⟩)
    | (go_at_call 27; with_reducible refine (R1.out _).mono ?_; rintro e w' ⟨rfl, n1, rfl⟩)
    | (go_at_call 28; with_reducible refine (H2.out _ _ (by first | exact hb.out | exact hbn.out _)).mono ?_; rintro e w' ⟨rfl, rfl⟩)
    | (go_at_call 28; with_reducible refine (H3.out _ _ (by first | exact hb.out | exact hbn.out _)).mono ?_; rintro e w' ⟨rfl, rfl⟩)
    | (go_at_call 29; with_reducible refine (R2.out _).mono ?_; rintro e w' ⟨rfl, n2, rfl⟩)
    | (go_at_call 30; with_reducible refine (H4.out _ _ (by first | exact hb.out | exact hbn.out _)).mono ?_; rintro e w' ⟨rfl, rfl⟩)
    | (go_at_call 31; with_reducible refine (R3.out _).mono ?_; rintro e w' ⟨rfl, n3, rfl⟩)
    | (go_at_call 32; with_reducible refine (alive05_any _).mono ?_; rintro e w2 ⟨rfl, hB2⟩))
  go_ret
  exact ⟨rfl, below_next (below_quiet hB.out) hB2⟩
theorem boxTells_walk (w : World) (x0 : BitVec 8) (x1 : BitVec 32) :
    Calls Try.prog 6 #[.int .u8 (x0.toNat : Int), .int .u32 (x1.toNat : Int)] w fun e w' => e = .returned (.bool true) ∧ Below w.heap.size w w' :=
  boxTells_core x0.toNat x1.toNat _ _ x0.isLt x1.isLt rfl rfl (by rw [bne_iff_ne]; have := sub_ne x0.toNat x0.isLt; omega) w
end Go.Proofs.Ytdeljodfanfbmaa
