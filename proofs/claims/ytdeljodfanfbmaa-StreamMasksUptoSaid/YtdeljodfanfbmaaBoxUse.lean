/- Package box's Sub, Back and Word, of a box that New made, of a nil one, and of one that no call made; chapter 05's liveness test. No condition but that arguments fit their kinds. -/
import Derived.Test.YtdeljodfanfbmaaBoxNew
import Derived.Test.YtdeljodfanfbmaaLists
namespace Go.Proofs.Ytdeljodfanfbmaa
open Go.RowKit
set_option linter.unusedVariables false

theorem sub_cell (g x : Nat) (v : Value) (hx : x < 256) (w : World) (hc : w.cell? ⟨g, 1 + x, none⟩ = some v) :
    Calls Try.prog 26 #[.pointer (some ⟨g, 0, none⟩), .int .u8 (x : Int)] w fun e w' => e = .returned v ∧ w = w' := by
  have hX0 : (0 : Int) ≤ (x : Int) := by omega
  have hX1 : (x : Int) < 256 := by omega
  go_enter Try.func26, Try.ntmps26
  go_wp2
  go_ret
  exact ⟨rfl, rfl⟩
theorem back_cell (g x : Nat) (v : Value) (hx : x < 256) (w : World) (hc : w.cell? ⟨g, 257 + x, none⟩ = some v) :
    Calls Try.prog 28 #[.pointer (some ⟨g, 0, none⟩), .int .u8 (x : Int)] w fun e w' => e = .returned v ∧ w = w' := by
  have hX0 : (0 : Int) ≤ (x : Int) := by omega
  have hX1 : (x : Int) < 256 := by omega
  go_enter Try.func28, Try.ntmps28
  go_wp2
  go_ret
  exact ⟨rfl, rfl⟩
theorem sub_nil (x : Nat) (w : World) :
    Calls Try.prog 26 #[.pointer none, .int .u8 (x : Int)] w fun e w' => e = .returned (.int .u8 0) ∧ w = w' := by
  go_enter Try.func26, Try.ntmps26
  go_wp2
  go_ret
  exact ⟨rfl, rfl⟩
theorem back_nil (x : Nat) (w : World) :
    Calls Try.prog 28 #[.pointer none, .int .u8 (x : Int)] w fun e w' => e = .returned (.int .u8 0) ∧ w = w' := by
  go_enter Try.func28, Try.ntmps28
  go_wp2
  go_ret
  exact ⟨rfl, rfl⟩
theorem IsBox.to {w : World} {g : Nat} (h : IsBox w g) (x : Nat) (hx : x < 256) : w.cell? ⟨g, 1 + x, none⟩ = some (.int .u8 (sub x : Int)) := by
  obtain ⟨cs, h1, h2⟩ := h
  exact (h1.cell _).trans (h2.to_ x hx)
theorem IsBox.from_ {w : World} {g : Nat} (h : IsBox w g) (x : Nat) (hx : x < 256) : w.cell? ⟨g, 257 + x, none⟩ = some (.int .u8 (back x : Int)) := by
  obtain ⟨cs, h1, h2⟩ := h
  exact (h1.cell _).trans (h2.from_ x hx)
theorem IsBox.lt {w : World} {g : Nat} (h : IsBox w g) : g < w.heap.size := by
  obtain ⟨cs, h1, h2⟩ := h
  exact h1.lt
theorem IsBox.below {B g : Nat} {w w' : World} (h : IsBox w g) (hb : Below B w w') (hg : g < B) : IsBox w' g := by
  obtain ⟨cs, h1, h2⟩ := h
  exact ⟨cs, h1.below hb hg, h2⟩
theorem boxsub_any (g x : Nat) (hx : x < 256) (w : World) (hb : IsBox w g) :
    Calls Try.prog 26 #[.pointer (some ⟨g, 0, none⟩), .int .u8 (x : Int)] w fun e w' => e = .returned (.int .u8 (sub x : Int)) ∧ w = w' := sub_cell g x _ hx w (hb.to x hx)
theorem boxback_any (g x : Nat) (hx : x < 256) (w : World) (hb : IsBox w g) :
    Calls Try.prog 28 #[.pointer (some ⟨g, 0, none⟩), .int .u8 (x : Int)] w fun e w' => e = .returned (.int .u8 (back x : Int)) ∧ w = w' := back_cell g x _ hx w (hb.from_ x hx)
/-- four bytes side by side -/
theorem or_four (s3 s2 s1 s0 : Nat) (h3 : s3 < 256) (h2 : s2 < 256) (h1 : s1 < 256) (h0 : s0 < 256) :
    bits .or .u32 (bits .or .u32 (bits .or .u32 ((s3 : Int) * 16777216) ((s2 : Int) * 65536)) ((s1 : Int) * 256)) (s0 : Int) = ((s3 * 16777216 + s2 * 65536 + s1 * 256 + s0 : Nat) : Int) := by
  have := w4_or (BitVec.ofNat 8 s3) (BitVec.ofNat 8 s2) (BitVec.ofNat 8 s1) (BitVec.ofNat 8 s0)
  rw [w4_toNat] at this
  simpa [BitVec.toNat_ofNat, Nat.mod_eq_of_lt, h3, h2, h1, h0] using this
set_option maxRecDepth 100000 in
theorem word_core (p : Value) (n s3 s2 s1 s0 : Nat) (hn : n < 4294967296) (b3 : s3 < 256) (b2 : s2 < 256) (b1 : s1 < 256) (b0 : s0 < 256) (w : World)
    (H3 : Hid (Calls Try.prog 26 #[p, .int .u8 ((n / 16777216 : Nat) : Int)] w fun e w' => e = .returned (.int .u8 (s3 : Int)) ∧ w = w'))
    (H2 : Hid (Calls Try.prog 26 #[p, .int .u8 ((n / 65536 % 256 : Nat) : Int)] w fun e w' => e = .returned (.int .u8 (s2 : Int)) ∧ w = w'))
    (H1 : Hid (Calls Try.prog 26 #[p, .int .u8 ((n / 256 % 256 : Nat) : Int)] w fun e w' => e = .returned (.int .u8 (s1 : Int)) ∧ w = w'))
    (H0 : Hid (Calls Try.prog 26 #[p, .int .u8 ((n % 256 : Nat) : Int)] w fun e w' => e = .returned (.int .u8 (s0 : Int)) ∧ w = w')) :
    Calls Try.prog 30 #[p, .int .u32 (n : Int)] w fun e w' => e = .returned (.int .u32 ((s3 * 16777216 + s2 * 65536 + s1 * 256 + s0 : Nat) : Int)) ∧ w = w' := by
  have HE := hide (or_four s3 s2 s1 s0 b3 b2 b1 b0)
  have E3 : Hid (Calls Try.prog 26 #[p, .int .u8 ((n : Int) / 16777216)] w fun e w' => e = .returned (.int .u8 (s3 : Int)) ∧ w = w') := H3
  have E2 : Hid (Calls Try.prog 26 #[p, .int .u8 ((n : Int) / 65536 % 256)] w fun e w' => e = .returned (.int .u8 (s2 : Int)) ∧ w = w') := H2
  have E1 : Hid (Calls Try.prog 26 #[p, .int .u8 ((n : Int) / 256 % 256)] w fun e w' => e = .returned (.int .u8 (s1 : Int)) ∧ w = w') := H1
  have E0 : Hid (Calls Try.prog 26 #[p, .int .u8 ((n : Int) % 256)] w fun e w' => e = .returned (.int .u8 (s0 : Int)) ∧ w = w') := H0
  clear H3 H2 H1 H0
  go_enter Try.func30, Try.ntmps30
  go_wp2_with (go_at_call 26; (first | with_reducible refine E3.out.mono ?_ | with_reducible refine E2.out.mono ?_ | with_reducible refine E1.out.mono ?_ | with_reducible refine E0.out.mono ?_); rintro e w' ⟨rfl, rfl⟩)
  go_ret
  exact ⟨ret_u32 HE.out, rfl⟩
theorem boxword_any (g n : Nat) (hn : n < 4294967296) (w : World) (hb : IsBox w g) :
    Calls Try.prog 30 #[.pointer (some ⟨g, 0, none⟩), .int .u32 (n : Int)] w fun e w' => e = .returned (.int .u32 (subW n : Int)) ∧ w = w' :=
  word_core _ n _ _ _ _ hn (sub_lt _ (by omega)) (sub_lt _ (by omega)) (sub_lt _ (by omega)) (sub_lt _ (by omega)) w (hide (boxsub_any g (n / 16777216) (by omega) w hb)) (hide (boxsub_any g (n / 65536 % 256) (by omega) w hb)) (hide (boxsub_any g (n / 256 % 256) (by omega) w hb)) (hide (boxsub_any g (n % 256) (by omega) w hb))
theorem word_nil (n : Nat) (hn : n < 4294967296) (w : World) :
    Calls Try.prog 30 #[.pointer none, .int .u32 (n : Int)] w fun e w' => e = .returned (.int .u32 0) ∧ w = w' :=
  word_core _ n 0 0 0 0 hn (by omega) (by omega) (by omega) (by omega) w (hide (sub_nil _ w)) (hide (sub_nil _ w)) (hide (sub_nil _ w)) (hide (sub_nil _ w))
theorem word_blank (g n : Nat) (hn : n < 4294967296) (w : World) (hc : ∀ i, i < 256 → w.cell? ⟨g, 1 + i, none⟩ = some (.int .u8 0)) :
    Calls Try.prog 30 #[.pointer (some ⟨g, 0, none⟩), .int .u32 (n : Int)] w fun e w' => e = .returned (.int .u32 0) ∧ w = w' :=
  word_core _ n 0 0 0 0 hn (by omega) (by omega) (by omega) (by omega) w (hide (sub_cell g (n / 16777216) _ (by omega) w (hc _ (by omega)))) (hide (sub_cell g (n / 65536 % 256) _ (by omega) w (hc _ (by omega)))) (hide (sub_cell g (n / 256 % 256) _ (by omega) w (hc _ (by omega)))) (hide (sub_cell g (n % 256) _ (by omega) w (hc _ (by omega))))
theorem sub83 : sub 83 = 237 := by unfold sub; rw [i83]; decide +kernel
theorem sub0 : sub 0 = 99 := by unfold sub; rw [inv_zero]; decide +kernel
theorem back99 : back 99 = 0 := by rw [← sub0, back_sub 0 (by omega)]
theorem subW83 : subW 83 = 1667458029 := by
  show sub (83 / 16777216) * 16777216 + sub (83 / 65536 % 256) * 65536 + sub (83 / 256 % 256) * 256 + sub (83 % 256) = _
  simp only [Nat.reduceDiv, Nat.reduceMod, sub0, sub83]
set_option maxRecDepth 100000 in
set_option maxHeartbeats 400000 in
theorem alive05_any (w : World) : Calls Try.prog 32 #[] w fun e w' => e = .returned (.bool true) ∧ Below w.heap.size w w' := by
  go_enter Try.func32, Try.ntmps32
  go_wp2_with (go_at_call 25; refine (boxnew_any _).mono ?_; rintro e w1 ⟨g, rfl, hg, hb, hB⟩)
  have H1 : Calls Try.prog 26 #[.pointer (some ⟨g, 0, none⟩), .int .u8 0] w1 fun e w' => e = .returned (.int .u8 99) ∧ w1 = w' := by
    have := boxsub_any g 0 (by omega) w1 hb
    rwa [sub0] at this
  have H2 : Calls Try.prog 26 #[.pointer (some ⟨g, 0, none⟩), .int .u8 83] w1 fun e w' => e = .returned (.int .u8 237) ∧ w1 = w' := by
    have := boxsub_any g 83 (by omega) w1 hb
    rwa [sub83] at this
  have H3 : Calls Try.prog 28 #[.pointer (some ⟨g, 0, none⟩), .int .u8 99] w1 fun e w' => e = .returned (.int .u8 0) ∧ w1 = w' := by
    have := boxback_any g 99 (by omega) w1 hb
    rwa [back99] at this
  have H4 : Calls Try.prog 30 #[.pointer (some ⟨g, 0, none⟩), .int .u32 83] w1 fun e w' => e = .returned (.int .u32 1667458029) ∧ w1 = w' := by
    have := boxword_any g 83 (by omega) w1 hb
    rwa [subW83] at this
  replace H1 := hide H1
  replace H2 := hide H2
  replace H3 := hide H3
  replace H4 := hide H4
  replace hb := hide hb
  go_wp2_with (first
    | (go_at_call 26; (first | with_reducible refine H1.out.mono ?_ | with_reducible refine H2.out.mono ?_); rintro e w' ⟨rfl, rfl⟩)
    | (go_at_call 28; with_reducible refine H3.out.mono ?_; rintro e w' ⟨rfl, rfl⟩)
    | (go_at_call 30; with_reducible refine H4.out.mono ?_; rintro e w' ⟨rfl, rfl⟩))
  go_ret
  exact ⟨rfl, hB⟩
end Go.Proofs.Ytdeljodfanfbmaa
