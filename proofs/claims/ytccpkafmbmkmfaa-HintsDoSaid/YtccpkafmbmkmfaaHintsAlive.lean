/- Chapter 24's example. No condition. -/
import Derived.Test.YtccpkafmbmkmfaaHintsLiveStr
import Derived.Test.YtccpkafmbmkmfaaRefAt
namespace Go.Proofs.Ytccpkafmbmkmfaa
open Go.RowKit
set_option linter.unusedVariables false
set_option linter.unusedSimpArgs false

abbrev kA : ByteArray := ⟨#[97]⟩
theorem kA_ok : hStr.ok kA := by unfold hStr.ok maxLen; decide
theorem al1 : hStr.noteC [] kA 5 = [(kA, [5])] := by decide +kernel
theorem al2 : hStr.noteC [(kA, [5])] kA 6 = [(kA, [5, 6])] := by decide +kernel
theorem al3 : hStr.noteC [(kA, [5, 6])] kA 7 = [(kA, [5, 6, 7])] := by decide +kernel
theorem al4 : hStr.noteC [(kA, [5, 6, 7])] kA 5 = [(kA, [5, 6, 7])] := by decide +kernel
theorem al5 : hStr.strikeC [(kA, [5, 6, 7])] kA 6 = [(kA, [5, 7])] := by decide +kernel
theorem av (xs : List Int) : valsOf [(kA, xs)] kA = xs := by simp [valsOf, mget]
theorem av0 : valsOf ([] : Noted ByteArray) kA = [] := rfl
theorem at1 (xs : List Int) : totalOf [(kA, xs)] = xs.length := by simp [totalOf]
/-- in what state the example's index is -/
def AL (w W : World) (xs : List Int) : Prop := ∃ C, (C = [(kA, xs)] ∨ C = [] ∧ xs = []) ∧ hStr.Live w W (fun _ => False) (w.heap.size + 1) w.heap.size C
theorem al_new (w : World) : Calls Try.prog 71 #[] w fun e w' => e = .returned (.pointer (some ⟨w.heap.size + 1, 0, none⟩)) ∧ AL w w' [] :=
  (hStr.live_new (K := fun _ => False) (Below.refl _ w) (fun _ h => h.elim)).mono fun e w' ⟨he, hl, _⟩ => ⟨he, [], .inr ⟨rfl, rfl⟩, hl⟩
theorem al_note (w W : World) (xs : List Int) (v : Int) (hv : -9223372036854775808 ≤ v ∧ v ≤ 9223372036854775807) (h : AL w W xs) (hl : xs.length ≤ 100) :
    Calls Try.prog 72 #[.pointer (some ⟨w.heap.size + 1, 0, none⟩), .string kA, .int .i64 v] W fun e w' => e = .returned (.bool (decide (v ∉ xs))) ∧ AL w w' (if v ∈ xs then xs else xs ++ [v]) := by
  obtain ⟨C, hC, hl'⟩ := h
  have hvs : valsOf C kA = xs := by rcases hC with rfl | ⟨rfl, rfl⟩; exact av xs; rfl
  have ht : totalOf C ≤ 549755813888 := by rcases hC with rfl | ⟨rfl, rfl⟩; rw [at1]; omega; simp [totalOf]
  refine (hStr.live_note kA kA_ok v hv hl' ht (fun _ h => h.elim)).mono fun e w' ⟨he, hi, _⟩ => ⟨by rw [he, hvs], _, ?_, hi⟩
  unfold hStr.noteC
  rw [hvs]
  by_cases hm : v ∈ xs
  · simp only [if_pos hm]; exact hC
  · simp only [if_neg hm]
    left
    rcases hC with rfl | ⟨rfl, rfl⟩
    · simp [mput, mget]
    · simp [mput, mget]
theorem al_strike (w W : World) (xs : List Int) (v : Int) (hv : -9223372036854775808 ≤ v ∧ v ≤ 9223372036854775807) (h : AL w W xs) (hl : xs.length ≤ 100) (hne : xs.erase v ≠ []) :
    Calls Try.prog 73 #[.pointer (some ⟨w.heap.size + 1, 0, none⟩), .string kA, .int .i64 v] W fun e w' => e = .returned (.bool (decide (v ∈ xs))) ∧ AL w w' (xs.erase v) := by
  obtain ⟨C, hC, hl'⟩ := h
  have hvs : valsOf C kA = xs := by rcases hC with rfl | ⟨rfl, rfl⟩; exact av xs; rfl
  have ht : totalOf C ≤ 549755813888 := by rcases hC with rfl | ⟨rfl, rfl⟩; rw [at1]; omega; simp [totalOf]
  refine (hStr.live_strike kA kA_ok v hv hl' ht (fun _ h => h.elim)).mono fun e w' ⟨he, hi, _⟩ => ⟨by rw [he, hvs], _, ?_, hi⟩
  unfold hStr.strikeC
  rw [hvs]
  rcases hC with rfl | ⟨rfl, rfl⟩
  · left
    by_cases hm : v ∈ xs
    · simp only [if_pos hm, if_neg hne]; simp [mput, mget]
    · simp only [if_neg hm, List.erase_of_not_mem hm]
  · exact absurd rfl hne
set_option maxRecDepth 100000 in
set_option maxHeartbeats 1600000 in
theorem alive24_any (w : World) : Calls Try.prog 19 #[] w fun e w' => e = .returned (.bool true) ∧ Below w.heap.size w w' := by
  have HA : Hid (∀ W, AL w W [5, 7] → Calls Try.prog 74 #[.pointer (some ⟨w.heap.size + 1, 0, none⟩), .string kA] W fun e w' => ∃ A c, e = .returned (.slice A 2 c) ∧ Reads w' w'.heap.size 1 A 2 ([5, 7].map ci) ∧ Below w.heap.size w w') := hide fun W h => by
    obtain ⟨C, hC, hl'⟩ := h
    have hC : C = [(kA, [5, 7])] := by rcases hC with h | ⟨_, h⟩; exact h; cases h
    subst hC
    refine (hStr.live_at kA kA_ok hl' (by rw [at1]; decide)).mono ?_
    rintro e w' ⟨v, rfl, ho, hb⟩
    rw [av] at ho
    obtain ⟨A, c, rfl⟩ := own_slice ho
    exact ⟨A, c, rfl, (hStr.own_reads ho).2, below_next hl'.below hb⟩
  have HN := hide (al_new w)
  have H1 : Hid (∀ W, AL w W [] → Calls Try.prog 72 #[.pointer (some ⟨w.heap.size + 1, 0, none⟩), .string kA, .int .i64 5] W fun e w' => e = .returned (.bool true) ∧ AL w w' [5]) := hide fun W h => al_note w W [] 5 (by omega) h (by decide)
  have H2 : Hid (∀ W, AL w W [5] → Calls Try.prog 72 #[.pointer (some ⟨w.heap.size + 1, 0, none⟩), .string kA, .int .i64 6] W fun e w' => e = .returned (.bool true) ∧ AL w w' [5, 6]) := hide fun W h => al_note w W [5] 6 (by omega) h (by decide)
  have H3 : Hid (∀ W, AL w W [5, 6] → Calls Try.prog 72 #[.pointer (some ⟨w.heap.size + 1, 0, none⟩), .string kA, .int .i64 7] W fun e w' => e = .returned (.bool true) ∧ AL w w' [5, 6, 7]) := hide fun W h => al_note w W [5, 6] 7 (by omega) h (by decide)
  have H4 : Hid (∀ W, AL w W [5, 6, 7] → Calls Try.prog 72 #[.pointer (some ⟨w.heap.size + 1, 0, none⟩), .string kA, .int .i64 5] W fun e w' => e = .returned (.bool false) ∧ AL w w' [5, 6, 7]) := hide fun W h => al_note w W [5, 6, 7] 5 (by omega) h (by decide)
  have H5 : Hid (∀ W, AL w W [5, 6, 7] → Calls Try.prog 73 #[.pointer (some ⟨w.heap.size + 1, 0, none⟩), .string kA, .int .i64 6] W fun e w' => e = .returned (.bool true) ∧ AL w w' [5, 7]) := hide fun W h => al_strike w W [5, 6, 7] 6 (by omega) h (by decide) (by decide)
  have HI : Hid (∀ A c g W, Reads W W.heap.size 1 A 2 ([5, 7].map ci) → Reads W W.heap.size 1 (some ⟨g, 0, none⟩) 2 ([5, 7].map ci) → Calls Try.prog 36 #[.slice A 2 c, .slice (some ⟨g, 0, none⟩) 2 2] W fun e w' => e = .returned (.bool true) ∧ Below W.heap.size W w') := hide fun A c g W h1 h2 => ints_any A _ 2 c 2 2 [5, 7] [5, 7] W h1 h2 (by omega) (by omega)
  go_enter Try.func19, Try.ntmps19
  go_wp2_with (first
    | (go_at_call 71; (with_reducible refine HN.out.mono ?_); rintro e w1 ⟨rfl, ha1⟩; have A1 := hide ha1; clear ha1)
    | (go_at_call 72; (with_reducible refine (H1.out _ A1.out).mono ?_); rintro e w2 ⟨rfl, ha2⟩; have A2 := hide ha2; clear ha2)
    | (go_at_call 72; (with_reducible refine (H2.out _ A2.out).mono ?_); rintro e w3 ⟨rfl, ha3⟩; have A3 := hide ha3; clear ha3)
    | (go_at_call 72; (with_reducible refine (H3.out _ A3.out).mono ?_); rintro e w4 ⟨rfl, ha4⟩; have A4 := hide ha4; clear ha4)
    | (go_at_call 72; (with_reducible refine (H4.out _ A4.out).mono ?_); rintro e w5 ⟨rfl, ha5⟩; have A5 := hide ha5; clear ha5)
    | (go_at_call 73; (with_reducible refine (H5.out _ A5.out).mono ?_); rintro e w6 ⟨rfl, ha6⟩; have A6 := hide ha6; clear ha6)
    | (go_at_call 74; (with_reducible refine (HA.out _ A6.out).mono ?_); rintro e w7 ⟨A, c, rfl, hr7, hb7⟩; have R7 := hide hr7; have B7 := hide hb7; clear hr7 hb7)
    | (go_at_call 36; (with_reducible refine (HI.out A c _ _ (R7.out.later ((Below.refl _ w7).alloc (Nat.le_refl _) _)) (Reads.new w7 _ #[.int .i64 5, .int .i64 7] |>.more (by simp))).mono ?_); rintro e w8 ⟨rfl, hb8⟩; have B8 := hide hb8; clear hb8)
    | fail)
  go_ret
  exact ⟨rfl, (B7.out.alloc B7.out.size _).trans (B8.out.mono (by have := B7.out.size; simp; omega))⟩
end Go.Proofs.Ytccpkafmbmkmfaa
