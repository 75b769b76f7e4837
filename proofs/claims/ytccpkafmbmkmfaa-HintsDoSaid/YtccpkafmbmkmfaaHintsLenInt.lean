/- Package hints at int keys: Len, Keys. No condition. -/
import Derived.Test.YtccpkafmbmkmfaaHintsLiveInt
namespace Go.Proofs.Ytccpkafmbmkmfaa.hInt
open Go.RowKit
set_option linter.unusedVariables false
set_option linter.unusedSimpArgs false

theorem len_live (w : World) (S : Nat → Prop) (g b : Nat) (C : Noted Int) (h : Is w S g b C) : Calls Try.prog 29 #[.pointer (some ⟨g, 0, none⟩)] w fun e w' => e = .returned (.int .i64 (totalOf C : Int)) ∧ w = w' := by
  obtain ⟨E, rfl, h⟩ := h
  have HN := hide (none_live g b (.int .i64 (totalOf (notedOf E) : Int)) w h.head)
  have c1 : w.cell? ⟨g, 1, none⟩ = some (.int .i64 (totalOf (notedOf E) : Int)) := (h.head.cell 1).trans rfl
  clear h
  generalize totalOf (notedOf E) = t at *
  go_enter Try.func29, Try.ntmps29
  go_wp2_with (first
    | (go_at_call 79; (with_reducible refine HN.out.mono ?_); rintro e w0 ⟨rfl, rfl⟩)
    | fail)
  go_ret
  exact ⟨rfl, rfl⟩
theorem len_nil (w : World) : Calls Try.prog 29 #[.pointer none] w fun e w' => e = .returned (.int .i64 0) ∧ w = w' := by
  go_enter Try.func29, Try.ntmps29
  go_wp2_with (first
    | (go_at_call 79; (with_reducible refine (none_nil _).mono ?_); rintro e w0 ⟨rfl, rfl⟩)
    | fail)
  go_ret
  exact ⟨rfl, rfl⟩
theorem len_blank (w : World) (g : Nat) (n : Value) (h : Blk w g TI #[.map none, n]) : Calls Try.prog 29 #[.pointer (some ⟨g, 0, none⟩)] w fun e w' => e = .returned (.int .i64 0) ∧ w = w' := by
  have HN := hide (none_blank g n w h)
  clear h
  go_enter Try.func29, Try.ntmps29
  go_wp2_with (first
    | (go_at_call 79; (with_reducible refine HN.out.mono ?_); rintro e w0 ⟨rfl, rfl⟩)
    | fail)
  go_ret
  exact ⟨rfl, rfl⟩
theorem keys_live (w : World) (S : Nat → Prop) (g b : Nat) (C : Noted Int) (h : Is w S g b C) : Calls Try.prog 32 #[.pointer (some ⟨g, 0, none⟩)] w fun e w' => e = .returned (.int .i64 (C.length : Int)) ∧ w = w' := by
  obtain ⟨E, rfl, h⟩ := h
  have HN := hide (none_live g b (.int .i64 (totalOf (notedOf E) : Int)) w h.head)
  have c0 : w.cell? ⟨g, 0, none⟩ = some (.map (some b)) := (h.head.cell 0).trans rfl
  have hl := fun ty => h.map.len Try.underlying63 ty
  have e1 : (slicesOf E).length = (notedOf E).length := by simp [slicesOf, notedOf]
  rw [e1] at hl
  clear h e1
  generalize (notedOf E).length = t at *
  go_enter Try.func32, Try.ntmps32
  go_wp2_with (first
    | (go_at_call 79; (with_reducible refine HN.out.mono ?_); rintro e w0 ⟨rfl, rfl⟩)
    | fail)
  go_ret
  exact ⟨rfl, rfl⟩
theorem keys_nil (w : World) : Calls Try.prog 32 #[.pointer none] w fun e w' => e = .returned (.int .i64 0) ∧ w = w' := by
  go_enter Try.func32, Try.ntmps32
  go_wp2_with (first
    | (go_at_call 79; (with_reducible refine (none_nil _).mono ?_); rintro e w0 ⟨rfl, rfl⟩)
    | fail)
  go_ret
  exact ⟨rfl, rfl⟩
theorem keys_blank (w : World) (g : Nat) (n : Value) (h : Blk w g TI #[.map none, n]) : Calls Try.prog 32 #[.pointer (some ⟨g, 0, none⟩)] w fun e w' => e = .returned (.int .i64 0) ∧ w = w' := by
  have HN := hide (none_blank g n w h)
  clear h
  go_enter Try.func32, Try.ntmps32
  go_wp2_with (first
    | (go_at_call 79; (with_reducible refine HN.out.mono ?_); rintro e w0 ⟨rfl, rfl⟩)
    | fail)
  go_ret
  exact ⟨rfl, rfl⟩
end Go.Proofs.Ytccpkafmbmkmfaa.hInt
