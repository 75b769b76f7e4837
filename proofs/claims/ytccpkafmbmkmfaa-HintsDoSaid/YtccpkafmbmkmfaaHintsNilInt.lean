/- Package hints at int keys: a nil index, and one that no call made; Clone of these. No condition. -/
import Derived.Test.YtccpkafmbmkmfaaHintsLenInt
namespace Go.Proofs.Ytccpkafmbmkmfaa.hInt
open Go.RowKit
set_option linter.unusedVariables false
set_option linter.unusedSimpArgs false

theorem note_nil (k : Int) (v : Int) (w : World) : Calls Try.prog 27 #[.pointer none, fk k, .int .i64 v] w fun e w' => e = .returned (.bool false) ∧ w = w' := by
  go_enter Try.func27, Try.ntmps27
  go_wp2_with (first
    | (go_at_call 79; (with_reducible refine (none_nil _).mono ?_); rintro e w0 ⟨rfl, rfl⟩)
    | fail)
  go_ret
  exact ⟨rfl, rfl⟩
theorem note_blank (g : Nat) (n : Value) (k : Int) (v : Int) (w : World) (h : Blk w g TI #[.map none, n]) : Calls Try.prog 27 #[.pointer (some ⟨g, 0, none⟩), fk k, .int .i64 v] w fun e w' => e = .returned (.bool false) ∧ w = w' := by
  have HN := hide (none_blank g n w h)
  clear h
  go_enter Try.func27, Try.ntmps27
  go_wp2_with (first
    | (go_at_call 79; (with_reducible refine HN.out.mono ?_); rintro e w0 ⟨rfl, rfl⟩)
    | fail)
  go_ret
  exact ⟨rfl, rfl⟩
theorem inI_nil : InI [] := fun x hx => by simp at hx
theorem strike_dead (p : Option Addr) (k : Int) (v : Int) (w : World) (h : Tells (.pointer p) k [] w) : Calls Try.prog 30 #[.pointer p, fk k, .int .i64 v] w fun e w' => e = .returned (.bool false) ∧ Below w.heap.size w w' := by
  have HH := hide (has_any p k v [] inI_nil (by simp) w h)
  rw [decide_eq_false (by simp)] at HH
  clear h
  go_enter Try.func30, Try.ntmps30
  go_wp2_with (first
    | (go_at_call 31; (with_reducible refine HH.out.mono ?_); rintro e w1 ⟨rfl, hb1⟩; have B1 := hide hb1; clear hb1)
    | fail)
  go_ret
  exact ⟨rfl, B1.out⟩
theorem clone_nil (w : World) : Calls Try.prog 35 #[.pointer none] w fun e w' => e = .returned (.pointer none) ∧ w = w' := by
  go_enter Try.func35, Try.ntmps35
  go_wp2_with (first
    | (go_at_call 79; (with_reducible refine (none_nil _).mono ?_); rintro e w0 ⟨rfl, rfl⟩)
    | fail)
  go_ret
  exact ⟨rfl, rfl⟩
theorem clone_blank (g : Nat) (n : Value) (w : World) (h : Blk w g TI #[.map none, n]) : Calls Try.prog 35 #[.pointer (some ⟨g, 0, none⟩)] w fun e w' => e = .returned (.pointer none) ∧ w = w' := by
  have HN := hide (none_blank g n w h)
  clear h
  go_enter Try.func35, Try.ntmps35
  go_wp2_with (first
    | (go_at_call 79; (with_reducible refine HN.out.mono ?_); rintro e w0 ⟨rfl, rfl⟩)
    | fail)
  go_ret
  exact ⟨rfl, rfl⟩
end Go.Proofs.Ytccpkafmbmkmfaa.hInt
