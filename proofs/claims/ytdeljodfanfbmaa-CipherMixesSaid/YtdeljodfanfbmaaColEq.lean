/- Two columns held equal. No condition. -/
import Derived.Test.YtdeljodfanfbmaaBlockEq


import Derived.DeepKeys
namespace Go.Proofs.Ytdeljodfanfbmaa
open Go.RowKit
set_option linter.unusedVariables false
set_option linter.unusedSimpArgs false

theorem cells_col : Try.prog.cellsOf 63 = 4 := by kernel_rfl
theorem keyLits_col (l : List (BitVec 8)) (hl : l.length = 4) : Try.prog.keyLits 2 63 (l.map c8) = some (l.map litB) := by
  rw [Program.keyLits.eq_def]
  simp only [Try.underlying63]
  rw [if_pos (by rw [cells_col, List.length_map, hl]), cells_u8]
  rw [mapM_some (g := fun i => [litB (l.getD i 0)])]
  · rw [Option.map_some, flat_get l 4 hl]
  · intro i hi
    have hi : i < l.length := by rw [hl]; simpa using hi
    have e : ((l.map c8).drop (i * 1)).take 1 = [c8 l[i]] := by
      rw [Nat.mul_one, List.drop_eq_getElem_cons (by simpa using hi)]; simp
    rw [e, Program.keyLits.eq_def]
    simp only [Try.underlying5, c8]
    rw [if_pos ⟨trivial, litB_wf _⟩]
    simp [litB, List.getD, hi]
set_option maxRecDepth 100000 in
theorem eq_col (l m : List (BitVec 8)) (hl : l.length = 4) (hm : m.length = 4) (w : World) :
    (Op.equalIn 10000 63 (.agg (l.map c8).toArray) (.agg (m.map c8).toArray)).run Try.prog w = .ok (decide (l = m)) w := by
  have hf : ∀ l : List (BitVec 8), l.length = 4 → (Value.agg (l.map c8).toArray).formed Try.prog 63 = true := fun l hl => by
    rw [Value.formed, Try.underlying63]
    simp [cells_col, hl]
  obtain ⟨r, hr, hi⟩ := run_equalIn_deep (P := Try.prog) 9998 2 63 (by kernel_rfl) w 2 2 _ _ _ _ (hf l hl) (hf m hm) (keyLits_col l hl) (keyLits_col m hm)
  rw [hr]
  congr 1
  rw [Bool.eq_iff_iff, hi, decide_eq_true_eq]
  constructor
  · intro h
    exact List.map_inj_right (fun _ _ h => litB_inj h) |>.1 h
  · intro h; rw [h]
end Go.Proofs.Ytdeljodfanfbmaa
