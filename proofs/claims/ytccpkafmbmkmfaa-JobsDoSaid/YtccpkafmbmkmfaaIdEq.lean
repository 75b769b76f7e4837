/- Two rows of 32 bytes, held against one another. No condition. -/
import Derived.Test.YtccpkafmbmkmfaaInfo
import Derived.Test.YtccpkafmbmkmfaaLists
import Derived.DeepKeys
namespace Go.Proofs.Ytccpkafmbmkmfaa
open Go.RowKit
set_option linter.unusedVariables false
set_option linter.unusedSimpArgs false

theorem mapM_some {α β : Type} {f : α → Option β} {g : α → β} : ∀ (l : List α), (∀ x ∈ l, f x = some (g x)) → l.mapM f = some (l.map g)
  | [], _ => rfl
  | a :: l, h => by
    rw [List.mapM_cons, h a (by simp), mapM_some l (fun x hx => h x (by simp [hx]))]; rfl
def litB (b : BitVec 8) : Lit := .int .u8 (b.toNat : Int)
theorem litB_wf (b : BitVec 8) : (Lit.int .u8 (b.toNat : Int)).wf = true := by
  have := b.isLt
  simp [Lit.wf, IntKind.min, IntKind.max, IntKind.signed, IntKind.bits]; omega
theorem litB_inj {a b : BitVec 8} (h : litB a = litB b) : a = b := by
  unfold litB at h
  injection h with _ h
  exact BitVec.eq_of_toNat_eq (by omega)
theorem flat_get (l : List (BitVec 8)) (n : Nat) (hl : l.length = n) : ((List.range n).map fun i => [litB (l.getD i 0)]).flatten = l.map litB := by
  have e : ∀ r : List Nat, (r.map fun i => [litB (l.getD i 0)]).flatten = r.map fun i => litB (l.getD i 0) := by
    intro r; induction r with
    | nil => rfl
    | cons a r ih => simp only [List.map_cons, List.flatten_cons, ih]; rfl
  rw [e]
  apply List.ext_getElem?
  intro i
  by_cases hi : i < n
  · simp [List.getElem?_range hi, List.getD, hl, hi]
  · rw [List.getElem?_eq_none (by simp; omega), List.getElem?_eq_none (by simp; omega)]
theorem cells_id : Try.prog.cellsOf 70 = 32 := by kernel_rfl
theorem cells_u8 : Try.prog.cellsOf 5 = 1 := by kernel_rfl
theorem keyLits_id (l : List (BitVec 8)) (hl : l.length = 32) : Try.prog.keyLits 2 70 (l.map c8) = some (l.map litB) := by
  rw [Program.keyLits.eq_def]
  simp only [Try.underlying70]
  rw [if_pos (by rw [cells_id, List.length_map, hl]), cells_u8]
  rw [mapM_some (g := fun i => [litB (l.getD i 0)])]
  · rw [Option.map_some, flat_get l 32 hl]
  · intro i hi
    have hi : i < l.length := by rw [hl]; simpa using hi
    have e : ((l.map c8).drop (i * 1)).take 1 = [c8 l[i]] := by
      rw [Nat.mul_one, List.drop_eq_getElem_cons (by simpa using hi)]; simp
    rw [e, Program.keyLits.eq_def]
    simp only [Try.underlying5, c8]
    rw [if_pos ⟨trivial, litB_wf _⟩]
    simp [litB, List.getD, hi]
set_option maxRecDepth 100000 in
theorem eq_id (l m : List (BitVec 8)) (hl : l.length = 32) (hm : m.length = 32) (w : World) :
    (Op.equalIn 10000 70 (.agg (l.map c8).toArray) (.agg (m.map c8).toArray)).run Try.prog w = .ok (decide (l = m)) w := by
  have hf : ∀ l : List (BitVec 8), l.length = 32 → (Value.agg (l.map c8).toArray).formed Try.prog 70 = true := fun l hl => by
    rw [Value.formed, Try.underlying70]
    simp [cells_id, hl]
  obtain ⟨r, hr, hi⟩ := run_equalIn_deep (P := Try.prog) 9998 2 70 (by kernel_rfl) w 2 2 _ _ _ _ (hf l hl) (hf m hm) (keyLits_id l hl) (keyLits_id m hm)
  rw [hr]
  congr 1
  rw [Bool.eq_iff_iff, hi, decide_eq_true_eq]
  constructor
  · intro h
    exact List.map_inj_right (fun _ _ h => litB_inj h) |>.1 h
  · intro h; rw [h]
end Go.Proofs.Ytccpkafmbmkmfaa
