/- A hash of package sha as it lies in memory, and its New. No condition. -/
import Derived.Test.YtccpkafmbmkmfaaShaTake
import Derived.Test.YtccpkafmbmkmfaaStoreAt
namespace Go.Proofs.Ytccpkafmbmkmfaa
open Go.RowKit Go.Shelf
set_option linter.unusedVariables false
set_option linter.unusedSimpArgs false

/-! what has been told, plain -/
theorem runV_add (s : V8) (xs : List (BitVec 8)) (m j : Nat) : runV s xs (m + j) = runV (runV s xs m) (xs.drop (64 * m)) j := by
  induction j with
  | zero => rfl
  | succ j ih =>
    rw [← Nat.add_assoc]
    simp only [runV]
    rw [ih, List.drop_drop]
    congr 3; omega
/-- what is taken in next: what was left, and what is told -/
def toldOf (bs b : List (BitVec 8)) : List (BitVec 8) := restOf bs ++ b
theorem toldOf_len (bs b : List (BitVec 8)) : (toldOf bs b).length = bs.length % 64 + b.length := by simp [toldOf, restOf_len]
theorem state_told (bs b : List (BitVec 8)) : stateV (bs ++ b) = runV (stateV bs) (toldOf bs b) ((toldOf bs b).length / 64) := by
  have hl := toldOf_len bs b
  have e : (bs ++ b).length / 64 = bs.length / 64 + (toldOf bs b).length / 64 := by rw [hl, List.length_append]; omega
  have e2 : (bs ++ b).drop (64 * (bs.length / 64)) = toldOf bs b := by rw [List.drop_append_of_le_length (by omega)]; rfl
  unfold stateV
  rw [e, runV_add, e2, runV_append _ _ _ _ (by omega)]
theorem rest_told (bs b : List (BitVec 8)) : restOf (bs ++ b) = (toldOf bs b).drop (64 * ((toldOf bs b).length / 64)) := by
  have hl := toldOf_len bs b
  have e : (bs ++ b).length / 64 = bs.length / 64 + (toldOf bs b).length / 64 := by rw [hl, List.length_append]; omega
  have e2 : (bs ++ b).drop (64 * (bs.length / 64)) = toldOf bs b := by rw [List.drop_append_of_le_length (by omega)]; rfl
  unfold restOf
  rw [e, Nat.mul_add, ← List.drop_drop, e2]

/-! as it lies -/
def hashCells (v : V8) (r : Value) (n : Nat) : Array Value := (v.list.map c32 ++ [r, .int .u64 (n : Int)]).toArray
theorem hashCells_size (v : V8) (r : Value) (n : Nat) : (hashCells v r n).size = 10 := rfl
theorem hashCells_rest (v : V8) (r r' : Value) (n : Nat) : (hashCells v r n).setIfInBounds 8 r' = hashCells v r' n := by simp [hashCells, V8.list]
theorem hashCells_many (v : V8) (r : Value) (n m : Nat) : (hashCells v r n).setIfInBounds 9 (.int .u64 (m : Int)) = hashCells v r m := by simp [hashCells, V8.list]
theorem hashCells_state (v v' : V8) (r : Value) (n : Nat) : (splice (hashCells v r n).toList 0 (v'.list.map c32)).toArray = hashCells v' r n := by simp [splice, hashCells, V8.list]
/-- a hash that was told these bytes lies in this block -/
def HashIs (w : World) (g : Nat) (bs : List (BitVec 8)) : Prop :=
  ∃ A n c, Blk w g 175 (hashCells (stateV bs) (.slice A n c) bs.length) ∧ Reads w w.heap.size 1 A n ((restOf bs).map c8) ∧ n ≤ c ∧ (∀ ad, A = some ad → ∃ cs, Blk w ad.block 5 cs)
theorem HashIs.lt {w : World} {g : Nat} {bs : List (BitVec 8)} (h : HashIs w g bs) : g < w.heap.size := by
  obtain ⟨A, n, c, h1, _⟩ := h; exact h1.lt
/-- another's block is turned -/
theorem HashIs.grown {w w' : World} {g k : Nat} {bs : List (BitVec 8)} {ck : Array Value} (h : HashIs w g bs) (hg : w.grownBy w' (some k)) (hk : Blk w k 175 ck) (hne : k ≠ g) : HashIs w' g bs := by
  obtain ⟨A, n, c, h1, h2, h3, h4⟩ := h
  refine ⟨A, n, c, h1.grown hg (fun e => hne (by injection e with e; exact e.symm)), ⟨h2.1, fun hn => ?_⟩, h3, fun ad e => ?_⟩
  · obtain ⟨ad, e, hb, hc⟩ := h2.2 hn
    obtain ⟨cs, hcs⟩ := h4 ad e
    have hx : some ad.block ≠ some k := fun e' => by
      injection e' with e'
      exact Blk.ne_ hcs hk (by decide) e'
    refine ⟨ad, e, Nat.lt_of_lt_of_le hb hg.size, fun j u hu => ?_⟩
    refine (World.cell?_of_block (hg.block (ad.add j).block (by rw [block_of_add]; exact hb) (by rw [block_of_add]; exact hx))).trans (hc j u hu)
  · obtain ⟨cs, hcs⟩ := h4 ad e
    exact ⟨cs, hcs.grown hg (fun e' => by injection e' with e'; exact Blk.ne_ hcs hk (by decide) e')⟩
theorem HashIs.below {w w' : World} {g : Nat} {bs : List (BitVec 8)} (h : HashIs w g bs) (hb : Below w.heap.size w w') : HashIs w' g bs := by
  obtain ⟨A, n, c, h1, h2, h3, h4⟩ := h
  exact ⟨A, n, c, h1.below hb h1.lt, h2.later hb, h3, fun ad e => by obtain ⟨cs, hcs⟩ := h4 ad e; exact ⟨cs, hcs.below hb hcs.lt⟩⟩
theorem stateV_nil : stateV [] = shaH := rfl
theorem built_hash : Try.prog.built 175 [(0, .agg (shaH.list.map c32).toArray)] = some (hashCells shaH (.slice none 0 0) 0) := by kernel_rfl
/-- New's answer -/
def MadeHash (bs : List (BitVec 8)) (w : World) (e : Ending) (w' : World) : Prop := ∃ g, e = .returned (.pointer (some ⟨g, 0, none⟩)) ∧ w.heap.size ≤ g ∧ HashIs w' g bs ∧ Below w.heap.size w w'
set_option maxRecDepth 100000 in
theorem newhash_any (w : World) : Calls Try.prog 126 #[] w (MadeHash [] w) := by
  obtain ⟨H, hH⟩ : ∃ H, H = (shaH.list.map c32).toArray := ⟨_, rfl⟩
  obtain ⟨C, hC⟩ : ∃ C, C = hashCells shaH (.slice none 0 0) 0 := ⟨_, rfl⟩
  have HS : Hid (∀ w, Calls Try.prog 129 #[] w fun e w' => e = .returned (.agg H) ∧ Below w.heap.size w w') := hide (fun w => by rw [hH]; exact starts_any w)
  have HB : Hid (Try.prog.built 175 [(0, .agg H)] = some C) := hide (by rw [hH, hC]; exact built_hash)
  replace hC := hide hC
  clear hH
  go_enter Try.func126, Try.ntmps126
  go_wp2_with (first
    | (go_at_call 129; with_reducible refine (HS.out _).mono ?_; rintro e w1 ⟨rfl, hB⟩)
    | ((with_reducible show wpList _ _ _ (⟨_, .build _ _, _, _, _, _⟩ :: _) _ _); refine wpList_build_is rfl _ _ rfl C (by exact HB.out) ?_))
  go_ret
  refine ⟨w1.heap.size, rfl, hB.size, ⟨none, 0, 0, ?_, Reads.none_, Nat.le_refl _, fun ad e => by cases e⟩, hB.alloc hB.size _⟩
  have := Blk.new w1 175 C
  rw [hC.out] at this ⊢
  exact this
end Go.Proofs.Ytccpkafmbmkmfaa
