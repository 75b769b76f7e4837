/- A whole array stored into a part of a block. No condition. -/
import Derived.Test.YtccpkafmbmkmfaaGives
import Derived.Laws.CopyOwn
namespace Go.Proofs.Ytccpkafmbmkmfaa
open Go Go.RowKit
set_option linter.unusedVariables false
set_option linter.unusedSimpArgs false

section
variable {P : Program}
theorem splice_nil {α : Type} (L : List α) (k : Nat) : splice L k [] = L := by simp [splice]
theorem splice_cons {α : Type} (L : List α) (k : Nat) (v : α) (rest : List α) (h : k < L.length) : splice (L.set k v) (k + 1) rest = splice L k (v :: rest) := by
  unfold splice
  have e1 : (L.set k v).take (k + 1) = L.take k ++ [v] := by
    rw [List.take_succ_eq_append_getElem (by simpa using h), List.take_set_of_le (Nat.le_refl _)]
    simp
  have e2 : (L.set k v).drop (k + 1 + rest.length) = L.drop (k + (v :: rest).length) := by
    rw [List.drop_set_of_lt (by omega)]
    congr 1
    simp; omega
  rw [e1, e2]
  simp
theorem run_storeCells_at (g off : Nat) (t : TypeId) : ∀ (vs : List Value) (i : Nat) (cur : Array Value) (w : World), w.heap[g]? = some (.cells cur t (0, 0)) → off + i + vs.length ≤ cur.size → (∀ v ∈ vs, v.oneCell' = true) →
    (storeCells ⟨g, off, none⟩ vs i).run P w = .ok () (w.setRow g (splice cur.toList (off + i) vs).toArray)
  | [], i, cur, w, hg, hl, _ => by
    have hlt : g < w.heap.size := (Array.getElem?_eq_some_iff.1 hg).1
    have hv : w.heap[g] = .cells cur t (0, 0) := (Array.getElem?_eq_some_iff.1 hg).2
    simp only [storeCells, splice_nil, Array.toArray_toList]
    show Result.ok () w = _
    congr 1
    unfold World.setRow
    cases w with
    | mk heap tape drawn os output =>
      congr 1
      apply Array.ext
      · simp
      · intro k h1 h2
        simp only [Array.getElem_modify]
        split
        · rename_i hk; subst hk; simp at hv; simp [hv]
        · rfl
  | v :: rest, i, cur, w, hg, hl, h1 => by
    have hi : off + i < cur.size := by simp at hl; omega
    have hadd : (⟨g, off, none⟩ : Addr).add i = ⟨g, off + i, none⟩ := by rw [Addr.add_lit]
    have hcell : w.cell? ⟨g, off + i, none⟩ = some cur[off + i] := by simp [World.cell?, hg, hi]
    have hfro : w.frozen? ⟨g, off + i, none⟩ = false := by simp [World.frozen?, hg]
    have hst : (store ((⟨g, off, none⟩ : Addr).add i) v).run P w = .ok () (w.setRow g (cur.setIfInBounds (off + i) v)) := by
      rw [hadd, run_store P w _ v _ (h1 v (by simp)), hcell]
      simp [hfro, setCell_eq_setRow w g (off + i) cur t (0, 0) v hg]
    have ih := run_storeCells_at g off t rest (i + 1) (cur.setIfInBounds (off + i) v) (w.setRow g (cur.setIfInBounds (off + i) v)) (setRow_heap w g cur _ t _ hg) (by simp at hl ⊢; omega) (fun x hx => h1 x (by simp [hx]))
    simp only [storeCells, Sem.run_bind, hst, Result.andThen_ok, ih, setRow_setRow]
    congr 3
    rw [Array.toList_setIfInBounds, ← Nat.add_assoc]
    exact splice_cons _ _ _ _ (by simpa using hi)
theorem run_storeAt_at (w : World) (ty t : TypeId) (g off : Nat) (cur : Array Value) (vs : List Value) (hg : w.heap[g]? = some (.cells cur t (0, 0))) (hi : (P.info? ty).map (·.size) = some vs.length) (hl : off + vs.length ≤ cur.size) (h1 : ∀ v ∈ vs, v.oneCell' = true) :
    (Instr.storeAt ty (.pointer (some ⟨g, off, none⟩)) (.agg vs.toArray)).run P w = .ok () (w.setRow g (splice cur.toList off vs).toArray) := by
  have := run_storeCells_at (P := P) g off t vs 0 cur w hg (by omega) h1
  simp only [Instr.storeAt, Instr.sureAddr, Sem.run_bind, Sem.run_pure, Result.andThen_ok]
  cases hq : P.info? ty with
  | none => simp [hq] at hi
  | some i =>
    have hs : vs.length = i.size := by simp [hq] at hi; omega
    simpa [storeVar, sizeOf, typeInfo, hq, Value.cells, hs] using this
theorem wpList_store_at {ops : Array Oper} {rest : List Oper} {o : Oper} {a : Act} {w : World} {Q : Exit → Act → World → Prop} (hgd : o.guard = none) (ty : TypeId) (p x : Operand) (ho : o.op = .store ty p x)
    (g off : Nat) (hp : a.eval p = .pointer (some ⟨g, off, none⟩)) (vs : List Value) (hx : a.eval x = .agg vs.toArray) (t : TypeId) (cur : Array Value) (hg : w.heap[g]? = some (.cells cur t (0, 0)))
    (hi : (P.info? ty).map (·.size) = some vs.length) (hl : off + vs.length ≤ cur.size) (h1 : ∀ v ∈ vs, v.oneCell' = true) (hK : wpList P ops Q rest (a.put o.dst undef) (w.setRow g (splice cur.toList off vs).toArray)) : wpList P ops Q (o :: rest) a w := by
  refine wpList_plain hgd fun _ hk => ?_
  unfold Oper.wp execOp
  simp only [ho, hp, hx, Sem.run_bind, Result.andThen_ok, run_storeAt_at w ty t g off cur vs hg hi hl h1]
  exact hk _ _ hK
theorem gives_load_at {o : Oper} {a : Act} {w : World} {X : Value → World → Prop} (ty : TypeId) (x : Operand) (ho : o.op = .load ty x) (ad : Addr) (hx : a.eval x = .pointer (some ad)) (cs : List Value) (d : TypeDesc)
    (hu : P.underlying ty = some d) (hd : (match d with | .struct _ | .array _ _ => true | _ => false) = true) (hi : (P.info? ty).map (·.size) = some cs.length) (h : ∀ j v, cs[j]? = some v → w.cell? (ad.add j) = some v)
    (hX : X (.agg cs.toArray) w) : Gives P o a w X := by
  unfold Gives execOp
  simp only [ho, hx, Sem.run_bind, Result.andThen_ok, run_loadAt_at w ty ad cs d hu hd hi h, givesUpon]
  exact hX
end
end Go.Proofs.Ytccpkafmbmkmfaa
