/- What single operations give, for regions that draw their order. No condition. -/
import Derived.Test.YtccpkafmbmkmfaaRel
import Derived.Test.YtccpkafmbmkmfaaArr
import Derived.Shelf.Abstract
namespace Go.Proofs.Ytccpkafmbmkmfaa
open Go Go.RowKit
set_option linter.unusedVariables false
set_option linter.unusedSimpArgs false

section
variable {P : Program} {o : Oper} {a : Act} {w : World} {X : Value → World → Prop}
theorem gives_move (x : Operand) (ho : o.op = .move x) (v : Value) (hx : a.eval x = v) (h : X v w) : Gives P o a w X := by
  subst hx
  unfold Gives execOp
  simp only [ho, Sem.run_pure, givesUpon]
  exact h
theorem gives_assign (x : Operand) (ho : o.op = .assign x) (v : Value) (hx : a.eval x = v) (h : X v w) : Gives P o a w X := by
  subst hx
  unfold Gives execOp
  simp only [ho, Sem.run_pure, givesUpon]
  exact h
theorem gives_call {f : Nat} {ops : Array Operand} {ts : Array TypeId} (ho : o.op = .call { callee := .value (.func f), args := ops, argTypes := ts }) (vs : List Value) (hv : ops.toList.map a.eval = vs)
    (eg : ∀ args w, (callFunc f args).run P w = .ok (.enter f args) w) (h : Calls P f vs.toArray w fun e w' => ∃ v, e = .returned v ∧ X v w') : Gives P o a w X := by
  subst hv
  have e : (ops.toList.map a.eval).toArray = ops.map a.eval := by cases ops; simp
  rw [e] at h
  unfold Gives execOp
  simp [ho, resolve, invoke, go_sem, eg, givesUpon]
  exact h
theorem gives_alloc (t : TypeId) (ho : o.op = .alloc t) (Z : Array Value) (hz : (P.info? t).map (·.zero) = some (some (.agg Z))) (h : X (.pointer (some ⟨w.heap.size, 0, none⟩)) (w.alloc (.cells Z t))) : Gives P o a w X := by
  unfold Gives execOp
  have hq : (zeroValue t).run P w = .ok (.agg Z) w := by
    cases hi : P.info? t with
    | none => simp [hi] at hz
    | some i =>
      simp [hi] at hz
      simp [zeroValue, typeInfo, hi, hz]
  simp [ho, Instr.alloc, hq, newVar, newRow, Value.cells, givesUpon]
  exact h
theorem gives_load_row (ty : TypeId) (x : Operand) (ho : o.op = .load ty x) (g : Nat) (hx : a.eval x = .pointer (some ⟨g, 0, none⟩)) (t : TypeId) (cs : Array Value) (fr : Nat × Nat) (d : TypeDesc) (hg : w.heap[g]? = some (.cells cs t fr))
    (hu : P.underlying ty = some d) (hd : (match d with | .struct _ | .array _ _ => true | _ => false) = true) (hi : (P.info? ty).map (·.size) = some cs.size) (h : X (.agg cs) w) : Gives P o a w X := by
  unfold Gives execOp
  simp only [ho, hx, Instr.loadAt, Instr.sureAddr, Sem.run_bind, Sem.run_pure, Result.andThen_ok, run_loadVar_row w g t ty cs fr d hg hu hd hi, givesUpon]
  exact h
theorem gives_store_row (ty : TypeId) (p x : Operand) (ho : o.op = .store ty p x) (g : Nat) (hp : a.eval p = .pointer (some ⟨g, 0, none⟩)) (c' : Array Value) (hx : a.eval x = .agg c') (t : TypeId) (cs : Array Value) (hg : w.heap[g]? = some (.cells cs t (0, 0)))
    (hi : (P.info? ty).map (·.size) = some c'.size) (hs : cs.size = c'.size) (h1 : c'.all (·.oneCell') = true) (h : X undef (w.setRow g c')) : Gives P o a w X := by
  unfold Gives execOp
  simp only [ho, hp, hx, Sem.run_bind, Result.andThen_ok, run_storeAt_row w ty t g cs c' hg hi hs h1, givesUpon]
  exact h
theorem wanted_none (y : Nat → Option Bool) (h : o.guard = none) : Region.wanted o y = true := by simp [Region.wanted, h]
end
end Go.Proofs.Ytccpkafmbmkmfaa
