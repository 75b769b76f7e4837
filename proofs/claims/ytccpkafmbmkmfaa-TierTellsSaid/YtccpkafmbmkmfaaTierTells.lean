/- The statement TierTellsSaid: for every input miradorlaw28.TierTells returns true, and each argument reads behind the call as before. No condition. -/
import Derived.Test.YtccpkafmbmkmfaaTierTellsWalk
import Derived.Test.YtccpkafmbmkmfaaOpen
import Derived.Lib.SmallJoins
import Derived.Test.YtccpkafmbmkmfaaRows
namespace Go.Proofs.Ytccpkafmbmkmfaa.tierTells
open Go.ChangeShapes Go.WideShapes Go.ChangeAt Go.RowKit
open Go.ChangeMaps (open_string shut_string)
set_option linter.unusedVariables false
theorem own : ownKnob Try.prog.godebug = none := by kernel_rfl
theorem laidOut : laidOutB Try.prog = true := by kernel_rfl
set_option maxRecDepth 100000 in
theorem lifted (os : Os) (started : os.Started) (H : Type) (enc : TypeId × Value → H) :
    ReturnsInHanded {} Try.checked os 3 .any (Rows.tierTellsSpec.pre6 enc Try.prog Try.f3 Rows.tierTellsRow.domain false) (Rows.tierTellsSpec.post enc Try.prog Try.f3 false true false false) := by
  refine returnsInHanded_of_change (C := Try.checked) own started (by kernel_rfl) Try.func3
    (ChangeSpec.witness6 (enc := enc) (C := Try.checked) false ⟨#[], #[.agg #[.int .u32 0, .int .u32 0, .int .i64 0, .int .i64 0]], []⟩ 8 (by kernel_rfl) (by kernel_rfl) (by kernel_rfl) (by kernel_rfl)) ?_
  intro W base args ds gs before hval0 hW hcnd _
  have hval : ∀ (j : Nat) t v, Try.f3.params[j]? = some t → args[j]? = some v → Value.okWide Try.prog W .any base t v := hval0
  have hW' := hW
  obtain ⟨p, q, hA0, hV, rfl, hfz, hnd⟩ := hW
  have hA : DataW.TrodAll enc Try.prog W 0 (fun _ => true) true Try.f3.params.toList args.toList ds p := hA0
  rw [Try.params3] at hA hval
  obtain ⟨v0, vs0, d0, ds0, p0, q0, hargs, rfl, rfl, h0, r0⟩ := trodAll_cons hA
  obtain ⟨rfl, rfl, rfl⟩ := trodAll_nil r0
  obtain rfl : args = #[v0] := by cases args; simp_all
  obtain ⟨rfl, rfl⟩ := trodVars_none hV
  have k0 := h0
  have lt0 : ∀ x ∈ p0, x.block < W.heap.size := by obtain ⟨m, hm⟩ := k0; exact DataW.trod_lt m _ _ _ hm
  have K0 : ∀ W' : World, Below W.heap.size W W' → DataW.Trod enc Try.prog W' 0 (fun b => decide (b < W.heap.size)) true 24 v0 d0 p0 := fun W' bel => Below.trod laidOut (by kernel_rfl) (of_decide_eq_true (by kernel_rfl)) k0 bel lt0
  clear k0 lt0
  obtain ⟨e0, e1, e2, e3, y0, y1, y2, y3, fm, rfl, rfl, rfl, g0, g1, g2, g3⟩ := Go.Joins.open_agg4 Try.underlying24 (by kernel_rfl) (by kernel_rfl) (hval 0 24 v0 rfl rfl) h0
  obtain ⟨a0, j0, rfl, i0⟩ := DataW.trod_int Try.underlying22 g0
  obtain ⟨a1, j1, rfl, i1⟩ := DataW.trod_int Try.underlying22 g1
  obtain ⟨a2, j2, rfl, i2⟩ := DataW.trod_int Try.underlying3 g2
  obtain ⟨a3, j3, rfl, i3⟩ := DataW.trod_int Try.underlying3 g3
  simp at j0 j1 j2 j3
  subst j0 j1 j2 j3
  obtain ⟨b, rfl⟩ := of_wf_u32 i0
  obtain ⟨h, rfl⟩ := of_wf_u32 i1
  clear hA0 hval0
  refine (tierTells_walk b.toNat h.toNat a2 a3 (by have := b.isLt; omega) (by have := h.isLt; omega) (of_wf_i64 i2).1 (of_wf_i64 i2).2 (of_wf_i64 i3).1 (of_wf_i64 i3).2 W).mono fun e W' ⟨he, bel⟩ => ?_
  subst he
  exact ⟨_, rfl, _, _, _, [], _, [], hW', trodAll_mk1 (shut_bool Try.underlying4 _), (trodAll_cons_mk (K0 _ bel) trodAll_mk0), rfl, bel.frame _, fun h => by cases h⟩
theorem over : Rows.tierTellsRow.holds Try.pinned (OpenSpec.ofChange Rows.tierTellsSpec) :=
  OpenClaim.holds_of_wide 3 Try.f3 rfl rfl rfl rfl rfl rfl rfl ⟨rfl, rfl, rfl, rfl, rfl⟩ rfl rfl rfl rfl rfl (by kernel_rfl) Try.func3 (by kernel_rfl)
    (of_decide_eq_true (by kernel_rfl)) (by unfold Func.isWrapper; first | (rw [if_pos (by decide +kernel)]; kernel_rfl) | (rw [if_neg (by decide +kernel)]; exact ⟨rfl, rfl⟩))
    (fun os started H enc _ => lifted os started H enc)
theorem proved : Rows.TierTellsSaid := over
#print axioms proved
end Go.Proofs.Ytccpkafmbmkmfaa.tierTells
