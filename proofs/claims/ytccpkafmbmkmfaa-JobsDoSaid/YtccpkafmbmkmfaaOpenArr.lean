/- How an argument that is an array of bytes is opened. No condition. -/
import Derived.Test.YtccpkafmbmkmfaaOpen
import Derived.WideKeyArr2
namespace Go.Proofs.Ytccpkafmbmkmfaa
open Go.ChangeShapes Go.WideShapes Go.ChangeAt Go.RowKit
set_option linter.unusedVariables false

theorem bytes_of : ∀ cs : List Value, (∀ v ∈ cs, ∃ b : BitVec 8, v = c8 b) → ∃ bs : List (BitVec 8), cs = bs.map c8
  | [], _ => ⟨[], rfl⟩
  | v :: l, h => by
    obtain ⟨b, rfl⟩ := h v (by simp)
    obtain ⟨bs, rfl⟩ := bytes_of l (fun v hv => h v (by simp [hv]))
    exact ⟨b :: bs, rfl⟩
section
variable {H : Type} {enc : TypeId × Value → H} {P : Program} {W : World} {base : Nat} {sp : Nat → Bool} {held : Bool}
theorem mapM_bytes {e : TypeId} (he : P.underlying e = some (.int .u8)) {m c : Nat} {cs : List Value} : ∀ (L : List Nat) (xs : List (DataW H × List MemPlace)),
    L.mapM (fun i => DataW.trod enc P W base sp held m e ((cs.drop (i * c)).take c)) = some xs → ∀ i ∈ L, ∃ b : BitVec 8, (cs.drop (i * c)).take c = [c8 b]
  | [], xs, h => by simp
  | i :: L, xs, h => by
    rw [List.mapM_cons] at h
    simp only [bind, Option.bind_eq_some_iff, pure, Option.some.injEq] at h
    obtain ⟨y, hy, ys, hys, rfl⟩ := h
    obtain ⟨a, ea, rfl, wa⟩ := DataW.trod_int he hy
    obtain ⟨b, rfl⟩ := of_wf_u8 wa
    intro j hj
    rcases List.mem_cons.1 hj with rfl | hj
    · exact ⟨b, ea⟩
    · exact mapM_bytes he L ys hys j hj
theorem open_arr8 {t e : TypeId} {n : Nat} {r : Reach} {b0 : Nat} {v : Value} {d : DataW H} {ps : List MemPlace} (hu : P.underlying t = some (.array n e)) (he : P.underlying e = some (.int .u8)) (ce : P.cellsOf e = 1) (ct : P.cellsOf t = n)
    (hok : Value.okWide P W r b0 t v) (hd : DataW.Trod enc P W base sp held t v d ps) : ∃ bs : List (BitVec 8), v = .agg (bs.map c8).toArray ∧ bs.length = n := by
  simp only [Value.okWide, hu] at hok
  obtain ⟨xs, rfl, hn, _⟩ := hok
  rw [ct] at hn
  obtain ⟨fuel, hf⟩ := hd
  cases fuel with
  | zero => simp [DataW.trod] at hf
  | succ m =>
    rw [DataW.trod_step] at hf
    unfold DataW.trodStep at hf
    simp only [hu, Value.cells] at hf
    rw [if_pos (by rw [ct]; simpa using hn)] at hf
    simp only [Option.map_eq_some_iff] at hf
    obtain ⟨ys, hy, _⟩ := hf
    have hb := mapM_bytes he _ ys hy
    obtain ⟨bs, hbs⟩ := bytes_of xs.toList (by
      intro v hv
      obtain ⟨i, hi, rfl⟩ := List.mem_iff_getElem.1 hv
      obtain ⟨b, h⟩ := hb i (by simp at hi ⊢; omega)
      rw [ce, Nat.mul_one, List.drop_eq_getElem_cons hi] at h
      simp at h
      exact ⟨b, by simpa using h⟩)
    refine ⟨bs, ?_, ?_⟩
    · rw [← hbs]
    · have := congrArg List.length hbs
      simp at this; omega
end
end Go.Proofs.Ytccpkafmbmkmfaa
