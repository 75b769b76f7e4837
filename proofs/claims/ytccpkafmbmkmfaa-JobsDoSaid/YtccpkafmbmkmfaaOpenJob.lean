/- A job as an argument, opened field by field. No condition. -/
import Derived.Test.YtccpkafmbmkmfaaJobFns
import Derived.Test.YtccpkafmbmkmfaaOpenStructs
import Derived.Test.YtccpkafmbmkmfaaOpenArr
import Derived.Test.YtccpkafmbmkmfaaInfo
namespace Go.Proofs.Ytccpkafmbmkmfaa
open Go.ChangeShapes Go.WideShapes Go.ChangeAt Go.RowKit Go.Deep
set_option linter.unusedVariables false

theorem trod_slice_of {H : Type} {enc : TypeId × Value → H} {P : Program} {w : World} {base : Nat} {sp : Nat → Bool} {held : Bool} {t e : TypeId} {fuel : Nat} {v : Value} {x : DataW H × List MemPlace} (ht : P.underlying t = some (.slice e)) (h : DataW.trod enc P w base sp held fuel t [v] = some x) :
    ∃ A n c, v = .slice A n c := by
  rcases DataW.trod_slice ht h with ⟨e, _⟩ | ⟨a, len, cap, _, _, _, _, e, _⟩
  · injection e with e1 _; exact ⟨_, _, _, e1⟩
  · injection e with e1 _; exact ⟨_, _, _, e1⟩
theorem trod_arr8J {H : Type} {enc : TypeId × Value → H} {P : Program} {w : World} {base : Nat} {sp : Nat → Bool} {held : Bool} {t e : TypeId} {n fuel : Nat} {cs : List Value} {x : DataW H × List MemPlace} (hu : P.underlying t = some (.array n e)) (he : P.underlying e = some (.int .u8)) (ce : P.cellsOf e = 1) (ct : P.cellsOf t = n)
    (h : DataW.trod enc P w base sp held fuel t cs = some x) (hl : cs.length = n) : ∃ bs : List (BitVec 8), cs = bs.map c8 := by
  cases fuel with
  | zero => simp [DataW.trod] at h
  | succ m =>
    rw [DataW.trod_step] at h
    unfold DataW.trodStep at h
    simp only [hu] at h
    rw [if_pos (by rw [ct]; exact hl)] at h
    simp only [Option.map_eq_some_iff] at h
    obtain ⟨ys, hy, _⟩ := h
    have hb := mapM_bytes he _ ys hy
    exact bytes_of cs (by
      intro v hv
      obtain ⟨i, hi, rfl⟩ := List.mem_iff_getElem.1 hv
      obtain ⟨b, h⟩ := hb i (by simp; omega)
      rw [ce, Nat.mul_one, List.drop_eq_getElem_cons hi] at h
      simp only [List.take_succ_cons, List.take_zero, List.cons.injEq, and_true] at h
      exact ⟨b, h⟩)
section
variable {H : Type} {enc : TypeId × Value → H} {w : World} {base : Nat} {held : Bool}
/-- tiers, of any length -/
theorem open_tiers {A : Option Addr} {n c : Nat} {d : DataW H} {p : List MemPlace} (h : DataW.Trod enc Try.prog w base (fun _ => true) held 71 (.slice A n c) d p) :
    ∃ K : List TierK, PayAt w (fun i => i < w.heap.size) (.slice A n c) K ∧ K.length = n ∧ n ≤ 9223372036854775807 ∧ ∀ p ∈ K, p.2.2.length ≤ 9223372036854775807 := by
  obtain ⟨K, h1, h2, h3, h4, h5⟩ := open_structs (fun p : TierK => [c32 p.1, p.2.1]) (fun p => TxAt w (fun i => i < w.heap.size) p.2.1 p.2.2 ∧ p.2.2.length ≤ 9223372036854775807) 2 (by omega) (fun _ => rfl) Try.underlying71 (by kernel_rfl) (fun fuel cs x ht hl => by
    obtain ⟨xs, k, _, _, _, hlen, hfl⟩ := DataW.trod_struct Try.underlying80 ht
    obtain ⟨v0, v1, rfl⟩ := two_of cs hl
    have cu : Try.prog.cellsOf 22 = 1 := by kernel_rfl
    have cs1 : Try.prog.cellsOf 78 = 1 := by kernel_rfl
    have f0 : DataW.trod enc Try.prog w base (fun _ => true) held k 22 (([v0, v1].drop 0).take (Try.prog.cellsOf 22)) = xs[0]? := hfl 0 _ rfl
    have f1 : DataW.trod enc Try.prog w base (fun _ => true) held k 78 (([v0, v1].drop 1).take (Try.prog.cellsOf 78)) = xs[1]? := hfl 1 _ rfl
    have hx2 : xs.length = 2 := hlen
    rw [cu, List.getElem?_eq_getElem (by omega)] at f0
    rw [cs1, List.getElem?_eq_getElem (by omega)] at f1
    obtain ⟨a, e0, _, w0⟩ := DataW.trod_int Try.underlying22 f0
    obtain ⟨x0, rfl⟩ := of_wf_u32 w0
    simp at e0
    subst e0
    have f1' : DataW.trod enc Try.prog w base (fun _ => true) held k 78 [v1] = some xs[1] := f1
    obtain ⟨A', n', c', rfl⟩ := trod_slice_of Try.underlying78 f1'
    obtain ⟨bs, r1, r2, r3⟩ := open_row8 (A := A') (n := n') (c := c') (d := xs[1].1) (p := xs[1].2) Try.underlying78 Try.underlying5 (by kernel_rfl) ⟨k, f1'⟩
    have hbl : bs.length = n' := by simpa using r1.1
    subst hbl
    exact ⟨(x0, (.slice A' bs.length c', bs)), rfl, ⟨A', c', rfl, ReadsS.of_reads r1 (by omega) (Nat.le_refl _), r3⟩, r2⟩) h
  subst h2
  exact ⟨K, ⟨A, c, rfl, h5, ReadsS.of_reads h1 (by omega) (Nat.le_refl _), fun p hp => (h3 p hp).1⟩, rfl, h4, fun p hp => (h3 p hp).2⟩
/-- the 38 cells of a job -/
theorem trod_job {fuel : Nat} {cs : List Value} {x : DataW H × List MemPlace} (hl : cs.length = 38) (h : DataW.trod enc Try.prog w base (fun _ => true) held fuel 75 cs = some x) :
    ∃ (j : JobM) (v : Value) (K : List TierK), cs = jobCells j v ∧ j.breach.length = 32 ∧ v.oneCell' = true ∧ PayAt w (fun i => i < w.heap.size) v K ∧ K.length ≤ 9223372036854775807 ∧ (∀ p ∈ K, p.2.2.length ≤ 9223372036854775807) ∧
      (-9223372036854775808 ≤ j.live ∧ j.live ≤ 9223372036854775807) := by
  obtain ⟨xs, k, _, _, _, hlen, hfl⟩ := DataW.trod_struct Try.underlying75 h
  have cK : Try.prog.cellsOf 68 = 2 := by kernel_rfl
  have cI : Try.prog.cellsOf 70 = 32 := by kernel_rfl
  have cu : Try.prog.cellsOf 22 = 1 := by kernel_rfl
  have ci1 : Try.prog.cellsOf 3 = 1 := by kernel_rfl
  have cP : Try.prog.cellsOf 73 = 1 := by kernel_rfl
  have cT : Try.prog.cellsOf 71 = 1 := by kernel_rfl
  have hx6 : xs.length = 6 := hlen
  have f0 : DataW.trod enc Try.prog w base (fun _ => true) held k 68 ((cs.drop 0).take (Try.prog.cellsOf 68)) = xs[0]? := hfl 0 _ rfl
  have f1 : DataW.trod enc Try.prog w base (fun _ => true) held k 70 ((cs.drop 2).take (Try.prog.cellsOf 70)) = xs[1]? := hfl 1 _ rfl
  have f2 : DataW.trod enc Try.prog w base (fun _ => true) held k 22 ((cs.drop 34).take (Try.prog.cellsOf 22)) = xs[2]? := hfl 2 _ rfl
  have f3 : DataW.trod enc Try.prog w base (fun _ => true) held k 22 ((cs.drop 35).take (Try.prog.cellsOf 22)) = xs[3]? := hfl 3 _ rfl
  have f4 : DataW.trod enc Try.prog w base (fun _ => true) held k 3 ((cs.drop 36).take (Try.prog.cellsOf 3)) = xs[4]? := hfl 4 _ rfl
  have f5 : DataW.trod enc Try.prog w base (fun _ => true) held k 73 ((cs.drop 37).take (Try.prog.cellsOf 73)) = xs[5]? := hfl 5 _ rfl
  rw [List.getElem?_eq_getElem (by omega)] at f0 f1 f2 f3 f4 f5
  obtain ⟨L1, hL1⟩ : ∃ L1, L1 = (cs.drop 2).take 32 := ⟨_, rfl⟩
  have hL1l : L1.length = 32 := by rw [hL1]; simp [hl]
  obtain ⟨a0, a1, h01⟩ := two_of (cs.take 2) (by simp [hl])
  obtain ⟨b1, b2, b3, b4, h4⟩ : ∃ a b c d, cs.drop 34 = [a, b, c, d] := by
    match cs.drop 34, (show (cs.drop 34).length = 4 by simp [hl]) with
    | [a, b, c, d], _ => exact ⟨a, b, c, d, rfl⟩
  have h35 : cs.drop 35 = [b2, b3, b4] := by rw [show 35 = 34 + 1 by rfl, ← List.drop_drop, h4]; rfl
  have h36 : cs.drop 36 = [b3, b4] := by rw [show 36 = 34 + 2 by rfl, ← List.drop_drop, h4]; rfl
  have h37 : cs.drop 37 = [b4] := by rw [show 37 = 34 + 3 by rfl, ← List.drop_drop, h4]; rfl
  have hcs : cs = [a0, a1] ++ (L1 ++ [b1, b2, b3, b4]) := by
    rw [← h01, ← h4, hL1]
    have e1 : cs.drop 34 = (cs.drop 2).drop 32 := by rw [List.drop_drop]
    rw [e1, List.take_append_drop, List.take_append_drop]
  simp only [cK, List.drop_zero, h01] at f0
  simp only [cI, ← hL1] at f1
  simp only [cu, h4, List.take_succ_cons, List.take_zero] at f2
  simp only [cu, h35, List.take_succ_cons, List.take_zero] at f3
  simp only [ci1, h36, List.take_succ_cons, List.take_zero] at f4
  simp only [cP, h37, List.take_succ_cons, List.take_zero] at f5
  obtain ⟨ys, k2, _, _, _, hlen2, hfl2⟩ := DataW.trod_struct Try.underlying68 f0
  have hy2 : ys.length = 2 := hlen2
  have g0 : DataW.trod enc Try.prog w base (fun _ => true) held k2 22 (([a0, a1].drop 0).take (Try.prog.cellsOf 22)) = ys[0]? := hfl2 0 _ rfl
  have g1 : DataW.trod enc Try.prog w base (fun _ => true) held k2 22 (([a0, a1].drop 1).take (Try.prog.cellsOf 22)) = ys[1]? := hfl2 1 _ rfl
  rw [cu, List.getElem?_eq_getElem (by omega)] at g0 g1
  obtain ⟨i0, e0, _, w0⟩ := DataW.trod_int Try.underlying22 g0
  obtain ⟨x0, rfl⟩ := of_wf_u32 w0
  obtain ⟨i1, e1, _, w1⟩ := DataW.trod_int Try.underlying22 g1
  obtain ⟨x1, rfl⟩ := of_wf_u32 w1
  simp at e0 e1
  obtain ⟨br, hbr⟩ := trod_arr8J Try.underlying70 Try.underlying5 (by kernel_rfl) cI f1 hL1l
  obtain ⟨i2, e2, _, w2⟩ := DataW.trod_int Try.underlying22 f2
  obtain ⟨x2, rfl⟩ := of_wf_u32 w2
  obtain ⟨i3, e3, _, w3⟩ := DataW.trod_int Try.underlying22 f3
  obtain ⟨x3, rfl⟩ := of_wf_u32 w3
  obtain ⟨i4, e4, _, w4⟩ := DataW.trod_int Try.underlying3 f4
  simp at e2 e3 e4
  obtain ⟨zs, k3, _, _, _, hlen3, hfl3⟩ := DataW.trod_struct Try.underlying73 f5
  have hz1 : zs.length = 1 := hlen3
  have p0 : DataW.trod enc Try.prog w base (fun _ => true) held k3 71 (([b4].drop 0).take (Try.prog.cellsOf 71)) = zs[0]? := hfl3 0 _ rfl
  rw [cT, List.getElem?_eq_getElem (by omega)] at p0
  have p0' : DataW.trod enc Try.prog w base (fun _ => true) held k3 71 [b4] = some zs[0] := p0
  obtain ⟨A', n', c', rfl⟩ := trod_slice_of Try.underlying71 p0'
  obtain ⟨K, hK, hKn, hn, hKb⟩ := open_tiers (A := A') (n := n') (c := c') (d := zs[0].1) (p := zs[0].2) ⟨k3, p0'⟩
  refine ⟨⟨x0, x1, br, x2, x3, i4⟩, .slice A' n' c', K, ?_, ?_, rfl, hK, by omega, hKb, of_wf_i64 w4⟩
  · rw [hcs, hbr, e0, e1, e2, e3, e4]
    simp [jobCells, jobHead]
  · have := congrArg List.length hbr
    simp [hL1l] at this
    exact this.symm
set_option maxRecDepth 100000 in
theorem open_job {r : Reach} {b0 : Nat} {v : Value} {d : DataW H} {p : List MemPlace} (hv : Value.okWide Try.prog w r b0 75 v) (h : DataW.Trod enc Try.prog w base (fun _ => true) held 75 v d p) :
    ∃ (j : JobM) (u : Value) (R : Array Value) (K : List TierK), v = .agg R ∧ JobVal j u R ∧ j.breach.length = 32 ∧ PayAt w (fun i => i < w.heap.size) u K ∧ K.length ≤ 9223372036854775807 ∧ (∀ p ∈ K, p.2.2.length ≤ 9223372036854775807) ∧
      (-9223372036854775808 ≤ j.live ∧ j.live ≤ 9223372036854775807) := by
  obtain ⟨cs, rfl, hsz⟩ := okWide_struct Try.underlying75 hv
  obtain ⟨fuel, hf⟩ := h
  have hC : Try.prog.cellsOf 75 = 38 := by kernel_rfl
  obtain ⟨j, u, K, h1, h2, h3, h4, h5, h6, h7⟩ := trod_job (cs := cs.toList) (by simpa [hC] using hsz) hf
  obtain ⟨R, hR⟩ := jobVal h2 h3
  have e : cs = R := by rw [hR.val, ← h1]
  exact ⟨j, u, cs, K, rfl, e ▸ hR, h2, h4, h5, h6, h7⟩
end
end Go.Proofs.Ytccpkafmbmkmfaa
