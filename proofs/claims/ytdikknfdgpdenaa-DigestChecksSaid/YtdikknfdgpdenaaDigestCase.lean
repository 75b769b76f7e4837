/- What DigestChecks is asked, opened field by field. No condition. -/
import Derived.Test.YtdikknfdgpdenaaDigestFns
import Derived.Test.YtdikknfdgpdenaaOpenArr
import Derived.Test.YtdikknfdgpdenaaOpen
import Derived.Test.YtdikknfdgpdenaaInfo
namespace Go.Proofs.Ytdikknfdgpdenaa
open Go.ChangeShapes Go.WideShapes Go.ChangeAt Go.RowKit Go.Deep
set_option linter.unusedVariables false

theorem cells4_of {α : Type} (l : List α) (h : l.length = 4) : ∃ a b c d, l = [a, b, c, d] := by
  match l, h with
  | [a, b, c, d], _ => exact ⟨a, b, c, d, rfl⟩
theorem slice_of {H : Type} {enc : TypeId × Value → H} {P : Program} {w : World} {base : Nat} {sp : Nat → Bool} {held : Bool} {t e : TypeId} {fuel : Nat} {v : Value} {x : DataW H × List MemPlace} (ht : P.underlying t = some (.slice e)) (h : DataW.trod enc P w base sp held fuel t [v] = some x) :
    ∃ A n c, v = .slice A n c := by
  rcases DataW.trod_slice ht h with ⟨e, _⟩ | ⟨a, len, cap, _, _, _, _, e, _⟩
  · injection e with e1 _; exact ⟨_, _, _, e1⟩
  · injection e with e1 _; exact ⟨_, _, _, e1⟩
theorem open_case {H : Type} {enc : TypeId × Value → H} {w : World} {base : Nat} {held : Bool} {r : Reach} {b0 : Nat} {v : Value} {d : DataW H} {p : List MemPlace}
    (hv : Value.okWide Try.prog w r b0 76 v) (h : DataW.Trod enc Try.prog w base (fun _ => true) held 76 v d p) :
    ∃ (root : List (BitVec 8)) (A : Option Addr) (n c : Nat) (bs : List (BitVec 8)) (i m : Int) (AP : Option Addr) (np cp : Nat) (ids : List (List (BitVec 8))),
      v = .agg (root.map c8 ++ [Value.slice A n c, Value.int .i64 i, Value.int .i64 m, Value.slice AP np cp]).toArray ∧ root.length = 32 ∧ Reads w w.heap.size 1 A n (bs.map c8) ∧ n ≤ 9223372036854775807 ∧ n ≤ c ∧ (-9223372036854775808 ≤ i ∧ i ≤ 9223372036854775807) ∧
      (-9223372036854775808 ≤ m ∧ m ≤ 9223372036854775807) ∧ Reads w w.heap.size 32 AP np (ids.flatten.map c8) ∧ Ids ids ∧ ids.length = np ∧ np ≤ 9223372036854775807 ∧ np ≤ cp := by
  obtain ⟨cs, rfl, hsz⟩ := okWide_struct Try.underlying76 hv
  obtain ⟨fuel, hf⟩ := h
  obtain ⟨xs, k, _, _, hl, hlen, hfl⟩ := DataW.trod_struct Try.underlying76 hf
  have hC : Try.prog.cellsOf 76 = 36 := by kernel_rfl
  have c44 : Try.prog.cellsOf 44 = 32 := by kernel_rfl
  have c29 : Try.prog.cellsOf 29 = 1 := by kernel_rfl
  have c3 : Try.prog.cellsOf 3 = 1 := by kernel_rfl
  have c68 : Try.prog.cellsOf 68 = 1 := by kernel_rfl
  have cu : Try.prog.cellsOf 5 = 1 := by kernel_rfl
  have hx5 : xs.length = 5 := hlen
  obtain ⟨L, hL⟩ : ∃ L, L = cs.toList := ⟨_, rfl⟩
  have hLl : L.length = 36 := by rw [hL]; simpa [hC] using hsz
  have ecs : cs = L.toArray := by rw [hL]
  have f0 : DataW.trod enc Try.prog w base (fun _ => true) held k 44 ((L.drop 0).take (Try.prog.cellsOf 44)) = xs[0]? := by rw [hL]; exact hfl 0 _ rfl
  have f1 : DataW.trod enc Try.prog w base (fun _ => true) held k 29 ((L.drop 32).take (Try.prog.cellsOf 29)) = xs[1]? := by rw [hL]; exact hfl 1 _ rfl
  have f2 : DataW.trod enc Try.prog w base (fun _ => true) held k 3 ((L.drop 33).take (Try.prog.cellsOf 3)) = xs[2]? := by rw [hL]; exact hfl 2 _ rfl
  have f3 : DataW.trod enc Try.prog w base (fun _ => true) held k 3 ((L.drop 34).take (Try.prog.cellsOf 3)) = xs[3]? := by rw [hL]; exact hfl 3 _ rfl
  have f4 : DataW.trod enc Try.prog w base (fun _ => true) held k 68 ((L.drop 35).take (Try.prog.cellsOf 68)) = xs[4]? := by rw [hL]; exact hfl 4 _ rfl
  obtain ⟨y0, e0⟩ : ∃ y, xs[0]? = some y := ⟨_, List.getElem?_eq_getElem (by omega)⟩
  obtain ⟨y1, e1⟩ : ∃ y, xs[1]? = some y := ⟨_, List.getElem?_eq_getElem (by omega)⟩
  obtain ⟨y2, e2⟩ : ∃ y, xs[2]? = some y := ⟨_, List.getElem?_eq_getElem (by omega)⟩
  obtain ⟨y3, e3⟩ : ∃ y, xs[3]? = some y := ⟨_, List.getElem?_eq_getElem (by omega)⟩
  obtain ⟨y4, e4⟩ : ∃ y, xs[4]? = some y := ⟨_, List.getElem?_eq_getElem (by omega)⟩
  rw [e0] at f0
  rw [e1] at f1
  rw [e2] at f2
  rw [e3] at f3
  rw [e4] at f4
  obtain ⟨a1, a2, a3, a4, h32⟩ := cells4_of (L.drop 32) (by rw [List.length_drop, hLl])
  have h33 : L.drop 33 = [a2, a3, a4] := by rw [show 33 = 32 + 1 by rfl, ← List.drop_drop, h32]; rfl
  have h34 : L.drop 34 = [a3, a4] := by rw [show 34 = 32 + 2 by rfl, ← List.drop_drop, h32]; rfl
  have h35 : L.drop 35 = [a4] := by rw [show 35 = 32 + 3 by rfl, ← List.drop_drop, h32]; rfl
  simp only [c44, List.drop_zero] at f0
  simp only [c29, h32, List.take_succ_cons, List.take_zero] at f1
  simp only [c3, h33, List.take_succ_cons, List.take_zero] at f2
  simp only [c3, h34, List.take_succ_cons, List.take_zero] at f3
  simp only [c68, h35, List.take_succ_cons, List.take_zero] at f4
  obtain ⟨root, hroot⟩ := trod_arr8 Try.underlying44 Try.underlying5 cu c44 f0 (by rw [List.length_take, hLl]; rfl)
  obtain ⟨A, n, c, rfl⟩ := slice_of Try.underlying29 f1
  obtain ⟨AP, np, cp, rfl⟩ := slice_of Try.underlying68 f4
  obtain ⟨bs, r1, r2, r3⟩ := open_row8 (A := A) (n := n) (c := c) (d := y1.1) (p := y1.2) Try.underlying29 Try.underlying5 cu ⟨k, f1⟩
  obtain ⟨ids, q1, q2, q3, q4, q5⟩ := open_ids (A := AP) (n := np) (c := cp) (d := y4.1) (p := y4.2) Try.underlying68 Try.underlying44 Try.underlying5 c44 cu ⟨k, f4⟩
  obtain ⟨i, j2, _, w2⟩ := DataW.trod_int Try.underlying3 f2
  obtain ⟨m, j3, _, w3⟩ := DataW.trod_int Try.underlying3 f3
  simp at j2 j3
  subst j2 j3
  refine ⟨root, A, n, c, bs, i, m, AP, np, cp, ids, ?_, ?_, r1, r2, r3, of_wf_i64 w2, of_wf_i64 w3, q1, q2, q3, q4, q5⟩
  · rw [ecs, ← hroot, ← h32, List.take_append_drop]
  · have := congrArg List.length hroot
    rw [List.length_take, hLl, List.length_map] at this
    omega
end Go.Proofs.Ytdikknfdgpdenaa
