/- Chapter 24's reference: Note, Strike, At. No condition but sizes. -/
import Derived.Test.YtccpkafmbmkmfaaRefPairs
namespace Go.Proofs.Ytccpkafmbmkmfaa
open Go.RowKit
set_option linter.unusedVariables false
set_option linter.unusedSimpArgs false

theorem info_pair : (Try.prog.info? 49).map (fun i => (i.zero, i.size, i.bytes)) = some (some (.agg #[.int .i64 0, .int .i64 0]), 2, 16) := by kernel_rfl
theorem run_build_none (w : World) : (Instr.buildSlice 45 0 #[]).run Try.prog w = .ok (.slice (some ⟨w.heap.size, 0, none⟩) 0 0) (w.alloc (.cells #[] 49)) := by
  obtain ⟨i, hi, hz0, hz1, hz2⟩ := info_parts info_pair
  simp [Instr.buildSlice, run_underlying Try.underlying45, sizeOf, typeInfo, hi, hz1, Instr.fill, newRow]
  rw [show Array.map (fun x : Nat => (default : Value)) (Array.range 0) = #[] from Array.eq_empty_of_size_eq_zero (by simp)]
theorem run_build_pair (w : World) (x y : Int) : (Instr.buildSlice 45 1 #[(0, .agg #[.int .i64 x, .int .i64 y])]).run Try.prog w = .ok (.slice (some ⟨w.heap.size, 0, none⟩) 1 1) (w.alloc (.cells #[.int .i64 x, .int .i64 y] 49)) := by
  obtain ⟨i, hi, hz0, hz1, hz2⟩ := info_parts info_pair
  refine run_buildSlice w 45 49 1 _ #[.int .i64 x, .int .i64 y] i _ Try.underlying45 hi hz0 (by rw [hz1]; decide) (by rw [hz1]; decide) ?_
  rw [hz1]
  simp [Instr.fill, Value.cells]
  apply Array.ext
  · simp
  · intro i h1 h2
    have : i = 0 ∨ i = 1 := by simp at h2; omega
    rcases this with rfl | rfl <;> simp
theorem ownPairs_reads {w : World} {base n c : Nat} {A : Option Addr} {L : PairL} (h : w.ownsRow base 49 2 (.slice A n c) L.length (pc L)) : n = L.length ∧ Reads w w.heap.size 2 A n (pc L) ∧ n ≤ c := by
  obtain ⟨A', c', e⟩ := own_slice h
  injection e with e1 e2 e3
  subst e1 e2 e3
  exact ⟨rfl, Reads.of_own h, own_cap h⟩
theorem PairsAt.own {w : World} {base : Nat} {v : Value} {L : PairL} (h : w.ownsRow base 49 2 v L.length (pc L)) : PairsAt w v L := by
  obtain ⟨A, c, rfl⟩ := own_slice h
  obtain ⟨_, h2, h3⟩ := ownPairs_reads h
  exact ⟨A, c, rfl, h2, h3⟩
theorem own_empty (w : World) : (w.alloc (.cells #[] 49)).ownsRow w.heap.size 49 2 (.slice (some ⟨w.heap.size, 0, none⟩) 0 0) 0 [] :=
  ⟨rfl, .inr ⟨w.heap.size, 0, #[], rfl, Nat.le_refl _, heap_alloc_new w _, by omega, by decide, by simp, rfl⟩⟩
theorem Reads.pair_new (w : World) (x y : Int) : Reads (w.alloc (.cells #[.int .i64 x, .int .i64 y] 49)) (w.heap.size + 1) 2 (some ⟨w.heap.size, 0, none⟩) 1 [.int .i64 x, .int .i64 y] :=
  ⟨rfl, fun _ => ⟨_, rfl, by simp, fun j u hu => by
    rw [Addr.add_lit, Nat.zero_add, (Blk.new w _ _).cell j]
    simpa using hu⟩⟩
set_option maxRecDepth 100000 in
set_option maxHeartbeats 800000 in
theorem refnote_any (v : Value) (L : PairL) (x y : Int) (w : World) (hr : PairsAt w v L) (hn : L.length ≤ 549755813888) :
    Calls Try.prog 33 #[v, .int .i64 x, .int .i64 y] w fun e w' => ∃ u, e = .returned (.tuple #[u, .bool (decide ((x, y) ∉ L))]) ∧
      ((x, y) ∈ L ∧ u = v ∧ w = w' ∨ (x, y) ∉ L ∧ w'.ownsRow w.heap.size 49 2 u (L ++ [(x, y)]).length (pc (L ++ [(x, y)]))) ∧ Below w.heap.size w w' := by
  obtain ⟨A, c, rfl, hr, hc⟩ := hr
  obtain ⟨i0, hi, hz0, hz1, hz2⟩ := info_parts info_pair
  have HH := hide (refhas_any A L.length c L x y w hr (by omega))
  have HR := hide hr
  by_cases hm : (x, y) ∈ L
  · rw [decide_eq_true hm] at HH
    have HM := hide hm
    clear hm hr
    go_enter Try.func33, Try.ntmps33
    go_wp2_with (first
      | (go_at_call 38; (with_reducible refine HH.out.mono ?_); rintro e w1 ⟨rfl, rfl⟩)
      | fail)
    go_ret2
    exact ⟨_, by rw [decide_eq_false (by simpa using HM.out)]; rfl, .inl ⟨HM.out, rfl, rfl⟩, Below.refl _ _⟩
  · rw [decide_eq_false hm] at HH
    have HM := hide hm
    have hb0 := run_build_none
    have hb1 := run_build_pair
    clear hm hr
    go_enter Try.func33, Try.ntmps33
    go_wp2_with (first
      | (go_at_call 38; (with_reducible refine HH.out.mono ?_); rintro e w1 ⟨rfl, rfl⟩)
      | (at_builtin
         refine wpList_append_any _ rfl (.tmp 13) (.tmp 14) _ rfl w.heap.size 49 i0 _ 2 16 Try.underlying45 hi hz0 hz1 hz2 rfl (by omega) (.slice (some ⟨w.heap.size, 0, none⟩) 0 0) 0 [] rfl (own_empty w) w.heap.size A L.length c (pc L) rfl (HR.out.alloc (Nat.le_refl _) _) (pc_one L) (by simp only [maxLen]; omega) (by omega) (by simp) ?_
         intro v1 w1 hown1 hg1 hat1
         have B1 := hide (show Below w.heap.size w w1 from ((Below.refl _ w).alloc (Nat.le_refl _) _).grown hg1 (by simp) (by simp [Value.ownBlock]))
         rw [Nat.zero_add, List.nil_append] at hown1)
      | (at_builtin
         refine wpList_append_any _ rfl (.tmp 15) (.tmp 19) _ rfl w.heap.size 49 i0 _ 2 16 Try.underlying45 hi hz0 hz1 hz2 rfl (by omega) v1 L.length (pc L) rfl (hown1.alloc _) (w1.heap.size + 1) (some ⟨w1.heap.size, 0, none⟩) 1 1 [.int .i64 x, .int .i64 y] rfl (Reads.pair_new w1 x y) (by simp [Value.oneCell']) (by simp only [maxLen]; omega) (by omega) (by have := B1.out.size; simp; omega) ?_
         intro v2 w2 hown2 hg2 hat2)
      | fail)
    go_ret2
    refine ⟨v2, by rw [decide_eq_true HM.out]; rfl, .inr ⟨HM.out, ?_⟩, ?_⟩
    · rw [pc_append, List.length_append]; exact hown2
    · exact (B1.out.alloc B1.out.size _).grown hg2 (by have := B1.out.size; simp; omega) (fun r hr => by
        rcases hat1 with e | e
        · rw [e] at hr; simp [Value.ownBlock] at hr; omega
        · rw [e] at hr; injection hr with hr; simp at hr; omega)
end Go.Proofs.Ytccpkafmbmkmfaa
