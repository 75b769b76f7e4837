/- What package hints' drawn regions do: a slice built of one number, an append, a store into a map; and slices.Index. No condition. -/
import Derived.Test.YtccpkafmbmkmfaaHints
import Derived.Test.YtccpkafmbmkmfaaRelLast
import Derived.Test.YtccpkafmbmkmfaaGives
import Derived.Test.YtccpkafmbmkmfaaRows8
import Derived.Great.BuildSlice
import Derived.Test.YtccpkafmbmkmfaaProg
namespace Go.Proofs.Ytccpkafmbmkmfaa
open Go.RowKit
set_option linter.unusedVariables false
set_option linter.unusedSimpArgs false

theorem hinfo_int : (Try.prog.info? 3).map (fun i => (i.zero, i.size, i.bytes)) = some (some (.int .i64 0), 1, 8) := by kernel_rfl
theorem run_build_int (w : World) (x : Int) : (Instr.buildSlice 35 1 #[(0, .int .i64 x)]).run Try.prog w = .ok (.slice (some ⟨w.heap.size, 0, none⟩) 1 1) (w.alloc (.cells #[.int .i64 x] 3)) := by
  obtain ⟨i, hi, hz0, hz1, hz2⟩ := info_parts hinfo_int
  refine run_buildSlice w 35 3 1 _ #[.int .i64 x] i _ Try.underlying35 hi hz0 (by rw [hz1]; decide) (by rw [hz1]; decide) ?_
  rw [hz1]
  simp [Instr.fill, Value.cells]
  apply Array.ext
  · simp
  · intro i h1 h2
    have : i = 0 := by simp at h2; omega
    subst this
    simp
theorem gives_build_int {o : Oper} {a : Act} {w : World} {X : Value → World → Prop} (y : Operand) (ho : o.op = .buildSlice 35 1 #[(0, y)]) (x : Int) (hx : a.eval y = .int .i64 x)
    (h : X (.slice (some ⟨w.heap.size, 0, none⟩) 1 1) (w.alloc (.cells #[.int .i64 x] 3))) : Gives Try.prog o a w X := by
  unfold Gives execOp
  simp only [ho, Sem.run_bind, List.map_toArray, List.map_cons, List.map_nil, hx, run_build_int w x, Result.andThen_ok, givesUpon]
  exact h
/-- an append onto a row of numbers that one owns -/
theorem gives_append_ints {o : Oper} {a : Act} {w : World} {X : Value → World → Prop} (s y : Operand)
    (ho : o.op = .call { callee := .builtin .append, args := #[s, y], argTypes := #[35, 35] }) (base : Nat) (v : Value) (xs : List Int) (hs : a.eval s = v) (hown : w.ownsRow base 3 1 v xs.length (xs.map ci))
    (A : Option Addr) (m c : Nat) (ys : List Int) (hx : a.eval y = .slice A m c) (hm : m = ys.length) (B : Nat) (hr : Reads w B 1 A m (ys.map ci)) (hb : xs.length + m ≤ 1099511627776) (hbase : base ≤ w.heap.size)
    (h : ∀ v' w', w'.ownsRow base 3 1 v' (xs ++ ys).length ((xs ++ ys).map ci) → w.grownBy w' v.ownBlock → (v'.ownBlock = v.ownBlock ∨ v'.ownBlock = some w.heap.size) → X v' w') : Gives Try.prog o a w X := by
  obtain ⟨i, hi, hz0, hz1, hz2⟩ := info_parts hinfo_int
  obtain ⟨v', w', hrun, h2, h3, h4⟩ := run_append_any (P := Try.prog) w base 35 o.type 3 i _ 1 8 Try.underlying35 hi hz0 hz1 hz2 rfl (by omega) v xs.length _ hown B A m c _ hr (by intro u hu; obtain ⟨z, _, rfl⟩ := List.mem_map.1 hu; rfl) (by simp only [maxLen]; omega) (by omega) hbase
  unfold Gives execOp
  simp only [ho, resolve, invoke, builtin, Sem.run_bind, Sem.run_pure, Result.andThen_ok, List.map_toArray, List.map_cons, List.map_nil, hs, hx, hrun, givesUpon]
  refine h v' w' ?_ h3 h4
  rw [List.length_append, List.map_append, ← hm]; exact h2
/-- 'm[k] = v' -/
theorem gives_mapUpdate {α : Type} [DecidableEq α] {P : Program} {k t e : TypeId} {f : α → Value} {ok : α → Prop} (K : KeyFn P k f ok) (ht : P.underlying t = some (.map k e)) {o : Oper} {a : Act} {w : World} {X : Value → World → Prop} {b : Nat} {l : List (α × Value)}
    (m y z : Operand) (ho : o.op = .mapUpdate t m y z) (hm : a.eval m = .map (some b)) (key : α) (hy : a.eval y = f key) (hk : ok key) (v : Value) (hz : a.eval z = v) (h : MapIs w b f ok l)
    (hX : ∀ w', MapIs w' b f ok (mput l key v) → w.grownBy w' (some b) → X undef w') : Gives P o a w X := by
  obtain ⟨w', hrun, h1, h2, _⟩ := h.update K ht hk v
  unfold Gives execOp
  simp only [ho, Sem.run_bind, hm, hy, hz, hrun, Result.andThen_ok, givesUpon]
  exact hX w' h1 h2
/-- 'delete(m, k)' -/
theorem wpList_delete_is {α : Type} [DecidableEq α] {P : Program} {k t e : TypeId} {f : α → Value} {ok : α → Prop} (K : KeyFn P k f ok) (ht : P.underlying t = some (.map k e)) {ops : Array Oper} {rest : List Oper} {o : Oper} {a : Act} {w : World} {Q : Exit → Act → World → Prop} {b : Nat} {l : List (α × Value)}
    (hgd : o.guard = none) (m y : Operand) (ho : o.op = .call { callee := .builtin .delete, args := #[m, y], argTypes := #[t, k] }) (hm : a.eval m = .map (some b)) (key : α) (hy : a.eval y = f key) (hk : ok key) (h : MapIs w b f ok l)
    (hK : ∀ w', MapIs w' b f ok (mdel l key) → w.grownBy w' (some b) → wpList P ops Q rest (a.put o.dst (.tuple #[])) w') : wpList P ops Q (o :: rest) a w := by
  refine wpList_plain hgd fun K' hK' => ?_
  obtain ⟨w', hrun, h1, h2, _⟩ := h.delete K ht hk o.type
  unfold Oper.wp
  simp [execOp, ho, resolve, invoke, builtin, hm, hy, hrun, Result.andThen]
  exact hK' _ _ (hK w' h1 h2)
/-- 's[lo:hi]' -/
theorem gives_slice {P : Program} {o : Oper} {a : Act} {w : World} {X : Value → World → Prop} (t : TypeId) (x : Operand) (lo hi mx : Option Operand) (ho : o.op = .slice t x lo hi mx) (v : Value)
    (hr : (Instr.sliceAt t (a.eval x) (lo.map a.eval) (hi.map a.eval) (mx.map a.eval)).run P w = .ok v w) (h : X v w) : Gives P o a w X := by
  unfold Gives execOp
  simp only [ho, Sem.run_bind, hr, Result.andThen_ok, givesUpon]
  exact h
theorem run_slice_hi (w : World) (r n c k : Nat) (hk : k ≤ c) (hc : 0 < c) : (Instr.sliceAt 35 (.slice (some ⟨r, 0, none⟩) n c) none (some (.int .i64 (k : Int))) none).run Try.prog w = .ok (.slice (some ⟨r, 0, none⟩) k c) w := by
  have hu : Try.prog.underlying 35 = some (.slice (Try.prog.elem 35)) := by kernel_rfl
  obtain ⟨i, hi, hz0, hz1, hz2⟩ := info_parts hinfo_int
  have hsz : (sizeOf (Try.prog.elem 35)).run Try.prog w = .ok 1 w := by
    have : Try.prog.elem 35 = 3 := by kernel_rfl
    rw [this]; simp [sizeOf, typeInfo, hi, hz1]
  rw [run_sliceAt_slice (h := hu), run_slice_h (ht := hu) (h0 := by omega) (h2 := by omega), hsz]
  simp only [Result.andThen_ok, sliced, Int.toNat_natCast, Nat.zero_mul, Nat.sub_zero]
  rw [if_neg (by omega)]
  rfl
theorem run_slice_lo (w : World) (r n c k : Nat) (hk : k ≤ n) : (Instr.sliceAt 35 (.slice (some ⟨r, 0, none⟩) n c) (some (.int .i64 (k : Int))) none none).run Try.prog w = .ok (.slice (if c = k then some ⟨r, 0, none⟩ else (some (⟨r, 0, none⟩ : Addr)).map (·.add (k * 1))) (n - k) (c - k)) w := by
  have hu : Try.prog.underlying 35 = some (.slice (Try.prog.elem 35)) := by kernel_rfl
  obtain ⟨i, hi, hz0, hz1, hz2⟩ := info_parts hinfo_int
  have hsz : (sizeOf (Try.prog.elem 35)).run Try.prog w = .ok 1 w := by
    have : Try.prog.elem 35 = 3 := by kernel_rfl
    rw [this]; simp [sizeOf, typeInfo, hi, hz1]
  rw [run_sliceAt_slice (h := hu), run_slice_l (ht := hu) (h0 := by omega) (h1 := by omega), hsz]
  simp only [Result.andThen_ok, sliced, Int.toNat_natCast]
theorem idx_step (xs : List Int) (v : Int) (k : Nat) (hk : k < xs.length) (h : k ≤ xs.idxOf v) (hne : xs[k] ≠ v) : k + 1 ≤ xs.idxOf v := by
  rcases Nat.lt_or_ge k (xs.idxOf v) with h1 | h1
  · exact h1
  · have e : xs.idxOf v = k := by omega
    have hlt : xs.idxOf v < xs.length := by omega
    have := List.getElem_idxOf hlt
    simp only [e] at this
    exact absurd this hne
theorem idx_here (xs : List Int) (v : Int) (k : Nat) (hk : k < xs.length) (h : k ≤ xs.idxOf v) (he : xs[k] = v) : xs.idxOf v = k := by
  rcases Nat.lt_or_ge k (xs.idxOf v) with h1 | h1
  · have := List.not_of_lt_findIdx (p := (· == v)) (xs := xs) h1
    simp [he] at this
  · omega
set_option maxHeartbeats 400000 in
theorem index_any (A : Option Addr) (n c : Nat) (xs : List Int) (v : Int) (w : World) (hr : Reads w w.heap.size 1 A n (xs.map ci)) (hm : v ∈ xs) (hn : n ≤ 1099511627776) :
    Calls Try.prog 78 #[.slice A n c, .int .i64 v] w fun e w' => e = .returned (.int .i64 (xs.idxOf v : Int)) ∧ w = w' := by
  have hl := hr.len
  have hlt := List.idxOf_lt_length_of_mem hm
  go_enter Try.func78, Try.ntmps78
  go_wp2
  go_loop [5, 8] (fun x i => ∃ k : Nat, k ≤ xs.idxOf v ∧ i = .int .i64 (k : Int)) (fun _ i => n - (intOf i).toNat)
  case atStart => exact ⟨0, Nat.zero_le _, rfl⟩
  case round =>
    obtain ⟨k, hk, rfl⟩ := hrel
    have hkl : k < xs.length := by omega
    have hd : decide ((k : Int) < (n : Int)) = true := by simpa using (show (k : Int) < n by omega)
    obtain ⟨g, o, rfl, hb⟩ := hr.addr' (by omega)
    obtain ⟨ad, e, _, hc⟩ := hr.get hkl
    cases e
    rw [Addr.add_lit] at hc
    by_cases hv : xs[k] = v
    · have HI := hide (idx_here xs v k hkl hk hv)
      have hx' : (v == xs[k]) = true := by simpa using hv.symm
      clear hv
      generalize xs[k] = x at *
      go_wp2
      go_ret
      exact ⟨by rw [HI.out]; rfl, rfl⟩
    · have HI := idx_step xs v k hkl hk hv
      have hx' : (v == xs[k]) = false := by simpa using fun e => hv e.symm
      clear hv
      generalize xs[k] = x at *
      go_wp2
      go_round
      case rel => exact ⟨k + 1, HI, by go_num⟩
      case measure => simp [intOf]; omega
end Go.Proofs.Ytccpkafmbmkmfaa
