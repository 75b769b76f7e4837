/- Package hints at int keys: New, none, At, Each. No condition but that arguments fit their kinds. -/
import Derived.Test.YtccpkafmbmkmfaaHints
import Derived.WalkSpells
import Derived.Carry
import Derived.Test.YtccpkafmbmkmfaaProg
namespace Go.Proofs.Ytccpkafmbmkmfaa.hInt
open Go.RowKit
set_option linter.unusedVariables false
set_option linter.unusedSimpArgs false

abbrev fk (k : Int) : Value := .int .i64 k
def ok (k : Int) : Prop := -9223372036854775808 ≤ k ∧ k ≤ 9223372036854775807
theorem key : KeyFn Try.prog 3 fk ok := ⟨Maps.int_keyed Try.underlying3, fun a h => ⟨_, Maps.keyOf_int_mk Try.underlying3 (WalkArith.wf_i64 (by have := h.1; have := h.2; omega))⟩, fun a b h => by injection h⟩
abbrev TI : TypeId := 65
theorem tn : 3 ≠ TI := by decide
theorem zero_ints (w : World) : (zeroValue 35).run Try.prog w = .ok (.slice none 0 0) w := by kernel_rfl
theorem info_int : (Try.prog.info? 3).map (fun i => (i.zero, i.size, i.bytes)) = some (some (.int .i64 0), 1, 8) := by kernel_rfl

theorem new_run (w : World) : Calls Try.prog 26 #[] w fun e w' => e = .returned (.pointer (some ⟨w.heap.size + 1, 0, none⟩)) ∧ w' = (w.alloc (.map #[] 0)).alloc (.cells #[.map (some w.heap.size), .int .i64 0] TI) := by
  have hmm := @run_makeMap Try.prog
  go_enter Try.func26, Try.ntmps26
  go_wp2
  go_ret
  exact ⟨rfl, rfl⟩
theorem new_any (w : World) : Calls Try.prog 26 #[] w fun e w' => e = .returned (.pointer (some ⟨w.heap.size + 1, 0, none⟩)) ∧ IdxIs w' (fun i => w.heap.size ≤ i) fk ok TI (w.heap.size + 1) w.heap.size 0 [] ∧ Below w.heap.size w w' :=
  (new_run w).mono fun e w' ⟨he, hw⟩ => by
    subst hw
    refine ⟨he, ⟨?_, (MapIs.made w fk ok).alloc _, by simp, Nat.le_succ _, Nat.le_refl _, by simp, by simp, tn⟩, ((Below.refl _ w).alloc (Nat.le_refl _) _).alloc (by simp) _⟩
    have := Blk.new (w.alloc (.map #[] 0)) TI #[.map (some w.heap.size), .int .i64 0]
    rwa [World.size_alloc] at this
theorem none_live (g b : Nat) (n : Value) (w : World) (h : Blk w g TI #[.map (some b), n]) : Calls Try.prog 79 #[.pointer (some ⟨g, 0, none⟩)] w fun e w' => e = .returned (.bool false) ∧ w = w' := by
  have c0 : w.cell? ⟨g, 0, none⟩ = some (.map (some b)) := (h.cell 0).trans rfl
  clear h
  have HM := fun (w : World) (r : Option Nat) => run_eql_map_nil (P := Try.prog) w 63 3 35 r Try.underlying63
  go_enter Try.func79, Try.ntmps79
  go_wp2
  go_ret
  exact ⟨rfl, rfl⟩
theorem none_blank (g : Nat) (n : Value) (w : World) (h : Blk w g TI #[.map none, n]) : Calls Try.prog 79 #[.pointer (some ⟨g, 0, none⟩)] w fun e w' => e = .returned (.bool true) ∧ w = w' := by
  have c0 : w.cell? ⟨g, 0, none⟩ = some (.map none) := (h.cell 0).trans rfl
  clear h
  have HM := fun (w : World) (r : Option Nat) => run_eql_map_nil (P := Try.prog) w 63 3 35 r Try.underlying63
  go_enter Try.func79, Try.ntmps79
  go_wp2
  go_ret
  exact ⟨rfl, rfl⟩
theorem none_nil (w : World) : Calls Try.prog 79 #[.pointer none] w fun e w' => e = .returned (.bool true) ∧ w = w' := by
  go_enter Try.func79, Try.ntmps79
  go_wp2
  go_ret
  exact ⟨rfl, rfl⟩
/-- what is asked of an index's At, at whatever world behind w -/
def Tells (p : Value) (k : Int) (xs : List Int) (w : World) : Prop := ∀ W, Below w.heap.size w W → Calls Try.prog 28 #[p, fk k] W fun e w' => ∃ v, e = .returned v ∧ w'.ownsRow W.heap.size 3 1 v xs.length (xs.map ci) ∧ Below W.heap.size W w'
theorem Tells.later {p : Value} {k : Int} {xs : List Int} {w w' : World} (h : Tells p k xs w) (hb : Below w.heap.size w w') : Tells p k xs w' := fun W hW => h W (below_next hb hW)
theorem one_ci (xs : List Int) : ∀ u ∈ xs.map ci, u.oneCell' = true := by
  intro u hu
  obtain ⟨x, _, rfl⟩ := List.mem_map.1 hu
  rfl
theorem own_reads {w : World} {base n c : Nat} {A : Option Addr} {xs : List Int} (h : w.ownsRow base 3 1 (.slice A n c) xs.length (xs.map ci)) : n = xs.length ∧ Reads w w.heap.size 1 A n (xs.map ci) := by
  obtain ⟨A', c', e⟩ := own_slice h
  injection e with e1 e2 e3
  subst e1 e2 e3
  exact ⟨rfl, Reads.of_own h⟩
set_option maxHeartbeats 400000 in
theorem at_live (w : World) (S : Nat → Prop) (g b : Nat) (n : Int) (E : Kept Int) (k : Int) (hk : ok k) (h : IdxIs w S fk ok TI g b n E) (hl : (valsOf (notedOf E) k).length ≤ 1099511627776) :
    Calls Try.prog 28 #[.pointer (some ⟨g, 0, none⟩), fk k] w fun e w' => ∃ v, e = .returned v ∧ w'.ownsRow w.heap.size 3 1 v (valsOf (notedOf E) k).length ((valsOf (notedOf E) k).map ci) ∧ Below w.heap.size w w' := by
  obtain ⟨i0, hi, hz0, hz1, hz2⟩ := info_parts info_int
  have ho := h.own k
  have HL : (Instr.lookup 63 (.map (some b)) (fk k) false).run Try.prog w = .ok (sliceAt E k) w := by
    have := h.map.lookup key Try.underlying63 hk false (zero_ints w)
    rw [sliceAt_eq] at this; exact this
  obtain ⟨A, c, hs⟩ := own_slice ho
  rw [hs] at ho HL
  have HR := hide (own_reads ho).2
  have HN := hide (none_live g b (.int .i64 n) w h.head)
  have c0 : w.cell? ⟨g, 0, none⟩ = some (.map (some b)) := (h.head.cell 0).trans rfl
  generalize (valsOf (notedOf E) k) = xs at *
  clear hs ho h
  go_enter Try.func28, Try.ntmps28
  go_wp2_with (first
    | (go_at_call 79; (with_reducible refine HN.out.mono ?_); rintro e w0 ⟨rfl, rfl⟩)
    | (at_builtin
       refine wpList_append_any _ rfl _ _ _ rfl w.heap.size 3 i0 _ 1 8 Try.underlying35 hi hz0 hz1 hz2 rfl (by omega) (.slice none 0 0) 0 [] rfl (World.ownsRow_nil _ _ _ _) w.heap.size A xs.length c (xs.map ci) rfl HR.out (one_ci _) (by simp only [maxLen]; omega) (by omega) (Nat.le_refl _) ?_
       intro v1 w1 hown1 hg1 hat1)
    | fail)
  go_ret
  simp only [Nat.zero_add, List.nil_append] at hown1
  exact ⟨v1, rfl, hown1, (Below.refl _ _).grown hg1 (Nat.le_refl _) (by simp [Value.ownBlock])⟩
theorem at_nil (w : World) (k : Int) : Calls Try.prog 28 #[.pointer none, fk k] w fun e w' => e = .returned (.slice none 0 0) ∧ w = w' := by
  go_enter Try.func28, Try.ntmps28
  go_wp2_with (first
    | (go_at_call 79; (with_reducible refine (none_nil _).mono ?_); rintro e w0 ⟨rfl, rfl⟩)
    | fail)
  go_ret
  exact ⟨rfl, rfl⟩
theorem at_blank (w : World) (g : Nat) (n : Value) (k : Int) (h : Blk w g TI #[.map none, n]) : Calls Try.prog 28 #[.pointer (some ⟨g, 0, none⟩), fk k] w fun e w' => e = .returned (.slice none 0 0) ∧ w = w' := by
  have HN := hide (none_blank g n w h)
  clear h
  go_enter Try.func28, Try.ntmps28
  go_wp2_with (first
    | (go_at_call 79; (with_reducible refine HN.out.mono ?_); rintro e w0 ⟨rfl, rfl⟩)
    | fail)
  go_ret
  exact ⟨rfl, rfl⟩
theorem tells_live {w : World} {S : Nat → Prop} {g b : Nat} {n : Int} {E : Kept Int} {k : Int} (hk : ok k) (h : IdxIs w S fk ok TI g b n E) (hl : (valsOf (notedOf E) k).length ≤ 1099511627776) : Tells (.pointer (some ⟨g, 0, none⟩)) k (valsOf (notedOf E) k) w :=
  fun W hW => at_live W S g b n E k hk (h.below hW) hl
theorem tells_nil (w : World) (k : Int) : Tells (.pointer none) k [] w := fun W hW =>
  (at_nil W k).mono fun e w' ⟨he, hw⟩ => ⟨_, he, World.ownsRow_nil _ _ _ _, by subst hw; exact Below.refl _ _⟩
theorem tells_blank {w : World} {g : Nat} {n : Value} (k : Int) (h : Blk w g TI #[.map none, n]) : Tells (.pointer (some ⟨g, 0, none⟩)) k [] w := fun W hW =>
  (at_blank W g n k (h.below hW h.lt)).mono fun e w' ⟨he, hw⟩ => ⟨_, he, World.ownsRow_nil _ _ _ _, by subst hw; exact Below.refl _ _⟩
theorem each_any (p : Option Addr) (k : Int) (w : World) : Calls Try.prog 40 #[.pointer p, fk k] w fun e w' =>
    e = .returned (.func (.func 80) #[] #[.pointer (some ⟨w.heap.size, 0, none⟩), .pointer (some ⟨w.heap.size + 1, 0, none⟩)]) ∧ w' = (w.alloc (.cells #[.pointer p] 46)).alloc (.cells #[fk k] 3) := by
  go_enter Try.func40, Try.ntmps40
  go_wp2
  go_ret
  exact ⟨rfl, rfl⟩
end Go.Proofs.Ytccpkafmbmkmfaa.hInt
