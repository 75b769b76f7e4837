/- The walk of miradorlaw24.HintsNil. No condition. -/
import Derived.Test.YtccpkafmbmkmfaaHintsNilInt
import Derived.Test.YtccpkafmbmkmfaaHintsAlive
namespace Go.Proofs.Ytccpkafmbmkmfaa
open Go.RowKit Go.Shelf
set_option linter.unusedVariables false
set_option linter.unusedSimpArgs false
attribute [local go_sem] Oper.semAt_some

theorem seq2_nil (f : Nat) (c : Array Value) (W : World) : Sem.run Try.prog (binOp BinOp.eql 41 (.func (.func f) #[] c) .nilFunc) W = .ok (.bool false) W := by kernel_rfl
set_option maxRecDepth 100000 in
set_option maxHeartbeats 1600000 in
theorem hintsNil_in (k v : Int) (w : World) : CallsIn Fence.wide 6 Try.prog 8 #[.int .i64 k, .int .i64 v] w fun e w' => e = .returned (.bool true) ∧ Below w.heap.size w w' := by
  refine callsIn_of_wp_marks Try.func8 rfl trivial ?_ rfl
  simp only [Try.ntmps8, List.size_toArray, List.length_cons, List.length_nil, Nat.reduceAdd, Nat.reduceSub, Array.replicate_succ, Array.replicate_zero, List.push_toArray, List.append_toArray, List.nil_append, List.cons_append]
  have SN := seq2_nil
  refine wpIn_wide.2 ?_
  go_wp2_with (go_at_call 40; with_reducible refine (hInt.each_any _ _ _).mono ?_; rintro e w' ⟨rfl, rfl⟩)
  clear SN
  obtain ⟨W0, hW0, sz, b1, b2, b3, b4, hB0⟩ := blks4 w 65 46 3 3 #[.map none, .int .i64 0] #[.pointer none] #[.int .i64 k] #[.int .i64 0]
  change Code.wp _ _ _ _ ((((w.alloc (.cells #[.map none, .int .i64 0] 65)).alloc (.cells #[.pointer none] 46)).alloc (.cells #[.int .i64 k] 3)).alloc (.cells #[.int .i64 0] 3))
  rw [hW0]
  clear hW0
  refine (wpIn_wide (n := 6)).1 ?_
  refine wpIn_rangeFunc_ownF rfl (by omega) (gf := 80) (lb := #[.pointer (some ⟨w.heap.size + 1, 0, none⟩), .pointer (some ⟨w.heap.size + 2, 0, none⟩)]) rfl trivial (enters_of Try.func80 (by kernel_rfl) rfl)
    (hInt.each1_stops 5 (by omega) (w.heap.size + 1) (w.heap.size + 2) none k [] hInt.inI_nil (by simp) (hInt.KpC W0.heap.size) W0 (fun A B h i cs t fr hi hA => h i cs t fr hi hA) (by omega) (by omega) ((b2.cell 0).trans rfl) ((b3.cell 0).trans rfl) (hInt.tells_nil W0 k))
    hInt.KpC.trans hInt.KpC.book (Below.refl _ _) (fun _ => rfl)
    (fun pre W => Blk W w.heap.size 65 #[.map none, .int .i64 0] ∧ Blk W (w.heap.size + 3) 3 #[.int .i64 0] ∧ Below w.heap.size w W)
    (fun c pre W => False)
    ?hI ?hIx ?h0 ?a1 ?assign ?body ?done ?stop
  case hI => exact OwnFrom.and (ownFrom_blk (by omega)) (OwnFrom.and (ownFrom_blk (by omega)) (ownFrom_below (Nat.le_refl _) (by omega)))
  case hIx => exact fun c s A B row hs hg hr => hs
  case h0 => exact ⟨b1, b4, hB0⟩
  case assign =>
    intro l x W K hK
    gi_wp2
    exact hK
  case body => exact fun l pre x W _ h => absurd h (Nat.not_lt_zero _)
  case stop => exact fun D c pre W _ _ h _ => h.elim
  case done =>
    clear b1 b2 b3 b4 hB0
    rintro D xs W hD _ ⟨b1, b4, hB⟩ hK
    have hDs : D < W.heap.size := (Array.getElem?_eq_some_iff.1 hK).1
    have k4 : W.cell? ⟨w.heap.size + 3, 0, none⟩ = some (.int .i64 0) := (b4.cell 0).trans rfl
    have hbk : ∀ W', Below W.heap.size W W' → Blk W' w.heap.size hInt.TI #[.map none, .int .i64 0] := fun W' h => b1.below h (by omega)
    have C1 := hide (hInt.note_nil k v)
    have C2 := hide (hInt.note_blank w.heap.size (.int .i64 0) k v W (hbk W (Below.refl _ _)))
    have C3 := hide (hInt.strike_dead none k v W (hInt.tells_nil W k))
    have C4 : Hid (∀ W', Below W.heap.size W W' → Calls Try.prog 31 #[.pointer (some ⟨w.heap.size, 0, none⟩), .int .i64 k, .int .i64 v] W' fun e w' => e = .returned (.bool false) ∧ Below W.heap.size W w') := hide fun W' h => by
      have := hInt.has_any (some ⟨w.heap.size, 0, none⟩) k v [] hInt.inI_nil (by simp) W' (hInt.tells_blank k (hbk W' h))
      rw [decide_eq_false (by simp)] at this
      exact this.mono fun e w' ⟨h1, h2⟩ => ⟨h1, below_next h h2⟩
    have C5 := hide (hInt.at_nil · k)
    have C6 := hide fun W' h => hInt.at_blank W' w.heap.size (.int .i64 0) k (hbk W' h)
    have C7 := hide hInt.keys_nil
    have C8 := hide fun W' h => hInt.keys_blank W' w.heap.size (.int .i64 0) (hbk W' h)
    have C9 := hide hInt.len_nil
    have C10 := hide fun W' h => hInt.len_blank W' w.heap.size (.int .i64 0) (hbk W' h)
    have C11 := hide hInt.clone_nil
    have C12 := hide fun W' h => hInt.clone_blank w.heap.size (.int .i64 0) W' (hbk W' h)
    replace hK := hide hK
    replace hB := hide hB
    clear hbk b1 b4
    go_wp2_with (first
      | (go_at_call 27; (first | with_reducible refine (C1.out _).mono ?_ | with_reducible refine C2.out.mono ?_); rintro e w' ⟨rfl, rfl⟩)
      | (go_at_call 30; (with_reducible refine C3.out.mono ?_); rintro e w3 ⟨rfl, hb3⟩; have B3 := hide hb3; clear hb3)
      | (go_at_call 31; (with_reducible refine (C4.out _ B3.out).mono ?_); rintro e w4 ⟨rfl, hb4⟩; have B4 := hide hb4; clear hb4)
      | (go_at_call 28; (first | with_reducible refine (C5.out _).mono ?_ | with_reducible refine (C6.out _ B4.out).mono ?_); rintro e w' ⟨rfl, rfl⟩)
      | (go_at_call 32; (first | with_reducible refine (C7.out _).mono ?_ | with_reducible refine (C8.out _ B4.out).mono ?_); rintro e w' ⟨rfl, rfl⟩)
      | (go_at_call 29; (first | with_reducible refine (C9.out _).mono ?_ | with_reducible refine (C10.out _ B4.out).mono ?_); rintro e w' ⟨rfl, rfl⟩)
      | (go_at_call 35; (first | with_reducible refine (C11.out _).mono ?_ | with_reducible refine (C12.out _ B4.out).mono ?_); rintro e w' ⟨rfl, rfl⟩)
      | (go_at_call 19; with_reducible refine (alive24_any _).mono ?_; rintro e w5 ⟨rfl, hb5⟩; have B5 := hide hb5; clear hb5)
      | fail)
    have e2 := (B5.out.block D (Nat.lt_of_lt_of_le hDs B4.out.size)).trans ((B4.out.block D hDs).trans hK.out)
    refine ⟨by simp, .inl ⟨_, _, rfl, run_takeDeferred e2, ?_⟩⟩
    refine ⟨_, results_tmp rfl _ _ _, rfl, ?_⟩
    have q2 : Below w.heap.size w w5 := below_then hB.out hB.out.size (below_next B4.out B5.out)
    exact q2.trans (belowK_b (w := w) (Nat.le_refl _) w5 D _ (.deferred none) (by omega) e2 rfl rfl)
theorem hintsNil_walk (w : World) (x0 : Int) (l0 : -9223372036854775808 ≤ x0) (u0 : x0 ≤ 9223372036854775807) (x1 : Int) (l1 : -9223372036854775808 ≤ x1) (u1 : x1 ≤ 9223372036854775807) :
    Calls Try.prog 8 #[.int .i64 x0, .int .i64 x1] w fun e w' => e = .returned (.bool true) ∧ Below w.heap.size w w' :=
  callsIn_wide.1 (hintsNil_in x0 x1 w)
end Go.Proofs.Ytccpkafmbmkmfaa
