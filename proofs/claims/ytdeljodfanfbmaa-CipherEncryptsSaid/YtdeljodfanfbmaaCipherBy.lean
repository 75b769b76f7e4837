/- Package cipher's columns: products with a row that turns. No condition. -/
import Derived.Test.YtdeljodfanfbmaaCipherTurn
namespace Go.Proofs.Ytdeljodfanfbmaa
open Go.RowKit Go.Shelf
set_option linter.unusedVariables false
set_option linter.unusedSimpArgs false
attribute [local go_sem] Gives givesUpon
attribute [local irreducible] Gives

/-- a column, as a value -/
structure CVal (l : List (BitVec 8)) (R : Array Value) : Prop where
  val : R = (l.map c8).toArray
  len : l.length = 4
  size : R.size = 4
  info : (Try.prog.info? 63).map (·.size) = some R.size
  one : R.all (·.oneCell') = true
theorem info_col : (Try.prog.info? 63).map (·.size) = some 4 := by kernel_rfl
theorem cVal (l : List (BitVec 8)) (h : l.length = 4) : ∃ R, CVal l R := by
  refine ⟨(l.map c8).toArray, rfl, h, by simp [h], ?_, oneCell_bytes _⟩
  rw [show ((l.map c8).toArray).size = 4 by simp [h]]
  exact info_col
theorem zeroC : ∃ Z : Array Value, (Try.prog.info? 63).map (·.zero) = some (some (.agg Z)) ∧ CVal (List.replicate 4 0#8) Z :=
  ⟨((List.replicate 4 0#8).map c8).toArray, by kernel_rfl, by obtain ⟨R, h⟩ := cVal (List.replicate 4 0#8) (by simp); have e := h.val; subst e; exact h⟩
theorem four (l : List (BitVec 8)) (h : l.length = 4) : ∃ a b c d, l = [a, b, c, d] :=
  match l, h with
  | [a, b, c, d], _ => ⟨a, b, c, d, rfl⟩
/-- the first of a sum's products -/
def part (row col : List (BitVec 8)) (i : Nat) : Nat → BitVec 8
  | 0 => 0
  | k + 1 => part row col i k ^^^ mul8 (col.getD k 0) (row.getD ((k + 4 - i) % 4) 0)
def byAt (row col : List (BitVec 8)) (m : Nat) : List (BitVec 8) := (List.range 4).map fun p => part row col p (m - 4 * p)
def partAt (row col : List (BitVec 8)) (i k : Nat) : List (BitVec 8) := (List.range 4).map fun p => if p < i then part row col p 4 else if p = i then part row col i k else 0
theorem partAt_len (row col : List (BitVec 8)) (i k : Nat) : (partAt row col i k).length = 4 := by simp [partAt]
theorem partAt_zero (row col : List (BitVec 8)) : partAt row col 0 0 = List.replicate 4 0#8 := rfl
theorem wraps64 : IntKind.i64.wrap (-3) = -3 ∧ IntKind.i64.wrap (-2) = -2 ∧ IntKind.i64.wrap (-1) = -1 ∧ IntKind.i64.wrap 0 = 0 ∧ IntKind.i64.wrap 1 = 1 ∧ IntKind.i64.wrap 2 = 2 ∧ IntKind.i64.wrap 3 = 3 ∧ IntKind.i64.wrap 4 = 4 ∧ IntKind.i64.wrap 5 = 5 ∧ IntKind.i64.wrap 6 = 6 ∧ IntKind.i64.wrap 7 = 7 := by decide
theorem partAt_row (row col : List (BitVec 8)) (i : Nat) (hi : i < 4) : partAt row col i 4 = partAt row col (i + 1) 0 := by
  rcases (by omega : i = 0 ∨ i = 1 ∨ i = 2 ∨ i = 3) with rfl | rfl | rfl | rfl <;> rfl
theorem partAt_all (row col : List (BitVec 8)) (hr : row.length = 4) (hc : col.length = 4) : partAt row col 4 0 = byC row col := by
  obtain ⟨r0, r1, r2, r3, rfl⟩ := four row hr
  obtain ⟨a, b, c, d, rfl⟩ := four col hc
  rw [byC_four]
  simp [partAt, part, dot, List.range_succ]
theorem partAt_get (row col : List (BitVec 8)) (i k : Nat) (hi : i < 4) : (partAt row col i k)[i]? = some (part row col i k) := by
  rcases (by omega : i = 0 ∨ i = 1 ∨ i = 2 ∨ i = 3) with rfl | rfl | rfl | rfl <;> rfl
theorem partAt_next (row col : List (BitVec 8)) (i k : Nat) (hi : i < 4) (x y : BitVec 8) (hx : col[k]? = some x) (hy : row[(k + 4 - i) % 4]? = some y) : (partAt row col i k).set i (part row col i k ^^^ mul8 x y) = partAt row col i (k + 1) := by
  have e : part row col i (k + 1) = part row col i k ^^^ mul8 x y := by
    show part row col i k ^^^ mul8 (col.getD k 0) (row.getD ((k + 4 - i) % 4) 0) = _
    simp only [List.getD, hx, hy, Option.getD_some]
  rw [← e]
  rcases (by omega : i = 0 ∨ i = 1 ∨ i = 2 ∨ i = 3) with rfl | rfl | rfl | rfl <;> rfl
theorem times_8 (x y : BitVec 8) (w : World) : Calls Try.prog 15 #[c8 x, c8 y] w fun e w' => e = .returned (c8 (mul8 x y)) ∧ w = w' := by
  refine (times_any x.toNat y.toNat x.isLt y.isLt w).mono ?_
  rintro e w' ⟨rfl, rfl⟩
  exact ⟨by rw [← mul8_nat], rfl⟩
set_option maxRecDepth 100000 in
set_option maxHeartbeats 12800000 in
theorem by_any (row col : List (BitVec 8)) (V K : Array Value) (hV : CVal col V) (hK : CVal row K) (w : World) :
    Calls Try.prog 69 #[.agg V, .agg K] w fun e w' => e = .returned (.agg ((byC row col).map c8).toArray) ∧ Below w.heap.size w w' := by
  obtain ⟨Z, hZ, hZv⟩ := zeroC
  obtain ⟨W0, hW0, sz, b0, b1, b2, b3, hB⟩ := blks4 w 63 63 63 63 V K Z Z
  obtain ⟨X, hX⟩ : ∃ X, X = byC row col := ⟨_, rfl⟩
  have ka : col.length = 4 := hV.len
  have kr : row.length = 4 := hK.len
  have hXl : X.length = 4 := by rw [hX]; exact byC_len row col
  obtain ⟨R, hR⟩ := cVal X hXl
  have HX := hide hX
  rw [← hX]
  have Q0 : Hid (Blk W0 w.heap.size 63 (col.map c8).toArray) := hide (by rw [← hV.val]; exact b0)
  have Q1 : Hid (Blk W0 (w.heap.size + 1) 63 (row.map c8).toArray) := hide (by rw [← hK.val]; exact b1)
  have Q2 := hide b2
  have Q3 : Hid (Blk W0 (w.heap.size + 3) 63 ((partAt row col 0 0).map c8).toArray) := hide (by rw [partAt_zero, ← hZv.val]; exact b3)
  have HB := hide hB
  replace hZ := hide hZ
  replace hR := hide hR
  replace hW0 := hide hW0
  replace hZv := hide hZv
  replace ka := hide ka
  replace kr := hide kr
  replace hXl := hide hXl
  clear b0 b1 b2 b3 hB hX sz hV hK
  go_enter Try.func69, Try.ntmps69
  go_wp2_with (refine wpList_alloc_is rfl 63 rfl Z hZ.out ?_)
  rw [hW0.out]
  clear hW0
  go_loopw [8] (fun v wr => ∃ i : Nat, i ≤ 4 ∧ v = .int .i64 (i : Int) ∧ Hid (Blk wr w.heap.size 63 (col.map c8).toArray) ∧ Hid (Blk wr (w.heap.size + 1) 63 (row.map c8).toArray) ∧
    Hid (Blk wr (w.heap.size + 2) 63 Z) ∧ Hid (Blk wr (w.heap.size + 3) 63 ((partAt row col i 0).map c8).toArray) ∧ Hid (Below w.heap.size w wr)) (fun v _ => 4 - (intOf v).toNat)
  case atStart => exact ⟨0, by omega, rfl, Q0, Q1, Q2, Q3, HB⟩
  case round =>
    obtain ⟨i, hi, rfl, P0, P1, P2, P3, HP⟩ := hrel
    clear Q0 Q1 Q2 Q3 HB
    by_cases hlt : i < 4
    · have hd : decide ((i : Int) < 4) = true := by simp; omega
      go_wp2
      obtain ⟨wz, rfl⟩ : ∃ wz : World, wz = wr := ⟨_, rfl⟩
      go_loopw [11] (fun v wr => ∃ k : Nat, k ≤ 4 ∧ v = .int .i64 (k : Int) ∧ Hid (Blk wr w.heap.size 63 (col.map c8).toArray) ∧ Hid (Blk wr (w.heap.size + 1) 63 (row.map c8).toArray) ∧
        Hid (Blk wr (w.heap.size + 2) 63 Z) ∧ Hid (Blk wr (w.heap.size + 3) 63 ((partAt row col i k).map c8).toArray) ∧ Hid (Below w.heap.size w wr)) (fun v _ => 4 - (intOf v).toNat)
      case atStart => exact ⟨0, by omega, rfl, P0, P1, P2, P3, HP⟩
      case round =>
        obtain ⟨k, hk, rfl, S0, S1, S2, S3, HS⟩ := hrel
        clear P0 P1 P2 P3 HP
        by_cases hlk : k < 4
        · obtain ⟨x, hx⟩ : ∃ x, col[k]? = some x := ⟨_, List.getElem?_eq_getElem (by rw [ka.out]; omega)⟩
          obtain ⟨y, hy⟩ : ∃ y, row[(k + 4 - i) % 4]? = some y := ⟨_, List.getElem?_eq_getElem (by rw [kr.out]; omega)⟩
          have hN := partAt_next row col i k hlt x y hx hy
          have hg := partAt_get row col i k hlt
          obtain ⟨u, hu⟩ : ∃ u, u = part row col i k := ⟨_, rfl⟩
          obtain ⟨m, hm⟩ : ∃ m, m = mul8 x y := ⟨_, rfl⟩
          have HC : Hid (∀ W, Calls Try.prog 15 #[c8 x, c8 y] W fun e w' => e = .returned (c8 m) ∧ W = w') := hide fun W => by rw [hm]; exact times_8 x y W
          rw [← hm, ← hu] at hN
          rw [← hu] at hg
          have c0 := hide (blk_get S0.out _ hx)
          have c1 := hide (blk_get S1.out _ hy)
          have c3 := hide (blk_get S3.out _ hg)
          have HT : Hid (∀ W, Blk W (w.heap.size + 3) 63 ((partAt row col i k).map c8).toArray → Blk (W.setCell ⟨w.heap.size + 3, i, none⟩ (.int .u8 (bits .xor .u8 (u.toNat : Int) (m.toNat : Int)))) (w.heap.size + 3) 63 ((partAt row col i (k + 1)).map c8).toArray) := hide fun W h => by
            have e4 := h.set8 (p := i) (u ^^^ m)
            rw [hN, show c8 (u ^^^ m) = .int .u8 (bits .xor .u8 (u.toNat : Int) (m.toNat : Int)) by rw [xor_u8]] at e4
            exact e4
          clear hN
          have lp := S3.out.lt
          clear hg hu hm hx hy
          rcases (by omega : i = 0 ∨ i = 1 ∨ i = 2 ∨ i = 3) with rfl | rfl | rfl | rfl <;> rcases (by omega : k = 0 ∨ k = 1 ∨ k = 2 ∨ k = 3) with rfl | rfl | rfl | rfl
          all_goals
            simp only [Nat.reduceMul, Nat.reduceAdd, Nat.reduceSub, Nat.reduceMod, Nat.zero_add, Nat.add_zero, Nat.sub_zero, Nat.mul_zero, Nat.zero_mul] at c1
            go_wp2_with (apply wp_region_relT 16 (C := fun W => Below wr.heap.size wr W) (M := fun W W' => Below W.heap.size W W') (ss := [_, _, _, _, _, _, _, _, _, _, _, _, _, _, _, _]) (by kernel_rfl) (by kernel_rfl) (by kernel_rfl) (by kernel_rfl) (Below.refl _ _).drew)
            simp only [List.take_succ_cons, List.take_zero, List.drop_succ_cons, List.drop_zero]
            repeat (first
              | (apply relWalk_const (fun W => Below.refl _ _)
                 · (intro W hC hF
                    clear hF
                    have d0 := ((hC.cell (p := ⟨w.heap.size, _, none⟩) (show w.heap.size < _ by omega)).trans c0.out)
                    have d1 := ((hC.cell (p := ⟨w.heap.size + 1, _, none⟩) (show w.heap.size + 1 < _ by omega)).trans c1.out)
                    have d3 := ((hC.cell (p := ⟨w.heap.size + 3, _, none⟩) (show w.heap.size + 3 < _ by omega)).trans c3.out)
                    have ww := wraps64
                    go_simp
                    with_reducible exact rfl)
                 (try simp only [Act.put, List.setIfInBounds_toArray, List.set_cons_zero, List.set_cons_succ])))
            apply relWalk_const (fun W => Below.refl _ _)
            · intro W hC hF
              rw [if_pos (wanted_none _ rfl)]
              refine gives_call rfl [c8 x, c8 y] rfl (enters_of Try.func15 (by kernel_rfl) rfl) ?_
              refine (HC.out W).mono ?_
              rintro e w' ⟨rfl, rfl⟩
              exact ⟨_, rfl, rfl, rfl⟩
            (try simp only [Act.put, List.setIfInBounds_toArray, List.set_cons_zero, List.set_cons_succ])
            repeat (first
              | (apply relWalk_const (fun W => Below.refl _ _)
                 · (intro W hC hF
                    clear hF
                    go_simp
                    with_reducible exact rfl)
                 (try simp only [Act.put, List.setIfInBounds_toArray, List.set_cons_zero, List.set_cons_succ])))
            apply relWalk_nil
            intro W hC hF
            clear hF
            have e0 := hide (S0.out.below hC (by omega))
            have e1 := hide (S1.out.below hC (by omega))
            have e2 := hide (S2.out.below hC (by omega))
            have e3 := S3.out.below hC (by omega)
            have d3 := ((hC.cell (p := ⟨w.heap.size + 3, _, none⟩) (show w.heap.size + 3 < _ by omega)).trans c3.out)
            have df := fun i => e3.frozen i
            have e4 := HT.out W e3
            have HE0 := hide e4
            have HB2 := hide (HS.out.trans (hC.mono (by omega)))
            clear e3 e4 S0 S1 S2 S3 HS hC HT c0 c1 c3
            go_wp2_with fail
            go_roundw
            case rel => exact ⟨_, hlk, int_succ _, hide (e0.out.far (by dsimp only; omega) _), hide (e1.out.far (by dsimp only; omega) _), hide (e2.out.far (by dsimp only; omega) _), HE0, hide (HB2.out.setCell (by dsimp only; omega) _)⟩
            case measure => decide
        · obtain rfl : k = 4 := by omega
          have hd : decide ((4 : Int) < 4) = false := by decide
          rw [partAt_row row col i hlt] at S3
          go_wp2
          go_roundw
          case rel => exact ⟨i + 1, hlt, int_succ i, S0, S1, S2, S3, HS⟩
          case measure => simp [intOf]; omega
    · obtain rfl : i = 4 := by omega
      have hd : decide ((4 : Int) < 4) = false := by decide
      have hv := hR.out.val
      rw [partAt_all row col kr.out ka.out, ← HX.out, ← hv] at P3
      have HVR := hide hv
      have HI : Hid ((Try.prog.info? 63).map (·.size) = some R.size) := hide hR.out.info
      have HZs : Hid (Z.size = R.size) := hide (by rw [hR.out.size, hZv.out.size])
      have HO : Hid (R.all (·.oneCell') = true) := hide hR.out.one
      clear hv
      go_wp2_with (first
        | ((with_reducible show wpList _ _ _ (⟨_, .load _ _, _, _, _, _⟩ :: _) _ _); refine wpList_load_row rfl 63 _ rfl (w.heap.size + 3) rfl 63 R (0, 0) _ P3.out Try.underlying63 rfl HI.out ?_)
        | ((with_reducible show wpList _ _ _ (⟨_, .store _ _ _, _, _, _, _⟩ :: _) _ _); refine wpList_store_row rfl 63 _ _ rfl (w.heap.size + 2) rfl R rfl 63 _ P2.out HI.out HZs.out HO.out ?_))
      refine bodyPost_ret (v := .agg R) ?_ rfl ⟨by rw [HVR.out], ?_⟩
      · exact results_cell_row rfl _ _ (w.heap.size + 2) 63 R (0, 0) _ rfl (setRow_heap _ _ _ _ _ _ P2.out) Try.underlying63 rfl HI.out
      · exact below_setRow HP.out (by omega) _
end Go.Proofs.Ytdeljodfanfbmaa
