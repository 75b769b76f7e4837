/- Package cipher's blocks: the rows are turned. No condition. -/
import Derived.Test.YtdeljodfanfbmaaCipherEach
namespace Go.Proofs.Ytdeljodfanfbmaa
open Go.RowKit
set_option linter.unusedVariables false
set_option linter.unusedSimpArgs false

/-- so many bytes are laid, row by row -/
def turnAt (X : List (BitVec 8)) (m : Nat) : List (BitVec 8) := (List.range 16).map fun p => if 4 * (p % 4) + p / 4 < m then X.getD p 0 else 0
theorem turnAt_len (X : List (BitVec 8)) (m : Nat) : (turnAt X m).length = 16 := by simp [turnAt]
theorem turnAt_zero (X : List (BitVec 8)) : turnAt X 0 = List.replicate 16 0#8 := by
  simp only [turnAt, Nat.not_lt_zero, if_false]; rfl
theorem turnAt_all (X : List (BitVec 8)) (h : X.length = 16) : turnAt X 16 = X := by
  obtain ⟨x0, x1, x2, x3, x4, x5, x6, x7, x8, x9, x10, x11, x12, x13, x14, x15, rfl⟩ := sixteen X h
  rfl
theorem turnAt_next (X : List (BitVec 8)) (h : X.length = 16) (i c : Nat) (hi : i < 4) (hc : c < 4) (x : BitVec 8) (hx : X[4 * c + i]? = some x) : (turnAt X (4 * i + c)).set (4 * c + i) x = turnAt X (4 * i + c + 1) := by
  obtain ⟨x0, x1, x2, x3, x4, x5, x6, x7, x8, x9, x10, x11, x12, x13, x14, x15, rfl⟩ := sixteen X h
  rcases (by omega : i = 0 ∨ i = 1 ∨ i = 2 ∨ i = 3) with rfl | rfl | rfl | rfl <;> rcases (by omega : c = 0 ∨ c = 1 ∨ c = 2 ∨ c = 3) with rfl | rfl | rfl | rfl <;> (cases hx; rfl)
theorem turnB_get (s : Nat) (b : List (BitVec 8)) (i c : Nat) (hi : i < 4) (hc : c < 4) (x : BitVec 8) (hx : b[4 * ((c + s * i) % 4) + i]? = some x) : (turnB s b)[4 * c + i]? = some x := by
  have e1 : (4 * c + i) / 4 = c := by omega
  have e2 : (4 * c + i) % 4 = i := by omega
  simp only [turnB, List.getElem?_map]
  rw [List.getElem?_range (by omega)]
  simp only [Option.map_some, e1, e2, List.getD, hx, Option.getD_some]
/-- the sign, as the code and as the plain law have it -/
def Sign (z : Int) (s : Nat) : Prop := (z = 1 ∧ s = 1) ∨ (z = -1 ∧ s = 3)
set_option maxRecDepth 100000 in
set_option maxHeartbeats 6400000 in
theorem cturn_any (z : Int) (s : Nat) (hz : Sign z s) (a : List (BitVec 8)) (V : Array Value) (hV : BVal a V) (w : World) :
    Calls Try.prog 63 #[.agg V, .int .i64 z] w fun e w' => e = .returned (.agg ((turnB s a).map c8).toArray) ∧ Below w.heap.size w w' := by
  obtain ⟨Z, hZ, hZv⟩ := zeroB
  obtain ⟨W0, hW0, sz, b0, b1, b2, hB⟩ := blks3 w 46 46 46 V Z Z
  obtain ⟨X, hX⟩ : ∃ X, X = turnB s a := ⟨_, rfl⟩
  have ka : a.length = 16 := hV.len
  have hXl : X.length = 16 := by rw [hX]; exact turnB_len s a
  obtain ⟨R, hR⟩ := bVal X hXl
  have HX := hide hX
  rw [← hX]
  have Q0 : Hid (Blk W0 w.heap.size 46 (a.map c8).toArray) := hide (by rw [← hV.val]; exact b0)
  have Q1 := hide b1
  have Q2 : Hid (Blk W0 (w.heap.size + 2) 46 ((turnAt X 0).map c8).toArray) := hide (by rw [turnAt_zero, ← hZv.val]; exact b2)
  have HB := hide hB
  replace hZ := hide hZ
  replace hR := hide hR
  replace hW0 := hide hW0
  replace hZv := hide hZv
  replace ka := hide ka
  replace hXl := hide hXl
  replace hz := hide hz
  clear b0 b1 b2 hB hX sz hV
  go_enter Try.func63, Try.ntmps63
  go_wp2_with (refine wpList_alloc_is rfl 46 rfl Z hZ.out ?_)
  rw [hW0.out]
  clear hW0
  go_loopw [8] (fun v wr => ∃ i : Nat, i ≤ 4 ∧ v = .int .i64 (i : Int) ∧ Hid (Blk wr w.heap.size 46 (a.map c8).toArray) ∧
    Hid (Blk wr (w.heap.size + 1) 46 Z) ∧ Hid (Blk wr (w.heap.size + 2) 46 ((turnAt X (4 * i)).map c8).toArray) ∧ Hid (Below w.heap.size w wr)) (fun v _ => 4 - (intOf v).toNat)
  case atStart => exact ⟨0, by omega, rfl, Q0, Q1, Q2, HB⟩
  case round =>
    obtain ⟨i, hi, rfl, P0, P1, P2, HP⟩ := hrel
    clear Q0 Q1 Q2 HB
    by_cases hlt : i < 4
    · have hd : decide ((i : Int) < 4) = true := by simp; omega
      go_wp2
      obtain ⟨wz, rfl⟩ : ∃ wz : World, wz = wr := ⟨_, rfl⟩
      go_loopw [11] (fun v wr => ∃ c : Nat, c ≤ 4 ∧ v = .int .i64 (c : Int) ∧ Hid (Blk wr w.heap.size 46 (a.map c8).toArray) ∧
        Hid (Blk wr (w.heap.size + 1) 46 Z) ∧ Hid (Blk wr (w.heap.size + 2) 46 ((turnAt X (4 * i + c)).map c8).toArray) ∧ Hid (Below w.heap.size w wr)) (fun v _ => 4 - (intOf v).toNat)
      case atStart => exact ⟨0, by omega, rfl, P0, P1, P2, HP⟩
      case round =>
        obtain ⟨c, hc, rfl, S0, S1, S2, HS⟩ := hrel
        clear P0 P1 P2 HP
        by_cases hlc : c < 4
        · obtain ⟨x, hx⟩ : ∃ x, a[4 * ((c + s * i) % 4) + i]? = some x := ⟨_, List.getElem?_eq_getElem (by rw [ka.out]; omega)⟩
          have hX := turnB_get s a i c hlt hlc x hx
          rw [← HX.out] at hX
          have hN := turnAt_next X hXl.out i c hlt hlc x hX
          have HE := S2.out.set8 (p := 4 * c + i) x
          rw [hN] at HE
          have c0 := blk_get S0.out _ hx
          have df := S2.out.frozen (4 * c + i)
          obtain ⟨u, dc⟩ : ∃ u, wr.cell? ⟨w.heap.size + 2, 4 * c + i, none⟩ = some u := ⟨_, (S2.out.cell _).trans (by rw [List.getElem?_toArray]; exact List.getElem?_eq_getElem (by rw [List.length_map, turnAt_len]; omega))⟩
          have HE0 := hide HE
          have F0 := hide (S0.out.far (p := ⟨w.heap.size + 2, 4 * c + i, none⟩) (by simp) (c8 x))
          have F1 := hide (S1.out.far (p := ⟨w.heap.size + 2, 4 * c + i, none⟩) (by simp) (c8 x))
          have F2 := hide (HS.out.setCell (p := ⟨w.heap.size + 2, 4 * c + i, none⟩) (show w.heap.size ≤ w.heap.size + 2 by omega) (c8 x))
          have h1 : Hid (wr.cell? ⟨w.heap.size, 4 * ((c + s * i) % 4) + i, none⟩ = some (c8 x)) := hide c0
          clear HE S0 S1 S2 HS hN hX hx c0
          have HZ : Hid (Sign z s) := hz
          rcases hz.out with ⟨rfl, rfl⟩ | ⟨rfl, rfl⟩ <;> rcases (by omega : i = 0 ∨ i = 1 ∨ i = 2 ∨ i = 3) with rfl | rfl | rfl | rfl <;> rcases (by omega : c = 0 ∨ c = 1 ∨ c = 2 ∨ c = 3) with rfl | rfl | rfl | rfl
          all_goals
            have c0 := h1.out
            simp only [Nat.reduceMul, Nat.reduceAdd, Nat.reduceMod, Nat.zero_add, Nat.add_zero, Nat.mul_zero, Nat.zero_mul] at c0 df dc HE0 F0 F1 F2
            clear h1
            go_wp2
            go_roundw
            case rel => exact ⟨_, hlc, int_succ _, F0, F1, HE0, F2⟩
            case measure => decide
        · obtain rfl : c = 4 := by omega
          have hd : decide ((4 : Int) < 4) = false := by decide
          go_wp2
          go_roundw
          case rel => exact ⟨i + 1, hlt, int_succ i, S0, S1, S2, HS⟩
          case measure => simp [intOf]; omega
    · obtain rfl : i = 4 := by omega
      have hd : decide ((4 : Int) < 4) = false := by decide
      have hv := hR.out.val
      rw [turnAt_all X hXl.out, ← hv] at P2
      have HVR := hide hv
      have HI : Hid ((Try.prog.info? 46).map (·.size) = some R.size) := hide hR.out.info
      have HZs : Hid (Z.size = R.size) := hide (by rw [hR.out.size, hZv.out.size])
      have HO : Hid (R.all (·.oneCell') = true) := hide hR.out.one
      clear hv
      go_wp2_with (first
        | ((with_reducible show wpList _ _ _ (⟨_, .load _ _, _, _, _, _⟩ :: _) _ _); refine wpList_load_row rfl 46 _ rfl (w.heap.size + 2) rfl 46 R (0, 0) _ P2.out Try.underlying46 rfl HI.out ?_)
        | ((with_reducible show wpList _ _ _ (⟨_, .store _ _ _, _, _, _, _⟩ :: _) _ _); refine wpList_store_row rfl 46 _ _ rfl (w.heap.size + 1) rfl R rfl 46 _ P1.out HI.out HZs.out HO.out ?_))
      refine bodyPost_ret (v := .agg R) ?_ rfl ⟨by rw [HVR.out], ?_⟩
      · exact results_cell_row rfl _ _ (w.heap.size + 1) 46 R (0, 0) _ rfl (setRow_heap _ _ _ _ _ _ P1.out) Try.underlying46 rfl HI.out
      · exact below_setRow HP.out (by omega) _
end Go.Proofs.Ytdeljodfanfbmaa
