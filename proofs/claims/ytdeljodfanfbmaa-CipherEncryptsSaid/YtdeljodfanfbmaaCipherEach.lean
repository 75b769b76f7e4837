/- Package cipher's blocks: each byte by a function. No condition. -/
import Derived.Test.YtdeljodfanfbmaaCipherXor
namespace Go.Proofs.Ytdeljodfanfbmaa
open Go.RowKit
set_option linter.unusedVariables false
set_option linter.unusedSimpArgs false

theorem index_block (l : List (BitVec 8)) (V : Array Value) (hV : BVal l V) (k : Nat) (x : BitVec 8) (hx : l[k]? = some x) (w : World) : (Instr.index 46 (.agg V) (.int .i64 (k : Int))).run Try.prog w = .ok (c8 x) w := by
  obtain ⟨i0, hi, _, hz1, _⟩ := info_parts info_u8
  have hk : k < 16 := by have := (List.getElem?_eq_some_iff.1 hx).1; rw [hV.len] at this; exact this
  refine run_index_agg w _ _ 16 k _ _ i0 .u8 Try.underlying46 hi hz1 Try.underlying5 hk ?_
  rw [hV.val, List.getElem?_toArray, List.getElem?_map, hx]; rfl
/-- a block's row is written over with another one, one by one -/
theorem half_start {w : World} {g : Nat} {t : TypeId} {a X : List (BitVec 8)} {V : Array Value} (hV : BVal a V) (h : Blk w g t V) : Blk w g t ((half X a 0).map c8).toArray := by rw [half_zero, ← hV.val]; exact h
theorem half_next {w : World} {g : Nat} {t : TypeId} {a X : List (BitVec 8)} {n : Nat} {x : BitVec 8} (hx : X[n]? = some x) (hn : n < a.length) (h : Blk w g t ((half X a n).map c8).toArray) : Blk (w.setCell ⟨g, n, none⟩ (c8 x)) g t ((half X a (n + 1)).map c8).toArray := by
  rw [← half_set X a n x hx hn]; exact h.set8 x
set_option maxRecDepth 100000 in
set_option maxHeartbeats 1600000 in
theorem ceach_any (F : FuncId) (hE : Enters Try.prog F) (p : Value) (s : BitVec 8 → BitVec 8) (a : List (BitVec 8)) (V : Array Value) (hV : BVal a V) (w : World)
    (HF : ∀ x W, Below w.heap.size w W → Calls Try.prog F #[p, c8 x] W fun e w' => e = .returned (c8 (s x)) ∧ W = w') :
    Calls Try.prog 62 #[.agg V, .func (.func F) #[p] #[]] w fun e w' => e = .returned (.agg ((a.map s).map c8).toArray) ∧ Below w.heap.size w w' := by
  obtain ⟨Z, hZ, hZv⟩ := zeroB
  obtain ⟨W0, hW0, sz, b0, b1, hB⟩ := blks2 w 46 46 V Z
  obtain ⟨X, hX⟩ : ∃ X, X = a.map s := ⟨_, rfl⟩
  have ka : a.length = 16 := hV.len
  have hXl : X.length = 16 := by rw [hX, List.length_map]; exact ka
  obtain ⟨R, hR⟩ := bVal X hXl
  have hXg : ∀ (n : Nat) (x : BitVec 8), a[n]? = some x → X[n]? = some (s x) := by
    intro n x h1
    rw [hX, List.getElem?_map, h1]; rfl
  rw [← hX]
  have Q0 : Hid (Blk W0 w.heap.size 46 ((half X a 0).map c8).toArray) := hide (half_start hV b0)
  have Q2 := hide b1
  have HLd := hide b0
  have HVi := hide hV.info
  have HV := hide hV
  have HB := hide hB
  have HXG := hide hXg
  replace HF := hide HF
  replace hE := hide hE
  replace hZ := hide hZ
  replace hR := hide hR
  replace hW0 := hide hW0
  replace hZv := hide hZv
  replace ka := hide ka
  replace hXl := hide hXl
  replace sz := hide sz
  clear b0 b1 hB hX hXg hV
  go_enter Try.func62, Try.ntmps62
  go_wp2_with (first
    | (refine wpList_alloc_is rfl 46 rfl Z hZ.out ?_)
    | (rw [hW0.out]; refine wpList_load_row rfl 46 _ rfl w.heap.size rfl 46 V (0, 0) _ HLd.out Try.underlying46 rfl HVi.out ?_))
  clear HLd
  go_loopw [8] (fun i wr => ∃ n : Nat, n ≤ 16 ∧ i = .int .i64 (n : Int) ∧ Hid (Blk wr w.heap.size 46 ((half X a n).map c8).toArray) ∧
    Hid (Blk wr (w.heap.size + 1) 46 Z) ∧ Hid (Below w.heap.size w wr)) (fun i _ => 16 - (intOf i).toNat)
  case atStart => exact ⟨0, by omega, rfl, Q0, Q2, HB⟩
  case round =>
    obtain ⟨n, hn, rfl, P0, P2, HP⟩ := hrel
    clear Q0 Q2 HB hW0 hZ sz
    by_cases hlt : n < 16
    · have hd : decide ((n : Int) < 16) = true := by simp; omega
      have hk0 : (0 : Int) ≤ (n : Int) := by omega
      have hk1 : (n : Int) < 16 := by omega
      obtain ⟨x, hx⟩ : ∃ x, a[n]? = some x := ⟨_, List.getElem?_eq_getElem (by rw [ka.out]; exact hlt)⟩
      have hidx := fun w => index_block a V HV.out n x hx w
      have HC := hide (HF.out x wr HP.out)
      have hen : (callFunc F #[p, c8 x]).run Try.prog wr = .ok (.enter F #[p, c8 x]) wr := hE.out _ _
      have HE0 := hide (half_next (HXG.out n x hx) (by rw [ka.out]; exact hlt) P0.out)
      have df := P0.out.frozen n
      have dc : ∃ u, wr.cell? ⟨w.heap.size, n, none⟩ = some u := ⟨_, (P0.out.cell n).trans (by rw [List.getElem?_toArray]; exact List.getElem?_eq_getElem (by rw [List.length_map, half_len X a n 16 hXl.out ka.out hn]; exact hlt))⟩
      obtain ⟨u, dc⟩ := dc
      clear hx P0
      go_wp2_with ((with_reducible refine HC.out.mono ?_); rintro e w1 ⟨rfl, rfl⟩)
      go_roundw
      case rel => exact ⟨n + 1, hlt, int_succ n, HE0, hide (P2.out.far (by simp) _), hide (HP.out.setCell (Nat.le_refl _) _)⟩
      case measure => simp [intOf]; omega
    · obtain rfl : n = 16 := by omega
      have hd : decide ((16 : Int) < 16) = false := by decide
      have hv := hR.out.val
      rw [half_all X a 16 hXl.out ka.out, ← hv] at P0
      have HVR := hide hv
      have HI : Hid ((Try.prog.info? 46).map (·.size) = some R.size) := hide hR.out.info
      have HZs : Hid (Z.size = R.size) := hide (by rw [hR.out.size, hZv.out.size])
      have HO : Hid (R.all (·.oneCell') = true) := hide hR.out.one
      clear hv
      go_wp2_with (first
        | ((with_reducible show wpList _ _ _ (⟨_, .load _ _, _, _, _, _⟩ :: _) _ _); refine wpList_load_row rfl 46 _ rfl w.heap.size rfl 46 R (0, 0) _ P0.out Try.underlying46 rfl HI.out ?_)
        | ((with_reducible show wpList _ _ _ (⟨_, .store _ _ _, _, _, _, _⟩ :: _) _ _); refine wpList_store_row rfl 46 _ _ rfl (w.heap.size + 1) rfl R rfl 46 _ P2.out HI.out HZs.out HO.out ?_))
      refine bodyPost_ret (v := .agg R) ?_ rfl ⟨by rw [HVR.out], ?_⟩
      · exact results_cell_row rfl _ _ (w.heap.size + 1) 46 R (0, 0) _ rfl (setRow_heap _ _ _ _ _ _ P2.out) Try.underlying46 rfl HI.out
      · exact below_setRow HP.out (by omega) _
end Go.Proofs.Ytdeljodfanfbmaa
