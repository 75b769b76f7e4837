/- Package cipher's blocks: xor. No condition. Package cipher's blocks: each byte by a function. No condition. Package cipher's blocks: the rows are turned. No condition. Package cipher's columns: products with a row that turns. No condition. Package cipher's Mix and Unmix. No condition. Package cipher's blocks: each column by a function. No condition. -/
import Derived.Test.YtdeljodfanfbmaaCipher
import Derived.Test.YtdeljodfanfbmaaRelStage
import Derived.Test.YtdeljodfanfbmaaRelTail
import Derived.Test.YtdeljodfanfbmaaStoreAt
import Derived.Test.YtdeljodfanfbmaaBlks
import Derived.Deep.CutRange
import Derived.Deep.DeepCutAuto
import Derived.Laws.Cover3
import Derived.Laws.CopyOwn
namespace Go.Proofs.Ytdeljodfanfbmaa
open Go.RowKit
set_option linter.unusedVariables false
set_option linter.unusedSimpArgs false
attribute [local go_sem] Gives givesUpon
attribute [local irreducible] Gives

/-! rows that turn from one list into another -/
def half {α : Type} (A B : List α) (n : Nat) : List α := A.take n ++ B.drop n
theorem half_zero {α : Type} (A B : List α) : half A B 0 = B := by simp [half]
theorem half_all {α : Type} (A B : List α) (n : Nat) (ha : A.length = n) (hb : B.length = n) : half A B n = A := by
  simp [half, List.take_of_length_le (Nat.le_of_eq ha), List.drop_eq_nil_of_le (Nat.le_of_eq hb)]
theorem half_len {α : Type} (A B : List α) (n m : Nat) (ha : A.length = m) (hb : B.length = m) (hn : n ≤ m) : (half A B n).length = m := by simp [half, ha, hb]; omega
theorem half_get {α : Type} (A B : List α) (n j : Nat) (ha : n ≤ A.length) (hj : n ≤ j) : (half A B n)[j]? = B[j]? := by
  rw [half, List.getElem?_append_right (by rw [List.length_take]; omega), List.length_take, Nat.min_eq_left ha, List.getElem?_drop]
  congr 1; omega
theorem half_set {α : Type} (A B : List α) (n : Nat) (x : α) (ha : A[n]? = some x) (hb : n < B.length) : (half A B n).set n x = half A B (n + 1) := by
  have hn : n < A.length := (List.getElem?_eq_some_iff.1 ha).1
  have hx : A[n] = x := (List.getElem?_eq_some_iff.1 ha).2
  rw [half, half, List.drop_eq_getElem_cons hb, List.set_append_right _ _ (by rw [List.length_take]; omega), List.length_take, Nat.min_eq_left (Nat.le_of_lt hn), Nat.sub_self, List.set_cons_zero,
    List.take_succ_eq_append_getElem hn, hx, List.append_assoc]
  rfl
theorem xor_u8 (x y : BitVec 8) : bits .xor .u8 (x.toNat : Int) (y.toNat : Int) = ((x ^^^ y).toNat : Int) := by
  rw [u8_xor_nat _ _ x.isLt y.isLt, BitVec.toNat_xor]
theorem oneCell_bytes (l : List (BitVec 8)) : (l.map c8).toArray.all (·.oneCell') = true := by
  rw [Array.all_eq_true_iff_forall_mem]
  intro u hu
  obtain ⟨x, _, rfl⟩ := List.mem_map.1 (by simpa using hu)
  rfl
theorem oneCell_c8 (l : List (BitVec 8)) : ∀ u ∈ l.map c8, u.oneCell' = true := by
  intro u hu
  obtain ⟨x, _, rfl⟩ := List.mem_map.1 hu
  rfl
theorem Blk.setRow_ {w : World} {g : Nat} {t : TypeId} {cs : Array Value} (h : Blk w g t cs) (c' : Array Value) : Blk (w.setRow g c') g t c' := setRow_heap w g cs c' t (0, 0) h
theorem Blk.setRow_far {w : World} {g k : Nat} {t : TypeId} {cs : Array Value} (h : Blk w g t cs) (c' : Array Value) (hk : g ≠ k) : Blk (w.setRow k c') g t cs := (setRow_other w k g c' hk).trans h
/-- a block, as a value -/
structure BVal (l : List (BitVec 8)) (R : Array Value) : Prop where
  val : R = (l.map c8).toArray
  len : l.length = 16
  size : R.size = 16
  info : (Try.prog.info? 46).map (·.size) = some R.size
  one : R.all (·.oneCell') = true
theorem info_block : (Try.prog.info? 46).map (·.size) = some 16 := by kernel_rfl
theorem bVal (l : List (BitVec 8)) (h : l.length = 16) : ∃ R, BVal l R := by
  refine ⟨(l.map c8).toArray, rfl, h, by simp [h], ?_, oneCell_bytes _⟩
  rw [show ((l.map c8).toArray).size = 16 by simp [h]]
  exact info_block
theorem zeroB : ∃ Z : Array Value, (Try.prog.info? 46).map (·.zero) = some (some (.agg Z)) ∧ BVal (List.replicate 16 0#8) Z :=
  ⟨((List.replicate 16 0#8).map c8).toArray, by kernel_rfl, by obtain ⟨R, h⟩ := bVal (List.replicate 16 0#8) (by simp); have e := h.val; subst e; exact h⟩
theorem blk_get {w : World} {g : Nat} {t : TypeId} {l : List (BitVec 8)} {x : BitVec 8} (h : Blk w g t (l.map c8).toArray) (k : Nat) (hx : l[k]? = some x) : w.cell? ⟨g, k, none⟩ = some (c8 x) := by
  refine (h.cell k).trans ?_
  rw [List.getElem?_toArray, List.getElem?_map, hx]; rfl
theorem Blk.set8 {w : World} {g p : Nat} {t : TypeId} {o : List (BitVec 8)} (h : Blk w g t (o.map c8).toArray) (x : BitVec 8) : Blk (w.setCell ⟨g, p, none⟩ (c8 x)) g t ((o.set p x).map c8).toArray := by
  have := h.set_ p (c8 x)
  rw [List.setIfInBounds_toArray, ← List.map_set] at this
  exact this
set_option maxRecDepth 100000 in
set_option maxHeartbeats 1600000 in
theorem cxor_any (a k : List (BitVec 8)) (V K : Array Value) (hV : BVal a V) (hK : BVal k K) (w : World) :
    Calls Try.prog 61 #[.agg V, .agg K] w fun e w' => e = .returned (.agg ((xorL a k).map c8).toArray) ∧ Below w.heap.size w w' := by
  obtain ⟨Z, hZ, hZv⟩ := zeroB
  obtain ⟨R, hR⟩ := bVal (xorL a k) (xorL_len a k 16 hV.len hK.len)
  obtain ⟨W0, hW0, sz, b0, b1, b2, hB⟩ := blks3 w 46 46 46 V K Z
  obtain ⟨X, hX⟩ : ∃ X, X = xorL a k := ⟨_, rfl⟩
  have hXl : X.length = 16 := by rw [hX]; exact xorL_len a k 16 hV.len hK.len
  have hXg : ∀ (n : Nat) (x y : BitVec 8), a[n]? = some x → k[n]? = some y → X[n]? = some (x ^^^ y) := by
    intro n x y h1 h2
    rw [hX, xorL, List.getElem?_zipWith, h1, h2]
  rw [← hX] at hR ⊢
  have ka : a.length = 16 := hV.len
  have kk : k.length = 16 := hK.len
  have Q0 : Hid (Blk W0 w.heap.size 46 ((half X a 0).map c8).toArray) := hide (by rw [half_zero, ← hV.val]; exact b0)
  have Q1 : Hid (Blk W0 (w.heap.size + 1) 46 (k.map c8).toArray) := hide (by rw [← hK.val]; exact b1)
  have Q2 := hide b2
  have HB := hide hB
  have HXG := hide hXg
  replace hZ := hide hZ
  replace hR := hide hR
  replace hW0 := hide hW0
  replace hZv := hide hZv
  replace ka := hide ka
  replace kk := hide kk
  replace hXl := hide hXl
  replace sz := hide sz
  clear b0 b1 b2 hB hX hXg hV hK
  go_enter Try.func61, Try.ntmps61
  go_wp2_with (refine wpList_alloc_is rfl 46 rfl Z hZ.out ?_)
  rw [hW0.out]
  have l0 := Q0.out.lt
  go_loopw [6] (fun i wr => ∃ n : Nat, n ≤ 16 ∧ i = .int .i64 (n : Int) ∧ Hid (Blk wr w.heap.size 46 ((half X a n).map c8).toArray) ∧ Hid (Blk wr (w.heap.size + 1) 46 (k.map c8).toArray) ∧
    Hid (Blk wr (w.heap.size + 2) 46 Z) ∧ Hid (Below w.heap.size w wr)) (fun i _ => 16 - (intOf i).toNat)
  case atStart => exact ⟨0, by omega, rfl, Q0, Q1, Q2, HB⟩
  case round =>
    obtain ⟨n, hn, rfl, P0, P1, P2, HP⟩ := hrel
    clear Q0 Q1 Q2 HB hW0 hZ sz
    by_cases hlt : n < 16
    · have hd : decide ((n : Int) < 16) = true := by simp; omega
      have hk0 : (0 : Int) ≤ (n : Int) := by omega
      have hk1 : (n : Int) < 16 := by omega
      obtain ⟨x, hx⟩ : ∃ x, a[n]? = some x := ⟨_, List.getElem?_eq_getElem (by rw [ka.out]; exact hlt)⟩
      obtain ⟨y, hy⟩ : ∃ y, k[n]? = some y := ⟨_, List.getElem?_eq_getElem (by rw [kk.out]; exact hlt)⟩
      have c0 : Hid (wr.cell? ⟨w.heap.size, n, none⟩ = some (c8 x)) := hide (blk_get P0.out n (by rw [half_get X a n n (by rw [hXl.out]; omega) (by omega)]; exact hx))
      have c1 : Hid (wr.cell? ⟨w.heap.size + 1, n, none⟩ = some (c8 y)) := hide (blk_get P1.out n hy)
      have hz := xor_u8 x y
      have HS : Hid ((half X a n).set n (x ^^^ y) = half X a (n + 1)) := hide (half_set X a n _ (HXG.out n x y hx hy) (by rw [ka.out]; exact hlt))
      have lp := P2.out.lt
      clear hx hy
      go_wp2_with (apply wp_region_relT 8 (C := fun W => Below wr.heap.size wr W) (M := fun W W' => Below W.heap.size W W') (ss := [_, _, _, _, _, _, _, _]) (by kernel_rfl) (by kernel_rfl) (by kernel_rfl) (by kernel_rfl) (Below.refl _ _).drew)
      simp only [List.take_succ_cons, List.take_zero, List.drop_succ_cons, List.drop_zero]
      repeat (first
        | (apply relWalk_const (fun W => Below.refl _ _)
           · (intro W hC hF
              clear hF
              have d0 := ((hC.cell (p := ⟨w.heap.size, n, none⟩) (show w.heap.size < _ by omega)).trans c0.out)
              have d1 := ((hC.cell (p := ⟨w.heap.size + 1, n, none⟩) (show w.heap.size + 1 < _ by omega)).trans c1.out)
              go_simp
              with_reducible exact rfl)
           (try simp only [Act.put, List.setIfInBounds_toArray, List.set_cons_zero, List.set_cons_succ])))
      apply relWalk_nil
      intro W hC hF
      clear hF
      have e0 := P0.out.below hC (by omega)
      have e1 := hide (P1.out.below hC (by omega))
      have e2 := hide (P2.out.below hC (by omega))
      have dc := ((hC.cell (p := ⟨w.heap.size, n, none⟩) (show w.heap.size < _ by omega)).trans c0.out)
      have df := e0.frozen n
      have e3 := e0.set8 (p := n) (x ^^^ y)
      rw [HS.out, show c8 (x ^^^ y) = .int .u8 ((x.toNat ^^^ y.toNat : Nat) : Int) by simp [c8]] at e3
      have HE0 := hide e3
      have HB2 := hide (HP.out.trans (hC.mono (by omega)))
      clear hz e0 e3 P0 P1 P2 HP hC HS c0 c1
      go_wp2_with fail
      go_roundw
      case rel => exact ⟨n + 1, hlt, int_succ n, HE0, hide (e1.out.far (by simp) _), hide (e2.out.far (by simp) _), hide (HB2.out.setCell (Nat.le_refl _) _)⟩
      case measure => simp [intOf]; omega
    · obtain rfl : n = 16 := by omega
      have hd : decide ((16 : Int) < 16) = false := by decide
      have hv := hR.out.val
      rw [half_all X a 16 hXl.out ka.out, ← hv] at P0
      have HV := hide hv
      have HI : Hid ((Try.prog.info? 46).map (·.size) = some R.size) := hide hR.out.info
      have HZs : Hid (Z.size = R.size) := hide (by rw [hR.out.size, hZv.out.size])
      have HO : Hid (R.all (·.oneCell') = true) := hide hR.out.one
      clear hv
      go_wp2_with (first
        | ((with_reducible show wpList _ _ _ (⟨_, .load _ _, _, _, _, _⟩ :: _) _ _); refine wpList_load_row rfl 46 _ rfl w.heap.size rfl 46 R (0, 0) _ P0.out Try.underlying46 rfl HI.out ?_)
        | ((with_reducible show wpList _ _ _ (⟨_, .store _ _ _, _, _, _, _⟩ :: _) _ _); refine wpList_store_row rfl 46 _ _ rfl (w.heap.size + 2) rfl R rfl 46 _ P2.out HI.out HZs.out HO.out ?_))
      refine bodyPost_ret (v := .agg R) ?_ rfl ⟨by rw [HV.out], ?_⟩
      · exact results_cell_row rfl _ _ (w.heap.size + 2) 46 R (0, 0) _ rfl (setRow_heap _ _ _ _ _ _ P2.out) Try.underlying46 rfl HI.out
      · exact below_setRow HP.out (by omega) _
end Go.Proofs.Ytdeljodfanfbmaa
namespace Go.Proofs.Ytdeljodfanfbmaa
open Go.RowKit
set_option linter.unusedVariables false
set_option linter.unusedSimpArgs false

theorem index_block (l : List (BitVec 8)) (V : Array Value) (hV : BVal l V) (k : Nat) (x : BitVec 8) (hx : l[k]? = some x) (w : World) : (Instr.index 46 (.agg V) (.int .i64 (k : Int))).run Try.prog w = .ok (c8 x) w := by
  obtain ⟨i0, hi, _, hz1, _⟩ := info_parts info_u8
  have hk : k < 16 := by have := (List.getElem?_eq_some_iff.1 hx).1; rw [hV.len] at this; exact this
  refine run_index_agg w _ _ 16 k _ _ i0 .u8 Try.underlying46 hi hz1 Try.underlying5 hk ?_
  rw [hV.val, List.getElem?_toArray, List.getElem?_map, hx]; rfl
/-- a block's row is written over with another one, one by one -/
theorem half_start {w : World} {g : Nat} {t : TypeId} {a X : List (BitVec 8)} {V : Array Value} (hV : BVal a V) (h : Blk w g t V) : Blk w g t ((half X a 0).map c8).toArray := by rw [half_zero, ← hV.val]; exact h
theorem half_next {w : World} {g : Nat} {t : TypeId} {a X : List (BitVec 8)} {n : Nat} {x : BitVec 8} (hx : X[n]? = some x) (hn : n < a.length) (h : Blk w g t ((half X a n).map c8).toArray) : Blk (w.setCell ⟨g, n, none⟩ (c8 x)) g t ((half X a (n + 1)).map c8).toArray := by
  rw [← half_set X a n x hx hn]; exact h.set8 x
set_option maxRecDepth 100000 in
set_option maxHeartbeats 1600000 in
theorem ceach_any (F : FuncId) (hE : Enters Try.prog F) (p : Value) (s : BitVec 8 → BitVec 8) (a : List (BitVec 8)) (V : Array Value) (hV : BVal a V) (w : World)
    (HF : ∀ x W, Below w.heap.size w W → Calls Try.prog F #[p, c8 x] W fun e w' => e = .returned (c8 (s x)) ∧ W = w') :
    Calls Try.prog 62 #[.agg V, .func (.func F) #[p] #[]] w fun e w' => e = .returned (.agg ((a.map s).map c8).toArray) ∧ Below w.heap.size w w' := by
  obtain ⟨Z, hZ, hZv⟩ := zeroB
  obtain ⟨W0, hW0, sz, b0, b1, hB⟩ := blks2 w 46 46 V Z
  obtain ⟨X, hX⟩ : ∃ X, X = a.map s := ⟨_, rfl⟩
  have ka : a.length = 16 := hV.len
  have hXl : X.length = 16 := by rw [hX, List.length_map]; exact ka
  obtain ⟨R, hR⟩ := bVal X hXl
  have hXg : ∀ (n : Nat) (x : BitVec 8), a[n]? = some x → X[n]? = some (s x) := by
    intro n x h1
    rw [hX, List.getElem?_map, h1]; rfl
  rw [← hX]
  have Q0 : Hid (Blk W0 w.heap.size 46 ((half X a 0).map c8).toArray) := hide (half_start hV b0)
  have Q2 := hide b1
  have HLd := hide b0
  have HVi := hide hV.info
  have HV := hide hV
  have HB := hide hB
  have HXG := hide hXg
  replace HF := hide HF
  replace hE := hide hE
  replace hZ := hide hZ
  replace hR := hide hR
  replace hW0 := hide hW0
  replace hZv := hide hZv
  replace ka := hide ka
  replace hXl := hide hXl
  replace sz := hide sz
  clear b0 b1 hB hX hXg hV
  go_enter Try.func62, Try.ntmps62
  go_wp2_with (first
    | (refine wpList_alloc_is rfl 46 rfl Z hZ.out ?_)
    | (rw [hW0.out]; refine wpList_load_row rfl 46 _ rfl w.heap.size rfl 46 V (0, 0) _ HLd.out Try.underlying46 rfl HVi.out ?_))
  clear HLd
  go_loopw [8] (fun i wr => ∃ n : Nat, n ≤ 16 ∧ i = .int .i64 (n : Int) ∧ Hid (Blk wr w.heap.size 46 ((half X a n).map c8).toArray) ∧
    Hid (Blk wr (w.heap.size + 1) 46 Z) ∧ Hid (Below w.heap.size w wr)) (fun i _ => 16 - (intOf i).toNat)
  case atStart => exact ⟨0, by omega, rfl, Q0, Q2, HB⟩
  case round =>
    obtain ⟨n, hn, rfl, P0, P2, HP⟩ := hrel
    clear Q0 Q2 HB hW0 hZ sz
    by_cases hlt : n < 16
    · have hd : decide ((n : Int) < 16) = true := by simp; omega
      have hk0 : (0 : Int) ≤ (n : Int) := by omega
      have hk1 : (n : Int) < 16 := by omega
      obtain ⟨x, hx⟩ : ∃ x, a[n]? = some x := ⟨_, List.getElem?_eq_getElem (by rw [ka.out]; exact hlt)⟩
      have hidx := fun w => index_block a V HV.out n x hx w
      have HC := hide (HF.out x wr HP.out)
      have hen : (callFunc F #[p, c8 x]).run Try.prog wr = .ok (.enter F #[p, c8 x]) wr := hE.out _ _
      have HE0 := hide (half_next (HXG.out n x hx) (by rw [ka.out]; exact hlt) P0.out)
      have df := P0.out.frozen n
      have dc : ∃ u, wr.cell? ⟨w.heap.size, n, none⟩ = some u := ⟨_, (P0.out.cell n).trans (by rw [List.getElem?_toArray]; exact List.getElem?_eq_getElem (by rw [List.length_map, half_len X a n 16 hXl.out ka.out hn]; exact hlt))⟩
      obtain ⟨u, dc⟩ := dc
      clear hx P0
      go_wp2_with ((with_reducible refine HC.out.mono ?_); rintro e w1 ⟨rfl, rfl⟩)
      go_roundw
      case rel => exact ⟨n + 1, hlt, int_succ n, HE0, hide (P2.out.far (by simp) _), hide (HP.out.setCell (Nat.le_refl _) _)⟩
      case measure => simp [intOf]; omega
    · obtain rfl : n = 16 := by omega
      have hd : decide ((16 : Int) < 16) = false := by decide
      have hv := hR.out.val
      rw [half_all X a 16 hXl.out ka.out, ← hv] at P0
      have HVR := hide hv
      have HI : Hid ((Try.prog.info? 46).map (·.size) = some R.size) := hide hR.out.info
      have HZs : Hid (Z.size = R.size) := hide (by rw [hR.out.size, hZv.out.size])
      have HO : Hid (R.all (·.oneCell') = true) := hide hR.out.one
      clear hv
      go_wp2_with (first
        | ((with_reducible show wpList _ _ _ (⟨_, .load _ _, _, _, _, _⟩ :: _) _ _); refine wpList_load_row rfl 46 _ rfl w.heap.size rfl 46 R (0, 0) _ P0.out Try.underlying46 rfl HI.out ?_)
        | ((with_reducible show wpList _ _ _ (⟨_, .store _ _ _, _, _, _, _⟩ :: _) _ _); refine wpList_store_row rfl 46 _ _ rfl (w.heap.size + 1) rfl R rfl 46 _ P2.out HI.out HZs.out HO.out ?_))
      refine bodyPost_ret (v := .agg R) ?_ rfl ⟨by rw [HVR.out], ?_⟩
      · exact results_cell_row rfl _ _ (w.heap.size + 1) 46 R (0, 0) _ rfl (setRow_heap _ _ _ _ _ _ P2.out) Try.underlying46 rfl HI.out
      · exact below_setRow HP.out (by omega) _
end Go.Proofs.Ytdeljodfanfbmaa
namespace Go.Proofs.Ytdeljodfanfbmaa
open Go.RowKit
set_option linter.unusedVariables false
set_option linter.unusedSimpArgs false

/-- so many bytes are laid, row by row -/
def turnAt (X : List (BitVec 8)) (m : Nat) : List (BitVec 8) := (List.range 16).map fun p => if 4 * (p % 4) + p / 4 < m then X.getD p 0 else 0
theorem turnAt_len (X : List (BitVec 8)) (m : Nat) : (turnAt X m).length = 16 := by simp [turnAt]
theorem turnAt_zero (X : List (BitVec 8)) : turnAt X 0 = List.replicate 16 0#8 := by
  simp only [turnAt, Nat.not_lt_zero, if_false]; rfl
theorem turnAt_all (X : List (BitVec 8)) (h : X.length = 16) : turnAt X 16 = X := by
  obtain ⟨x0, x1, x2, x3, x4, x5, x6, x7, x8, x9, x10, x11, x12, x13, x14, x15, rfl⟩ := sixteen X h
  rfl
theorem turnAt_next (X : List (BitVec 8)) (h : X.length = 16) (i c : Nat) (hi : i < 4) (hc : c < 4) (x : BitVec 8) (hx : X[4 * c + i]? = some x) : (turnAt X (4 * i + c)).set (4 * c + i) x = turnAt X (4 * i + c + 1) := by
  obtain ⟨x0, x1, x2, x3, x4, x5, x6, x7, x8, x9, x10, x11, x12, x13, x14, x15, rfl⟩ := sixteen X h
  rcases (by omega : i = 0 ∨ i = 1 ∨ i = 2 ∨ i = 3) with rfl | rfl | rfl | rfl <;> rcases (by omega : c = 0 ∨ c = 1 ∨ c = 2 ∨ c = 3) with rfl | rfl | rfl | rfl <;> (cases hx; rfl)
theorem turnB_get (s : Nat) (b : List (BitVec 8)) (i c : Nat) (hi : i < 4) (hc : c < 4) (x : BitVec 8) (hx : b[4 * ((c + s * i) % 4) + i]? = some x) : (turnB s b)[4 * c + i]? = some x := by
  have e1 : (4 * c + i) / 4 = c := by omega
  have e2 : (4 * c + i) % 4 = i := by omega
  simp only [turnB, List.getElem?_map]
  rw [List.getElem?_range (by omega)]
  simp only [Option.map_some, e1, e2, List.getD, hx, Option.getD_some]
/-- the sign, as the code and as the plain law have it -/
def Sign (z : Int) (s : Nat) : Prop := (z = 1 ∧ s = 1) ∨ (z = -1 ∧ s = 3)
set_option maxRecDepth 100000 in
set_option maxHeartbeats 6400000 in
theorem cturn_any (z : Int) (s : Nat) (hz : Sign z s) (a : List (BitVec 8)) (V : Array Value) (hV : BVal a V) (w : World) :
    Calls Try.prog 63 #[.agg V, .int .i64 z] w fun e w' => e = .returned (.agg ((turnB s a).map c8).toArray) ∧ Below w.heap.size w w' := by
  obtain ⟨Z, hZ, hZv⟩ := zeroB
  obtain ⟨W0, hW0, sz, b0, b1, b2, hB⟩ := blks3 w 46 46 46 V Z Z
  obtain ⟨X, hX⟩ : ∃ X, X = turnB s a := ⟨_, rfl⟩
  have ka : a.length = 16 := hV.len
  have hXl : X.length = 16 := by rw [hX]; exact turnB_len s a
  obtain ⟨R, hR⟩ := bVal X hXl
  have HX := hide hX
  rw [← hX]
  have Q0 : Hid (Blk W0 w.heap.size 46 (a.map c8).toArray) := hide (by rw [← hV.val]; exact b0)
  have Q1 := hide b1
  have Q2 : Hid (Blk W0 (w.heap.size + 2) 46 ((turnAt X 0).map c8).toArray) := hide (by rw [turnAt_zero, ← hZv.val]; exact b2)
  have HB := hide hB
  replace hZ := hide hZ
  replace hR := hide hR
  replace hW0 := hide hW0
  replace hZv := hide hZv
  replace ka := hide ka
  replace hXl := hide hXl
  replace hz := hide hz
  clear b0 b1 b2 hB hX sz hV
  go_enter Try.func63, Try.ntmps63
  go_wp2_with (refine wpList_alloc_is rfl 46 rfl Z hZ.out ?_)
  rw [hW0.out]
  clear hW0
  go_loopw [8] (fun v wr => ∃ i : Nat, i ≤ 4 ∧ v = .int .i64 (i : Int) ∧ Hid (Blk wr w.heap.size 46 (a.map c8).toArray) ∧
    Hid (Blk wr (w.heap.size + 1) 46 Z) ∧ Hid (Blk wr (w.heap.size + 2) 46 ((turnAt X (4 * i)).map c8).toArray) ∧ Hid (Below w.heap.size w wr)) (fun v _ => 4 - (intOf v).toNat)
  case atStart => exact ⟨0, by omega, rfl, Q0, Q1, Q2, HB⟩
  case round =>
    obtain ⟨i, hi, rfl, P0, P1, P2, HP⟩ := hrel
    clear Q0 Q1 Q2 HB
    by_cases hlt : i < 4
    · have hd : decide ((i : Int) < 4) = true := by simp; omega
      go_wp2
      obtain ⟨wz, rfl⟩ : ∃ wz : World, wz = wr := ⟨_, rfl⟩
      go_loopw [11] (fun v wr => ∃ c : Nat, c ≤ 4 ∧ v = .int .i64 (c : Int) ∧ Hid (Blk wr w.heap.size 46 (a.map c8).toArray) ∧
        Hid (Blk wr (w.heap.size + 1) 46 Z) ∧ Hid (Blk wr (w.heap.size + 2) 46 ((turnAt X (4 * i + c)).map c8).toArray) ∧ Hid (Below w.heap.size w wr)) (fun v _ => 4 - (intOf v).toNat)
      case atStart => exact ⟨0, by omega, rfl, P0, P1, P2, HP⟩
      case round =>
        obtain ⟨c, hc, rfl, S0, S1, S2, HS⟩ := hrel
        clear P0 P1 P2 HP
        by_cases hlc : c < 4
        · obtain ⟨x, hx⟩ : ∃ x, a[4 * ((c + s * i) % 4) + i]? = some x := ⟨_, List.getElem?_eq_getElem (by rw [ka.out]; omega)⟩
          have hX := turnB_get s a i c hlt hlc x hx
          rw [← HX.out] at hX
          have hN := turnAt_next X hXl.out i c hlt hlc x hX
          have HE := S2.out.set8 (p := 4 * c + i) x
          rw [hN] at HE
          have c0 := blk_get S0.out _ hx
          have df := S2.out.frozen (4 * c + i)
          obtain ⟨u, dc⟩ : ∃ u, wr.cell? ⟨w.heap.size + 2, 4 * c + i, none⟩ = some u := ⟨_, (S2.out.cell _).trans (by rw [List.getElem?_toArray]; exact List.getElem?_eq_getElem (by rw [List.length_map, turnAt_len]; omega))⟩
          have HE0 := hide HE
          have F0 := hide (S0.out.far (p := ⟨w.heap.size + 2, 4 * c + i, none⟩) (by simp) (c8 x))
          have F1 := hide (S1.out.far (p := ⟨w.heap.size + 2, 4 * c + i, none⟩) (by simp) (c8 x))
          have F2 := hide (HS.out.setCell (p := ⟨w.heap.size + 2, 4 * c + i, none⟩) (show w.heap.size ≤ w.heap.size + 2 by omega) (c8 x))
          have h1 : Hid (wr.cell? ⟨w.heap.size, 4 * ((c + s * i) % 4) + i, none⟩ = some (c8 x)) := hide c0
          clear HE S0 S1 S2 HS hN hX hx c0
          have HZ : Hid (Sign z s) := hz
          rcases hz.out with ⟨rfl, rfl⟩ | ⟨rfl, rfl⟩ <;> rcases (by omega : i = 0 ∨ i = 1 ∨ i = 2 ∨ i = 3) with rfl | rfl | rfl | rfl <;> rcases (by omega : c = 0 ∨ c = 1 ∨ c = 2 ∨ c = 3) with rfl | rfl | rfl | rfl
          all_goals
            have c0 := h1.out
            simp only [Nat.reduceMul, Nat.reduceAdd, Nat.reduceMod, Nat.zero_add, Nat.add_zero, Nat.mul_zero, Nat.zero_mul] at c0 df dc HE0 F0 F1 F2
            clear h1
            go_wp2
            go_roundw
            case rel => exact ⟨_, hlc, int_succ _, F0, F1, HE0, F2⟩
            case measure => decide
        · obtain rfl : c = 4 := by omega
          have hd : decide ((4 : Int) < 4) = false := by decide
          go_wp2
          go_roundw
          case rel => exact ⟨i + 1, hlt, int_succ i, S0, S1, S2, HS⟩
          case measure => simp [intOf]; omega
    · obtain rfl : i = 4 := by omega
      have hd : decide ((4 : Int) < 4) = false := by decide
      have hv := hR.out.val
      rw [turnAt_all X hXl.out, ← hv] at P2
      have HVR := hide hv
      have HI : Hid ((Try.prog.info? 46).map (·.size) = some R.size) := hide hR.out.info
      have HZs : Hid (Z.size = R.size) := hide (by rw [hR.out.size, hZv.out.size])
      have HO : Hid (R.all (·.oneCell') = true) := hide hR.out.one
      clear hv
      go_wp2_with (first
        | ((with_reducible show wpList _ _ _ (⟨_, .load _ _, _, _, _, _⟩ :: _) _ _); refine wpList_load_row rfl 46 _ rfl (w.heap.size + 2) rfl 46 R (0, 0) _ P2.out Try.underlying46 rfl HI.out ?_)
        | ((with_reducible show wpList _ _ _ (⟨_, .store _ _ _, _, _, _, _⟩ :: _) _ _); refine wpList_store_row rfl 46 _ _ rfl (w.heap.size + 1) rfl R rfl 46 _ P1.out HI.out HZs.out HO.out ?_))
      refine bodyPost_ret (v := .agg R) ?_ rfl ⟨by rw [HVR.out], ?_⟩
      · exact results_cell_row rfl _ _ (w.heap.size + 1) 46 R (0, 0) _ rfl (setRow_heap _ _ _ _ _ _ P1.out) Try.underlying46 rfl HI.out
      · exact below_setRow HP.out (by omega) _
end Go.Proofs.Ytdeljodfanfbmaa
namespace Go.Proofs.Ytdeljodfanfbmaa
open Go.RowKit Go.Shelf
set_option linter.unusedVariables false
set_option linter.unusedSimpArgs false
attribute [local go_sem] Gives givesUpon
attribute [local irreducible] Gives

/-- a column, as a value -/
structure CVal (l : List (BitVec 8)) (R : Array Value) : Prop where
  val : R = (l.map c8).toArray
  len : l.length = 4
  size : R.size = 4
  info : (Try.prog.info? 63).map (·.size) = some R.size
  one : R.all (·.oneCell') = true
theorem info_col : (Try.prog.info? 63).map (·.size) = some 4 := by kernel_rfl
theorem cVal (l : List (BitVec 8)) (h : l.length = 4) : ∃ R, CVal l R := by
  refine ⟨(l.map c8).toArray, rfl, h, by simp [h], ?_, oneCell_bytes _⟩
  rw [show ((l.map c8).toArray).size = 4 by simp [h]]
  exact info_col
theorem zeroC : ∃ Z : Array Value, (Try.prog.info? 63).map (·.zero) = some (some (.agg Z)) ∧ CVal (List.replicate 4 0#8) Z :=
  ⟨((List.replicate 4 0#8).map c8).toArray, by kernel_rfl, by obtain ⟨R, h⟩ := cVal (List.replicate 4 0#8) (by simp); have e := h.val; subst e; exact h⟩
theorem four (l : List (BitVec 8)) (h : l.length = 4) : ∃ a b c d, l = [a, b, c, d] :=
  match l, h with
  | [a, b, c, d], _ => ⟨a, b, c, d, rfl⟩
/-- the first of a sum's products -/
def part (row col : List (BitVec 8)) (i : Nat) : Nat → BitVec 8
  | 0 => 0
  | k + 1 => part row col i k ^^^ mul8 (col.getD k 0) (row.getD ((k + 4 - i) % 4) 0)
def byAt (row col : List (BitVec 8)) (m : Nat) : List (BitVec 8) := (List.range 4).map fun p => part row col p (m - 4 * p)
def partAt (row col : List (BitVec 8)) (i k : Nat) : List (BitVec 8) := (List.range 4).map fun p => if p < i then part row col p 4 else if p = i then part row col i k else 0
theorem partAt_len (row col : List (BitVec 8)) (i k : Nat) : (partAt row col i k).length = 4 := by simp [partAt]
theorem partAt_zero (row col : List (BitVec 8)) : partAt row col 0 0 = List.replicate 4 0#8 := rfl
theorem wraps64 : IntKind.i64.wrap (-3) = -3 ∧ IntKind.i64.wrap (-2) = -2 ∧ IntKind.i64.wrap (-1) = -1 ∧ IntKind.i64.wrap 0 = 0 ∧ IntKind.i64.wrap 1 = 1 ∧ IntKind.i64.wrap 2 = 2 ∧ IntKind.i64.wrap 3 = 3 ∧ IntKind.i64.wrap 4 = 4 ∧ IntKind.i64.wrap 5 = 5 ∧ IntKind.i64.wrap 6 = 6 ∧ IntKind.i64.wrap 7 = 7 := by decide
theorem partAt_row (row col : List (BitVec 8)) (i : Nat) (hi : i < 4) : partAt row col i 4 = partAt row col (i + 1) 0 := by
  rcases (by omega : i = 0 ∨ i = 1 ∨ i = 2 ∨ i = 3) with rfl | rfl | rfl | rfl <;> rfl
theorem partAt_all (row col : List (BitVec 8)) (hr : row.length = 4) (hc : col.length = 4) : partAt row col 4 0 = byC row col := by
  obtain ⟨r0, r1, r2, r3, rfl⟩ := four row hr
  obtain ⟨a, b, c, d, rfl⟩ := four col hc
  rw [byC_four]
  simp [partAt, part, dot, List.range_succ]
theorem partAt_get (row col : List (BitVec 8)) (i k : Nat) (hi : i < 4) : (partAt row col i k)[i]? = some (part row col i k) := by
  rcases (by omega : i = 0 ∨ i = 1 ∨ i = 2 ∨ i = 3) with rfl | rfl | rfl | rfl <;> rfl
theorem partAt_next (row col : List (BitVec 8)) (i k : Nat) (hi : i < 4) (x y : BitVec 8) (hx : col[k]? = some x) (hy : row[(k + 4 - i) % 4]? = some y) : (partAt row col i k).set i (part row col i k ^^^ mul8 x y) = partAt row col i (k + 1) := by
  have e : part row col i (k + 1) = part row col i k ^^^ mul8 x y := by
    show part row col i k ^^^ mul8 (col.getD k 0) (row.getD ((k + 4 - i) % 4) 0) = _
    simp only [List.getD, hx, hy, Option.getD_some]
  rw [← e]
  rcases (by omega : i = 0 ∨ i = 1 ∨ i = 2 ∨ i = 3) with rfl | rfl | rfl | rfl <;> rfl
theorem times_8 (x y : BitVec 8) (w : World) : Calls Try.prog 15 #[c8 x, c8 y] w fun e w' => e = .returned (c8 (mul8 x y)) ∧ w = w' := by
  refine (times_any x.toNat y.toNat x.isLt y.isLt w).mono ?_
  rintro e w' ⟨rfl, rfl⟩
  exact ⟨by rw [← mul8_nat], rfl⟩
set_option maxRecDepth 100000 in
set_option maxHeartbeats 12800000 in
theorem by_any (row col : List (BitVec 8)) (V K : Array Value) (hV : CVal col V) (hK : CVal row K) (w : World) :
    Calls Try.prog 69 #[.agg V, .agg K] w fun e w' => e = .returned (.agg ((byC row col).map c8).toArray) ∧ Below w.heap.size w w' := by
  obtain ⟨Z, hZ, hZv⟩ := zeroC
  obtain ⟨W0, hW0, sz, b0, b1, b2, b3, hB⟩ := blks4 w 63 63 63 63 V K Z Z
  obtain ⟨X, hX⟩ : ∃ X, X = byC row col := ⟨_, rfl⟩
  have ka : col.length = 4 := hV.len
  have kr : row.length = 4 := hK.len
  have hXl : X.length = 4 := by rw [hX]; exact byC_len row col
  obtain ⟨R, hR⟩ := cVal X hXl
  have HX := hide hX
  rw [← hX]
  have Q0 : Hid (Blk W0 w.heap.size 63 (col.map c8).toArray) := hide (by rw [← hV.val]; exact b0)
  have Q1 : Hid (Blk W0 (w.heap.size + 1) 63 (row.map c8).toArray) := hide (by rw [← hK.val]; exact b1)
  have Q2 := hide b2
  have Q3 : Hid (Blk W0 (w.heap.size + 3) 63 ((partAt row col 0 0).map c8).toArray) := hide (by rw [partAt_zero, ← hZv.val]; exact b3)
  have HB := hide hB
  replace hZ := hide hZ
  replace hR := hide hR
  replace hW0 := hide hW0
  replace hZv := hide hZv
  replace ka := hide ka
  replace kr := hide kr
  replace hXl := hide hXl
  clear b0 b1 b2 b3 hB hX sz hV hK
  go_enter Try.func69, Try.ntmps69
  go_wp2_with (refine wpList_alloc_is rfl 63 rfl Z hZ.out ?_)
  rw [hW0.out]
  clear hW0
  go_loopw [8] (fun v wr => ∃ i : Nat, i ≤ 4 ∧ v = .int .i64 (i : Int) ∧ Hid (Blk wr w.heap.size 63 (col.map c8).toArray) ∧ Hid (Blk wr (w.heap.size + 1) 63 (row.map c8).toArray) ∧
    Hid (Blk wr (w.heap.size + 2) 63 Z) ∧ Hid (Blk wr (w.heap.size + 3) 63 ((partAt row col i 0).map c8).toArray) ∧ Hid (Below w.heap.size w wr)) (fun v _ => 4 - (intOf v).toNat)
  case atStart => exact ⟨0, by omega, rfl, Q0, Q1, Q2, Q3, HB⟩
  case round =>
    obtain ⟨i, hi, rfl, P0, P1, P2, P3, HP⟩ := hrel
    clear Q0 Q1 Q2 Q3 HB
    by_cases hlt : i < 4
    · have hd : decide ((i : Int) < 4) = true := by simp; omega
      go_wp2
      obtain ⟨wz, rfl⟩ : ∃ wz : World, wz = wr := ⟨_, rfl⟩
      go_loopw [11] (fun v wr => ∃ k : Nat, k ≤ 4 ∧ v = .int .i64 (k : Int) ∧ Hid (Blk wr w.heap.size 63 (col.map c8).toArray) ∧ Hid (Blk wr (w.heap.size + 1) 63 (row.map c8).toArray) ∧
        Hid (Blk wr (w.heap.size + 2) 63 Z) ∧ Hid (Blk wr (w.heap.size + 3) 63 ((partAt row col i k).map c8).toArray) ∧ Hid (Below w.heap.size w wr)) (fun v _ => 4 - (intOf v).toNat)
      case atStart => exact ⟨0, by omega, rfl, P0, P1, P2, P3, HP⟩
      case round =>
        obtain ⟨k, hk, rfl, S0, S1, S2, S3, HS⟩ := hrel
        clear P0 P1 P2 P3 HP
        by_cases hlk : k < 4
        · obtain ⟨x, hx⟩ : ∃ x, col[k]? = some x := ⟨_, List.getElem?_eq_getElem (by rw [ka.out]; omega)⟩
          obtain ⟨y, hy⟩ : ∃ y, row[(k + 4 - i) % 4]? = some y := ⟨_, List.getElem?_eq_getElem (by rw [kr.out]; omega)⟩
          have hN := partAt_next row col i k hlt x y hx hy
          have hg := partAt_get row col i k hlt
          obtain ⟨u, hu⟩ : ∃ u, u = part row col i k := ⟨_, rfl⟩
          obtain ⟨m, hm⟩ : ∃ m, m = mul8 x y := ⟨_, rfl⟩
          have HC : Hid (∀ W, Calls Try.prog 15 #[c8 x, c8 y] W fun e w' => e = .returned (c8 m) ∧ W = w') := hide fun W => by rw [hm]; exact times_8 x y W
          rw [← hm, ← hu] at hN
          rw [← hu] at hg
          have c0 := hide (blk_get S0.out _ hx)
          have c1 := hide (blk_get S1.out _ hy)
          have c3 := hide (blk_get S3.out _ hg)
          have HT : Hid (∀ W, Blk W (w.heap.size + 3) 63 ((partAt row col i k).map c8).toArray → Blk (W.setCell ⟨w.heap.size + 3, i, none⟩ (.int .u8 (bits .xor .u8 (u.toNat : Int) (m.toNat : Int)))) (w.heap.size + 3) 63 ((partAt row col i (k + 1)).map c8).toArray) := hide fun W h => by
            have e4 := h.set8 (p := i) (u ^^^ m)
            rw [hN, show c8 (u ^^^ m) = .int .u8 (bits .xor .u8 (u.toNat : Int) (m.toNat : Int)) by rw [xor_u8]] at e4
            exact e4
          clear hN
          have lp := S3.out.lt
          clear hg hu hm hx hy
          rcases (by omega : i = 0 ∨ i = 1 ∨ i = 2 ∨ i = 3) with rfl | rfl | rfl | rfl <;> rcases (by omega : k = 0 ∨ k = 1 ∨ k = 2 ∨ k = 3) with rfl | rfl | rfl | rfl
          all_goals
            simp only [Nat.reduceMul, Nat.reduceAdd, Nat.reduceSub, Nat.reduceMod, Nat.zero_add, Nat.add_zero, Nat.sub_zero, Nat.mul_zero, Nat.zero_mul] at c1
            go_wp2_with (apply wp_region_relT 16 (C := fun W => Below wr.heap.size wr W) (M := fun W W' => Below W.heap.size W W') (ss := [_, _, _, _, _, _, _, _, _, _, _, _, _, _, _, _]) (by kernel_rfl) (by kernel_rfl) (by kernel_rfl) (by kernel_rfl) (Below.refl _ _).drew)
            simp only [List.take_succ_cons, List.take_zero, List.drop_succ_cons, List.drop_zero]
            repeat (first
              | (apply relWalk_const (fun W => Below.refl _ _)
                 · (intro W hC hF
                    clear hF
                    have d0 := ((hC.cell (p := ⟨w.heap.size, _, none⟩) (show w.heap.size < _ by omega)).trans c0.out)
                    have d1 := ((hC.cell (p := ⟨w.heap.size + 1, _, none⟩) (show w.heap.size + 1 < _ by omega)).trans c1.out)
                    have d3 := ((hC.cell (p := ⟨w.heap.size + 3, _, none⟩) (show w.heap.size + 3 < _ by omega)).trans c3.out)
                    have ww := wraps64
                    go_simp
                    with_reducible exact rfl)
                 (try simp only [Act.put, List.setIfInBounds_toArray, List.set_cons_zero, List.set_cons_succ])))
            apply relWalk_const (fun W => Below.refl _ _)
            · intro W hC hF
              rw [if_pos (wanted_none _ rfl)]
              refine gives_call rfl [c8 x, c8 y] rfl (enters_of Try.func15 (by kernel_rfl) rfl) ?_
              refine (HC.out W).mono ?_
              rintro e w' ⟨rfl, rfl⟩
              exact ⟨_, rfl, rfl, rfl⟩
            (try simp only [Act.put, List.setIfInBounds_toArray, List.set_cons_zero, List.set_cons_succ])
            repeat (first
              | (apply relWalk_const (fun W => Below.refl _ _)
                 · (intro W hC hF
                    clear hF
                    go_simp
                    with_reducible exact rfl)
                 (try simp only [Act.put, List.setIfInBounds_toArray, List.set_cons_zero, List.set_cons_succ])))
            apply relWalk_nil
            intro W hC hF
            clear hF
            have e0 := hide (S0.out.below hC (by omega))
            have e1 := hide (S1.out.below hC (by omega))
            have e2 := hide (S2.out.below hC (by omega))
            have e3 := S3.out.below hC (by omega)
            have d3 := ((hC.cell (p := ⟨w.heap.size + 3, _, none⟩) (show w.heap.size + 3 < _ by omega)).trans c3.out)
            have df := fun i => e3.frozen i
            have e4 := HT.out W e3
            have HE0 := hide e4
            have HB2 := hide (HS.out.trans (hC.mono (by omega)))
            clear e3 e4 S0 S1 S2 S3 HS hC HT c0 c1 c3
            go_wp2_with fail
            go_roundw
            case rel => exact ⟨_, hlk, int_succ _, hide (e0.out.far (by dsimp only; omega) _), hide (e1.out.far (by dsimp only; omega) _), hide (e2.out.far (by dsimp only; omega) _), HE0, hide (HB2.out.setCell (by dsimp only; omega) _)⟩
            case measure => decide
        · obtain rfl : k = 4 := by omega
          have hd : decide ((4 : Int) < 4) = false := by decide
          rw [partAt_row row col i hlt] at S3
          go_wp2
          go_roundw
          case rel => exact ⟨i + 1, hlt, int_succ i, S0, S1, S2, S3, HS⟩
          case measure => simp [intOf]; omega
    · obtain rfl : i = 4 := by omega
      have hd : decide ((4 : Int) < 4) = false := by decide
      have hv := hR.out.val
      rw [partAt_all row col kr.out ka.out, ← HX.out, ← hv] at P3
      have HVR := hide hv
      have HI : Hid ((Try.prog.info? 63).map (·.size) = some R.size) := hide hR.out.info
      have HZs : Hid (Z.size = R.size) := hide (by rw [hR.out.size, hZv.out.size])
      have HO : Hid (R.all (·.oneCell') = true) := hide hR.out.one
      clear hv
      go_wp2_with (first
        | ((with_reducible show wpList _ _ _ (⟨_, .load _ _, _, _, _, _⟩ :: _) _ _); refine wpList_load_row rfl 63 _ rfl (w.heap.size + 3) rfl 63 R (0, 0) _ P3.out Try.underlying63 rfl HI.out ?_)
        | ((with_reducible show wpList _ _ _ (⟨_, .store _ _ _, _, _, _, _⟩ :: _) _ _); refine wpList_store_row rfl 63 _ _ rfl (w.heap.size + 2) rfl R rfl 63 _ P2.out HI.out HZs.out HO.out ?_))
      refine bodyPost_ret (v := .agg R) ?_ rfl ⟨by rw [HVR.out], ?_⟩
      · exact results_cell_row rfl _ _ (w.heap.size + 2) 63 R (0, 0) _ rfl (setRow_heap _ _ _ _ _ _ P2.out) Try.underlying63 rfl HI.out
      · exact below_setRow HP.out (by omega) _
end Go.Proofs.Ytdeljodfanfbmaa
namespace Go.Proofs.Ytdeljodfanfbmaa
open Go.RowKit
set_option linter.unusedVariables false
set_option linter.unusedSimpArgs false

set_option maxRecDepth 100000 in
set_option maxHeartbeats 800000 in
theorem cmix_any (col : List (BitVec 8)) (V : Array Value) (hV : CVal col V) (w : World) :
    Calls Try.prog 40 #[.agg V] w fun e w' => e = .returned (.agg ((byC mixRow col).map c8).toArray) ∧ Below w.heap.size w w' := by
  obtain ⟨Z, hZ, hZv⟩ := zeroC
  obtain ⟨W0, hW0, sz, b0, b1, hB⟩ := blks2 w 63 63 V Z
  obtain ⟨K, hK⟩ := cVal mixRow rfl
  obtain ⟨R, hR⟩ := cVal (byC mixRow col) (byC_len _ _)
  have HVi := hide hV.info
  have HK : Hid (Try.prog.built 63 [(0, .int .u8 2), (1, .int .u8 3), (2, .int .u8 1), (3, .int .u8 1)] = some K) := hide (by rw [hK.val]; kernel_rfl)
  have HC := hide (by_any mixRow col V K hV hK W0)
  rw [← hR.val] at HC ⊢
  have HRi := hide hR.info
  have HRo := hide hR.one
  have HZs : Hid (Z.size = R.size) := hide (by rw [hZv.size, hR.size])
  have HB := hide hB
  have Q0 := hide b0
  have Q1 := hide b1
  replace hZ := hide hZ
  replace hW0 := hide hW0
  clear hV hK hR hZv hB b0 b1
  go_enter Try.func40, Try.ntmps40
  go_wp2_with (first
    | (refine wpList_alloc_is rfl 63 rfl Z hZ.out ?_)
    | (rw [hW0.out]; (with_reducible show wpList _ _ _ (⟨_, .load _ _, _, _, _, _⟩ :: _) _ _); refine wpList_load_row rfl 63 _ rfl w.heap.size rfl 63 V (0, 0) _ Q0.out Try.underlying63 rfl HVi.out ?_)
    | ((with_reducible show wpList _ _ _ (⟨_, .build _ _, _, _, _, _⟩ :: _) _ _); refine wpList_build_is rfl 63 _ rfl K (by exact HK.out) ?_)
    | (go_at_call 69; (with_reducible refine HC.out.mono ?_); rintro e w1 ⟨rfl, hb1⟩; have B1 := hide hb1; have K1 := hide (Q1.out.below hb1 (by omega)); have B2 := hide (HB.out.trans (hb1.mono (by omega))); clear hb1)
    | ((with_reducible show wpList _ _ _ (⟨_, .store _ _ _, _, _, _, _⟩ :: _) _ _); refine wpList_store_row rfl 63 _ _ rfl (w.heap.size + 1) rfl R rfl 63 _ K1.out HRi.out HZs.out HRo.out ?_))
  refine bodyPost_ret (v := .agg R) ?_ rfl ⟨rfl, ?_⟩
  · exact results_cell_row rfl _ _ (w.heap.size + 1) 63 R (0, 0) _ rfl (setRow_heap _ _ _ _ _ _ K1.out) Try.underlying63 rfl HRi.out
  · exact below_setRow B2.out (by omega) _
set_option maxRecDepth 100000 in
set_option maxHeartbeats 800000 in
theorem cunmix_any (col : List (BitVec 8)) (V : Array Value) (hV : CVal col V) (w : World) :
    Calls Try.prog 42 #[.agg V] w fun e w' => e = .returned (.agg ((byC unRow col).map c8).toArray) ∧ Below w.heap.size w w' := by
  obtain ⟨Z, hZ, hZv⟩ := zeroC
  obtain ⟨W0, hW0, sz, b0, b1, hB⟩ := blks2 w 63 63 V Z
  obtain ⟨K, hK⟩ := cVal unRow rfl
  obtain ⟨R, hR⟩ := cVal (byC unRow col) (byC_len _ _)
  have HVi := hide hV.info
  have HK : Hid (Try.prog.built 63 [(0, .int .u8 14), (1, .int .u8 11), (2, .int .u8 13), (3, .int .u8 9)] = some K) := hide (by rw [hK.val]; kernel_rfl)
  have HC := hide (by_any unRow col V K hV hK W0)
  rw [← hR.val] at HC ⊢
  have HRi := hide hR.info
  have HRo := hide hR.one
  have HZs : Hid (Z.size = R.size) := hide (by rw [hZv.size, hR.size])
  have HB := hide hB
  have Q0 := hide b0
  have Q1 := hide b1
  replace hZ := hide hZ
  replace hW0 := hide hW0
  clear hV hK hR hZv hB b0 b1
  go_enter Try.func42, Try.ntmps42
  go_wp2_with (first
    | (refine wpList_alloc_is rfl 63 rfl Z hZ.out ?_)
    | (rw [hW0.out]; (with_reducible show wpList _ _ _ (⟨_, .load _ _, _, _, _, _⟩ :: _) _ _); refine wpList_load_row rfl 63 _ rfl w.heap.size rfl 63 V (0, 0) _ Q0.out Try.underlying63 rfl HVi.out ?_)
    | ((with_reducible show wpList _ _ _ (⟨_, .build _ _, _, _, _, _⟩ :: _) _ _); refine wpList_build_is rfl 63 _ rfl K (by exact HK.out) ?_)
    | (go_at_call 69; (with_reducible refine HC.out.mono ?_); rintro e w1 ⟨rfl, hb1⟩; have B1 := hide hb1; have K1 := hide (Q1.out.below hb1 (by omega)); have B2 := hide (HB.out.trans (hb1.mono (by omega))); clear hb1)
    | ((with_reducible show wpList _ _ _ (⟨_, .store _ _ _, _, _, _, _⟩ :: _) _ _); refine wpList_store_row rfl 63 _ _ rfl (w.heap.size + 1) rfl R rfl 63 _ K1.out HRi.out HZs.out HRo.out ?_))
  refine bodyPost_ret (v := .agg R) ?_ rfl ⟨rfl, ?_⟩
  · exact results_cell_row rfl _ _ (w.heap.size + 1) 63 R (0, 0) _ rfl (setRow_heap _ _ _ _ _ _ K1.out) Try.underlying63 rfl HRi.out
  · exact below_setRow B2.out (by omega) _
end Go.Proofs.Ytdeljodfanfbmaa
namespace Go.Proofs.Ytdeljodfanfbmaa
open Go.RowKit Go.Shelf
set_option linter.unusedVariables false
set_option linter.unusedSimpArgs false
attribute [local go_sem] Gives givesUpon
attribute [local irreducible] Gives

/-- the columns are done one by one -/
theorem col_next (row a : List (BitVec 8)) (h : a.length = 16) (j : Nat) (hj : j < 4) :
    splice ((half (colB row a) a (4 * j)).map c8) (4 * j) ((byC row ((a.drop (4 * j)).take 4)).map c8) = (half (colB row a) a (4 * (j + 1))).map c8 := by
  obtain ⟨x0, x1, x2, x3, x4, x5, x6, x7, x8, x9, x10, x11, x12, x13, x14, x15, rfl⟩ := sixteen a h
  rw [colB_four]
  rcases (by omega : j = 0 ∨ j = 1 ∨ j = 2 ∨ j = 3) with rfl | rfl | rfl | rfl <;> rfl
theorem col_get (row a : List (BitVec 8)) (h : a.length = 16) (j : Nat) (hj : j < 4) (i : Nat) (v : Value) (hv : ((((a.drop (4 * j)).take 4)).map c8)[i]? = some v) : (((half (colB row a) a (4 * j)).map c8))[4 * j + i]? = some v := by
  have hi : i < 4 := by have := (List.getElem?_eq_some_iff.1 hv).1; simp at this; omega
  obtain ⟨x0, x1, x2, x3, x4, x5, x6, x7, x8, x9, x10, x11, x12, x13, x14, x15, rfl⟩ := sixteen a h
  rw [colB_four]
  rcases (by omega : j = 0 ∨ j = 1 ∨ j = 2 ∨ j = 3) with rfl | rfl | rfl | rfl <;> rcases (by omega : i = 0 ∨ i = 1 ∨ i = 2 ∨ i = 3) with rfl | rfl | rfl | rfl <;> exact hv
/-- a copy whose answer is known -/
theorem wpList_copy_to {P : Program} {cur cs cur' : List Value} {off : Nat} (hsp : splice cur off cs = cur') {w : World} {ops : Array Oper} {rest : List Oper} {o : Oper} {a : Act} {Q : Exit → Act → World → Prop} (hgd : o.guard = none) (d s : Operand) (dT sT : TypeId)
    (ho : o.op = .call { callee := .builtin .copy, args := #[d, s], argTypes := #[dT, sT] }) (elem : TypeId) (hu : P.underlying dT = some (.slice elem)) (hsz : (P.info? elem).map (·.size) = some 1)
    (g dLen dCap : Nat) (ad : Addr) (sLen sCap : Nat) (hd : a.eval d = .slice (some ⟨g, off, none⟩) dLen dCap) (hs : a.eval s = .slice (some ad) sLen sCap)
    (t : TypeId) (hg : w.heap[g]? = some (.cells cur.toArray t (0, 0))) (hn : cs.length = Nat.min sLen dLen)
    (hsrc : ∀ j v, cs[j]? = some v → w.cell? (ad.add j) = some v) (hfit : off + cs.length ≤ cur.length) (h1 : ∀ v ∈ cs, v.oneCell' = true)
    (h : wpList P ops Q rest (a.put o.dst (goInt cs.length)) (w.setRow g cur'.toArray)) :
    wpList P ops Q (o :: rest) a w := by
  subst hsp
  exact wpList_copy_own hgd d s dT sT ho elem hu hsz g off dLen dCap ad sLen sCap hd hs cur.toArray t hg cs hn hsrc (by simpa using hfit) h1 (by simpa [splice] using h)
set_option maxRecDepth 100000 in
set_option maxHeartbeats 6400000 in
theorem ccolumn_any (F : FuncId) (hE : Enters Try.prog F) (row : List (BitVec 8)) (a : List (BitVec 8)) (V : Array Value) (hV : BVal a V) (w : World)
    (HF : ∀ col V W, CVal col V → Below w.heap.size w W → Calls Try.prog F #[.agg V] W fun e w' => e = .returned (.agg ((byC row col).map c8).toArray) ∧ Below W.heap.size W w') :
    Calls Try.prog 64 #[.agg V, .func (.func F) #[] #[]] w fun e w' => e = .returned (.agg ((colB row a).map c8).toArray) ∧ Below w.heap.size w w' := by
  obtain ⟨Z, hZ, hZv⟩ := zeroB
  obtain ⟨Z4, hZ4, hZ4v⟩ := zeroC
  obtain ⟨W0, hW0, sz, b0, b1, hB⟩ := blks2 w 46 46 V Z
  obtain ⟨X, hX⟩ : ∃ X, X = colB row a := ⟨_, rfl⟩
  have ka : a.length = 16 := hV.len
  have hXl : X.length = 16 := by rw [hX]; exact colB_len row a
  obtain ⟨R, hR⟩ := bVal X hXl
  have HN : Hid (∀ j, j < 4 → splice ((half X a (4 * j)).map c8) (4 * j) ((byC row ((a.drop (4 * j)).take 4)).map c8) = (half X a (4 * (j + 1))).map c8) := hide (by rw [hX]; exact col_next row a ka)
  have HG : Hid (∀ j, j < 4 → ∀ i v, ((((a.drop (4 * j)).take 4)).map c8)[i]? = some v → (((half X a (4 * j)).map c8))[4 * j + i]? = some v) := hide (by rw [hX]; exact col_get row a ka)
  have Q0 : Hid (Blk W0 w.heap.size 46 ((half X a 0).map c8).toArray) := hide (half_start hV b0)
  have Q1 := hide b1
  have HB := hide hB
  rw [← hX]
  replace hZ := hide hZ
  replace hZ4 := hide hZ4
  replace hR := hide hR
  replace hW0 := hide hW0
  replace hZv := hide hZv
  replace hZ4v := hide hZ4v
  replace ka := hide ka
  replace hXl := hide hXl
  replace HF := hide HF
  replace hE := hide hE
  clear b0 b1 hB hX hV sz
  go_enter Try.func64, Try.ntmps64
  go_wp2_with (refine wpList_alloc_is rfl 46 rfl Z hZ.out ?_)
  rw [hW0.out]
  clear hW0
  go_loopw [5] (fun v wr => ∃ j : Nat, j ≤ 4 ∧ v = .int .i64 ((4 * j : Nat) : Int) ∧ Hid (Blk wr w.heap.size 46 ((half X a (4 * j)).map c8).toArray) ∧
    Hid (Blk wr (w.heap.size + 1) 46 Z) ∧ Hid (Below w.heap.size w wr)) (fun v _ => 16 - (intOf v).toNat)
  case atStart => exact ⟨0, by omega, rfl, Q0, Q1, HB⟩
  case round =>
    obtain ⟨j, hj, rfl, P0, P1, HP⟩ := hrel
    clear Q0 Q1 HB
    by_cases hlt : j < 4
    · have hd : decide (((4 * j : Nat) : Int) < 16) = true := by simp; omega
      obtain ⟨col, hcol⟩ : ∃ col, col = (a.drop (4 * j)).take 4 := ⟨_, rfl⟩
      have hcl : col.length = 4 := by rw [hcol, List.length_take, List.length_drop, ka.out]; omega
      obtain ⟨C, hC⟩ := cVal col hcl
      have hN := HN.out j hlt
      have hG := HG.out j hlt
      rw [← hcol] at hN hG
      have HL : Hid (∀ i v, (col.map c8)[i]? = some v → wr.cell? ((⟨w.heap.size, 4 * j, none⟩ : Addr).add i) = some v) := hide fun i v hv => by
        rw [Addr.add_lit]
        exact (P0.out.cell _).trans (by rw [List.getElem?_toArray]; exact hG i v hv)
      have HC := hide (HF.out col C wr hC HP.out)
      obtain ⟨r, hr⟩ : ∃ r, r = byC row col := ⟨_, rfl⟩
      have hrl : r.length = 4 := by rw [hr]; exact byC_len _ _
      obtain ⟨R4, hR4⟩ := cVal r hrl
      rw [← hr] at hN
      rw [← hr, ← hR4.val] at HC
      have hen : (callFunc F #[.agg C]).run Try.prog wr = .ok (.enter F #[.agg C]) wr := hE.out _ _
      have HN1 := hide hN
      have HT : Hid (∀ W, Blk W w.heap.size 46 ((half X a (4 * j)).map c8).toArray → Blk W (w.heap.size + 1) 46 Z → Below w.heap.size w W → Blk (W.setRow w.heap.size ((half X a (4 * (j + 1))).map c8).toArray) w.heap.size 46 ((half X a (4 * (j + 1))).map c8).toArray ∧
          Blk (W.setRow w.heap.size ((half X a (4 * (j + 1))).map c8).toArray) (w.heap.size + 1) 46 Z ∧ Below w.heap.size w (W.setRow w.heap.size ((half X a (4 * (j + 1))).map c8).toArray)) := hide fun W h1 h2 h3 =>
        ⟨h1.setRow_ _, h2.setRow_far _ (by omega), below_setRow h3 (Nat.le_refl _) _⟩
      have HCv := hide hC.val
      have HCl : Hid ((Try.prog.info? 63).map (·.size) = some (col.map c8).length) := hide (by rw [List.length_map, hcl]; exact info_col)
      have H4i := hide hR4.info
      have H4o := hide hR4.one
      have H4z : Hid (Z4.size = R4.size) := hide (by rw [hZ4v.out.size, hR4.size])
      have H4v := hide hR4.val
      have H4l := hide hrl
      have hat : ∀ (n m : Nat) (A : Option Addr) (w : World), 4 ≤ n → (Instr.arrayAt 63 (.slice A n m)).run Try.prog w = .ok (.pointer A) w := fun n m A w h => run_arrayAt w 63 5 4 A n m Try.underlying63 h
      have hat4 := fun m A w => hat 4 m A w (Nat.le_refl _)
      clear hat hcol hcl hC hN hG hr hrl hR4
      rcases (by omega : j = 0 ∨ j = 1 ∨ j = 2 ∨ j = 3) with rfl | rfl | rfl | rfl
      all_goals
        simp only [Nat.reduceMul, Nat.reduceAdd, Nat.mul_zero] at HL HN1 P0
        go_wp2_with (first
          | ((with_reducible show wpList _ _ _ (⟨_, .load 63 _, _, _, _, _⟩ :: _) _ _); refine wpList_load_at rfl 63 _ rfl ⟨w.heap.size, _, none⟩ rfl (col.map c8) _ Try.underlying63 rfl HCl.out HL.out ?_; rw [← HCv.out])
          | ((with_reducible refine HC.out.mono ?_); rintro e w1 ⟨rfl, hb1⟩; have B1 := hide hb1; clear hb1)
          | ((with_reducible show wpList _ _ _ (⟨_, .alloc 63, _, _, _, _⟩ :: _) _ _); refine wpList_alloc_is rfl 63 rfl Z4 hZ4.out ?_; have K1 := hide (Blk.new w1 63 Z4); have B2 := hide (B1.out.alloc B1.out.size (.cells Z4 63)))
          | ((with_reducible show wpList _ _ _ (⟨_, .store 63 _ _, _, _, _, _⟩ :: _) _ _); refine wpList_store_row rfl 63 _ _ rfl w1.heap.size rfl R4 rfl 63 _ K1.out H4i.out H4z.out H4o.out ?_))
        have lp := P1.out.lt
        have l1 := B1.out.size
        have K3 := K1.out.setRow_ R4
        have B3 := below_setRow B2.out l1 R4
        (try simp only [Act.put, List.setIfInBounds_toArray, List.set_cons_zero, List.set_cons_succ])
        generalize (w1.alloc (.cells Z4 63)).setRow w1.heap.size R4 = W2 at *
        have e0 := P0.out.below B3 (by omega)
        have e1 := P1.out.below B3 (by omega)
        have B4 := HP.out.trans (B3.mono (by omega))
        have l2 := K3.lt
        replace K3 := hide K3
        replace e0 := hide e0
        replace e1 := hide e1
        replace B4 := hide B4
        clear B1 K1 B2 B3 P0 P1 HP HL HC hen
        apply wp_region_relT 3 (C := fun W => Below W2.heap.size W2 W) (M := fun W W' => Below W.heap.size W W') (ss := [_, _, _]) (by kernel_rfl) (by kernel_rfl) (by kernel_rfl) (by kernel_rfl) (Below.refl _ _).drew
        simp only [List.take_succ_cons, List.take_zero, List.drop_succ_cons, List.drop_zero]
        repeat (first
          | (apply relWalk_const (fun W => Below.refl _ _)
             · (intro W hC hF
                clear hF
                go_simp
                with_reducible exact rfl)
             (try simp only [Act.put, List.setIfInBounds_toArray, List.set_cons_zero, List.set_cons_succ])))
        apply relWalk_nil
        intro W hC hF
        clear hF
        have s0 := e0.out.below hC (by omega)
        have s1 := e1.out.below hC (by omega)
        have s3 := K3.out.below hC (by omega)
        have B5 := B4.out.trans (hC.mono (by omega))
        refine wpList_copy_to HN1.out rfl (.tmp 20) (.tmp 21) 51 51 rfl 5 Try.underlying51 (by kernel_rfl) w.heap.size _ _ ⟨w1.heap.size, 0, none⟩ 4 4 rfl rfl 46 s0 (by rw [List.length_map, H4l.out]; rfl) ?p1 (by rw [List.length_map, List.length_map, half_len X a _ 16 hXl.out ka.out (by omega), H4l.out]; omega) (oneCell_c8 r) ?_
        case p1 =>
          intro j v hv
          rw [Addr.add_lit, Nat.zero_add, s3.cell j, H4v.out, List.getElem?_toArray]
          exact hv
        obtain ⟨G0, G1, G2⟩ := HT.out W s0 s1 B5
        replace G0 := hide G0
        replace G1 := hide G1
        replace G2 := hide G2
        clear s0 s1 s3 B5 hC HT HN1 e0 e1 K3 B4
        go_wp2
        go_roundw
        case rel => exact ⟨_, hlt, rfl, G0, G1, G2⟩
        case measure => decide
    · obtain rfl : j = 4 := by omega
      have hd : decide (((4 * 4 : Nat) : Int) < 16) = false := by decide
      have hv := hR.out.val
      rw [show 4 * 4 = 16 from rfl, half_all X a 16 hXl.out ka.out, ← hv] at P0
      have HVR := hide hv
      have HI : Hid ((Try.prog.info? 46).map (·.size) = some R.size) := hide hR.out.info
      have HZs : Hid (Z.size = R.size) := hide (by rw [hR.out.size, hZv.out.size])
      have HO : Hid (R.all (·.oneCell') = true) := hide hR.out.one
      clear hv
      go_wp2_with (first
        | ((with_reducible show wpList _ _ _ (⟨_, .load _ _, _, _, _, _⟩ :: _) _ _); refine wpList_load_row rfl 46 _ rfl w.heap.size rfl 46 R (0, 0) _ P0.out Try.underlying46 rfl HI.out ?_)
        | ((with_reducible show wpList _ _ _ (⟨_, .store _ _ _, _, _, _, _⟩ :: _) _ _); refine wpList_store_row rfl 46 _ _ rfl (w.heap.size + 1) rfl R rfl 46 _ P1.out HI.out HZs.out HO.out ?_))
      refine bodyPost_ret (v := .agg R) ?_ rfl ⟨by rw [HVR.out], ?_⟩
      · exact results_cell_row rfl _ _ (w.heap.size + 1) 46 R (0, 0) _ rfl (setRow_heap _ _ _ _ _ _ P1.out) Try.underlying46 rfl HI.out
      · exact below_setRow HP.out (by omega) _
end Go.Proofs.Ytdeljodfanfbmaa
