/- Package cipher's blocks: xor. No condition. -/
import Derived.Test.YtdeljodfanfbmaaCipher
import Derived.Test.YtdeljodfanfbmaaRelStage
import Derived.Test.YtdeljodfanfbmaaRelTail
import Derived.Test.YtdeljodfanfbmaaStoreAt
import Derived.Test.YtdeljodfanfbmaaBlks
import Derived.Deep.CutRange
import Derived.Deep.DeepCutAuto
namespace Go.Proofs.Ytdeljodfanfbmaa
open Go.RowKit
set_option linter.unusedVariables false
set_option linter.unusedSimpArgs false
attribute [local go_sem] Gives givesUpon
attribute [local irreducible] Gives

/-! rows that turn from one list into another -/
def half {α : Type} (A B : List α) (n : Nat) : List α := A.take n ++ B.drop n
theorem half_zero {α : Type} (A B : List α) : half A B 0 = B := by simp [half]
theorem half_all {α : Type} (A B : List α) (n : Nat) (ha : A.length = n) (hb : B.length = n) : half A B n = A := by
  simp [half, List.take_of_length_le (Nat.le_of_eq ha), List.drop_eq_nil_of_le (Nat.le_of_eq hb)]
theorem half_len {α : Type} (A B : List α) (n m : Nat) (ha : A.length = m) (hb : B.length = m) (hn : n ≤ m) : (half A B n).length = m := by simp [half, ha, hb]; omega
theorem half_get {α : Type} (A B : List α) (n j : Nat) (ha : n ≤ A.length) (hj : n ≤ j) : (half A B n)[j]? = B[j]? := by
  rw [half, List.getElem?_append_right (by rw [List.length_take]; omega), List.length_take, Nat.min_eq_left ha, List.getElem?_drop]
  congr 1; omega
theorem half_set {α : Type} (A B : List α) (n : Nat) (x : α) (ha : A[n]? = some x) (hb : n < B.length) : (half A B n).set n x = half A B (n + 1) := by
  have hn : n < A.length := (List.getElem?_eq_some_iff.1 ha).1
  have hx : A[n] = x := (List.getElem?_eq_some_iff.1 ha).2
  rw [half, half, List.drop_eq_getElem_cons hb, List.set_append_right _ _ (by rw [List.length_take]; omega), List.length_take, Nat.min_eq_left (Nat.le_of_lt hn), Nat.sub_self, List.set_cons_zero,
    List.take_succ_eq_append_getElem hn, hx, List.append_assoc]
  rfl
theorem xor_u8 (x y : BitVec 8) : bits .xor .u8 (x.toNat : Int) (y.toNat : Int) = ((x ^^^ y).toNat : Int) := by
  rw [u8_xor_nat _ _ x.isLt y.isLt, BitVec.toNat_xor]
theorem oneCell_bytes (l : List (BitVec 8)) : (l.map c8).toArray.all (·.oneCell') = true := by
  rw [Array.all_eq_true_iff_forall_mem]
  intro u hu
  obtain ⟨x, _, rfl⟩ := List.mem_map.1 (by simpa using hu)
  rfl
theorem oneCell_c8 (l : List (BitVec 8)) : ∀ u ∈ l.map c8, u.oneCell' = true := by
  intro u hu
  obtain ⟨x, _, rfl⟩ := List.mem_map.1 hu
  rfl
theorem Blk.setRow_ {w : World} {g : Nat} {t : TypeId} {cs : Array Value} (h : Blk w g t cs) (c' : Array Value) : Blk (w.setRow g c') g t c' := setRow_heap w g cs c' t (0, 0) h
theorem Blk.setRow_far {w : World} {g k : Nat} {t : TypeId} {cs : Array Value} (h : Blk w g t cs) (c' : Array Value) (hk : g ≠ k) : Blk (w.setRow k c') g t cs := (setRow_other w k g c' hk).trans h
/-- a block, as a value -/
structure BVal (l : List (BitVec 8)) (R : Array Value) : Prop where
  val : R = (l.map c8).toArray
  len : l.length = 16
  size : R.size = 16
  info : (Try.prog.info? 46).map (·.size) = some R.size
  one : R.all (·.oneCell') = true
theorem info_block : (Try.prog.info? 46).map (·.size) = some 16 := by kernel_rfl
theorem bVal (l : List (BitVec 8)) (h : l.length = 16) : ∃ R, BVal l R := by
  refine ⟨(l.map c8).toArray, rfl, h, by simp [h], ?_, oneCell_bytes _⟩
  rw [show ((l.map c8).toArray).size = 16 by simp [h]]
  exact info_block
theorem zeroB : ∃ Z : Array Value, (Try.prog.info? 46).map (·.zero) = some (some (.agg Z)) ∧ BVal (List.replicate 16 0#8) Z :=
  ⟨((List.replicate 16 0#8).map c8).toArray, by kernel_rfl, by obtain ⟨R, h⟩ := bVal (List.replicate 16 0#8) (by simp); have e := h.val; subst e; exact h⟩
theorem blk_get {w : World} {g : Nat} {t : TypeId} {l : List (BitVec 8)} {x : BitVec 8} (h : Blk w g t (l.map c8).toArray) (k : Nat) (hx : l[k]? = some x) : w.cell? ⟨g, k, none⟩ = some (c8 x) := by
  refine (h.cell k).trans ?_
  rw [List.getElem?_toArray, List.getElem?_map, hx]; rfl
theorem Blk.set8 {w : World} {g p : Nat} {t : TypeId} {o : List (BitVec 8)} (h : Blk w g t (o.map c8).toArray) (x : BitVec 8) : Blk (w.setCell ⟨g, p, none⟩ (c8 x)) g t ((o.set p x).map c8).toArray := by
  have := h.set_ p (c8 x)
  rw [List.setIfInBounds_toArray, ← List.map_set] at this
  exact this
set_option maxRecDepth 100000 in
set_option maxHeartbeats 1600000 in
theorem cxor_any (a k : List (BitVec 8)) (V K : Array Value) (hV : BVal a V) (hK : BVal k K) (w : World) :
    Calls Try.prog 61 #[.agg V, .agg K] w fun e w' => e = .returned (.agg ((xorL a k).map c8).toArray) ∧ Below w.heap.size w w' := by
  obtain ⟨Z, hZ, hZv⟩ := zeroB
  obtain ⟨R, hR⟩ := bVal (xorL a k) (xorL_len a k 16 hV.len hK.len)
  obtain ⟨W0, hW0, sz, b0, b1, b2, hB⟩ := blks3 w 46 46 46 V K Z
  obtain ⟨X, hX⟩ : ∃ X, X = xorL a k := ⟨_, rfl⟩
  have hXl : X.length = 16 := by rw [hX]; exact xorL_len a k 16 hV.len hK.len
  have hXg : ∀ (n : Nat) (x y : BitVec 8), a[n]? = some x → k[n]? = some y → X[n]? = some (x ^^^ y) := by
    intro n x y h1 h2
    rw [hX, xorL, List.getElem?_zipWith, h1, h2]
  rw [← hX] at hR ⊢
  have ka : a.length = 16 := hV.len
  have kk : k.length = 16 := hK.len
  have Q0 : Hid (Blk W0 w.heap.size 46 ((half X a 0).map c8).toArray) := hide (by rw [half_zero, ← hV.val]; exact b0)
  have Q1 : Hid (Blk W0 (w.heap.size + 1) 46 (k.map c8).toArray) := hide (by rw [← hK.val]; exact b1)
  have Q2 := hide b2
  have HB := hide hB
  have HXG := hide hXg
  replace hZ := hide hZ
  replace hR := hide hR
  replace hW0 := hide hW0
  replace hZv := hide hZv
  replace ka := hide ka
  replace kk := hide kk
  replace hXl := hide hXl
  replace sz := hide sz
  clear b0 b1 b2 hB hX hXg hV hK
  go_enter Try.func61, Try.ntmps61
  go_wp2_with (refine wpList_alloc_is rfl 46 rfl Z hZ.out ?_)
  rw [hW0.out]
  have l0 := Q0.out.lt
  go_loopw [6] (fun i wr => ∃ n : Nat, n ≤ 16 ∧ i = .int .i64 (n : Int) ∧ Hid (Blk wr w.heap.size 46 ((half X a n).map c8).toArray) ∧ Hid (Blk wr (w.heap.size + 1) 46 (k.map c8).toArray) ∧
    Hid (Blk wr (w.heap.size + 2) 46 Z) ∧ Hid (Below w.heap.size w wr)) (fun i _ => 16 - (intOf i).toNat)
  case atStart => exact ⟨0, by omega, rfl, Q0, Q1, Q2, HB⟩
  case round =>
    obtain ⟨n, hn, rfl, P0, P1, P2, HP⟩ := hrel
    clear Q0 Q1 Q2 HB hW0 hZ sz
    by_cases hlt : n < 16
    · have hd : decide ((n : Int) < 16) = true := by simp; omega
      have hk0 : (0 : Int) ≤ (n : Int) := by omega
      have hk1 : (n : Int) < 16 := by omega
      obtain ⟨x, hx⟩ : ∃ x, a[n]? = some x := ⟨_, List.getElem?_eq_getElem (by rw [ka.out]; exact hlt)⟩
      obtain ⟨y, hy⟩ : ∃ y, k[n]? = some y := ⟨_, List.getElem?_eq_getElem (by rw [kk.out]; exact hlt)⟩
      have c0 : Hid (wr.cell? ⟨w.heap.size, n, none⟩ = some (c8 x)) := hide (blk_get P0.out n (by rw [half_get X a n n (by rw [hXl.out]; omega) (by omega)]; exact hx))
      have c1 : Hid (wr.cell? ⟨w.heap.size + 1, n, none⟩ = some (c8 y)) := hide (blk_get P1.out n hy)
      have hz := xor_u8 x y
      have HS : Hid ((half X a n).set n (x ^^^ y) = half X a (n + 1)) := hide (half_set X a n _ (HXG.out n x y hx hy) (by rw [ka.out]; exact hlt))
      have lp := P2.out.lt
      clear hx hy
      go_wp2_with (apply wp_region_relT 8 (C := fun W => Below wr.heap.size wr W) (M := fun W W' => Below W.heap.size W W') (ss := [_, _, _, _, _, _, _, _]) (by kernel_rfl) (by kernel_rfl) (by kernel_rfl) (by kernel_rfl) (Below.refl _ _).drew)
      simp only [List.take_succ_cons, List.take_zero, List.drop_succ_cons, List.drop_zero]
      repeat (first
        | (apply relWalk_const (fun W => Below.refl _ _)
           · (intro W hC hF
              clear hF
              have d0 := ((hC.cell (p := ⟨w.heap.size, n, none⟩) (show w.heap.size < _ by omega)).trans c0.out)
              have d1 := ((hC.cell (p := ⟨w.heap.size + 1, n, none⟩) (show w.heap.size + 1 < _ by omega)).trans c1.out)
              go_simp
              with_reducible exact rfl)
           (try simp only [Act.put, List.setIfInBounds_toArray, List.set_cons_zero, List.set_cons_succ])))
      apply relWalk_nil
      intro W hC hF
      clear hF
      have e0 := P0.out.below hC (by omega)
      have e1 := hide (P1.out.below hC (by omega))
      have e2 := hide (P2.out.below hC (by omega))
      have dc := ((hC.cell (p := ⟨w.heap.size, n, none⟩) (show w.heap.size < _ by omega)).trans c0.out)
      have df := e0.frozen n
      have e3 := e0.set8 (p := n) (x ^^^ y)
      rw [HS.out, show c8 (x ^^^ y) = .int .u8 ((x.toNat ^^^ y.toNat : Nat) : Int) by simp [c8]] at e3
      have HE0 := hide e3
      have HB2 := hide (HP.out.trans (hC.mono (by omega)))
      clear hz e0 e3 P0 P1 P2 HP hC HS c0 c1
      go_wp2_with fail
      go_roundw
      case rel => exact ⟨n + 1, hlt, int_succ n, HE0, hide (e1.out.far (by simp) _), hide (e2.out.far (by simp) _), hide (HB2.out.setCell (Nat.le_refl _) _)⟩
      case measure => simp [intOf]; omega
    · obtain rfl : n = 16 := by omega
      have hd : decide ((16 : Int) < 16) = false := by decide
      have hv := hR.out.val
      rw [half_all X a 16 hXl.out ka.out, ← hv] at P0
      have HV := hide hv
      have HI : Hid ((Try.prog.info? 46).map (·.size) = some R.size) := hide hR.out.info
      have HZs : Hid (Z.size = R.size) := hide (by rw [hR.out.size, hZv.out.size])
      have HO : Hid (R.all (·.oneCell') = true) := hide hR.out.one
      clear hv
      go_wp2_with (first
        | ((with_reducible show wpList _ _ _ (⟨_, .load _ _, _, _, _, _⟩ :: _) _ _); refine wpList_load_row rfl 46 _ rfl w.heap.size rfl 46 R (0, 0) _ P0.out Try.underlying46 rfl HI.out ?_)
        | ((with_reducible show wpList _ _ _ (⟨_, .store _ _ _, _, _, _, _⟩ :: _) _ _); refine wpList_store_row rfl 46 _ _ rfl (w.heap.size + 2) rfl R rfl 46 _ P2.out HI.out HZs.out HO.out ?_))
      refine bodyPost_ret (v := .agg R) ?_ rfl ⟨by rw [HV.out], ?_⟩
      · exact results_cell_row rfl _ _ (w.heap.size + 2) 46 R (0, 0) _ rfl (setRow_heap _ _ _ _ _ _ P2.out) Try.underlying46 rfl HI.out
      · exact below_setRow HP.out (by omega) _
end Go.Proofs.Ytdeljodfanfbmaa
