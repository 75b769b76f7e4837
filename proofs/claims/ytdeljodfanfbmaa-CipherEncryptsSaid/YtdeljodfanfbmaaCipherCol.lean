/- Package cipher's blocks: each column by a function. No condition. -/
import Derived.Test.YtdeljodfanfbmaaCipherMix
import Derived.Laws.Cover3
import Derived.Laws.CopyOwn
namespace Go.Proofs.Ytdeljodfanfbmaa
open Go.RowKit Go.Shelf
set_option linter.unusedVariables false
set_option linter.unusedSimpArgs false
attribute [local go_sem] Gives givesUpon
attribute [local irreducible] Gives

/-- the columns are done one by one -/
theorem col_next (row a : List (BitVec 8)) (h : a.length = 16) (j : Nat) (hj : j < 4) :
    splice ((half (colB row a) a (4 * j)).map c8) (4 * j) ((byC row ((a.drop (4 * j)).take 4)).map c8) = (half (colB row a) a (4 * (j + 1))).map c8 := by
  obtain ⟨x0, x1, x2, x3, x4, x5, x6, x7, x8, x9, x10, x11, x12, x13, x14, x15, rfl⟩ := sixteen a h
  rw [colB_four]
  rcases (by omega : j = 0 ∨ j = 1 ∨ j = 2 ∨ j = 3) with rfl | rfl | rfl | rfl <;> rfl
theorem col_get (row a : List (BitVec 8)) (h : a.length = 16) (j : Nat) (hj : j < 4) (i : Nat) (v : Value) (hv : ((((a.drop (4 * j)).take 4)).map c8)[i]? = some v) : (((half (colB row a) a (4 * j)).map c8))[4 * j + i]? = some v := by
  have hi : i < 4 := by have := (List.getElem?_eq_some_iff.1 hv).1; simp at this; omega
  obtain ⟨x0, x1, x2, x3, x4, x5, x6, x7, x8, x9, x10, x11, x12, x13, x14, x15, rfl⟩ := sixteen a h
  rw [colB_four]
  rcases (by omega : j = 0 ∨ j = 1 ∨ j = 2 ∨ j = 3) with rfl | rfl | rfl | rfl <;> rcases (by omega : i = 0 ∨ i = 1 ∨ i = 2 ∨ i = 3) with rfl | rfl | rfl | rfl <;> exact hv
/-- a copy whose answer is known -/
theorem wpList_copy_to {P : Program} {cur cs cur' : List Value} {off : Nat} (hsp : splice cur off cs = cur') {w : World} {ops : Array Oper} {rest : List Oper} {o : Oper} {a : Act} {Q : Exit → Act → World → Prop} (hgd : o.guard = none) (d s : Operand) (dT sT : TypeId)
    (ho : o.op = .call { callee := .builtin .copy, args := #[d, s], argTypes := #[dT, sT] }) (elem : TypeId) (hu : P.underlying dT = some (.slice elem)) (hsz : (P.info? elem).map (·.size) = some 1)
    (g dLen dCap : Nat) (ad : Addr) (sLen sCap : Nat) (hd : a.eval d = .slice (some ⟨g, off, none⟩) dLen dCap) (hs : a.eval s = .slice (some ad) sLen sCap)
    (t : TypeId) (hg : w.heap[g]? = some (.cells cur.toArray t (0, 0))) (hn : cs.length = Nat.min sLen dLen)
    (hsrc : ∀ j v, cs[j]? = some v → w.cell? (ad.add j) = some v) (hfit : off + cs.length ≤ cur.length) (h1 : ∀ v ∈ cs, v.oneCell' = true)
    (h : wpList P ops Q rest (a.put o.dst (goInt cs.length)) (w.setRow g cur'.toArray)) :
    wpList P ops Q (o :: rest) a w := by
  subst hsp
  exact wpList_copy_own hgd d s dT sT ho elem hu hsz g off dLen dCap ad sLen sCap hd hs cur.toArray t hg cs hn hsrc (by simpa using hfit) h1 (by simpa [splice] using h)
set_option maxRecDepth 100000 in
set_option maxHeartbeats 6400000 in
theorem ccolumn_any (F : FuncId) (hE : Enters Try.prog F) (row : List (BitVec 8)) (a : List (BitVec 8)) (V : Array Value) (hV : BVal a V) (w : World)
    (HF : ∀ col V W, CVal col V → Below w.heap.size w W → Calls Try.prog F #[.agg V] W fun e w' => e = .returned (.agg ((byC row col).map c8).toArray) ∧ Below W.heap.size W w') :
    Calls Try.prog 64 #[.agg V, .func (.func F) #[] #[]] w fun e w' => e = .returned (.agg ((colB row a).map c8).toArray) ∧ Below w.heap.size w w' := by
  obtain ⟨Z, hZ, hZv⟩ := zeroB
  obtain ⟨Z4, hZ4, hZ4v⟩ := zeroC
  obtain ⟨W0, hW0, sz, b0, b1, hB⟩ := blks2 w 46 46 V Z
  obtain ⟨X, hX⟩ : ∃ X, X = colB row a := ⟨_, rfl⟩
  have ka : a.length = 16 := hV.len
  have hXl : X.length = 16 := by rw [hX]; exact colB_len row a
  obtain ⟨R, hR⟩ := bVal X hXl
  have HN : Hid (∀ j, j < 4 → splice ((half X a (4 * j)).map c8) (4 * j) ((byC row ((a.drop (4 * j)).take 4)).map c8) = (half X a (4 * (j + 1))).map c8) := hide (by rw [hX]; exact col_next row a ka)
  have HG : Hid (∀ j, j < 4 → ∀ i v, ((((a.drop (4 * j)).take 4)).map c8)[i]? = some v → (((half X a (4 * j)).map c8))[4 * j + i]? = some v) := hide (by rw [hX]; exact col_get row a ka)
  have Q0 : Hid (Blk W0 w.heap.size 46 ((half X a 0).map c8).toArray) := hide (half_start hV b0)
  have Q1 := hide b1
  have HB := hide hB
  rw [← hX]
  replace hZ := hide hZ
  replace hZ4 := hide hZ4
  replace hR := hide hR
  replace hW0 := hide hW0
  replace hZv := hide hZv
  replace hZ4v := hide hZ4v
  replace ka := hide ka
  replace hXl := hide hXl
  replace HF := hide HF
  replace hE := hide hE
  clear b0 b1 hB hX hV sz
  go_enter Try.func64, Try.ntmps64
  go_wp2_with (refine wpList_alloc_is rfl 46 rfl Z hZ.out ?_)
  rw [hW0.out]
  clear hW0
  go_loopw [5] (fun v wr => ∃ j : Nat, j ≤ 4 ∧ v = .int .i64 ((4 * j : Nat) : Int) ∧ Hid (Blk wr w.heap.size 46 ((half X a (4 * j)).map c8).toArray) ∧
    Hid (Blk wr (w.heap.size + 1) 46 Z) ∧ Hid (Below w.heap.size w wr)) (fun v _ => 16 - (intOf v).toNat)
  case atStart => exact ⟨0, by omega, rfl, Q0, Q1, HB⟩
  case round =>
    obtain ⟨j, hj, rfl, P0, P1, HP⟩ := hrel
    clear Q0 Q1 HB
    by_cases hlt : j < 4
    · have hd : decide (((4 * j : Nat) : Int) < 16) = true := by simp; omega
      obtain ⟨col, hcol⟩ : ∃ col, col = (a.drop (4 * j)).take 4 := ⟨_, rfl⟩
      have hcl : col.length = 4 := by rw [hcol, List.length_take, List.length_drop, ka.out]; omega
      obtain ⟨C, hC⟩ := cVal col hcl
      have hN := HN.out j hlt
      have hG := HG.out j hlt
      rw [← hcol] at hN hG
      have HL : Hid (∀ i v, (col.map c8)[i]? = some v → wr.cell? ((⟨w.heap.size, 4 * j, none⟩ : Addr).add i) = some v) := hide fun i v hv => by
        rw [Addr.add_lit]
        exact (P0.out.cell _).trans (by rw [List.getElem?_toArray]; exact hG i v hv)
      have HC := hide (HF.out col C wr hC HP.out)
      obtain ⟨r, hr⟩ : ∃ r, r = byC row col := ⟨_, rfl⟩
      have hrl : r.length = 4 := by rw [hr]; exact byC_len _ _
      obtain ⟨R4, hR4⟩ := cVal r hrl
      rw [← hr] at hN
      rw [← hr, ← hR4.val] at HC
      have hen : (callFunc F #[.agg C]).run Try.prog wr = .ok (.enter F #[.agg C]) wr := hE.out _ _
      have HN1 := hide hN
      have HT : Hid (∀ W, Blk W w.heap.size 46 ((half X a (4 * j)).map c8).toArray → Blk W (w.heap.size + 1) 46 Z → Below w.heap.size w W → Blk (W.setRow w.heap.size ((half X a (4 * (j + 1))).map c8).toArray) w.heap.size 46 ((half X a (4 * (j + 1))).map c8).toArray ∧
          Blk (W.setRow w.heap.size ((half X a (4 * (j + 1))).map c8).toArray) (w.heap.size + 1) 46 Z ∧ Below w.heap.size w (W.setRow w.heap.size ((half X a (4 * (j + 1))).map c8).toArray)) := hide fun W h1 h2 h3 =>
        ⟨h1.setRow_ _, h2.setRow_far _ (by omega), below_setRow h3 (Nat.le_refl _) _⟩
      have HCv := hide hC.val
      have HCl : Hid ((Try.prog.info? 63).map (·.size) = some (col.map c8).length) := hide (by rw [List.length_map, hcl]; exact info_col)
      have H4i := hide hR4.info
      have H4o := hide hR4.one
      have H4z : Hid (Z4.size = R4.size) := hide (by rw [hZ4v.out.size, hR4.size])
      have H4v := hide hR4.val
      have H4l := hide hrl
      have hat : ∀ (n m : Nat) (A : Option Addr) (w : World), 4 ≤ n → (Instr.arrayAt 63 (.slice A n m)).run Try.prog w = .ok (.pointer A) w := fun n m A w h => run_arrayAt w 63 5 4 A n m Try.underlying63 h
      have hat4 := fun m A w => hat 4 m A w (Nat.le_refl _)
      clear hat hcol hcl hC hN hG hr hrl hR4
      rcases (by omega : j = 0 ∨ j = 1 ∨ j = 2 ∨ j = 3) with rfl | rfl | rfl | rfl
      all_goals
        simp only [Nat.reduceMul, Nat.reduceAdd, Nat.mul_zero] at HL HN1 P0
        go_wp2_with (first
          | ((with_reducible show wpList _ _ _ (⟨_, .load 63 _, _, _, _, _⟩ :: _) _ _); refine wpList_load_at rfl 63 _ rfl ⟨w.heap.size, _, none⟩ rfl (col.map c8) _ Try.underlying63 rfl HCl.out HL.out ?_; rw [← HCv.out])
          | ((with_reducible refine HC.out.mono ?_); rintro e w1 ⟨rfl, hb1⟩; have B1 := hide hb1; clear hb1)
          | ((with_reducible show wpList _ _ _ (⟨_, .alloc 63, _, _, _, _⟩ :: _) _ _); refine wpList_alloc_is rfl 63 rfl Z4 hZ4.out ?_; have K1 := hide (Blk.new w1 63 Z4); have B2 := hide (B1.out.alloc B1.out.size (.cells Z4 63)))
          | ((with_reducible show wpList _ _ _ (⟨_, .store 63 _ _, _, _, _, _⟩ :: _) _ _); refine wpList_store_row rfl 63 _ _ rfl w1.heap.size rfl R4 rfl 63 _ K1.out H4i.out H4z.out H4o.out ?_))
        have lp := P1.out.lt
        have l1 := B1.out.size
        have K3 := K1.out.setRow_ R4
        have B3 := below_setRow B2.out l1 R4
        (try simp only [Act.put, List.setIfInBounds_toArray, List.set_cons_zero, List.set_cons_succ])
        generalize (w1.alloc (.cells Z4 63)).setRow w1.heap.size R4 = W2 at *
        have e0 := P0.out.below B3 (by omega)
        have e1 := P1.out.below B3 (by omega)
        have B4 := HP.out.trans (B3.mono (by omega))
        have l2 := K3.lt
        replace K3 := hide K3
        replace e0 := hide e0
        replace e1 := hide e1
        replace B4 := hide B4
        clear B1 K1 B2 B3 P0 P1 HP HL HC hen
        apply wp_region_relT 3 (C := fun W => Below W2.heap.size W2 W) (M := fun W W' => Below W.heap.size W W') (ss := [_, _, _]) (by kernel_rfl) (by kernel_rfl) (by kernel_rfl) (by kernel_rfl) (Below.refl _ _).drew
        simp only [List.take_succ_cons, List.take_zero, List.drop_succ_cons, List.drop_zero]
        repeat (first
          | (apply relWalk_const (fun W => Below.refl _ _)
             · (intro W hC hF
                clear hF
                go_simp
                with_reducible exact rfl)
             (try simp only [Act.put, List.setIfInBounds_toArray, List.set_cons_zero, List.set_cons_succ])))
        apply relWalk_nil
        intro W hC hF
        clear hF
        have s0 := e0.out.below hC (by omega)
        have s1 := e1.out.below hC (by omega)
        have s3 := K3.out.below hC (by omega)
        have B5 := B4.out.trans (hC.mono (by omega))
        refine wpList_copy_to HN1.out rfl (.tmp 20) (.tmp 21) 51 51 rfl 5 Try.underlying51 (by kernel_rfl) w.heap.size _ _ ⟨w1.heap.size, 0, none⟩ 4 4 rfl rfl 46 s0 (by rw [List.length_map, H4l.out]; rfl) ?p1 (by rw [List.length_map, List.length_map, half_len X a _ 16 hXl.out ka.out (by omega), H4l.out]; omega) (oneCell_c8 r) ?_
        case p1 =>
          intro j v hv
          rw [Addr.add_lit, Nat.zero_add, s3.cell j, H4v.out, List.getElem?_toArray]
          exact hv
        obtain ⟨G0, G1, G2⟩ := HT.out W s0 s1 B5
        replace G0 := hide G0
        replace G1 := hide G1
        replace G2 := hide G2
        clear s0 s1 s3 B5 hC HT HN1 e0 e1 K3 B4
        go_wp2
        go_roundw
        case rel => exact ⟨_, hlt, rfl, G0, G1, G2⟩
        case measure => decide
    · obtain rfl : j = 4 := by omega
      have hd : decide (((4 * 4 : Nat) : Int) < 16) = false := by decide
      have hv := hR.out.val
      rw [show 4 * 4 = 16 from rfl, half_all X a 16 hXl.out ka.out, ← hv] at P0
      have HVR := hide hv
      have HI : Hid ((Try.prog.info? 46).map (·.size) = some R.size) := hide hR.out.info
      have HZs : Hid (Z.size = R.size) := hide (by rw [hR.out.size, hZv.out.size])
      have HO : Hid (R.all (·.oneCell') = true) := hide hR.out.one
      clear hv
      go_wp2_with (first
        | ((with_reducible show wpList _ _ _ (⟨_, .load _ _, _, _, _, _⟩ :: _) _ _); refine wpList_load_row rfl 46 _ rfl w.heap.size rfl 46 R (0, 0) _ P0.out Try.underlying46 rfl HI.out ?_)
        | ((with_reducible show wpList _ _ _ (⟨_, .store _ _ _, _, _, _, _⟩ :: _) _ _); refine wpList_store_row rfl 46 _ _ rfl (w.heap.size + 1) rfl R rfl 46 _ P1.out HI.out HZs.out HO.out ?_))
      refine bodyPost_ret (v := .agg R) ?_ rfl ⟨by rw [HVR.out], ?_⟩
      · exact results_cell_row rfl _ _ (w.heap.size + 1) 46 R (0, 0) _ rfl (setRow_heap _ _ _ _ _ _ P1.out) Try.underlying46 rfl HI.out
      · exact below_setRow HP.out (by omega) _
end Go.Proofs.Ytdeljodfanfbmaa
