/- Chapter 06's reference: Mix. No condition. -/
import Derived.Test.YtdeljodfanfbmaaCipherDec
import Derived.Test.YtdeljodfanfbmaaFieldRefs
namespace Go.Proofs.Ytdeljodfanfbmaa
open Go.RowKit Go.Shelf
set_option linter.unusedVariables false
set_option linter.unusedSimpArgs false
attribute [local go_sem] Gives givesUpon
attribute [local irreducible] Gives

theorem own_under {w w' : World} {base n : Nat} {e : TypeId} {v : Value} {xs : List Value} (h : w.ownsRow base e 1 v n xs) (hb : Below w.heap.size w w') : w'.ownsRow base e 1 v n xs := by
  refine ⟨h.1, ?_⟩
  rcases h.2 with h | ⟨g, cap, cur, h1, h2, h3⟩
  · exact .inl h
  · refine .inr ⟨g, cap, cur, h1, h2, ?_⟩
    have hl := h3
    first
      | exact ⟨(hb.block g (by have := h3.1; exact Blk.lt this)).trans h3.1, h3.2⟩
      | exact (hb.block g (Blk.lt h3)).trans h3
theorem one8 (w : World) (x : BitVec 8) : Reads (w.alloc (.cells #[.int .u8 (x.toNat : Int)] 5)) (w.alloc (.cells #[.int .u8 (x.toNat : Int)] 5)).heap.size 1 (some ⟨w.heap.size, 0, none⟩) 1 ([x].map c8) := by
  have h := Reads.new w 5 #[c8 x]
  rw [show (w.alloc (.cells #[.int .u8 (x.toNat : Int)] 5)).heap.size = w.heap.size + 1 from by simp]
  exact h
theorem reftimes_8 (x y : BitVec 8) (w : World) : Calls Try.prog 16 #[c8 x, c8 y] w fun e w' => e = .returned (c8 (mul8 x y)) ∧ w = w' := by
  refine (reftimes_any x.toNat y.toNat x.isLt y.isLt w).mono ?_
  rintro e w' ⟨rfl, rfl⟩
  exact ⟨by rw [← mul8_nat], rfl⟩
/-- a mixed column's byte, as the document has it -/
def mixByte (col : List (BitVec 8)) (i : Nat) : BitVec 8 := mul8 2#8 (col.getD i 0) ^^^ mul8 3#8 (col.getD ((i + 1) % 4) 0) ^^^ col.getD ((i + 2) % 4) 0 ^^^ col.getD ((i + 3) % 4) 0
theorem mix_bytes (a b c d : BitVec 8) : byC mixRow [a, b, c, d] = (List.range 4).map (mixByte [a, b, c, d]) := by
  rw [mixRow, byC_four]
  simp only [dot, mul8_one, mul8_comm _ 2#8, mul8_comm _ 3#8]
  show _ = [mul8 2#8 a ^^^ mul8 3#8 b ^^^ c ^^^ d, mul8 2#8 b ^^^ mul8 3#8 c ^^^ d ^^^ a, mul8 2#8 c ^^^ mul8 3#8 d ^^^ a ^^^ b, mul8 2#8 d ^^^ mul8 3#8 a ^^^ b ^^^ c]
  congr 1
  congr 1
  · ac_rfl
  congr 1
  · ac_rfl
  congr 1
  ac_rfl
theorem mix_list (col : List (BitVec 8)) (h : col.length = 4) : byC mixRow col = (List.range 4).map (mixByte col) := by
  obtain ⟨a, b, c, d, rfl⟩ := four col h
  exact mix_bytes a b c d
theorem reads_cell8 {w : World} {B n k : Nat} {g o : Nat} {l : List (BitVec 8)} {x : BitVec 8} (h : Reads w B 1 (some ⟨g, o, none⟩) n (l.map c8)) (hx : l[k]? = some x) : w.cell? ⟨g, o + k, none⟩ = some (c8 x) := by
  have hk : k < l.length := (List.getElem?_eq_some_iff.1 hx).1
  obtain ⟨ad, e, _, hc⟩ := h.get hk
  cases e
  rw [Addr.add_lit] at hc
  rw [hc]
  congr 2
  exact (List.getElem?_eq_some_iff.1 hx).2
set_option maxRecDepth 100000 in
set_option maxHeartbeats 6400000 in
theorem refmix_any (A : Option Addr) (c : Nat) (col : List (BitVec 8)) (w : World) (hr : Reads w w.heap.size 1 A 4 (col.map c8)) :
    Calls Try.prog 41 #[.slice A 4 c] w fun e w' => ∃ A' c', e = .returned (.slice A' 4 c') ∧ w'.ownsRow w.heap.size 5 1 (.slice A' 4 c') 4 ((byC mixRow col).map c8) ∧ Below w.heap.size w w' := by
  obtain ⟨i0, hi0, hz0, hz1, hz2⟩ := info_parts info_u8
  have hl : col.length = 4 := hr.len
  obtain ⟨M, hM⟩ : ∃ M, M = (List.range 4).map (mixByte col) := ⟨_, rfl⟩
  rw [mix_list col hl, ← hM]
  obtain ⟨ga, oa, rfl, hga⟩ := reads_at hr (by omega)
  have hMs : ∀ i, i < 4 → M.take (i + 1) = M.take i ++ [mixByte col i] := by
    intro i hi
    rw [hM]
    rcases (by omega : i = 0 ∨ i = 1 ∨ i = 2 ∨ i = 3) with rfl | rfl | rfl | rfl <;> rfl
  have hMl : M.take 4 = M := by rw [hM]; rfl
  have HM := hide hM
  have HMs := hide hMs
  have HMl := hide hMl
  have HR := hide hr
  have HL := hide hl
  have HG := hide hga
  clear hM hMs hMl hr hl hga
  go_enter Try.func41, Try.ntmps41
  go_wp2
  go_loopw [3, 4] (fun v u wr => ∃ (i : Nat) (A : Option Addr) (c : Nat), i ≤ 4 ∧ v = .slice A i c ∧ u = .int .i64 (i : Int) ∧ Hid (wr.ownsRow w.heap.size 5 1 (.slice A i c) i ((M.take i).map c8)) ∧ Hid (Below w.heap.size w wr)) (fun _ u _ => 4 - (intOf u).toNat)
  case atStart => exact ⟨0, none, 0, by omega, rfl, rfl, hide (World.ownsRow_nil _ _ _ _), hide (Below.refl _ _)⟩
  case round =>
    obtain ⟨i, A3, c3, hi, rfl, rfl, ho, hB⟩ := hrel
    by_cases hlt : i < 4
    · have hd : decide ((i : Int) < 4) = true := by simp; omega
      have hgr := hB.out.size
      have hgw : ga < wr.heap.size := Nat.lt_of_lt_of_le HG.out hB.out.size
      have HRw := HR.out.below hB.out
      obtain ⟨x0, h0⟩ : ∃ x, col[i]? = some x := ⟨_, List.getElem?_eq_getElem (by rw [HL.out]; omega)⟩
      obtain ⟨x1, h1⟩ : ∃ x, col[(i + 1) % 4]? = some x := ⟨_, List.getElem?_eq_getElem (by rw [HL.out]; omega)⟩
      obtain ⟨x2, h2⟩ : ∃ x, col[(i + 2) % 4]? = some x := ⟨_, List.getElem?_eq_getElem (by rw [HL.out]; omega)⟩
      obtain ⟨x3, h3⟩ : ∃ x, col[(i + 3) % 4]? = some x := ⟨_, List.getElem?_eq_getElem (by rw [HL.out]; omega)⟩
      obtain ⟨m2, hm2⟩ : ∃ m, m = mul8 2#8 x0 := ⟨_, rfl⟩
      obtain ⟨m3, hm3⟩ : ∃ m, m = mul8 3#8 x1 := ⟨_, rfl⟩
      obtain ⟨z, hz⟩ : ∃ z, z = mixByte col i := ⟨_, rfl⟩
      have hval : bits .xor .u8 (bits .xor .u8 (bits .xor .u8 (m2.toNat : Int) (m3.toNat : Int)) (x2.toNat : Int)) (x3.toNat : Int) = (z.toNat : Int) := by
        rw [xor_u8, xor_u8, xor_u8, hz, mixByte, hm2, hm3]
        simp only [List.getD, h0, h1, h2, h3, Option.getD_some]
      have HC2 : Hid (∀ W, Calls Try.prog 16 #[.int .u8 2, c8 x0] W fun e w' => e = .returned (c8 m2) ∧ W = w') := hide fun W => by rw [hm2]; exact reftimes_8 2#8 x0 W
      have HC3 : Hid (∀ W, Calls Try.prog 16 #[.int .u8 3, c8 x1] W fun e w' => e = .returned (c8 m3) ∧ W = w') := hide fun W => by rw [hm3]; exact reftimes_8 3#8 x1 W
      have HXS : Hid (M.take (i + 1) = M.take i ++ [z]) := hide (by rw [hz]; exact HMs.out i hlt)
      have q0 := hide (reads_cell8 HRw h0)
      have q1 := hide (reads_cell8 HRw h1)
      have q2 := hide (reads_cell8 HRw h2)
      have q3 := hide (reads_cell8 HRw h3)
      clear h0 h1 h2 h3 hm2 hm3 hz HRw
      rcases (by omega : i = 0 ∨ i = 1 ∨ i = 2 ∨ i = 3) with rfl | rfl | rfl | rfl
      all_goals
        simp only [Nat.reduceAdd, Nat.reduceMod, Nat.zero_add, Nat.add_zero] at q0 q1 q2 q3
        go_wp2_with (apply wp_region_relT 29 (C := fun W => Below wr.heap.size wr W) (M := fun W W' => Below W.heap.size W W') (ss := [_, _, _, _, _, _, _, _, _, _, _, _, _, _, _, _, _, _, _, _, _, _, _, _, _, _, _, _, _]) (by kernel_rfl) (by kernel_rfl) (by kernel_rfl) (by kernel_rfl) (Below.refl _ _).drew)
        simp only [List.take_succ_cons, List.take_zero, List.drop_succ_cons, List.drop_zero]
        repeat (first
          | (apply relWalk_const (fun W => Below.refl _ _)
             · (intro W hC hF
                clear hF
                have f0 := ((hC.cell (p := ⟨ga, _, none⟩) hgw).trans q0.out)
                have f1 := ((hC.cell (p := ⟨ga, _, none⟩) hgw).trans q1.out)
                have f2 := ((hC.cell (p := ⟨ga, _, none⟩) hgw).trans q2.out)
                have f3 := ((hC.cell (p := ⟨ga, _, none⟩) hgw).trans q3.out)
                have ww := wraps64
                go_simp
                with_reducible exact rfl)
             (try simp only [Act.put, List.setIfInBounds_toArray, List.set_cons_zero, List.set_cons_succ])))
        apply relWalk_const (fun W => Below.refl _ _)
        · intro W hC hF
          rw [if_pos (wanted_none _ rfl)]
          refine gives_call rfl [.int .u8 2, c8 x0] rfl (enters_of Try.func16 (by kernel_rfl) rfl) ?_
          refine (HC2.out W).mono ?_
          rintro e w' ⟨rfl, rfl⟩
          exact ⟨_, rfl, rfl, rfl⟩
        (try simp only [Act.put, List.setIfInBounds_toArray, List.set_cons_zero, List.set_cons_succ])
        repeat (first
          | (apply relWalk_const (fun W => Below.refl _ _)
             · (intro W hC hF
                clear hF
                have f0 := ((hC.cell (p := ⟨ga, _, none⟩) hgw).trans q0.out)
                have f1 := ((hC.cell (p := ⟨ga, _, none⟩) hgw).trans q1.out)
                have f2 := ((hC.cell (p := ⟨ga, _, none⟩) hgw).trans q2.out)
                have f3 := ((hC.cell (p := ⟨ga, _, none⟩) hgw).trans q3.out)
                have ww := wraps64
                go_simp
                with_reducible exact rfl)
             (try simp only [Act.put, List.setIfInBounds_toArray, List.set_cons_zero, List.set_cons_succ])))
        apply relWalk_const (fun W => Below.refl _ _)
        · intro W hC hF
          rw [if_pos (wanted_none _ rfl)]
          refine gives_call rfl [.int .u8 3, c8 x1] rfl (enters_of Try.func16 (by kernel_rfl) rfl) ?_
          refine (HC3.out W).mono ?_
          rintro e w' ⟨rfl, rfl⟩
          exact ⟨_, rfl, rfl, rfl⟩
        (try simp only [Act.put, List.setIfInBounds_toArray, List.set_cons_zero, List.set_cons_succ])
        repeat (first
          | (apply relWalk_const (fun W => Below.refl _ _)
             · (intro W hC hF
                clear hF
                have f0 := ((hC.cell (p := ⟨ga, _, none⟩) hgw).trans q0.out)
                have f1 := ((hC.cell (p := ⟨ga, _, none⟩) hgw).trans q1.out)
                have f2 := ((hC.cell (p := ⟨ga, _, none⟩) hgw).trans q2.out)
                have f3 := ((hC.cell (p := ⟨ga, _, none⟩) hgw).trans q3.out)
                have ww := wraps64
                go_simp
                with_reducible exact rfl)
             (try simp only [Act.put, List.setIfInBounds_toArray, List.set_cons_zero, List.set_cons_succ])))
        refine relWalk_rel (fun v => ∃ p, v = .slice (some ⟨p, 0, none⟩) 1 1) (SliceOf8 1 [z]) ⟨_, 0, rfl⟩ (fun v w w' hb h => SliceOf8.later v w w' hb h) (wanted_none _ rfl) ?_ ?_
        · intro W hC hF
          go_simp
          exact ⟨⟨rfl, one8 W z⟩, hC.alloc hC.size _, (Below.refl _ _).alloc (Nat.le_refl _) _⟩
        rintro v' ⟨p, rfl⟩
        (try simp only [Act.put, List.setIfInBounds_toArray, List.set_cons_zero, List.set_cons_succ])
        apply relWalk_nil
        intro W hC hF
        have r4 := hF.1.2
        clear hF
        have HO2 := hide (own_under ho.out hC)
        have HB2 := hide (hB.out.trans (hC.mono hgr))
        have HGR : Hid (w.heap.size ≤ W.heap.size) := hide HB2.out.size
        have HR4 := hide r4
        clear r4 ho hB hC q0 q1 q2 q3
        go_wp2_with (at_builtin; refine wpList_append_any _ rfl (.tmp 9) (.tmp 37) 51 rfl w.heap.size 5 i0 _ 1 1 Try.underlying51 hi0 hz0 hz1 hz2 rfl (by omega) _ _ _ rfl HO2.out _ _ 1 1 _ rfl HR4.out (oneCell_c8 _) (by simp only [maxLen]; omega) (by omega) HGR.out ?_; intro v5 W5 own5 grow5 _; have b5 := below_appended HB2.out HGR.out HO2.out (Nat.le_refl _) grow5; obtain ⟨A5, c5, rfl⟩ := own_slice own5; rw [← List.map_append, ← HXS.out] at own5; replace own5 := hide own5; replace b5 := hide b5; clear grow5)
        go_roundw
        case rel => exact ⟨_, A5, c5, hlt, rfl, int_succ _, own5, b5⟩
        case measure => decide
    · obtain rfl : i = 4 := by omega
      have hd : decide ((4 : Int) < 4) = false := by decide
      rw [HMl.out] at ho
      go_wp2
      go_ret
      exact ⟨A3, c3, rfl, ho.out, hB.out⟩
end Go.Proofs.Ytdeljodfanfbmaa
