/- Chapter 06's reference: xor with a round key. No condition. -/
import Derived.Test.YtdeljodfanfbmaaCipherRefTab
import Derived.Test.YtdeljodfanfbmaaWRefBytes
namespace Go.Proofs.Ytdeljodfanfbmaa
open Go.RowKit
set_option linter.unusedVariables false
set_option linter.unusedSimpArgs false
attribute [local go_sem] Gives givesUpon
attribute [local irreducible] Gives

theorem xorL_get (a b : List (BitVec 8)) (n : Nat) (p q : BitVec 8) (h1 : a[n]? = some p) (h2 : b[n]? = some q) : (xorL a b)[n]? = some (p ^^^ q) := by rw [xorL, List.getElem?_zipWith, h1, h2]
theorem take_next {α : Type} (l : List α) (n : Nat) (x : α) (h : l[n]? = some x) : l.take (n + 1) = l.take n ++ [x] := by
  have hn : n < l.length := (List.getElem?_eq_some_iff.1 h).1
  rw [List.take_succ_eq_append_getElem hn, (List.getElem?_eq_some_iff.1 h).2]
/-- a row of one's own from a later block on is one from an earlier on -/
theorem own_more {w : World} {b1 b0 : Nat} {e : TypeId} {n : Nat} {v : Value} {xs : List Value} (h : w.ownsRow b1 e 1 v n xs) (hb : b0 ≤ b1) : w.ownsRow b0 e 1 v n xs := by
  refine ⟨h.1, ?_⟩
  rcases h.2 with h | ⟨g, cap, cur, h1, h2, h3⟩
  · exact .inl h
  · exact .inr ⟨g, cap, cur, h1, Nat.le_trans hb h2, h3⟩
set_option maxRecDepth 100000 in
set_option maxHeartbeats 3200000 in
theorem refxor06_any (AW AT AB : Option Addr) (cw ct cb : Nat) (ws : List (BitVec 32)) (b : List (BitVec 8)) (r : Nat) (hr14 : r ≤ 14) (w : World) (hw : Reads w w.heap.size 1 AW 60 (ws.map c32)) (hcw : 60 ≤ cw) (hb : Reads w w.heap.size 1 AB 16 (b.map c8)) :
    Calls Try.prog 65 #[.agg #[.slice AW 60 cw, .slice AT 256 ct], .int .i64 (r : Int), .slice AB 16 cb] w fun e w' => ∃ A' c', e = .returned (.slice A' 16 c') ∧ w'.ownsRow w.heap.size 5 1 (.slice A' 16 c') 16 ((xorL b (keyAt (bytesOf ws) r)).map c8) ∧ Below w.heap.size w w' := by
  obtain ⟨i0, hi0, hz0, hz1, hz2⟩ := info_parts info_u8
  have hwl : ws.length = 60 := hw.len
  have hbl : b.length = 16 := hb.len
  obtain ⟨gw, ow, rfl, hgw⟩ := reads_at hw (by omega)
  obtain ⟨gb, ob, rfl, hgb⟩ := reads_at hb (by omega)
  obtain ⟨kb, hkb⟩ : ∃ kb, kb = keyAt (bytesOf ws) r := ⟨_, rfl⟩
  have hkl : kb.length = 16 := by rw [hkb]; exact keyAt_len _ _ (by rw [bytesOf_length, hwl]) hr14
  obtain ⟨X, hX⟩ : ∃ X, X = xorL b kb := ⟨_, rfl⟩
  have hXl : X.length = 16 := by rw [hX]; exact xorL_len _ _ 16 hbl hkl
  have HXG : Hid (∀ n p q, b[n]? = some p → kb[n]? = some q → X[n]? = some (p ^^^ q)) := hide fun n p q h1 h2 => by rw [hX]; exact xorL_get b kb n p q h1 h2
  have HBA := hide ((Below.refl w.heap.size w).alloc (Nat.le_refl _) (.cells #[.slice (some ⟨gw, ow, none⟩) 60 cw, .slice AT 256 ct] 56))
  obtain ⟨W0, hW0⟩ : ∃ W0, W0 = w.alloc (.cells #[.slice (some ⟨gw, ow, none⟩) 60 cw, .slice AT 256 ct] 56) := ⟨_, rfl⟩
  have hcell : W0.cell? ⟨w.heap.size, 0, none⟩ = some (.slice (some ⟨gw, ow, none⟩) 60 cw) := by rw [hW0]; exact (Blk.new w _ _).cell 0
  rw [← hW0] at HBA
  have HC : Hid (∀ cc, Calls Try.prog 74 #[.slice (some ⟨gw, ow + 4 * r, none⟩) 4 cc] W0 fun e w' => ∃ A' c', e = .returned (.slice A' 16 c') ∧ Reads w' w'.heap.size 1 A' 16 (kb.map c8) ∧ Below W0.heap.size W0 w') := hide fun cc => by
    have h1 : WordsAt W0 gw ow ws := ⟨Nat.lt_of_lt_of_le hgw HBA.out.size, fun j x hx => reads_cell (hw.below HBA.out) hx⟩
    have h2 := refbytes_any (some ⟨gw, ow + 4 * r, none⟩) 4 cc ((ws.drop (4 * r)).take 4) W0 (h1.part (4 * r) (by omega)) (by omega)
    rw [key_part] at h2
    refine h2.mono ?_
    rintro e w' ⟨A', c', rfl, own, hb⟩
    exact ⟨A', c', rfl, by rw [hkb]; exact Reads.of_own own, hb⟩
  have HRB := hide hb
  rw [← hkb, ← hX]
  have r0 : (0 : Int) ≤ (r : Int) := by omega
  have r1 : (r : Int) ≤ 14 := by omega
  have f1 : 4 * (r : Int) + 4 ≤ (cw : Int) := by omega
  have f2 : ¬ cw = 4 * r := by omega
  have HW0 := hide hW0.symm
  replace hwl := hide hwl
  replace hbl := hide hbl
  replace hkl := hide hkl
  replace hXl := hide hXl
  replace hkb := hide hkb
  replace hX := hide hX
  clear hw hb hW0
  go_enter Try.func65, Try.ntmps65
  go_wp2_with fail
  rw [HW0.out]
  go_wp2_with fail
  refine (HC.out _).mono ?_
  rintro e w1 ⟨A1, c1, rfl, hk1, hb1⟩
  have HK1 := hide hk1
  have B1 := hide (HBA.out.trans (hb1.mono HBA.out.size))
  obtain ⟨gk, ok, rfl, hgk⟩ := reads_at HK1.out (by omega)
  clear hk1 hb1 hcell
  go_wp2_with fail
  go_loopw [8, 9] (fun v u wr => ∃ (i : Nat) (A : Option Addr) (c : Nat), i ≤ 16 ∧ v = .slice A i c ∧ u = .int .i64 (i : Int) ∧ Hid (wr.ownsRow w1.heap.size 5 1 (.slice A i c) i ((X.take i).map c8)) ∧ Hid (Below w1.heap.size w1 wr)) (fun _ u _ => 16 - (intOf u).toNat)
  case atStart => exact ⟨0, none, 0, by omega, rfl, rfl, hide (World.ownsRow_nil _ _ _ _), hide (Below.refl _ _)⟩
  case round =>
    obtain ⟨i, A3, c3, hi, rfl, rfl, ho, hB⟩ := hrel
    by_cases hlt : i < 16
    · have hd : decide ((i : Int) < 16) = true := by simp; omega
      have i0_ : (0 : Int) ≤ (i : Int) := by omega
      have i1_ : (i : Int) < 16 := by omega
      have hgr := hB.out.size
      have hgr1 := B1.out.size
      obtain ⟨p, hp⟩ : ∃ x, b[i]? = some x := ⟨_, List.getElem?_eq_getElem (by rw [hbl.out]; omega)⟩
      obtain ⟨q, hq⟩ : ∃ x, kb[i]? = some x := ⟨_, List.getElem?_eq_getElem (by rw [hkl.out]; omega)⟩
      have q0 := hide (reads_cell8 ((HRB.out.below B1.out).below (hB.out.mono hgr1)) hp)
      have q1 := hide (reads_cell8 (HK1.out.below hB.out) hq)
      obtain ⟨z, hz⟩ : ∃ z, z = p ^^^ q := ⟨_, rfl⟩
      have hval := xor_u8 p q
      rw [← hz] at hval
      have HXS : Hid (X.take (i + 1) = X.take i ++ [z]) := hide (take_next X i z (by rw [hz]; exact HXG.out i p q hp hq))
      have gb1 : gb < wr.heap.size := by omega
      have gk1 : gk < wr.heap.size := by omega
      clear hp hq hz
      go_wp2_with fail
      apply wp_region_relT 11 (C := fun W => Below wr.heap.size wr W) (M := fun W W' => Below W.heap.size W W') (ss := [_, _, _, _, _, _, _, _, _, _, _]) (by kernel_rfl) (by kernel_rfl) (by kernel_rfl) (by kernel_rfl) (Below.refl _ _).drew
      simp only [List.take_succ_cons, List.take_zero, List.drop_succ_cons, List.drop_zero]
      repeat (first
        | (apply relWalk_const (fun W => Below.refl _ _)
           · (intro W hC hF
              clear hF
              have f0 := ((hC.cell (p := ⟨gb, _, none⟩) gb1).trans q0.out)
              have f1 := ((hC.cell (p := ⟨gk, _, none⟩) gk1).trans q1.out)
              go_simp
              with_reducible exact rfl)
           (try simp only [Act.put, List.setIfInBounds_toArray, List.set_cons_zero, List.set_cons_succ])))
      refine relWalk_rel (fun v => ∃ p, v = .slice (some ⟨p, 0, none⟩) 1 1) (SliceOf8 1 [z]) ⟨_, 0, rfl⟩ (fun v w w' hb h => SliceOf8.later v w w' hb h) (wanted_none _ rfl) ?_ ?_
      · intro W hC hF
        go_simp
        exact ⟨⟨rfl, one8 W z⟩, hC.alloc hC.size _, (Below.refl _ _).alloc (Nat.le_refl _) _⟩
      rintro v' ⟨p', rfl⟩
      (try simp only [Act.put, List.setIfInBounds_toArray, List.set_cons_zero, List.set_cons_succ])
      apply relWalk_nil
      intro W hC hF
      have r4 := hF.1.2
      clear hF
      have HO2 := hide (own_under ho.out hC)
      have HB2 := hide (hB.out.trans (hC.mono hgr))
      have HGR : Hid (w1.heap.size ≤ W.heap.size) := hide HB2.out.size
      have HR4 := hide r4
      clear r4 ho hB hC q0 q1
      go_wp2_with (at_builtin; refine wpList_append_any _ rfl (.tmp 23) (.tmp 33) 51 rfl w1.heap.size 5 i0 _ 1 1 Try.underlying51 hi0 hz0 hz1 hz2 rfl (by omega) _ _ _ rfl HO2.out _ _ 1 1 _ rfl HR4.out (oneCell_c8 _) (by simp only [maxLen]; omega) (by omega) HGR.out ?_; intro v5 W5 own5 grow5 _; have b5 := below_appended HB2.out HGR.out HO2.out (Nat.le_refl _) grow5; obtain ⟨A5, c5, rfl⟩ := own_slice own5; rw [← List.map_append, ← HXS.out] at own5; replace own5 := hide own5; replace b5 := hide b5; clear grow5)
      go_roundw
      case rel => exact ⟨_, A5, c5, hlt, rfl, int_succ _, own5, b5⟩
      case measure => simp [intOf]; omega
    · obtain rfl : i = 16 := by omega
      have hd : decide ((16 : Int) < 16) = false := by decide
      rw [List.take_of_length_le (Nat.le_of_eq hXl.out)] at ho
      have HE := hide (B1.out.trans (hB.out.mono B1.out.size))
      have hww := B1.out.size
      go_wp2
      go_ret
      exact ⟨A3, c3, rfl, own_more ho.out hww, HE.out⟩
end Go.Proofs.Ytdeljodfanfbmaa
