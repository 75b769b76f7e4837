/- The walk of the law MacTells: the tag of any parts by any key. Condition: at most 1048576 parts and bytes of them. -/
import Derived.Test.YtdikknfdgpdenaaMacAlive
namespace Go.Proofs.Ytdikknfdgpdenaa
open Go.RowKit
set_option linter.unusedVariables false
set_option linter.unusedSimpArgs false
attribute [local go_sem] Gives givesUpon
attribute [local irreducible] Gives

theorem reads_upto {w : World} {B n m : Nat} {A : Option Addr} {α : Type} {f : α → Value} {xs : List α} (h : Reads w B 1 A n (xs.map f)) (hm : m ≤ n) : Reads w B 1 A m ((xs.take m).map f) := by
  rw [List.map_take]
  refine ⟨by have := h.1; rw [List.length_take]; omega, fun hn => ?_⟩
  obtain ⟨ad, e, hb, hc⟩ := h.2 (by omega)
  refine ⟨ad, e, hb, fun j u hu => hc j u ?_⟩
  have hj : j < m := by
    have := (List.getElem?_eq_some_iff.1 hu).1
    rw [List.length_take] at this; omega
  rw [List.getElem?_take_of_lt hj] at hu
  exact hu
def IdI2 (w : World) (g h : Nat) (R : Array Value) (W : World) : Prop := Below w.heap.size w W ∧ Blk W g 44 R ∧ Blk W h 44 R
theorem IdI2.below {w W W' : World} {g h : Nat} {R : Array Value} (i : IdI2 w g h R W) (hb : Below W.heap.size W W') : IdI2 w g h R W' := ⟨below_next i.1 hb, i.2.1.below hb i.2.1.lt, i.2.2.below hb i.2.2.lt⟩
set_option maxRecDepth 100000 in
set_option maxHeartbeats 1600000 in
theorem macTells_walk (w : World) (A0 : Option Addr) (n0 c0 : Nat) (bs0 : List (BitVec 8)) (r0 : Reads w w.heap.size 1 A0 n0 (bs0.map c8)) (m0 : n0 ≤ 9223372036854775807) (k0 : n0 ≤ c0) (A1 : Option Addr) (n1 c1 : Nat) (bs1 : List (BitVec 8)) (r1 : Reads w w.heap.size 1 A1 n1 (bs1.map c8)) (m1 : n1 ≤ 9223372036854775807) (k1 : n1 ≤ c1)
    (A2 : Option Addr) (n2 c2 : Nat) (vs2 : List Value) (ps2 : List (List (BitVec 8))) (r2 : Reads w w.heap.size 1 A2 n2 vs2) (rs2 : Rows8 w w.heap.size vs2 ps2) (m2 : n2 ≤ 9223372036854775807) (k2 : n2 ≤ c2) (b2 : ps2.length + ps2.flatten.length ≤ 1048576) :
    Calls Try.prog 9 #[.slice A0 n0 c0, .slice A1 n1 c1, .slice A2 n2 c2] w fun e w' => e = .returned (.bool true) ∧ Below w.heap.size w w' := by
  have HA := hide (alive03_any w)
  by_cases h0 : n0 ≤ 200
  · by_cases h1 : n1 ≤ 100
    · have HFew : Hid (Calls Try.prog 31 #[.slice A2 n2 c2, .int .i64 300] w fun e w' => e = .returned (.bool (decide (((ps2.length + ps2.flatten.length : Nat) : Int) ≤ 300))) ∧ w = w') := hide (few_any A2 n2 c2 vs2 ps2 300 w r2 rs2 (by omega))
      by_cases hs : ps2.length + ps2.flatten.length ≤ 300
      · have hd : decide (((ps2.length + ps2.flatten.length : Nat) : Int) ≤ 300) = true := decide_eq_true (by omega)
        rw [hd] at HFew
        have hpl : ps2.length = n2 := by have := rs2.1; have := r2.1; omega
        obtain ⟨Z, hZ, hZs⟩ := zeroId
        obtain ⟨M, hM⟩ : ∃ M, M = macOf bs0 ps2.flatten := ⟨_, rfl⟩
        have hMl : M.length = 32 := by rw [hM]; exact macOf_len _ _
        obtain ⟨R, hR⟩ := idVal M hMl
        obtain ⟨d, hdd⟩ : ∃ d, d = decide (M = bs1) := ⟨_, rfl⟩
        have e31 : ¬ M = M.take 31 := fun h => by have := congrArg List.length h; rw [List.length_take, hMl] at this; omega
        have HOF : Hid (Calls Try.prog 46 #[.slice A0 n0 c0, .slice A2 n2 c2] w fun e w' => e = .returned (.agg R) ∧ Below w.heap.size w w') := hide (by rw [hR.val, hM]; exact macof_any A0 n0 c0 bs0 A2 n2 c2 vs2 ps2 w r0 k0 (by omega) r2 rs2 (by omega) (by omega))
        have HJ : Hid (∀ W, Below w.heap.size w W → Calls Try.prog 37 #[.slice A2 n2 c2] W fun e w' => ∃ A' m c', e = .returned (.slice A' m c') ∧ w'.ownsRow W.heap.size 5 1 (.slice A' m c') m (ps2.flatten.map c8) ∧ Below W.heap.size W w') := hide (fun W hb => join_any A2 n2 c2 vs2 ps2 W ((r2.below hb).more hb.size) ((rs2.below hb).more hb.size) (by omega) (by omega))
        have HRO : Hid (∀ A' m c' W, Below w.heap.size w W → Reads W W.heap.size 1 A' m (ps2.flatten.map c8) → Calls Try.prog 47 #[.slice A0 n0 c0, .slice A' m c'] W fun e w' => e = .returned (.agg R) ∧ Below W.heap.size W w') := hide (fun A' m c' W hb h => by
          have hm : ps2.flatten.length = m := h.len
          rw [hR.val, hM]; exact refof_any A0 n0 c0 bs0 A' m c' ps2.flatten W ((r0.below hb).more hb.size) (by omega) h (by omega))
        have CK : ∀ A' m c' tag W, Below w.heap.size w W → Reads W W.heap.size 1 A' m (tag.map c8) → m ≤ 1000 → Calls Try.prog 48 #[.slice A0 n0 c0, .slice A' m c', .slice A2 n2 c2] W fun e w' => e = .returned (.bool (decide (M = tag))) ∧ Below W.heap.size W w' := fun A' m c' tag W hb h hm => by
          rw [hM]; exact check_any A0 n0 c0 bs0 A' m c' tag A2 n2 c2 vs2 ps2 W ((r0.below hb).more hb.size) k0 (by omega) h (by omega) ((r2.below hb).more hb.size) ((rs2.below hb).more hb.size) (by omega) (by omega)
        have HC1 : Hid (∀ g W, Below w.heap.size w W → Blk W g 44 R → Calls Try.prog 48 #[.slice A0 n0 c0, .slice (some ⟨g, 0, none⟩) 32 32, .slice A2 n2 c2] W fun e w' => e = .returned (.bool true) ∧ Below W.heap.size W w') := hide (fun g W hb h => by
          have := CK (some ⟨g, 0, none⟩) 32 32 M W hb (h.id8 hR) (by omega)
          rw [decide_eq_true rfl] at this; exact this)
        have HC2 : Hid (∀ W, Below w.heap.size w W → Calls Try.prog 48 #[.slice A0 n0 c0, .slice A1 n1 c1, .slice A2 n2 c2] W fun e w' => e = .returned (.bool d) ∧ Below W.heap.size W w') := hide (fun W hb => by
          rw [hdd]; exact CK A1 n1 c1 bs1 W hb ((r1.below hb).more hb.size) (by omega))
        have HC3 : Hid (∀ g W, Below w.heap.size w W → Blk W g 44 R → Calls Try.prog 48 #[.slice A0 n0 c0, .slice (some ⟨g, 0, none⟩) 31 32, .slice A2 n2 c2] W fun e w' => e = .returned (.bool false) ∧ Below W.heap.size W w') := hide (fun g W hb h => by
          have := CK (some ⟨g, 0, none⟩) 31 32 (M.take 31) W hb (reads_upto (h.id8 hR) (by omega)) (by omega)
          rw [decide_eq_false e31] at this; exact this)
        have HSM : Hid (∀ g W, Below w.heap.size w W → Blk W g 44 R → Calls Try.prog 49 #[.slice A1 n1 c1, .slice (some ⟨g, 0, none⟩) 32 32] W fun e w' => e = .returned (.bool d) ∧ W = w') := hide (fun g W hb h => by
          have := same_any A1 n1 c1 bs1 (some ⟨g, 0, none⟩) 32 32 M W ((r1.below hb).more hb.size) (h.id8 hR)
          rw [show decide (bs1 = M) = d by rw [hdd, decide_eq_decide]; exact eq_comm] at this; exact this)
        have hee : ∀ w : World, (Op.equalIn 10000 44 (.agg R) (.agg R)).run Try.prog w = .ok true w := fun w => by
          have h := eq_id M M hMl hMl w
          rw [hR.val, h]; simp
        replace hR := hide hR
        replace hZ := hide hZ
        replace hZs := hide hZs
        clear CK hM hMl hdd e31 r0 r1 r2 rs2 hs hd hpl b2
        go_enter Try.func9, Try.ntmps9
        go_wp2_with (first
          | (go_at_call 31; (with_reducible refine HFew.out.mono ?_); rintro e w1 ⟨rfl, rfl⟩)
          | (go_at_call 46; (with_reducible refine HOF.out.mono ?_); rintro e w1 ⟨rfl, hb1⟩; have B1 := hide hb1; clear hb1)
          | (go_at_call 37; (with_reducible refine (HJ.out w1 B1.out).mono ?_); rintro e w2 ⟨A', m, c', rfl, own, hb2⟩; have O2 := hide (Reads.of_own own); have B2 := hide (below_next B1.out hb2); clear hb2 own)
          | (go_at_call 47; (with_reducible refine (HRO.out A' m c' w2 B2.out O2.out).mono ?_); rintro e w3 ⟨rfl, hb3⟩; have B3 := hide (below_next B2.out hb3); clear hb3)
          | ((with_reducible show wpList _ _ _ (⟨some 7, .alloc 44, _, _, _, _⟩ :: _) _ _); refine wpList_alloc_is rfl 44 rfl Z hZ.out ?_)
          | ((with_reducible show wpList _ _ _ (⟨some 8, .alloc 44, _, _, _, _⟩ :: _) _ _); refine wpList_alloc_is rfl 44 rfl Z hZ.out ?_; rw [show (w3.alloc (.cells Z 44)).heap.size = w3.heap.size + 1 from by simp]; obtain ⟨W4, e4, s4, j1, j2, bb⟩ := blks2 w3 44 44 Z Z; rw [e4]; have J1 := hide j1; have J2 := hide j2; have BB := hide (below_next B3.out bb); have SZ := hide s4; clear e4 s4 j1 j2 bb)
          | ((with_reducible show wpList _ _ _ (⟨none, .store _ (.tmp 7) _, _, _, _, _⟩ :: _) _ _); refine wpList_store_row rfl 44 _ _ rfl w3.heap.size rfl R rfl 44 _ J1.out hR.out.info (hZs.out.trans hR.out.size.symm) hR.out.one ?_; have J3 := hide (J1.out.setRow_ R); have J4 := hide (J2.out.setRow_far (k := w3.heap.size) R (by omega)); have BC := hide (below_setRow BB.out B3.out.size R); generalize W4.setRow w3.heap.size R = W5 at *)
          | ((with_reducible show wpList _ _ _ (⟨none, .store _ (.tmp 8) _, _, _, _, _⟩ :: _) _ _); (refine wpList_store_row rfl 44 _ _ rfl (w3.heap.size + 1) rfl R rfl 44 _ J4.out hR.out.info (hZs.out.trans hR.out.size.symm) hR.out.one ?_)))
        have J5 := hide (J4.out.setRow_ R)
        have J6 := hide (J3.out.setRow_far (k := w3.heap.size + 1) R (by omega))
        have BD := hide (below_setRow BC.out (Nat.le_succ_of_le B3.out.size) R)
        generalize W5.setRow (w3.heap.size + 1) R = W6 at *
        clear HFew HOF HJ HRO
        apply wp_region_stage (hv := [7, 13, 16, 23, 27]) (I := IdI2 w w3.heap.size (w3.heap.size + 1) R) (C := fun W => True) (ss := [_, _, _, _, _, _, _, _, _, _, _, _, _, _, _, _, _, _, _, _, _, _, _, _, _, _, _, _, _, _]) (by kernel_rfl) (by kernel_rfl) (by kernel_rfl) (by kernel_rfl) ⟨BD.out.drew, J6.out.drew, J5.out.drew⟩ trivial
        apply stWalk_light
        · rfl
        · intro W hI
          rw [if_pos (wanted_none _ rfl)]
          refine gives_load_row 44 _ rfl w3.heap.size rfl 44 R (0, 0) _ hI.2.1 Try.underlying44 rfl hR.out.info ⟨rfl, rfl⟩
        (try simp only [Act.put, List.setIfInBounds_toArray, List.set_cons_zero, List.set_cons_succ])
        apply stWalk_light
        · rfl
        · intro W hI
          rw [if_pos (wanted_none _ rfl)]
          refine gives_load_row 44 _ rfl (w3.heap.size + 1) rfl 44 R (0, 0) _ hI.2.2 Try.underlying44 rfl hR.out.info ⟨rfl, rfl⟩
        (try simp only [Act.put, List.setIfInBounds_toArray, List.set_cons_zero, List.set_cons_succ])
        repeat (first
          | (apply stWalk_light
             · rfl
             · (intro W hI
                go_simp
                with_reducible exact rfl)
             (try simp only [Act.put, List.setIfInBounds_toArray, List.set_cons_zero, List.set_cons_succ])))
        apply stWalk_turnc (fun W => True)
        · rfl
        · go_simp
        · intro W hI hC
          go_simp
          refine (HC1.out _ W hI.1 hI.2.1).mono ?_
          rintro e w3 ⟨rfl, hb3⟩
          exact ⟨_, rfl, rfl, hI.below hb3⟩
        (try simp only [Act.put, List.setIfInBounds_toArray, List.set_cons_zero, List.set_cons_succ])
        repeat (first
          | (apply stWalk_light
             · rfl
             · (intro W hI
                go_simp
                with_reducible exact rfl)
             (try simp only [Act.put, List.setIfInBounds_toArray, List.set_cons_zero, List.set_cons_succ])))
        apply stWalk_turnc (fun W => True)
        · rfl
        · go_simp
        · intro W hI hC
          go_simp
          refine (HC2.out W hI.1).mono ?_
          rintro e w3 ⟨rfl, hb3⟩
          exact ⟨_, rfl, rfl, hI.below hb3⟩
        (try simp only [Act.put, List.setIfInBounds_toArray, List.set_cons_zero, List.set_cons_succ])
        repeat (first
          | (apply stWalk_light
             · rfl
             · (intro W hI
                go_simp
                with_reducible exact rfl)
             (try simp only [Act.put, List.setIfInBounds_toArray, List.set_cons_zero, List.set_cons_succ])))
        apply stWalk_turnc (fun W => True)
        · rfl
        · go_simp
        · intro W hI hC
          go_simp
          refine (HSM.out _ W hI.1 hI.2.2).mono ?_
          rintro e w3 ⟨rfl, rfl⟩
          exact ⟨_, rfl, rfl, hI⟩
        (try simp only [Act.put, List.setIfInBounds_toArray, List.set_cons_zero, List.set_cons_succ])
        repeat (first
          | (apply stWalk_light
             · rfl
             · (intro W hI
                go_simp
                with_reducible exact rfl)
             (try simp only [Act.put, List.setIfInBounds_toArray, List.set_cons_zero, List.set_cons_succ])))
        apply stWalk_turnc (fun W => True)
        · rfl
        · go_simp
        · intro W hI hC
          go_simp
          refine (HC3.out _ W hI.1 hI.2.1).mono ?_
          rintro e w3 ⟨rfl, hb3⟩
          exact ⟨_, rfl, rfl, hI.below hb3⟩
        (try simp only [Act.put, List.setIfInBounds_toArray, List.set_cons_zero, List.set_cons_succ])
        repeat (first
          | (apply stWalk_light
             · rfl
             · (intro W hI
                go_simp
                with_reducible exact rfl)
             (try simp only [Act.put, List.setIfInBounds_toArray, List.set_cons_zero, List.set_cons_succ])))
        apply stWalk_turnc (fun W => True)
        · rfl
        · go_simp
        · intro W hI hC
          go_simp
          refine (alive03_any W).mono ?_
          rintro e w3 ⟨rfl, hb3⟩
          exact ⟨_, rfl, rfl, hI.below hb3⟩
        (try simp only [Act.put, List.setIfInBounds_toArray, List.set_cons_zero, List.set_cons_succ])
        repeat (first
          | (apply stWalk_light
             · rfl
             · (intro W hI
                go_simp
                with_reducible exact rfl)
             (try simp only [Act.put, List.setIfInBounds_toArray, List.set_cons_zero, List.set_cons_succ])))
        refine stWalk_nil ?_
        intro W2 hI hC
        have S5 : Hid (Below w.heap.size w W2) := hide hI.1
        clear hI hC
        go_wp2_with fail
        go_ret
        exact ⟨rfl, S5.out⟩
      · have hd : decide (((ps2.length + ps2.flatten.length : Nat) : Int) ≤ 300) = false := decide_eq_false (by omega)
        rw [hd] at HFew
        clear hd hs b2 r0 r1 r2 rs2
        go_enter Try.func9, Try.ntmps9
        go_wp2_with (first
          | (go_at_call 31; (with_reducible refine HFew.out.mono ?_); rintro e w1 ⟨rfl, rfl⟩)
          | (go_at_call 45; (with_reducible refine HA.out.mono ?_); rintro e w7 ⟨rfl, hb7⟩))
        go_ret
        exact ⟨rfl, hb7⟩
    · clear b2 r0 r1 r2 rs2
      go_enter Try.func9, Try.ntmps9
      go_wp2_with (go_at_call 45; (with_reducible refine HA.out.mono ?_); rintro e w7 ⟨rfl, hb7⟩)
      go_ret
      exact ⟨rfl, hb7⟩
  · clear b2 r0 r1 r2 rs2
    go_enter Try.func9, Try.ntmps9
    go_wp2_with (go_at_call 45; (with_reducible refine HA.out.mono ?_); rintro e w7 ⟨rfl, hb7⟩)
    go_ret
    exact ⟨rfl, hb7⟩
end Go.Proofs.Ytdikknfdgpdenaa
