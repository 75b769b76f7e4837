/- Package mac's Check; chapter 03's example. Condition: of at most 2^30 bytes. -/
import Derived.Test.YtdikknfdgpdenaaMacEqualFns
namespace Go.Proofs.Ytdikknfdgpdenaa
open Go.RowKit
set_option linter.unusedVariables false
set_option linter.unusedSimpArgs false
attribute [local go_sem] Gives givesUpon
attribute [local irreducible] Gives

theorem Blk.id8 {w : World} {g : Nat} {t : TypeId} {l : List (BitVec 8)} {R : Array Value} (h : Blk w g t R) (hR : IdVal l R) : Reads w w.heap.size 1 (some ⟨g, 0, none⟩) 32 (l.map c8) := by
  have hl : l.length = 32 := by have h1 := hR.size; have h2 := hR.val; rw [h2] at h1; simpa using h1
  rw [hR.val] at h
  have := h.row8
  rwa [hl] at this
set_option maxRecDepth 100000 in
set_option maxHeartbeats 800000 in
theorem check_any (A : Option Addr) (n c : Nat) (bs : List (BitVec 8)) (A2 : Option Addr) (n2 c2 : Nat) (tag : List (BitVec 8)) (A1 : Option Addr) (n1 c1 : Nat) (vs : List Value) (ps : List (List (BitVec 8))) (w : World) (hr : Reads w w.heap.size 1 A n (bs.map c8)) (hc : n ≤ c) (hn : n ≤ 1099511620000)
    (hr2 : Reads w w.heap.size 1 A2 n2 (tag.map c8)) (hn2 : n2 ≤ 1099511620000)
    (hr1 : Reads w w.heap.size 1 A1 n1 vs) (hrs : Rows8 w w.heap.size vs ps) (hn1 : n1 ≤ 1099511627776) (hb1 : ps.flatten.length ≤ 1099511620000) :
    Calls Try.prog 48 #[.slice A n c, .slice A2 n2 c2, .slice A1 n1 c1] w fun e w' => e = .returned (.bool (decide (macOf bs ps.flatten = tag))) ∧ Below w.heap.size w w' := by
  obtain ⟨Z, hZ, hZs⟩ := zeroId
  obtain ⟨R, hR⟩ := idVal (macOf bs ps.flatten) (macOf_len _ _)
  have HC : Hid (Calls Try.prog 46 #[.slice A n c, .slice A1 n1 c1] w fun e w' => e = .returned (.agg R) ∧ Below w.heap.size w w') := hide (by rw [hR.val]; exact macof_any A n c bs A1 n1 c1 vs ps w hr hc hn hr1 hrs hn1 hb1)
  have HT := hide hr2
  obtain ⟨M, hM⟩ : ∃ M, M = macOf bs ps.flatten := ⟨_, rfl⟩
  have HD : Hid (decide (macOf bs ps.flatten = tag) = decide (M = tag)) := hide (by rw [hM])
  rw [← hM] at hR
  replace hR := hide hR
  replace hZ := hide hZ
  replace hZs := hide hZs
  clear hM hr hr1 hr2 hrs
  go_enter Try.func48, Try.ntmps48
  go_wp2_with (first
    | (go_at_call 46; (with_reducible refine HC.out.mono ?_); rintro e w1 ⟨rfl, hb1⟩; have B1 := hide hb1; clear hb1)
    | ((with_reducible show wpList _ _ _ (⟨_, .alloc 44, _, _, _, _⟩ :: _) _ _); refine wpList_alloc_is rfl 44 rfl Z hZ.out ?_; have K1 := hide (Blk.new w1 44 Z); have B2 := hide (B1.out.alloc B1.out.size (.cells Z 44)))
    | ((with_reducible show wpList _ _ _ (⟨_, .store _ _ _, _, _, _, _⟩ :: _) _ _); refine wpList_store_row rfl 44 _ _ rfl w1.heap.size rfl R rfl 44 _ K1.out hR.out.info (hZs.out.trans hR.out.size.symm) hR.out.one ?_; have K2 := hide (K1.out.setRow_ R); have B3 := hide (below_setRow B2.out B1.out.size R); generalize (w1.alloc (.cells Z 44)).setRow w1.heap.size R = w2 at *)
    | (go_at_call 50; (with_reducible refine (equal_any (some ⟨w1.heap.size, 0, none⟩) 32 32 M A2 n2 c2 tag w2 (K2.out.id8 hR.out) ((HT.out.below B3.out).more B3.out.size) (by omega) (by omega)).mono ?_); rintro e w3 ⟨rfl, hb3⟩; have B4 := hide (below_next B3.out hb3); clear hb3))
  go_ret
  exact ⟨by rw [HD.out]; rfl, B4.out⟩
theorem no_rows (w : World) : Reads w w.heap.size 1 none 0 [] ∧ Rows8 w w.heap.size [] [] := ⟨Reads.none_, rfl, fun i v p hv => by simp at hv⟩
/-- what holds all along a region in which a row of 32 bytes is read -/
def IdI (w : World) (g : Nat) (R : Array Value) (W : World) : Prop := Below w.heap.size w W ∧ Blk W g 44 R
theorem IdI.below {w W W' : World} {g : Nat} {R : Array Value} (h : IdI w g R W) (hb : Below W.heap.size W W') : IdI w g R W' := ⟨below_next h.1 hb, h.2.below hb h.2.lt⟩
set_option maxRecDepth 100000 in
set_option maxHeartbeats 800000 in
theorem alive03_any (w : World) : Calls Try.prog 45 #[] w fun e w' => e = .returned (.bool true) ∧ Below w.heap.size w w' := by
  obtain ⟨Z, hZ, hZs⟩ := zeroId
  obtain ⟨R, hR⟩ := idVal (macOf [] []) (macOf_len _ _)
  obtain ⟨M, hM⟩ : ∃ M, M = macOf [] [] := ⟨_, rfl⟩
  have hMl : M.length = 32 := by rw [hM]; exact macOf_len _ _
  have HOF : Hid (∀ w, Calls Try.prog 46 #[.slice none 0 0, .slice none 0 0] w fun e w' => e = .returned (.agg R) ∧ Below w.heap.size w w') := hide (fun w => by rw [hR.val]; exact macof_any none 0 0 [] none 0 0 [] [] w Reads.none_ (by omega) (by omega) (no_rows w).1 (no_rows w).2 (by omega) (by simp))
  have HRO : Hid (∀ w, Calls Try.prog 47 #[.slice none 0 0, .slice none 0 0] w fun e w' => e = .returned (.agg R) ∧ Below w.heap.size w w') := hide (fun w => by rw [hR.val]; exact refof_any none 0 0 [] none 0 0 [] w Reads.none_ (by omega) Reads.none_ (by omega))
  have HCK : Hid (∀ g w, Blk w g 44 R → Calls Try.prog 48 #[.slice none 0 0, .slice (some ⟨g, 0, none⟩) 32 32, .slice none 0 0] w fun e w' => e = .returned (.bool true) ∧ Below w.heap.size w w') := hide (fun g w hb => by
    have h := check_any none 0 0 [] (some ⟨g, 0, none⟩) 32 32 (macOf [] []) none 0 0 [] [] w Reads.none_ (by omega) (by omega) (hb.id8 hR) (by omega) (no_rows w).1 (no_rows w).2 (by omega) (by simp)
    rw [List.flatten_nil, decide_eq_true rfl] at h
    exact h)
  have HCN : Hid (∀ w, Calls Try.prog 48 #[.slice none 0 0, .slice none 0 0, .slice none 0 0] w fun e w' => e = .returned (.bool false) ∧ Below w.heap.size w w') := hide (fun w => by
    have h := check_any none 0 0 [] none 0 0 [] none 0 0 [] [] w Reads.none_ (by omega) (by omega) Reads.none_ (by omega) (no_rows w).1 (no_rows w).2 (by omega) (by simp)
    rw [List.flatten_nil, decide_eq_false (by rw [← hM]; intro h; rw [h] at hMl; simp at hMl)] at h
    exact h)
  have HEQ : Hid (∀ g w, Calls Try.prog 50 #[.slice none 0 0, .slice (some ⟨g, 0, none⟩) 0 0] w fun e w' => e = .returned (.bool true) ∧ Below w.heap.size w w') := hide (fun g w => by
    have h := equal_any none 0 0 [] (some ⟨g, 0, none⟩) 0 0 [] w Reads.none_ ⟨by simp, fun h => absurd h (by omega)⟩ (by omega) (by omega)
    exact h)
  have hee : ∀ w : World, (Op.equalIn 10000 44 (.agg R) (.agg R)).run Try.prog w = .ok true w := fun w => by
    have h := eq_id (macOf [] []) (macOf [] []) (macOf_len _ _) (macOf_len _ _) w
    rw [hR.val, h]; simp
  replace hR := hide hR
  replace hZ := hide hZ
  replace hZs := hide hZs
  clear hM hMl
  go_enter Try.func45, Try.ntmps45
  go_wp2_with (first
    | (go_at_call 46; (with_reducible refine (HOF.out w).mono ?_); rintro e w1 ⟨rfl, hb1⟩; have B1 := hide hb1; clear hb1)
    | ((with_reducible show wpList _ _ _ (⟨_, .alloc 44, _, _, _, _⟩ :: _) _ _); refine wpList_alloc_is rfl 44 rfl Z hZ.out ?_; have K1 := hide (Blk.new w1 44 Z); have B2 := hide (B1.out.alloc B1.out.size (.cells Z 44)))
    | ((with_reducible show wpList _ _ _ (⟨_, .store _ _ _, _, _, _, _⟩ :: _) _ _); refine wpList_store_row rfl 44 _ _ rfl w1.heap.size rfl R rfl 44 _ K1.out hR.out.info (hZs.out.trans hR.out.size.symm) hR.out.one ?_))
  have K2 := hide (K1.out.setRow_ R)
  have B3 := hide (below_setRow B2.out B1.out.size R)
  generalize (w1.alloc (.cells Z 44)).setRow w1.heap.size R = w2 at *
  clear K1 B2 HOF
  apply wp_region_stage (hv := [1, 5, 8, 12, 13]) (I := IdI w w1.heap.size R) (C := fun W => True) (ss := [_, _, _, _, _, _, _, _, _, _, _, _, _, _, _, _]) (by kernel_rfl) (by kernel_rfl) (by kernel_rfl) (by kernel_rfl) ⟨B3.out.drew, K2.out.drew⟩ trivial
  apply stWalk_light
  · rfl
  · intro W hI
    rw [if_pos (wanted_none _ rfl)]
    refine gives_load_row 44 _ rfl w1.heap.size rfl 44 R (0, 0) _ hI.2 Try.underlying44 rfl hR.out.info ⟨rfl, rfl⟩
  (try simp only [Act.put, List.setIfInBounds_toArray, List.set_cons_zero, List.set_cons_succ])
  apply stWalk_turnc (fun W => True)
  · rfl
  · go_simp
  · intro W hI hC
    go_simp
    refine (HRO.out W).mono ?_
    rintro e w3 ⟨rfl, hb3⟩
    exact ⟨_, rfl, rfl, hI.below hb3⟩
  (try simp only [Act.put, List.setIfInBounds_toArray, List.set_cons_zero, List.set_cons_succ])
  repeat (first
    | (apply stWalk_light
       · rfl
       · (intro W hI
          go_simp
          with_reducible exact rfl)
       (try simp only [Act.put, List.setIfInBounds_toArray, List.set_cons_zero, List.set_cons_succ])))
  apply stWalk_turnc (fun W => True)
  · rfl
  · go_simp
  · intro W hI hC
    go_simp
    refine (HCK.out _ W hI.2).mono ?_
    rintro e w3 ⟨rfl, hb3⟩
    exact ⟨_, rfl, rfl, hI.below hb3⟩
  (try simp only [Act.put, List.setIfInBounds_toArray, List.set_cons_zero, List.set_cons_succ])
  repeat (first
    | (apply stWalk_light
       · rfl
       · (intro W hI
          go_simp
          with_reducible exact rfl)
       (try simp only [Act.put, List.setIfInBounds_toArray, List.set_cons_zero, List.set_cons_succ])))
  apply stWalk_turnc (fun W => True)
  · rfl
  · go_simp
  · intro W hI hC
    go_simp
    refine (HCN.out W).mono ?_
    rintro e w3 ⟨rfl, hb3⟩
    exact ⟨_, rfl, rfl, hI.below hb3⟩
  (try simp only [Act.put, List.setIfInBounds_toArray, List.set_cons_zero, List.set_cons_succ])
  repeat (first
    | (apply stWalk_light
       · rfl
       · (intro W hI
          go_simp
          with_reducible exact rfl)
       (try simp only [Act.put, List.setIfInBounds_toArray, List.set_cons_zero, List.set_cons_succ])))
  refine stWalk_turn (fun v => ∃ p, v = .slice (some ⟨p, 0, none⟩) 0 0) (fun v W => True) (by rfl) ⟨_, 0, rfl⟩ (by go_simp) ?_ ?_
  · intro W hI hC
    have hI2 := hide (hI.below (((Below.refl W.heap.size W).alloc (Nat.le_refl _)) (.cells #[] 5)))
    go_simp
    exact hI2.out
  rintro v ⟨p, rfl⟩
  (try simp only [Act.put, List.setIfInBounds_toArray, List.set_cons_zero, List.set_cons_succ])
  apply stWalk_turnc (fun W => True)
  · rfl
  · go_simp
  · intro W hI hC
    go_simp
    refine (HEQ.out p W).mono ?_
    rintro e w3 ⟨rfl, hb3⟩
    exact ⟨_, rfl, rfl, hI.below hb3⟩
  (try simp only [Act.put, List.setIfInBounds_toArray, List.set_cons_zero, List.set_cons_succ])
  repeat (first
    | (apply stWalk_light
       · rfl
       · (intro W hI
          go_simp
          with_reducible exact rfl)
       (try simp only [Act.put, List.setIfInBounds_toArray, List.set_cons_zero, List.set_cons_succ])))
  refine stWalk_nil ?_
  intro W2 hI hC
  have S5 : Hid (Below w.heap.size w W2) := hide hI.1
  clear hI hC
  go_wp2_with fail
  go_ret
  exact ⟨rfl, S5.out⟩
end Go.Proofs.Ytdikknfdgpdenaa
