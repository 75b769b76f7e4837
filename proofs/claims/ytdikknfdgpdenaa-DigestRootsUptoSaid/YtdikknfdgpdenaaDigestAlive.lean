/- Chapter 44's example. No condition. -/
import Derived.Test.YtdikknfdgpdenaaDigestFns
import Derived.Test.YtdikknfdgpdenaaMacAlive
namespace Go.Proofs.Ytdikknfdgpdenaa
open Go.RowKit
set_option linter.unusedVariables false
set_option linter.unusedSimpArgs false
attribute [local go_sem] Gives givesUpon
attribute [local irreducible] Gives

theorem item_78 : (itemD [7#8]).getD 0 0 ≠ (itemD [8#8]).getD 0 0 := by decide +kernel
theorem rows_7 (W : World) (x : BitVec 8) : Reads ((W.alloc (.cells #[.int .u8 (x.toNat : Int)] 5)).alloc (.cells #[.slice (some ⟨W.heap.size, 0, none⟩) 1 1] 29)) ((W.alloc (.cells #[.int .u8 (x.toNat : Int)] 5)).alloc (.cells #[.slice (some ⟨W.heap.size, 0, none⟩) 1 1] 29)).heap.size 1 (some ⟨W.heap.size + 1, 0, none⟩) 1 [.slice (some ⟨W.heap.size, 0, none⟩) 1 1] ∧
    Rows8 ((W.alloc (.cells #[.int .u8 (x.toNat : Int)] 5)).alloc (.cells #[.slice (some ⟨W.heap.size, 0, none⟩) 1 1] 29)) ((W.alloc (.cells #[.int .u8 (x.toNat : Int)] 5)).alloc (.cells #[.slice (some ⟨W.heap.size, 0, none⟩) 1 1] 29)).heap.size [.slice (some ⟨W.heap.size, 0, none⟩) 1 1] [[x]] := by
  obtain ⟨W1, hW1⟩ : ∃ W1, W1 = W.alloc (.cells #[.int .u8 (x.toNat : Int)] 5) := ⟨_, rfl⟩
  have r1 := reads_one W x
  have hs : W1.heap.size = W.heap.size + 1 := by rw [hW1]; simp
  rw [← hW1] at r1 ⊢
  have hb := (Below.refl W1.heap.size W1).alloc (Nat.le_refl _) (.cells #[.slice (some ⟨W.heap.size, 0, none⟩) 1 1] 29)
  refine ⟨?_, rfl, fun i v p hv hp => ?_⟩
  · rw [← hs]
    exact (Reads.new W1 29 #[.slice (some ⟨W.heap.size, 0, none⟩) 1 1]).more (by simp)
  · match i with
    | 0 => cases hv; cases hp; exact ⟨_, _, _, rfl, r1.later hb, Nat.le_refl _⟩
    | _ + 1 => simp at hv
theorem below_7 (W : World) (x : BitVec 8) : Below W.heap.size W ((W.alloc (.cells #[.int .u8 (x.toNat : Int)] 5)).alloc (.cells #[.slice (some ⟨W.heap.size, 0, none⟩) 1 1] 29)) := ((Below.refl _ W).alloc (Nat.le_refl _) _).alloc (by simp) _
set_option maxRecDepth 100000 in
set_option maxHeartbeats 1600000 in
theorem alive44_any (w : World) : Calls Try.prog 53 #[] w fun e w' => e = .returned (.bool true) ∧ Below w.heap.size w w' := by
  obtain ⟨Z, hZ, hZs⟩ := zeroId
  obtain ⟨R, hR⟩ := idVal (itemD [7#8]) (itemD_len _)
  have HRo : Hid (∀ W : World, Calls Try.prog 54 #[.slice (some ⟨W.heap.size + 1, 0, none⟩) 1 1] ((W.alloc (.cells #[.int .u8 7] 5)).alloc (.cells #[.slice (some ⟨W.heap.size, 0, none⟩) 1 1] 29)) fun e w' => e = .returned (.agg R) ∧ Below W.heap.size W w') := hide fun W => by
    have h := root44_any _ 1 1 _ _ _ (rows_7 W 7#8).1 (rows_7 W 7#8).2 (by omega) (by simp)
    rw [List.map_cons, List.map_nil, topD_one, ← hR.val] at h
    refine h.mono ?_
    rintro e w' ⟨rfl, hb⟩
    exact ⟨rfl, below_next (below_7 W 7#8) hb⟩
  have HPv : Hid (∀ W : World, Calls Try.prog 55 #[.int .i64 0, .slice (some ⟨W.heap.size + 1, 0, none⟩) 1 1] ((W.alloc (.cells #[.int .u8 7] 5)).alloc (.cells #[.slice (some ⟨W.heap.size, 0, none⟩) 1 1] 29)) fun e w' => ∃ A c, e = .returned (.tuple #[.slice A 0 c, .bool true]) ∧ Below W.heap.size W w') := hide fun W => by
    have h := prove44_any 0 _ 1 1 _ _ _ (rows_7 W 7#8).1 (rows_7 W 7#8).2 (by omega) (by simp)
    have e1 : provI 0 ([[7#8]].map itemD) = [] := by rw [provI, List.map_cons, List.map_nil, if_pos (by simp)]; exact proveD_end _ _ _ (by simp)
    rw [e1] at h
    refine h.mono ?_
    rintro e w' ⟨v, rfl, o⟩
    obtain ⟨A, c, rfl, _⟩ := o.slice
    exact ⟨A, c, rfl, below_next (below_7 W 7#8) o.below⟩
  have HIt : Hid (∀ (g : Nat) (W : World), Reads W W.heap.size 1 (some ⟨g, 0, none⟩) 1 ([7#8].map c8) → Calls Try.prog 75 #[.slice (some ⟨g, 0, none⟩) 1 1] W fun e w' => e = .returned (.agg R) ∧ Below W.heap.size W w') := hide fun g W h => by
    rw [hR.val]; exact refitem_any _ 1 1 _ W h (by omega)
  have HC7 : Hid (∀ (g : Nat) (W : World), Reads W W.heap.size 1 (some ⟨g, 0, none⟩) 1 ([7#8].map c8) → Calls Try.prog 59 #[.agg R, .slice (some ⟨g, 0, none⟩) 1 1, .int .i64 0, .int .i64 1, .slice none 0 0] W fun e w' => e = .returned (.bool true) ∧ Below W.heap.size W w') := hide fun g W h => by
    have k := check44_any (itemD [7#8]) [7#8] R (itemD_len _) hR _ 1 1 0 1 none 0 0 [] W h (by omega) (by omega) (by omega) Reads.none_ Ids.nil rfl (by omega) (by omega) (by omega)
    rw [show chkD (itemD [7#8]) [7#8] 0 1 [] = true by rw [chkD, if_pos (by omega), checkD_end _ _ _ _ _ (by decide)]; simp [okD]] at k
    exact k
  have HC8 : Hid (∀ (g : Nat) (W : World), Reads W W.heap.size 1 (some ⟨g, 0, none⟩) 1 ([8#8].map c8) → Calls Try.prog 59 #[.agg R, .slice (some ⟨g, 0, none⟩) 1 1, .int .i64 0, .int .i64 1, .slice none 0 0] W fun e w' => e = .returned (.bool false) ∧ Below W.heap.size W w') := hide fun g W h => by
    have k := check44_any (itemD [7#8]) [8#8] R (itemD_len _) hR _ 1 1 0 1 none 0 0 [] W h (by omega) (by omega) (by omega) Reads.none_ Ids.nil rfl (by omega) (by omega) (by omega)
    rw [show chkD (itemD [7#8]) [8#8] 0 1 [] = false by
      rw [chkD, if_pos (by omega), checkD_end _ _ _ _ _ (by decide), okD]
      exact decide_eq_false (fun e => item_78 (by rw [e]))] at k
    exact k
  have hee : ∀ w : World, (Op.equalIn 10000 44 (.agg R) (.agg R)).run Try.prog w = .ok true w := fun w => by
    have h := eq_id (itemD [7#8]) (itemD [7#8]) (itemD_len _) (itemD_len _) w
    rw [hR.val, h]; simp
  replace hR := hide hR
  replace hZ := hide hZ
  replace hZs := hide hZs
  go_enter Try.func53, Try.ntmps53
  go_upto_region 2 with (first
    | (go_at_call 54; (with_reducible refine (HRo.out w).mono ?_); rintro e w1 ⟨rfl, hb1⟩; have B1 := hide hb1; clear hb1)
    | ((with_reducible show wpList _ _ _ (⟨_, .alloc 44, _, _, _, _⟩ :: _) _ _); refine wpList_alloc_is rfl 44 rfl Z hZ.out ?_; have K1 := hide (Blk.new w1 44 Z); have B2 := hide (B1.out.alloc B1.out.size (.cells Z 44)))
    | ((with_reducible show wpList _ _ _ (⟨_, .store _ _ _, _, _, _, _⟩ :: _) _ _); refine wpList_store_row rfl 44 _ _ rfl w1.heap.size rfl R rfl 44 _ K1.out hR.out.info (hZs.out.trans hR.out.size.symm) hR.out.one ?_)
    | fail)
  have K2 := hide (K1.out.setRow_ R)
  have B3 := hide (below_setRow B2.out B1.out.size R)
  (try simp only [Act.put, List.setIfInBounds_toArray, List.set_cons_zero, List.set_cons_succ])
  generalize (w1.alloc (.cells Z 44)).setRow w1.heap.size R = w2 at *
  clear K1 B2 HRo
  go_upto_region 3 with (first
    | (go_at_call 55; (with_reducible refine (HPv.out w2).mono ?_); rintro e w3 ⟨A3, c3, rfl, hb3⟩; have B4 := hide (below_next B3.out hb3); have K3 := hide (K2.out.below hb3 K2.out.lt); clear hb3)
    | fail)
  apply wp_region_stage (hv := [1, 2, 14, 15, 19, 20]) (I := IdI w w1.heap.size R) (C := fun W => True) (ss := [_, _, _, _, _, _, _, _, _, _, _, _, _, _, _, _, _, _, _, _, _, _, _, _]) (by kernel_rfl) (by kernel_rfl) (by kernel_rfl) (by kernel_rfl) ⟨B4.out.drew, K3.out.drew⟩ trivial
  apply stWalk_light (c := .agg R)
  · rfl
  · intro W hI
    rw [if_pos]
    · exact gives_load_row 44 _ rfl w1.heap.size rfl 44 R (0, 0) _ hI.2 Try.underlying44 rfl hR.out.info ⟨rfl, rfl⟩
    · rfl
  (try simp only [Act.put, List.setIfInBounds_toArray, List.set_cons_zero, List.set_cons_succ])
  refine stWalk_turn (fun v => ∃ p, v = .slice (some ⟨p, 0, none⟩) 1 1) (fun v W => SliceOf8 1 [7#8] v W) (by rfl) ⟨_, 0, rfl⟩ (by go_simp) ?_ ?_
  · intro W hI hC
    have q1 := hide (hI.below ((Below.refl W.heap.size W).alloc (Nat.le_refl _) (.cells #[.int .u8 7] 5)))
    have q2 := hide (reads_one W 7#8)
    clear hC hI
    go_simp
    exact ⟨q1.out, rfl, q2.out⟩
  rintro v ⟨p, rfl⟩
  (try simp only [Act.put, List.setIfInBounds_toArray, List.set_cons_zero, List.set_cons_succ])
  apply stWalk_turnc (c := .agg R) (fun W => True)
  · rfl
  · rfl
  · intro W hI hC
    refine gives_call rfl [.slice (some ⟨p, 0, none⟩) 1 1] rfl (enters_of Try.func75 (by kernel_rfl) rfl) ?_
    refine (HIt.out p W hC.2).mono ?_
    rintro e w' ⟨rfl, hb⟩
    exact ⟨_, rfl, rfl, hI.below hb, trivial⟩
  (try simp only [Act.put, List.setIfInBounds_toArray, List.set_cons_zero, List.set_cons_succ])
  repeat (first
    | (apply stWalk_light
       · rfl
       · (intro W hI
          go_simp
          with_reducible exact rfl)
       (try simp only [Act.put, List.setIfInBounds_toArray, List.set_cons_zero, List.set_cons_succ])))
  apply stWalk_light (c := .agg R)
  · rfl
  · intro W hI
    rw [if_pos]
    · exact gives_load_row 44 _ rfl w1.heap.size rfl 44 R (0, 0) _ hI.2 Try.underlying44 rfl hR.out.info ⟨rfl, rfl⟩
    · rfl
  (try simp only [Act.put, List.setIfInBounds_toArray, List.set_cons_zero, List.set_cons_succ])
  refine stWalk_turn (fun v => ∃ p, v = .slice (some ⟨p, 0, none⟩) 1 1) (fun v W => SliceOf8 1 [7#8] v W) (by rfl) ⟨_, 0, rfl⟩ (by go_simp) ?_ ?_
  · intro W hI hC
    have q1 := hide (hI.below ((Below.refl W.heap.size W).alloc (Nat.le_refl _) (.cells #[.int .u8 7] 5)))
    have q2 := hide (reads_one W 7#8)
    clear hC hI
    go_simp
    exact ⟨q1.out, rfl, q2.out⟩
  rintro v ⟨p, rfl⟩
  (try simp only [Act.put, List.setIfInBounds_toArray, List.set_cons_zero, List.set_cons_succ])
  apply stWalk_turnc (c := .bool true) (fun W => True)
  · rfl
  · rfl
  · intro W hI hC
    refine gives_call rfl [.agg R, .slice (some ⟨p, 0, none⟩) 1 1, .int .i64 0, .int .i64 1, .slice none 0 0] rfl (enters_of Try.func59 (by kernel_rfl) rfl) ?_
    refine (HC7.out p W hC.2).mono ?_
    rintro e w' ⟨rfl, hb⟩
    exact ⟨_, rfl, rfl, hI.below hb, trivial⟩
  (try simp only [Act.put, List.setIfInBounds_toArray, List.set_cons_zero, List.set_cons_succ])
  repeat (first
    | (apply stWalk_light
       · rfl
       · (intro W hI
          go_simp
          with_reducible exact rfl)
       (try simp only [Act.put, List.setIfInBounds_toArray, List.set_cons_zero, List.set_cons_succ])))
  apply stWalk_light (c := .agg R)
  · rfl
  · intro W hI
    rw [if_pos]
    · exact gives_load_row 44 _ rfl w1.heap.size rfl 44 R (0, 0) _ hI.2 Try.underlying44 rfl hR.out.info ⟨rfl, rfl⟩
    · rfl
  (try simp only [Act.put, List.setIfInBounds_toArray, List.set_cons_zero, List.set_cons_succ])
  refine stWalk_turn (fun v => ∃ p, v = .slice (some ⟨p, 0, none⟩) 1 1) (fun v W => SliceOf8 1 [8#8] v W) (by rfl) ⟨_, 0, rfl⟩ (by go_simp) ?_ ?_
  · intro W hI hC
    have q1 := hide (hI.below ((Below.refl W.heap.size W).alloc (Nat.le_refl _) (.cells #[.int .u8 8] 5)))
    have q2 := hide (reads_one W 8#8)
    clear hC hI
    go_simp
    exact ⟨q1.out, rfl, q2.out⟩
  rintro v ⟨p, rfl⟩
  (try simp only [Act.put, List.setIfInBounds_toArray, List.set_cons_zero, List.set_cons_succ])
  apply stWalk_turnc (c := .bool false) (fun W => True)
  · rfl
  · rfl
  · intro W hI hC
    refine gives_call rfl [.agg R, .slice (some ⟨p, 0, none⟩) 1 1, .int .i64 0, .int .i64 1, .slice none 0 0] rfl (enters_of Try.func59 (by kernel_rfl) rfl) ?_
    refine (HC8.out p W hC.2).mono ?_
    rintro e w' ⟨rfl, hb⟩
    exact ⟨_, rfl, rfl, hI.below hb, trivial⟩
  (try simp only [Act.put, List.setIfInBounds_toArray, List.set_cons_zero, List.set_cons_succ])
  repeat (first
    | (apply stWalk_light
       · rfl
       · (intro W hI
          go_simp
          with_reducible exact rfl)
       (try simp only [Act.put, List.setIfInBounds_toArray, List.set_cons_zero, List.set_cons_succ])))
  refine stWalk_nil ?_
  intro W hI hC
  have B9 := hide hI.1
  clear hI hC
  go_wp2
  go_ret
  exact ⟨rfl, B9.out⟩
end Go.Proofs.Ytdikknfdgpdenaa
