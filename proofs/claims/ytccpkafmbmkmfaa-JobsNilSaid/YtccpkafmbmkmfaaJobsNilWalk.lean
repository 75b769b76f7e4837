/- The walk of miradorlaw29.JobsNil. No condition. -/
import Derived.Test.YtccpkafmbmkmfaaJobMore
namespace Go.Proofs.Ytccpkafmbmkmfaa
open Go.RowKit Go.Shelf
set_option linter.unusedVariables false
set_option linter.unusedSimpArgs false
attribute [local go_sem] Gives givesUpon
attribute [local irreducible] Gives

set_option maxRecDepth 100000 in
theorem zero_job_one {Z : Array Value} (hZ : (Try.prog.info? 75).map (·.zero) = some (some (.agg Z))) : Z.all (·.oneCell') = true := by
  obtain ⟨Z', hZ', _⟩ : ∃ Z' : Array Value, (Try.prog.info? 75).map (·.zero) = some (some (.agg Z')) ∧ Z'.all (·.oneCell') = true := ⟨((List.replicate 2 (c32 0)) ++ (List.replicate 32 (c8 0)) ++ [c32 0, c32 0, ci 0, .slice none 0 0]).toArray, by kernel_rfl, (by first | kernel_rfl | (simp [Value.oneCell', List.replicate]; done) | (rw [Array.all_eq_true_iff_forall_mem]; intro u hu; simp [List.replicate] at hu; rcases hu with rfl | rfl | rfl | rfl <;> rfl))⟩
  rw [hZ] at hZ'
  injection hZ' with e; injection e with e; injection e with e
  rw [e]; assumption
set_option maxRecDepth 100000 in
set_option maxHeartbeats 1600000 in
theorem jobsNil_in (w : World) (R RI : Array Value) (k : KeyT) (x2 : BitVec 32) (hR : R.size = 38) (hR1 : R.all (·.oneCell') = true) (hR0 : R[0]? = some (c32 k.1)) (hR2 : R[1]? = some (c32 k.2)) (hI : RI.size = 32) :
    Calls Try.prog 11 #[.agg R, .agg RI, .int .u32 (x2.toNat : Int)] w fun e w' => e = .returned (.bool true) ∧ Below w.heap.size w w' := by
  obtain ⟨W0, hW0⟩ : ∃ W0, W0 = w.alloc (.cells R 75) := ⟨_, rfl⟩
  have hs0 : W0.heap.size = w.heap.size + 1 := by rw [hW0]; simp
  obtain ⟨W1, hW1⟩ : ∃ W1, W1 = W0.alloc (.cells RI 70) := ⟨_, rfl⟩
  have hs1 : W1.heap.size = w.heap.size + 2 := by rw [hW1]; simp [hs0]
  obtain ⟨W2, hW2⟩ : ∃ W2, W2 = W1.alloc (.cells #[.map none, .slice none 0 0] 99) := ⟨_, rfl⟩
  have hb2 : Below w.heap.size w W2 := by rw [hW2, hW1, hW0]; exact (((Below.refl _ _).alloc (Nat.le_refl _) _).alloc (by simp) _).alloc (by simp; omega) _
  have hj : Blk W2 w.heap.size 75 R := by rw [hW2, hW1, hW0]; exact ((Blk.new w _ _).alloc _).alloc _
  have hi : Blk W2 (w.heap.size + 1) 70 RI := by rw [hW2, hW1, ← hs0]; exact (Blk.new W0 _ _).alloc _
  have ht : Blk W2 (w.heap.size + 2) 99 #[.map none, .slice none 0 0] := by rw [hW2, ← hs1]; exact Blk.new W1 _ _
  have q0 : W2.cell? ⟨w.heap.size, 0, none⟩ = some (c32 k.1) := (hj.cell 0).trans hR0
  have q1 : W2.cell? ⟨w.heap.size, 1, none⟩ = some (c32 k.2) := (hj.cell 1).trans hR2
  have HAn := hide (Absent.nil_ W2)
  have HAb := hide (Absent.blank ht)
  have CR1 := hide (jrest_absent _ _ HAn.out)
  have CR2 := hide (jrest_absent _ _ HAb.out)
  have HJ := hide hj
  have HI := hide hi
  have HB2 := hide hb2
  have HS0 := hide hs0
  have HS1 := hide hs1
  clear hj hi ht hb2 hs0 hs1
  replace hW0 := hide hW0.symm
  replace hW1 := hide hW1.symm
  replace hW2 := hide hW2.symm
  have CG1 := hide (jget_absent _ k _ HAn.out)
  have CG2 : Hid (∀ W, Below W2.heap.size W2 W → Calls Try.prog 46 #[.pointer (some ⟨w.heap.size + 2, 0, none⟩), kf k] W fun e w' => ∃ Z : Array Value, e = .returned (.tuple #[.agg Z, .bool false]) ∧ (Z.size = 38 ∧ (Try.prog.info? 75).map (·.zero) = some (some (.agg Z))) ∧ Below W.heap.size W w') := hide fun W hW => jget_absent _ k _ (HAb.out.later hW)
  unfold kf at CG1 CG2
  have HSz : Hid ((Try.prog.info? 75).map (·.size) = some 38) := hide info_job
  have HQ : Hid (∀ W, Below W2.heap.size W2 W → W.cell? ⟨w.heap.size, 0, none⟩ = some (c32 k.1) ∧ W.cell? ⟨w.heap.size, 1, none⟩ = some (c32 k.2)) := hide fun W hW => ⟨((HJ.out.below hW HJ.out.lt).cell 0).trans hR0, ((HJ.out.below hW HJ.out.lt).cell 1).trans hR2⟩
  clear hR0 hR2
  go_enter Try.func11, Try.ntmps11
  go_wp2_with (first
    | (rw [hW0.out])
    | (rw [hW1.out, HS0.out])
    | (rw [hW2.out, HS1.out])
    | (go_at_call 54; (first | with_reducible refine CR1.out.mono ?_ | with_reducible refine CR2.out.mono ?_); rintro e w' ⟨rfl, rfl⟩)
    | (go_at_call 46; (with_reducible refine CG1.out.mono ?_); rintro e w3 ⟨Z3, rfl, ⟨hz3, hi3⟩, hb3⟩; have HZ3 := hide hz3; have HI3 := hide hi3; have HB3 := hide hb3; have HO3 := hide (zero_job_one hi3); clear hz3 hi3 hb3 CG1)
    | (refine wpList_alloc_is rfl 75 rfl Z3 HI3.out ?_)
    | ((with_reducible show wpList _ _ _ (⟨_, .store 75 _ _, _, _, _, _⟩ :: _) _ _); refine wpList_store_row rfl 75 _ _ rfl w3.heap.size rfl Z3 rfl 75 Z3 (Blk.new w3 _ Z3) (by rw [HZ3.out]; exact HSz.out) rfl HO3.out ?_;
        obtain ⟨W4, hW4⟩ : ∃ W4, (w3.alloc (.cells Z3 75)).setRow w3.heap.size Z3 = W4 := ⟨_, rfl⟩; have HB4 := hide (show Below W2.heap.size W2 W4 by rw [← hW4]; exact below_setRow (HB3.out.alloc HB3.out.size _) HB3.out.size _); rw [hW4]; clear hW4;
        obtain ⟨q0, q1⟩ := HQ.out W4 HB4.out)
    | (go_at_call 46; (with_reducible refine (CG2.out _ HB4.out).mono ?_); rintro e w5 ⟨Z5, rfl, ⟨hz5, hi5⟩, hb5⟩; have HZ5 := hide hz5; have HI5 := hide hi5; have HB5 := hide (below_next HB4.out hb5); have HO5 := hide (zero_job_one hi5); clear hz5 hi5 hb5 CG2)
    | ((with_reducible show wpList _ _ _ (⟨_, .store 75 _ _, _, _, _, _⟩ :: _) _ _); refine wpList_store_row rfl 75 _ _ rfl w5.heap.size rfl Z5 rfl 75 Z3 (Blk.new w5 _ Z3) (by rw [HZ5.out]; exact HSz.out) (by rw [HZ3.out, HZ5.out]) HO5.out ?_;
        obtain ⟨W6, hW6⟩ : ∃ W6, (w5.alloc (.cells Z3 75)).setRow w5.heap.size Z5 = W6 := ⟨_, rfl⟩; have HB6 := hide (show Below W2.heap.size W2 W6 by rw [← hW6]; exact below_setRow (HB5.out.alloc HB5.out.size _) HB5.out.size _); rw [hW6]; clear hW6)
    | fail)
  have FK : Hid (∀ W, Below W6.heap.size W6 W → W.cell? ⟨w.heap.size, 0, none⟩ = some (c32 k.1) ∧ W.cell? ⟨w.heap.size, 1, none⟩ = some (c32 k.2)) := hide fun W hW => HQ.out W (below_next HB6.out hW)
  have FJ : Hid (∀ W, Below W6.heap.size W6 W → Blk W w.heap.size 75 R) := hide fun W hW => HJ.out.below (below_next HB6.out hW) HJ.out.lt
  have FI : Hid (∀ W, Below W6.heap.size W6 W → Blk W (w.heap.size + 1) 70 RI) := hide fun W hW => HI.out.below (below_next HB6.out hW) HI.out.lt
  have FA : Hid (∀ W, Below W6.heap.size W6 W → Absent (.pointer (some ⟨w.heap.size + 2, 0, none⟩)) W) := hide fun W hW => HAb.out.later (below_next HB6.out hW)
  have HIj : Hid ((Try.prog.info? 75).map (·.size) = some R.size) := hide (by rw [hR]; exact info_job)
  have HIi : Hid ((Try.prog.info? 70).map (·.size) = some RI.size) := hide (by rw [hI]; exact info_id)
  have CB : ∀ W, Below W6.heap.size W6 W → ∀ {W'}, Below W.heap.size W W' → Below W6.heap.size W6 W' ∧ Below W.heap.size W W' := fun W hC W' hb => ⟨below_next hC hb, hb⟩
  clear q0 q1
  have z0 : IntKind.i64.wrap 0 = 0 := rfl
  apply wp_region_rel (C := fun W' => Below W6.heap.size W6 W') (M := fun W W' => Below W.heap.size W W') (ss := [_, _, _, _, _, _, _, _, _, _, _, _, _, _, _, _, _, _, _, _, _, _, _, _, _, _, _, _, _, _, _, _, _, _, _, _, _, _, _, _, _, _, _, _, _, _, _, _, _, _, _, _, _, _, _, _, _, _, _, _, _, _, _, _, _, _, _, _, _, _, _, _, _, _, _, _, _, _, _, _, _, _, _]) (by kernel_rfl) (by kernel_rfl) (by kernel_rfl) (Below.refl _ _).drew
  iterate 8 (first
    | (apply relWalk_const (fun W => Below.refl _ _)
       · (intro W9 hC hF
          clear hF
          obtain ⟨q0, q1⟩ := FK.out W9 hC
          clear hC
          go_simp
          with_reducible exact rfl)
       (try simp only [Act.put, List.setIfInBounds_toArray, List.set_cons_zero, List.set_cons_succ])))
  apply relWalk_const (c := .agg R) (fun W => Below.refl _ _)
  · intro W9 hC hF
    clear hF
    rw [if_pos (by go_simp)]
    exact gives_load_row 75 _ rfl w.heap.size rfl 75 R (0, 0) _ (FJ.out W9 hC) Try.underlying75 rfl HIj.out ⟨rfl, rfl⟩
  (try simp only [Act.put, List.setIfInBounds_toArray, List.set_cons_zero, List.set_cons_succ])
  apply relWalk_constW (c := .int .i64 7)
  · go_simp
  · intro W9 hC hF
    clear hF
    refine gives_call rfl [.pointer none, .agg R] rfl (enters_of Try.func45 (by kernel_rfl) rfl) ?_
    refine (jadd_absent (.pointer none) R W9 (Absent.nil_ W9)).mono ?_
    rintro e w' ⟨rfl, hb⟩
    exact ⟨_, rfl, rfl, CB W9 hC hb⟩
  (try simp only [Act.put, List.setIfInBounds_toArray, List.set_cons_zero, List.set_cons_succ])
  iterate 3 (first
    | (apply relWalk_const (fun W => Below.refl _ _)
       · (intro W9 hC hF
          clear hF
          obtain ⟨q0, q1⟩ := FK.out W9 hC
          clear hC
          go_simp
          with_reducible exact rfl)
       (try simp only [Act.put, List.setIfInBounds_toArray, List.set_cons_zero, List.set_cons_succ])))
  apply relWalk_const (c := .agg R) (fun W => Below.refl _ _)
  · intro W9 hC hF
    clear hF
    rw [if_pos (by go_simp)]
    exact gives_load_row 75 _ rfl w.heap.size rfl 75 R (0, 0) _ (FJ.out W9 hC) Try.underlying75 rfl HIj.out ⟨rfl, rfl⟩
  (try simp only [Act.put, List.setIfInBounds_toArray, List.set_cons_zero, List.set_cons_succ])
  apply relWalk_constW (c := .int .i64 7)
  · go_simp
  · intro W9 hC hF
    clear hF
    refine gives_call rfl [.pointer (some ⟨w.heap.size + 2, 0, none⟩), .agg R] rfl (enters_of Try.func45 (by kernel_rfl) rfl) ?_
    refine (jadd_absent (.pointer (some ⟨w.heap.size + 2, 0, none⟩)) R W9 (FA.out W9 hC)).mono ?_
    rintro e w' ⟨rfl, hb⟩
    exact ⟨_, rfl, rfl, CB W9 hC hb⟩
  (try simp only [Act.put, List.setIfInBounds_toArray, List.set_cons_zero, List.set_cons_succ])
  iterate 6 (first
    | (apply relWalk_const (fun W => Below.refl _ _)
       · (intro W9 hC hF
          clear hF
          obtain ⟨q0, q1⟩ := FK.out W9 hC
          clear hC
          go_simp
          with_reducible exact rfl)
       (try simp only [Act.put, List.setIfInBounds_toArray, List.set_cons_zero, List.set_cons_succ])))
  apply relWalk_constW (c := .bool false)
  · go_simp
  · intro W9 hC hF
    clear hF
    refine gives_call rfl [.pointer none, kf k] rfl (enters_of Try.func55 (by kernel_rfl) rfl) ?_
    refine (jdrop_absent (.pointer none) k W9 (Absent.nil_ W9)).mono ?_
    rintro e w' ⟨rfl, hb⟩
    exact ⟨_, rfl, rfl, CB W9 hC hb⟩
  (try simp only [Act.put, List.setIfInBounds_toArray, List.set_cons_zero, List.set_cons_succ])
  iterate 6 (first
    | (apply relWalk_const (fun W => Below.refl _ _)
       · (intro W9 hC hF
          clear hF
          obtain ⟨q0, q1⟩ := FK.out W9 hC
          clear hC
          go_simp
          with_reducible exact rfl)
       (try simp only [Act.put, List.setIfInBounds_toArray, List.set_cons_zero, List.set_cons_succ])))
  apply relWalk_constW (c := .bool false)
  · go_simp
  · intro W9 hC hF
    clear hF
    refine gives_call rfl [.pointer (some ⟨w.heap.size + 2, 0, none⟩), kf k, .int .u32 (x2.toNat : Int)] rfl (enters_of Try.func53 (by kernel_rfl) rfl) ?_
    refine (jmark_absent (.pointer (some ⟨w.heap.size + 2, 0, none⟩)) k x2 W9 (FA.out W9 hC)).mono ?_
    rintro e w' ⟨rfl, hb⟩
    exact ⟨_, rfl, rfl, CB W9 hC hb⟩
  (try simp only [Act.put, List.setIfInBounds_toArray, List.set_cons_zero, List.set_cons_succ])
  iterate 6 (first
    | (apply relWalk_const (fun W => Below.refl _ _)
       · (intro W9 hC hF
          clear hF
          obtain ⟨q0, q1⟩ := FK.out W9 hC
          clear hC
          go_simp
          with_reducible exact rfl)
       (try simp only [Act.put, List.setIfInBounds_toArray, List.set_cons_zero, List.set_cons_succ])))
  apply relWalk_constW (c := .bool false)
  · go_simp
  · intro W9 hC hF
    clear hF
    refine gives_call rfl [.pointer none, kf k, .int .i64 0] rfl (enters_of Try.func50 (by kernel_rfl) rfl) ?_
    refine (jlive_absent (.pointer none) k 0 W9 (Absent.nil_ W9)).mono ?_
    rintro e w' ⟨rfl, hb⟩
    exact ⟨_, rfl, rfl, CB W9 hC hb⟩
  (try simp only [Act.put, List.setIfInBounds_toArray, List.set_cons_zero, List.set_cons_succ])
  iterate 4 (first
    | (apply relWalk_const (fun W => Below.refl _ _)
       · (intro W9 hC hF
          clear hF
          obtain ⟨q0, q1⟩ := FK.out W9 hC
          clear hC
          go_simp
          with_reducible exact rfl)
       (try simp only [Act.put, List.setIfInBounds_toArray, List.set_cons_zero, List.set_cons_succ])))
  apply relWalk_const (c := .agg RI) (fun W => Below.refl _ _)
  · intro W9 hC hF
    clear hF
    rw [if_pos (by go_simp)]
    exact gives_load_row 70 _ rfl (w.heap.size + 1) rfl 70 RI (0, 0) _ (FI.out W9 hC) Try.underlying70 rfl HIi.out ⟨rfl, rfl⟩
  (try simp only [Act.put, List.setIfInBounds_toArray, List.set_cons_zero, List.set_cons_succ])
  apply relWalk_constW (c := .slice none 0 0)
  · go_simp
  · intro W9 hC hF
    clear hF
    refine gives_call rfl [.pointer none, .agg RI] rfl (enters_of Try.func51 (by kernel_rfl) rfl) ?_
    refine (jevict_absent (.pointer none) RI W9 (Absent.nil_ W9)).mono ?_
    rintro e w' ⟨rfl, hb⟩
    exact ⟨_, rfl, rfl, CB W9 hC hb⟩
  (try simp only [Act.put, List.setIfInBounds_toArray, List.set_cons_zero, List.set_cons_succ])
  iterate 1 (first
    | (apply relWalk_const (fun W => Below.refl _ _)
       · (intro W9 hC hF
          clear hF
          obtain ⟨q0, q1⟩ := FK.out W9 hC
          clear hC
          go_simp
          with_reducible exact rfl)
       (try simp only [Act.put, List.setIfInBounds_toArray, List.set_cons_zero, List.set_cons_succ])))
  apply relWalk_const (c := .agg RI) (fun W => Below.refl _ _)
  · intro W9 hC hF
    clear hF
    rw [if_pos (by go_simp)]
    exact gives_load_row 70 _ rfl (w.heap.size + 1) rfl 70 RI (0, 0) _ (FI.out W9 hC) Try.underlying70 rfl HIi.out ⟨rfl, rfl⟩
  (try simp only [Act.put, List.setIfInBounds_toArray, List.set_cons_zero, List.set_cons_succ])
  apply relWalk_constW (c := .slice none 0 0)
  · go_simp
  · intro W9 hC hF
    clear hF
    refine gives_call rfl [.pointer (some ⟨w.heap.size + 2, 0, none⟩), .agg RI] rfl (enters_of Try.func56 (by kernel_rfl) rfl) ?_
    refine (jclaim_absent (.pointer (some ⟨w.heap.size + 2, 0, none⟩)) RI W9 (FA.out W9 hC)).mono ?_
    rintro e w' ⟨rfl, hb⟩
    exact ⟨_, rfl, rfl, CB W9 hC hb⟩
  (try simp only [Act.put, List.setIfInBounds_toArray, List.set_cons_zero, List.set_cons_succ])
  iterate 4 (first
    | (apply relWalk_const (fun W => Below.refl _ _)
       · (intro W9 hC hF
          clear hF
          obtain ⟨q0, q1⟩ := FK.out W9 hC
          clear hC
          go_simp
          with_reducible exact rfl)
       (try simp only [Act.put, List.setIfInBounds_toArray, List.set_cons_zero, List.set_cons_succ])))
  apply relWalk_constW (c := .slice none 0 0)
  · go_simp
  · intro W9 hC hF
    clear hF
    refine gives_call rfl [.pointer none, .int .u32 (x2.toNat : Int)] rfl (enters_of Try.func57 (by kernel_rfl) rfl) ?_
    refine (jbyAt_absent (.pointer none) x2 W9 (Absent.nil_ W9)).mono ?_
    rintro e w' ⟨rfl, hb⟩
    exact ⟨_, rfl, rfl, CB W9 hC hb⟩
  (try simp only [Act.put, List.setIfInBounds_toArray, List.set_cons_zero, List.set_cons_succ])
  iterate 3 (first
    | (apply relWalk_const (fun W => Below.refl _ _)
       · (intro W9 hC hF
          clear hF
          obtain ⟨q0, q1⟩ := FK.out W9 hC
          clear hC
          go_simp
          with_reducible exact rfl)
       (try simp only [Act.put, List.setIfInBounds_toArray, List.set_cons_zero, List.set_cons_succ])))
  apply relWalk_constW (c := .slice none 0 0)
  · go_simp
  · intro W9 hC hF
    clear hF
    refine gives_call rfl [.pointer (some ⟨w.heap.size + 2, 0, none⟩), .int .u32 (x2.toNat : Int)] rfl (enters_of Try.func58 (by kernel_rfl) rfl) ?_
    refine (jbyMined_absent (.pointer (some ⟨w.heap.size + 2, 0, none⟩)) x2 W9 (FA.out W9 hC)).mono ?_
    rintro e w' ⟨rfl, hb⟩
    exact ⟨_, rfl, rfl, CB W9 hC hb⟩
  (try simp only [Act.put, List.setIfInBounds_toArray, List.set_cons_zero, List.set_cons_succ])
  iterate 3 (first
    | (apply relWalk_const (fun W => Below.refl _ _)
       · (intro W9 hC hF
          clear hF
          obtain ⟨q0, q1⟩ := FK.out W9 hC
          clear hC
          go_simp
          with_reducible exact rfl)
       (try simp only [Act.put, List.setIfInBounds_toArray, List.set_cons_zero, List.set_cons_succ])))
  apply relWalk_constW (c := .slice none 0 0)
  · go_simp
  · intro W9 hC hF
    clear hF
    refine gives_call rfl [.pointer none] rfl (enters_of Try.func47 (by kernel_rfl) rfl) ?_
    refine (jlist_absent (.pointer none) W9 (Absent.nil_ W9)).mono ?_
    rintro e w' ⟨rfl, rfl⟩
    exact ⟨_, rfl, rfl, hC, Below.refl _ _⟩
  (try simp only [Act.put, List.setIfInBounds_toArray, List.set_cons_zero, List.set_cons_succ])
  iterate 2 (first
    | (apply relWalk_const (fun W => Below.refl _ _)
       · (intro W9 hC hF
          clear hF
          obtain ⟨q0, q1⟩ := FK.out W9 hC
          clear hC
          go_simp
          with_reducible exact rfl)
       (try simp only [Act.put, List.setIfInBounds_toArray, List.set_cons_zero, List.set_cons_succ])))
  apply relWalk_constW (c := .slice none 0 0)
  · go_simp
  · intro W9 hC hF
    clear hF
    refine gives_call rfl [.pointer (some ⟨w.heap.size + 2, 0, none⟩)] rfl (enters_of Try.func47 (by kernel_rfl) rfl) ?_
    refine (jlist_absent (.pointer (some ⟨w.heap.size + 2, 0, none⟩)) W9 (FA.out W9 hC)).mono ?_
    rintro e w' ⟨rfl, rfl⟩
    exact ⟨_, rfl, rfl, hC, Below.refl _ _⟩
  (try simp only [Act.put, List.setIfInBounds_toArray, List.set_cons_zero, List.set_cons_succ])
  iterate 3 (first
    | (apply relWalk_const (fun W => Below.refl _ _)
       · (intro W9 hC hF
          clear hF
          obtain ⟨q0, q1⟩ := FK.out W9 hC
          clear hC
          go_simp
          with_reducible exact rfl)
       (try simp only [Act.put, List.setIfInBounds_toArray, List.set_cons_zero, List.set_cons_succ])))
  apply relWalk_constW (c := .int .i64 0)
  · go_simp
  · intro W9 hC hF
    clear hF
    refine gives_call rfl [.pointer none] rfl (enters_of Try.func59 (by kernel_rfl) rfl) ?_
    refine (jlen_absent (.pointer none) W9 (Absent.nil_ W9)).mono ?_
    rintro e w' ⟨rfl, rfl⟩
    exact ⟨_, rfl, rfl, hC, Below.refl _ _⟩
  (try simp only [Act.put, List.setIfInBounds_toArray, List.set_cons_zero, List.set_cons_succ])
  iterate 1 (first
    | (apply relWalk_const (fun W => Below.refl _ _)
       · (intro W9 hC hF
          clear hF
          obtain ⟨q0, q1⟩ := FK.out W9 hC
          clear hC
          go_simp
          with_reducible exact rfl)
       (try simp only [Act.put, List.setIfInBounds_toArray, List.set_cons_zero, List.set_cons_succ])))
  apply relWalk_constW (c := .int .i64 0)
  · go_simp
  · intro W9 hC hF
    clear hF
    refine gives_call rfl [.pointer (some ⟨w.heap.size + 2, 0, none⟩)] rfl (enters_of Try.func59 (by kernel_rfl) rfl) ?_
    refine (jlen_absent (.pointer (some ⟨w.heap.size + 2, 0, none⟩)) W9 (FA.out W9 hC)).mono ?_
    rintro e w' ⟨rfl, rfl⟩
    exact ⟨_, rfl, rfl, hC, Below.refl _ _⟩
  (try simp only [Act.put, List.setIfInBounds_toArray, List.set_cons_zero, List.set_cons_succ])
  iterate 5 (first
    | (apply relWalk_const (fun W => Below.refl _ _)
       · (intro W9 hC hF
          clear hF
          obtain ⟨q0, q1⟩ := FK.out W9 hC
          clear hC
          go_simp
          with_reducible exact rfl)
       (try simp only [Act.put, List.setIfInBounds_toArray, List.set_cons_zero, List.set_cons_succ])))
  apply relWalk_constW (c := .pointer none)
  · go_simp
  · intro W9 hC hF
    clear hF
    refine gives_call rfl [.pointer none] rfl (enters_of Try.func60 (by kernel_rfl) rfl) ?_
    refine (jclone_absent (.pointer none) W9 (Absent.nil_ W9)).mono ?_
    rintro e w' ⟨rfl, rfl⟩
    exact ⟨_, rfl, rfl, hC, Below.refl _ _⟩
  (try simp only [Act.put, List.setIfInBounds_toArray, List.set_cons_zero, List.set_cons_succ])
  iterate 3 (first
    | (apply relWalk_const (fun W => Below.refl _ _)
       · (intro W9 hC hF
          clear hF
          obtain ⟨q0, q1⟩ := FK.out W9 hC
          clear hC
          go_simp
          with_reducible exact rfl)
       (try simp only [Act.put, List.setIfInBounds_toArray, List.set_cons_zero, List.set_cons_succ])))
  apply relWalk_constW (c := .pointer none)
  · go_simp
  · intro W9 hC hF
    clear hF
    refine gives_call rfl [.pointer (some ⟨w.heap.size + 2, 0, none⟩)] rfl (enters_of Try.func60 (by kernel_rfl) rfl) ?_
    refine (jclone_absent (.pointer (some ⟨w.heap.size + 2, 0, none⟩)) W9 (FA.out W9 hC)).mono ?_
    rintro e w' ⟨rfl, rfl⟩
    exact ⟨_, rfl, rfl, hC, Below.refl _ _⟩
  (try simp only [Act.put, List.setIfInBounds_toArray, List.set_cons_zero, List.set_cons_succ])
  iterate 3 (first
    | (apply relWalk_const (fun W => Below.refl _ _)
       · (intro W9 hC hF
          clear hF
          obtain ⟨q0, q1⟩ := FK.out W9 hC
          clear hC
          go_simp
          with_reducible exact rfl)
       (try simp only [Act.put, List.setIfInBounds_toArray, List.set_cons_zero, List.set_cons_succ])))
  apply relWalk_constW (c := .bool true)
  · go_simp
  · intro W9 hC hF
    clear hF
    refine gives_call rfl [] rfl (enters_of Try.func43 (by kernel_rfl) rfl) ?_
    refine (alive29_any W9).mono ?_
    rintro e w' ⟨rfl, hb⟩
    exact ⟨_, rfl, rfl, CB W9 hC hb⟩
  (try simp only [Act.put, List.setIfInBounds_toArray, List.set_cons_zero, List.set_cons_succ])
  iterate 2 (first
    | (apply relWalk_const (fun W => Below.refl _ _)
       · (intro W9 hC hF
          clear hF
          obtain ⟨q0, q1⟩ := FK.out W9 hC
          clear hC
          go_simp
          with_reducible exact rfl)
       (try simp only [Act.put, List.setIfInBounds_toArray, List.set_cons_zero, List.set_cons_succ])))
  refine relWalk_nil fun w7 hC hF => ?_
  clear hF
  go_wp2
  go_ret
  exact ⟨rfl, below_next HB2.out (below_next HB6.out hC)⟩
theorem jobsNil_walk (w : World) (j0 : JobM) (u0 : Value) (R0 : Array Value) (T0 : List TierK) (J0 : JobVal j0 u0 R0) (B0 : j0.breach.length = 32) (P0 : PayAt w (fun i => i < w.heap.size) u0 T0) (kn0 : T0.length ≤ 9223372036854775807) (kt0 : ∀ p ∈ T0, p.2.2.length ≤ 9223372036854775807) (lv0 : -9223372036854775808 ≤ j0.live ∧ j0.live ≤ 9223372036854775807) (b1 : List (BitVec 8)) (l1 : b1.length = 32) (x2 : BitVec 32) :
    Calls Try.prog 11 #[.agg R0, .agg (b1.map c8).toArray, .int .u32 (x2.toNat : Int)] w fun e w' => e = .returned (.bool true) ∧ Below w.heap.size w w' :=
  jobsNil_in w R0 (b1.map c8).toArray (j0.ses, j0.seq) x2 J0.size J0.one J0.ses J0.seq (by simp [l1])
end Go.Proofs.Ytccpkafmbmkmfaa
