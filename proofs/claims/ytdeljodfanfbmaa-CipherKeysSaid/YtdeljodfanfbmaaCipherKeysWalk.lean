/- The walk of CipherKeys. No condition. -/
import Derived.Test.YtdeljodfanfbmaaCipherAlive
import Derived.Test.YtdeljodfanfbmaaCipherNil
namespace Go.Proofs.Ytdeljodfanfbmaa
open Go.RowKit Go.Shelf
set_option linter.unusedVariables false
set_option linter.unusedSimpArgs false
attribute [local go_sem] Gives givesUpon
attribute [local irreducible] Gives

theorem zero_cipher : ∃ ZC : Array Value, (Try.prog.info? 61).map (·.zero) = some (some (.agg ZC)) ∧ ZC[240]? = some (.pointer none) :=
  ⟨(List.replicate 240 (c8 0) ++ [Value.pointer none]).toArray, by kernel_rfl, by kernel_rfl⟩
set_option maxRecDepth 100000 in
set_option maxHeartbeats 3200000 in
theorem cipherKeys_core (w : World) (A0 : Option Addr) (n0 c0 : Nat) (bs0 : List (BitVec 8)) (r0 : Reads w w.heap.size 1 A0 n0 (bs0.map c8)) (m0 : n0 ≤ 9223372036854775807) (k0 : n0 ≤ c0) (b : List (BitVec 8)) (V : Array Value) (hV : BVal b V) :
    Calls Try.prog 10 #[.slice A0 n0 c0, .agg V] w fun e w' => e = .returned (.bool true) ∧ Below w.heap.size w w' := by
  obtain ⟨ZC, hZC, hZC2⟩ := zero_cipher
  have HV := hide hV
  have HVi := hide hV.info
  have heq : ∀ W : World, (Op.equalIn 10000 46 (.agg V) (.agg V)).run Try.prog W = .ok true W := fun W => by
    have h := eq_block b b hV.len hV.len W
    rw [← hV.val] at h
    rw [h]; simp
  have P0 := Blk.new w 46 V
  have HB0 := hide ((Below.refl w.heap.size w).alloc (Nat.le_refl _) (.cells V 46))
  have HR := hide (r0.later HB0.out)
  obtain ⟨W0, hW0⟩ : ∃ W0, W0 = w.alloc (.cells V 46) := ⟨_, rfl⟩
  rw [← hW0] at P0 HB0 HR
  have HP0 := hide P0
  have HW0 := hide hW0
  replace hZC := hide hZC
  replace hZC2 := hide hZC2
  clear hV r0 hW0 P0
  by_cases h32 : n0 = 32
  · subst h32
    go_enter Try.func10, Try.ntmps10
    go_wp2_with (first
      | (rw [← HW0.out]; go_at_call 34; (with_reducible refine (ciphernew_any A0 c0 bs0 W0 HR.out k0).mono ?_); rintro e W1 ⟨g, rfl, hg1, hC1, hb1⟩; have HB1 := hide hb1; clear hb1 hC1 hg1)
      | (refine wpList_alloc_is rfl 61 rfl ZC hZC.out ?_))
    have P0 := HP0.out
    have HP := hide ((P0.below HB1.out P0.lt).alloc (.cells ZC 61))
    have HB9 := hide ((HB0.out.trans (HB1.out.mono HB0.out.size)).alloc (HB0.out.trans (HB1.out.mono HB0.out.size)).size (.cells ZC 61))
    have G0 := Blk.new W1 61 ZC
    have hg : W1.heap.size < (W1.alloc (.cells ZC 61)).heap.size := G0.lt
    have hcb : (W1.alloc (.cells ZC 61)).cell? ⟨W1.heap.size, 240, none⟩ = some (.pointer none) := (G0.cell 240).trans hZC2.out
    (try simp only [Act.put, List.setIfInBounds_toArray, List.set_cons_zero, List.set_cons_succ])
    clear G0
    obtain ⟨gd, hgd⟩ : ∃ gd, gd = W1.heap.size := ⟨_, rfl⟩
    rw [← hgd] at hg hcb ⊢
    generalize W1.alloc (.cells ZC 61) = W3 at *
    have HCB : Hid (∀ W, Below W3.heap.size W3 W → gd < W.heap.size ∧ W.cell? ⟨gd, 240, none⟩ = some (.pointer none)) := hide fun W h => ⟨Nat.lt_of_lt_of_le hg h.size, (h.cell (p := ⟨gd, 240, none⟩) hg).trans hcb⟩
    have HEn : Hid (∀ W, Below W3.heap.size W3 W → Calls Try.prog 35 #[.pointer none, .agg V] W fun e w' => e = .returned (.agg V) ∧ Below W.heap.size W w') := hide fun W _ => encrypt_nil b V HV.out W
    have HDn : Hid (∀ W, Below W3.heap.size W3 W → Calls Try.prog 36 #[.pointer none, .agg V] W fun e w' => e = .returned (.agg V) ∧ Below W.heap.size W w') := hide fun W _ => decrypt_nil b V HV.out W
    have HEb : Hid (∀ W, Below W3.heap.size W3 W → Calls Try.prog 35 #[.pointer (some ⟨gd, 0, none⟩), .agg V] W fun e w' => e = .returned (.agg V) ∧ Below W.heap.size W w') := hide fun W h => encrypt_blank b V HV.out gd W (HCB.out W h).1 (HCB.out W h).2
    have HDb : Hid (∀ W, Below W3.heap.size W3 W → Calls Try.prog 36 #[.pointer (some ⟨gd, 0, none⟩), .agg V] W fun e w' => e = .returned (.agg V) ∧ Below W.heap.size W w') := hide fun W h => decrypt_blank b V HV.out gd W (HCB.out W h).1 (HCB.out W h).2
    have HAl : Hid (∀ W, Below W3.heap.size W3 W → Calls Try.prog 39 #[] W fun e w' => e = .returned (.bool true) ∧ Below W.heap.size W w') := hide fun W _ => alive06_any W
    replace hgd := hide hgd
    clear HB1 hg hcb HCB
    apply wp_region_relT 28 (C := fun W => Below W3.heap.size W3 W) (M := fun W W' => Below W.heap.size W W') (ss := [_, _, _, _, _, _, _, _, _, _, _, _, _, _, _, _, _, _, _, _, _, _, _, _, _, _, _, _]) (by kernel_rfl) (by kernel_rfl) (by kernel_rfl) (by kernel_rfl) (Below.refl _ _).drew
    simp only [List.take_succ_cons, List.take_zero, List.drop_succ_cons, List.drop_zero]
    repeat (first
      | (apply relWalk_const (fun W => Below.refl _ _)
         · (intro W hC hF
            clear hF
            have hq := heq W
            go_simp
            with_reducible exact rfl)
         (try simp only [Act.put, List.setIfInBounds_toArray, List.set_cons_zero, List.set_cons_succ])))
    apply relWalk_const (fun W => Below.refl _ _)
    · intro W hC hF
      rw [if_pos]
      · exact gives_load_row 46 _ rfl w.heap.size rfl 46 V (0, 0) _ (HP.out.below hC HP.out.lt) Try.underlying46 rfl HVi.out ⟨rfl, rfl⟩
      · rfl
    (try simp only [Act.put, List.setIfInBounds_toArray, List.set_cons_zero, List.set_cons_succ])
    refine relWalk_rel (fun v => v = .agg V) (fun _ _ => True) ⟨_, rfl⟩ (fun _ _ _ _ _ => trivial) (by rfl) ?_ ?_
    · intro W hC hF
      refine gives_call rfl [.pointer none, .agg V] rfl (enters_of Try.func35 (by kernel_rfl) rfl) ?_
      refine (HEn.out W hC).mono ?_
      rintro e w' ⟨rfl, hb⟩
      exact ⟨_, rfl, rfl, trivial, below_next hC hb, hb⟩
    rintro v rfl
    (try simp only [Act.put, List.setIfInBounds_toArray, List.set_cons_zero, List.set_cons_succ])
    apply relWalk_const (fun W => Below.refl _ _)
    · intro W hC hF
      rw [if_pos]
      · exact gives_load_row 46 _ rfl w.heap.size rfl 46 V (0, 0) _ (HP.out.below hC HP.out.lt) Try.underlying46 rfl HVi.out ⟨rfl, rfl⟩
      · rfl
    (try simp only [Act.put, List.setIfInBounds_toArray, List.set_cons_zero, List.set_cons_succ])
    repeat (first
      | (apply relWalk_const (fun W => Below.refl _ _)
         · (intro W hC hF
            clear hF
            have hq := heq W
            go_simp
            with_reducible exact rfl)
         (try simp only [Act.put, List.setIfInBounds_toArray, List.set_cons_zero, List.set_cons_succ])))
    apply relWalk_const (fun W => Below.refl _ _)
    · intro W hC hF
      rw [if_pos]
      · exact gives_load_row 46 _ rfl w.heap.size rfl 46 V (0, 0) _ (HP.out.below hC HP.out.lt) Try.underlying46 rfl HVi.out ⟨rfl, rfl⟩
      · rfl
    (try simp only [Act.put, List.setIfInBounds_toArray, List.set_cons_zero, List.set_cons_succ])
    refine relWalk_rel (fun v => v = .agg V) (fun _ _ => True) ⟨_, rfl⟩ (fun _ _ _ _ _ => trivial) (by rfl) ?_ ?_
    · intro W hC hF
      refine gives_call rfl [.pointer none, .agg V] rfl (enters_of Try.func36 (by kernel_rfl) rfl) ?_
      refine (HDn.out W hC).mono ?_
      rintro e w' ⟨rfl, hb⟩
      exact ⟨_, rfl, rfl, trivial, below_next hC hb, hb⟩
    rintro v rfl
    (try simp only [Act.put, List.setIfInBounds_toArray, List.set_cons_zero, List.set_cons_succ])
    apply relWalk_const (fun W => Below.refl _ _)
    · intro W hC hF
      rw [if_pos]
      · exact gives_load_row 46 _ rfl w.heap.size rfl 46 V (0, 0) _ (HP.out.below hC HP.out.lt) Try.underlying46 rfl HVi.out ⟨rfl, rfl⟩
      · rfl
    (try simp only [Act.put, List.setIfInBounds_toArray, List.set_cons_zero, List.set_cons_succ])
    repeat (first
      | (apply relWalk_const (fun W => Below.refl _ _)
         · (intro W hC hF
            clear hF
            have hq := heq W
            go_simp
            with_reducible exact rfl)
         (try simp only [Act.put, List.setIfInBounds_toArray, List.set_cons_zero, List.set_cons_succ])))
    apply relWalk_const (fun W => Below.refl _ _)
    · intro W hC hF
      rw [if_pos]
      · exact gives_load_row 46 _ rfl w.heap.size rfl 46 V (0, 0) _ (HP.out.below hC HP.out.lt) Try.underlying46 rfl HVi.out ⟨rfl, rfl⟩
      · rfl
    (try simp only [Act.put, List.setIfInBounds_toArray, List.set_cons_zero, List.set_cons_succ])
    refine relWalk_rel (fun v => v = .agg V) (fun _ _ => True) ⟨_, rfl⟩ (fun _ _ _ _ _ => trivial) (by rfl) ?_ ?_
    · intro W hC hF
      refine gives_call rfl [.pointer (some ⟨gd, 0, none⟩), .agg V] rfl (enters_of Try.func35 (by kernel_rfl) rfl) ?_
      refine (HEb.out W hC).mono ?_
      rintro e w' ⟨rfl, hb⟩
      exact ⟨_, rfl, rfl, trivial, below_next hC hb, hb⟩
    rintro v rfl
    (try simp only [Act.put, List.setIfInBounds_toArray, List.set_cons_zero, List.set_cons_succ])
    apply relWalk_const (fun W => Below.refl _ _)
    · intro W hC hF
      rw [if_pos]
      · exact gives_load_row 46 _ rfl w.heap.size rfl 46 V (0, 0) _ (HP.out.below hC HP.out.lt) Try.underlying46 rfl HVi.out ⟨rfl, rfl⟩
      · rfl
    (try simp only [Act.put, List.setIfInBounds_toArray, List.set_cons_zero, List.set_cons_succ])
    repeat (first
      | (apply relWalk_const (fun W => Below.refl _ _)
         · (intro W hC hF
            clear hF
            have hq := heq W
            go_simp
            with_reducible exact rfl)
         (try simp only [Act.put, List.setIfInBounds_toArray, List.set_cons_zero, List.set_cons_succ])))
    apply relWalk_const (fun W => Below.refl _ _)
    · intro W hC hF
      rw [if_pos]
      · exact gives_load_row 46 _ rfl w.heap.size rfl 46 V (0, 0) _ (HP.out.below hC HP.out.lt) Try.underlying46 rfl HVi.out ⟨rfl, rfl⟩
      · rfl
    (try simp only [Act.put, List.setIfInBounds_toArray, List.set_cons_zero, List.set_cons_succ])
    refine relWalk_rel (fun v => v = .agg V) (fun _ _ => True) ⟨_, rfl⟩ (fun _ _ _ _ _ => trivial) (by rfl) ?_ ?_
    · intro W hC hF
      refine gives_call rfl [.pointer (some ⟨gd, 0, none⟩), .agg V] rfl (enters_of Try.func36 (by kernel_rfl) rfl) ?_
      refine (HDb.out W hC).mono ?_
      rintro e w' ⟨rfl, hb⟩
      exact ⟨_, rfl, rfl, trivial, below_next hC hb, hb⟩
    rintro v rfl
    (try simp only [Act.put, List.setIfInBounds_toArray, List.set_cons_zero, List.set_cons_succ])
    apply relWalk_const (fun W => Below.refl _ _)
    · intro W hC hF
      rw [if_pos]
      · exact gives_load_row 46 _ rfl w.heap.size rfl 46 V (0, 0) _ (HP.out.below hC HP.out.lt) Try.underlying46 rfl HVi.out ⟨rfl, rfl⟩
      · rfl
    (try simp only [Act.put, List.setIfInBounds_toArray, List.set_cons_zero, List.set_cons_succ])
    repeat (first
      | (apply relWalk_const (fun W => Below.refl _ _)
         · (intro W hC hF
            clear hF
            have hq := heq W
            go_simp
            with_reducible exact rfl)
         (try simp only [Act.put, List.setIfInBounds_toArray, List.set_cons_zero, List.set_cons_succ])))
    refine relWalk_rel (fun v => v = .bool true) (fun _ _ => True) ⟨_, rfl⟩ (fun _ _ _ _ _ => trivial) (by rfl) ?_ ?_
    · intro W hC hF
      refine gives_call rfl [] rfl (enters_of Try.func39 (by kernel_rfl) rfl) ?_
      refine (HAl.out W hC).mono ?_
      rintro e w' ⟨rfl, hb⟩
      exact ⟨_, rfl, rfl, trivial, below_next hC hb, hb⟩
    rintro v rfl
    (try simp only [Act.put, List.setIfInBounds_toArray, List.set_cons_zero, List.set_cons_succ])
    repeat (first
      | (apply relWalk_const (fun W => Below.refl _ _)
         · (intro W hC hF
            clear hF
            have hq := heq W
            go_simp
            with_reducible exact rfl)
         (try simp only [Act.put, List.setIfInBounds_toArray, List.set_cons_zero, List.set_cons_succ])))
    apply relWalk_nil
    intro W hC hF
    clear hF
    have hend := hide (HB9.out.trans (hC.mono HB9.out.size))
    clear heq
    go_wp2
    go_ret
    exact ⟨rfl, hend.out⟩
  · have h1 : ((n0 : Int) == 32) = false := by simp; omega
    have h2 : ((n0 : Int) != 32) = true := by simp; omega
    go_enter Try.func10, Try.ntmps10
    go_wp2_with (first
      | (rw [← HW0.out]; go_at_call 34; (with_reducible refine (ciphernew_no A0 n0 c0 h32 W0).mono ?_); rintro e W1 ⟨rfl, rfl⟩)
      | (refine wpList_alloc_is rfl 61 rfl ZC hZC.out ?_))
    have P0 := HP0.out
    have HB1 := hide (Below.refl W0.heap.size W0)
    have HP := hide ((P0.below HB1.out P0.lt).alloc (.cells ZC 61))
    have HB9 := hide ((HB0.out.trans (HB1.out.mono HB0.out.size)).alloc (HB0.out.trans (HB1.out.mono HB0.out.size)).size (.cells ZC 61))
    have G0 := Blk.new W0 61 ZC
    have hg : W0.heap.size < (W0.alloc (.cells ZC 61)).heap.size := G0.lt
    have hcb : (W0.alloc (.cells ZC 61)).cell? ⟨W0.heap.size, 240, none⟩ = some (.pointer none) := (G0.cell 240).trans hZC2.out
    (try simp only [Act.put, List.setIfInBounds_toArray, List.set_cons_zero, List.set_cons_succ])
    clear G0
    obtain ⟨gd, hgd⟩ : ∃ gd, gd = W0.heap.size := ⟨_, rfl⟩
    rw [← hgd] at hg hcb ⊢
    generalize W0.alloc (.cells ZC 61) = W3 at *
    have HCB : Hid (∀ W, Below W3.heap.size W3 W → gd < W.heap.size ∧ W.cell? ⟨gd, 240, none⟩ = some (.pointer none)) := hide fun W h => ⟨Nat.lt_of_lt_of_le hg h.size, (h.cell (p := ⟨gd, 240, none⟩) hg).trans hcb⟩
    have HEn : Hid (∀ W, Below W3.heap.size W3 W → Calls Try.prog 35 #[.pointer none, .agg V] W fun e w' => e = .returned (.agg V) ∧ Below W.heap.size W w') := hide fun W _ => encrypt_nil b V HV.out W
    have HDn : Hid (∀ W, Below W3.heap.size W3 W → Calls Try.prog 36 #[.pointer none, .agg V] W fun e w' => e = .returned (.agg V) ∧ Below W.heap.size W w') := hide fun W _ => decrypt_nil b V HV.out W
    have HEb : Hid (∀ W, Below W3.heap.size W3 W → Calls Try.prog 35 #[.pointer (some ⟨gd, 0, none⟩), .agg V] W fun e w' => e = .returned (.agg V) ∧ Below W.heap.size W w') := hide fun W h => encrypt_blank b V HV.out gd W (HCB.out W h).1 (HCB.out W h).2
    have HDb : Hid (∀ W, Below W3.heap.size W3 W → Calls Try.prog 36 #[.pointer (some ⟨gd, 0, none⟩), .agg V] W fun e w' => e = .returned (.agg V) ∧ Below W.heap.size W w') := hide fun W h => decrypt_blank b V HV.out gd W (HCB.out W h).1 (HCB.out W h).2
    have HAl : Hid (∀ W, Below W3.heap.size W3 W → Calls Try.prog 39 #[] W fun e w' => e = .returned (.bool true) ∧ Below W.heap.size W w') := hide fun W _ => alive06_any W
    replace hgd := hide hgd
    clear HB1 hg hcb HCB
    apply wp_region_relT 28 (C := fun W => Below W3.heap.size W3 W) (M := fun W W' => Below W.heap.size W W') (ss := [_, _, _, _, _, _, _, _, _, _, _, _, _, _, _, _, _, _, _, _, _, _, _, _, _, _, _, _]) (by kernel_rfl) (by kernel_rfl) (by kernel_rfl) (by kernel_rfl) (Below.refl _ _).drew
    simp only [List.take_succ_cons, List.take_zero, List.drop_succ_cons, List.drop_zero]
    repeat (first
      | (apply relWalk_const (fun W => Below.refl _ _)
         · (intro W hC hF
            clear hF
            have hq := heq W
            go_simp
            with_reducible exact rfl)
         (try simp only [Act.put, List.setIfInBounds_toArray, List.set_cons_zero, List.set_cons_succ])))
    apply relWalk_const (fun W => Below.refl _ _)
    · intro W hC hF
      rw [if_pos]
      · exact gives_load_row 46 _ rfl w.heap.size rfl 46 V (0, 0) _ (HP.out.below hC HP.out.lt) Try.underlying46 rfl HVi.out ⟨rfl, rfl⟩
      · rfl
    (try simp only [Act.put, List.setIfInBounds_toArray, List.set_cons_zero, List.set_cons_succ])
    refine relWalk_rel (fun v => v = .agg V) (fun _ _ => True) ⟨_, rfl⟩ (fun _ _ _ _ _ => trivial) (by rfl) ?_ ?_
    · intro W hC hF
      refine gives_call rfl [.pointer none, .agg V] rfl (enters_of Try.func35 (by kernel_rfl) rfl) ?_
      refine (HEn.out W hC).mono ?_
      rintro e w' ⟨rfl, hb⟩
      exact ⟨_, rfl, rfl, trivial, below_next hC hb, hb⟩
    rintro v rfl
    (try simp only [Act.put, List.setIfInBounds_toArray, List.set_cons_zero, List.set_cons_succ])
    apply relWalk_const (fun W => Below.refl _ _)
    · intro W hC hF
      rw [if_pos]
      · exact gives_load_row 46 _ rfl w.heap.size rfl 46 V (0, 0) _ (HP.out.below hC HP.out.lt) Try.underlying46 rfl HVi.out ⟨rfl, rfl⟩
      · rfl
    (try simp only [Act.put, List.setIfInBounds_toArray, List.set_cons_zero, List.set_cons_succ])
    repeat (first
      | (apply relWalk_const (fun W => Below.refl _ _)
         · (intro W hC hF
            clear hF
            have hq := heq W
            go_simp
            with_reducible exact rfl)
         (try simp only [Act.put, List.setIfInBounds_toArray, List.set_cons_zero, List.set_cons_succ])))
    apply relWalk_const (fun W => Below.refl _ _)
    · intro W hC hF
      rw [if_pos]
      · exact gives_load_row 46 _ rfl w.heap.size rfl 46 V (0, 0) _ (HP.out.below hC HP.out.lt) Try.underlying46 rfl HVi.out ⟨rfl, rfl⟩
      · rfl
    (try simp only [Act.put, List.setIfInBounds_toArray, List.set_cons_zero, List.set_cons_succ])
    refine relWalk_rel (fun v => v = .agg V) (fun _ _ => True) ⟨_, rfl⟩ (fun _ _ _ _ _ => trivial) (by rfl) ?_ ?_
    · intro W hC hF
      refine gives_call rfl [.pointer none, .agg V] rfl (enters_of Try.func36 (by kernel_rfl) rfl) ?_
      refine (HDn.out W hC).mono ?_
      rintro e w' ⟨rfl, hb⟩
      exact ⟨_, rfl, rfl, trivial, below_next hC hb, hb⟩
    rintro v rfl
    (try simp only [Act.put, List.setIfInBounds_toArray, List.set_cons_zero, List.set_cons_succ])
    apply relWalk_const (fun W => Below.refl _ _)
    · intro W hC hF
      rw [if_pos]
      · exact gives_load_row 46 _ rfl w.heap.size rfl 46 V (0, 0) _ (HP.out.below hC HP.out.lt) Try.underlying46 rfl HVi.out ⟨rfl, rfl⟩
      · rfl
    (try simp only [Act.put, List.setIfInBounds_toArray, List.set_cons_zero, List.set_cons_succ])
    repeat (first
      | (apply relWalk_const (fun W => Below.refl _ _)
         · (intro W hC hF
            clear hF
            have hq := heq W
            go_simp
            with_reducible exact rfl)
         (try simp only [Act.put, List.setIfInBounds_toArray, List.set_cons_zero, List.set_cons_succ])))
    apply relWalk_const (fun W => Below.refl _ _)
    · intro W hC hF
      rw [if_pos]
      · exact gives_load_row 46 _ rfl w.heap.size rfl 46 V (0, 0) _ (HP.out.below hC HP.out.lt) Try.underlying46 rfl HVi.out ⟨rfl, rfl⟩
      · rfl
    (try simp only [Act.put, List.setIfInBounds_toArray, List.set_cons_zero, List.set_cons_succ])
    refine relWalk_rel (fun v => v = .agg V) (fun _ _ => True) ⟨_, rfl⟩ (fun _ _ _ _ _ => trivial) (by rfl) ?_ ?_
    · intro W hC hF
      refine gives_call rfl [.pointer (some ⟨gd, 0, none⟩), .agg V] rfl (enters_of Try.func35 (by kernel_rfl) rfl) ?_
      refine (HEb.out W hC).mono ?_
      rintro e w' ⟨rfl, hb⟩
      exact ⟨_, rfl, rfl, trivial, below_next hC hb, hb⟩
    rintro v rfl
    (try simp only [Act.put, List.setIfInBounds_toArray, List.set_cons_zero, List.set_cons_succ])
    apply relWalk_const (fun W => Below.refl _ _)
    · intro W hC hF
      rw [if_pos]
      · exact gives_load_row 46 _ rfl w.heap.size rfl 46 V (0, 0) _ (HP.out.below hC HP.out.lt) Try.underlying46 rfl HVi.out ⟨rfl, rfl⟩
      · rfl
    (try simp only [Act.put, List.setIfInBounds_toArray, List.set_cons_zero, List.set_cons_succ])
    repeat (first
      | (apply relWalk_const (fun W => Below.refl _ _)
         · (intro W hC hF
            clear hF
            have hq := heq W
            go_simp
            with_reducible exact rfl)
         (try simp only [Act.put, List.setIfInBounds_toArray, List.set_cons_zero, List.set_cons_succ])))
    apply relWalk_const (fun W => Below.refl _ _)
    · intro W hC hF
      rw [if_pos]
      · exact gives_load_row 46 _ rfl w.heap.size rfl 46 V (0, 0) _ (HP.out.below hC HP.out.lt) Try.underlying46 rfl HVi.out ⟨rfl, rfl⟩
      · rfl
    (try simp only [Act.put, List.setIfInBounds_toArray, List.set_cons_zero, List.set_cons_succ])
    refine relWalk_rel (fun v => v = .agg V) (fun _ _ => True) ⟨_, rfl⟩ (fun _ _ _ _ _ => trivial) (by rfl) ?_ ?_
    · intro W hC hF
      refine gives_call rfl [.pointer (some ⟨gd, 0, none⟩), .agg V] rfl (enters_of Try.func36 (by kernel_rfl) rfl) ?_
      refine (HDb.out W hC).mono ?_
      rintro e w' ⟨rfl, hb⟩
      exact ⟨_, rfl, rfl, trivial, below_next hC hb, hb⟩
    rintro v rfl
    (try simp only [Act.put, List.setIfInBounds_toArray, List.set_cons_zero, List.set_cons_succ])
    apply relWalk_const (fun W => Below.refl _ _)
    · intro W hC hF
      rw [if_pos]
      · exact gives_load_row 46 _ rfl w.heap.size rfl 46 V (0, 0) _ (HP.out.below hC HP.out.lt) Try.underlying46 rfl HVi.out ⟨rfl, rfl⟩
      · rfl
    (try simp only [Act.put, List.setIfInBounds_toArray, List.set_cons_zero, List.set_cons_succ])
    repeat (first
      | (apply relWalk_const (fun W => Below.refl _ _)
         · (intro W hC hF
            clear hF
            have hq := heq W
            go_simp
            with_reducible exact rfl)
         (try simp only [Act.put, List.setIfInBounds_toArray, List.set_cons_zero, List.set_cons_succ])))
    refine relWalk_rel (fun v => v = .bool true) (fun _ _ => True) ⟨_, rfl⟩ (fun _ _ _ _ _ => trivial) (by rfl) ?_ ?_
    · intro W hC hF
      refine gives_call rfl [] rfl (enters_of Try.func39 (by kernel_rfl) rfl) ?_
      refine (HAl.out W hC).mono ?_
      rintro e w' ⟨rfl, hb⟩
      exact ⟨_, rfl, rfl, trivial, below_next hC hb, hb⟩
    rintro v rfl
    (try simp only [Act.put, List.setIfInBounds_toArray, List.set_cons_zero, List.set_cons_succ])
    repeat (first
      | (apply relWalk_const (fun W => Below.refl _ _)
         · (intro W hC hF
            clear hF
            have hq := heq W
            go_simp
            with_reducible exact rfl)
         (try simp only [Act.put, List.setIfInBounds_toArray, List.set_cons_zero, List.set_cons_succ])))
    apply relWalk_nil
    intro W hC hF
    clear hF
    have hend := hide (HB9.out.trans (hC.mono HB9.out.size))
    clear heq
    go_wp2
    go_ret
    exact ⟨rfl, hend.out⟩
theorem cipherKeys_walk (w : World) (A0 : Option Addr) (n0 c0 : Nat) (bs0 : List (BitVec 8)) (r0 : Reads w w.heap.size 1 A0 n0 (bs0.map c8)) (m0 : n0 ≤ 9223372036854775807) (k0 : n0 ≤ c0) (b1 : List (BitVec 8)) (l1 : b1.length = 16) :
    Calls Try.prog 10 #[.slice A0 n0 c0, .agg (b1.map c8).toArray] w fun e w' => e = .returned (.bool true) ∧ Below w.heap.size w w' := by
  obtain ⟨V, hV⟩ := bVal b1 l1
  rw [← hV.val]
  exact cipherKeys_core w A0 n0 c0 bs0 r0 m0 k0 b1 V hV
end Go.Proofs.Ytdeljodfanfbmaa
