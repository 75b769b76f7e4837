/- Chapter 06's law: alive, the document's example. No condition. -/
import Derived.Test.YtdeljodfanfbmaaCipherRefMix
import Derived.Test.YtdeljodfanfbmaaBlockEq
namespace Go.Proofs.Ytdeljodfanfbmaa
open Go.RowKit Go.Shelf
set_option linter.unusedVariables false
set_option linter.unusedSimpArgs false
attribute [local go_sem] Gives givesUpon
attribute [local irreducible] Gives

set_option maxRecDepth 100000 in
theorem made8 (n : Nat) (hn : n ≤ 1099511627776) (w : World) : (Instr.makeSlice 51 (.int .i64 (n : Int)) (.int .i64 (n : Int))).run Try.prog w = .ok (.slice (some ⟨w.heap.size, 0, none⟩) n n) (w.alloc (.cells (List.replicate n (c8 0)).toArray 5)) := by
  obtain ⟨i0, hi, hz0, hz1, hz2⟩ := info_parts info_u8
  have := run_make (P := Try.prog) w 51 5 i0 (.int .u8 0) Try.underlying51 hi hz0 .i64 .i64 n n (by omega) (by omega) (by rw [hz2]; omega) (by omega)
  rw [hz1] at this
  rw [this]
  congr 4
  rw [madeCells]
  apply Array.ext
  · simp
  · intro i h1 h2
    simp [Value.cells, Nat.mod_one]
theorem key06_get (n : Nat) (hn : n < 32) : key06[n]? = some (BitVec.ofNat 8 n) := by
  unfold key06; rw [List.getElem?_map, List.getElem?_range hn]; rfl
theorem block06_get (n : Nat) (hn : n < 16) : block06[n]? = some (BitVec.ofNat 8 (17 * n)) := by
  unfold block06; rw [List.getElem?_map, List.getElem?_range hn]; rfl
theorem c8_ofNat (n : Nat) (h : n < 256) : c8 (BitVec.ofNat 8 n) = .int .u8 (n : Int) := by
  show Value.int .u8 ((BitVec.ofNat 8 n).toNat : Int) = _
  rw [toNat8 h]
set_option maxRecDepth 100000 in
set_option maxHeartbeats 3200000 in
theorem alive06_any (w : World) : Calls Try.prog 39 #[] w fun e w' => e = .returned (.bool true) ∧ Below w.heap.size w w' := by
  obtain ⟨Z, hZ, hZv⟩ := zeroB
  obtain ⟨Z0, hZ0⟩ : ∃ Z0, Z0 = List.replicate 32 0#8 := ⟨_, rfl⟩
  obtain ⟨C0, hC0⟩ : ∃ C0, C0 = (List.replicate 32 (c8 0)).toArray := ⟨_, rfl⟩
  have hmk : ∀ w, (Instr.makeSlice 51 (.int .i64 32) (.int .i64 32)).run Try.prog w = .ok (.slice (some ⟨w.heap.size, 0, none⟩) 32 32) (w.alloc (.cells C0 5)) := fun w => by rw [hC0]; exact made8 32 (by omega) w
  have kl : key06.length = 32 := rfl
  have zl : Z0.length = 32 := by rw [hZ0]; simp
  have Q0 : Hid (Blk (w.alloc (.cells C0 5)) w.heap.size 5 ((half key06 Z0 0).map c8).toArray) := hide (by
    have h := Blk.new w 5 C0
    rw [half_zero, hZ0]
    rw [show ((List.replicate 32 0#8).map c8).toArray = C0 by rw [hC0]; simp]
    exact h)
  have HB := hide ((Below.refl w.heap.size w).alloc (Nat.le_refl _) (.cells C0 5))
  replace hZ := hide hZ
  replace hZv := hide hZv
  replace hZ0 := hide hZ0
  replace hC0 := hide hC0
  replace kl := hide kl
  replace zl := hide zl
  go_enter Try.func39, Try.ntmps39
  go_wp2
  go_loopw [11] (fun v wr => ∃ n : Nat, n ≤ 32 ∧ v = .int .i64 (n : Int) ∧ Hid (Blk wr w.heap.size 5 ((half key06 Z0 n).map c8).toArray) ∧ Hid (Below w.heap.size w wr)) (fun v _ => 32 - (intOf v).toNat)
  case atStart => exact ⟨0, by omega, rfl, Q0, HB⟩
  case round =>
    obtain ⟨n, hn, rfl, P0, HP⟩ := hrel
    clear Q0 HB
    by_cases hlt : n < 32
    · have hd : decide ((n : Int) < 32) = true := by simp; omega
      have hk0 : (0 : Int) ≤ (n : Int) := by omega
      have hk1 : (n : Int) < 32 := by omega
      have hw8 : IntKind.u8.wrap (n : Int) = (n : Int) := IntWalk.u8_in _ (by omega)
      have HE := hide (half_next (key06_get n hlt) (by rw [zl.out]; exact hlt) P0.out)
      rw [c8_ofNat n (by omega)] at HE
      have df := P0.out.frozen n
      obtain ⟨u, dc⟩ : ∃ u, wr.cell? ⟨w.heap.size, n, none⟩ = some u := ⟨_, (P0.out.cell _).trans (by rw [List.getElem?_toArray]; exact List.getElem?_eq_getElem (by rw [List.length_map, half_len key06 Z0 n 32 kl.out zl.out hn]; exact hlt))⟩
      clear P0
      go_wp2
      go_roundw
      case rel => exact ⟨n + 1, hlt, int_succ n, HE, hide (HP.out.setCell (Nat.le_refl _) _)⟩
      case measure => simp [intOf]; omega
    · obtain rfl : n = 32 := by omega
      have hd : decide ((32 : Int) < 32) = false := by decide
      rw [half_all key06 Z0 32 kl.out zl.out] at P0
      have HRd : Hid (Reads wr wr.heap.size 1 (some ⟨w.heap.size, 0, none⟩) 32 (key06.map c8)) := hide ⟨rfl, fun _ => ⟨_, rfl, P0.out.lt, fun j v hv => by rw [Addr.add_lit, Nat.zero_add]; exact (P0.out.cell j).trans (by rw [List.getElem?_toArray]; exact hv)⟩⟩
      go_wp2_with (first
        | (go_at_call 34; (with_reducible refine (ciphernew_any _ 32 key06 wr HRd.out (by omega)).mono ?_); rintro e w1 ⟨g, rfl, hg, hC, hb1⟩; have HC1 := hide hC; have B1 := hide hb1; have HG := hide hg; clear hC hb1 hg)
        | (refine wpList_alloc_is rfl 46 rfl Z hZ.out ?_))
      have g5 := hide (Blk.new w1 46 Z)
      have zl2 : (List.replicate 16 0#8).length = 16 := rfl
      have bl : block06.length = 16 := rfl
      obtain ⟨ZL, hZL⟩ : ∃ ZL, ZL = List.replicate 16 0#8 := ⟨_, rfl⟩
      rw [← hZL] at zl2
      have G5 : Hid (Blk (w1.alloc (.cells Z 46)) w1.heap.size 46 ((half block06 ZL 0).map c8).toArray) := hide (by rw [half_zero, hZL, ← hZv.out.val]; exact g5.out)
      have BW := hide ((Below.refl w1.heap.size w1).alloc (Nat.le_refl _) (.cells Z 46))
      have HP1 := hide (HP.out.trans (B1.out.mono HP.out.size))
      replace zl2 := hide zl2
      replace bl := hide bl
      replace hZL := hide hZL
      clear P0 HRd g5 HP B1
      go_loopw [31] (fun v wr => ∃ n : Nat, n ≤ 16 ∧ v = .int .i64 (n : Int) ∧ Hid (Blk wr w1.heap.size 46 ((half block06 ZL n).map c8).toArray) ∧ Hid (Below w1.heap.size w1 wr)) (fun v _ => 16 - (intOf v).toNat)
      case atStart => exact ⟨0, by omega, rfl, G5, BW⟩
      case round =>
        obtain ⟨n, hn, rfl, P0, HP⟩ := hrel
        clear G5 BW
        by_cases hlt : n < 16
        · have hd : decide ((n : Int) < 16) = true := by simp; omega
          have hk0 : (0 : Int) ≤ (n : Int) := by omega
          have hk1 : (n : Int) < 16 := by omega
          have hw64 : IntKind.i64.wrap (17 * (n : Int)) = 17 * (n : Int) := IntWalk.i64_in _ (by omega)
          have hw8 : IntKind.u8.wrap (17 * (n : Int)) = 17 * (n : Int) := IntWalk.u8_in _ (by omega)
          have HE := hide (half_next (block06_get n hlt) (by rw [zl2.out]; exact hlt) P0.out)
          rw [c8_ofNat (17 * n) (by omega), show ((17 * n : Nat) : Int) = 17 * (n : Int) by omega] at HE
          have df := P0.out.frozen n
          obtain ⟨u, dc⟩ : ∃ u, wr.cell? ⟨w1.heap.size, n, none⟩ = some u := ⟨_, (P0.out.cell _).trans (by rw [List.getElem?_toArray]; exact List.getElem?_eq_getElem (by rw [List.length_map, half_len block06 ZL n 16 bl.out zl2.out hn]; exact hlt))⟩
          clear P0
          go_wp2
          go_roundw
          case rel => exact ⟨n + 1, hlt, int_succ n, HE, hide (HP.out.setCell (Nat.le_refl _) _)⟩
          case measure => simp [intOf]; omega
        · obtain rfl : n = 16 := by omega
          have hd : decide ((16 : Int) < 16) = false := by decide
          rw [half_all block06 ZL 16 bl.out zl2.out] at P0
          obtain ⟨V, hV⟩ := bVal block06 bl.out
          rw [← hV.val] at P0
          have HV := hide hV
          have HC2 := hide (HC1.out.below HP.out)
          have hkl := HC1.out.1
          obtain ⟨R, hR⟩ := bVal (encN sub8 (keysOf sub8 key06) block06 14) (encN_len _ _ _ _ bl.out hkl (by omega))
          have HR := hide hR
          have HEnc : Hid (Calls Try.prog 35 #[.pointer (some ⟨g, 0, none⟩), .agg V] wr fun e w' => e = .returned (.agg R) ∧ Below wr.heap.size wr w') := hide (by rw [hR.val]; exact encrypt_any g _ block06 V hV wr HC2.out)
          have HDec : Hid (∀ W, Below wr.heap.size wr W → Calls Try.prog 36 #[.pointer (some ⟨g, 0, none⟩), .agg R] W fun e w' => e = .returned (.agg V) ∧ Below W.heap.size W w') := hide fun W h => by
            have h2 := decrypt_any g (keysOf sub8 key06) _ R hR W (HC2.out.below h)
            rw [dec_enc _ _ 14 bl.out hkl (by omega), ← hV.val] at h2
            exact h2
          have HVi := hide hV.info
          clear hV hR hkl
          go_wp2_with (first
            | ((with_reducible show wpList _ _ _ (⟨_, .load 46 _, _, _, _, _⟩ :: _) _ _); refine wpList_load_row rfl 46 _ rfl w1.heap.size rfl 46 V (0, 0) _ P0.out Try.underlying46 rfl HVi.out ?_)
            | (go_at_call 35; (with_reducible refine HEnc.out.mono ?_); rintro e w2 ⟨rfl, hb2⟩; have B2 := hide hb2; clear hb2)
            | ((with_reducible show wpList _ _ _ (⟨_, .alloc _, _, _, _, _⟩ :: _) _ _); refine wpList_alloc_is rfl 46 rfl Z hZ.out ?_; have K7 := hide (Blk.new w2 46 Z); have B7 := hide (B2.out.alloc B2.out.size (.cells Z 46)))
            | ((with_reducible show wpList _ _ _ (⟨_, .store _ _ _, _, _, _, _⟩ :: _) _ _); refine wpList_store_row rfl 46 _ _ rfl w2.heap.size rfl R rfl 46 _ K7.out HR.out.info (by rw [hZv.out.size, HR.out.size]) HR.out.one ?_))
          have K8 := K7.out.setRow_ R
          have l2 := B2.out.size
          have B8 := below_setRow B7.out l2 R
          have P8 := P0.out.below B8 P0.out.lt
          (try simp only [Act.put, List.setIfInBounds_toArray, List.set_cons_zero, List.set_cons_succ])
          generalize (w2.alloc (.cells Z 46)).setRow w2.heap.size R = W3 at *
          have HDec3 : Hid (∀ W, Below W3.heap.size W3 W → Calls Try.prog 36 #[.pointer (some ⟨g, 0, none⟩), .agg R] W fun e w' => e = .returned (.agg V) ∧ Below W.heap.size W w') := hide fun W h => HDec.out W (B8.trans (h.mono B8.size))
          have hx := enc06
          obtain ⟨e0, e1, e15⟩ := hx
          have hRl := HR.out.len
          have x0 : W3.cell? ⟨w2.heap.size, 0, none⟩ = some (.int .u8 142) := (K8.cell 0).trans (by
            rw [HR.out.val, List.getElem?_toArray, List.getElem?_map]
            have h : (encN sub8 (keysOf sub8 key06) block06 14)[0]? = some 142#8 := by
              rw [← e0, encOf, List.getD, List.getElem?_eq_getElem (by rw [hRl]; omega)]; rfl
            rw [h]; rfl)
          have x1 : W3.cell? ⟨w2.heap.size, 1, none⟩ = some (.int .u8 162) := (K8.cell 1).trans (by
            rw [HR.out.val, List.getElem?_toArray, List.getElem?_map]
            have h : (encN sub8 (keysOf sub8 key06) block06 14)[1]? = some 162#8 := by
              rw [← e1, encOf, List.getD, List.getElem?_eq_getElem (by rw [hRl]; omega)]; rfl
            rw [h]; rfl)
          have x15 : W3.cell? ⟨w2.heap.size, 15, none⟩ = some (.int .u8 137) := (K8.cell 15).trans (by
            rw [HR.out.val, List.getElem?_toArray, List.getElem?_map]
            have h : (encN sub8 (keysOf sub8 key06) block06 14)[15]? = some 137#8 := by
              rw [← e15, encOf, List.getD, List.getElem?_eq_getElem (by rw [hRl]; omega)]; rfl
            rw [h]; rfl)
          have heq : ∀ W : World, (Op.equalIn 10000 46 (.agg V) (.agg V)).run Try.prog W = .ok true W := fun W => by
            have h := eq_block block06 block06 bl.out bl.out W
            rw [← HV.out.val] at h
            rw [h]; simp
          have l3 := K8.lt
          have HX0 := hide x0
          have HX1 := hide x1
          have HX15 := hide x15
          have HK8 := hide K8
          have HP8 := hide P8
          have HB9 := hide (HP1.out.trans ((HP.out.mono (HP1.out.size)).trans (B8.mono (Nat.le_trans HP1.out.size HP.out.size))))
          have HRi := hide HR.out.info
          clear e0 e1 e15 x0 x1 x15 K8 P8 K7 B7 P0 B2 B8 hRl
          apply wp_region_relT 21 (C := fun W => Below W3.heap.size W3 W) (M := fun W W' => Below W.heap.size W W') (ss := [_, _, _, _, _, _, _, _, _, _, _, _, _, _, _, _, _, _, _, _, _]) (by kernel_rfl) (by kernel_rfl) (by kernel_rfl) (by kernel_rfl) (Below.refl _ _).drew
          simp only [List.take_succ_cons, List.take_zero, List.drop_succ_cons, List.drop_zero]
          repeat (first
            | (apply relWalk_const (fun W => Below.refl _ _)
               · (intro W hC hF
                  clear hF
                  have d0 := ((hC.cell (p := ⟨w2.heap.size, 0, none⟩) (show w2.heap.size < _ by omega)).trans HX0.out)
                  have d1 := ((hC.cell (p := ⟨w2.heap.size, 1, none⟩) (show w2.heap.size < _ by omega)).trans HX1.out)
                  have d15 := ((hC.cell (p := ⟨w2.heap.size, 15, none⟩) (show w2.heap.size < _ by omega)).trans HX15.out)
                  go_simp
                  with_reducible exact rfl)
               (try simp only [Act.put, List.setIfInBounds_toArray, List.set_cons_zero, List.set_cons_succ])))
          apply relWalk_const (fun W => Below.refl _ _)
          · intro W hC hF
            rw [if_pos]
            · exact gives_load_row 46 _ rfl w2.heap.size rfl 46 R (0, 0) _ (HK8.out.below hC HK8.out.lt) Try.underlying46 rfl HRi.out ⟨rfl, rfl⟩
            · rfl
          (try simp only [Act.put, List.setIfInBounds_toArray, List.set_cons_zero, List.set_cons_succ])
          refine relWalk_rel (fun v => v = .agg V) (fun _ _ => True) ⟨_, rfl⟩ (fun _ _ _ _ _ => trivial) (by rfl) ?_ ?_
          · intro W hC hF
            refine gives_call rfl [.pointer (some ⟨g, 0, none⟩), .agg R] rfl (enters_of Try.func36 (by kernel_rfl) rfl) ?_
            refine (HDec3.out W hC).mono ?_
            rintro e w' ⟨rfl, hb⟩
            exact ⟨_, rfl, rfl, trivial, below_next hC hb, hb⟩
          rintro v rfl
          (try simp only [Act.put, List.setIfInBounds_toArray, List.set_cons_zero, List.set_cons_succ])
          apply relWalk_const (fun W => Below.refl _ _)
          · intro W hC hF
            rw [if_pos]
            · exact gives_load_row 46 _ rfl w1.heap.size rfl 46 V (0, 0) _ (HP8.out.below hC HP8.out.lt) Try.underlying46 rfl HVi.out ⟨rfl, rfl⟩
            · rfl
          (try simp only [Act.put, List.setIfInBounds_toArray, List.set_cons_zero, List.set_cons_succ])
          repeat (first
            | (apply relWalk_const (fun W => Below.refl _ _)
               · (intro W hC hF
                  clear hF
                  have hq := heq W
                  go_simp
                  with_reducible exact rfl)
               (try simp only [Act.put, List.setIfInBounds_toArray, List.set_cons_zero, List.set_cons_succ])))
          apply relWalk_nil
          intro W hC hF
          clear hF
          have hend := hide (HB9.out.trans (hC.mono (Nat.le_trans HB9.out.size (Nat.le_refl _))))
          clear heq
          go_wp2
          go_ret
          exact ⟨rfl, hend.out⟩
end Go.Proofs.Ytdeljodfanfbmaa
