/- Package cipher's Decrypt. No condition. -/
import Derived.Test.YtdeljodfanfbmaaCipherEnc
namespace Go.Proofs.Ytdeljodfanfbmaa
open Go.RowKit Go.Shelf
set_option linter.unusedVariables false
set_option linter.unusedSimpArgs false
attribute [local go_sem] Gives givesUpon
attribute [local irreducible] Gives

theorem EncI.bel {w wr : World} {Z R : Array Value} (h : EncI w Z R wr) : Below w.heap.size w wr := h.2.2
theorem decN_len (ks b : List (BitVec 8)) (n : Nat) (hb : b.length = 16) (hk : ks.length = 240) (hn : n ≤ 14) : (decN ks b n).length = 16 := by
  induction n generalizing b with
  | zero => exact xorL_len _ _ 16 hb (keyAt_len ks 0 hk (by omega))
  | succ n ih => exact ih _ (decS_len _ _) (by omega)
set_option maxRecDepth 100000 in
set_option maxHeartbeats 3200000 in
theorem decrypt_any (gc : Nat) (ks b : List (BitVec 8)) (V : Array Value) (hV : BVal b V) (w : World) (hC : CipherIs w gc ks) :
    Calls Try.prog 36 #[.pointer (some ⟨gc, 0, none⟩), .agg V] w fun e w' => e = .returned (.agg ((decN ks b 14).map c8).toArray) ∧ Below w.heap.size w w' := by
  obtain ⟨Z, hZ, hZv⟩ := zeroB
  obtain ⟨W0, hW0, sz, b0, b1, hB⟩ := blks2 w 46 46 V Z
  have hks : ks.length = 240 := hC.1
  have hg := hC.lt
  have kb : b.length = 16 := hV.len
  have hC0 := hC.below hB
  obtain ⟨gb, hcb, hbx⟩ := hC0.box
  have lgb := hC.box
  have HE0 : Hid (EncI w Z V W0) := hide ⟨b0, b1, hB⟩
  have HL0 : Hid (∀ W, Below w.heap.size w W → CipherIs W gc ks) := hide fun W h => hC.below h
  have hgb : gb < w.heap.size := by
    obtain ⟨gb', h1, h2⟩ := lgb
    have e := (hB.cell (p := ⟨gc, 240, none⟩) hg).symm.trans hcb
    rw [h1] at e
    cases e
    exact h2.lt
  have HBx : Hid (∀ W, Below w.heap.size w W → IsBox W gb) := hide fun W h => by
    obtain ⟨gb', h1, h2⟩ := lgb
    have e := (hB.cell (p := ⟨gc, 240, none⟩) hg).symm.trans hcb
    rw [h1] at e
    cases e
    exact h2.below h hgb
  have HCB : Hid (∀ W, Below w.heap.size w W → W.cell? ⟨gc, 240, none⟩ = some (.pointer (some ⟨gb, 0, none⟩))) := hide fun W h => by
    have e := (hB.cell (p := ⟨gc, 240, none⟩) hg).symm.trans hcb
    exact (h.cell (p := ⟨gc, 240, none⟩) hg).trans e
  have HVi := hide hV.info
  have HV := hide hV
  have HB := hide hB
  have Q0 := hide b0
  replace hZ := hide hZ
  replace hW0 := hide hW0
  replace hZv := hide hZv
  replace hks := hide hks
  replace kb := hide kb
  clear b0 b1 hB hC hC0 hbx lgb hV
  go_enter Try.func36, Try.ntmps36
  go_wp2_with (first
    | (refine wpList_alloc_is rfl 46 rfl Z hZ.out ?_; rw [hW0.out])
    | fail)
  obtain ⟨D, hD⟩ : ∃ D, D = decN ks b 14 := ⟨_, rfl⟩
  have hDl : D.length = 16 := by rw [hD]; exact decN_len ks b 14 kb.out hks.out (by omega)
  obtain ⟨RD, hRD⟩ := bVal D hDl
  have HRD := hide hRD
  have HDv : Hid ((((decN ks b 14)).map c8).toArray = RD) := hide (by rw [← hD, hRD.val])
  have HD : Hid (decN ks b 14 = D) := hide hD.symm
  clear hD hDl hRD Q0 hcb sz
  go_loopw [6] (fun v wr => ∃ (n : Nat) (l : List (BitVec 8)) (R : Array Value), n ≤ 14 ∧ v = .int .i64 (n : Int) ∧ Hid (decN ks l n = D) ∧ Hid (BVal l R) ∧ Hid (EncI w Z R wr)) (fun v _ => (intOf v).toNat)
  case atStart => exact ⟨14, b, V, by omega, rfl, HD, HV, HE0⟩
  case round =>
    obtain ⟨n, l, R, hn, rfl, hdl, HR, HE⟩ := hrel
    clear HE0 HD
    by_cases hlt : 0 < n
    · have hd : decide ((0 : Int) < (n : Int)) = true := by simp; omega
      have hk0 : (0 : Int) ≤ (n : Int) := by omega
      have hk1 : (n : Int) < 15 := by omega
      obtain ⟨m, hm⟩ : ∃ m, n = m + 1 := ⟨n - 1, by omega⟩
      have e1 : (n : Int) - 1 = (m : Int) := by omega
      have w1' : IntKind.i64.wrap (m : Int) = (m : Int) := IntWalk.i64_in _ (by omega)
      have HLW : ∀ W, Below wr.heap.size wr W → Below w.heap.size w W := fun W h => HE.out.2.2.trans (h.mono HE.out.2.2.size)
      obtain ⟨K, hK⟩ := bVal (keyAt ks n) (keyAt_len ks n hks.out hn)
      obtain ⟨KL, hKL⟩ : ∃ KL, KL = (keyAt ks n).map c8 := ⟨_, rfl⟩
      have HKv : Hid (KL.toArray = K) := hide (by rw [hK.val, hKL])
      have HKi : Hid ((Try.prog.info? 46).map (·.size) = some KL.length) := hide (by rw [hKL, List.length_map, keyAt_len ks n hks.out hn]; exact info_block)
      have HK3 : Hid (∀ W, Below wr.heap.size wr W → ∀ j v, KL[j]? = some v → W.cell? ((⟨gc, n * 16, none⟩ : Addr).add j) = some v) := hide fun W h j v hv => by
        rw [Nat.mul_comm n 16]
        rw [hKL] at hv
        exact (HL0.out W (HLW W h)).key n hn j v hv
      obtain ⟨x1, hx1⟩ : ∃ x1, x1 = xorL l (keyAt ks n) := ⟨_, rfl⟩
      have hl1 : x1.length = 16 := by rw [hx1]; exact xorL_len _ _ 16 HR.out.len (keyAt_len ks n hks.out hn)
      obtain ⟨R1, hR1⟩ := bVal x1 hl1
      have HR1 := hide hR1
      have HR1x : Hid (BVal (xorL l (keyAt ks n)) R1) := hide (by rw [← hx1]; exact hR1)
      obtain ⟨x2, hx2⟩ : ∃ x2, x2 = (if n < 14 then colB unRow x1 else x1) := ⟨_, rfl⟩
      have hl2 : x2.length = 16 := by rw [hx2]; split; exact colB_len _ _; exact hl1
      obtain ⟨R2, hR2⟩ := bVal x2 hl2
      obtain ⟨R3, hR3⟩ := bVal (turnB 3 x2) (turnB_len _ _)
      obtain ⟨R4, hR4⟩ := bVal ((turnB 3 x2).map back8) (by rw [List.length_map]; exact turnB_len _ _)
      have HDN : Hid (decN ks ((turnB 3 x2).map back8) m = D) := hide (by
        have h := hdl.out
        rw [hm, decN, ← hm, ← hx1, decS, ← hx2] at h
        exact h)
      have HTurn : Hid (∀ W, Calls Try.prog 63 #[.agg R2, .int .i64 (-1)] W fun e w' => e = .returned (.agg R3) ∧ Below W.heap.size W w') := hide fun W => cturn_v (-1) 3 (.inr ⟨rfl, rfl⟩) _ R2 hR2 R3 hR3 W
      have HEach : Hid (∀ W, Below w.heap.size w W → Calls Try.prog 62 #[.agg R3, .func (.func 28) #[.pointer (some ⟨gb, 0, none⟩)] #[]] W fun e w' => e = .returned (.agg R4) ∧ Below W.heap.size W w') := hide fun W h =>
        ceach_v _ (enters_of Try.func28 (by kernel_rfl) rfl) _ back8 _ R3 hR3 R4 hR4 W (fun x W2 h2 => boxback_8 gb x W2 (HBx.out W2 (h.trans (h2.mono h.size))))
      have HR2 := hide hR2
      have HR4 := hide hR4
      replace hK := hide hK
      replace hKL := hide hKL
      replace hm := hide hm
      by_cases h14 : n < 14
      · have hd2 : decide ((n : Int) < 14) = true := by simp; omega
        have HCol : Hid (∀ W, Calls Try.prog 64 #[.agg R1, .func (.func 42) #[] #[]] W fun e w' => e = .returned (.agg R2) ∧ Below W.heap.size W w') := hide fun W =>
          ccolumn_v _ (enters_of Try.func42 (by kernel_rfl) rfl) unRow _ R1 HR1.out R2 (by have h := HR2.out; rw [hx2, if_pos h14] at h; exact h) W (fun col V W2 h1 h2 => cunmix_any col V h1 W2)
        clear HLW hl1 hl2 hR1 hR2 hR3 hR4 hx1 hx2
        go_wp2
        apply wp_region_relT 7 (C := fun W => Below wr.heap.size wr W) (M := fun W W' => Below W.heap.size W W') (ss := [_, _, _, _, _, _, _]) (by kernel_rfl) (by kernel_rfl) (by kernel_rfl) (by kernel_rfl) (Below.refl _ _).drew
        simp only [List.take_succ_cons, List.take_zero, List.drop_succ_cons, List.drop_zero]
        apply relWalk_const (fun W => Below.refl _ _)
        · intro W hC hF
          rw [if_pos (wanted_none _ rfl)]
          exact gives_load_row 46 _ rfl w.heap.size rfl 46 _ (0, 0) _ (HE.out.later hC).1 Try.underlying46 rfl HR.out.info ⟨rfl, rfl⟩
        (try simp only [Act.put, List.setIfInBounds_toArray, List.set_cons_zero, List.set_cons_succ])
        repeat (first
          | (apply relWalk_const (fun W => Below.refl _ _)
             · (intro W hC hF
                clear hF
                go_simp
                with_reducible exact rfl)
             (try simp only [Act.put, List.setIfInBounds_toArray, List.set_cons_zero, List.set_cons_succ])))
        apply relWalk_const (c := .agg K) (fun W => Below.refl _ _)
        · intro W hC hF
          rw [if_pos (wanted_none _ rfl)]
          exact gives_load_at 46 _ rfl ⟨gc, n * 16, none⟩ rfl (KL) _ Try.underlying46 rfl HKi.out (HK3.out W hC) ⟨by rw [HKv.out], rfl⟩
        (try simp only [Act.put, List.setIfInBounds_toArray, List.set_cons_zero, List.set_cons_succ])
        apply relWalk_nil
        intro W hC hF
        clear hF
        have HX := hide (cxor_v _ _ _ _ HR.out hK.out _ HR1x.out W)
        have HEW := hide (HE.out.later hC)
        go_wp2_with (first
          | (go_at_call 61; (with_reducible refine HX.out.mono ?_); rintro e w1 ⟨rfl, hb1⟩; have HE1 := hide (HEW.out.later hb1); clear hb1)
          | ((with_reducible show wpList _ _ _ (⟨_, .store _ _ _, _, _, _, _⟩ :: _) _ _); refine wpList_store_row rfl 46 _ _ rfl w.heap.size rfl R1 rfl 46 _ HE1.out.1 HR1.out.info (by rw [HR.out.size, HR1.out.size]) HR1.out.one ?_; have HE2 := hide (HE1.out.put R1))
          | ((with_reducible show wpList _ _ _ (⟨_, .load 46 _, _, _, _, _⟩ :: _) _ _); refine wpList_load_row rfl 46 _ rfl w.heap.size rfl 46 R1 (0, 0) _ HE2.out.1 Try.underlying46 rfl HR1.out.info ?_)
          | (go_at_call 64; (with_reducible refine (HCol.out _).mono ?_); rintro e w2 ⟨rfl, hb2⟩; have HE3 := hide (HE2.out.later hb2); clear hb2)
          | ((with_reducible show wpList _ _ _ (⟨_, .store _ _ _, _, _, _, _⟩ :: _) _ _); refine wpList_store_row rfl 46 _ _ rfl w.heap.size rfl R2 rfl 46 _ HE3.out.1 HR2.out.info (by rw [HR1.out.size, HR2.out.size]) HR2.out.one ?_; have HE4 := hide (HE3.out.put R2))
          | ((with_reducible show wpList _ _ _ (⟨_, .load 46 _, _, _, _, _⟩ :: _) _ _); refine wpList_load_row rfl 46 _ rfl w.heap.size rfl 46 R2 (0, 0) _ HE4.out.1 Try.underlying46 rfl HR2.out.info ?_)
          | (go_at_call 63; (with_reducible refine (HTurn.out _).mono ?_); rintro e w3 ⟨rfl, hb3⟩; have HE5 := hide (HE4.out.later hb3); clear hb3)
          | (go_at_call 62; (with_reducible refine (HEach.out _ HE5.out.bel).mono ?_); rintro e w4 ⟨rfl, hb4⟩; have HE6 := hide (HE5.out.later hb4); clear hb4)
          | ((with_reducible show wpList _ _ _ (⟨_, .store _ _ _, _, _, _, _⟩ :: _) _ _); refine wpList_store_row rfl 46 _ _ rfl w.heap.size rfl R4 rfl 46 _ HE6.out.1 HR4.out.info (by rw [HR2.out.size, HR4.out.size]) HR4.out.one ?_; have HE7 := hide (HE6.out.put R4)))
        go_roundw
        case rel => exact ⟨m, _, R4, by have := hm.out; omega, rfl, HDN, HR4, HE7⟩
        case measure => simp [intOf]; have := hm.out; omega
      · have hd2 : decide ((n : Int) < 14) = false := by simp; omega
        obtain rfl : x2 = x1 := by rw [hx2, if_neg h14]
        have HTurn1 : Hid (∀ W, Calls Try.prog 63 #[.agg R1, .int .i64 (-1)] W fun e w' => e = .returned (.agg R3) ∧ Below W.heap.size W w') := hide fun W => cturn_v (-1) 3 (.inr ⟨rfl, rfl⟩) _ R1 HR1.out R3 hR3 W
        clear HLW hl1 hl2 hR1 hR2 hR3 hR4 hx1 hx2
        go_wp2
        apply wp_region_relT 7 (C := fun W => Below wr.heap.size wr W) (M := fun W W' => Below W.heap.size W W') (ss := [_, _, _, _, _, _, _]) (by kernel_rfl) (by kernel_rfl) (by kernel_rfl) (by kernel_rfl) (Below.refl _ _).drew
        simp only [List.take_succ_cons, List.take_zero, List.drop_succ_cons, List.drop_zero]
        apply relWalk_const (fun W => Below.refl _ _)
        · intro W hC hF
          rw [if_pos (wanted_none _ rfl)]
          exact gives_load_row 46 _ rfl w.heap.size rfl 46 _ (0, 0) _ (HE.out.later hC).1 Try.underlying46 rfl HR.out.info ⟨rfl, rfl⟩
        (try simp only [Act.put, List.setIfInBounds_toArray, List.set_cons_zero, List.set_cons_succ])
        repeat (first
          | (apply relWalk_const (fun W => Below.refl _ _)
             · (intro W hC hF
                clear hF
                go_simp
                with_reducible exact rfl)
             (try simp only [Act.put, List.setIfInBounds_toArray, List.set_cons_zero, List.set_cons_succ])))
        apply relWalk_const (c := .agg K) (fun W => Below.refl _ _)
        · intro W hC hF
          rw [if_pos (wanted_none _ rfl)]
          exact gives_load_at 46 _ rfl ⟨gc, n * 16, none⟩ rfl (KL) _ Try.underlying46 rfl HKi.out (HK3.out W hC) ⟨by rw [HKv.out], rfl⟩
        (try simp only [Act.put, List.setIfInBounds_toArray, List.set_cons_zero, List.set_cons_succ])
        apply relWalk_nil
        intro W hC hF
        clear hF
        have HX := hide (cxor_v _ _ _ _ HR.out hK.out _ HR1x.out W)
        have HEW := hide (HE.out.later hC)
        go_wp2_with (first
          | (go_at_call 61; (with_reducible refine HX.out.mono ?_); rintro e w1 ⟨rfl, hb1⟩; have HE1 := hide (HEW.out.later hb1); clear hb1)
          | ((with_reducible show wpList _ _ _ (⟨_, .store _ _ _, _, _, _, _⟩ :: _) _ _); refine wpList_store_row rfl 46 _ _ rfl w.heap.size rfl R1 rfl 46 _ HE1.out.1 HR1.out.info (by rw [HR.out.size, HR1.out.size]) HR1.out.one ?_; have HE2 := hide (HE1.out.put R1))
          | ((with_reducible show wpList _ _ _ (⟨_, .load 46 _, _, _, _, _⟩ :: _) _ _); refine wpList_load_row rfl 46 _ rfl w.heap.size rfl 46 R1 (0, 0) _ HE2.out.1 Try.underlying46 rfl HR1.out.info ?_)
          | (go_at_call 63; (with_reducible refine (HTurn1.out _).mono ?_); rintro e w3 ⟨rfl, hb3⟩; have HE5 := hide (HE2.out.later hb3); clear hb3)
          | (go_at_call 62; (with_reducible refine (HEach.out _ HE5.out.bel).mono ?_); rintro e w4 ⟨rfl, hb4⟩; have HE6 := hide (HE5.out.later hb4); clear hb4)
          | ((with_reducible show wpList _ _ _ (⟨_, .store _ _ _, _, _, _, _⟩ :: _) _ _); refine wpList_store_row rfl 46 _ _ rfl w.heap.size rfl R4 rfl 46 _ HE6.out.1 HR4.out.info (by rw [HR1.out.size, HR4.out.size]) HR4.out.one ?_; have HE7 := hide (HE6.out.put R4)))
        go_roundw
        case rel => exact ⟨m, _, R4, by have := hm.out; omega, rfl, HDN, HR4, HE7⟩
        case measure => simp [intOf]; have := hm.out; omega
    · obtain rfl : n = 0 := by omega
      have hd : decide ((0 : Int) < ((0 : Nat) : Int)) = false := by decide
      have HR1x : Hid (BVal (xorL l (keyAt ks 0)) RD) := hide (by
        have h := hdl.out
        rw [decN] at h
        rw [h]; exact HRD.out)
      obtain ⟨K, hK⟩ := bVal (keyAt ks 0) (keyAt_len ks 0 hks.out (by omega))
      obtain ⟨KL, hKL⟩ : ∃ KL, KL = (keyAt ks 0).map c8 := ⟨_, rfl⟩
      have HKv : Hid (KL.toArray = K) := hide (by rw [hK.val, hKL])
      have HKi : Hid ((Try.prog.info? 46).map (·.size) = some KL.length) := hide (by rw [hKL, List.length_map, keyAt_len ks 0 hks.out (by omega)]; exact info_block)
      have HK3 : Hid (∀ W, Below wr.heap.size wr W → ∀ j v, KL[j]? = some v → W.cell? ((⟨gc, 0, none⟩ : Addr).add j) = some v) := hide fun W h j v hv => by
        rw [hKL] at hv
        exact (HL0.out W (HE.out.2.2.trans (h.mono HE.out.2.2.size))).key 0 (by omega) j v hv
      have HI := hide HRD.out.info
      have HZs : Hid (Z.size = RD.size) := hide (by rw [HRD.out.size, hZv.out.size])
      have HO := hide HRD.out.one
      replace hK := hide hK
      replace hKL := hide hKL
      go_wp2
      apply wp_region_relT 6 (C := fun W => Below wr.heap.size wr W) (M := fun W W' => Below W.heap.size W W') (ss := [_, _, _, _, _, _]) (by kernel_rfl) (by kernel_rfl) (by kernel_rfl) (by kernel_rfl) (Below.refl _ _).drew
      simp only [List.take_succ_cons, List.take_zero, List.drop_succ_cons, List.drop_zero]
      apply relWalk_const (fun W => Below.refl _ _)
      · intro W hC hF
        rw [if_pos (wanted_none _ rfl)]
        exact gives_load_row 46 _ rfl w.heap.size rfl 46 _ (0, 0) _ (HE.out.later hC).1 Try.underlying46 rfl HR.out.info ⟨rfl, rfl⟩
      (try simp only [Act.put, List.setIfInBounds_toArray, List.set_cons_zero, List.set_cons_succ])
      repeat (first
        | (apply relWalk_const (fun W => Below.refl _ _)
           · (intro W hC hF
              clear hF
              go_simp
              with_reducible exact rfl)
           (try simp only [Act.put, List.setIfInBounds_toArray, List.set_cons_zero, List.set_cons_succ])))
      apply relWalk_const (c := .agg K) (fun W => Below.refl _ _)
      · intro W hC hF
        rw [if_pos (wanted_none _ rfl)]
        exact gives_load_at 46 _ rfl ⟨gc, 0, none⟩ rfl (KL) _ Try.underlying46 rfl HKi.out (HK3.out W hC) ⟨by rw [HKv.out], rfl⟩
      (try simp only [Act.put, List.setIfInBounds_toArray, List.set_cons_zero, List.set_cons_succ])
      apply relWalk_nil
      intro W hC hF
      clear hF
      have HX := hide (cxor_v _ _ _ _ HR.out hK.out _ HR1x.out W)
      have HEW := hide (HE.out.later hC)
      go_wp2_with (first
        | (go_at_call 61; (with_reducible refine HX.out.mono ?_); rintro e w1 ⟨rfl, hb1⟩; have HE1 := hide (HEW.out.later hb1); clear hb1)
        | ((with_reducible show wpList _ _ _ (⟨_, .store _ _ _, _, _, _, _⟩ :: _) _ _); refine wpList_store_row rfl 46 _ _ rfl (w.heap.size + 1) rfl RD rfl 46 _ HE1.out.2.1 HI.out HZs.out HO.out ?_))
      refine bodyPost_ret (v := .agg RD) ?_ rfl ⟨by rw [HDv.out], ?_⟩
      · exact results_cell_row rfl _ _ (w.heap.size + 1) 46 RD (0, 0) _ rfl (setRow_heap _ _ _ _ _ _ HE1.out.2.1) Try.underlying46 rfl HI.out
      · exact below_setRow HE1.out.2.2 (by omega) _
end Go.Proofs.Ytdeljodfanfbmaa
