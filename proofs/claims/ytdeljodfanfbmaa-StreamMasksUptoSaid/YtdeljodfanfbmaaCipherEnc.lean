/- Package cipher's Encrypt. No condition. -/
import Derived.Test.YtdeljodfanfbmaaCipherNew
namespace Go.Proofs.Ytdeljodfanfbmaa
open Go.RowKit Go.Shelf
set_option linter.unusedVariables false
set_option linter.unusedSimpArgs false
attribute [local go_sem] Gives givesUpon
attribute [local irreducible] Gives

/-- the block that is worked at, and the answer's block, behind all that was -/
def EncI (w : World) (Z R : Array Value) (wr : World) : Prop := Blk wr w.heap.size 46 R ∧ Blk wr (w.heap.size + 1) 46 Z ∧ Below w.heap.size w wr
theorem EncI.later {w wr w' : World} {Z R : Array Value} (h : EncI w Z R wr) (hb : Below wr.heap.size wr w') : EncI w Z R w' :=
  ⟨h.1.below hb h.1.lt, h.2.1.below hb h.2.1.lt, h.2.2.trans (hb.mono h.2.2.size)⟩
theorem EncI.put {w wr : World} {Z R : Array Value} (h : EncI w Z R wr) (R1 : Array Value) : EncI w Z R1 (wr.setRow w.heap.size R1) :=
  ⟨h.1.setRow_ _, h.2.1.setRow_far _ (by omega), below_setRow h.2.2 (Nat.le_refl _) _⟩
theorem cxor_v (a k : List (BitVec 8)) (V K : Array Value) (hV : BVal a V) (hK : BVal k K) (R : Array Value) (hR : BVal (xorL a k) R) (w : World) :
    Calls Try.prog 61 #[.agg V, .agg K] w fun e w' => e = .returned (.agg R) ∧ Below w.heap.size w w' := by rw [hR.val]; exact cxor_any a k V K hV hK w
theorem cturn_v (z : Int) (s : Nat) (hz : Sign z s) (a : List (BitVec 8)) (V : Array Value) (hV : BVal a V) (R : Array Value) (hR : BVal (turnB s a) R) (w : World) :
    Calls Try.prog 63 #[.agg V, .int .i64 z] w fun e w' => e = .returned (.agg R) ∧ Below w.heap.size w w' := by rw [hR.val]; exact cturn_any z s hz a V hV w
theorem ccolumn_v (F : FuncId) (hE : Enters Try.prog F) (row a : List (BitVec 8)) (V : Array Value) (hV : BVal a V) (R : Array Value) (hR : BVal (colB row a) R) (w : World)
    (HF : ∀ col V W, CVal col V → Below w.heap.size w W → Calls Try.prog F #[.agg V] W fun e w' => e = .returned (.agg ((byC row col).map c8).toArray) ∧ Below W.heap.size W w') :
    Calls Try.prog 64 #[.agg V, .func (.func F) #[] #[]] w fun e w' => e = .returned (.agg R) ∧ Below w.heap.size w w' := by rw [hR.val]; exact ccolumn_any F hE row a V hV w HF
theorem ceach_v (F : FuncId) (hE : Enters Try.prog F) (p : Value) (s : BitVec 8 → BitVec 8) (a : List (BitVec 8)) (V : Array Value) (hV : BVal a V) (R : Array Value) (hR : BVal (a.map s) R) (w : World)
    (HF : ∀ x W, Below w.heap.size w W → Calls Try.prog F #[p, c8 x] W fun e w' => e = .returned (c8 (s x)) ∧ W = w') :
    Calls Try.prog 62 #[.agg V, .func (.func F) #[p] #[]] w fun e w' => e = .returned (.agg R) ∧ Below w.heap.size w w' := by rw [hR.val]; exact ceach_any F hE p s a V hV w HF
/-- a round key, where it stands -/
theorem CipherIs.key {w : World} {g : Nat} {ks : List (BitVec 8)} (h : CipherIs w g ks) (r : Nat) (hr : r ≤ 14) (j : Nat) (v : Value) (hv : ((keyAt ks r).map c8)[j]? = some v) : w.cell? ((⟨g, 16 * r, none⟩ : Addr).add j) = some v := by
  obtain ⟨hl, gb, h1, _⟩ := h
  have hj : j < 16 := by have := (List.getElem?_eq_some_iff.1 hv).1; rw [List.length_map, keyAt_len ks r hl hr] at this; exact this
  rw [Addr.add_lit, h1.cell]
  simp only [cipherCells, List.getElem?_toArray]
  rw [List.getElem?_append_left (by rw [List.length_map, hl]; omega)]
  rw [keyAt, List.map_take, List.map_drop, List.getElem?_take_of_lt hj, List.getElem?_drop] at hv
  exact hv
theorem CipherIs.box {w : World} {g : Nat} {ks : List (BitVec 8)} (h : CipherIs w g ks) : ∃ gb, w.cell? ⟨g, 240, none⟩ = some (.pointer (some ⟨gb, 0, none⟩)) ∧ IsBox w gb := by
  obtain ⟨hl, gb, h1, h2⟩ := h
  refine ⟨gb, (h1.cell 240).trans ?_, h2⟩
  simp only [cipherCells, List.getElem?_toArray]
  rw [List.getElem?_append_right (by rw [List.length_map, hl]; omega), List.length_map, hl]; rfl
theorem CipherIs.lt {w : World} {g : Nat} {ks : List (BitVec 8)} (h : CipherIs w g ks) : g < w.heap.size := by obtain ⟨_, gb, h1, _⟩ := h; exact h1.lt
theorem boxsub_8 (g : Nat) (x : BitVec 8) (w : World) (hb : IsBox w g) : Calls Try.prog 26 #[.pointer (some ⟨g, 0, none⟩), c8 x] w fun e w' => e = .returned (c8 (sub8 x)) ∧ w = w' := by
  refine (boxsub_any g x.toNat x.isLt w hb).mono ?_
  rintro e w' ⟨rfl, rfl⟩
  exact ⟨by rw [← sub8_nat], rfl⟩
theorem boxback_8 (g : Nat) (x : BitVec 8) (w : World) (hb : IsBox w g) : Calls Try.prog 28 #[.pointer (some ⟨g, 0, none⟩), c8 x] w fun e w' => e = .returned (c8 (back8 x)) ∧ w = w' := by
  refine (boxback_any g x.toNat x.isLt w hb).mono ?_
  rintro e w' ⟨rfl, rfl⟩
  exact ⟨by rw [← back8_nat], rfl⟩
set_option maxRecDepth 100000 in
set_option maxHeartbeats 3200000 in
theorem encrypt_any (gc : Nat) (ks b : List (BitVec 8)) (V : Array Value) (hV : BVal b V) (w : World) (hC : CipherIs w gc ks) :
    Calls Try.prog 35 #[.pointer (some ⟨gc, 0, none⟩), .agg V] w fun e w' => e = .returned (.agg ((encN sub8 ks b 14).map c8).toArray) ∧ Below w.heap.size w w' := by
  obtain ⟨Z, hZ, hZv⟩ := zeroB
  obtain ⟨W0, hW0, sz, b0, b1, hB⟩ := blks2 w 46 46 V Z
  have hks : ks.length = 240 := hC.1
  have hg := hC.lt
  have kb : b.length = 16 := hV.len
  have hC0 := hC.below hB
  obtain ⟨gb, hcb, hbx⟩ := hC0.box
  have lgb := hC.box
  have HE0 : Hid (EncI w Z V W0) := hide ⟨b0, b1, hB⟩
  have HL0 : Hid (∀ W, Below w.heap.size w W → CipherIs W gc ks) := hide fun W h => hC.below h
  have hgb : gb < w.heap.size := by
    obtain ⟨gb', h1, h2⟩ := lgb
    have e := (hB.cell (p := ⟨gc, 240, none⟩) hg).symm.trans hcb
    rw [h1] at e
    cases e
    exact h2.lt
  have HBx : Hid (∀ W, Below w.heap.size w W → IsBox W gb) := hide fun W h => by
    obtain ⟨gb', h1, h2⟩ := lgb
    have e := (hB.cell (p := ⟨gc, 240, none⟩) hg).symm.trans hcb
    rw [h1] at e
    cases e
    exact h2.below h hgb
  have HCB : Hid (∀ W, Below w.heap.size w W → W.cell? ⟨gc, 240, none⟩ = some (.pointer (some ⟨gb, 0, none⟩))) := hide fun W h => by
    have e := (hB.cell (p := ⟨gc, 240, none⟩) hg).symm.trans hcb
    exact (h.cell (p := ⟨gc, 240, none⟩) hg).trans e
  have HVi := hide hV.info
  have HV := hide hV
  have HB := hide hB
  have Q0 := hide b0
  replace hZ := hide hZ
  replace hW0 := hide hW0
  replace hZv := hide hZv
  replace hks := hide hks
  replace kb := hide kb
  clear b0 b1 hB hC hC0 hbx lgb hV
  go_enter Try.func35, Try.ntmps35
  go_wp2_with (first
    | (refine wpList_alloc_is rfl 46 rfl Z hZ.out ?_; rw [hW0.out])
    | fail)
  obtain ⟨R0, hR0⟩ := bVal (encN sub8 ks b 0) (encN_len sub8 ks b 0 kb.out hks.out (by omega))
  have HR0 : Hid (BVal (xorL b (keyAt ks 0)) R0) := hide hR0
  obtain ⟨K, hK⟩ := bVal (keyAt ks 0) (keyAt_len ks 0 hks.out (by omega))
  obtain ⟨KL, hKL⟩ : ∃ KL, KL = (keyAt ks 0).map c8 := ⟨_, rfl⟩
  have HKv : Hid (KL.toArray = K) := hide (by rw [hK.val, hKL])
  have HKi : Hid ((Try.prog.info? 46).map (·.size) = some KL.length) := hide (by rw [hKL, List.length_map, keyAt_len ks 0 hks.out (by omega)]; exact info_block)
  have HK : Hid (∀ W, Below W0.heap.size W0 W → ∀ j v, KL[j]? = some v → W.cell? ((⟨gc, 0, none⟩ : Addr).add j) = some v) := hide fun W h j v hv => by
    rw [hKL] at hv
    exact (HL0.out W (HB.out.trans (h.mono HB.out.size))).key 0 (by omega) j v hv
  replace hK := hide hK
  replace hKL := hide hKL
  have HRb0 := hide hR0
  clear hR0
  apply wp_region_relT 6 (C := fun W => Below W0.heap.size W0 W) (M := fun W W' => Below W.heap.size W W') (ss := [_, _, _, _, _, _]) (by kernel_rfl) (by kernel_rfl) (by kernel_rfl) (by kernel_rfl) (Below.refl _ _).drew
  simp only [List.take_succ_cons, List.take_zero, List.drop_succ_cons, List.drop_zero]
  apply relWalk_const (fun W => Below.refl _ _)
  · intro W hC hF
    rw [if_pos (wanted_none _ rfl)]
    exact gives_load_row 46 _ rfl w.heap.size rfl 46 _ (0, 0) _ (HE0.out.later hC).1 Try.underlying46 rfl HV.out.info ⟨rfl, rfl⟩
  (try simp only [Act.put, List.setIfInBounds_toArray, List.set_cons_zero, List.set_cons_succ])
  repeat (first
    | (apply relWalk_const (fun W => Below.refl _ _)
       · (intro W hC hF
          clear hF
          go_simp
          with_reducible exact rfl)
       (try simp only [Act.put, List.setIfInBounds_toArray, List.set_cons_zero, List.set_cons_succ])))
  apply relWalk_const (c := .agg K) (fun W => Below.refl _ _)
  · intro W hC hF
    rw [if_pos (wanted_none _ rfl)]
    exact gives_load_at 46 _ rfl ⟨gc, 0, none⟩ rfl (KL) _ Try.underlying46 rfl HKi.out (HK.out W hC) ⟨by rw [HKv.out], rfl⟩
  (try simp only [Act.put, List.setIfInBounds_toArray, List.set_cons_zero, List.set_cons_succ])
  apply relWalk_nil
  intro W hC hF
  clear hF
  have HX := hide (cxor_v _ _ _ _ HV.out hK.out _ HR0.out W)
  have HEW := hide (HE0.out.later hC)
  go_wp2_with (first
    | (go_at_call 61; (with_reducible refine HX.out.mono ?_); rintro e w1 ⟨rfl, hb1⟩; have HE1 := hide (HEW.out.later hb1); clear hb1)
    | ((with_reducible show wpList _ _ _ (⟨_, .store _ _ _, _, _, _, _⟩ :: _) _ _); refine wpList_store_row rfl 46 _ _ rfl w.heap.size rfl R0 rfl 46 _ HE1.out.1 HR0.out.info (by rw [HV.out.size, HR0.out.size]) HR0.out.one ?_; have HE2 := hide (HE1.out.put R0); have hcb2 := HCB.out _ HE2.out.2.2)
    | fail)
  clear HE0 HE1 HEW HX HR0 HKv HKi HK hK hKL hcb Q0 HB sz hcb2
  generalize w1.setRow w.heap.size R0 = W1 at *
  go_loopw [6] (fun v wr => ∃ (n r : Nat) (R : Array Value), n ≤ 14 ∧ Hid (r = n + 1) ∧ v = .int .i64 (r : Int) ∧ Hid (BVal (encN sub8 ks b n) R) ∧ Hid (EncI w Z R wr)) (fun v _ => 15 - (intOf v).toNat)
  case atStart => exact ⟨0, 1, R0, by omega, hide rfl, rfl, HRb0, HE2⟩
  case round =>
    obtain ⟨n, r, R, hn, hr, rfl, HR, HE⟩ := hrel
    clear HE2
    have hr1 := hr.out
    by_cases hlt : n < 14
    · have hd : decide ((r : Int) ≤ 14) = true := by simp; omega
      have hk0 : (0 : Int) ≤ (r : Int) := by omega
      have hk1 : (r : Int) < 15 := by omega
      have HLW : ∀ W, Below wr.heap.size wr W → Below w.heap.size w W := fun W h => HE.out.2.2.trans (h.mono HE.out.2.2.size)
      have hl0 := encN_len sub8 ks b n kb.out hks.out hn
      obtain ⟨R1, hR1⟩ := bVal ((encN sub8 ks b n).map sub8) (by rw [List.length_map]; exact hl0)
      obtain ⟨R2, hR2⟩ := bVal (turnB 1 ((encN sub8 ks b n).map sub8)) (turnB_len _ _)
      have HEach : Hid (∀ W, Below wr.heap.size wr W → Calls Try.prog 62 #[.agg R, .func (.func 26) #[.pointer (some ⟨gb, 0, none⟩)] #[]] W fun e w' => e = .returned (.agg R1) ∧ Below W.heap.size W w') := hide fun W h =>
        ceach_v _ (enters_of Try.func26 (by kernel_rfl) rfl) _ sub8 _ R HR.out R1 hR1 W (fun x W2 h2 => boxsub_8 gb x W2 (HBx.out W2 ((HLW W h).trans (h2.mono (HLW W h).size))))
      have HTurn : Hid (∀ W, Calls Try.prog 63 #[.agg R1, .int .i64 1] W fun e w' => e = .returned (.agg R2) ∧ Below W.heap.size W w') := hide fun W => cturn_v 1 1 (.inl ⟨rfl, rfl⟩) _ R1 hR1 R2 hR2 W
      obtain ⟨R4, hR4⟩ := bVal (encN sub8 ks b (n + 1)) (encN_len sub8 ks b (n + 1) kb.out hks.out (by omega))
      obtain ⟨K, hK⟩ := bVal (keyAt ks r) (keyAt_len ks r hks.out (by omega))
      obtain ⟨KL, hKL⟩ : ∃ KL, KL = (keyAt ks r).map c8 := ⟨_, rfl⟩
      have HKv : Hid (KL.toArray = K) := hide (by rw [hK.val, hKL])
      have HKi : Hid ((Try.prog.info? 46).map (·.size) = some KL.length) := hide (by rw [hKL, List.length_map, keyAt_len ks r hks.out (by omega)]; exact info_block)
      have HKc : Hid (∀ W, Below w.heap.size w W → ∀ j v, KL[j]? = some v → W.cell? ((⟨gc, 16 * r, none⟩ : Addr).add j) = some v) := hide fun W h j v hv => by
        rw [hKL] at hv
        exact (HL0.out W h).key r (by omega) j v hv
      have HR2 := hide hR2
      have HR4 := hide hR4
      replace hK := hide hK
      replace hKL := hide hKL
      clear HLW hl0 hR1 hR2 hR4
      by_cases h14 : n < 13
      · have hd2 : decide ((r : Int) < 14) = true := by simp; omega
        obtain ⟨R3, hR3⟩ := bVal (colB mixRow (turnB 1 ((encN sub8 ks b n).map sub8))) (colB_len _ _)
        have HR3 := hide hR3
        have HCol : Hid (∀ W, Calls Try.prog 64 #[.agg R2, .func (.func 40) #[] #[]] W fun e w' => e = .returned (.agg R3) ∧ Below W.heap.size W w') := hide fun W =>
          ccolumn_v _ (enters_of Try.func40 (by kernel_rfl) rfl) mixRow _ R2 HR2.out R3 hR3 W (fun col V W2 h1 h2 => cmix_any col V h1 W2)
        have HRK : Hid (BVal (xorL (colB mixRow (turnB 1 ((encN sub8 ks b n).map sub8))) (keyAt ks r)) R4) := hide (by
          have h := HR4.out
          rw [encN, encS, if_pos (by omega), ← hr.out] at h
          exact h)
        clear hR3 hr1
        go_wp2_with (first
          | ((with_reducible show wpList _ _ _ (⟨_, .load 46 _, _, _, _, _⟩ :: _) _ _); refine wpList_load_row rfl 46 _ rfl w.heap.size rfl 46 R (0, 0) _ HE.out.1 Try.underlying46 rfl HR.out.info ?_)
          | ((with_reducible show wpList _ _ _ (⟨_, .load 46 _, _, _, _, _⟩ :: _) _ _); refine wpList_load_row rfl 46 _ rfl w.heap.size rfl 46 R2 (0, 0) _ HE3.out.1 Try.underlying46 rfl HR2.out.info ?_)
          | (go_at_call 62; (with_reducible refine (HEach.out _ (Below.refl _ _)).mono ?_); rintro e w1 ⟨rfl, hb1⟩; have HE1 := hide (HE.out.later hb1); clear hb1)
          | (go_at_call 63; (with_reducible refine (HTurn.out _).mono ?_); rintro e w2 ⟨rfl, hb2⟩; have HE2 := hide (HE1.out.later hb2); clear hb2)
          | ((with_reducible show wpList _ _ _ (⟨_, .store _ _ _, _, _, _, _⟩ :: _) _ _); refine wpList_store_row rfl 46 _ _ rfl w.heap.size rfl R2 rfl 46 _ HE2.out.1 HR2.out.info (by rw [HR.out.size, HR2.out.size]) HR2.out.one ?_; have HE3 := hide (HE2.out.put R2))
          | (go_at_call 64; (with_reducible refine (HCol.out _).mono ?_); rintro e w3 ⟨rfl, hb3⟩; have HE4 := hide (HE3.out.later hb3); clear hb3)
          | ((with_reducible show wpList _ _ _ (⟨_, .store _ _ _, _, _, _, _⟩ :: _) _ _); refine wpList_store_row rfl 46 _ _ rfl w.heap.size rfl R3 rfl 46 _ HE4.out.1 HR3.out.info (by rw [HR2.out.size, HR3.out.size]) HR3.out.one ?_; have HE5 := hide (HE4.out.put R3)))
        (try simp only [Act.put, List.setIfInBounds_toArray, List.set_cons_zero, List.set_cons_succ])
        clear HE1 HE2 HE3 HE4 HE
        generalize w3.setRow w.heap.size R3 = W3 at *
        have HK3 : Hid (∀ W, Below W3.heap.size W3 W → ∀ j v, KL[j]? = some v → W.cell? ((⟨gc, r * 16, none⟩ : Addr).add j) = some v) := hide fun W h => by rw [Nat.mul_comm r 16]; exact HKc.out W (HE5.out.2.2.trans (h.mono HE5.out.2.2.size))
        apply wp_region_relT 7 (C := fun W => Below W3.heap.size W3 W) (M := fun W W' => Below W.heap.size W W') (ss := [_, _, _, _, _, _, _]) (by kernel_rfl) (by kernel_rfl) (by kernel_rfl) (by kernel_rfl) (Below.refl _ _).drew
        simp only [List.take_succ_cons, List.take_zero, List.drop_succ_cons, List.drop_zero]
        apply relWalk_const (fun W => Below.refl _ _)
        · intro W hC hF
          rw [if_pos (wanted_none _ rfl)]
          exact gives_load_row 46 _ rfl w.heap.size rfl 46 _ (0, 0) _ (HE5.out.later hC).1 Try.underlying46 rfl HR3.out.info ⟨rfl, rfl⟩
        (try simp only [Act.put, List.setIfInBounds_toArray, List.set_cons_zero, List.set_cons_succ])
        repeat (first
          | (apply relWalk_const (fun W => Below.refl _ _)
             · (intro W hC hF
                clear hF
                go_simp
                with_reducible exact rfl)
             (try simp only [Act.put, List.setIfInBounds_toArray, List.set_cons_zero, List.set_cons_succ])))
        apply relWalk_const (c := .agg K) (fun W => Below.refl _ _)
        · intro W hC hF
          rw [if_pos (wanted_none _ rfl)]
          exact gives_load_at 46 _ rfl ⟨gc, r * 16, none⟩ rfl (KL) _ Try.underlying46 rfl HKi.out (HK3.out W hC) ⟨by rw [HKv.out], rfl⟩
        (try simp only [Act.put, List.setIfInBounds_toArray, List.set_cons_zero, List.set_cons_succ])
        apply relWalk_nil
        intro W hC hF
        clear hF
        have HX := hide (cxor_v _ _ _ _ HR3.out hK.out _ HRK.out W)
        have HEW := hide (HE5.out.later hC)
        go_wp2_with (first
          | (go_at_call 61; (with_reducible refine HX.out.mono ?_); rintro e w4 ⟨rfl, hb4⟩; have HE6 := hide (HEW.out.later hb4); clear hb4)
          | ((with_reducible show wpList _ _ _ (⟨_, .store _ _ _, _, _, _, _⟩ :: _) _ _); refine wpList_store_row rfl 46 _ _ rfl w.heap.size rfl R4 rfl 46 _ HE6.out.1 HR4.out.info (by rw [HR3.out.size, HR4.out.size]) HR4.out.one ?_; have HE7 := hide (HE6.out.put R4)))
        go_roundw
        case rel => exact ⟨n + 1, r + 1, R4, by omega, hide (by rw [hr.out]), int_succ r, HR4, HE7⟩
        case measure => simp [intOf]; omega
      · have hd2 : decide ((r : Int) < 14) = false := by simp; omega
        have HRK : Hid (BVal (xorL (turnB 1 ((encN sub8 ks b n).map sub8)) (keyAt ks r)) R4) := hide (by
          have h := HR4.out
          rw [encN, encS, if_neg (by omega), ← hr.out] at h
          exact h)
        clear hr1
        go_wp2_with (first
          | ((with_reducible show wpList _ _ _ (⟨_, .load 46 _, _, _, _, _⟩ :: _) _ _); refine wpList_load_row rfl 46 _ rfl w.heap.size rfl 46 R (0, 0) _ HE.out.1 Try.underlying46 rfl HR.out.info ?_)
          | (go_at_call 62; (with_reducible refine (HEach.out _ (Below.refl _ _)).mono ?_); rintro e w1 ⟨rfl, hb1⟩; have HE1 := hide (HE.out.later hb1); clear hb1)
          | (go_at_call 63; (with_reducible refine (HTurn.out _).mono ?_); rintro e w2 ⟨rfl, hb2⟩; have HE2 := hide (HE1.out.later hb2); clear hb2)
          | ((with_reducible show wpList _ _ _ (⟨_, .store _ _ _, _, _, _, _⟩ :: _) _ _); refine wpList_store_row rfl 46 _ _ rfl w.heap.size rfl R2 rfl 46 _ HE2.out.1 HR2.out.info (by rw [HR.out.size, HR2.out.size]) HR2.out.one ?_; have HE3 := hide (HE2.out.put R2)))
        (try simp only [Act.put, List.setIfInBounds_toArray, List.set_cons_zero, List.set_cons_succ])
        clear HE1 HE2 HE
        generalize w2.setRow w.heap.size R2 = W3 at *
        have HK3 : Hid (∀ W, Below W3.heap.size W3 W → ∀ j v, KL[j]? = some v → W.cell? ((⟨gc, r * 16, none⟩ : Addr).add j) = some v) := hide fun W h => by rw [Nat.mul_comm r 16]; exact HKc.out W (HE3.out.2.2.trans (h.mono HE3.out.2.2.size))
        apply wp_region_relT 7 (C := fun W => Below W3.heap.size W3 W) (M := fun W W' => Below W.heap.size W W') (ss := [_, _, _, _, _, _, _]) (by kernel_rfl) (by kernel_rfl) (by kernel_rfl) (by kernel_rfl) (Below.refl _ _).drew
        simp only [List.take_succ_cons, List.take_zero, List.drop_succ_cons, List.drop_zero]
        apply relWalk_const (fun W => Below.refl _ _)
        · intro W hC hF
          rw [if_pos (wanted_none _ rfl)]
          exact gives_load_row 46 _ rfl w.heap.size rfl 46 _ (0, 0) _ (HE3.out.later hC).1 Try.underlying46 rfl HR2.out.info ⟨rfl, rfl⟩
        (try simp only [Act.put, List.setIfInBounds_toArray, List.set_cons_zero, List.set_cons_succ])
        repeat (first
          | (apply relWalk_const (fun W => Below.refl _ _)
             · (intro W hC hF
                clear hF
                go_simp
                with_reducible exact rfl)
             (try simp only [Act.put, List.setIfInBounds_toArray, List.set_cons_zero, List.set_cons_succ])))
        apply relWalk_const (c := .agg K) (fun W => Below.refl _ _)
        · intro W hC hF
          rw [if_pos (wanted_none _ rfl)]
          exact gives_load_at 46 _ rfl ⟨gc, r * 16, none⟩ rfl (KL) _ Try.underlying46 rfl HKi.out (HK3.out W hC) ⟨by rw [HKv.out], rfl⟩
        (try simp only [Act.put, List.setIfInBounds_toArray, List.set_cons_zero, List.set_cons_succ])
        apply relWalk_nil
        intro W hC hF
        clear hF
        have HX := hide (cxor_v _ _ _ _ HR2.out hK.out _ HRK.out W)
        have HEW := hide (HE3.out.later hC)
        go_wp2_with (first
          | (go_at_call 61; (with_reducible refine HX.out.mono ?_); rintro e w4 ⟨rfl, hb4⟩; have HE6 := hide (HEW.out.later hb4); clear hb4)
          | ((with_reducible show wpList _ _ _ (⟨_, .store _ _ _, _, _, _, _⟩ :: _) _ _); refine wpList_store_row rfl 46 _ _ rfl w.heap.size rfl R4 rfl 46 _ HE6.out.1 HR4.out.info (by rw [HR2.out.size, HR4.out.size]) HR4.out.one ?_; have HE7 := hide (HE6.out.put R4)))
        go_roundw
        case rel => exact ⟨n + 1, r + 1, R4, by omega, hide (by rw [hr.out]), int_succ r, HR4, HE7⟩
        case measure => simp [intOf]; omega
    · obtain rfl : n = 14 := by omega
      obtain rfl : r = 15 := by omega
      have hd : decide ((15 : Int) ≤ 14) = false := by decide
      have HI := hide HR.out.info
      have HZs : Hid (Z.size = R.size) := hide (by rw [HR.out.size, hZv.out.size])
      have HO := hide HR.out.one
      have HVR := hide HR.out.val
      clear hr hr1
      go_wp2_with (first
        | ((with_reducible show wpList _ _ _ (⟨_, .load 46 _, _, _, _, _⟩ :: _) _ _); refine wpList_load_row rfl 46 _ rfl w.heap.size rfl 46 R (0, 0) _ HE.out.1 Try.underlying46 rfl HR.out.info ?_)
        | ((with_reducible show wpList _ _ _ (⟨_, .store _ _ _, _, _, _, _⟩ :: _) _ _); refine wpList_store_row rfl 46 _ _ rfl (w.heap.size + 1) rfl R rfl 46 _ HE.out.2.1 HI.out HZs.out HO.out ?_))
      refine bodyPost_ret (v := .agg R) ?_ rfl ⟨by rw [← HVR.out], ?_⟩
      · exact results_cell_row rfl _ _ (w.heap.size + 1) 46 R (0, 0) _ rfl (setRow_heap _ _ _ _ _ _ HE.out.2.1) Try.underlying46 rfl HI.out
      · exact below_setRow HE.out.2.2 (by omega) _
end Go.Proofs.Ytdeljodfanfbmaa
