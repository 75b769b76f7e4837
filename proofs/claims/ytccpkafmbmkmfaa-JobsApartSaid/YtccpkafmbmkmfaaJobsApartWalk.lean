/- The walk of miradorlaw29.JobsApart. No condition. -/
import Derived.Test.YtccpkafmbmkmfaaJobApart
namespace Go.Proofs.Ytccpkafmbmkmfaa
open Go.RowKit Go.Shelf
set_option linter.unusedVariables false
set_option linter.unusedSimpArgs false
attribute [local go_sem] Gives givesUpon
attribute [local irreducible] Gives

/-- what the law asks first -/
structure AskA (w : World) (W0 : World) (j : JobM) (v : Value) (R : Array Value) (T : List TierK) : Prop where
  few : ∀ W, Below W0.heap.size W0 W → Calls Try.prog 41 #[.agg #[v]] W fun e w' => e = .returned (.bool (fewP (plainT T))) ∧ Below W.heap.size W w'
  right : ∀ W, Below W0.heap.size W0 W → Calls Try.prog 42 #[.agg R] W fun e w' => e = .returned (.bool (rightJ j (plainT T))) ∧ Below W.heap.size W w'
theorem AskA.of {w W0 : World} {j : JobM} {v : Value} {R : Array Value} {T : List TierK} (hb : Below w.heap.size w W0) (J : JobVal j v R) (P : PayAt w (fun i => i < w.heap.size) v T) (kn : T.length ≤ 9223372036854775807) : AskA w W0 j v R T :=
  ⟨fun W hW => few13_any v T W _ (P.below (below_next hb hW)) kn, fun W hW => refjright_any j v R J T W _ (P.below (below_next hb hW)) kn⟩
theorem stepR_pos : ∀ (L : List TierV) (o : Option (BitVec 32)), stepR o L = true → ∀ p ∈ L, 1 ≤ p.2.length
  | [], _, _, p, hp => by cases hp
  | q :: L, o, h, p, hp => by
    simp only [stepR, Bool.and_eq_true, decide_eq_true_eq] at h
    rcases List.mem_cons.1 hp with rfl | hp
    · exact h.1.1.1
    · exact stepR_pos L _ h.2 p hp
set_option maxRecDepth 100000 in
set_option maxHeartbeats 1600000 in
theorem jobsApart_in (w : World) (j : JobM) (v : Value) (R : Array Value) (T : List TierK) (J : JobVal j v R) (hj : j.breach.length = 32) (P : PayAt w (fun i => i < w.heap.size) v T) (kn : T.length ≤ 9223372036854775807) :
    Calls Try.prog 9 #[.agg R] w fun e w' => e = .returned (.bool true) ∧ Below w.heap.size w w' := by
  obtain ⟨W0, hW0⟩ : ∃ W0, W0 = w.alloc (.cells R 75) := ⟨_, rfl⟩
  have hb0 : Below w.heap.size w W0 := by rw [hW0]; exact (Below.refl _ _).alloc (Nat.le_refl _) _
  have hq0 : Blk W0 w.heap.size 75 R := by rw [hW0]; exact Blk.new w _ R
  have HB0 := hide hb0
  have HQ0 := hide hq0
  have HA := hide (AskA.of hb0 J P kn)
  have HJ := hide J
  have HP := hide P
  have HRv : Hid ((jobCells j v).toArray = R) := hide J.val.symm
  have HIj : Hid ((Try.prog.info? 75).map (·.size) = some (jobCells j v).length) := hide (by rw [jobCells_len hj]; exact info_job)
  obtain ⟨A, c, rfl, _, _⟩ := id P
  have x37 : W0.cell? ⟨w.heap.size, 37, none⟩ = some (.slice A T.length c) := (hq0.cell 37).trans J.pay
  have HAl : Hid (∀ W, Below w.heap.size w W → Calls Try.prog 43 #[] W fun e w' => e = .returned (.bool true) ∧ Below W.heap.size W w') := hide fun W _ => alive29_any W
  have HLd : Hid (∀ W, Blk W w.heap.size 75 R → ∀ i u, (jobCells j (.slice A T.length c))[i]? = some u → W.cell? ((⟨w.heap.size, 0, none⟩ : Addr).add i) = some u) := hide fun W hW i u hu => by
    rw [Addr.add_lit, Nat.zero_add, hW.cell, J.val, List.getElem?_toArray]; exact hu
  obtain ⟨fw, hfw⟩ : ∃ fw, fw = fewP (plainT T) := ⟨_, rfl⟩
  obtain ⟨rt, hrt⟩ : ∃ rt, rt = rightJ j (plainT T) := ⟨_, rfl⟩
  have HF1 := hide (fun W (hW : Below W0.heap.size W0 W) => HA.out.few W hW)
  have HF2 := hide (fun W (hW : Below W0.heap.size W0 W) => HA.out.right W hW)
  rw [← hfw] at HF1
  rw [← hrt] at HF2
  have HRt := hide hrt
  clear hb0 hq0 J P HA hfw hrt
  by_cases hno : fw = false
  · subst hno
    go_enter Try.func9, Try.ntmps9
    go_upto_region 1 with (fail)
    rw [← hW0]
    clear hW0
    go_wp2_with (first
      | (go_at_call 41; (with_reducible refine (HF1.out _ (Below.refl _ _)).mono ?_); rintro e w1 ⟨rfl, hb1⟩; have HB1 := hide (below_next HB0.out hb1); clear hb1)
      | (go_at_call 43; (with_reducible refine (HAl.out _ HB1.out).mono ?_); rintro e w2 ⟨rfl, hb2⟩; have HB2 := hide (below_next HB1.out hb2); clear hb2)
      | fail)
    go_ret
    exact ⟨rfl, HB2.out⟩
  obtain rfl : fw = true := by simpa using hno
  clear hno
  by_cases hno : rt = false
  · subst hno
    go_enter Try.func9, Try.ntmps9
    go_upto_region 1 with (fail)
    rw [← hW0]
    clear hW0
    go_wp2_with (first
      | (go_at_call 41; (with_reducible refine (HF1.out _ (Below.refl _ _)).mono ?_); rintro e w1 ⟨rfl, hb1⟩; have HQ1 := hide (HQ0.out.below hb1 HQ0.out.lt); have HB1 := hide (below_next HB0.out hb1); have HC2 := hide (HF2.out w1 hb1); clear hb1)
      | ((with_reducible show wpList _ _ _ (⟨some 19, .load _ _, _, _, _, _⟩ :: _) _ _); refine wpList_load_want (by go_simp) 75 _ rfl ⟨w.heap.size, 0, none⟩ rfl (jobCells j (.slice A T.length c)) _ Try.underlying75 rfl HIj.out (HLd.out _ HQ1.out) ?_; rw [HRv.out])
      | (go_at_call 42; (with_reducible refine HC2.out.mono ?_); rintro e w2 ⟨rfl, hb2⟩; have HB2 := hide (below_next HB1.out hb2); clear hb2)
      | (go_at_call 43; (with_reducible refine (HAl.out _ HB2.out).mono ?_); rintro e w3 ⟨rfl, hb3⟩; have HB3 := hide (below_next HB2.out hb3); clear hb3)
      | fail)
    go_ret
    exact ⟨rfl, HB3.out⟩
  obtain rfl : rt = true := by simpa using hno
  clear hno
  have hm := modest_right HRt.out.symm
  have HMo := hide hm
  have HRj : Hid (rightJ j (plainT T) = true) := hide HRt.out.symm
  have hTl : 1 ≤ T.length ∧ T.length ≤ 8 ∧ ∀ p ∈ T, 1 ≤ p.2.2.length := by
    have := HRj.out
    unfold rightJ rightP at this
    have hpl : (plainT T).length = T.length := by simp [plainT]
    simp only [Bool.and_eq_true, decide_eq_true_eq, hpl] at this
    refine ⟨this.1.1.1, this.1.1.2, fun p hp => ?_⟩
    exact stepR_pos (plainT T) none this.1.2 (p.1, p.2.2) (List.mem_map.2 ⟨p, hp, rfl⟩)
  obtain ⟨ZJ, hZJ, hZJs⟩ := zero_job
  have HZJ := hide hZJ
  have HZJs := hide hZJs
  obtain ⟨V, hV⟩ : ∃ V, V = (j.breach.map c8).toArray := ⟨_, rfl⟩
  obtain ⟨RO, hRO⟩ := jobVal hj (v := .slice none 0 0) rfl
  have HRO := hide hRO
  have HBd : Hid (Try.prog.built 75 [(0, .agg #[c32 j.ses, c32 j.seq]), (1, .agg V), (2, c32 j.height), (3, c32 j.mined), (4, ci j.live)] = some RO) := hide (by rw [hV, built_job j hj, hRO.val])
  have HIi : Hid ((Try.prog.info? 70).map (·.size) = some (j.breach.map c8).length) := hide (by rw [List.length_map, hj]; exact info_id)
  have HV := hide hV.symm
  have HLb : Hid (∀ W, Blk W w.heap.size 75 R → ∀ i u, (j.breach.map c8)[i]? = some u → W.cell? ((⟨w.heap.size, 2, none⟩ : Addr).add i) = some u) := hide fun W hW i u hu => by
    rw [Addr.add_lit, hW.cell, HJ.out.val, List.getElem?_toArray]; exact breach_get hj hu
  have HKc : Hid (∀ W, Blk W w.heap.size 75 R → W.cell? ⟨w.heap.size, 0, none⟩ = some (c32 j.ses) ∧ W.cell? ⟨w.heap.size, 1, none⟩ = some (c32 j.seq)) := hide fun W hW =>
    ⟨(hW.cell 0).trans HJ.out.ses, (hW.cell 1).trans HJ.out.seq⟩
  clear hm hZJ hZJs hV hRO
  go_enter Try.func9, Try.ntmps9
  go_upto_region 1 with (fail)
  rw [← hW0]
  clear hW0
  go_upto_region 3 with (first
    | (go_at_call 41; (with_reducible refine (HF1.out _ (Below.refl _ _)).mono ?_); rintro e w1 ⟨rfl, hb1⟩; have HQ1 := hide (HQ0.out.below hb1 HQ0.out.lt); have HB1 := hide (below_next HB0.out hb1); have HC2 := hide (HF2.out w1 hb1); clear hb1)
    | ((with_reducible show wpList _ _ _ (⟨some 19, .load _ _, _, _, _, _⟩ :: _) _ _); refine wpList_load_want (by go_simp) 75 _ rfl ⟨w.heap.size, 0, none⟩ rfl (jobCells j (.slice A T.length c)) _ Try.underlying75 rfl HIj.out (HLd.out _ HQ1.out) ?_; rw [HRv.out])
    | (go_at_call 42; (with_reducible refine HC2.out.mono ?_); rintro e w2 ⟨rfl, hb2⟩; have HB2 := hide (below_next HB1.out hb2); have HQ2 := hide (HQ1.out.below hb2 HQ1.out.lt); clear hb2)
    | fail)
  obtain ⟨q0, q1⟩ := HKc.out w2 HQ2.out
  have y34 : w2.cell? ⟨w.heap.size, 34, none⟩ = some (c32 j.height) := (HQ2.out.cell 34).trans HJ.out.height
  have y35 : w2.cell? ⟨w.heap.size, 35, none⟩ = some (c32 j.mined) := (HQ2.out.cell 35).trans HJ.out.mined
  have y36 : w2.cell? ⟨w.heap.size, 36, none⟩ = some (ci j.live) := (HQ2.out.cell 36).trans HJ.out.live
  clear HQ0 HQ1 HB0 HB1 HC2 HF1 HF2
  go_upto_region 4 with (first
    | ((with_reducible show wpList _ _ _ (⟨some 27, .load _ _, _, _, _, _⟩ :: _) _ _); refine wpList_load_at rfl 70 _ rfl ⟨w.heap.size, 2, none⟩ rfl (j.breach.map c8) _ Try.underlying70 rfl HIi.out (HLb.out _ HQ2.out) ?_; rw [HV.out])
    | ((with_reducible show wpList _ _ _ (⟨_, .build 75 _, _, _, _, _⟩ :: _) _ _); refine wpList_build_is rfl 75 _ rfl RO HBd.out ?_)
    | (refine wpList_alloc_is rfl 75 rfl ZJ HZJ.out ?_)
    | ((with_reducible show wpList _ _ _ (⟨_, .store 75 _ _, _, _, _, _⟩ :: _) _ _); refine wpList_store_row rfl 75 _ _ rfl w2.heap.size rfl RO rfl 75 ZJ (Blk.new w2 _ ZJ) (by rw [HRO.out.size]; exact info_job) (by rw [HZJs.out, HRO.out.size]) HRO.out.one ?_)
    | fail)
  (try simp only [Act.put, List.setIfInBounds_toArray, List.set_cons_zero, List.set_cons_succ])
  obtain ⟨w3, hw3⟩ : ∃ w3, (w2.alloc (.cells ZJ 75)).setRow w2.heap.size RO = w3 := ⟨_, rfl⟩
  have hb3 : Below w2.heap.size w2 w3 := by rw [← hw3]; exact below_setRow ((Below.refl _ _).alloc (Nat.le_refl _) _) (Nat.le_refl _) _
  have hq3 : Blk w3 w2.heap.size 75 RO := by rw [← hw3]; exact setRow_heap _ _ _ _ _ _ (Blk.new w2 _ ZJ)
  have HQo := hide hq3
  rw [hw3]
  go_upto_region 5 with (first
    | ((with_reducible show wpList _ _ _ (⟨some 35, .load _ _, _, _, _, _⟩ :: _) _ _); refine wpList_load_row rfl 75 _ rfl w2.heap.size rfl 75 RO (0, 0) _ HQo.out Try.underlying75 rfl (by rw [HRO.out.size]; exact info_job) ?_)
    | (refine wpList_alloc_is rfl 75 rfl ZJ HZJ.out ?_)
    | ((with_reducible show wpList _ _ _ (⟨_, .store 75 _ _, _, _, _, _⟩ :: _) _ _); refine wpList_store_row rfl 75 _ _ rfl w3.heap.size rfl RO rfl 75 ZJ (Blk.new w3 _ ZJ) (by rw [HRO.out.size]; exact info_job) (by rw [HZJs.out, HRO.out.size]) HRO.out.one ?_)
    | fail)
  (try simp only [Act.put, List.setIfInBounds_toArray, List.set_cons_zero, List.set_cons_succ])
  obtain ⟨w4, hw4⟩ : ∃ w4, (w3.alloc (.cells ZJ 75)).setRow w3.heap.size RO = w4 := ⟨_, rfl⟩
  obtain ⟨bo, hbo⟩ : ∃ bo, bo = w2.heap.size := ⟨_, rfl⟩
  obtain ⟨bw, hbw⟩ : ∃ bw, bw = w3.heap.size := ⟨_, rfl⟩
  have HTw : Hid (Two w w4 w4 w.heap.size bo bw R j (.slice none 0 0) [] 0 (.slice none 0 0) [] 0 (plainT T)) := hide (by
    have hb4 : Below w3.heap.size w3 w4 := by rw [← hw4]; exact below_setRow ((Below.refl _ _).alloc (Nat.le_refl _) _) (Nat.le_refl _) _
    have hq4 : Blk w4 w3.heap.size 75 RO := by rw [← hw4]; exact setRow_heap _ _ _ _ _ _ (Blk.new w3 _ ZJ)
    have h2 := HB2.out.size
    have h02 := HQ2.out.lt
    have h23 := hq3.lt
    have h34 := hq4.lt
    have hnil : PayIn w4 w4 (fun _ => False) (.slice none 0 0) [] := ⟨OwnPay.none_, (fun r hr => by cases hr), (fun p hp => by cases hp)⟩
    rw [hbo, hbw]
    exact ⟨below_next (below_next HB2.out hb3) hb4, Nat.le_refl _, (HQ2.out.below hb3 HQ2.out.lt).below hb4 (by have := hb3.size; omega), ⟨RO, HRO.out, hq3.below hb4 hq3.lt⟩, ⟨RO, HRO.out, hq4⟩, ⟨by omega, by omega, by omega⟩, ⟨by omega, by have := hb3.size; omega, by have := hb3.size; have := hb4.size; omega⟩, ⟨by have := hb4.size; omega, by omega⟩, ⟨fun _ => False, fun _ => False, fun i h => h.elim, fun i h => h.elim, fun i h => h.elim, hnil, hnil⟩, by simp [plainT], by simp [plainT]⟩)
  rw [hw4, ← hbo, ← hbw]
  clear hw3 hb3 hq3 hw4 hbo hbw HQo HQ2 HB2 y34 y35 y36 q0 q1 HIi HLb HV HBd
  obtain ⟨q0, q1⟩ := HKc.out w4 HTw.out.inp
  have v37 : w4.cell? ⟨w.heap.size, 37, none⟩ = some (.slice A T.length c) := (HTw.out.inp.cell 37).trans HJ.out.pay
  obtain ⟨n, hn⟩ : ∃ n, n = T.length := ⟨_, rfl⟩
  have HN := hide hn
  have HTl := hide hTl
  rw [← hn] at v37 HP
  have hn8 : n ≤ 8 := by rw [hn]; exact hTl.2.1
  have hn1 : 1 ≤ n := by rw [hn]; exact hTl.1
  clear hn hTl
  go_upto_region 6 with (fail)
  go_loopw [40] (fun i wr => ∃ (k : Nat) (vO : Value) (KO : List TierK) (vW : Value) (KW : List TierK), k ≤ n ∧ i = .int .i64 (k : Int) ∧ Hid (Two w w4 wr w.heap.size bo bw R j vO KO k vW KW k (plainT T))) (fun i _ => n - (intOf i).toNat)
  case atStart => exact ⟨0, _, _, _, _, Nat.zero_le _, rfl, HTw⟩
  case round =>
    clear HTw q0 q1 v37
    obtain ⟨wz, rfl⟩ : ∃ wz : World, wz = wr := ⟨_, rfl⟩
    obtain ⟨k, vO, KO, vW, KW, hk, rfl, HI⟩ := hrel
    by_cases hlt : k < n
    · have hd1 : decide ((k : Int) < (n : Int)) = true := by simpa using hlt
      have hkT : k < T.length := by rw [← HN.out]; exact hlt
      obtain ⟨ga, oa, rfl, hga, c1, c2⟩ := HP.out.at_ (k := k) hkT
      replace c1 := (HI.out.below.cell (p := ⟨ga, oa + k * 2, none⟩) hga).trans c1
      replace c2 := (HI.out.below.cell (p := ⟨ga, oa + k * 2 + 1, none⟩) hga).trans c2
      have HTx := HP.out.tx (List.getElem_mem hkT)
      have hbl := HMo.out.2 _ (List.getElem_mem hkT)
      have HLk : Hid ((plainT T)[k]? = some (T[k].1, T[k].2.2)) := hide (by simp [plainT, hkT])
      generalize (T[k]'hkT) = p at *
      obtain ⟨fee, u, bs⟩ := p
      obtain ⟨A2, c2', e2, hr2, _⟩ := HTx
      dsimp only at e2 c1 c2 hbl HLk hr2
      subst e2
      have HTr : Hid (Reads w w.heap.size 1 A2 bs.length (bs.map c8)) := hide hr2.reads
      have hk0 : (0 : Int) ≤ (k : Int) := by omega
      have HLo : Hid (w.heap.size ≤ w4.heap.size) := hide HI.out.lo.2.2
      obtain ⟨q, hq⟩ : ∃ q, q = wz.heap.size := ⟨_, rfl⟩
      have HQne : Hid (∀ v ∈ [vO, vW], some q ≠ v.ownBlock) := hide fun v hv e => by
        obtain ⟨SX, SY, s1, s2, _, p1, p2⟩ := HI.out.sets
        simp only [List.mem_cons, List.not_mem_nil, or_false] at hv
        rcases hv with rfl | rfl
        · have := (own_lt p1.own.own e.symm).2; omega
        · have := (own_lt p2.own.own e.symm).2; omega
      obtain ⟨W1, hW1⟩ : ∃ W1, W1 = wz.alloc (.cells #[c32 fee, .slice A2 bs.length c2'] 80) := ⟨_, rfl⟩
      have hb1 : Below wz.heap.size wz W1 := by rw [hW1]; exact (Below.refl _ _).alloc (Nat.le_refl _) _
      have HQ1 : Hid (Blk W1 q 80 #[c32 fee, .slice A2 bs.length c2']) := hide (by rw [hW1, hq]; exact Blk.new wz _ _)
      have HT1 := hide (HI.out.next hb1)
      clear hr2 hb1 HI
      go_upto_region 8 with (fail)
      rw [← hW1, ← hq]
      clear hW1 hq
      obtain ⟨rb, hrb⟩ : ∃ rb, rb = vO.ownBlock := ⟨_, rfl⟩
      have HRb := hide hrb
      obtain ⟨RX, hRX, hBX⟩ := HT1.out.bX
      have HRX := hide hRX
      have HBX := hide hBX
      have HOw : Hid (OwnPay w4 W1 vO KO) := hide (by obtain ⟨_, _, _, _, _, p, _⟩ := HT1.out.sets; exact p.own)
      have HNe : Hid (∀ g cs, Blk W1 g 75 cs → some g ≠ rb) := hide fun g cs hg e => own_blk_ne HOw.out.own hg (by decide) (by rw [← hrb]; exact e.symm)
      have HRb2 : Hid (∀ r, rb = some r → r < W1.heap.size ∧ w4.heap.size ≤ r) := hide fun r hr => by have := own_lt HOw.out.own (by rw [← hrb]; exact hr); exact ⟨this.2, this.1⟩
      have FP : Hid (∀ W, W1.grownBy W rb → W.cell? ⟨bo, 37, none⟩ = some vO) := hide fun W hW =>
        (World.cell?_of_block (a := ⟨bo, 37, none⟩) (hW.block _ HBX.out.lt (HNe.out _ _ HBX.out))).trans ((HBX.out.cell 37).trans HRX.out.pay)
      have HQn : Hid (some q ≠ rb) := hide fun e => HQne.out vO (by simp) (by rw [← hrb]; exact e)
      have F0 : Hid (∀ W, W1.grownBy W rb → W.cell? ⟨q, 0, none⟩ = some (c32 fee)) := hide fun W hW =>
        (World.cell?_of_block (a := ⟨q, 0, none⟩) (hW.block _ HQ1.out.lt HQn.out)).trans ((HQ1.out.cell 0).trans rfl)
      have F1 : Hid (∀ W, W1.grownBy W rb → W.cell? ⟨q, 1, none⟩ = some (.slice A2 bs.length c2')) := hide fun W hW =>
        (World.cell?_of_block (a := ⟨q, 1, none⟩) (hW.block _ HQ1.out.lt HQn.out)).trans ((HQ1.out.cell 1).trans rfl)
      have HRd : Hid (∀ W, W1.grownBy W rb → Reads W w.heap.size 1 A2 bs.length (bs.map c8)) := hide fun W hW => (HTr.out.below HT1.out.below).grown hW HT1.out.below.size (fun g e => Nat.le_trans HLo.out (HRb2.out g e).2)
      have HKl : Hid (KO.length ≤ 8) := hide (by
        have := congrArg List.length HT1.out.plX
        have h8 := HTl.out.2.1
        simp [plainT] at this; omega)
      clear hrb hRX hBX
      apply wp_region_last 14 _ (hv := [5, 8, 9, 10, 11]) (I := fun W => W1.grownBy W rb) (C := fun W => W1.grownBy W none) (ss := [_, _, _, _, _, _, _, _, _, _, _, _, _, _]) rfl (by kernel_rfl) (by kernel_rfl) (by kernel_rfl) (by kernel_rfl) (by kernel_rfl) (by kernel_rfl) (grown_drew' W1 rb) (grown_drew' W1 none)
      simp only [List.take_succ_cons, List.take_zero]
      iterate 5 (first
        | (apply stWalk_light
           · rfl
           · (intro W hI
              have c0 := FP.out W hI
              have d0 := F0.out W hI
              have d1 := F1.out W hI
              clear hI
              go_simp
              with_reducible exact rfl)
           (try simp only [Act.put, List.setIfInBounds_toArray, List.set_cons_zero, List.set_cons_succ])))
      apply stWalk_turn EmptyOf (EmptyNew W1)
      · rfl
      · exact ⟨_, 0, rfl⟩
      · rfl
      · intro W hI hC
        exact gives_build_bytes0 rfl ⟨⟨_, rfl⟩, grown_trans' hI (World.grownBy_alloc W _ none) (by simp), _, rfl, hI.size, Blk.new W _ _, grown_trans' hC (World.grownBy_alloc W _ none) (by simp)⟩
      rintro x ⟨r5, rfl⟩
      (try simp only [Act.put, List.setIfInBounds_toArray, List.set_cons_zero, List.set_cons_succ])
      iterate 2 (first
        | (apply stWalk_light
           · rfl
           · (intro W hI
              have c0 := FP.out W hI
              have d0 := F0.out W hI
              have d1 := F1.out W hI
              clear hI
              go_simp
              with_reducible exact rfl)
           (try simp only [Act.put, List.setIfInBounds_toArray, List.set_cons_zero, List.set_cons_succ])))
      apply stWalk_turn (RowOf bs.length) (TxNew W1 bs)
      · rfl
      · exact ⟨_, none, 0, rfl⟩
      · rfl
      · intro W hI hC
        obtain ⟨r', e, hr, hB, hg0⟩ := hC
        cases e
        refine gives_append_of _ _ 78 rfl W1.heap.size 5 _ 1 1 Try.underlying78 pinfo_byte rfl (by omega) (.slice (some ⟨r5, 0, none⟩) 0 0) 0 [] rfl (own_bytes0 hr hB) w.heap.size A2 bs.length c2' (bs.map c8) rfl (HRd.out W hI) (by intro u hu; obtain ⟨z, _, rfl⟩ := List.mem_map.1 hu; rfl) (by simp only [maxLen]; omega) (by omega) hI.size ?_
        intro x W' ho hg _
        rw [Nat.zero_add, List.nil_append] at ho
        obtain ⟨A6, c6, rfl⟩ := own_slice ho
        have hrr : ∀ i, (Value.slice (some ⟨r5, 0, none⟩) 0 0).ownBlock = some i → W1.heap.size ≤ i := fun i e => by simp [Value.ownBlock] at e; omega
        exact ⟨⟨A6, c6, rfl⟩, grown_trans' hI hg (fun i e => .inl (hrr i e)), ho, grown_trans' hg0 hg (fun i e => .inl (hrr i e))⟩
      rintro x ⟨A6, c6, rfl⟩
      (try simp only [Act.put, List.setIfInBounds_toArray, List.set_cons_zero, List.set_cons_succ])
      apply stWalk_turn (TierMade bs.length (c32 fee)) (TierOf W1 bs (c32 fee))
      · rfl
      · exact ⟨_, none, 0, rfl⟩
      · rfl
      · intro W hI hC
        have HC6 := hide hC
        have HI6 := hide hI
        clear hI hC
        go_simp
        exact ⟨⟨A6, c6, rfl⟩, HI6.out, _, rfl, HC6.out⟩
      rintro x ⟨A8, c8', rfl⟩
      (try simp only [Act.put, List.setIfInBounds_toArray, List.set_cons_zero, List.set_cons_succ])
      apply stWalk_turn OneOf (TierNew W1 bs (c32 fee))
      · rfl
      · exact ⟨_, 0, rfl⟩
      · rfl
      · intro W hI hC
        obtain ⟨y, e, hC⟩ := hC
        injection e with e
        have e : y = .slice A8 bs.length c8' := by have := congrArg (fun a : Array Value => a[1]?) e; simpa using this.symm
        subst e
        refine gives_build_tier _ rfl (c32 fee) (.slice A8 bs.length c8') rfl ⟨⟨_, rfl⟩, grown_trans' hI (World.grownBy_alloc W _ none) (by simp), _, _, rfl, hI.size, Blk.new W _ _, own_block hC.1 fun r hr => Below.heap_alloc W _ r (own_lt hC.1 hr).2, grown_trans' hC.2 (World.grownBy_alloc W _ none) (by simp)⟩
      rintro x ⟨r, rfl⟩
      (try simp only [Act.put, List.setIfInBounds_toArray, List.set_cons_zero, List.set_cons_succ])
      apply stWalk_turn (RowOf (KO.length + 1)) (TierAdded w4 W1 KO fee bs rb)
      · rfl
      · exact ⟨_, none, 0, rfl⟩
      · rfl
      · intro W hI hC
        obtain ⟨r', y, e, hr, hB, hx, hg0⟩ := hC
        cases e
        have hown := own_block HOw.out.own fun i hi => hg0.block i (own_lt HOw.out.own hi).2 (by simp)
        have hy1 : y.oneCell' = true := by obtain ⟨A, c, rfl⟩ := own_slice hx; rfl
        refine gives_append_of _ _ 71 rfl w4.heap.size 80 _ 2 32 Try.underlying71 info_tier rfl (by omega) vO KO.length (tierCells KO) rfl hown (r + 1) (some ⟨r, 0, none⟩) 1 1 [c32 fee, y] rfl ⟨rfl, fun _ => ⟨_, rfl, by simp, fun j x hx => ?_⟩⟩ (by simp [hy1]; rfl) (by have := HKl.out; simp only [maxLen]; omega) (by have := HKl.out; omega) (Nat.le_trans HT1.out.le1 hI.size) ?_
        · rw [Addr.add_lit, Nat.zero_add, hB.cell]
          simpa using hx
        · intro v2 W' ho hg hat
          obtain ⟨A7, c7, rfl⟩ := own_slice ho
          refine ⟨⟨A7, c7, rfl⟩, grown_trans' hI hg (fun j e => .inr (by rw [HRb.out]; exact e)), y, by rw [tierCells_append]; exact ho, own_block hx fun i hi => hg.block i (own_lt hx hi).2 (fun e => ?_), ?_⟩
          · have h1 := own_lt hx hi
            have h2 := own_lt HOw.out.own e.symm
            omega
          · rcases hat with e | e
            · exact .inl (by rw [HRb.out]; exact e)
            · exact .inr ⟨_, e, hI.size⟩
      rintro x ⟨A7, c7, rfl⟩
      (try simp only [Act.put, List.setIfInBounds_toArray, List.set_cons_zero, List.set_cons_succ])
      iterate 2 (first
        | (apply stWalk_light
           · rfl
           · (intro W hI
              have c0 := FP.out W hI
              have d0 := F0.out W hI
              have d1 := F1.out W hI
              clear hI
              go_simp
              with_reducible exact rfl)
           (try simp only [Act.put, List.setIfInBounds_toArray, List.set_cons_zero, List.set_cons_succ])))
      refine stWalk_nil fun W hI hC => ⟨rfl, ?_⟩
      have b37 := FP.out W hI
      have f37 : W.frozen? ⟨bo, 37, none⟩ = false := (show Blk W bo 75 RX from (hI.block _ HBX.out.lt (HNe.out _ _ HBX.out)).trans HBX.out).frozen 37
      rw [HRb.out] at hI hC
      obtain ⟨y, hTw⟩ := HT1.out.step hj HLk.out hI hC
      obtain ⟨W8, hW8⟩ : ∃ W', W.setCell ⟨bo, 37, none⟩ (.slice A7 (KO.length + 1) c7) = W' := ⟨_, rfl⟩
      have HQW8 : Hid (Blk W8 q 80 #[c32 fee, .slice A2 bs.length c2']) := hide (by
        rw [← hW8]
        have hb : Blk W q 80 #[c32 fee, .slice A2 bs.length c2'] := (hI.block q HQ1.out.lt (by rw [← HRb.out]; exact HQn.out)).trans HQ1.out
        exact hb.far (hb.ne_ (show Blk W bo 75 RX from (hI.block _ HBX.out.lt (by rw [← HRb.out]; exact HNe.out _ _ HBX.out)).trans HBX.out) (by decide)) _)
      rw [hW8] at hTw
      have HTW8 := hide hTw
      have HWW8 := hide hW8
      clear hTw hW8 hI hC FP F0 F1 HRd HNe HRb2 HQn HKl HOw HRX HBX
      go_simp
      rw [HWW8.out]
      have HT8s := hide HTW8.out.swap
      clear HTW8
      go_upto_region 9 with (fail)
      obtain ⟨rb, hrb⟩ : ∃ rb, rb = vW.ownBlock := ⟨_, rfl⟩
      have HRb := hide hrb
      obtain ⟨RX, hRX, hBX⟩ := HT8s.out.bX
      have HRX := hide hRX
      have HBX := hide hBX
      have HOw : Hid (OwnPay w4 W8 vW KW) := hide (by obtain ⟨_, _, _, _, _, p, _⟩ := HT8s.out.sets; exact p.own)
      have HNe : Hid (∀ g cs, Blk W8 g 75 cs → some g ≠ rb) := hide fun g cs hg e => own_blk_ne HOw.out.own hg (by decide) (by rw [← hrb]; exact e.symm)
      have HRb2 : Hid (∀ r, rb = some r → r < W8.heap.size ∧ w4.heap.size ≤ r) := hide fun r hr => by have := own_lt HOw.out.own (by rw [← hrb]; exact hr); exact ⟨this.2, this.1⟩
      have FP : Hid (∀ W, W8.grownBy W rb → W.cell? ⟨bw, 37, none⟩ = some vW) := hide fun W hW =>
        (World.cell?_of_block (a := ⟨bw, 37, none⟩) (hW.block _ HBX.out.lt (HNe.out _ _ HBX.out))).trans ((HBX.out.cell 37).trans HRX.out.pay)
      have HQn : Hid (some q ≠ rb) := hide fun e => HQne.out vW (by simp) (by rw [← hrb]; exact e)
      have F0 : Hid (∀ W, W8.grownBy W rb → W.cell? ⟨q, 0, none⟩ = some (c32 fee)) := hide fun W hW =>
        (World.cell?_of_block (a := ⟨q, 0, none⟩) (hW.block _ HQW8.out.lt HQn.out)).trans ((HQW8.out.cell 0).trans rfl)
      have F1 : Hid (∀ W, W8.grownBy W rb → W.cell? ⟨q, 1, none⟩ = some (.slice A2 bs.length c2')) := hide fun W hW =>
        (World.cell?_of_block (a := ⟨q, 1, none⟩) (hW.block _ HQW8.out.lt HQn.out)).trans ((HQW8.out.cell 1).trans rfl)
      have HRd : Hid (∀ W, W8.grownBy W rb → Reads W w.heap.size 1 A2 bs.length (bs.map c8)) := hide fun W hW => (HTr.out.below HT8s.out.below).grown hW HT8s.out.below.size (fun g e => Nat.le_trans HLo.out (HRb2.out g e).2)
      have HKl : Hid (KW.length ≤ 8) := hide (by
        have := congrArg List.length HT8s.out.plX
        have h8 := HTl.out.2.1
        simp [plainT] at this; omega)
      clear hrb hRX hBX
      apply wp_region_last 14 _ (hv := [5, 8, 9, 10, 11]) (I := fun W => W8.grownBy W rb) (C := fun W => W8.grownBy W none) (ss := [_, _, _, _, _, _, _, _, _, _, _, _, _, _]) rfl (by kernel_rfl) (by kernel_rfl) (by kernel_rfl) (by kernel_rfl) (by kernel_rfl) (by kernel_rfl) (grown_drew' W8 rb) (grown_drew' W8 none)
      simp only [List.take_succ_cons, List.take_zero]
      iterate 5 (first
        | (apply stWalk_light
           · rfl
           · (intro W hI
              have c0 := FP.out W hI
              have d0 := F0.out W hI
              have d1 := F1.out W hI
              clear hI
              go_simp
              with_reducible exact rfl)
           (try simp only [Act.put, List.setIfInBounds_toArray, List.set_cons_zero, List.set_cons_succ])))
      apply stWalk_turn EmptyOf (EmptyNew W8)
      · rfl
      · exact ⟨_, 0, rfl⟩
      · rfl
      · intro W hI hC
        exact gives_build_bytes0 rfl ⟨⟨_, rfl⟩, grown_trans' hI (World.grownBy_alloc W _ none) (by simp), _, rfl, hI.size, Blk.new W _ _, grown_trans' hC (World.grownBy_alloc W _ none) (by simp)⟩
      rintro x ⟨r5, rfl⟩
      (try simp only [Act.put, List.setIfInBounds_toArray, List.set_cons_zero, List.set_cons_succ])
      iterate 2 (first
        | (apply stWalk_light
           · rfl
           · (intro W hI
              have c0 := FP.out W hI
              have d0 := F0.out W hI
              have d1 := F1.out W hI
              clear hI
              go_simp
              with_reducible exact rfl)
           (try simp only [Act.put, List.setIfInBounds_toArray, List.set_cons_zero, List.set_cons_succ])))
      apply stWalk_turn (RowOf bs.length) (TxNew W8 bs)
      · rfl
      · exact ⟨_, none, 0, rfl⟩
      · rfl
      · intro W hI hC
        obtain ⟨r', e, hr, hB, hg0⟩ := hC
        cases e
        refine gives_append_of _ _ 78 rfl W8.heap.size 5 _ 1 1 Try.underlying78 pinfo_byte rfl (by omega) (.slice (some ⟨r5, 0, none⟩) 0 0) 0 [] rfl (own_bytes0 hr hB) w.heap.size A2 bs.length c2' (bs.map c8) rfl (HRd.out W hI) (by intro u hu; obtain ⟨z, _, rfl⟩ := List.mem_map.1 hu; rfl) (by simp only [maxLen]; omega) (by omega) hI.size ?_
        intro x W' ho hg _
        rw [Nat.zero_add, List.nil_append] at ho
        obtain ⟨A6, c6, rfl⟩ := own_slice ho
        have hrr : ∀ i, (Value.slice (some ⟨r5, 0, none⟩) 0 0).ownBlock = some i → W8.heap.size ≤ i := fun i e => by simp [Value.ownBlock] at e; omega
        exact ⟨⟨A6, c6, rfl⟩, grown_trans' hI hg (fun i e => .inl (hrr i e)), ho, grown_trans' hg0 hg (fun i e => .inl (hrr i e))⟩
      rintro x ⟨A6, c6, rfl⟩
      (try simp only [Act.put, List.setIfInBounds_toArray, List.set_cons_zero, List.set_cons_succ])
      apply stWalk_turn (TierMade bs.length (c32 fee)) (TierOf W8 bs (c32 fee))
      · rfl
      · exact ⟨_, none, 0, rfl⟩
      · rfl
      · intro W hI hC
        have HC6 := hide hC
        have HI6 := hide hI
        clear hI hC
        go_simp
        exact ⟨⟨A6, c6, rfl⟩, HI6.out, _, rfl, HC6.out⟩
      rintro x ⟨A8, c8', rfl⟩
      (try simp only [Act.put, List.setIfInBounds_toArray, List.set_cons_zero, List.set_cons_succ])
      apply stWalk_turn OneOf (TierNew W8 bs (c32 fee))
      · rfl
      · exact ⟨_, 0, rfl⟩
      · rfl
      · intro W hI hC
        obtain ⟨y, e, hC⟩ := hC
        injection e with e
        have e : y = .slice A8 bs.length c8' := by have := congrArg (fun a : Array Value => a[1]?) e; simpa using this.symm
        subst e
        refine gives_build_tier _ rfl (c32 fee) (.slice A8 bs.length c8') rfl ⟨⟨_, rfl⟩, grown_trans' hI (World.grownBy_alloc W _ none) (by simp), _, _, rfl, hI.size, Blk.new W _ _, own_block hC.1 fun r hr => Below.heap_alloc W _ r (own_lt hC.1 hr).2, grown_trans' hC.2 (World.grownBy_alloc W _ none) (by simp)⟩
      rintro x ⟨r, rfl⟩
      (try simp only [Act.put, List.setIfInBounds_toArray, List.set_cons_zero, List.set_cons_succ])
      apply stWalk_turn (RowOf (KW.length + 1)) (TierAdded w4 W8 KW fee bs rb)
      · rfl
      · exact ⟨_, none, 0, rfl⟩
      · rfl
      · intro W hI hC
        obtain ⟨r', y, e, hr, hB, hx, hg0⟩ := hC
        cases e
        have hown := own_block HOw.out.own fun i hi => hg0.block i (own_lt HOw.out.own hi).2 (by simp)
        have hy1 : y.oneCell' = true := by obtain ⟨A, c, rfl⟩ := own_slice hx; rfl
        refine gives_append_of _ _ 71 rfl w4.heap.size 80 _ 2 32 Try.underlying71 info_tier rfl (by omega) vW KW.length (tierCells KW) rfl hown (r + 1) (some ⟨r, 0, none⟩) 1 1 [c32 fee, y] rfl ⟨rfl, fun _ => ⟨_, rfl, by simp, fun j x hx => ?_⟩⟩ (by simp [hy1]; rfl) (by have := HKl.out; simp only [maxLen]; omega) (by have := HKl.out; omega) (Nat.le_trans HT8s.out.le1 hI.size) ?_
        · rw [Addr.add_lit, Nat.zero_add, hB.cell]
          simpa using hx
        · intro v2 W' ho hg hat
          obtain ⟨A7, c7, rfl⟩ := own_slice ho
          refine ⟨⟨A7, c7, rfl⟩, grown_trans' hI hg (fun j e => .inr (by rw [HRb.out]; exact e)), y, by rw [tierCells_append]; exact ho, own_block hx fun i hi => hg.block i (own_lt hx hi).2 (fun e => ?_), ?_⟩
          · have h1 := own_lt hx hi
            have h2 := own_lt HOw.out.own e.symm
            omega
          · rcases hat with e | e
            · exact .inl (by rw [HRb.out]; exact e)
            · exact .inr ⟨_, e, hI.size⟩
      rintro x ⟨A7, c7, rfl⟩
      (try simp only [Act.put, List.setIfInBounds_toArray, List.set_cons_zero, List.set_cons_succ])
      iterate 2 (first
        | (apply stWalk_light
           · rfl
           · (intro W hI
              have c0 := FP.out W hI
              have d0 := F0.out W hI
              have d1 := F1.out W hI
              clear hI
              go_simp
              with_reducible exact rfl)
           (try simp only [Act.put, List.setIfInBounds_toArray, List.set_cons_zero, List.set_cons_succ])))
      refine stWalk_nil fun W hI hC => ⟨rfl, ?_⟩
      have b37 := FP.out W hI
      have f37 : W.frozen? ⟨bw, 37, none⟩ = false := (show Blk W bw 75 RX from (hI.block _ HBX.out.lt (HNe.out _ _ HBX.out)).trans HBX.out).frozen 37
      rw [HRb.out] at hI hC
      obtain ⟨y, hTw⟩ := HT8s.out.step hj HLk.out hI hC
      obtain ⟨W9, hW9⟩ : ∃ W', W.setCell ⟨bw, 37, none⟩ (.slice A7 (KW.length + 1) c7) = W' := ⟨_, rfl⟩
      have HQW9 : Hid (Blk W9 q 80 #[c32 fee, .slice A2 bs.length c2']) := hide (by
        rw [← hW9]
        have hb : Blk W q 80 #[c32 fee, .slice A2 bs.length c2'] := (hI.block q HQW8.out.lt (by rw [← HRb.out]; exact HQn.out)).trans HQW8.out
        exact hb.far (hb.ne_ (show Blk W bw 75 RX from (hI.block _ HBX.out.lt (by rw [← HRb.out]; exact HNe.out _ _ HBX.out)).trans HBX.out) (by decide)) _)
      rw [hW9] at hTw
      have HTW9 := hide hTw
      have HWW9 := hide hW9
      clear hTw hW9 hI hC FP F0 F1 HRd HNe HRb2 HQn HKl HOw HRX HBX
      go_simp
      rw [HWW9.out]
      have HT9s := hide HTW9.out.swap
      clear HTW9
      go_wp2
      go_roundw
      case rel => exact ⟨k + 1, _, _, _, _, by omega, by go_num, HT9s⟩
      case measure => simp [intOf]; omega
    · obtain rfl : k = n := by omega
      have hd1 : decide ((k : Int) < (k : Int)) = false := by simp
      obtain ⟨RO', hRO', hbO⟩ := HI.out.bX
      obtain ⟨RW', hRW', hbW⟩ := HI.out.bY
      obtain ⟨SO, SW, sO, sW, sOW, pO, pW⟩ := HI.out.sets
      have hfull : (plainT T).take k = plainT T := List.take_of_length_le (by rw [HN.out]; simp [plainT])
      have hplO : plainT KO = plainT T := by have := HI.out.plX; rwa [hfull] at this
      have hplW : plainT KW = plainT T := by have := HI.out.plY; rwa [hfull] at this
      have hlW : KW.length = k := by have := congrArg List.length hplW; rw [HN.out]; simpa [plainT] using this
      obtain ⟨AW, cW, eW⟩ := own_slice pW.own.own
      rw [hlW] at eW
      have HRO' := hide hRO'
      have HRW' := hide hRW'
      have HbO := hide hbO
      have HbW := hide hbW
      have HsO := hide sO
      have HsW := hide sW
      have HsOW := hide sOW
      have HpO := hide pO
      have HpW := hide pW
      have HplO := hide hplO
      have HplW := hide hplW
      have Hinp := hide HI.out.inp
      have HBw := hide HI.out.below
      have HLe := hide HI.out.le1
      have HHi := hide HI.out.hi
      have HLo := hide HI.out.lo
      have HlW := hide hlW
      have HeW := hide eW
      have HAdd := hide (fun (w5 : World) (hb : Below wz.heap.size wz w5) (S : Nat → Prop) (g b : Nat) (ht : Tab w5 S g b []) => jadd_new w5 S g b [] j hj vW RW' hRW' KW SW (pW.pay.below hb) (modest_right (j := j) (by rw [hplW]; exact HRj.out)) (by rw [hplW]; exact HRj.out) ht (Nat.zero_le _) rfl)
      have HLW : Hid (∀ W, Blk W bw 75 RW' → ∀ i u, (jobCells j vW)[i]? = some u → W.cell? ((⟨bw, 0, none⟩ : Addr).add i) = some u) := hide fun W hW i u hu => by
        rw [Addr.add_lit, Nat.zero_add, hW.cell, hRW'.val, List.getElem?_toArray]; exact hu
      have HVW : Hid ((jobCells j vW).toArray = RW') := hide hRW'.val.symm
      have HIW : Hid ((Try.prog.info? 75).map (·.size) = some (jobCells j vW).length) := hide (by rw [jobCells_len hj]; exact info_job)
      obtain ⟨kk, hkk⟩ : ∃ kk : KeyT, kk = (j.ses, j.seq) := ⟨_, rfl⟩
      have hkf : kf kk = .agg #[c32 j.ses, c32 j.seq] := by rw [hkk]; rfl
      have hkj : keyOfJ j = kk := by rw [hkk]; rfl
      clear HI hRO' hRW' hbO hbW sO sW sOW pO pW hfull hplO hplW hlW eW hkk
      generalize hg : wz.heap.size + 1 = g
      go_upto_region 14 with (first
        | (go_at_call 44; (with_reducible refine (jnew_any _).mono ?_); rintro e w5 ⟨rfl, ht5, hb5⟩; rw [hg] at ht5 ⊢; have HA5 := hide (HAdd.out w5 hb5 _ _ _ ht5); have HbW5 := hide (HbW.out.below hb5 HbW.out.lt); have HB5 := hide hb5; clear ht5 hb5)
        | ((with_reducible show wpList _ _ _ (⟨some 78, .load _ _, _, _, _, _⟩ :: _) _ _); refine wpList_load_want (by go_simp) 75 _ rfl ⟨bw, 0, none⟩ rfl (jobCells j vW) _ Try.underlying75 rfl HIW.out (HLW.out _ HbW5.out) ?_; rw [HVW.out])
        | (go_at_call 45; (with_reducible refine HA5.out.mono ?_); rintro e w6 ⟨rfl, htc, x, hxj, hxK, ht6⟩; have HTc := hide htc; have HXj := hide hxj; have HXk := hide hxK; have HT6 := hide ht6; clear htc hxj hxK ht6)
        | fail)
      obtain ⟨b, hb⟩ : ∃ b, b = wz.heap.size := ⟨_, rfl⟩
      obtain ⟨S, hS⟩ : ∃ S : Nat → Prop, S = fun i => wz.heap.size ≤ i ∧ i < w6.heap.size := ⟨_, rfl⟩
      have HSd := hide hS
      have hz5 := HB5.out.size
      have ht : Tab w6 S g b [(kk, x)] := by
        have := HT6.out
        rw [List.nil_append, hkj, ← hb] at this
        refine this.mono_ fun i hi h => ?_
        rw [hS]
        rcases h with h | h
        · exact ⟨hb ▸ h, hi⟩
        · exact ⟨by omega, hi⟩
      have HT := hide ht
      have hlow : ∀ i, i < wz.heap.size → ¬ (fun i => wz.heap.size ≤ i) i := fun i hi h => by have h : wz.heap.size ≤ i := h; omega
      have HBz : Hid (Below wz.heap.size wz w6) := hide (HB5.out.trans (HTc.out.below HB5.out.size hlow))
      have HSz6 : Hid (wz.heap.size ≤ w6.heap.size) := hide HBz.out.size
      have HGet : Hid (∀ W, Tab W S g b [(kk, x)] → Calls Try.prog 46 #[.pointer (some ⟨g, 0, none⟩), .agg #[c32 j.ses, c32 j.seq]] W fun e w' => ∃ v' K' R', e = .returned (.tuple #[.agg R', .bool true]) ∧ JobVal j v' R' ∧ plainT K' = plainT T ∧ OwnPay W w' v' K' ∧ Below W.heap.size W w') := hide fun W hT => by
        have := jget_some W S g b [(kk, x)] kk x hT (mget_single _ _)
        rw [hkf, HXj.out, HXk.out, HplW.out] at this
        exact this
      have HLst : Hid (∀ W, Tab W S g b [(kk, x)] → Calls Try.prog 47 #[.pointer (some ⟨g, 0, none⟩)] W fun e w' => ∃ v vl Kl, e = .returned v ∧ OwnJobs W w' v [(j, vl, Kl)] ∧ plainT Kl = plainT T) := hide fun W hT => by
        refine (jlist_any W S g b [(kk, x)] hT (by simp)).mono ?_
        rintro e w' ⟨v, L, rfl, ho, hL⟩
        cases L with
        | nil => simp at hL
        | cons p L =>
          cases L with
          | cons p' L => simp at hL
          | nil =>
            obtain ⟨j', vl, Kl⟩ := p
            simp [plainJ, plainE] at hL
            obtain ⟨h1, h2⟩ := hL
            rw [HXj.out] at h1
            rw [HXk.out, HplW.out] at h2
            subst h1
            exact ⟨v, vl, Kl, rfl, ho, h2⟩
      have HbO6 := hide (HbO.out.below HBz.out HbO.out.lt)
      have HbW6 := hide (HbW.out.below HBz.out HbW.out.lt)
      have Hin6 := hide (Hinp.out.below HBz.out Hinp.out.lt)
      clear HbO HbW HbW5 Hinp HA5 HB5 HTc HT6 ht hlow hz5 HAdd hb hS HLW HVW HIW
      obtain ⟨q0, q1⟩ := HKc.out w6 Hin6.out
      go_upto_region 16 with (first
        | (go_at_call 46; (with_reducible refine (HGet.out _ HT.out).mono ?_); rintro e w7 ⟨v8, K8, R8, rfl, hJ8, hK8, hO8, hb7⟩; have HJ8 := hide hJ8; have HK8 := hide hK8; have HO8 := hide hO8; have HB7 := hide hb7; clear hJ8 hK8 hO8 hb7)
        | (refine wpList_alloc_is rfl 75 rfl ZJ HZJ.out ?_)
        | ((with_reducible show wpList _ _ _ (⟨_, .store 75 _ _, _, _, _, _⟩ :: _) _ _); refine wpList_store_row rfl 75 _ _ rfl w7.heap.size rfl R8 rfl 75 ZJ (Blk.new w7 _ ZJ) (by rw [HJ8.out.size]; exact info_job) (by rw [HZJs.out, HJ8.out.size]) HJ8.out.one ?_;
            obtain ⟨W8, hW8⟩ : ∃ W8, (w7.alloc (.cells ZJ 75)).setRow w7.heap.size R8 = W8 := ⟨_, rfl⟩;
            have HQ8 : Hid (Blk W8 w7.heap.size 75 R8) := hide (by rw [← hW8]; exact setRow_heap _ _ _ _ _ _ (Blk.new w7 _ ZJ));
            have HB8 : Hid (Below w7.heap.size w7 W8) := hide (by rw [← hW8]; exact below_setRow ((Below.refl _ _).alloc (Nat.le_refl _) _) (Nat.le_refl _) _);
            have HT8 := hide ((HT.out.below HB7.out).below HB8.out);
            rw [hW8]; clear hW8)
        | (go_at_call 47; (with_reducible refine (HLst.out _ HT8.out).mono ?_); rintro e w9 ⟨vL, vl, Kl, rfl, hoL, hKl⟩; have HOL := hide hoL; have HKl := hide hKl; clear hoL hKl)
        | fail)
      obtain ⟨gl, cl, csL, rfl, hbl, hl37, hgl⟩ := own_job1 hj HOL.out
      have HB9 : Hid (Below w6.heap.size w6 w9) := hide (below_next (below_next HB7.out HB8.out) HOL.out.below)
      have hin := pos_of_plain HplW.out HTl.out.2.2
      obtain ⟨gW, cW2, eW2, shW⟩ := Shape.of_pay (((HpW.out.keep fun i hi _ => HBz.out.block i hi).keep fun i hi _ => HB9.out.block i hi)) (by rw [HlW.out]; omega) hin
      obtain ⟨gX, cX, eX, shX⟩ := Shape.of_pay ((HO8.out.in_.keep fun i hi _ => HB8.out.block i hi).keep fun i hi _ => HOL.out.below.block i hi) (by rw [len_of_plain HK8.out, ← HN.out]; omega) (pos_of_plain HK8.out HTl.out.2.2)
      obtain ⟨gL, cL, eL, shL⟩ := Shape.of_pay (OwnPay.in_ (HOL.out.pay (j, vl, Kl) (by simp))) (by show 0 < Kl.length; rw [len_of_plain HKl.out, ← HN.out]; omega) (pos_of_plain HKl.out HTl.out.2.2)
      rw [HlW.out] at eW2 shW
      rw [len_of_plain HK8.out, ← HN.out] at eX shX
      replace eL : vl = .slice (some ⟨gL, 0, none⟩) Kl.length cL := eL
      replace shL : Shape w9 _ gL Kl.length := shL
      rw [len_of_plain HKl.out, ← HN.out] at eL shL
      obtain ⟨SX, hSX⟩ : ∃ SX : Nat → Prop, SX = fun i => w6.heap.size ≤ i ∧ i < w7.heap.size := ⟨_, rfl⟩
      obtain ⟨SL, hSL⟩ : ∃ SL : Nat → Prop, SL = fun i => W8.heap.size ≤ i ∧ i < w9.heap.size := ⟨_, rfl⟩
      rw [← hSX] at shX
      rw [← hSL] at shL
      have h67 := HB7.out.size
      have h78 := HB8.out.size
      have h8l := HQ8.out.lt
      have HL2 : Hid (L2I w9 w9 SW SX SL gW gX gL k gl csL) := hide (by
        refine ⟨Touch.refl _ _, shW, shX, shL, hbl, fun i a c => ?_, fun i a c => ?_, fun i a c => ?_⟩
        · have := (HsW.out i a).2; have h6 := HSz6.out; rw [hSX] at c; have := c.1; omega
        · have := (HsW.out i a).2; have h6 := HSz6.out; rw [hSL] at c; have := c.1; omega
        · rw [hSX] at a; rw [hSL] at c; have := a.2; have := c.1; omega)
      have HbW9 : Hid (Blk w9 bw 75 RW') := hide (HbW6.out.below HB9.out HbW6.out.lt)
      have HbO9 : Hid (Blk w9 bo 75 RO') := hide (HbO6.out.below HB9.out HbO6.out.lt)
      have Hin9 : Hid (Blk w9 w.heap.size 75 R) := hide (Hin6.out.below HB9.out Hin6.out.lt)
      have HQ9 : Hid (Blk w9 w7.heap.size 75 R8) := hide (HQ8.out.below HOL.out.below HQ8.out.lt)
      have HT9 : Hid (Tab w9 S g b [(kk, x)]) := hide (HT8.out.below HOL.out.below)
      have HpO9 : Hid (PayIn w4 w9 SO vO KO) := hide ((HpO.out.keep fun i hi _ => HBz.out.block i hi).keep fun i hi _ => HB9.out.block i hi)
      have HBw9 : Hid (Below w.heap.size w w9) := hide (below_next (below_next HBw.out HBz.out) HB9.out)
      have e8 : v8 = .slice (some ⟨gX, 0, none⟩) k cX := eX
      subst eW2 e8 eL
      have FW : Hid (∀ W, Below w9.heap.size w9 W → W.cell? ⟨gl, 37, none⟩ = some (.slice (some ⟨gL, 0, none⟩) k cL) ∧ W.cell? ⟨bw, 37, none⟩ = some (.slice (some ⟨gW, 0, none⟩) k cW2) ∧ W.cell? ⟨w7.heap.size, 37, none⟩ = some (.slice (some ⟨gX, 0, none⟩) k cX)) := hide fun W hW =>
        ⟨((hbl.below hW hbl.lt).cell 37).trans hl37, ((HbW9.out.below hW HbW9.out.lt).cell 37).trans HRW'.out.pay, ((HQ9.out.below hW HQ9.out.lt).cell 37).trans HJ8.out.pay⟩
      have Hl37 := hide hl37
      have Hbl := hide hbl
      have HSX := hide hSX
      have HSL := hide hSL
      have H678 : Hid (w6.heap.size ≤ w7.heap.size ∧ w7.heap.size < W8.heap.size) := hide ⟨h67, h8l⟩
      have kk0 : ((k : Int) != (k : Int)) = false := by simp
      clear hbl hl37 hgl hin shW shX shL hSX hSL h67 h78 h8l HLst HbW6 HbO6 Hin6 HQ8 HT8 HpO HpW HBw HB7 HB8 HOL HO8 q0 q1 HeW eX
      apply wp_region_rel (C := fun W' => Below w9.heap.size w9 W') (M := fun W W' => Below W.heap.size W W') (ss := [_, _, _, _, _, _, _, _, _, _, _, _, _, _, _, _, _, _, _, _, _, _, _, _, _, _, _]) (by kernel_rfl) (by kernel_rfl) (by kernel_rfl) (Below.refl _ _).drew
      iterate 27 (first
        | (apply relWalk_const (fun W => Below.refl _ _)
           · (intro W9 hC hF
              clear hF
              obtain ⟨c0, c1, c2⟩ := FW.out W9 hC
              clear hC
              go_simp
              with_reducible exact rfl)
           (try simp only [Act.put, List.setIfInBounds_toArray, List.set_cons_zero, List.set_cons_succ])))
      refine relWalk_nil fun W10 hC hF => ?_
      clear hF
      have HL10 : Hid (L2I w9 W10 SW SX SL gW gX gL k gl csL) := hide (HL2.out.next hC)
      have Hlow : Hid (∀ i, i < w4.heap.size → ¬ (SW i ∨ SX i ∨ SL i)) := hide fun i hi h => by
        have h6 := HSz6.out
        have hl := HLe.out
        have h7 := H678.out
        rcases h with h | h | h
        · have := (HsW.out i h).1; omega
        · rw [HSX.out] at h; have := h.1; omega
        · rw [HSL.out] at h; have := h.1; omega
      have Hn8 : Hid (¬ (SW w7.heap.size ∨ SX w7.heap.size ∨ SL w7.heap.size)) := hide fun h => by
        have h6 := HSz6.out
        have h7 := H678.out
        rcases h with h | h | h
        · have := (HsW.out _ h).2; omega
        · rw [HSX.out] at h; have := h.2; omega
        · rw [HSL.out] at h; have := h.1; omega
      have FB : Hid (∀ W, L2I w9 W SW SX SL gW gX gL k gl csL → W.cell? ⟨bw, 37, none⟩ = some (.slice (some ⟨gW, 0, none⟩) k cW2) ∧ W.cell? ⟨w7.heap.size, 37, none⟩ = some (.slice (some ⟨gX, 0, none⟩) k cX) ∧ W.cell? ⟨gl, 37, none⟩ = some (.slice (some ⟨gL, 0, none⟩) k cL)) := hide fun W h =>
        ⟨((HbW9.out.touch h.touch (Hlow.out _ HHi.out.2)).cell 37).trans HRW'.out.pay, ((HQ9.out.touch h.touch Hn8.out).cell 37).trans HJ8.out.pay, (h.box.cell 37).trans Hl37.out⟩
      obtain ⟨c1, c2, c3⟩ := FB.out W10 HL10.out
      clear FW HL2 hC Hbl
      go_upto_region 19 with (fail)
      go_loopw [122] (fun ix wr => ∃ (i : Nat), i ≤ k ∧ ix = .int .i64 (i : Int) ∧ Hid (L2I w9 wr SW SX SL gW gX gL k gl csL)) (fun ix _ => k - (intOf ix).toNat)
      case atStart => exact ⟨0, Nat.zero_le _, rfl, HL10⟩
      case round =>
      clear c1 c2 c3 HL10
      obtain ⟨w20, rfl⟩ : ∃ w20 : World, w20 = wr := ⟨_, rfl⟩
      obtain ⟨i, hi, rfl, HIw20⟩ := hrel
      obtain ⟨c1, c2, c3⟩ := FB.out w20 HIw20.out
      by_cases hlt : i < k
      · have hd1 : decide ((i : Int) < (k : Int)) = true := by simpa using hlt
        have hi0 : (0 : Int) ≤ (i : Int) := by omega
        obtain ⟨f, r, m, cc, b1, a1, a2, a3, a4, a5, a6, a7, a8, a9, a10, a11⟩ := HIw20.out.shW.at_ (k := i) hlt
        have m0 : (0 : Int) < (m : Int) := by omega
        have m1 : 0 < m := by omega
        obtain ⟨w21, hw21⟩ : ∃ W', w20.setCell ⟨r, 0, none⟩ (.int .u8 (((b1.toNat : Int) + 1) % 256)) = W' := ⟨_, rfl⟩
        have HIw21 := hide (show L2I w9 w21 SW SX SL gW gX gL k gl csL by rw [← hw21, bump8]; exact HIw20.out.writeW (p := ⟨r, 0, none⟩) a4 (a9 (b1 + 1)) (fun e => a11 _ _ HIw20.out.box e.symm))
        have HWw21 := hide hw21
        clear a1 a3 a4 a7 a8 a9 a10 a11 hw21
        go_upto_region 22 with (fail)
        rw [HWw21.out]
        clear a2 a5 a6 HWw21 HIw20 m0 m1
        obtain ⟨c1, c2, c3⟩ := FB.out w21 HIw21.out
        obtain ⟨f, r, m, cc, b1, a1, a2, a3, a4, a5, a6, a7, a8, a9, a10, a11⟩ := HIw21.out.shW.at_ (k := i) hlt
        obtain ⟨w22, hw22⟩ : ∃ W', w21.setCell ⟨gW, i * 2, none⟩ (.int .u32 (((f.toNat : Int) + 1) % 4294967296)) = W' := ⟨_, rfl⟩
        have HIw22 := hide (show L2I w9 w22 SW SX SL gW gX gL k gl csL by rw [← hw22, bump32]; exact HIw21.out.writeW (p := ⟨gW, i * 2, none⟩) HIw21.out.shW.in_.1 (a10 (f + 1)) (fun e => HIw21.out.shW.ne_job HIw21.out.box e.symm))
        have HWw22 := hide hw22
        clear a2 a3 a4 a5 a6 a8 a9 a10 a11 hw22
        go_upto_region 23 with (fail)
        rw [HWw22.out]
        clear a1 a7 HWw22 HIw21
        obtain ⟨c1, c2, c3⟩ := FB.out w22 HIw22.out
        obtain ⟨f, r, m, cc, b1, a1, a2, a3, a4, a5, a6, a7, a8, a9, a10, a11⟩ := HIw22.out.shX.at_ (k := i) hlt
        have m0 : (0 : Int) < (m : Int) := by omega
        have m1 : 0 < m := by omega
        obtain ⟨w23, hw23⟩ : ∃ W', w22.setCell ⟨r, 0, none⟩ (.int .u8 (((b1.toNat : Int) + 1) % 256)) = W' := ⟨_, rfl⟩
        have HIw23 := hide (show L2I w9 w23 SW SX SL gW gX gL k gl csL by rw [← hw23, bump8]; exact HIw22.out.writeX (p := ⟨r, 0, none⟩) a4 (a9 (b1 + 1)) (fun e => a11 _ _ HIw22.out.box e.symm))
        have HWw23 := hide hw23
        clear a1 a3 a4 a7 a8 a9 a10 a11 hw23
        go_upto_region 24 with (fail)
        rw [HWw23.out]
        clear a2 a5 a6 HWw23 HIw22 m0 m1
        obtain ⟨c1, c2, c3⟩ := FB.out w23 HIw23.out
        obtain ⟨f, r, m, cc, b1, a1, a2, a3, a4, a5, a6, a7, a8, a9, a10, a11⟩ := HIw23.out.shL.at_ (k := i) hlt
        obtain ⟨w24, hw24⟩ : ∃ W', w23.setCell ⟨gL, i * 2, none⟩ (.int .u32 (((f.toNat : Int) + 1) % 4294967296)) = W' := ⟨_, rfl⟩
        have HIw24 := hide (show L2I w9 w24 SW SX SL gW gX gL k gl csL by rw [← hw24, bump32]; exact HIw23.out.writeL (p := ⟨gL, i * 2, none⟩) HIw23.out.shL.in_.1 (a10 (f + 1)) (fun e => HIw23.out.shL.ne_job HIw23.out.box e.symm))
        have HWw24 := hide hw24
        clear a2 a3 a4 a5 a6 a8 a9 a10 a11 hw24
        go_upto_region 25 with (fail)
        rw [HWw24.out]
        clear a1 a7 HWw24 HIw23
        obtain ⟨c1, c2, c3⟩ := FB.out w24 HIw24.out
        go_wp2
        go_roundw
        case rel => exact ⟨i + 1, by omega, by go_num, HIw24⟩
        case measure => simp [intOf]; omega
      · obtain rfl : i = k := by omega
        have hd1 : decide ((i : Int) < (i : Int)) = false := by simp
        have hto := HIw20.out.touch
        have hz6 := HSz6.out
        have hle := HLe.out
        have h678 := H678.out
        have hlo := HLo.out
        have hhi := HHi.out
        have hTt : Tab w20 S g b [(kk, x)] := HT9.out.keep hto.size fun a ha hs => hto.block a ha fun h => by
          rw [HSd.out] at hs
          obtain ⟨s1, s2⟩ := hs
          rcases h with h | h | h
          · have := (HsW.out a h).2; omega
          · rw [HSX.out] at h; have := h.1; omega
          · rw [HSL.out] at h; have := h.1; omega
        have hpO : PayIn w4 w20 SO vO KO := HpO9.out.keep fun a ha hs => hto.block a ha fun h => by
          have s2 := (HsO.out a hs).2
          rcases h with h | h | h
          · exact HsOW.out a hs h
          · rw [HSX.out] at h; have := h.1; omega
          · rw [HSL.out] at h; have := h.1; omega
        have hbO : Blk w20 bo 75 RO' := HbO9.out.touch hto (Hlow.out _ hhi.1)
        have hin : Blk w20 w.heap.size 75 R := Hin9.out.touch hto (Hlow.out _ (by omega))
        have hB : Below w.heap.size w w20 := HBw9.out.trans (hto.below HBw9.out.size fun a ha => Hlow.out a (by omega))
        have HTt := hide hTt
        have HpOt := hide hpO
        have HbOt := hide hbO
        have HB20 := hide hB
        obtain ⟨q0, q1⟩ := HKc.out w20 hin
        have HGt := hide (HGet.out w20 hTt)
        have HLO : Hid (∀ W, Blk W bo 75 RO' → ∀ i u, (jobCells j vO)[i]? = some u → W.cell? ((⟨bo, 0, none⟩ : Addr).add i) = some u) := hide fun W hW i u hu => by
          rw [Addr.add_lit, Nat.zero_add, hW.cell, HRO'.out.val, List.getElem?_toArray]; exact hu
        have HVO : Hid ((jobCells j vO).toArray = RO') := hide HRO'.out.val.symm
        have HIO : Hid ((Try.prog.info? 75).map (·.size) = some (jobCells j vO).length) := hide (by rw [jobCells_len hj]; exact info_job)
        clear hto hz6 hle h678 hlo hhi hTt hpO hbO hin hB c1 c2 c3 HIw20 HT9 HpO9 HbO9 Hin9 HBw9 HbW9 HQ9 FB
        go_wp2_with (first
          | (go_at_call 46; (with_reducible refine HGt.out.mono ?_); rintro e w21 ⟨v21, K21, R21, rfl, hJ21, hK21, hO21, hb21⟩; have HJ21 := hide hJ21; have HK21 := hide hK21; have HO21 := hide hO21; have HB21 := hide hb21; clear hJ21 hK21 hO21 hb21)
          | (refine wpList_alloc_is rfl 75 rfl ZJ HZJ.out ?_)
          | ((with_reducible show wpList _ _ _ (⟨_, .store 75 _ _, _, _, _, _⟩ :: _) _ _); refine wpList_store_row rfl 75 _ _ rfl w21.heap.size rfl R21 rfl 75 ZJ (Blk.new w21 _ ZJ) (by rw [HJ21.out.size]; exact info_job) (by rw [HZJs.out, HJ21.out.size]) HJ21.out.one ?_;
              obtain ⟨W22, hW22⟩ : ∃ W22, (w21.alloc (.cells ZJ 75)).setRow w21.heap.size R21 = W22 := ⟨_, rfl⟩;
              have HQ22 : Hid (Blk W22 w21.heap.size 75 R21) := hide (by rw [← hW22]; exact setRow_heap _ _ _ _ _ _ (Blk.new w21 _ ZJ));
              have HB22 : Hid (Below w21.heap.size w21 W22) := hide (by rw [← hW22]; exact below_setRow ((Below.refl _ _).alloc (Nat.le_refl _) _) (Nat.le_refl _) _);
              have HbO22 : Hid (Blk W22 bo 75 RO') := hide (by have h1 := HbOt.out.below HB21.out HbOt.out.lt; exact h1.below HB22.out h1.lt);
              have HSm := hide (refsame29_any j hj v21 R21 HJ21.out K21 j hj vO RO' HRO'.out KO W22 _ _ (HO21.out.pay.below HB22.out) ((HpOt.out.pay.below HB21.out).below HB22.out) (by rw [len_of_plain HK21.out]; exact kn));
              rw [show decide (j = j ∧ plainT K21 = plainT KO) = true from decide_eq_true ⟨rfl, by rw [HK21.out, HplO.out]⟩] at HSm;
              rw [hW22]; clear hW22)
          | ((with_reducible show wpList _ _ _ (⟨some 179, .load _ _, _, _, _, _⟩ :: _) _ _); refine wpList_load_want (by go_simp) 75 _ rfl ⟨w21.heap.size, 0, none⟩ rfl (jobCells j v21) _ Try.underlying75 rfl (by rw [jobCells_len hj]; exact info_job) (fun i u hu => by rw [Addr.add_lit, Nat.zero_add, HQ22.out.cell, HJ21.out.val, List.getElem?_toArray]; exact hu) ?_; rw [show (jobCells j v21).toArray = R21 from HJ21.out.val.symm])
          | ((with_reducible show wpList _ _ _ (⟨some 180, .load _ _, _, _, _, _⟩ :: _) _ _); refine wpList_load_want (by go_simp) 75 _ rfl ⟨bo, 0, none⟩ rfl (jobCells j vO) _ Try.underlying75 rfl HIO.out (HLO.out _ HbO22.out) ?_; rw [HVO.out])
          | (go_at_call 48; (with_reducible refine HSm.out.mono ?_); rintro e w23 ⟨rfl, hb23⟩; have HB23 := hide (below_next (below_next (below_next HB20.out HB21.out) HB22.out) hb23); clear hb23)
          | (go_at_call 43; (with_reducible refine (HAl.out _ HB23.out).mono ?_); rintro e w24 ⟨rfl, hb24⟩; have HB24 := hide (below_next HB23.out hb24); clear hb24)
          | fail)
        go_ret
        exact ⟨rfl, HB24.out⟩
theorem jobsApart_walk (w : World) (j0 : JobM) (u0 : Value) (R0 : Array Value) (T0 : List TierK) (J0 : JobVal j0 u0 R0) (B0 : j0.breach.length = 32) (P0 : PayAt w (fun i => i < w.heap.size) u0 T0) (kn0 : T0.length ≤ 9223372036854775807) (kt0 : ∀ p ∈ T0, p.2.2.length ≤ 9223372036854775807) (lv0 : -9223372036854775808 ≤ j0.live ∧ j0.live ≤ 9223372036854775807) :
    Calls Try.prog 9 #[.agg R0] w fun e w' => e = .returned (.bool true) ∧ Below w.heap.size w w' :=
  jobsApart_in w j0 u0 R0 T0 J0 B0 P0 kn0
end Go.Proofs.Ytccpkafmbmkmfaa
