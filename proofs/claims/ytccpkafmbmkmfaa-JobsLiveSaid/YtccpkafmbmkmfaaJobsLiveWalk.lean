/- The walk of miradorlaw29.JobsLive. No condition. -/
import Derived.Test.YtccpkafmbmkmfaaJobPlain
namespace Go.Proofs.Ytccpkafmbmkmfaa
open Go.RowKit Go.Shelf
set_option linter.unusedVariables false
set_option linter.unusedSimpArgs false
attribute [local go_sem] Gives givesUpon
attribute [local irreducible] Gives

/-- what the law asks first -/
structure AskJ (w : World) (W0 : World) (j : JobM) (v : Value) (R : Array Value) (T : List TierK) : Prop where
  few : ∀ W, Below W0.heap.size W0 W → Calls Try.prog 41 #[.agg #[v]] W fun e w' => e = .returned (.bool (fewP (plainT T))) ∧ Below W.heap.size W w'
  right : ∀ W, Below W0.heap.size W0 W → Calls Try.prog 42 #[.agg R] W fun e w' => e = .returned (.bool (rightJ j (plainT T))) ∧ Below W.heap.size W w'
theorem AskJ.of {w W0 : World} {j : JobM} {v : Value} {R : Array Value} {T : List TierK} (hb : Below w.heap.size w W0) (J : JobVal j v R) (P : PayAt w (fun i => i < w.heap.size) v T) (kn : T.length ≤ 9223372036854775807) : AskJ w W0 j v R T :=
  ⟨fun W hW => few13_any v T W _ (P.below (below_next hb hW)) kn, fun W hW => refjright_any j v R J T W _ (P.below (below_next hb hW)) kn⟩
set_option maxRecDepth 100000 in
set_option maxHeartbeats 1600000 in
theorem jobsLive_in (w : World) (j : JobM) (v : Value) (R : Array Value) (T : List TierK) (J : JobVal j v R) (hj : j.breach.length = 32) (P : PayAt w (fun i => i < w.heap.size) v T) (kn : T.length ≤ 9223372036854775807) (x1 : Int) (l1 : -9223372036854775808 ≤ x1) (u1 : x1 ≤ 9223372036854775807) (x2 : BitVec 8) :
    Calls Try.prog 10 #[.agg R, .int .i64 x1, .int .u8 (x2.toNat : Int)] w fun e w' => e = .returned (.bool true) ∧ Below w.heap.size w w' := by
  obtain ⟨W0, hW0⟩ : ∃ W0, W0 = w.alloc (.cells R 75) := ⟨_, rfl⟩
  have hb0 : Below w.heap.size w W0 := by rw [hW0]; exact (Below.refl _ _).alloc (Nat.le_refl _) _
  have hq0 : Blk W0 w.heap.size 75 R := by rw [hW0]; exact Blk.new w _ R
  have HB0 := hide hb0
  have HQ0 := hide hq0
  have HA := hide (AskJ.of hb0 J P kn)
  have HJ := hide J
  have HP := hide P
  have HRv : Hid ((jobCells j v).toArray = R) := hide J.val.symm
  have HIj : Hid ((Try.prog.info? 75).map (·.size) = some (jobCells j v).length) := hide (by rw [jobCells_len hj]; exact info_job)
  obtain ⟨A, c, rfl, _, _⟩ := id P
  have x37 : W0.cell? ⟨w.heap.size, 37, none⟩ = some (.slice A T.length c) := (hq0.cell 37).trans J.pay
  have HAl : Hid (∀ W, Below w.heap.size w W → Calls Try.prog 43 #[] W fun e w' => e = .returned (.bool true) ∧ Below W.heap.size W w') := hide fun W _ => alive29_any W
  have HLd : Hid (∀ W, Blk W w.heap.size 75 R → ∀ i u, (jobCells j (.slice A T.length c))[i]? = some u → W.cell? ((⟨w.heap.size, 0, none⟩ : Addr).add i) = some u) := hide fun W hW i u hu => by
    rw [Addr.add_lit, Nat.zero_add, hW.cell, J.val, List.getElem?_toArray]; exact hu
  obtain ⟨fw, hfw⟩ : ∃ fw, fw = fewP (plainT T) := ⟨_, rfl⟩
  obtain ⟨rt, hrt⟩ : ∃ rt, rt = rightJ j (plainT T) := ⟨_, rfl⟩
  have HF1 := hide (fun W (hW : Below W0.heap.size W0 W) => HA.out.few W hW)
  have HF2 := hide (fun W (hW : Below W0.heap.size W0 W) => HA.out.right W hW)
  rw [← hfw] at HF1
  rw [← hrt] at HF2
  have HRt := hide hrt
  clear hb0 hq0 J P HA hfw hrt
  by_cases hno : fw = false
  · subst hno
    go_enter Try.func10, Try.ntmps10
    go_upto_region 1 with (fail)
    rw [← hW0]
    clear hW0
    go_wp2_with (first
      | (go_at_call 41; (with_reducible refine (HF1.out _ (Below.refl _ _)).mono ?_); rintro e w1 ⟨rfl, hb1⟩; have HB1 := hide (below_next HB0.out hb1); clear hb1)
      | (go_at_call 43; (with_reducible refine (HAl.out _ HB1.out).mono ?_); rintro e w2 ⟨rfl, hb2⟩; have HB2 := hide (below_next HB1.out hb2); clear hb2)
      | fail)
    go_ret
    exact ⟨rfl, HB2.out⟩
  obtain rfl : fw = true := by simpa using hno
  clear hno
  by_cases hno : rt = false
  · subst hno
    go_enter Try.func10, Try.ntmps10
    go_upto_region 1 with (fail)
    rw [← hW0]
    clear hW0
    go_wp2_with (first
      | (go_at_call 41; (with_reducible refine (HF1.out _ (Below.refl _ _)).mono ?_); rintro e w1 ⟨rfl, hb1⟩; have HQ1 := hide (HQ0.out.below hb1 HQ0.out.lt); have HB1 := hide (below_next HB0.out hb1); have HC2 := hide (HF2.out w1 hb1); clear hb1)
      | ((with_reducible show wpList _ _ _ (⟨some 21, .load _ _, _, _, _, _⟩ :: _) _ _); refine wpList_load_want (by go_simp) 75 _ rfl ⟨w.heap.size, 0, none⟩ rfl (jobCells j (.slice A T.length c)) _ Try.underlying75 rfl HIj.out (HLd.out _ HQ1.out) ?_; rw [HRv.out])
      | (go_at_call 42; (with_reducible refine HC2.out.mono ?_); rintro e w2 ⟨rfl, hb2⟩; have HB2 := hide (below_next HB1.out hb2); clear hb2)
      | (go_at_call 43; (with_reducible refine (HAl.out _ HB2.out).mono ?_); rintro e w3 ⟨rfl, hb3⟩; have HB3 := hide (below_next HB2.out hb3); clear hb3)
      | fail)
    go_ret
    exact ⟨rfl, HB3.out⟩
  obtain rfl : rt = true := by simpa using hno
  clear hno
  have hm := modest_right HRt.out.symm
  have HMo := hide hm
  have hTl : 1 ≤ T.length ∧ T.length ≤ 8 := by
    have := HRt.out
    unfold rightJ rightP at this
    have hpl : (plainT T).length = T.length := by simp [plainT]
    symm at this
    simp only [Bool.and_eq_true, decide_eq_true_eq, hpl] at this
    exact ⟨this.1.1.1, this.1.1.2⟩
  obtain ⟨R', hR'⟩ : ∃ R', R.setIfInBounds 35 (c32 0) = R' := ⟨_, rfl⟩
  obtain ⟨j', hj'⟩ : ∃ j' : JobM, j' = { j with mined := 0 } := ⟨_, rfl⟩
  have hJ' : JobVal j' (.slice A T.length c) R' := by rw [hj', ← hR']; exact jobVal_set hj rfl HJ.out 0
  have hRj : rightJ j' (plainT T) = true := by
    have := HRt.out
    rw [hj']
    unfold rightJ at this ⊢
    symm at this
    simp only [Bool.and_eq_true, Bool.or_eq_true, decide_eq_true_eq] at this ⊢
    exact ⟨this.1, this.2.1, this.2.2.1, this.2.2.2.1, .inl rfl⟩
  have hbr' : j'.breach.length = 32 := by rw [hj']; exact hj
  have hk' : keyOfJ j' = (j.ses, j.seq) := by rw [hj']; rfl
  have HJ' := hide hJ'
  have HRj := hide hRj
  have HBr := hide hbr'
  have HK' := hide hk'
  have HR' := hide hR'
  have HLd' : Hid (∀ W, Blk W w.heap.size 75 R' → ∀ i u, (jobCells j' (.slice A T.length c))[i]? = some u → W.cell? ((⟨w.heap.size, 0, none⟩ : Addr).add i) = some u) := hide fun W hW i u hu => by
    rw [Addr.add_lit, Nat.zero_add, hW.cell, hJ'.val, List.getElem?_toArray]; exact hu
  have HRv' : Hid ((jobCells j' (.slice A T.length c)).toArray = R') := hide hJ'.val.symm
  have HIj' : Hid ((Try.prog.info? 75).map (·.size) = some (jobCells j' (.slice A T.length c)).length) := hide (by rw [jobCells_len hbr']; exact info_job)
  have HJd : Hid (j'.mined.toNat = 0) := hide (by rw [hj']; rfl)
  have HJs : Hid (j'.ses = j.ses ∧ j'.seq = j.seq) := hide (by rw [hj']; exact ⟨rfl, rfl⟩)
  clear hm hJ' hRj hbr' hk' hR' hj'
  go_enter Try.func10, Try.ntmps10
  go_upto_region 1 with (fail)
  rw [← hW0]
  clear hW0
  go_upto_region 3 with (first
    | (go_at_call 41; (with_reducible refine (HF1.out _ (Below.refl _ _)).mono ?_); rintro e w1 ⟨rfl, hb1⟩; have HQ1 := hide (HQ0.out.below hb1 HQ0.out.lt); have HB1 := hide (below_next HB0.out hb1); have HC2 := hide (HF2.out w1 hb1); clear hb1)
    | ((with_reducible show wpList _ _ _ (⟨some 21, .load _ _, _, _, _, _⟩ :: _) _ _); refine wpList_load_want (by go_simp) 75 _ rfl ⟨w.heap.size, 0, none⟩ rfl (jobCells j (.slice A T.length c)) _ Try.underlying75 rfl HIj.out (HLd.out _ HQ1.out) ?_; rw [HRv.out])
    | (go_at_call 42; (with_reducible refine HC2.out.mono ?_); rintro e w2 ⟨rfl, hb2⟩; have HB2 := hide (below_next HB1.out hb2); have HQ2 := hide (HQ1.out.below hb2 HQ1.out.lt); clear hb2)
    | fail)
  have f35 : w2.frozen? ⟨w.heap.size, 35, none⟩ = false := HQ2.out.frozen 35
  have y35 : w2.cell? ⟨w.heap.size, 35, none⟩ = some (c32 j.mined) := (HQ2.out.cell 35).trans HJ.out.mined
  obtain ⟨W3, hW3⟩ : ∃ W3, w2.setCell ⟨w.heap.size, 35, none⟩ (.int .u32 0) = W3 := ⟨_, rfl⟩
  have HW3 := hide hW3
  have HB3 : Hid (Below w.heap.size w W3) := hide (by rw [← hW3]; exact HB2.out.setCell (p := ⟨w.heap.size, 35, none⟩) (Nat.le_refl _) _)
  have HQ3 : Hid (Blk W3 w.heap.size 75 R') := hide (by have := HQ2.out.set_ 35 (.int .u32 0); rw [hW3] at this; rw [← HR'.out]; exact this)
  clear hW3 HQ0 HQ1 HB0 HB1 HC2 HF1 HF2 HLd HRv HIj
  go_upto_region 4 with (fail)
  rw [HW3.out]
  clear HW3 HQ2 HB2 f35 y35
  have hpl : (plainT T).length = T.length := by simp [plainT]
  obtain ⟨n, hn⟩ : ∃ n, n = T.length := ⟨_, rfl⟩
  obtain ⟨k, hk1, hp1, hp2, hp3, hp4⟩ := place_of x1 n (by omega) (by omega)
  have hkT : k < T.length := by omega
  have hpk : (wrap64 (x1.tmod (n : Int) + (n : Int))).tmod (n : Int) = (k : Int) := by rw [← IntWalk.i64_left]; exact hp1
  obtain ⟨ga, oa, hA, hga, c1, c2⟩ := HP.out.at_ (k := k) hkT
  subst hA
  have HTx := hide (HP.out.tx (List.getElem_mem hkT))
  have hbl := HMo.out.2 _ (List.getElem_mem hkT)
  have HMk : Hid ((idsOf (plainT T))[k]? = some (shaOf T[k].2.2)) := hide (by simp [idsOf, plainT, hkT])
  have HC2 : Hid (w.cell? ⟨ga, oa + k * 2 + 1, none⟩ = some T[k].2.1) := hide c2
  generalize (T[k]'hkT) = tk at *
  obtain ⟨fee, u, bs⟩ := tk
  dsimp only at HC2 HTx HMk hbl
  have HGa := hide hga
  obtain ⟨Au, cu, hu, _, _⟩ := HTx.out
  subst hu
  have HN := hide hn
  rw [← hn] at HP HLd' HRv' HIj' HJ' ⊢
  obtain ⟨m, hm⟩ : ∃ m, m = shaOf bs := ⟨_, rfl⟩
  have hml : m.length = 32 := by rw [hm]; exact shaOf_len _
  have HID : Hid (∀ W, Below w.heap.size w W → Calls Try.prog 49 #[.slice Au bs.length cu] W fun e w' => e = .returned (.agg (m.map c8).toArray) ∧ Below W.heap.size W w') := hide fun W hW => by
    rw [hm]; exact refid_any _ bs W _ (HTx.out.keep hW.size fun i hi h => hW.block i h) hbl
  rw [← hm] at HMk
  obtain ⟨b0, tl, hmt⟩ : ∃ b0 tl, m = b0 :: tl := by cases m with | nil => simp at hml | cons b tl => exact ⟨b, tl, rfl⟩
  have htl : tl.length = 31 := by rw [hmt] at hml; simpa using hml
  obtain ⟨RM, hRM⟩ := idVal m hml
  obtain ⟨RO, hRO⟩ := idVal ((b0 + 1) :: tl) (by simp [htl])
  rw [← hRM.val] at HID
  have HRM := hide hRM
  have HRO := hide hRO
  have HMt := hide hmt
  have HRb : Hid (RM.setIfInBounds 0 (c8 (b0 + 1)) = RO) := hide (by rw [hRM.val, hRO.val, hmt]; simp)
  have HMl := hide hml
  have HTl := hide htl
  obtain ⟨Z, hZ, hZs⟩ := zeroId
  obtain ⟨ZJ, hZJ, hZJs⟩ := zero_job
  have HZ := hide hZ
  have HZs := hide hZs
  have HZJ := hide hZJ
  have HZJs := hide hZJs
  have n0 : ¬ n = 0 := by omega
  have n1 : ((n : Int) == 0) = false := by simp; omega
  have n2 : (0 : Int) < (n : Int) := by omega
  have k0 : (0 : Int) ≤ (k : Int) := by omega
  have k1 : (k : Int) < (n : Int) := by omega
  have n8 : n ≤ 8 := by omega
  have HTN : Hid (n = T.length) := hide hn
  clear hm hml hmt htl hRM hRO hZ hZs hZJ hZJs c1 c2 hga hbl hpl hTl hn hkT hp1 hp2 hp3 hp4 hk1
  generalize hg : W3.heap.size + 1 = g
  have HGe := hide hg
  go_upto_region 7 with (first
    | (go_at_call 44; (with_reducible refine (jnew_any _).mono ?_); rintro e w4 ⟨rfl, ht4, hb4⟩; rw [hg] at ht4 ⊢; have HT4 := hide ht4; have HB4 := hide hb4; have HQ4 := hide (HQ3.out.below hb4 HQ3.out.lt); have HBw4 := hide (below_next HB3.out hb4);
        have HAdd := hide (jadd_new w4 _ _ _ [] j' HBr.out _ R' HJ'.out T _ (HP.out.keep HBw4.out.size fun i hi h => HBw4.out.block i h) HMo.out HRj.out ht4 (Nat.zero_le _) rfl); clear ht4 hb4)
    | ((with_reducible show wpList _ _ _ (⟨some 32, .load _ _, _, _, _, _⟩ :: _) _ _); refine wpList_load_want (by go_simp) 75 _ rfl ⟨w.heap.size, 0, none⟩ rfl (jobCells j' (.slice (some ⟨ga, oa, none⟩) n c)) _ Try.underlying75 rfl HIj'.out (HLd'.out _ HQ4.out) ?_; rw [HRv'.out])
    | (go_at_call 45; (with_reducible refine HAdd.out.mono ?_); rintro e w5 ⟨rfl, htc, x, hxj, hxK, ht5⟩; have HTc := hide htc; have HXj := hide hxj; have HXk := hide hxK; have HT5 := hide ht5; clear htc hxj hxK ht5)
    | fail)
  obtain ⟨kk, hkk⟩ : ∃ kk : KeyT, kk = (j.ses, j.seq) := ⟨_, rfl⟩
  obtain ⟨S, hS⟩ : ∃ S : Nat → Prop, S = fun i => W3.heap.size ≤ i ∧ i < w5.heap.size := ⟨_, rfl⟩
  have HSd := hide hS
  have HKk := hide hkk
  obtain ⟨b, hb⟩ : ∃ b, b = W3.heap.size := ⟨_, rfl⟩
  have ht : Tab w5 S g b [(kk, x)] := by
    have := HT5.out
    rw [List.nil_append, HK'.out, ← hkk, ← hb] at this
    refine this.mono_ fun i hi h => ?_
    rw [hS]
    have h4 := HB4.out.size
    rcases h with h | h
    · exact ⟨hb ▸ h, hi⟩
    · exact ⟨by omega, hi⟩
  have HT6 := hide ht
  have HQ5 : Hid (Blk w5 w.heap.size 75 R') := hide (HQ4.out.touch HTc.out (fun h => by have := HQ3.out.lt; have h : W3.heap.size ≤ w.heap.size := h; omega))
  have HBw5 : Hid (Below w.heap.size w w5) := hide (HBw4.out.trans (HTc.out.below HBw4.out.size (fun i hi h => by have := HB3.out.size; have h : W3.heap.size ≤ i := h; omega)))
  have HSz3 : Hid (w.heap.size < W3.heap.size) := hide HQ3.out.lt
  have HSz5 : Hid (W3.heap.size ≤ w5.heap.size) := hide (Nat.le_trans HB4.out.size HTc.out.size)
  have v37 : w5.cell? ⟨w.heap.size, 37, none⟩ = some (.slice (some ⟨ga, oa, none⟩) n c) := (HQ5.out.cell 37).trans HJ'.out.pay
  have vtx : w5.cell? ⟨ga, oa + k * 2 + 1, none⟩ = some (.slice Au bs.length cu) := (HBw5.out.cell (p := ⟨ga, oa + k * 2 + 1, none⟩) HGa.out).trans HC2.out
  have HBn : Hid (b = W3.heap.size) := hide hb
  clear HT4 HB4 HQ4 HBw4 HAdd HTc HT5 HQ3 HB3 hkk hS hb ht HP HTx
  go_upto_region 10 with (first
    | (go_at_call 49; (with_reducible refine (HID.out _ HBw5.out).mono ?_); rintro e w6 ⟨rfl, hb6⟩; have HQ6 := hide (HQ5.out.below hb6 HQ5.out.lt); have HT7 := hide (HT6.out.below hb6); have HBw6 := hide (below_next HBw5.out hb6); have HSz6 := hide hb6.size; clear hb6)
    | (refine wpList_alloc_is rfl 70 rfl Z HZ.out ?_)
    | ((with_reducible show wpList _ _ _ (⟨_, .store 70 _ _, _, _, _, _⟩ :: _) _ _); refine wpList_store_row rfl 70 _ _ rfl w6.heap.size rfl RM rfl 70 Z (Blk.new w6 _ Z) HRM.out.info (by rw [HZs.out, HRM.out.size]) HRM.out.one ?_)
    | fail)
  (try simp only [Act.put, List.setIfInBounds_toArray, List.set_cons_zero, List.set_cons_succ])
  obtain ⟨W7, hW7⟩ : ∃ W7, (w6.alloc (.cells Z 70)).setRow w6.heap.size RM = W7 := ⟨_, rfl⟩
  obtain ⟨tx, htx⟩ : ∃ tx, tx = w6.heap.size := ⟨_, rfl⟩
  have HSt : Hid (StL w W7 S g b w.heap.size tx R' RM [(kk, x)]) := hide (by
    have hb7 : Below w6.heap.size w6 W7 := by rw [← hW7]; exact below_setRow ((Below.refl _ _).alloc (Nat.le_refl _) _) (Nat.le_refl _) _
    have h3 := HSz3.out
    have h5 := HSz5.out
    have h6 := HSz6.out
    refine ⟨below_next HBw6.out hb7, HT7.out.below hb7, HQ6.out.below hb7 HQ6.out.lt, by rw [← hW7, htx]; exact setRow_heap _ _ _ _ _ _ (Blk.new w6 _ Z), ?_, ?_, fun i hi => ?_, fun i hi => ?_⟩
    all_goals
      have h7 := hb7.size
      rw [HSd.out]
      intro h
      obtain ⟨ha, hb⟩ := h
      omega)
  rw [hW7, ← htx]
  clear hW7 htx HT7 HQ6 HBw6 HSz6 HT6 HQ5 HBw5 v37 vtx HID hpk
  have HKl : Hid (x.K.length = n) := hide (by
    have := congrArg List.length HXk.out
    rw [HTN.out]; simpa [plainT] using this)
  have HMy : Hid (mayLive x (k : Int)) := hide ⟨by rw [HXj.out]; exact HJd.out, by omega, by rw [HKl.out]; exact k1⟩
  obtain ⟨xe, hxe⟩ : ∃ xe : EntryK, xe = { x with job := { x.job with live := (k : Int) } } := ⟨_, rfl⟩
  have HXe := hide hxe
  have hkf : kf kk = .agg #[c32 j.ses, c32 j.seq] := by rw [HKk.out]; rfl
  have HKc : Hid (∀ W, Blk W w.heap.size 75 R' → W.cell? ⟨w.heap.size, 0, none⟩ = some (c32 j.ses) ∧ W.cell? ⟨w.heap.size, 1, none⟩ = some (c32 j.seq)) := hide fun W hW =>
    ⟨(hW.cell 0).trans (HJ'.out.ses.trans (by rw [HJs.out.1])), (hW.cell 1).trans (HJ'.out.seq.trans (by rw [HJs.out.2]))⟩
  have CL1 : Hid (Calls Try.prog 50 #[.pointer (some ⟨g, 0, none⟩), .agg #[c32 j.ses, c32 j.seq], .int .i64 (k : Int)] W7 fun e w' => e = .returned (.bool true) ∧ Tab w' S g b [(kk, xe)] ∧ Touch S W7 w') := hide (by
    have := jlive_yes W7 S g b [(kk, x)] kk (k : Int) x HSt.out.tab (mget_single _ _) HMy.out
    rw [mput_single, ← hxe, hkf] at this
    exact this)
  have CL2 : Hid (∀ W t, Tab W S g b [(kk, xe)] → t < -1 ∨ (n : Int) ≤ t → Calls Try.prog 50 #[.pointer (some ⟨g, 0, none⟩), .agg #[c32 j.ses, c32 j.seq], .int .i64 t] W fun e w' => e = .returned (.bool false) ∧ Below W.heap.size W w') := hide fun W t hT ht => by
    have := jlive_no W S g b [(kk, xe)] kk t xe hT (mget_single _ _) (by rw [hxe]; show x.job.mined.toNat = 0; rw [HXj.out]; exact HJd.out) (by rw [hxe]; show t < -1 ∨ (x.K.length : Int) ≤ t; rw [HKl.out]; exact ht)
    rw [hkf] at this
    exact this
  have HXl : Hid (xe.job.live = (k : Int)) := hide (by rw [hxe])
  have HXi : Hid ((idsOf (plainT xe.K))[k]? = some m) := hide (by rw [hxe]; show (idsOf (plainT x.K))[k]? = some m; rw [HXk.out]; exact HMk.out)
  have HXm : Hid (xe.job.mined.toNat = 0) := hide (by rw [hxe]; show x.job.mined.toNat = 0; rw [HXj.out]; exact HJd.out)
  have CE1 : Hid (∀ W, Tab W S g b [(kk, xe)] → Calls Try.prog 51 #[.pointer (some ⟨g, 0, none⟩), .agg RO] W fun e w' => (∃ A c, e = .returned (.slice A 0 c)) ∧ Tab w' S g b [(kk, xe)] ∧ Touch S W w') := hide fun W hT => by
    have := jevict_any W S g b [(kk, xe)] ((b0 + 1) :: tl) RO (by simp [HTl.out]) HRO.out hT (by simp)
    have hno : evP ((b0 + 1) :: tl) xe = false := by rw [evP_live HXl.out HXi.out, HMt.out]; exact decide_eq_false (fun e => bump_ne b0 tl e.symm)
    rw [keysP_single, hno] at this
    simp only [Bool.false_eq_true, if_false, dead_nil, List.length_nil] at this
    refine this.mono ?_
    rintro e w' ⟨v, rfl, ho, ht, hc⟩
    obtain ⟨A, c, rfl⟩ := own_slice ho
    exact ⟨⟨A, c, rfl⟩, ht, hc⟩
  have CG1 : Hid (∀ W, Tab W S g b [(kk, xe)] → Calls Try.prog 46 #[.pointer (some ⟨g, 0, none⟩), .agg #[c32 j.ses, c32 j.seq]] W fun e w' => ∃ v' K' R', e = .returned (.tuple #[.agg R', .bool true]) ∧ JobVal xe.job v' R' ∧ plainT K' = plainT xe.K ∧ OwnPay W w' v' K' ∧ Below W.heap.size W w') := hide fun W hT => by
    have := jget_some W S g b [(kk, xe)] kk xe hT (mget_single _ _)
    rw [hkf] at this
    exact this
  obtain ⟨q0, q1⟩ := HKc.out W7 HSt.out.box
  have e2n : ((n : Int)) ≤ (n : Int) := by omega
  have hw8 := wrap8 b0
  have HRM0 : Hid (RM[0]? = some (c8 b0)) := hide (by rw [HRM.out.val, HMt.out]; rfl)
  clear hxe
  go_upto_region 12 with (first
    | (go_at_call 50; (with_reducible refine CL1.out.mono ?_); rintro e w8 ⟨rfl, ht, hc⟩; have HS8 := hide (HSt.out.touch hc ht); clear ht hc CL1; obtain ⟨q0, q1⟩ := HKc.out w8 HS8.out.box)
    | (go_at_call 50; (with_reducible refine (CL2.out w8 _ HS8.out.tab (.inr e2n)).mono ?_); rintro e w9 ⟨rfl, hb9⟩; have HS9 := hide (HS8.out.next hb9); clear hb9; obtain ⟨q0, q1⟩ := HKc.out w9 HS9.out.box)
    | (go_at_call 50; (with_reducible refine (CL2.out w9 _ HS9.out.tab (.inl (by decide))).mono ?_); rintro e w10 ⟨rfl, hb10⟩; have HS10 := hide (HS9.out.next hb10); clear hb10; obtain ⟨q0, q1⟩ := HKc.out w10 HS10.out.box)
    | fail)
  clear CL2 HS8 HS9 hkf HMy HXk HXj HJd HJs HMo HRt HRj HGa HC2 HMk
  go_upto_region 13 with (first
    | ((with_reducible show wpList _ _ _ (⟨some 74, .load _ _, _, _, _, _⟩ :: _) _ _); refine wpList_load_row rfl 70 _ rfl tx rfl 70 RM (0, 0) _ HS10.out.id Try.underlying70 rfl HRM.out.info ?_)
    | (refine wpList_alloc_is rfl 70 rfl Z HZ.out ?_)
    | ((with_reducible show wpList _ _ _ (⟨_, .store 70 _ _, _, _, _, _⟩ :: _) _ _); refine wpList_store_row rfl 70 _ _ rfl w10.heap.size rfl RM rfl 70 Z (Blk.new w10 _ Z) HRM.out.info (by rw [HZs.out, HRM.out.size]) HRM.out.one ?_)
    | fail)
  (try simp only [Act.put, List.setIfInBounds_toArray, List.set_cons_zero, List.set_cons_succ])
  obtain ⟨W11, hW11⟩ : ∃ W11, (w10.alloc (.cells Z 70)).setRow w10.heap.size RM = W11 := ⟨_, rfl⟩
  have hb11 : Below w10.heap.size w10 W11 := by rw [← hW11]; exact below_setRow ((Below.refl _ _).alloc (Nat.le_refl _) _) (Nat.le_refl _) _
  have hq11 : Blk W11 w10.heap.size 70 RM := by rw [← hW11]; exact setRow_heap _ _ _ _ _ _ (Blk.new w10 _ Z)
  have y0 : W11.cell? ⟨w10.heap.size, 0, none⟩ = some (.int .u8 (b0.toNat : Int)) := (hq11.cell 0).trans HRM0.out
  have g0 : W11.frozen? ⟨w10.heap.size, 0, none⟩ = false := hq11.frozen 0
  have hw9 : (((b0.toNat : Int) + 1) % 256) = ((b0 + 1).toNat : Int) := by rw [← hw8]; simp [IntKind.wrap, IntKind.signed, IntKind.bits]
  obtain ⟨W12, hW12⟩ : ∃ W12, W11.setCell ⟨w10.heap.size, 0, none⟩ (.int .u8 (((b0.toNat : Int) + 1) % 256)) = W12 := ⟨_, rfl⟩
  have HQ12 : Hid (Blk W12 w10.heap.size 70 RO) := hide (by have := hq11.set_ 0 (c8 (b0 + 1)); rw [HRb.out] at this; rw [← hW12, hw9]; exact this)
  have HS12 : Hid (StL w W12 S g b w.heap.size tx R' RM [(kk, xe)]) := hide (HS10.out.next (by rw [← hW12]; exact hb11.setCell (p := ⟨w10.heap.size, 0, none⟩) (Nat.le_refl _) _))
  have HN10 : Hid (¬ S w10.heap.size) := hide (HS10.out.up _ (Nat.le_refl _))
  have HW12 := hide hW12
  rw [hW11]
  clear hW11 hb11 hq11 hW12 hw8 hw9
  go_upto_region 14 with (fail)
  rw [HW12.out]
  clear HW12 y0 g0 HS10 HRM0 HRb q0 q1
  obtain ⟨q0, q1⟩ := HKc.out W12 HS12.out.box
  go_upto_region 19 with (first
    | ((with_reducible show wpList _ _ _ (⟨some 80, .load _ _, _, _, _, _⟩ :: _) _ _); refine wpList_load_row rfl 70 _ rfl w10.heap.size rfl 70 RO (0, 0) _ HQ12.out Try.underlying70 rfl HRO.out.info ?_)
    | (go_at_call 51; (with_reducible refine (CE1.out _ HS12.out.tab).mono ?_); rintro e w13 ⟨⟨A13, c13, rfl⟩, ht, hc⟩; have HS13 := hide (HS12.out.touch hc ht); clear ht hc; obtain ⟨q0, q1⟩ := HKc.out w13 HS13.out.box)
    | (go_at_call 46; (with_reducible refine (CG1.out _ HS13.out.tab).mono ?_); rintro e w14 ⟨v14, K14, R14, rfl, hJ14, _, _, hb14⟩; have HJ14 := hide hJ14; have HS14 := hide (HS13.out.next hb14); clear hJ14 hb14)
    | (refine wpList_alloc_is rfl 75 rfl ZJ HZJ.out ?_)
    | ((with_reducible show wpList _ _ _ (⟨_, .store 75 _ _, _, _, _, _⟩ :: _) _ _); refine wpList_store_row rfl 75 _ _ rfl w14.heap.size rfl R14 rfl 75 ZJ (Blk.new w14 _ ZJ) (by rw [HJ14.out.size]; exact info_job) (by rw [HZJs.out, HJ14.out.size]) HJ14.out.one ?_;
        obtain ⟨W15, hW15⟩ : ∃ W15, (w14.alloc (.cells ZJ 75)).setRow w14.heap.size R14 = W15 := ⟨_, rfl⟩;
        have hq15 : Blk W15 w14.heap.size 75 R14 := (by rw [← hW15]; exact setRow_heap _ _ _ _ _ _ (Blk.new w14 _ ZJ));
        have y36 : W15.cell? ⟨w14.heap.size, 36, none⟩ = some (.int .i64 (k : Int)) := (hq15.cell 36).trans (HJ14.out.live.trans (by rw [HXl.out]));
        have HS15 := hide (HS14.out.next (W' := W15) (by rw [← hW15]; exact below_setRow ((Below.refl _ _).alloc (Nat.le_refl _) _) (Nat.le_refl _) _));
        rw [hW15]; clear hW15 hq15)
    | fail)
  have HKf : Hid (kf kk = .agg #[c32 j.ses, c32 j.seq]) := hide (by rw [HKk.out]; rfl)
  clear y36 CE1 CG1 HS12 HS13 HS14 HQ12 HJ14
  rcases (by omega : x2.toNat % 3 = 0 ∨ x2.toNat % 3 = 1 ∨ x2.toNat % 3 = 2) with h3 | h3 | h3
  · have m1 : ((x2.toNat : Int) % 3) = 0 := by omega
    have m2 : ((x2.toNat : Int).tmod 3) = 0 := by rw [Int.tmod_eq_emod_of_nonneg (by omega)]; exact m1
    have CE2 : Hid (∀ W, Tab W S g b [(kk, xe)] → Calls Try.prog 51 #[.pointer (some ⟨g, 0, none⟩), .agg RM] W fun e w' => ∃ v, e = .returned v ∧ w'.ownsRow W.heap.size 68 2 v 1 (keyC [kk]) ∧ Tab w' S g b [(kk, deadJ xe)] ∧ Touch S W w') := hide fun W hT => by
      have := jevict_any W S g b [(kk, xe)] m RM HMl.out HRM.out hT (by simp)
      have hyes : evP m xe = true := by rw [evP_live HXl.out HXi.out]; exact decide_eq_true rfl
      rw [keysP_single, hyes] at this
      simp only [if_true, dead_single, List.length_cons, List.length_nil, Nat.zero_add] at this
      exact this
    have CE3 : Hid (∀ W, Tab W S g b [(kk, deadJ xe)] → Calls Try.prog 51 #[.pointer (some ⟨g, 0, none⟩), .agg RM] W fun e w' => (∃ A c, e = .returned (.slice A 0 c)) ∧ Tab w' S g b [(kk, deadJ xe)] ∧ Touch S W w') := hide fun W hT => by
      have := jevict_any W S g b [(kk, deadJ xe)] m RM HMl.out HRM.out hT (by simp)
      have hno : evP m (deadJ xe) = false := evP_dead rfl
      rw [keysP_single, hno] at this
      simp only [Bool.false_eq_true, if_false, dead_nil, List.length_nil] at this
      refine this.mono ?_
      rintro e w' ⟨v, rfl, ho, ht, hc⟩
      obtain ⟨A, c, rfl⟩ := own_slice ho
      exact ⟨⟨A, c, rfl⟩, ht, hc⟩
    go_upto_region 21 with (fail)
    clear q0 q1
    apply wp_region_phase (C := PhC w S g b w.heap.size tx R' RM [(kk, xe)] [(kk, deadJ xe)]) (M := fun W W' => Touch S W W') (ss := [_, _, _, _, _, _, _, _, _, _, _, _, _, _, _]) (by kernel_rfl) (by kernel_rfl) (by kernel_rfl) (HS15.out.next (Below.refl _ _).drew)
    iterate 1 (first
      | (apply phWalk_const (fun W => Touch.refl _ _) (fun L W h => PhC.more h (by decide))
         · (intro L W9 hL hC hF
            clear hF hL
            obtain ⟨q0, q1⟩ := HKc.out W9 hC.box
            clear hC
            go_simp
            with_reducible exact rfl)
         (try simp only [Act.put, List.setIfInBounds_toArray, List.set_cons_zero, List.set_cons_succ])))
    apply phWalk_const (c := .agg RM) (fun W => Touch.refl _ _) (fun L W h => PhC.more h (by decide))
    · intro L W9 hL hC hF
      clear hF hL
      rw [if_pos (by go_simp)]
      exact gives_load_row 70 _ rfl tx rfl 70 RM (0, 0) _ hC.id Try.underlying70 rfl HRM.out.info ⟨rfl, rfl⟩
    (try simp only [Act.put, List.setIfInBounds_toArray, List.set_cons_zero, List.set_cons_succ])
    apply phWalk_rel (RowN 1) (KeyR S kk) ⟨_, none, 0, rfl⟩ KeyR.later
    · go_simp
    · intro L W9 hL hC hF
      clear hF
      have hC0 : StL w W9 S g b w.heap.size tx R' RM [(kk, xe)] := by have h := hC; unfold PhC at h; rw [hL.no] at h; exact h
      refine gives_call rfl [.pointer (some ⟨g, 0, none⟩), .agg RM] rfl (enters_of Try.func51 (by kernel_rfl) rfl) ?_
      refine (CE2.out W9 hC0.tab).mono ?_
      rintro e w' ⟨v, rfl, ho, ht, hc⟩
      obtain ⟨A', c', rfl⟩ := own_slice ho
      refine ⟨_, rfl, ⟨A', c', rfl⟩, ⟨A', c', rfl, (ReadsS.of_own ho).mono fun i _ hi => hC0.up i (own_lt ho hi).1⟩, ?_, hc⟩
      unfold PhC; rw [more_eq]; exact hC0.touch hc ht
    rintro v2 ⟨A2, c2', rfl⟩
    (try simp only [Act.put, List.setIfInBounds_toArray, List.set_cons_zero, List.set_cons_succ])
    iterate 2 (first
      | (apply phWalk_const (fun W => Touch.refl _ _) (fun L W h => PhC.more h (by decide))
         · (intro L W9 hL hC hF
            clear hF hL
            obtain ⟨q0, q1⟩ := HKc.out W9 hC.box
            clear hC
            go_simp
            with_reducible exact rfl)
         (try simp only [Act.put, List.setIfInBounds_toArray, List.set_cons_zero, List.set_cons_succ])))
    apply phWalk_rel (RowN 1) (KeyR S kk) ⟨_, none, 0, rfl⟩ KeyR.later
    · go_simp
    · intro L W9 hL hC hF
      clear hF
      have hbb : Below W9.heap.size W9 (W9.alloc (.cells #[c32 j.ses, c32 j.seq] 68)) := (Below.refl _ _).alloc (Nat.le_refl _) _
      have hbl := Blk.new W9 68 #[c32 j.ses, c32 j.seq]
      refine gives_build_key _ rfl (c32 j.ses) (c32 j.seq) rfl ⟨⟨_, _, rfl⟩, ⟨_, _, rfl, ⟨by rw [keyC_len]; rfl, fun _ => ⟨_, _, rfl, StL.up hC _ (Nat.le_refl _), hbl.lt, fun i u hu => ?_⟩⟩⟩, PhC.more (StL.next hC hbb) (by decide), Touch.of_below hbb⟩
      rw [Nat.zero_add, hbl.cell]
      rw [HKk.out] at hu
      simpa [keyC] using hu
    rintro v5 ⟨A5, c5, rfl⟩
    (try simp only [Act.put, List.setIfInBounds_toArray, List.set_cons_zero, List.set_cons_succ])
    apply phWalk_constW (c := .bool true)
    · go_simp
    · intro L W9 hL hC hF
      have h5 := hF.1 (by kernel_rfl)
      have h2 := hF.2.1 (by kernel_rfl)
      clear hF
      obtain ⟨A2', c2'', e2, r2⟩ := h2
      cases e2
      obtain ⟨A5', c5', e5, r5⟩ := h5
      cases e5
      refine gives_call rfl [.slice A2 1 c2', .slice A5 1 c5] rfl (enters_of Try.func52 (by kernel_rfl) rfl) ?_
      refine (keys25_any A2 1 c2' [kk] A5 1 c5 [kk] W9 _ _ r2 r5 rfl rfl (by omega)).mono ?_
      rintro e w' ⟨rfl, hb⟩
      exact ⟨_, rfl, by simp, PhC.more (StL.next hC hb) (by decide), Touch.of_below hb⟩
    (try simp only [Act.put, List.setIfInBounds_toArray, List.set_cons_zero, List.set_cons_succ])
    iterate 3 (first
      | (apply phWalk_const (fun W => Touch.refl _ _) (fun L W h => PhC.more h (by decide))
         · (intro L W9 hL hC hF
            clear hF hL
            obtain ⟨q0, q1⟩ := HKc.out W9 hC.box
            clear hC
            go_simp
            with_reducible exact rfl)
         (try simp only [Act.put, List.setIfInBounds_toArray, List.set_cons_zero, List.set_cons_succ])))
    apply phWalk_const (c := .agg RM) (fun W => Touch.refl _ _) (fun L W h => PhC.more h (by decide))
    · intro L W9 hL hC hF
      clear hF hL
      rw [if_pos (by go_simp)]
      exact gives_load_row 70 _ rfl tx rfl 70 RM (0, 0) _ hC.id Try.underlying70 rfl HRM.out.info ⟨rfl, rfl⟩
    (try simp only [Act.put, List.setIfInBounds_toArray, List.set_cons_zero, List.set_cons_succ])
    apply phWalk_rel (RowN 0) (fun _ _ => True) ⟨_, none, 0, rfl⟩ (fun _ _ _ _ _ => trivial)
    · go_simp
    · intro L W9 hL hC hF
      clear hF
      have hC0 : StL w W9 S g b w.heap.size tx R' RM [(kk, deadJ xe)] := by have h := hC; unfold PhC at h; rw [hL.deps 2 (by kernel_rfl)] at h; exact h
      refine gives_call rfl [.pointer (some ⟨g, 0, none⟩), .agg RM] rfl (enters_of Try.func51 (by kernel_rfl) rfl) ?_
      refine (CE3.out W9 hC0.tab).mono ?_
      rintro e w' ⟨⟨A', c', rfl⟩, ht, hc⟩
      refine ⟨_, rfl, ⟨A', c', rfl⟩, trivial, ?_, hc⟩
      unfold PhC; rw [more_ne (by decide), hL.deps 2 (by kernel_rfl)]; exact hC0.touch hc ht
    rintro v11 ⟨A11, c11, rfl⟩
    (try simp only [Act.put, List.setIfInBounds_toArray, List.set_cons_zero, List.set_cons_succ])
    iterate 3 (first
      | (apply phWalk_const (fun W => Touch.refl _ _) (fun L W h => PhC.more h (by decide))
         · (intro L W9 hL hC hF
            clear hF hL
            obtain ⟨q0, q1⟩ := HKc.out W9 hC.box
            clear hC
            go_simp
            with_reducible exact rfl)
         (try simp only [Act.put, List.setIfInBounds_toArray, List.set_cons_zero, List.set_cons_succ])))
    refine phWalk_nil fun L W16 hL hC hF => ?_
    clear hF
    have HS16 : Hid (StL w W16 S g b w.heap.size tx R' RM [(kk, deadJ xe)]) := hide (by unfold PhC at hC; rw [hL 2 (by decide)] at hC; exact hC)
    clear hC hL
    go_upto_region 27 with (fail)
    have CG2 : Hid (Calls Try.prog 46 #[.pointer (some ⟨g, 0, none⟩), .agg #[c32 j.ses, c32 j.seq]] W16 fun e w' => ∃ v' K' R', e = .returned (.tuple #[.agg R', .bool true]) ∧ JobVal (deadJ xe).job v' R' ∧ plainT K' = plainT (deadJ xe).K ∧ OwnPay W16 w' v' K' ∧ Below W16.heap.size W16 w') := hide (by
      have := jget_some W16 S g b [(kk, deadJ xe)] kk (deadJ xe) HS16.out.tab (mget_single _ _)
      rw [HKf.out] at this
      exact this)
    obtain ⟨q0, q1⟩ := HKc.out W16 HS16.out.box
    go_wp2_with (first
      | (go_at_call 46; (with_reducible refine CG2.out.mono ?_); rintro e w18 ⟨v18, K18, R18, rfl, hJ18, _, _, hb18⟩; have HJ18 := hide hJ18; have HS18 := hide (HS16.out.next hb18); clear hJ18 hb18)
      | (refine wpList_alloc_is rfl 75 rfl ZJ HZJ.out ?_)
      | ((with_reducible show wpList _ _ _ (⟨_, .store 75 _ _, _, _, _, _⟩ :: _) _ _); refine wpList_store_row rfl 75 _ _ rfl w18.heap.size rfl R18 rfl 75 ZJ (Blk.new w18 _ ZJ) (by rw [HJ18.out.size]; exact info_job) (by rw [HZJs.out, HJ18.out.size]) HJ18.out.one ?_;
          obtain ⟨W19, hW19⟩ : ∃ W19, (w18.alloc (.cells ZJ 75)).setRow w18.heap.size R18 = W19 := ⟨_, rfl⟩;
          have hq19 : Blk W19 w18.heap.size 75 R18 := (by rw [← hW19]; exact setRow_heap _ _ _ _ _ _ (Blk.new w18 _ ZJ));
          have u36 : W19.cell? ⟨w18.heap.size, 36, none⟩ = some (.int .i64 (-1)) := (hq19.cell 36).trans (HJ18.out.live.trans rfl);
          have u35 : W19.cell? ⟨w18.heap.size, 35, none⟩ = some (.int .u32 0) := (hq19.cell 35).trans (HJ18.out.mined.trans (by show some (c32 xe.job.mined) = _; unfold c32; rw [HXm.out]; rfl));
          have HS19 := hide (HS18.out.next (W' := W19) (by rw [← hW19]; exact below_setRow ((Below.refl _ _).alloc (Nat.le_refl _) _) (Nat.le_refl _) _));
          rw [hW19]; clear hW19 hq19)
      | (go_at_call 43; (with_reducible refine (HAl.out _ HS19.out.below).mono ?_); rintro e w20 ⟨rfl, hb20⟩; have HB20 := hide (below_next HS19.out.below hb20); clear hb20)
      | fail)
    go_ret
    exact ⟨rfl, HB20.out⟩
  · have m1 : ((x2.toNat : Int) % 3) = 1 := by omega
    have m2 : ((x2.toNat : Int).tmod 3) = 1 := by rw [Int.tmod_eq_emod_of_nonneg (by omega)]; exact m1
    have CM : Hid (Calls Try.prog 53 #[.pointer (some ⟨g, 0, none⟩), .agg #[c32 j.ses, c32 j.seq], .int .u32 9] W15 fun e w' => e = .returned (.bool true) ∧ Tab w' S g b [(kk, { xe with job := markedJ xe.job 9#32 })] ∧ Touch S W15 w') := hide (by
      have := jmark_some W15 S g b [(kk, xe)] kk 9#32 xe HS15.out.tab (mget_single _ _)
      rw [HKf.out, mput_single] at this
      exact this)
    clear q0 q1
    obtain ⟨q0, q1⟩ := HKc.out W15 HS15.out.box
    go_upto_region 27 with (first
      | (go_at_call 53; (with_reducible refine CM.out.mono ?_); rintro e W17 ⟨rfl, ht, hc⟩; have HS17 := hide (HS15.out.touch hc ht); clear ht hc)
      | fail)
    have CG2 : Hid (Calls Try.prog 46 #[.pointer (some ⟨g, 0, none⟩), .agg #[c32 j.ses, c32 j.seq]] W17 fun e w' => ∃ v' K' R', e = .returned (.tuple #[.agg R', .bool true]) ∧ JobVal ({ xe with job := markedJ xe.job 9#32 }).job v' R' ∧ plainT K' = plainT ({ xe with job := markedJ xe.job 9#32 }).K ∧ OwnPay W17 w' v' K' ∧ Below W17.heap.size W17 w') := hide (by
      have := jget_some W17 S g b [(kk, { xe with job := markedJ xe.job 9#32 })] kk ({ xe with job := markedJ xe.job 9#32 }) HS17.out.tab (mget_single _ _)
      rw [HKf.out] at this
      exact this)
    obtain ⟨q0, q1⟩ := HKc.out W17 HS17.out.box
    go_wp2_with (first
      | (go_at_call 46; (with_reducible refine CG2.out.mono ?_); rintro e w18 ⟨v18, K18, R18, rfl, hJ18, _, _, hb18⟩; have HJ18 := hide hJ18; have HS18 := hide (HS17.out.next hb18); clear hJ18 hb18)
      | (refine wpList_alloc_is rfl 75 rfl ZJ HZJ.out ?_)
      | ((with_reducible show wpList _ _ _ (⟨_, .store 75 _ _, _, _, _, _⟩ :: _) _ _); refine wpList_store_row rfl 75 _ _ rfl w18.heap.size rfl R18 rfl 75 ZJ (Blk.new w18 _ ZJ) (by rw [HJ18.out.size]; exact info_job) (by rw [HZJs.out, HJ18.out.size]) HJ18.out.one ?_;
          obtain ⟨W19, hW19⟩ : ∃ W19, (w18.alloc (.cells ZJ 75)).setRow w18.heap.size R18 = W19 := ⟨_, rfl⟩;
          have hq19 : Blk W19 w18.heap.size 75 R18 := (by rw [← hW19]; exact setRow_heap _ _ _ _ _ _ (Blk.new w18 _ ZJ));
          have u36 : W19.cell? ⟨w18.heap.size, 36, none⟩ = some (.int .i64 (-1)) := (hq19.cell 36).trans (HJ18.out.live.trans rfl);
          have u35 : W19.cell? ⟨w18.heap.size, 35, none⟩ = some (.int .u32 9) := (hq19.cell 35).trans (HJ18.out.mined.trans rfl);
          have HS19 := hide (HS18.out.next (W' := W19) (by rw [← hW19]; exact below_setRow ((Below.refl _ _).alloc (Nat.le_refl _) _) (Nat.le_refl _) _));
          rw [hW19]; clear hW19 hq19)
      | (go_at_call 43; (with_reducible refine (HAl.out _ HS19.out.below).mono ?_); rintro e w20 ⟨rfl, hb20⟩; have HB20 := hide (below_next HS19.out.below hb20); clear hb20)
      | fail)
    go_ret
    exact ⟨rfl, HB20.out⟩
  · have m1 : ((x2.toNat : Int) % 3) = 2 := by omega
    have m2 : ((x2.toNat : Int).tmod 3) = 2 := by rw [Int.tmod_eq_emod_of_nonneg (by omega)]; exact m1
    have CM : Hid (Calls Try.prog 54 #[.pointer (some ⟨g, 0, none⟩)] W15 fun e w' => e = .returned (.tuple #[]) ∧ Tab w' S g b [(kk, deadJ xe)] ∧ Touch S W15 w') := hide (by
      have := jrest_any W15 S g b [(kk, xe)] HS15.out.tab (by simp)
      rw [show ([(kk, xe)] : List (KeyT × EntryK)).map (·.1) = [kk] from rfl, dead_single] at this
      exact this)
    clear q0 q1
    go_upto_region 27 with (first
      | (go_at_call 54; (with_reducible refine CM.out.mono ?_); rintro e W17 ⟨rfl, ht, hc⟩; have HS17 := hide (HS15.out.touch hc ht); clear ht hc)
      | fail)
    have CG2 : Hid (Calls Try.prog 46 #[.pointer (some ⟨g, 0, none⟩), .agg #[c32 j.ses, c32 j.seq]] W17 fun e w' => ∃ v' K' R', e = .returned (.tuple #[.agg R', .bool true]) ∧ JobVal (deadJ xe).job v' R' ∧ plainT K' = plainT (deadJ xe).K ∧ OwnPay W17 w' v' K' ∧ Below W17.heap.size W17 w') := hide (by
      have := jget_some W17 S g b [(kk, deadJ xe)] kk (deadJ xe) HS17.out.tab (mget_single _ _)
      rw [HKf.out] at this
      exact this)
    obtain ⟨q0, q1⟩ := HKc.out W17 HS17.out.box
    go_wp2_with (first
      | (go_at_call 46; (with_reducible refine CG2.out.mono ?_); rintro e w18 ⟨v18, K18, R18, rfl, hJ18, _, _, hb18⟩; have HJ18 := hide hJ18; have HS18 := hide (HS17.out.next hb18); clear hJ18 hb18)
      | (refine wpList_alloc_is rfl 75 rfl ZJ HZJ.out ?_)
      | ((with_reducible show wpList _ _ _ (⟨_, .store 75 _ _, _, _, _, _⟩ :: _) _ _); refine wpList_store_row rfl 75 _ _ rfl w18.heap.size rfl R18 rfl 75 ZJ (Blk.new w18 _ ZJ) (by rw [HJ18.out.size]; exact info_job) (by rw [HZJs.out, HJ18.out.size]) HJ18.out.one ?_;
          obtain ⟨W19, hW19⟩ : ∃ W19, (w18.alloc (.cells ZJ 75)).setRow w18.heap.size R18 = W19 := ⟨_, rfl⟩;
          have hq19 : Blk W19 w18.heap.size 75 R18 := (by rw [← hW19]; exact setRow_heap _ _ _ _ _ _ (Blk.new w18 _ ZJ));
          have u36 : W19.cell? ⟨w18.heap.size, 36, none⟩ = some (.int .i64 (-1)) := (hq19.cell 36).trans (HJ18.out.live.trans rfl);
          have u35 : W19.cell? ⟨w18.heap.size, 35, none⟩ = some (.int .u32 0) := (hq19.cell 35).trans (HJ18.out.mined.trans (by show some (c32 xe.job.mined) = _; unfold c32; rw [HXm.out]; rfl));
          have HS19 := hide (HS18.out.next (W' := W19) (by rw [← hW19]; exact below_setRow ((Below.refl _ _).alloc (Nat.le_refl _) _) (Nat.le_refl _) _));
          rw [hW19]; clear hW19 hq19)
      | (go_at_call 43; (with_reducible refine (HAl.out _ HS19.out.below).mono ?_); rintro e w20 ⟨rfl, hb20⟩; have HB20 := hide (below_next HS19.out.below hb20); clear hb20)
      | fail)
    go_ret
    exact ⟨rfl, HB20.out⟩
theorem jobsLive_walk (w : World) (j0 : JobM) (u0 : Value) (R0 : Array Value) (T0 : List TierK) (J0 : JobVal j0 u0 R0) (B0 : j0.breach.length = 32) (P0 : PayAt w (fun i => i < w.heap.size) u0 T0) (kn0 : T0.length ≤ 9223372036854775807) (kt0 : ∀ p ∈ T0, p.2.2.length ≤ 9223372036854775807) (lv0 : -9223372036854775808 ≤ j0.live ∧ j0.live ≤ 9223372036854775807) (x1 : Int) (l1 : -9223372036854775808 ≤ x1) (u1 : x1 ≤ 9223372036854775807) (x2 : BitVec 8) :
    Calls Try.prog 10 #[.agg R0, .int .i64 x1, .int .u8 (x2.toNat : Int)] w fun e w' => e = .returned (.bool true) ∧ Below w.heap.size w w' :=
  jobsLive_in w j0 u0 R0 T0 J0 B0 P0 kn0 x1 l1 u1 x2
end Go.Proofs.Ytccpkafmbmkmfaa
