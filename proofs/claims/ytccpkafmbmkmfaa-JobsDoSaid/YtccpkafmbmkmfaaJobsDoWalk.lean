/- The walk of miradorlaw29.JobsDo. No condition. -/
import Derived.Test.YtccpkafmbmkmfaaJobSteps
import Derived.Deep.CutRange
namespace Go.Proofs.Ytccpkafmbmkmfaa
open Go.RowKit Go.Shelf
set_option linter.unusedVariables false
set_option linter.unusedSimpArgs false
attribute [local go_sem] Gives givesUpon
attribute [local irreducible] Gives

theorem few_modest {K : List TierK} (h : fewP (plainT K) = true) : Modest K ∧ K.length ≤ 20 := by
  simp only [fewP, plainT, Bool.and_eq_true, decide_eq_true_eq, List.all_eq_true, List.length_map] at h
  refine ⟨⟨by omega, fun p hp => ?_⟩, h.2⟩
  have := h.1 (p.1, p.2.2) (List.mem_map.2 ⟨p, hp, rfl⟩)
  dsimp only at this; omega
/-- a call whose id is turned -/
theorem opVal_turn {o : OpM} {R : Array Value} (h : o.j.breach.length = 32) (hi : o.id.length = 32) (hv : o.pv.oneCell' = true) (hR : OpVal o R) (id' : List (BitVec 8)) (hi' : id'.length = 32) : OpVal { o with id := id' } (splice R.toList 41 (id'.map c8)).toArray := by
  obtain ⟨R', hR'⟩ := opVal (o := { o with id := id' }) h hi' hv
  have : (splice R.toList 41 (id'.map c8)).toArray = R' := by
    rw [hR'.val, hR.val]
    congr 1
    simp only [splice, opCells]
    have e1 : ([ci o.kind, ci o.tier] ++ (jobCells o.j o.pv ++ ([c32 o.n] ++ (o.id.map c8 ++ [.bool o.near])))) = ([ci o.kind, ci o.tier] ++ jobCells o.j o.pv ++ [c32 o.n]) ++ (o.id.map c8 ++ [.bool o.near]) := by simp
    have hl : ([ci o.kind, ci o.tier] ++ jobCells o.j o.pv ++ [c32 o.n]).length = 41 := by simp [jobCells_len h]
    have hd : ∀ (A B : List Value) (k : Nat), A.length = 41 → (A ++ B).drop (41 + k) = B.drop k := fun A B k hA => by rw [← List.drop_drop, ← hA, List.drop_left]
    rw [e1, List.take_append_of_le_length (by rw [hl]; exact Nat.le_refl _), List.take_of_length_le (by rw [hl]; exact Nat.le_refl _), hd _ _ _ hl, show (id'.map c8).length = (o.id.map c8).length by rw [List.length_map, List.length_map, hi, hi'], List.drop_left]
    simp
  rw [this]; exact hR'
set_option maxRecDepth 100000 in
set_option maxHeartbeats 3200000 in
theorem jobsDo_any (v : Value) (ops : List OpM) (w : World) (S : Nat → Prop) (h : OpsAt w S v ops) (hS : ∀ i, S i → i < w.heap.size) (hl : ops.length ≤ 9223372036854775807) :
    Calls Try.prog 12 #[v] w fun e w' => e = .returned (.bool true) ∧ Below w.heap.size w w' := by
  obtain ⟨Z, hZ, hZs⟩ := zero_op
  have HZ := hide hZ
  have HZs := hide hZs
  have HP := hide h
  have HSl := hide hS
  have HNw := hide (jnew_any w)
  obtain ⟨⟨A, c, rfl, hc, _⟩, _, _⟩ := id h
  obtain ⟨n, hn⟩ : ∃ n, n = ops.length := ⟨_, rfl⟩
  have HN := hide hn
  have HL := hide hl
  rw [← hn] at hc HP hl ⊢
  clear hn hZ hZs h hS
  generalize hsm : smallP ops = sm
  go_enter Try.func12, Try.ntmps12
  go_upto_region 2 with (first
    | (go_at_call 44; (with_reducible refine HNw.out.mono ?_); rintro e w1 ⟨rfl, ht1, hb1⟩; have HT1 := hide ht1; have HB1 := hide hb1; have HSm := hide (small_any _ ops w1 S (HP.out.below hb1) HL.out); rw [hsm] at HSm; clear ht1 hb1)
    | fail)
  cases sm
  · go_wp2_with (first
      | (go_at_call 61; (with_reducible refine HSm.out.mono ?_); rintro e w2 ⟨rfl, hb2⟩; have HB2 := hide (below_next HB1.out hb2); have HAl := hide (alive29_any w2); clear hb2)
      | (go_at_call 43; (with_reducible refine HAl.out.mono ?_); rintro e w3 ⟨rfl, hb3⟩; have HB3 := hide (below_next HB2.out hb3); clear hb3)
      | fail)
    go_ret
    exact ⟨rfl, HB3.out⟩
  · have hsm2 : ops.all (fun x => fewP (plainT x.K)) = true ∧ ops.length ≤ 60 := by
      unfold smallP at hsm
      rw [Bool.and_eq_true, decide_eq_true_eq] at hsm; exact hsm
    have HFew := hide hsm2.1
    have hn60 : n ≤ 60 := by rw [HN.out]; exact hsm2.2
    clear hsm hsm2
    go_wp2_with (first
      | (go_at_call 61; (with_reducible refine HSm.out.mono ?_); rintro e w2 ⟨rfl, hb2⟩; have HB2 := hide (below_next HB1.out hb2); have HT2 := hide (HT1.out.below hb2); clear hb2)
      | fail)
    have HI2 : Hid (TabJ w w2 (fun i => w.heap.size ≤ i ∧ i < w2.heap.size) (w.heap.size + 1) w.heap.size [] (.slice none 0 0) []) := hide ⟨fun i hi => hi, HT2.out.mono_ fun i hi hs => ⟨hs, hi⟩, JobsAt.none_, HB2.out⟩
    go_loopw [3, 4, 28] (fun p u i wr => ∃ (k : Nat) (TS : Nat → Prop) (g b : Nat) (M : List (KeyT × EntryK)) (L : List JobK), k ≤ n ∧ i = .int .i64 (k : Int) ∧ p = .pointer (some ⟨g, 0, none⟩) ∧ Hid (TabJ w wr TS g b M u L) ∧ Hid (L.map plainJ = M.map plainE) ∧ L.length ≤ k) (fun _ _ i _ => n - (intOf i).toNat)
    case atStart => exact ⟨0, _, _, _, [], [], Nat.zero_le _, rfl, rfl, HI2, hide rfl, Nat.le_refl _⟩
    case round =>
      obtain ⟨wz, rfl⟩ : ∃ wz : World, wz = wr := ⟨_, rfl⟩
      obtain ⟨k, TS, g, b, M, L, hk, rfl, rfl, HI, HE, hLk⟩ := hrel
      by_cases hlt : k < n
      · have hd1 : decide ((k : Int) < (n : Int)) = true := by simpa using hlt
        have hkL : k < ops.length := by rw [← HN.out]; exact hlt
        have HPz := hide (HP.out.below HI.out.below)
        obtain ⟨ga, oa, rfl, _, hga, hcells⟩ := HPz.out.at_ (k := k) hkL
        have hMem : ops[k] ∈ ops := List.getElem_mem hkL
        obtain ⟨hLen, hLid⟩ := HPz.out.len _ hMem
        have hPay := HPz.out.pay _ hMem
        have hFx : fewP (plainT ops[k].K) = true := List.all_eq_true.1 HFew.out _ hMem
        generalize (ops[k]'hkL) = x at *
        obtain ⟨hMo, hK20⟩ := few_modest hFx
        obtain ⟨Ap, cp, hpv, _⟩ := id hPay
        obtain ⟨R, hR⟩ := opVal (o := x) hLen hLid (by rw [hpv]; rfl)
        have HIi : Hid ((Try.prog.info? 106).map (·.size) = some (opCells x).length) := hide (by rw [opCells_len hLen hLid]; exact info_op)
        obtain ⟨W2, hW2⟩ : ∃ W2, W2 = (wz.alloc (.cells Z 106)).setRow wz.heap.size R := ⟨_, rfl⟩
        have hb2 : Below wz.heap.size wz W2 := by rw [hW2]; exact below_setRow ((Below.refl _ _).alloc (Nat.le_refl _) _) (Nat.le_refl _) _
        have hq2 : Blk W2 wz.heap.size 106 R := by rw [hW2]; exact setRow_heap _ _ _ _ _ _ (Blk.new wz _ _)
        have HPay2 := hide (hPay.below hb2)
        have HPay0 := hide hPay
        have HRs := hide hR.val.symm
        have HR := hide hR
        have HCs := hide hcells
        have HMo := hide hMo
        have HLen := hide hLen
        have HLid := hide hLid
        have HB2 := hide hb2
        have HQ2 := hide hq2
        have HPv := hide hpv
        have hk0 : (0 : Int) ≤ (k : Int) := by omega
        clear hMem hLen hLid hPay hFx hMo hpv hb2 hq2 hcells hga hR
        replace hW2 := hide hW2.symm
        go_upto_region 8 with (first
          | ((with_reducible show wpList _ _ _ (⟨_, .load 106 (.tmp 30), _, _, _, _⟩ :: _) _ _); refine wpList_load_at rfl 106 _ rfl ⟨ga, oa + k * 74, none⟩ rfl (opCells x) _ Try.underlying106 rfl HIi.out (fun i u hu => by rw [Addr.add_lit]; exact HCs.out i u hu) ?_; rw [HRs.out])
          | (refine wpList_alloc_is rfl 106 rfl Z HZ.out ?_)
          | ((with_reducible show wpList _ _ _ (⟨_, .store 106 _ _, _, _, _, _⟩ :: _) _ _); refine wpList_store_row rfl 106 _ _ rfl wz.heap.size rfl R rfl 106 _ (Blk.new wz _ _) (by rw [HR.out.size]; exact info_op) (by rw [HR.out.size]; exact HZs.out) HR.out.one ?_; rw [hW2.out])
          | fail)
        obtain ⟨bb, hbb⟩ : ∃ bb, bb = (x.near && decide (0 < x.K.length)) := ⟨_, rfl⟩
        have HBb := hide hbb
        clear hbb
        simp only [Act.put, List.setIfInBounds_toArray, List.set_cons_zero, List.set_cons_succ]
        go_cut [41] from 29 to 171 (fun s41 wx => s41 = .bool bb ∧ wx = W2)
        case first =>
          have c73 : W2.cell? ⟨wz.heap.size, 73, none⟩ = some (.bool x.near) := (HQ2.out.cell 73).trans HR.out.near_
          have c39 : W2.cell? ⟨wz.heap.size, 39, none⟩ = some (.slice Ap x.K.length cp) := ((HQ2.out.cell 39).trans HR.out.pay).trans (by rw [HPv.out])
          cases hne : x.near
          · rw [hne] at c73
            go_wp2
            go_meet
            exact ⟨by rw [HBb.out, hne]; rfl, rfl⟩
          · rw [hne] at c73
            go_wp2
            go_meet
            have hd : decide ((0 : Int) < (x.K.length : Int)) = decide (0 < x.K.length) := decide_eq_decide.2 ⟨fun h => by omega, fun h => by omega⟩
            exact ⟨by rw [HBb.out, hne, ← hd]; rfl, rfl⟩
        case rest =>
          obtain ⟨rfl, rfl⟩ := hcut
          go_upto_if 41 with fail
          go_cut [] from 29 to 171 (fun wx => ∃ (o : OpM) (R' : Array Value), o.j = x.j ∧ o.pv = x.pv ∧ o.K = x.K ∧ o.id.length = 32 ∧ Hid (OpVal o R') ∧ Hid (Blk wx wz.heap.size 106 R') ∧ Hid (Below wz.heap.size wz wx))
          case first =>
            cases bb
            · go_wp2
              go_meet
              exact ⟨x, R, rfl, rfl, rfl, HLid.out, HR, HQ2, HB2⟩
            · have hKp : 0 < x.K.length := by
                have := HBb.out
                rw [eq_comm, Bool.and_eq_true, decide_eq_true_eq] at this; exact this.2
              have c39 : wc.cell? ⟨wz.heap.size, 39, none⟩ = some (.slice Ap x.K.length cp) := ((HQ2.out.cell 39).trans HR.out.pay).trans (by rw [HPv.out])
              have hp0 := HPay2.out
              rw [HPv.out] at hp0
              obtain ⟨gt, ot, rfl, _, _, t1⟩ := hp0.at_ (k := 0) hKp
              have hm0 : x.K[0] ∈ x.K := List.getElem_mem hKp
              have hTx := HPay2.out.tx hm0
              have hbl := HMo.out.2 _ hm0
              generalize (x.K[0]'hKp) = y at *
              rw [Nat.zero_mul, Nat.add_zero] at t1
              have HId := hide (refid_any y.2.1 y.2.2 wc _ hTx hbl)
              have hdp : (0 : Int) < (x.K.length : Int) := by omega
              clear hp0 hm0 hTx hbl
              go_wp2_with (first
                | (go_at_call 49; (with_reducible refine HId.out.mono ?_); rintro e w3 ⟨rfl, hb3⟩; have HB3 := hide (below_next HB2.out hb3); have HQ3 := hide (HQ2.out.below hb3 HQ2.out.lt); clear hb3)
                | ((with_reducible show wpList _ _ _ (⟨_, .store 70 _ _, _, _, _, _⟩ :: _) _ _); refine wpList_store_at rfl 70 _ _ rfl wz.heap.size 41 rfl ((shaOf y.2.2).map c8) rfl 106 R HQ3.out (by rw [List.length_map, shaOf_len]; exact info_id) (by rw [List.length_map, shaOf_len, HR.out.size]; decide) (by intro u hu; obtain ⟨z, _, rfl⟩ := List.mem_map.1 hu; rfl) ?_)
                | fail)
              go_meet
              exact ⟨{ x with id := shaOf y.2.2 }, _, rfl, rfl, rfl, shaOf_len _, hide (opVal_turn HLen.out HLid.out (by rw [HPv.out]; rfl) HR.out _ (shaOf_len _)), hide (setRow_heap _ _ _ _ _ _ HQ3.out), hide (below_setRow HB3.out (Nat.le_refl _) _)⟩
          case rest =>
            obtain ⟨o, R', hoj, hopv, hoK, hoid, HRo, HQo, HBo⟩ := hcut
            have HIo := hide (HI.out.later HBo.out)
            have hPo : PayAt wc (fun i => ¬ TS i) o.pv o.K := by
              rw [hopv, hoK]
              exact (HPay0.out.below HBo.out).mono fun i hi hs e => by have := (HI.out.bnd i e).1; have := HSl.out i hs; omega
            have HPo := hide hPo
            have hoj32 : o.j.breach.length = 32 := by rw [hoj]; exact HLen.out
            have hoMo : Modest o.K := by rw [hoK]; exact HMo.out
            have HStep := hide (step_any w wc TS g b M _ L HIo.out HE.out o R' HRo.out hoj32 hoid hPo hoMo (by omega))
            have HOMo := hide hoMo
            have HOid := hide hoid
            have HO32 := hide hoj32
            obtain ⟨RI, hRI⟩ := idVal o.id hoid
            have HRI := hide hRI
            have HRi3 := hide hRI.val.symm
            have HIi3 : Hid ((Try.prog.info? 70).map (·.size) = some (o.id.map c8).length) := hide (by rw [List.length_map, hoid]; exact info_id)
            clear hPo hoj hopv hoK hoid hRI hoMo hoj32
            go_upto_region 12 with (first
              | ((with_reducible show wpList _ _ _ (⟨_, .load 106 _, _, _, _, _⟩ :: _) _ _); refine wpList_load_row rfl 106 _ rfl wz.heap.size rfl 106 R' (0, 0) _ HQo.out Try.underlying106 rfl (by rw [HRo.out.size]; exact info_op) ?_)
              | (go_at_call 62; (with_reducible refine HStep.out.mono ?_); rintro e w3 ⟨TS3, g3, b3, M3, v3, L3, rfl, hT3, hE3, hL3, ht3⟩; obtain ⟨An, cn, rfl, _, _⟩ := hT3.jobs.row; have HT3 := hide hT3; have HE3 := hide hE3; have HTo := hide ht3; clear hT3 hE3 ht3)
              | fail)
            have hL60 : L3.length ≤ 65536 := by omega
            have HLn : Hid (M3.length = L3.length) := hide (eqv_len HE3.out).symm
            have HPl3 := hide HT3.out.tab.plain
            have HMoL := hide (eqv_modest HPl3.out HE3.out)
            have HQ3 : Hid (Blk w3 wz.heap.size 106 R') := hide (HQo.out.touch HTo.out fun e => by have := (HI.out.bnd _ e).2; omega)
            have FT : Hid (∀ W, Below w3.heap.size w3 W → TabJ w W TS3 g3 b3 M3 (.slice An L3.length cn) L3) := hide fun W hW => HT3.out.later hW
            have FQ : Hid (∀ W, Below w3.heap.size w3 W → Blk W wz.heap.size 106 R') := hide fun W hW => HQ3.out.below hW HQ3.out.lt
            have F40 : Hid (∀ W, Below w3.heap.size w3 W → W.cell? ⟨wz.heap.size, 40, none⟩ = some (c32 o.n)) := hide fun W hW => ((FQ.out W hW).cell 40).trans HRo.out.n_
            have FI : Hid (∀ W, Below w3.heap.size w3 W → ∀ i u, (o.id.map c8)[i]? = some u → W.cell? ((⟨wz.heap.size, 41, none⟩ : Addr).add i) = some u) := hide fun W hW i u hu => by
              rw [Addr.add_lit]; exact ((FQ.out W hW).cell _).trans (HRo.out.id_ i u hu)
            go_cut [116] from 29 to 171 (fun s wx => s = .bool false ∧ Hid (Below w3.heap.size w3 wx))
            case first =>
              obtain ⟨KC, hKC⟩ : ∃ KC, keysP M3 (fun x => decide (o.id ∈ idsOf (plainT x.K))) = KC := ⟨_, rfl⟩
              obtain ⟨KA, hKA⟩ : ∃ KA, keysP M3 (fun x => decide (x.job.height = o.n)) = KA := ⟨_, rfl⟩
              obtain ⟨KM, hKM⟩ : ∃ KM, keysP M3 (fun x => decide (o.n ≠ 0 ∧ x.job.mined = o.n)) = KM := ⟨_, rfl⟩
              have HKl : Hid (KC.length ≤ 65536 ∧ KA.length ≤ 65536 ∧ KM.length ≤ 65536) := hide (by
                have h1 := keysP_len M3 (fun x => decide (o.id ∈ idsOf (plainT x.K)))
                have h2 := keysP_len M3 (fun x => decide (x.job.height = o.n))
                have h3 := keysP_len M3 (fun x => decide (o.n ≠ 0 ∧ x.job.mined = o.n))
                rw [hKC] at h1; rw [hKA] at h2; rw [hKM] at h3
                have := HLn.out
                omega)
              have HK1 : Hid (keysL L3 (fun x => decide (o.id ∈ idsOf (plainT x.2.2))) = KC) := hide (by rw [← hKC]; exact eqv_keysP HPl3.out HE3.out (fun y => decide (o.id ∈ idsOf y.2)))
              have HK2 : Hid (keysL L3 (fun x => decide (x.1.height = o.n)) = KA) := hide (by rw [← hKA]; exact eqv_keysP HPl3.out HE3.out (fun y => decide (y.1.height = o.n)))
              have HK3 : Hid (keysL L3 (fun x => decide (o.n ≠ 0 ∧ x.1.mined = o.n)) = KM) := hide (by rw [← hKM]; exact eqv_keysP HPl3.out HE3.out (fun y => decide (o.n ≠ 0 ∧ y.1.mined = o.n)))
              have HKc := hide hKC
              have HKa := hide hKA
              have HKm := hide hKM
              clear hKC hKA hKM
              apply wp_region_rel (C := fun W => Below w3.heap.size w3 W) (M := fun W W' => Below W.heap.size W W') (ss := [_, _, _, _, _, _, _, _, _, _, _, _, _, _, _, _, _, _, _, _, _, _, _, _, _, _, _, _, _, _, _, _, _, _, _, _, _, _, _, _, _, _, _, _, _, _, _, _, _, _, _, _, _, _, _, _]) (by kernel_rfl) (by kernel_rfl) (by kernel_rfl) (Below.refl _ _).drew
              iterate 8 (first
                | (apply relWalk_const (fun W => Below.refl _ _)
                   · (intro W9 hC hF
                      clear hF
                      have q40 := F40.out W9 hC
                      clear hC
                      go_simp
                      with_reducible exact rfl)
                   (try simp only [Act.put, List.setIfInBounds_toArray, List.set_cons_zero, List.set_cons_succ])))
              apply relWalk_rel (RowN L3.length) (JobsW w3 M3) ⟨_, none, 0, rfl⟩ JobsW.later
              · go_simp
              · intro W hC hF
                clear hF
                refine gives_call rfl [.pointer (some ⟨g3, 0, none⟩)] rfl (enters_of Try.func47 (by kernel_rfl) rfl) ?_
                refine (jlist_any W TS3 g3 b3 M3 (FT.out W hC).tab (by have := HLn.out; omega)).mono ?_
                rintro e w' ⟨v, L9, rfl, ho, hp9⟩; obtain ⟨A9, c9, rfl, _⟩ := ho.slice; have hl9 : L9.length = L3.length := (eqv_len hp9).trans HLn.out
                exact ⟨_, rfl, ⟨A9, c9, by rw [hl9]⟩, JobsW.of_own ho hp9 hC.size, below_next hC ho.below, ho.below⟩
              rintro _ ⟨A8, c8x, rfl⟩
              (try simp only [Act.put, List.setIfInBounds_toArray, List.set_cons_zero, List.set_cons_succ])
              iterate 1 (first
                | (apply relWalk_const (fun W => Below.refl _ _)
                   · (intro W9 hC hF
                      clear hF
                      have q40 := F40.out W9 hC
                      clear hC
                      go_simp
                      with_reducible exact rfl)
                   (try simp only [Act.put, List.setIfInBounds_toArray, List.set_cons_zero, List.set_cons_succ])))
              apply relWalk_constW (c := .bool true)
              · go_simp
              · intro W hC hF
                have h8 := hF.1 (by kernel_rfl)
                clear hF
                obtain ⟨L9, hJ9, hp9⟩ := h8
                refine gives_call rfl [.slice A8 L3.length c8x, .slice An L3.length cn] rfl (enters_of Try.func63 (by kernel_rfl) rfl) ?_
                refine (refall_any _ L9 _ L3 W _ _ hJ9 (FT.out W hC).jobs (by have := HLn.out; have := eqv_len hp9; omega) (JobsW.most hp9 HPl3.out)).mono ?_
                rintro e w' ⟨rfl, hb⟩
                exact ⟨_, rfl, by rw [hp9, HE3.out]; simp, below_next hC hb, hb⟩
              (try simp only [Act.put, List.setIfInBounds_toArray, List.set_cons_zero, List.set_cons_succ])
              iterate 4 (first
                | (apply relWalk_const (fun W => Below.refl _ _)
                   · (intro W9 hC hF
                      clear hF
                      have q40 := F40.out W9 hC
                      clear hC
                      go_simp
                      with_reducible exact rfl)
                   (try simp only [Act.put, List.setIfInBounds_toArray, List.set_cons_zero, List.set_cons_succ])))
              apply relWalk_constW (c := .int .i64 (L3.length : Int))
              · go_simp
              · intro W hC hF
                clear hF
                refine gives_call rfl [.pointer (some ⟨g3, 0, none⟩)] rfl (enters_of Try.func59 (by kernel_rfl) rfl) ?_
                have hc := jlen_any W TS3 g3 b3 M3 (FT.out W hC).tab
                rw [HLn.out] at hc
                refine hc.mono ?_
                rintro e w' ⟨rfl, rfl⟩
                exact ⟨_, rfl, rfl, hC, Below.refl _ _⟩
              (try simp only [Act.put, List.setIfInBounds_toArray, List.set_cons_zero, List.set_cons_succ])
              iterate 7 (first
                | (apply relWalk_const (fun W => Below.refl _ _)
                   · (intro W9 hC hF
                      clear hF
                      have q40 := F40.out W9 hC
                      clear hC
                      go_simp
                      with_reducible exact rfl)
                   (try simp only [Act.put, List.setIfInBounds_toArray, List.set_cons_zero, List.set_cons_succ])))
              apply relWalk_const (c := .agg RI) (fun W => Below.refl _ _)
              · intro W9 hC hF
                clear hF
                rw [if_pos (by go_simp)]
                exact gives_load_at 70 _ rfl ⟨wz.heap.size, 41, none⟩ rfl (o.id.map c8) _ Try.underlying70 rfl HIi3.out (FI.out W9 hC) ⟨by rw [HRi3.out], rfl⟩
              (try simp only [Act.put, List.setIfInBounds_toArray, List.set_cons_zero, List.set_cons_succ])
              apply relWalk_rel (RowN KC.length) (KeysW w3 KC) ⟨_, none, 0, rfl⟩ KeysW.later
              · go_simp
              · intro W hC hF
                clear hF
                refine gives_call rfl [.pointer (some ⟨g3, 0, none⟩), .agg RI] rfl (enters_of Try.func56 (by kernel_rfl) rfl) ?_
                have hc := jclaim_any W TS3 g3 b3 M3 o.id RI HOid.out HRI.out (FT.out W hC).tab (by have := HLn.out; omega)
                rw [HKc.out] at hc
                refine hc.mono ?_
                rintro e w' ⟨u, rfl, ho⟩; obtain ⟨A9, c9, rfl⟩ := own_slice ho.own
                exact ⟨_, rfl, ⟨A9, c9, rfl⟩, KeysW.of_own ho hC.size, below_next hC ho.below, ho.below⟩
              rintro _ ⟨A24, c24, rfl⟩
              (try simp only [Act.put, List.setIfInBounds_toArray, List.set_cons_zero, List.set_cons_succ])
              iterate 2 (first
                | (apply relWalk_const (fun W => Below.refl _ _)
                   · (intro W9 hC hF
                      clear hF
                      have q40 := F40.out W9 hC
                      clear hC
                      go_simp
                      with_reducible exact rfl)
                   (try simp only [Act.put, List.setIfInBounds_toArray, List.set_cons_zero, List.set_cons_succ])))
              apply relWalk_const (c := .agg RI) (fun W => Below.refl _ _)
              · intro W9 hC hF
                clear hF
                rw [if_pos (by go_simp)]
                exact gives_load_at 70 _ rfl ⟨wz.heap.size, 41, none⟩ rfl (o.id.map c8) _ Try.underlying70 rfl HIi3.out (FI.out W9 hC) ⟨by rw [HRi3.out], rfl⟩
              (try simp only [Act.put, List.setIfInBounds_toArray, List.set_cons_zero, List.set_cons_succ])
              apply relWalk_rel (RowN KC.length) (KeysW w3 KC) ⟨_, none, 0, rfl⟩ KeysW.later
              · go_simp
              · intro W hC hF
                clear hF
                refine gives_call rfl [.slice An L3.length cn, .agg RI] rfl (enters_of Try.func64 (by kernel_rfl) rfl) ?_
                have hc := refclaim29_any _ L3 o.id RI HOid.out HRI.out W _ (FT.out W hC).jobs (by omega) HMoL.out
                rw [HK1.out] at hc
                refine hc.mono ?_
                rintro e w' ⟨u, rfl, ho⟩; obtain ⟨A9, c9, rfl⟩ := own_slice ho.own
                exact ⟨_, rfl, ⟨A9, c9, rfl⟩, KeysW.of_own ho hC.size, below_next hC ho.below, ho.below⟩
              rintro _ ⟨A28, c28, rfl⟩
              (try simp only [Act.put, List.setIfInBounds_toArray, List.set_cons_zero, List.set_cons_succ])
              apply relWalk_constW (c := .bool true)
              · go_simp
              · intro W hC hF
                have h28 := hF.1 (by kernel_rfl)
                have h24 := hF.2.1 (by kernel_rfl)
                clear hF
                obtain ⟨A', c', e, r24⟩ := h24
                cases e
                obtain ⟨A', c', e, r28⟩ := h28
                cases e
                refine gives_call rfl [.slice A24 KC.length c24, .slice A28 KC.length c28] rfl (enters_of Try.func52 (by kernel_rfl) rfl) ?_
                refine (keys25_any A24 KC.length c24 KC A28 KC.length c28 KC W _ _ r24 r28 rfl rfl (by have := HKl.out; omega)).mono ?_
                rintro e w' ⟨rfl, hb⟩
                exact ⟨_, rfl, by simp, below_next hC hb, hb⟩
              (try simp only [Act.put, List.setIfInBounds_toArray, List.set_cons_zero, List.set_cons_succ])
              iterate 6 (first
                | (apply relWalk_const (fun W => Below.refl _ _)
                   · (intro W9 hC hF
                      clear hF
                      have q40 := F40.out W9 hC
                      clear hC
                      go_simp
                      with_reducible exact rfl)
                   (try simp only [Act.put, List.setIfInBounds_toArray, List.set_cons_zero, List.set_cons_succ])))
              apply relWalk_rel (RowN KA.length) (KeysW w3 KA) ⟨_, none, 0, rfl⟩ KeysW.later
              · go_simp
              · intro W hC hF
                clear hF
                refine gives_call rfl [.pointer (some ⟨g3, 0, none⟩), .int .u32 (o.n.toNat : Int)] rfl (enters_of Try.func57 (by kernel_rfl) rfl) ?_
                have hc := jbyAt_any W TS3 g3 b3 M3 o.n (FT.out W hC).tab (by have := HLn.out; omega)
                rw [HKa.out] at hc
                refine hc.mono ?_
                rintro e w' ⟨u, rfl, ho⟩; obtain ⟨A9, c9, rfl⟩ := own_slice ho.own
                exact ⟨_, rfl, ⟨A9, c9, rfl⟩, KeysW.of_own ho hC.size, below_next hC ho.below, ho.below⟩
              rintro _ ⟨A36, c36, rfl⟩
              (try simp only [Act.put, List.setIfInBounds_toArray, List.set_cons_zero, List.set_cons_succ])
              iterate 3 (first
                | (apply relWalk_const (fun W => Below.refl _ _)
                   · (intro W9 hC hF
                      clear hF
                      have q40 := F40.out W9 hC
                      clear hC
                      go_simp
                      with_reducible exact rfl)
                   (try simp only [Act.put, List.setIfInBounds_toArray, List.set_cons_zero, List.set_cons_succ])))
              apply relWalk_rel (RowN KA.length) (KeysW w3 KA) ⟨_, none, 0, rfl⟩ KeysW.later
              · go_simp
              · intro W hC hF
                clear hF
                refine gives_call rfl [.slice An L3.length cn, .int .u32 (o.n.toNat : Int)] rfl (enters_of Try.func65 (by kernel_rfl) rfl) ?_
                have hc := refat29_any _ L3 o.n W _ (FT.out W hC).jobs (by omega)
                rw [HK2.out] at hc
                refine hc.mono ?_
                rintro e w' ⟨u, rfl, ho⟩; obtain ⟨A9, c9, rfl⟩ := own_slice ho.own
                exact ⟨_, rfl, ⟨A9, c9, rfl⟩, KeysW.of_own ho hC.size, below_next hC ho.below, ho.below⟩
              rintro _ ⟨A40, c40, rfl⟩
              (try simp only [Act.put, List.setIfInBounds_toArray, List.set_cons_zero, List.set_cons_succ])
              apply relWalk_constW (c := .bool true)
              · go_simp
              · intro W hC hF
                have h40 := hF.1 (by kernel_rfl)
                have h36 := hF.2.1 (by kernel_rfl)
                clear hF
                obtain ⟨A', c', e, r36⟩ := h36
                cases e
                obtain ⟨A', c', e, r40⟩ := h40
                cases e
                refine gives_call rfl [.slice A36 KA.length c36, .slice A40 KA.length c40] rfl (enters_of Try.func52 (by kernel_rfl) rfl) ?_
                refine (keys25_any A36 KA.length c36 KA A40 KA.length c40 KA W _ _ r36 r40 rfl rfl (by have := HKl.out; omega)).mono ?_
                rintro e w' ⟨rfl, hb⟩
                exact ⟨_, rfl, by simp, below_next hC hb, hb⟩
              (try simp only [Act.put, List.setIfInBounds_toArray, List.set_cons_zero, List.set_cons_succ])
              iterate 6 (first
                | (apply relWalk_const (fun W => Below.refl _ _)
                   · (intro W9 hC hF
                      clear hF
                      have q40 := F40.out W9 hC
                      clear hC
                      go_simp
                      with_reducible exact rfl)
                   (try simp only [Act.put, List.setIfInBounds_toArray, List.set_cons_zero, List.set_cons_succ])))
              apply relWalk_rel (RowN KM.length) (KeysW w3 KM) ⟨_, none, 0, rfl⟩ KeysW.later
              · go_simp
              · intro W hC hF
                clear hF
                refine gives_call rfl [.pointer (some ⟨g3, 0, none⟩), .int .u32 (o.n.toNat : Int)] rfl (enters_of Try.func58 (by kernel_rfl) rfl) ?_
                have hc := jbyMined_any W TS3 g3 b3 M3 o.n (FT.out W hC).tab (by have := HLn.out; omega)
                rw [HKm.out] at hc
                refine hc.mono ?_
                rintro e w' ⟨u, rfl, ho⟩; obtain ⟨A9, c9, rfl⟩ := own_slice ho.own
                exact ⟨_, rfl, ⟨A9, c9, rfl⟩, KeysW.of_own ho hC.size, below_next hC ho.below, ho.below⟩
              rintro _ ⟨A48, c48, rfl⟩
              (try simp only [Act.put, List.setIfInBounds_toArray, List.set_cons_zero, List.set_cons_succ])
              iterate 3 (first
                | (apply relWalk_const (fun W => Below.refl _ _)
                   · (intro W9 hC hF
                      clear hF
                      have q40 := F40.out W9 hC
                      clear hC
                      go_simp
                      with_reducible exact rfl)
                   (try simp only [Act.put, List.setIfInBounds_toArray, List.set_cons_zero, List.set_cons_succ])))
              apply relWalk_rel (RowN KM.length) (KeysW w3 KM) ⟨_, none, 0, rfl⟩ KeysW.later
              · go_simp
              · intro W hC hF
                clear hF
                refine gives_call rfl [.slice An L3.length cn, .int .u32 (o.n.toNat : Int)] rfl (enters_of Try.func66 (by kernel_rfl) rfl) ?_
                have hc := refmined29_any _ L3 o.n W _ (FT.out W hC).jobs (by omega)
                rw [HK3.out] at hc
                refine hc.mono ?_
                rintro e w' ⟨u, rfl, ho⟩; obtain ⟨A9, c9, rfl⟩ := own_slice ho.own
                exact ⟨_, rfl, ⟨A9, c9, rfl⟩, KeysW.of_own ho hC.size, below_next hC ho.below, ho.below⟩
              rintro _ ⟨A52, c52, rfl⟩
              (try simp only [Act.put, List.setIfInBounds_toArray, List.set_cons_zero, List.set_cons_succ])
              apply relWalk_constW (c := .bool true)
              · go_simp
              · intro W hC hF
                have h52 := hF.1 (by kernel_rfl)
                have h48 := hF.2.1 (by kernel_rfl)
                clear hF
                obtain ⟨A', c', e, r48⟩ := h48
                cases e
                obtain ⟨A', c', e, r52⟩ := h52
                cases e
                refine gives_call rfl [.slice A48 KM.length c48, .slice A52 KM.length c52] rfl (enters_of Try.func52 (by kernel_rfl) rfl) ?_
                refine (keys25_any A48 KM.length c48 KM A52 KM.length c52 KM W _ _ r48 r52 rfl rfl (by have := HKl.out; omega)).mono ?_
                rintro e w' ⟨rfl, hb⟩
                exact ⟨_, rfl, by simp, below_next hC hb, hb⟩
              (try simp only [Act.put, List.setIfInBounds_toArray, List.set_cons_zero, List.set_cons_succ])
              iterate 2 (first
                | (apply relWalk_const (fun W => Below.refl _ _)
                   · (intro W9 hC hF
                      clear hF
                      have q40 := F40.out W9 hC
                      clear hC
                      go_simp
                      with_reducible exact rfl)
                   (try simp only [Act.put, List.setIfInBounds_toArray, List.set_cons_zero, List.set_cons_succ])))
              refine relWalk_nil fun w4 hC hF => ?_
              clear hF
              have HC4 := hide hC
              clear hC
              go_wp2
              go_meet
              exact ⟨rfl, HC4⟩
            case rest =>
              obtain ⟨rfl, HB4⟩ := hcut
              have HT4 := hide (FT.out _ HB4.out)
              have HQ4 := hide (FQ.out _ HB4.out)
              obtain ⟨ZJ, hZJ, hZJs⟩ := zero_job
              have HZJ := hide hZJ
              have HZJs := hide hZJs
              have e2 : wc.cell? ⟨wz.heap.size, 2, none⟩ = some (c32 o.j.ses) := (HQ4.out.cell 2).trans HRo.out.ses
              have e3 : wc.cell? ⟨wz.heap.size, 3, none⟩ = some (c32 o.j.seq) := (HQ4.out.cell 3).trans HRo.out.seq
              have HG := hide (jget_both wc TS3 g3 b3 M3 (o.j.ses, o.j.seq) HT4.out.tab)
              unfold kf at HG
              dsimp only at HG
              have HF := hide (fun W hW => reffind_any (.slice An L3.length cn) L3 (o.j.ses, o.j.seq) W (fun i => ¬ TS3 i) (FT.out W hW).jobs (by omega))
              unfold kf at HF
              dsimp only at HF
              clear hZJ hZJs
              go_upto_region 16 with (first
                | (go_at_call 46; (with_reducible refine HG.out.mono ?_); rintro e w5 ⟨is, jm, jv, RJ, Kj, rfl, hJ5, hjl, hP5, hM5, hb5, hn5, hs5⟩;
                    obtain ⟨W6, hW6⟩ : ∃ W6, W6 = (w5.alloc (.cells ZJ 75)).setRow w5.heap.size RJ := ⟨_, rfl⟩;
                    have hb6 : Below w5.heap.size w5 W6 := (by rw [hW6]; exact below_setRow ((Below.refl _ _).alloc (Nat.le_refl _) _) (Nat.le_refl _) _);
                    have HQ6 : Hid (Blk W6 w5.heap.size 75 RJ) := hide (by rw [hW6]; exact setRow_heap _ _ _ _ _ _ (Blk.new w5 _ _));
                    have HB6 := hide (below_next HB4.out (below_next hb5 hb6)); have HP6 := hide (hP5.below hb6); have HJ5 := hide hJ5; have Hjl := hide hjl; have HM5 := hide hM5; have Hn5 := hide hn5; have Hs5 := hide hs5; have hwn := HQ4.out.lt; have hws := hb5.size; have HNq : Hid (wz.heap.size < w5.heap.size) := hide (Nat.lt_of_lt_of_le hwn hws);
                    have HQ := hide (FQ.out W6 HB6.out); replace hW6 := hide hW6.symm; have e2 : W6.cell? ⟨wz.heap.size, 2, none⟩ = some (c32 o.j.ses) := (HQ.out.cell 2).trans HRo.out.ses; have e3 : W6.cell? ⟨wz.heap.size, 3, none⟩ = some (c32 o.j.seq) := (HQ.out.cell 3).trans HRo.out.seq; clear hb5 hb6 hwn hws hP5 hJ5 hjl hM5 hn5 hs5)
                | (refine wpList_alloc_is rfl 75 rfl ZJ HZJ.out ?_)
                | ((with_reducible show wpList _ _ _ (⟨_, .store 75 _ _, _, _, _, _⟩ :: _) _ _); refine wpList_store_row rfl 75 _ _ rfl w5.heap.size rfl RJ rfl 75 _ (Blk.new w5 _ _) (by rw [HJ5.out.size]; exact info_job) (by rw [HJ5.out.size]; exact HZJs.out) HJ5.out.one ?_; rw [hW6.out])
                | (go_at_call 67; (with_reducible refine (HF.out _ HB6.out).mono ?_); rintro e w7 ⟨rfl, hb7⟩; have HB7 := hide (below_next HB6.out hb7); have HQj := hide (HQ6.out.below hb7 HQ6.out.lt); have HP7 := hide (HP6.out.below hb7); clear hb7)
                | fail)
              have FR : Hid (∀ W, Below w7.heap.size w7 W → Blk W w5.heap.size 75 RJ) := hide fun W hW => HQj.out.below hW HQj.out.lt
              have FPj : Hid (∀ W, Below w7.heap.size w7 W → PayAt W (fun i => wc.heap.size ≤ i) jv Kj) := hide fun W hW => HP7.out.below hW
              obtain ⟨RO, hRO⟩ := jobVal (j := o.j) HO32.out (v := o.pv) (by obtain ⟨_, _, e, _⟩ := HPo.out; rw [e]; rfl)
              have HRO := hide hRO
              have HRo3 := hide hRO.val.symm
              have HIj3 : Hid ((Try.prog.info? 75).map (·.size) = some (jobCells o.j o.pv).length) := hide (by rw [jobCells_len HO32.out]; exact info_job)
              have FJ : Hid (∀ W, Below w7.heap.size w7 W → ∀ i u, (jobCells o.j o.pv)[i]? = some u → W.cell? ((⟨wz.heap.size, 2, none⟩ : Addr).add i) = some u) := hide fun W hW i u hu => by
                rw [Addr.add_lit]; exact ((FQ.out W (below_next HB7.out hW)).cell _).trans (HRo.out.job i u hu)
              have HPw : Hid (PayAt w3 (fun i => ¬ TS i) o.pv o.K) := hide (HPo.out.keep HTo.out.size fun i hi hs => HTo.out.block i hi hs)
              have FPo : Hid (∀ W, Below w7.heap.size w7 W → PayAt W (fun i => ¬ TS i) o.pv o.K) := hide fun W hW => HPw.out.below (below_next HB7.out hW)
              clear hRO e2 e3
              cases is
              · have hfz : findZ (L3.map keyK) (o.j.ses, o.j.seq) = -1 := findZ_none (eqv_none HPl3.out HE3.out (Hn5.out rfl))
                rw [hfz]
                clear hfz
                apply wp_region_rel (C := fun W => Below w7.heap.size w7 W) (M := fun W W' => Below W.heap.size W W') (ss := [_, _, _, _, _, _, _, _, _, _, _, _, _, _, _, _, _, _, _, _, _, _, _, _, _, _, _, _, _, _, _, _, _, _, _, _, _, _, _, _, _]) (by kernel_rfl) (by kernel_rfl) (by kernel_rfl) (Below.refl _ _).drew
                iterate 15 (first
                  | (apply relWalk_const (fun W => Below.refl _ _)
                     · (intro W9 hC hF
                        clear hF
                        clear hC
                        go_simp
                        with_reducible exact rfl)
                     (try simp only [Act.put, List.setIfInBounds_toArray, List.set_cons_zero, List.set_cons_succ])))
                apply relWalk_const (c := undef) (fun W => Below.refl _ _)
                · intro W9 hC hF
                  clear hF hC
                  split
                  · rename_i h
                    exact absurd (show false = true from h) (by decide)
                  · rfl
                (try simp only [Act.put, List.setIfInBounds_toArray, List.set_cons_zero, List.set_cons_succ])
                apply relWalk_const (c := undef) (fun W => Below.refl _ _)
                · intro W9 hC hF
                  clear hF hC
                  split
                  · rename_i h
                    exact absurd (show false = true from h) (by decide)
                  · rfl
                (try simp only [Act.put, List.setIfInBounds_toArray, List.set_cons_zero, List.set_cons_succ])
                apply relWalk_const (c := undef) (fun W => Below.refl _ _)
                · intro W9 hC hF
                  clear hF hC
                  split
                  · rename_i h
                    exact absurd (show false = true from h) (by decide)
                  · rfl
                (try simp only [Act.put, List.setIfInBounds_toArray, List.set_cons_zero, List.set_cons_succ])
                iterate 5 (first
                  | (apply relWalk_const (fun W => Below.refl _ _)
                     · (intro W9 hC hF
                        clear hF
                        clear hC
                        go_simp
                        with_reducible exact rfl)
                     (try simp only [Act.put, List.setIfInBounds_toArray, List.set_cons_zero, List.set_cons_succ])))
                apply relWalk_const (c := .agg RO) (fun W => Below.refl _ _)
                · intro W9 hC hF
                  clear hF
                  rw [if_pos (by go_simp)]
                  exact gives_load_at 75 _ rfl ⟨wz.heap.size, 2, none⟩ rfl (jobCells o.j o.pv) _ Try.underlying75 rfl HIj3.out (FJ.out W9 hC) ⟨by rw [HRo3.out], rfl⟩
                (try simp only [Act.put, List.setIfInBounds_toArray, List.set_cons_zero, List.set_cons_succ])
                apply relWalk_constW (c := .bool (rightJ o.j (plainT o.K)))
                · go_simp
                · intro W hC hF
                  clear hF
                  refine gives_call rfl [.agg RO] rfl (enters_of Try.func68 (by kernel_rfl) rfl) ?_
                  refine (jright_any o.j o.pv RO HRO.out o.K W _ (FPo.out W hC)).mono ?_
                  rintro e w' ⟨rfl, hb⟩
                  exact ⟨_, rfl, rfl, below_next hC hb, hb⟩
                (try simp only [Act.put, List.setIfInBounds_toArray, List.set_cons_zero, List.set_cons_succ])
                iterate 1 (first
                  | (apply relWalk_const (fun W => Below.refl _ _)
                     · (intro W9 hC hF
                        clear hF
                        clear hC
                        go_simp
                        with_reducible exact rfl)
                     (try simp only [Act.put, List.setIfInBounds_toArray, List.set_cons_zero, List.set_cons_succ])))
                apply relWalk_const (c := .agg RO) (fun W => Below.refl _ _)
                · intro W9 hC hF
                  clear hF
                  rw [if_pos (by go_simp)]
                  exact gives_load_at 75 _ rfl ⟨wz.heap.size, 2, none⟩ rfl (jobCells o.j o.pv) _ Try.underlying75 rfl HIj3.out (FJ.out W9 hC) ⟨by rw [HRo3.out], rfl⟩
                (try simp only [Act.put, List.setIfInBounds_toArray, List.set_cons_zero, List.set_cons_succ])
                apply relWalk_constW (c := .bool (rightJ o.j (plainT o.K)))
                · go_simp
                · intro W hC hF
                  clear hF
                  refine gives_call rfl [.agg RO] rfl (enters_of Try.func42 (by kernel_rfl) rfl) ?_
                  refine (refjright_any o.j o.pv RO HRO.out o.K W _ (FPo.out W hC) (by have := HOMo.out.1; omega)).mono ?_
                  rintro e w' ⟨rfl, hb⟩
                  exact ⟨_, rfl, rfl, below_next hC hb, hb⟩
                (try simp only [Act.put, List.setIfInBounds_toArray, List.set_cons_zero, List.set_cons_succ])
                iterate 4 (first
                  | (apply relWalk_const (fun W => Below.refl _ _)
                     · (intro W9 hC hF
                        clear hF
                        clear hC
                        go_simp
                        with_reducible exact rfl)
                     (try simp only [Act.put, List.setIfInBounds_toArray, List.set_cons_zero, List.set_cons_succ])))
                apply relWalk_const (c := .agg RO) (fun W => Below.refl _ _)
                · intro W9 hC hF
                  clear hF
                  rw [if_pos (by go_simp)]
                  exact gives_load_at 75 _ rfl ⟨wz.heap.size, 2, none⟩ rfl (jobCells o.j o.pv) _ Try.underlying75 rfl HIj3.out (FJ.out W9 hC) ⟨by rw [HRo3.out], rfl⟩
                (try simp only [Act.put, List.setIfInBounds_toArray, List.set_cons_zero, List.set_cons_succ])
                apply relWalk_const (c := .agg RJ) (fun W => Below.refl _ _)
                · intro W9 hC hF
                  clear hF
                  rw [if_pos (by go_simp)]
                  exact gives_load_row 75 _ rfl w5.heap.size rfl 75 RJ (0, 0) _ (FR.out W9 hC) Try.underlying75 rfl (by rw [HJ5.out.size]; exact info_job) ⟨rfl, rfl⟩
                (try simp only [Act.put, List.setIfInBounds_toArray, List.set_cons_zero, List.set_cons_succ])
                apply relWalk_constW (c := .bool (decide (o.j = jm ∧ plainT o.K = plainT Kj)))
                · go_simp
                · intro W hC hF
                  clear hF
                  refine gives_call rfl [.agg RO, .agg RJ] rfl (enters_of Try.func69 (by kernel_rfl) rfl) ?_
                  refine (jsame_any o.j HO32.out o.pv RO HRO.out o.K jm Hjl.out jv RJ HJ5.out Kj W _ _ (FPo.out W hC) (FPj.out W hC) (by have := HOMo.out.1; omega)).mono ?_
                  rintro e w' ⟨rfl, hb⟩
                  exact ⟨_, rfl, rfl, below_next hC hb, hb⟩
                (try simp only [Act.put, List.setIfInBounds_toArray, List.set_cons_zero, List.set_cons_succ])
                iterate 1 (first
                  | (apply relWalk_const (fun W => Below.refl _ _)
                     · (intro W9 hC hF
                        clear hF
                        clear hC
                        go_simp
                        with_reducible exact rfl)
                     (try simp only [Act.put, List.setIfInBounds_toArray, List.set_cons_zero, List.set_cons_succ])))
                apply relWalk_const (c := .agg RO) (fun W => Below.refl _ _)
                · intro W9 hC hF
                  clear hF
                  rw [if_pos (by go_simp)]
                  exact gives_load_at 75 _ rfl ⟨wz.heap.size, 2, none⟩ rfl (jobCells o.j o.pv) _ Try.underlying75 rfl HIj3.out (FJ.out W9 hC) ⟨by rw [HRo3.out], rfl⟩
                (try simp only [Act.put, List.setIfInBounds_toArray, List.set_cons_zero, List.set_cons_succ])
                apply relWalk_const (c := .agg RJ) (fun W => Below.refl _ _)
                · intro W9 hC hF
                  clear hF
                  rw [if_pos (by go_simp)]
                  exact gives_load_row 75 _ rfl w5.heap.size rfl 75 RJ (0, 0) _ (FR.out W9 hC) Try.underlying75 rfl (by rw [HJ5.out.size]; exact info_job) ⟨rfl, rfl⟩
                (try simp only [Act.put, List.setIfInBounds_toArray, List.set_cons_zero, List.set_cons_succ])
                apply relWalk_constW (c := .bool (decide (o.j = jm ∧ plainT o.K = plainT Kj)))
                · go_simp
                · intro W hC hF
                  clear hF
                  refine gives_call rfl [.agg RO, .agg RJ] rfl (enters_of Try.func48 (by kernel_rfl) rfl) ?_
                  refine (refsame29_any o.j HO32.out o.pv RO HRO.out o.K jm Hjl.out jv RJ HJ5.out Kj W _ _ (FPo.out W hC) (FPj.out W hC) (by have := HOMo.out.1; omega)).mono ?_
                  rintro e w' ⟨rfl, hb⟩
                  exact ⟨_, rfl, rfl, below_next hC hb, hb⟩
                (try simp only [Act.put, List.setIfInBounds_toArray, List.set_cons_zero, List.set_cons_succ])
                iterate 2 (first
                  | (apply relWalk_const (fun W => Below.refl _ _)
                     · (intro W9 hC hF
                        clear hF
                        clear hC
                        go_simp
                        with_reducible exact rfl)
                     (try simp only [Act.put, List.setIfInBounds_toArray, List.set_cons_zero, List.set_cons_succ])))
                refine relWalk_nil fun w8 hC hF => ?_
                clear hF
                have HC8 := hide (below_next HB7.out hC)
                clear hC
                go_wp2
                go_roundw
                case rel => exact ⟨k + 1, TS3, g3, b3, M3, L3, by omega, by go_num, rfl, hide (FT.out _ HC8.out), HE3, by omega⟩
                case measure => simp [intOf]; omega
              · obtain ⟨x3, hx3, hjm, hkj, hrt⟩ := Hs5.out rfl
                obtain ⟨i, y, hy, hyM, hky, hny, hyj, hyk⟩ := eqv_some HPl3.out HE3.out hx3
                have hfz : findZ (L3.map keyK) (o.j.ses, o.j.seq) = (i : Int) := findZ_some (by rw [List.getElem?_map, hy]; exact congrArg some hky) (by rw [← List.map_take]; exact hny)
                rw [hfz]
                obtain ⟨hil, hie⟩ := List.getElem?_eq_some_iff.1 hy
                have HTw := hide (FT.out w7 HB7.out)
                obtain ⟨gy, oy, rfl, _, hgy, hcy⟩ := HTw.out.jobs.at_ (k := i) hil
                rw [hie] at hcy
                have hym : y ∈ L3 := List.mem_of_getElem? hy
                have Hyl := hide (HTw.out.jobs.len _ hym)
                have HPy := hide (HTw.out.jobs.pay _ hym)
                obtain ⟨RY, hRY⟩ := jobVal (j := y.1) Hyl.out (v := y.2.1) (by obtain ⟨_, _, e, _⟩ := HPy.out; rw [e]; rfl)
                have HRY := hide hRY
                have HRy := hide hRY.val.symm
                have HIy : Hid ((Try.prog.info? 75).map (·.size) = some (jobCells y.1 y.2.1).length) := hide (by rw [jobCells_len Hyl.out]; exact info_job)
                have FY : Hid (∀ W, Below w7.heap.size w7 W → ∀ j u, (jobCells y.1 y.2.1)[j]? = some u → W.cell? ((⟨gy, oy + i * 38, none⟩ : Addr).add j) = some u) := hide fun W hW j u hu => by
                  rw [Addr.add_lit]; exact (hW.cell (p := ⟨gy, oy + i * 38 + j, none⟩) hgy).trans (hcy j u hu)
                have FPy : Hid (∀ W, Below w7.heap.size w7 W → PayAt W (fun i => ¬ TS3 i) y.2.1 y.2.2) := hide fun W hW => HPy.out.below hW
                have HSm : Hid (jm = y.1 ∧ plainT Kj = plainT y.2.2) := hide ⟨hjm.trans hyj.symm, hkj.trans hyk.symm⟩
                have HRt5 := hide hrt
                have hi0 : (0 : Int) ≤ (i : Int) := by omega
                have hiL : (i : Int) < (L3.length : Int) := by omega
                clear hx3 hjm hkj hrt hy hyM hky hny hyj hyk hfz hie hgy hcy hym hRY
                apply wp_region_rel (C := fun W => Below w7.heap.size w7 W) (M := fun W W' => Below W.heap.size W W') (ss := [_, _, _, _, _, _, _, _, _, _, _, _, _, _, _, _, _, _, _, _, _, _, _, _, _, _, _, _, _, _, _, _, _, _, _, _, _, _, _, _, _]) (by kernel_rfl) (by kernel_rfl) (by kernel_rfl) (Below.refl _ _).drew
                iterate 7 (first
                  | (apply relWalk_const (fun W => Below.refl _ _)
                     · (intro W9 hC hF
                        clear hF
                        clear hC
                        go_simp
                        with_reducible exact rfl)
                     (try simp only [Act.put, List.setIfInBounds_toArray, List.set_cons_zero, List.set_cons_succ])))
                apply relWalk_const (c := .agg RJ) (fun W => Below.refl _ _)
                · intro W9 hC hF
                  clear hF
                  rw [if_pos (by go_simp)]
                  exact gives_load_row 75 _ rfl w5.heap.size rfl 75 RJ (0, 0) _ (FR.out W9 hC) Try.underlying75 rfl (by rw [HJ5.out.size]; exact info_job) ⟨rfl, rfl⟩
                (try simp only [Act.put, List.setIfInBounds_toArray, List.set_cons_zero, List.set_cons_succ])
                iterate 3 (first
                  | (apply relWalk_const (fun W => Below.refl _ _)
                     · (intro W9 hC hF
                        clear hF
                        clear hC
                        go_simp
                        with_reducible exact rfl)
                     (try simp only [Act.put, List.setIfInBounds_toArray, List.set_cons_zero, List.set_cons_succ])))
                apply relWalk_const (c := .agg RY) (fun W => Below.refl _ _)
                · intro W9 hC hF
                  clear hF
                  rw [if_pos (by go_simp)]
                  exact gives_load_at 75 _ rfl ⟨gy, oy + i * 38, none⟩ rfl (jobCells y.1 y.2.1) _ Try.underlying75 rfl HIy.out (FY.out W9 hC) ⟨by rw [HRy.out], rfl⟩
                (try simp only [Act.put, List.setIfInBounds_toArray, List.set_cons_zero, List.set_cons_succ])
                apply relWalk_constW (c := .bool true)
                · go_simp
                · intro W hC hF
                  clear hF
                  refine gives_call rfl [.agg RJ, .agg RY] rfl (enters_of Try.func48 (by kernel_rfl) rfl) ?_
                  refine (refsame29_any jm Hjl.out jv RJ HJ5.out Kj y.1 Hyl.out y.2.1 RY HRY.out y.2.2 W _ _ (FPj.out W hC) (FPy.out W hC) (by have := HM5.out.1; omega)).mono ?_
                  rintro e w' ⟨rfl, hb⟩
                  exact ⟨_, rfl, by rw [decide_eq_true HSm.out], below_next hC hb, hb⟩
                (try simp only [Act.put, List.setIfInBounds_toArray, List.set_cons_zero, List.set_cons_succ])
                iterate 2 (first
                  | (apply relWalk_const (fun W => Below.refl _ _)
                     · (intro W9 hC hF
                        clear hF
                        clear hC
                        go_simp
                        with_reducible exact rfl)
                     (try simp only [Act.put, List.setIfInBounds_toArray, List.set_cons_zero, List.set_cons_succ])))
                apply relWalk_const (c := .agg RJ) (fun W => Below.refl _ _)
                · intro W9 hC hF
                  clear hF
                  rw [if_pos (by go_simp)]
                  exact gives_load_row 75 _ rfl w5.heap.size rfl 75 RJ (0, 0) _ (FR.out W9 hC) Try.underlying75 rfl (by rw [HJ5.out.size]; exact info_job) ⟨rfl, rfl⟩
                (try simp only [Act.put, List.setIfInBounds_toArray, List.set_cons_zero, List.set_cons_succ])
                apply relWalk_constW (c := .bool true)
                · go_simp
                · intro W hC hF
                  clear hF
                  refine gives_call rfl [.agg RJ] rfl (enters_of Try.func68 (by kernel_rfl) rfl) ?_
                  have hc := jright_any jm jv RJ HJ5.out Kj W _ (FPj.out W hC)
                  rw [HRt5.out] at hc
                  refine hc.mono ?_
                  rintro e w' ⟨rfl, hb⟩
                  exact ⟨_, rfl, rfl, below_next hC hb, hb⟩
                (try simp only [Act.put, List.setIfInBounds_toArray, List.set_cons_zero, List.set_cons_succ])
                iterate 6 (first
                  | (apply relWalk_const (fun W => Below.refl _ _)
                     · (intro W9 hC hF
                        clear hF
                        clear hC
                        go_simp
                        with_reducible exact rfl)
                     (try simp only [Act.put, List.setIfInBounds_toArray, List.set_cons_zero, List.set_cons_succ])))
                apply relWalk_const (c := .agg RO) (fun W => Below.refl _ _)
                · intro W9 hC hF
                  clear hF
                  rw [if_pos (by go_simp)]
                  exact gives_load_at 75 _ rfl ⟨wz.heap.size, 2, none⟩ rfl (jobCells o.j o.pv) _ Try.underlying75 rfl HIj3.out (FJ.out W9 hC) ⟨by rw [HRo3.out], rfl⟩
                (try simp only [Act.put, List.setIfInBounds_toArray, List.set_cons_zero, List.set_cons_succ])
                apply relWalk_constW (c := .bool (rightJ o.j (plainT o.K)))
                · go_simp
                · intro W hC hF
                  clear hF
                  refine gives_call rfl [.agg RO] rfl (enters_of Try.func68 (by kernel_rfl) rfl) ?_
                  refine (jright_any o.j o.pv RO HRO.out o.K W _ (FPo.out W hC)).mono ?_
                  rintro e w' ⟨rfl, hb⟩
                  exact ⟨_, rfl, rfl, below_next hC hb, hb⟩
                (try simp only [Act.put, List.setIfInBounds_toArray, List.set_cons_zero, List.set_cons_succ])
                iterate 1 (first
                  | (apply relWalk_const (fun W => Below.refl _ _)
                     · (intro W9 hC hF
                        clear hF
                        clear hC
                        go_simp
                        with_reducible exact rfl)
                     (try simp only [Act.put, List.setIfInBounds_toArray, List.set_cons_zero, List.set_cons_succ])))
                apply relWalk_const (c := .agg RO) (fun W => Below.refl _ _)
                · intro W9 hC hF
                  clear hF
                  rw [if_pos (by go_simp)]
                  exact gives_load_at 75 _ rfl ⟨wz.heap.size, 2, none⟩ rfl (jobCells o.j o.pv) _ Try.underlying75 rfl HIj3.out (FJ.out W9 hC) ⟨by rw [HRo3.out], rfl⟩
                (try simp only [Act.put, List.setIfInBounds_toArray, List.set_cons_zero, List.set_cons_succ])
                apply relWalk_constW (c := .bool (rightJ o.j (plainT o.K)))
                · go_simp
                · intro W hC hF
                  clear hF
                  refine gives_call rfl [.agg RO] rfl (enters_of Try.func42 (by kernel_rfl) rfl) ?_
                  refine (refjright_any o.j o.pv RO HRO.out o.K W _ (FPo.out W hC) (by have := HOMo.out.1; omega)).mono ?_
                  rintro e w' ⟨rfl, hb⟩
                  exact ⟨_, rfl, rfl, below_next hC hb, hb⟩
                (try simp only [Act.put, List.setIfInBounds_toArray, List.set_cons_zero, List.set_cons_succ])
                iterate 4 (first
                  | (apply relWalk_const (fun W => Below.refl _ _)
                     · (intro W9 hC hF
                        clear hF
                        clear hC
                        go_simp
                        with_reducible exact rfl)
                     (try simp only [Act.put, List.setIfInBounds_toArray, List.set_cons_zero, List.set_cons_succ])))
                apply relWalk_const (c := .agg RO) (fun W => Below.refl _ _)
                · intro W9 hC hF
                  clear hF
                  rw [if_pos (by go_simp)]
                  exact gives_load_at 75 _ rfl ⟨wz.heap.size, 2, none⟩ rfl (jobCells o.j o.pv) _ Try.underlying75 rfl HIj3.out (FJ.out W9 hC) ⟨by rw [HRo3.out], rfl⟩
                (try simp only [Act.put, List.setIfInBounds_toArray, List.set_cons_zero, List.set_cons_succ])
                apply relWalk_const (c := .agg RJ) (fun W => Below.refl _ _)
                · intro W9 hC hF
                  clear hF
                  rw [if_pos (by go_simp)]
                  exact gives_load_row 75 _ rfl w5.heap.size rfl 75 RJ (0, 0) _ (FR.out W9 hC) Try.underlying75 rfl (by rw [HJ5.out.size]; exact info_job) ⟨rfl, rfl⟩
                (try simp only [Act.put, List.setIfInBounds_toArray, List.set_cons_zero, List.set_cons_succ])
                apply relWalk_constW (c := .bool (decide (o.j = jm ∧ plainT o.K = plainT Kj)))
                · go_simp
                · intro W hC hF
                  clear hF
                  refine gives_call rfl [.agg RO, .agg RJ] rfl (enters_of Try.func69 (by kernel_rfl) rfl) ?_
                  refine (jsame_any o.j HO32.out o.pv RO HRO.out o.K jm Hjl.out jv RJ HJ5.out Kj W _ _ (FPo.out W hC) (FPj.out W hC) (by have := HOMo.out.1; omega)).mono ?_
                  rintro e w' ⟨rfl, hb⟩
                  exact ⟨_, rfl, rfl, below_next hC hb, hb⟩
                (try simp only [Act.put, List.setIfInBounds_toArray, List.set_cons_zero, List.set_cons_succ])
                iterate 1 (first
                  | (apply relWalk_const (fun W => Below.refl _ _)
                     · (intro W9 hC hF
                        clear hF
                        clear hC
                        go_simp
                        with_reducible exact rfl)
                     (try simp only [Act.put, List.setIfInBounds_toArray, List.set_cons_zero, List.set_cons_succ])))
                apply relWalk_const (c := .agg RO) (fun W => Below.refl _ _)
                · intro W9 hC hF
                  clear hF
                  rw [if_pos (by go_simp)]
                  exact gives_load_at 75 _ rfl ⟨wz.heap.size, 2, none⟩ rfl (jobCells o.j o.pv) _ Try.underlying75 rfl HIj3.out (FJ.out W9 hC) ⟨by rw [HRo3.out], rfl⟩
                (try simp only [Act.put, List.setIfInBounds_toArray, List.set_cons_zero, List.set_cons_succ])
                apply relWalk_const (c := .agg RJ) (fun W => Below.refl _ _)
                · intro W9 hC hF
                  clear hF
                  rw [if_pos (by go_simp)]
                  exact gives_load_row 75 _ rfl w5.heap.size rfl 75 RJ (0, 0) _ (FR.out W9 hC) Try.underlying75 rfl (by rw [HJ5.out.size]; exact info_job) ⟨rfl, rfl⟩
                (try simp only [Act.put, List.setIfInBounds_toArray, List.set_cons_zero, List.set_cons_succ])
                apply relWalk_constW (c := .bool (decide (o.j = jm ∧ plainT o.K = plainT Kj)))
                · go_simp
                · intro W hC hF
                  clear hF
                  refine gives_call rfl [.agg RO, .agg RJ] rfl (enters_of Try.func48 (by kernel_rfl) rfl) ?_
                  refine (refsame29_any o.j HO32.out o.pv RO HRO.out o.K jm Hjl.out jv RJ HJ5.out Kj W _ _ (FPo.out W hC) (FPj.out W hC) (by have := HOMo.out.1; omega)).mono ?_
                  rintro e w' ⟨rfl, hb⟩
                  exact ⟨_, rfl, rfl, below_next hC hb, hb⟩
                (try simp only [Act.put, List.setIfInBounds_toArray, List.set_cons_zero, List.set_cons_succ])
                iterate 2 (first
                  | (apply relWalk_const (fun W => Below.refl _ _)
                     · (intro W9 hC hF
                        clear hF
                        clear hC
                        go_simp
                        with_reducible exact rfl)
                     (try simp only [Act.put, List.setIfInBounds_toArray, List.set_cons_zero, List.set_cons_succ])))
                refine relWalk_nil fun w8 hC hF => ?_
                clear hF
                have HC8 := hide (below_next HB7.out hC)
                clear hC
                go_wp2
                go_roundw
                case rel => exact ⟨k + 1, TS3, g3, b3, M3, L3, by omega, by go_num, rfl, hide (FT.out _ HC8.out), HE3, by omega⟩
                case measure => simp [intOf]; omega
      · obtain rfl : k = n := by omega
        have hd1 : decide ((k : Int) < (k : Int)) = false := by simp
        have HAl := hide (alive29_any wz)
        go_wp2_with (first
          | (go_at_call 43; (with_reducible refine HAl.out.mono ?_); rintro e w3 ⟨rfl, hb3⟩; have HB3 := hide (below_next HI.out.below hb3); clear hb3)
          | fail)
        go_ret
        exact ⟨rfl, HB3.out⟩
end Go.Proofs.Ytccpkafmbmkmfaa
