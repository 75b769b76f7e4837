/- The walk of miradorlaw44.DigestRoots. Condition: of bulk at most 1048576. -/
import Derived.Test.YtdikknfdgpdenaaDigestAlive
import Derived.Test.YtdikknfdgpdenaaDigestSame
namespace Go.Proofs.Ytdikknfdgpdenaa
open Go.RowKit
set_option linter.unusedVariables false
set_option linter.unusedSimpArgs false
attribute [local go_sem] Gives givesUpon
attribute [local irreducible] Gives

/-- what holds all along: the root stands in block g, the two proofs and the items are read -/
structure RootsI (w0 : World) (g : Nat) (RV : Array Value) (A3 A4 : Option Addr) (np : Nat) (P : List (List (BitVec 8))) (W : World) : Prop where
  below : Below w0.heap.size w0 W
  root : Blk W g 44 RV
  one : Reads W W.heap.size 32 A3 np (P.flatten.map c8)
  two : Reads W W.heap.size 32 A4 np (P.flatten.map c8)
theorem RootsI.later {w0 W W' : World} {g : Nat} {RV : Array Value} {A3 A4 : Option Addr} {np : Nat} {P : List (List (BitVec 8))} (h : RootsI w0 g RV A3 A4 np P W) (hb : Below W.heap.size W W') : RootsI w0 g RV A3 A4 np P W' :=
  ⟨below_next h.below hb, h.root.below hb h.root.lt, h.one.later hb, h.two.later hb⟩
set_option maxRecDepth 100000 in
set_option maxHeartbeats 1600000 in
theorem digestRoots_walk (w : World) (A : Option Addr) (n c : Nat) (vs : List Value) (ps : List (List (BitVec 8))) (hr : Reads w w.heap.size 1 A n vs) (hrs : Rows8 w w.heap.size vs ps) (hn : n ≤ 9223372036854775807) (hc : n ≤ c) (hb : ps.length + ps.flatten.length ≤ 1048576)
    (x : Int) (hx0 : -9223372036854775808 ≤ x) (hx1 : x ≤ 9223372036854775807) :
    Calls Try.prog 13 #[.slice A n c, .int .i64 x] w fun e w' => e = .returned (.bool true) ∧ Below w.heap.size w w' := by
  have hvl : vs.length = n := by have := hr.1; omega
  have hpl : ps.length = n := by have := hrs.1; omega
  have HF := hide (few_any A n c vs ps 2000 w hr hrs (by omega))
  have HAl0 : Hid (∀ W, Calls Try.prog 53 #[] W fun e w' => e = .returned (.bool true) ∧ Below W.heap.size W w') := hide fun W => alive44_any W
  by_cases hfew : ((ps.length + ps.flatten.length : Nat) : Int) ≤ 2000
  rotate_left
  · rw [decide_eq_false hfew] at HF
    clear hr hrs
    go_enter Try.func13, Try.ntmps13
    go_wp2_with (first
      | (go_at_call 31; (with_reducible refine HF.out.mono ?_); rintro e w1 ⟨rfl, rfl⟩)
      | (go_at_call 53; (with_reducible refine (HAl0.out _).mono ?_); rintro e w2 ⟨rfl, hb2⟩; have B2 := hide hb2; clear hb2)
      | fail)
    go_ret
    exact ⟨rfl, B2.out⟩
  rw [decide_eq_true hfew] at HF
  have hn2 : n ≤ 2000 := by omega
  have hf2 : ps.flatten.length ≤ 2000 := by omega
  obtain ⟨row, hrow⟩ : ∃ r, r = ps.map itemD := ⟨_, rfl⟩
  have hids : Ids row := by
    intro y hy
    rw [hrow] at hy
    obtain ⟨p, _, rfl⟩ := List.mem_map.1 hy
    exact itemD_len p
  have hl : row.length = n := by rw [hrow, List.length_map, hpl]
  obtain ⟨R, hR⟩ : ∃ R, R = topD 40 row := ⟨_, rfl⟩
  have hRl : R.length = 32 := by rw [hR]; exact topD_len _ _ hids
  obtain ⟨RV, hRV⟩ := idVal R hRl
  obtain ⟨P, hP⟩ : ∃ P, P = provI x row := ⟨_, rfl⟩
  obtain ⟨np, hnp⟩ : ∃ np, np = P.length := ⟨_, rfl⟩
  have hPi : Ids P := by
    rw [hP, provI]
    split
    · exact proveD_ids _ _ _ hids
    · exact Ids.nil
  have hnp40 : np ≤ 40 := by
    rw [hnp, hP, provI]
    split
    · exact proveD_len _ _ _
    · simp
  obtain ⟨Z, hZ, hZs⟩ := zeroId
  have hr' : ∀ W, Below w.heap.size w W → Reads W W.heap.size 1 A n vs ∧ Rows8 W W.heap.size vs ps := fun W h => ⟨(hr.below h).more h.size, (hrs.below h).more h.size⟩
  have HRo : Hid (Calls Try.prog 54 #[.slice A n c] w fun e w' => e = .returned (.agg RV) ∧ Below w.heap.size w w') := hide (by
    rw [hRV.val, hR, hrow]; exact root44_any A n c vs ps w hr hrs (by omega) (by omega))
  have HPv : Hid (∀ W, Below w.heap.size w W → Calls Try.prog 55 #[.int .i64 x, .slice A n c] W fun e w' => ∃ v, e = .returned (.tuple #[v, .bool (decide (0 ≤ x ∧ x < (n : Int)))]) ∧ OwnIds W w' v P) := hide fun W h => by
    rw [hP, hrow]; exact prove44_any x A n c vs ps W (hr' W h).1 (hr' W h).2 (by omega) (by omega)
  have HPr : Hid (∀ W, Below w.heap.size w W → Calls Try.prog 56 #[.int .i64 x, .slice A n c] W fun e w' => ∃ v, e = .returned (.tuple #[v, .bool (decide (0 ≤ x ∧ x < (n : Int)))]) ∧ OwnIds W w' v P) := hide fun W h => by
    rw [hP, hrow]; exact refprove44_any x A n c vs ps W (hr' W h).1 (hr' W h).2 (by omega) (by omega)
  have HRR0 : Hid (∀ W, Below w.heap.size w W → Calls Try.prog 57 #[.slice A n c] W fun e w' => e = .returned (.agg RV) ∧ Below W.heap.size W w') := hide fun W h => by
    rw [hRV.val, hR, hrow]; exact refroot44_any A n c vs ps W (hr' W h).1 (hr' W h).2 (by omega) (by omega)
  have HSm0 : Hid (∀ A3 c3 A4 c4 W, Reads W W.heap.size 32 A3 np (P.flatten.map c8) → Reads W W.heap.size 32 A4 np (P.flatten.map c8) → Calls Try.prog 58 #[.slice A3 np c3, .slice A4 np c4] W fun e w' => e = .returned (.bool true) ∧ Below W.heap.size W w') := hide fun A3 c3 A4 c4 W h1 h2 =>
    same09_any A3 A4 np c3 c4 P W h1 h2 hPi hnp.symm (by omega)
  have HCk0 : Hid (∀ (Ai : Option Addr) (mi ci : Nat) (b : List (BitVec 8)) A3 c3 W, mi ≤ 2000 → mi ≤ ci → np ≤ c3 → Reads W W.heap.size 1 Ai mi (b.map c8) → Reads W W.heap.size 32 A3 np (P.flatten.map c8) → Calls Try.prog 59 #[.agg RV, .slice Ai mi ci, .int .i64 x, .int .i64 (n : Int), .slice A3 np c3] W fun e w' => e = .returned (.bool (chkD R b x n P)) ∧ Below W.heap.size W w') := hide fun Ai mi ci b A3 c3 W h1 h2 h3 h4 h5 =>
    check44_any R b RV hRl hRV Ai mi ci x n A3 np c3 P W h4 h2 (by omega) (by omega) h5 hPi hnp.symm h3 (by omega) ⟨hx0, hx1⟩
  have hee : ∀ w : World, (Op.equalIn 10000 44 (.agg RV) (.agg RV)).run Try.prog w = .ok true w := fun w => by
    have h := eq_id R R hRl hRl w
    rw [hRV.val, h]; simp
  have HRi := hide hRV.info
  have HNp := hide hnp
  by_cases hin : 0 ≤ x ∧ x < (n : Int)
  · rw [decide_eq_true hin] at HPv HPr
    obtain ⟨k, rfl⟩ : ∃ k : Nat, x = (k : Int) := ⟨x.toNat, by omega⟩
    have hkn : k < n := by omega
    have hkp : k < ps.length := by omega
    obtain ⟨gI, oI, rfl, hgI⟩ := hr.addr' (by omega)
    obtain ⟨Ai, mi, ci, hcell, hri, hci⟩ := rows_at hr hrs hkp
    have hmi : ps[k].length = mi := hri.len
    have hmi2 : mi ≤ 2000 := by have := flatten_take_len ps k hkp; omega
    have hchk : chkD R ps[k] (k : Int) (n : Int) P = true := by
      have h := ok_check_prove 40 k row (itemD ps[k]) (by rw [hrow, List.getElem?_map, List.getElem?_eq_getElem hkp]; rfl) (by omega)
      rw [chkD, if_pos hin, hR, hP, provI, hl, if_pos hin, Int.toNat_natCast, Int.toNat_natCast]
      rw [hl] at h; exact h
    have HCk1 : Hid (∀ A3 c3 W, np ≤ c3 → Below w.heap.size w W → Reads W W.heap.size 32 A3 np (P.flatten.map c8) → Calls Try.prog 59 #[.agg RV, .slice Ai mi ci, .int .i64 (k : Int), .int .i64 (n : Int), .slice A3 np c3] W fun e w' => e = .returned (.bool true) ∧ Below W.heap.size W w') := hide fun A3 c3 W h3 hB h5 => by
      rw [← hchk]; exact HCk0.out Ai mi ci _ A3 c3 W hmi2 hci h3 ((hri.below hB).more hB.size) h5
    have HCell : Hid (∀ W, Below w.heap.size w W → W.cell? ⟨gI, oI + k, none⟩ = some (.slice Ai mi ci)) := hide fun W hB => (hB.cell (p := ⟨_, _, _⟩) hgI).trans hcell
    have hk0 : (0 : Int) ≤ (k : Int) := by omega
    have hk1 : (k : Int) < (n : Int) := by omega
    replace hRV := hide hRV
    replace hZ := hide hZ
    replace hZs := hide hZs
    clear hr hrs hr' hchk hcell hri hmi hkp hP hnp hR hrow hRl hids hl hPi hin HCk0 hb hf2 hfew
    go_enter Try.func13, Try.ntmps13
    go_upto_region 4 with (first
      | (go_at_call 31; (with_reducible refine HF.out.mono ?_); rintro e w0 ⟨rfl, rfl⟩)
      | (go_at_call 54; (with_reducible refine HRo.out.mono ?_); rintro e w1 ⟨rfl, hb1⟩; have B1 := hide hb1; clear hb1)
      | ((with_reducible show wpList _ _ _ (⟨_, .alloc 44, _, _, _, _⟩ :: _) _ _); refine wpList_alloc_is rfl 44 rfl Z hZ.out ?_; have K1 := hide (Blk.new w1 44 Z); have B2 := hide (B1.out.alloc B1.out.size (.cells Z 44)))
      | ((with_reducible show wpList _ _ _ (⟨_, .store 44 _ _, _, _, _, _⟩ :: _) _ _); refine wpList_store_row rfl 44 _ _ rfl w1.heap.size rfl RV rfl 44 _ K1.out hRV.out.info (hZs.out.trans hRV.out.size.symm) hRV.out.one ?_)
      | fail)
    have K2 := hide (K1.out.setRow_ RV)
    have B3 := hide (below_setRow B2.out B1.out.size RV)
    (try simp only [Act.put, List.setIfInBounds_toArray, List.set_cons_zero, List.set_cons_succ])
    generalize (w1.alloc (.cells Z 44)).setRow w1.heap.size RV = w2 at *
    clear K1 B2 HRo HF
    go_upto_region 6 with (first
      | (go_at_call 55; (with_reducible refine (HPv.out w2 B3.out).mono ?_); rintro e w3 ⟨v3, rfl, o3⟩; have hs3 := o3.slice; rw [← HNp.out] at hs3; obtain ⟨A3, c3, rfl, hc3⟩ := hs3; have B4 := hide (below_next B3.out o3.below); have O3 := hide o3; clear o3)
      | (go_at_call 56; (with_reducible refine (HPr.out w3 B4.out).mono ?_); rintro e w4 ⟨v4, rfl, o4⟩; have hs4 := o4.slice; rw [← HNp.out] at hs4; obtain ⟨A4, c4, rfl, hc4⟩ := hs4; have B5 := hide (below_next B4.out o4.below); have O4 := hide o4; clear o4)
      | fail)
    have I6 : RootsI w w1.heap.size RV A3 A4 np P w4 := by
      have q3 := (O3.out.later O4.out.below).reads
      have q4 := O4.out.reads
      rw [← HNp.out] at q3 q4
      exact ⟨B5.out, (K2.out.below O3.out.below K2.out.lt).below O4.out.below (Nat.lt_of_lt_of_le K2.out.lt O3.out.below.size), q3, q4⟩
    replace I6 := hide I6
    have HRR : Hid (∀ W, RootsI w w1.heap.size RV A3 A4 np P W → Calls Try.prog 57 #[.slice (some ⟨gI, oI, none⟩) n c] W fun e w' => e = .returned (.agg RV) ∧ Below W.heap.size W w') := hide fun W hI => HRR0.out W hI.below
    have HSm : Hid (∀ W, RootsI w w1.heap.size RV A3 A4 np P W → Calls Try.prog 58 #[.slice A3 np c3, .slice A4 np c4] W fun e w' => e = .returned (.bool true) ∧ Below W.heap.size W w') := hide fun W hI => HSm0.out A3 c3 A4 c4 W hI.one hI.two
    have HAl : Hid (∀ W, RootsI w w1.heap.size RV A3 A4 np P W → Calls Try.prog 53 #[] W fun e w' => e = .returned (.bool true) ∧ Below W.heap.size W w') := hide fun W hI => HAl0.out W
    clear O3 O4 K2 B3 B4 B5 HPv HPr HRR0 HSm0 HAl0
    apply wp_region_stage (hv := [2, 12]) (I := RootsI w w1.heap.size RV A3 A4 np P) (C := fun W => True) (ss := [_, _, _, _, _, _, _, _, _, _, _, _, _, _, _]) (by kernel_rfl) (by kernel_rfl) (by kernel_rfl) (by kernel_rfl) (I6.out.later (Below.refl _ _).drew) trivial
    apply stWalk_light (c := .agg RV)
    · rfl
    · intro W hI
      rw [if_pos (wanted_none _ rfl)]
      exact gives_load_row 44 _ rfl w1.heap.size rfl 44 RV (0, 0) _ hI.root Try.underlying44 rfl HRi.out ⟨rfl, rfl⟩
    (try simp only [Act.put, List.setIfInBounds_toArray, List.set_cons_zero, List.set_cons_succ])
    repeat (first
      | (apply stWalk_light
         · rfl
         · (intro W hI
            clear hI
            go_simp
            with_reducible exact rfl)
         (try simp only [Act.put, List.setIfInBounds_toArray, List.set_cons_zero, List.set_cons_succ])))
    apply stWalk_turnc (c := .agg RV) (fun W => True)
    · rfl
    · rfl
    · intro W hI hC
      refine gives_call rfl [.slice (some ⟨gI, oI, none⟩) n c] rfl (enters_of Try.func57 (by kernel_rfl) rfl) ?_
      refine (HRR.out W hI).mono ?_
      rintro e w' ⟨rfl, hb⟩
      exact ⟨_, rfl, rfl, hI.later hb, trivial⟩
    (try simp only [Act.put, List.setIfInBounds_toArray, List.set_cons_zero, List.set_cons_succ])
    repeat (first
      | (apply stWalk_light
         · rfl
         · (intro W hI
            clear hI
            go_simp
            with_reducible exact rfl)
         (try simp only [Act.put, List.setIfInBounds_toArray, List.set_cons_zero, List.set_cons_succ])))
    apply stWalk_turnc (c := .bool true) (fun W => True)
    · rfl
    · rfl
    · intro W hI hC
      refine gives_call rfl [.slice A3 np c3, .slice A4 np c4] rfl (enters_of Try.func58 (by kernel_rfl) rfl) ?_
      refine (HSm.out W hI).mono ?_
      rintro e w' ⟨rfl, hb⟩
      exact ⟨_, rfl, rfl, hI.later hb, trivial⟩
    (try simp only [Act.put, List.setIfInBounds_toArray, List.set_cons_zero, List.set_cons_succ])
    repeat (first
      | (apply stWalk_light
         · rfl
         · (intro W hI
            clear hI
            go_simp
            with_reducible exact rfl)
         (try simp only [Act.put, List.setIfInBounds_toArray, List.set_cons_zero, List.set_cons_succ])))
    refine stWalk_nil ?_
    intro W hI hC
    have I9 := hide hI
    clear hI hC
    clear I6 HRR HSm
    have HCk : Hid (∀ W, RootsI w w1.heap.size RV A3 A4 np P W → Calls Try.prog 59 #[.agg RV, .slice Ai mi ci, .int .i64 (k : Int), .int .i64 (n : Int), .slice A3 np c3] W fun e w' => e = .returned (.bool true) ∧ Below W.heap.size W w') := hide fun W hI => HCk1.out A3 c3 W hc3 hI.below hI.one
    go_wp2_with fail
    apply wp_region_stage (hv := [9, 11]) (I := RootsI w w1.heap.size RV A3 A4 np P) (C := fun W => True) (ss := [_, _, _, _, _, _, _, _, _, _, _, _, _, _]) (by kernel_rfl) (by kernel_rfl) (by kernel_rfl) (by kernel_rfl) (I9.out.later (Below.refl _ _).drew) trivial
    apply stWalk_light (c := .agg RV)
    · rfl
    · intro W hI
      rw [if_pos (wanted_none _ rfl)]
      exact gives_load_row 44 _ rfl w1.heap.size rfl 44 RV (0, 0) _ hI.root Try.underlying44 rfl HRi.out ⟨rfl, rfl⟩
    (try simp only [Act.put, List.setIfInBounds_toArray, List.set_cons_zero, List.set_cons_succ])
    repeat (first
      | (apply stWalk_light
         · rfl
         · (intro W hI
            have fc := HCell.out W hI.below
            clear hI
            go_simp
            with_reducible exact rfl)
         (try simp only [Act.put, List.setIfInBounds_toArray, List.set_cons_zero, List.set_cons_succ])))
    apply stWalk_turnc (c := .bool true) (fun W => True)
    · rfl
    · rfl
    · intro W hI hC
      refine gives_call rfl [.agg RV, .slice Ai mi ci, .int .i64 (k : Int), .int .i64 (n : Int), .slice A3 np c3] rfl (enters_of Try.func59 (by kernel_rfl) rfl) ?_
      refine (HCk.out W hI).mono ?_
      rintro e w' ⟨rfl, hb⟩
      exact ⟨_, rfl, rfl, hI.later hb, trivial⟩
    (try simp only [Act.put, List.setIfInBounds_toArray, List.set_cons_zero, List.set_cons_succ])
    repeat (first
      | (apply stWalk_light
         · rfl
         · (intro W hI
            clear hI
            go_simp
            with_reducible exact rfl)
         (try simp only [Act.put, List.setIfInBounds_toArray, List.set_cons_zero, List.set_cons_succ])))
    apply stWalk_turnc (c := .bool true) (fun W => True)
    · rfl
    · rfl
    · intro W hI hC
      refine gives_call rfl [] rfl (enters_of Try.func53 (by kernel_rfl) rfl) ?_
      refine (HAl.out W hI).mono ?_
      rintro e w' ⟨rfl, hb⟩
      exact ⟨_, rfl, rfl, hI.later hb, trivial⟩
    (try simp only [Act.put, List.setIfInBounds_toArray, List.set_cons_zero, List.set_cons_succ])
    repeat (first
      | (apply stWalk_light
         · rfl
         · (intro W hI
            clear hI
            go_simp
            with_reducible exact rfl)
         (try simp only [Act.put, List.setIfInBounds_toArray, List.set_cons_zero, List.set_cons_succ])))
    refine stWalk_nil ?_
    intro W hI hC
    have B9 := hide hI.below
    clear hI hC
    go_wp2
    go_ret
    exact ⟨rfl, B9.out⟩
  · rw [decide_eq_false hin] at HPv HPr
    have HCk1 : Hid (∀ A3 c3 W, np ≤ c3 → Below w.heap.size w W → Reads W W.heap.size 32 A3 np (P.flatten.map c8) → Calls Try.prog 59 #[.agg RV, .slice none 0 0, .int .i64 x, .int .i64 (n : Int), .slice A3 np c3] W fun e w' => e = .returned (.bool false) ∧ Below W.heap.size W w') := hide fun A3 c3 W h3 hB h5 => by
      have h := HCk0.out none 0 0 [] A3 c3 W (by omega) (by omega) h3 Reads.none_ h5
      rw [chkD, if_neg hin] at h; exact h
    replace hRV := hide hRV
    replace hZ := hide hZ
    replace hZs := hide hZs
    clear hr hrs hr' hP hnp hR hrow hRl hids hl hPi hin HCk0 hb hf2 hfew
    go_enter Try.func13, Try.ntmps13
    go_upto_region 4 with (first
      | (go_at_call 31; (with_reducible refine HF.out.mono ?_); rintro e w0 ⟨rfl, rfl⟩)
      | (go_at_call 54; (with_reducible refine HRo.out.mono ?_); rintro e w1 ⟨rfl, hb1⟩; have B1 := hide hb1; clear hb1)
      | ((with_reducible show wpList _ _ _ (⟨_, .alloc 44, _, _, _, _⟩ :: _) _ _); refine wpList_alloc_is rfl 44 rfl Z hZ.out ?_; have K1 := hide (Blk.new w1 44 Z); have B2 := hide (B1.out.alloc B1.out.size (.cells Z 44)))
      | ((with_reducible show wpList _ _ _ (⟨_, .store 44 _ _, _, _, _, _⟩ :: _) _ _); refine wpList_store_row rfl 44 _ _ rfl w1.heap.size rfl RV rfl 44 _ K1.out hRV.out.info (hZs.out.trans hRV.out.size.symm) hRV.out.one ?_)
      | fail)
    have K2 := hide (K1.out.setRow_ RV)
    have B3 := hide (below_setRow B2.out B1.out.size RV)
    (try simp only [Act.put, List.setIfInBounds_toArray, List.set_cons_zero, List.set_cons_succ])
    generalize (w1.alloc (.cells Z 44)).setRow w1.heap.size RV = w2 at *
    clear K1 B2 HRo HF
    go_upto_region 6 with (first
      | (go_at_call 55; (with_reducible refine (HPv.out w2 B3.out).mono ?_); rintro e w3 ⟨v3, rfl, o3⟩; have hs3 := o3.slice; rw [← HNp.out] at hs3; obtain ⟨A3, c3, rfl, hc3⟩ := hs3; have B4 := hide (below_next B3.out o3.below); have O3 := hide o3; clear o3)
      | (go_at_call 56; (with_reducible refine (HPr.out w3 B4.out).mono ?_); rintro e w4 ⟨v4, rfl, o4⟩; have hs4 := o4.slice; rw [← HNp.out] at hs4; obtain ⟨A4, c4, rfl, hc4⟩ := hs4; have B5 := hide (below_next B4.out o4.below); have O4 := hide o4; clear o4)
      | fail)
    have I6 : RootsI w w1.heap.size RV A3 A4 np P w4 := by
      have q3 := (O3.out.later O4.out.below).reads
      have q4 := O4.out.reads
      rw [← HNp.out] at q3 q4
      exact ⟨B5.out, (K2.out.below O3.out.below K2.out.lt).below O4.out.below (Nat.lt_of_lt_of_le K2.out.lt O3.out.below.size), q3, q4⟩
    replace I6 := hide I6
    have HRR : Hid (∀ W, RootsI w w1.heap.size RV A3 A4 np P W → Calls Try.prog 57 #[.slice A n c] W fun e w' => e = .returned (.agg RV) ∧ Below W.heap.size W w') := hide fun W hI => HRR0.out W hI.below
    have HSm : Hid (∀ W, RootsI w w1.heap.size RV A3 A4 np P W → Calls Try.prog 58 #[.slice A3 np c3, .slice A4 np c4] W fun e w' => e = .returned (.bool true) ∧ Below W.heap.size W w') := hide fun W hI => HSm0.out A3 c3 A4 c4 W hI.one hI.two
    have HAl : Hid (∀ W, RootsI w w1.heap.size RV A3 A4 np P W → Calls Try.prog 53 #[] W fun e w' => e = .returned (.bool true) ∧ Below W.heap.size W w') := hide fun W hI => HAl0.out W
    clear O3 O4 K2 B3 B4 B5 HPv HPr HRR0 HSm0 HAl0
    apply wp_region_stage (hv := [2, 12]) (I := RootsI w w1.heap.size RV A3 A4 np P) (C := fun W => True) (ss := [_, _, _, _, _, _, _, _, _, _, _, _, _, _, _]) (by kernel_rfl) (by kernel_rfl) (by kernel_rfl) (by kernel_rfl) (I6.out.later (Below.refl _ _).drew) trivial
    apply stWalk_light (c := .agg RV)
    · rfl
    · intro W hI
      rw [if_pos (wanted_none _ rfl)]
      exact gives_load_row 44 _ rfl w1.heap.size rfl 44 RV (0, 0) _ hI.root Try.underlying44 rfl HRi.out ⟨rfl, rfl⟩
    (try simp only [Act.put, List.setIfInBounds_toArray, List.set_cons_zero, List.set_cons_succ])
    repeat (first
      | (apply stWalk_light
         · rfl
         · (intro W hI
            clear hI
            go_simp
            with_reducible exact rfl)
         (try simp only [Act.put, List.setIfInBounds_toArray, List.set_cons_zero, List.set_cons_succ])))
    apply stWalk_turnc (c := .agg RV) (fun W => True)
    · rfl
    · rfl
    · intro W hI hC
      refine gives_call rfl [.slice A n c] rfl (enters_of Try.func57 (by kernel_rfl) rfl) ?_
      refine (HRR.out W hI).mono ?_
      rintro e w' ⟨rfl, hb⟩
      exact ⟨_, rfl, rfl, hI.later hb, trivial⟩
    (try simp only [Act.put, List.setIfInBounds_toArray, List.set_cons_zero, List.set_cons_succ])
    repeat (first
      | (apply stWalk_light
         · rfl
         · (intro W hI
            clear hI
            go_simp
            with_reducible exact rfl)
         (try simp only [Act.put, List.setIfInBounds_toArray, List.set_cons_zero, List.set_cons_succ])))
    apply stWalk_turnc (c := .bool true) (fun W => True)
    · rfl
    · rfl
    · intro W hI hC
      refine gives_call rfl [.slice A3 np c3, .slice A4 np c4] rfl (enters_of Try.func58 (by kernel_rfl) rfl) ?_
      refine (HSm.out W hI).mono ?_
      rintro e w' ⟨rfl, hb⟩
      exact ⟨_, rfl, rfl, hI.later hb, trivial⟩
    (try simp only [Act.put, List.setIfInBounds_toArray, List.set_cons_zero, List.set_cons_succ])
    repeat (first
      | (apply stWalk_light
         · rfl
         · (intro W hI
            clear hI
            go_simp
            with_reducible exact rfl)
         (try simp only [Act.put, List.setIfInBounds_toArray, List.set_cons_zero, List.set_cons_succ])))
    refine stWalk_nil ?_
    intro W hI hC
    have I9 := hide hI
    clear hI hC
    clear I6 HRR HSm
    go_wp2_with (first
      | ((with_reducible show wpList _ _ _ (⟨_, .load 44 _, _, _, _, _⟩ :: _) _ _); refine wpList_load_row rfl 44 _ rfl w1.heap.size rfl 44 RV (0, 0) _ I9.out.root Try.underlying44 rfl HRi.out ?_)
      | (go_at_call 59; (with_reducible refine (HCk1.out A3 c3 _ hc3 I9.out.below I9.out.one).mono ?_); rintro e w7 ⟨rfl, hb7⟩; have B7 := hide (below_next I9.out.below hb7); clear hb7)
      | (go_at_call 53; (with_reducible refine (alive44_any _).mono ?_); rintro e w8 ⟨rfl, hb8⟩; have B8 := hide (below_next B7.out hb8); clear hb8)
      | fail)
    go_ret
    exact ⟨rfl, B8.out⟩
end Go.Proofs.Ytdikknfdgpdenaa
