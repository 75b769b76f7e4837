/- Chapter 03's reference of a tag. Condition: of at most 2^40 bytes. -/
import Derived.Test.YtdikknfdgpdenaaMacOf
namespace Go.Proofs.Ytdikknfdgpdenaa
open Go.RowKit
set_option linter.unusedVariables false
set_option linter.unusedSimpArgs false
attribute [local go_sem] Gives givesUpon
attribute [local irreducible] Gives

theorem gives_append_any {P : Program} {w : World} {o : Oper} {a : Act} {X : Value → World → Prop} (s x : Operand) (t : TypeId)
    (ho : o.op = .call { callee := .builtin .append, args := #[s, x], argTypes := #[t, t] })
    (base : Nat) (e : TypeId) (i : TypeInfo) (z : Value) (size bytes : Nat) (ht : P.underlying t = some (.slice e)) (hi : P.info? e = some i) (hz : i.zero = some z)
    (hsize : i.size = size) (hby : i.bytes = bytes) (hzs : z.cells.size = size) (hsz : 0 < size)
    (v : Value) (n : Nat) (xs : List Value) (hs : a.eval s = v) (hown : w.ownsRow base e size v n xs)
    (B : Nat) (A : Option Addr) (m c : Nat) (news : List Value) (hx : a.eval x = .slice A m c) (hr : Reads w B size A m news) (h1 : ∀ u ∈ news, u.oneCell' = true)
    (h63 : n + m ≤ maxLen) (hbytes : (n + m) * bytes ≤ 140737488355328) (hbase : base ≤ w.heap.size)
    (h : ∀ v' w', w'.ownsRow base e size v' (n + m) (xs ++ news) → w.grownBy w' v.ownBlock → X v' w') : Gives P o a w X := by
  obtain ⟨v', w', hrun, h2, h3, h4⟩ := run_append_any (P := P) w base t o.type e i z size bytes ht hi hz hsize hby hzs hsz v n xs hown B A m c news hr h1 h63 hbytes hbase
  unfold Gives execOp
  simp only [ho, resolve, invoke, builtin, Sem.run_bind, Sem.run_pure, Result.andThen_ok, List.map_toArray, List.map_cons, List.map_nil, hs, hx, hrun, givesUpon]
  exact h v' w' h2 h3
theorem IdsI.appended {w W W' : World} {g size n : Nat} {IN : Array Value} {e : TypeId} {v : Value} {xs : List Value} (h : IdsI w g IN W) (hg : w.heap.size < g) (own : W.ownsRow (g + 1) e size v n xs) (grow : W.grownBy W' v.ownBlock) : IdsI w g IN W' := by
  obtain ⟨i1, i2, Z', i3, i4⟩ := h
  exact ⟨below_appended i1 i1.size own (by omega) grow, i2.grown grow (own_ne own (by omega)), Z', i3.grown grow (own_ne own (by omega)), i4⟩
set_option maxRecDepth 100000 in
set_option maxHeartbeats 1600000 in
theorem refof_any (A : Option Addr) (n c : Nat) (bs : List (BitVec 8)) (A1 : Option Addr) (n1 c1 : Nat) (cs : List (BitVec 8)) (w : World) (hr : Reads w w.heap.size 1 A n (bs.map c8)) (hn : n ≤ 1099511620000)
    (hr1 : Reads w w.heap.size 1 A1 n1 (cs.map c8)) (hn1 : n1 ≤ 1099511620000) :
    Calls Try.prog 47 #[.slice A n c, .slice A1 n1 c1] w fun e w' => e = .returned (.agg ((macOf bs cs).map c8).toArray) ∧ Below w.heap.size w w' := by
  obtain ⟨i0, hi0, hz0, hz1, hz2⟩ := info_parts info_u8
  have hcl : cs.length = n1 := hr1.len
  obtain ⟨Z, hZ, hZs⟩ := zeroId
  obtain ⟨IN, hIN⟩ := idVal (shaOf (blockOf bs 54 ++ cs)) (shaOf_len _)
  obtain ⟨OUT, hOUT⟩ := idVal (macOf bs cs) (macOf_len _ _)
  obtain ⟨W0, hW0⟩ : ∃ W0, w.alloc (.cells Z 44) = W0 := ⟨_, rfl⟩
  have q1 : Blk W0 w.heap.size 44 Z := by rw [← hW0]; exact Blk.new w _ Z
  have hB0 : Below w.heap.size w W0 := by rw [← hW0]; exact (Below.refl _ w).alloc (Nat.le_refl _) _
  have hsz : W0.heap.size = w.heap.size + 1 := by rw [← hW0]; simp
  obtain ⟨B54, hB54⟩ : ∃ B, B = blockOf bs 54 := ⟨_, rfl⟩
  obtain ⟨B92, hB92⟩ : ∃ B, B = blockOf bs 92 := ⟨_, rfl⟩
  have h54 : B54.length = 64 := by rw [hB54]; exact blockOf_len _ _
  have h92 : B92.length = 64 := by rw [hB92]; exact blockOf_len _ _
  have HC1 := hide hr1
  have HCL := hide hcl
  have HBL54 : Hid (∀ W, Below w.heap.size w W → Calls Try.prog 74 #[.slice A n c, .int .u8 54] W fun e w' => ∃ A' c', e = .returned (.slice A' 64 c') ∧ w'.ownsRow W.heap.size 5 1 (.slice A' 64 c') 64 (B54.map c8) ∧ Below W.heap.size W w') := hide (fun W hb => by rw [hB54]; exact refblock_any A n c bs 54 W ((hr.below hb).more hb.size) (by omega))
  have HBL92 : Hid (∀ W, Below w.heap.size w W → Calls Try.prog 74 #[.slice A n c, .int .u8 92] W fun e w' => ∃ A' c', e = .returned (.slice A' 64 c') ∧ w'.ownsRow W.heap.size 5 1 (.slice A' 64 c') 64 (B92.map c8) ∧ Below W.heap.size W w') := hide (fun W hb => by rw [hB92]; exact refblock_any A n c bs 92 W ((hr.below hb).more hb.size) (by omega))
  have hINv := hIN.val
  have hOUTv := hOUT.val
  unfold macOf at hOUTv
  rw [← hB54] at hINv
  rw [← hB54, ← hB92] at hOUTv
  replace hINv := hide hINv
  replace hOUTv := hide hOUTv
  replace hIN := hide hIN
  replace hOUT := hide hOUT
  replace hZ := hide hZ
  replace hZs := hide hZs
  replace hW0 := hide hW0
  replace q1 := hide q1
  replace hB0 := hide hB0
  replace hB54 := hide hB54
  replace hB92 := hide hB92
  replace h54 := hide h54
  replace h92 := hide h92
  clear hr hr1 hcl
  go_enter Try.func47, Try.ntmps47
  go_wp2_with (first
    | ((with_reducible show wpList _ _ _ (⟨some 4, .alloc 44, _, _, _, _⟩ :: _) _ _); refine wpList_alloc_is rfl 44 rfl Z hZ.out ?_)
    | (rw [hW0.out]; go_at_call 74; (with_reducible refine (HBL54.out W0 hB0.out).mono ?_); rintro e w1 ⟨A2, c2, rfl, own1, hb1⟩; have O1 := hide own1; have B1 := hide (hB0.out.trans (hb1.mono hB0.out.size)); have Q1 := hide (q1.out.below hb1 q1.out.lt); have SZ1 := hide hb1.size; clear own1 hb1)
    | (at_builtin; refine wpList_append_any _ rfl (.tmp 7) (.tmp 8) 29 rfl W0.heap.size 5 i0 _ 1 1 Try.underlying29 hi0 hz0 hz1 hz2 rfl (by omega) _ 64 _ rfl O1.out _ A1 n1 c1 _ rfl ((HC1.out.below B1.out).more B1.out.size) (oneCell_c8 _) (by simp only [maxLen]; omega) (by omega) SZ1.out ?_; intro v2 W2 own2 grow2 _; obtain ⟨A3, c3, rfl⟩ := own_slice own2; have R2 := Reads.of_own own2; rw [← List.map_append] at R2; replace R2 := hide R2; have B2 := hide (below_appended B1.out B1.out.size O1.out (by omega) grow2); have Q2 := hide (Q1.out.grown grow2 (own_ne O1.out (by omega))); have HRS : Hid (Calls Try.prog 36 #[.slice A3 (64 + n1) c3] W2 fun e w' => e = .returned (.agg IN) ∧ Below W2.heap.size W2 w') := hide (by rw [hINv.out]; exact refsum_any A3 (64 + n1) c3 _ W2 R2.out (by omega)); clear own2 grow2 O1 B1 Q1)
    | (go_at_call 36; (with_reducible refine HRS.out.mono ?_); rintro e w3 ⟨rfl, hb3⟩; have B3 := hide (below_next B2.out hb3); have Q3 := hide (Q2.out.below hb3 Q2.out.lt); clear hb3 B2 Q2 HRS R2)
    | ((with_reducible show wpList _ _ _ (⟨some 5, .alloc 44, _, _, _, _⟩ :: _) _ _); refine wpList_alloc_is rfl 44 rfl Z hZ.out ?_; have K6 := hide (Blk.new w3 44 Z); have HB6 := hide (B3.out.alloc B3.out.size (.cells Z 44)); have HQ6 := hide (Q3.out.alloc (.cells Z 44)))
    | ((with_reducible show wpList _ _ _ (⟨none, .store _ (.tmp 5) _, _, _, _, _⟩ :: _) _ _); refine wpList_store_row rfl 44 _ _ rfl w3.heap.size rfl IN rfl 44 _ K6.out hIN.out.info (hZs.out.trans hIN.out.size.symm) hIN.out.one ?_))
  have hlt5 := Q3.out.lt
  have S1 := hide (K6.out.setRow_ IN)
  have S2 := hide (below_setRow HB6.out B3.out.size IN)
  have S3 := hide (HQ6.out.setRow_far (k := w3.heap.size) IN (by omega))
  generalize (w3.alloc (.cells Z 44)).setRow w3.heap.size IN = w6 at *
  clear K6 HB6 HQ6 B3 Q3 hB0 q1
  apply wp_region_stage (hv := [1, 3, 4, 5]) (I := IdsI w w3.heap.size IN) (C := fun W => True) (ss := [_, _, _, _, _, _]) (by kernel_rfl) (by kernel_rfl) (by kernel_rfl) (by kernel_rfl) ⟨S2.out.drew, S1.out.drew, Z, S3.out.drew, hZs.out⟩ trivial
  repeat (first
    | (apply stWalk_light
       · rfl
       · (intro W hI
          go_simp
          with_reducible exact rfl)
       (try simp only [Act.put, List.setIfInBounds_toArray, List.set_cons_zero, List.set_cons_succ])))
  refine stWalk_turn (fun v => ∃ A c, v = .slice A 64 c) (fun v W => ∃ A c, v = .slice A 64 c ∧ W.ownsRow (w3.heap.size + 1) 5 1 v 64 (B92.map c8)) (by rfl) ⟨_, none, 0, rfl⟩ (by go_simp) ?_ ?_
  · intro W hI hC
    go_simp
    refine (HBL92.out W hI.1).mono ?_
    rintro e w3 ⟨A', c', rfl, own, hb3⟩
    exact ⟨_, rfl, ⟨A', c', rfl⟩, hI.below hb3, ⟨A', c', rfl⟩, own_mono own hI.2.1.lt⟩
  rintro v ⟨A4, c4, rfl⟩
  (try simp only [Act.put, List.setIfInBounds_toArray, List.set_cons_zero, List.set_cons_succ])
  repeat (first
    | (apply stWalk_light
       · rfl
       · (intro W hI
          go_simp
          with_reducible exact rfl)
       (try simp only [Act.put, List.setIfInBounds_toArray, List.set_cons_zero, List.set_cons_succ])))
  refine stWalk_turn (fun v => ∃ A c, v = .slice A (64 + 32) c) (fun v W => Calls Try.prog 36 #[v] W fun e w' => e = .returned (.agg OUT) ∧ IdsI w w3.heap.size IN w') (by rfl) ⟨_, none, 0, rfl⟩ (by go_simp) ?_ ?_
  · intro W hI hC
    obtain ⟨_, _, _, own⟩ := hC
    have i2 := hI.2.1
    rw [hINv.out] at i2
    have r2 := i2.row8
    rw [shaOf_len] at r2
    refine gives_append_any (.tmp 12) (.tmp 13) 29 rfl (w3.heap.size + 1) 5 i0 _ 1 1 Try.underlying29 hi0 hz0 hz1 hz2 rfl (by omega) _ 64 _ rfl own _ (some ⟨w3.heap.size, 0, none⟩) 32 32 _ rfl r2 (oneCell_c8 _) (by simp only [maxLen]; omega) (by omega) hI.2.1.lt ?_
    intro v' w' own' grow'
    have hI' := hI.appended (by omega) own grow'
    obtain ⟨A5, c5, rfl⟩ := own_slice own'
    have r5 := Reads.of_own own'
    rw [← List.map_append] at r5
    refine ⟨⟨A5, c5, rfl⟩, hI', ?_⟩
    rw [hOUTv.out]
    exact (refsum_any A5 (64 + 32) c5 _ w' r5 (by omega)).mono (fun e w'' h => ⟨h.1, hI'.below h.2⟩)
  rintro v ⟨A5, c5, rfl⟩
  (try simp only [Act.put, List.setIfInBounds_toArray, List.set_cons_zero, List.set_cons_succ])
  apply stWalk_turnc (fun W => True)
  · rfl
  · go_simp
  · intro W hI hC
    go_simp
    refine hC.mono ?_
    rintro e w3 ⟨rfl, hI3⟩
    exact ⟨_, rfl, rfl, hI3⟩
  (try simp only [Act.put, List.setIfInBounds_toArray, List.set_cons_zero, List.set_cons_succ])
  apply stWalk_turnc (fun W => Blk W w.heap.size 44 OUT)
  · rfl
  · go_simp
  · intro W hI hC
    obtain ⟨i1, i2, Z', i3, i4⟩ := hI
    refine gives_store_row 44 _ _ rfl w.heap.size rfl OUT rfl 44 Z' i3 hOUT.out.info (i4.trans hOUT.out.size.symm) hOUT.out.one ?_
    exact ⟨rfl, ⟨below_setRow i1 (Nat.le_refl _) _, i2.setRow_far (k := w.heap.size) OUT (by omega), OUT, i3.setRow_ OUT, hOUT.out.size⟩, i3.setRow_ OUT⟩
  (try simp only [Act.put, List.setIfInBounds_toArray, List.set_cons_zero, List.set_cons_succ])
  refine stWalk_nil ?_
  intro W2 hI hC
  have S5 : Hid (Below w.heap.size w W2) := hide hI.1
  have S6 : Hid (Blk W2 w.heap.size 44 OUT) := hide hC
  clear hI hC
  go_wp2_with fail
  refine bodyPost_ret (v := .agg OUT) ?_ rfl ⟨by rw [hOUT.out.val], S5.out⟩
  exact results_cell_row rfl _ _ w.heap.size 44 OUT (0, 0) _ rfl S6.out Try.underlying44 rfl hOUT.out.info
end Go.Proofs.Ytdikknfdgpdenaa
