/- Package mac's Of, and chapter 03's reference of it. Condition: of at most 2^30 bytes. -/
import Derived.Test.YtdikknfdgpdenaaMacBlock
import Derived.Test.YtdikknfdgpdenaaRelStage
namespace Go.Proofs.Ytdikknfdgpdenaa
open Go.RowKit
set_option linter.unusedVariables false
set_option linter.unusedSimpArgs false
attribute [local go_sem] Gives givesUpon
attribute [local irreducible] Gives

/-- parts, whose place is known -/
theorem rows_2 {W : World} {A1 A2 : Option Addr} {n1 c1 n2 c2 : Nat} {b1 b2 : List (BitVec 8)} (r1 : Reads W W.heap.size 1 A1 n1 (b1.map c8)) (h1 : n1 ≤ c1) (r2 : Reads W W.heap.size 1 A2 n2 (b2.map c8)) (h2 : n2 ≤ c2) (t : TypeId) :
    Reads (W.alloc (.cells #[.slice A1 n1 c1, .slice A2 n2 c2] t)) (W.alloc (.cells #[.slice A1 n1 c1, .slice A2 n2 c2] t)).heap.size 1 (some ⟨W.heap.size, 0, none⟩) 2 [.slice A1 n1 c1, .slice A2 n2 c2] ∧
    Rows8 (W.alloc (.cells #[.slice A1 n1 c1, .slice A2 n2 c2] t)) (W.alloc (.cells #[.slice A1 n1 c1, .slice A2 n2 c2] t)).heap.size [.slice A1 n1 c1, .slice A2 n2 c2] [b1, b2] := by
  have hb := (Below.refl W.heap.size W).alloc (Nat.le_refl _) (.cells #[.slice A1 n1 c1, .slice A2 n2 c2] t)
  refine ⟨(Reads.new W t #[.slice A1 n1 c1, .slice A2 n2 c2]).more (by simp), rfl, fun i v p hv hp => ?_⟩
  match i with
  | 0 => cases hv; cases hp; exact ⟨_, _, _, rfl, r1.later hb, h1⟩
  | 1 => cases hv; cases hp; exact ⟨_, _, _, rfl, r2.later hb, h2⟩
  | _ + 2 => simp at hv
/-- the hash of two parts, built in place -/
theorem sum2_any {W : World} {A1 A2 : Option Addr} {n1 c1 n2 c2 : Nat} {b1 b2 : List (BitVec 8)} (r1 : Reads W W.heap.size 1 A1 n1 (b1.map c8)) (h1 : n1 ≤ c1) (r2 : Reads W W.heap.size 1 A2 n2 (b2.map c8)) (h2 : n2 ≤ c2) (hl : n1 + n2 ≤ 1099511627000) (c : Nat) :
    Calls Try.prog 39 #[.slice (some ⟨W.heap.size, 0, none⟩) 2 c] (W.alloc (.cells #[.slice A1 n1 c1, .slice A2 n2 c2] 29)) fun e w' => e = .returned (.agg ((shaOf (b1 ++ b2)).map c8).toArray) ∧ Below W.heap.size W w' := by
  obtain ⟨q1, q2⟩ := rows_2 r1 h1 r2 h2 29
  have l1 : b1.length = n1 := r1.len
  have l2 : b2.length = n2 := r2.len
  have h := shasum_any _ 2 c _ _ _ q1 q2 (by omega) (by simp; omega)
  rw [show ([b1, b2] : List (List (BitVec 8))).flatten = b1 ++ b2 by simp] at h
  refine h.mono ?_
  rintro e w' ⟨rfl, hb⟩
  exact ⟨rfl, ((Below.refl W.heap.size W).alloc (Nat.le_refl _) _).trans (hb.mono (by simp))⟩
theorem Blk.row8 {w : World} {g : Nat} {t : TypeId} {l : List (BitVec 8)} (h : Blk w g t (l.map c8).toArray) : Reads w w.heap.size 1 (some ⟨g, 0, none⟩) l.length (l.map c8) := by
  have := reads_row h
  simpa using this
/-- a row of 32 bytes, as a value -/
structure IdVal (l : List (BitVec 8)) (R : Array Value) : Prop where
  val : R = (l.map c8).toArray
  size : R.size = 32
  info : (Try.prog.info? 44).map (·.size) = some R.size
  one : R.all (·.oneCell') = true
theorem idVal (l : List (BitVec 8)) (h : l.length = 32) : ∃ R, IdVal l R := by
  refine ⟨(l.map c8).toArray, rfl, by simp [h], ?_, oneCell_bytes _⟩
  rw [show ((l.map c8).toArray).size = 32 by simp [h]]
  exact info_id
/-- what holds all along a region in which blocks of one's own are laid, one of 32 bytes is read, and another is written at the end -/
def IdsI (w : World) (g : Nat) (IN : Array Value) (W : World) : Prop := Below w.heap.size w W ∧ Blk W g 44 IN ∧ ∃ Z, Blk W w.heap.size 44 Z ∧ Z.size = 32
theorem IdsI.below {w W W' : World} {g : Nat} {IN : Array Value} (h : IdsI w g IN W) (hb : Below W.heap.size W W') : IdsI w g IN W' := by
  obtain ⟨i1, i2, Z', i3, i4⟩ := h
  exact ⟨below_next i1 hb, i2.below hb i2.lt, Z', i3.below hb i3.lt, i4⟩
theorem zeroId : ∃ Z : Array Value, (Try.prog.info? 44).map (·.zero) = some (some (.agg Z)) ∧ Z.size = 32 := by
  obtain ⟨Z, h, hr⟩ := zero_id
  exact ⟨Z, h, by rw [hr]; rfl⟩
set_option maxRecDepth 100000 in
set_option maxHeartbeats 1600000 in
theorem macof_any (A : Option Addr) (n c : Nat) (bs : List (BitVec 8)) (A1 : Option Addr) (n1 c1 : Nat) (vs : List Value) (ps : List (List (BitVec 8))) (w : World) (hr : Reads w w.heap.size 1 A n (bs.map c8)) (hc : n ≤ c) (hn : n ≤ 1099511620000)
    (hr1 : Reads w w.heap.size 1 A1 n1 vs) (hrs : Rows8 w w.heap.size vs ps) (hn1 : n1 ≤ 1099511627776) (hb1 : ps.flatten.length ≤ 1099511620000) :
    Calls Try.prog 46 #[.slice A n c, .slice A1 n1 c1] w fun e w' => e = .returned (.agg ((macOf bs ps.flatten).map c8).toArray) ∧ Below w.heap.size w w' := by
  have hvl : vs.length = n1 := by have := hr1.1; omega
  have hpl : ps.length = n1 := by have := hrs.1; omega
  obtain ⟨Z, hZ, hZs⟩ := zeroId
  obtain ⟨IN, hIN⟩ := idVal (shaOf (blockOf bs 54 ++ ps.flatten)) (shaOf_len _)
  obtain ⟨OUT, hOUT⟩ := idVal (macOf bs ps.flatten) (macOf_len _ _)
  obtain ⟨W0, hW0⟩ : ∃ W0, w.alloc (.cells Z 44) = W0 := ⟨_, rfl⟩
  have q1 : Blk W0 w.heap.size 44 Z := by rw [← hW0]; exact Blk.new w _ Z
  have hB0 : Below w.heap.size w W0 := by rw [← hW0]; exact (Below.refl _ w).alloc (Nat.le_refl _) _
  have hsz : W0.heap.size = w.heap.size + 1 := by rw [← hW0]; simp
  have HP := hide hpl
  have HK := hide hr
  have HR := hide hr1
  have HRS := hide hrs
  obtain ⟨B54, hB54⟩ : ∃ B, B = blockOf bs 54 := ⟨_, rfl⟩
  obtain ⟨B92, hB92⟩ : ∃ B, B = blockOf bs 92 := ⟨_, rfl⟩
  have h54 : B54.length = 64 := by rw [hB54]; exact blockOf_len _ _
  have h92 : B92.length = 64 := by rw [hB92]; exact blockOf_len _ _
  have HPAD54 : Hid (∀ W, Below w.heap.size w W → Calls Try.prog 73 #[.slice A n c, .int .u8 54] W fun e w' => ∃ g, e = .returned (.slice (some ⟨g, 0, none⟩) 64 64) ∧ W.heap.size ≤ g ∧ Blk w' g 5 (B54.map c8).toArray ∧ Below W.heap.size W w') := hide (fun W hb => by rw [hB54]; exact pad_any A n c bs 54 W ((hr.below hb).more hb.size) hc (by omega))
  have HPAD92 : Hid (∀ W, Below w.heap.size w W → Calls Try.prog 73 #[.slice A n c, .int .u8 92] W fun e w' => ∃ g, e = .returned (.slice (some ⟨g, 0, none⟩) 64 64) ∧ W.heap.size ≤ g ∧ Blk w' g 5 (B92.map c8).toArray ∧ Below W.heap.size W w') := hide (fun W hb => by rw [hB92]; exact pad_any A n c bs 92 W ((hr.below hb).more hb.size) hc (by omega))
  have hINv := hIN.val
  have hOUTv := hOUT.val
  unfold macOf at hOUTv
  rw [← hB54] at hINv
  rw [← hB54, ← hB92] at hOUTv
  replace hINv := hide hINv
  replace hOUTv := hide hOUTv
  replace hIN := hide hIN
  replace hOUT := hide hOUT
  replace hZ := hide hZ
  replace hZs := hide hZs
  replace hW0 := hide hW0
  replace q1 := hide q1
  replace hB0 := hide hB0
  replace hB54 := hide hB54
  replace hB92 := hide hB92
  replace h54 := hide h54
  replace h92 := hide h92
  replace hb1 := hide hb1
  clear hvl hpl hr hr1 hrs
  go_enter Try.func46, Try.ntmps46
  go_wp2_with (first
    | ((with_reducible show wpList _ _ _ (⟨_, .alloc 44, _, _, _, _⟩ :: _) _ _); refine wpList_alloc_is rfl 44 rfl Z hZ.out ?_)
    | (rw [hW0.out]; go_at_call 33; refine (newhash_any _).mono ?_; rintro e w1 ⟨g, rfl, hg, hh1, hb1'⟩; rw [hsz] at hg; have HH1 := hide hh1; have HB1 := hide (hB0.out.trans (hb1'.mono (by omega))); have Q1 := hide (q1.out.below hb1' (by omega)); clear hh1 hb1')
    | (go_at_call 73; (with_reducible refine (HPAD54.out w1 HB1.out).mono ?_); rintro e w2 ⟨gp, rfl, hgp, hk2, hb2⟩; have K2 := hide hk2; have HB2 := hide (below_next HB1.out hb2); have Q2 := hide (Q1.out.below hb2 Q1.out.lt); have HH2 := hide (HH1.out.below hb2); have HGP : Hid (gp ≠ g) := hide (by have := HH1.out.lt; omega); have HR2 : Hid (Reads w2 w2.heap.size 1 (some ⟨gp, 0, none⟩) 64 (B54.map c8)) := hide (by have := K2.out.row8; rw [h54.out] at this; exact this); clear hk2 hb2 hgp)
    | (go_at_call 34; (with_reducible refine (write_any g (some ⟨gp, 0, none⟩) 64 64 [] B54 w2 HH2.out HR2.out (fun _ ad e => by cases e; exact HGP.out) (by simp)).mono ?_); rintro e w3 ⟨rfl, hh3, gb3⟩; rw [List.nil_append] at hh3; have HH3 := hide hh3; have HB3 := hide (HB2.out.grown gb3 HB2.out.size (fun q e => by cases e; omega)); have Q3 := hide (Q2.out.grown gb3 (by intro e; cases e; omega)); clear hh3 gb3 HH1 HB1 Q1 K2 HB2 Q2 HH2 HGP HR2))
  go_loopw [16] (fun i wr => ∃ k : Nat, k ≤ n1 ∧ i = .int .i64 (k : Int) ∧ Hid (HashIs wr g (B54 ++ (ps.take k).flatten)) ∧ Hid (Below w.heap.size w wr) ∧ Hid (Blk wr w.heap.size 44 Z)) (fun i _ => n1 - (intOf i).toNat)
  case atStart => exact ⟨0, by omega, rfl, hide (by simpa using HH3.out), HB3, Q3⟩
  case round =>
    obtain ⟨k, hk, rfl, HH, HB, HQ⟩ := hrel
    clear HH3 HB3 Q3
    by_cases hlt : k < n1
    · have hd : decide ((k : Int) < (n1 : Int)) = true := by simp; omega
      have hkp : k < ps.length := by rw [HP.out]; exact hlt
      obtain ⟨bA, oA, rfl, hbA⟩ := HR.out.addr' (by omega)
      obtain ⟨Ak, m, ck, hcell0, hrk, hmk⟩ := rows_at HR.out HRS.out hkp
      have hcell := (HB.out.cell (p := ⟨bA, oA + k, none⟩) hbA).trans hcell0
      have hgrow := HB.out.size
      have HRK := hide ((hrk.below HB.out).more hgrow)
      have hAk : Hid (∀ ad, Ak = some ad → 0 < m → ad.block < w.heap.size) := hide (fun ad e hm => by
        obtain ⟨ad', e', hb', _⟩ := hrk.2 hm
        rw [e] at e'; cases e'; exact hb')
      have hlen := flatten_take_len ps k hkp
      have hml : ps[k].length = m := hrk.len
      have HN : Hid (B54 ++ (ps.take (k + 1)).flatten = B54 ++ (ps.take k).flatten ++ ps[k]) := hide (by rw [flatten_take ps k hkp, List.append_assoc])
      have HB64 : Hid ((B54 ++ (ps.take k).flatten).length + m ≤ 1099511627776) := hide (by have := hb1.out; rw [List.length_append, h54.out]; omega)
      have hk0 : (0 : Int) ≤ (k : Int) := by omega
      have hk1 : (k : Int) < (n1 : Int) := by omega
      generalize hPk : ps[k] = P at *
      clear hlen hml hrk hkp hPk hcell0
      go_wp2_with (go_at_call 34; (with_reducible refine (write_any g Ak m ck _ P wr HH.out HRK.out (fun hm ad e => by have := hAk.out ad e hm; omega) HB64.out).mono ?_); rintro e w3 ⟨rfl, hh3, gb3⟩; have HH3 := hide hh3; have HB3 := hide (HB.out.grown gb3 hgrow (fun q e => by cases e; omega)); have HQ3 := hide (HQ.out.grown gb3 (by intro e; cases e; omega)); clear hh3 gb3)
      go_roundw
      case rel => exact ⟨k + 1, hlt, int_succ k, by rw [HN.out]; exact HH3, HB3, HQ3⟩
      case measure => simp [intOf]; omega
    · obtain rfl : k = n1 := by omega
      have hd : decide ((k : Int) < (k : Int)) = false := by simp
      have HF : Hid ((ps.take k).flatten = ps.flatten) := hide (by rw [List.take_of_length_le (Nat.le_of_eq HP.out)])
      rw [HF.out] at HH
      have HC : Hid (Calls Try.prog 35 #[.pointer (some ⟨g, 0, none⟩)] wr fun e w' => e = .returned (.agg IN) ∧ Below wr.heap.size wr w') := hide (by rw [hINv.out]; exact hashsum_any g _ wr HH.out (by have := hb1.out; rw [List.length_append, h54.out]; omega))
      go_wp2_with (first
        | (go_at_call 35; (with_reducible refine HC.out.mono ?_); rintro e w5 ⟨rfl, hb5⟩; have HB5 := hide (below_next HB.out hb5); have HQ5 := hide (HQ.out.below hb5 HQ.out.lt); clear hb5)
        | ((with_reducible show wpList _ _ _ (⟨_, .alloc 44, _, _, _, _⟩ :: _) _ _); refine wpList_alloc_is rfl 44 rfl Z hZ.out ?_; have K6 := hide (Blk.new w5 44 Z); have HB6 := hide (HB5.out.alloc HB5.out.size (.cells Z 44)); have HQ6 := hide (HQ5.out.alloc (.cells Z 44)))
        | ((with_reducible show wpList _ _ _ (⟨_, .store _ _ _, _, _, _, _⟩ :: _) _ _); refine wpList_store_row rfl 44 _ _ rfl w5.heap.size rfl IN rfl 44 _ K6.out hIN.out.info (hZs.out.trans hIN.out.size.symm) hIN.out.one ?_))
      have hlt5 := HQ5.out.lt
      have S1 := hide (K6.out.setRow_ IN)
      have S2 := hide (below_setRow HB6.out HB5.out.size IN)
      have S3 := hide (HQ6.out.setRow_far (k := w5.heap.size) IN (by omega))
      generalize (w5.alloc (.cells Z 44)).setRow w5.heap.size IN = w6 at *
      clear HC HB HQ HH HB5 HQ5 K6 HB6 HQ6
      apply wp_region_stage (hv := [1, 3, 4, 5]) (I := IdsI w w5.heap.size IN) (C := fun W => True) (ss := [_, _, _, _, _, _]) (by kernel_rfl) (by kernel_rfl) (by kernel_rfl) (by kernel_rfl) ⟨S2.out.drew, S1.out.drew, Z, S3.out.drew, hZs.out⟩ trivial
      repeat (first
         | (apply stWalk_light
            · rfl
            · (intro W hI
               go_simp
               with_reducible exact rfl)
            (try simp only [Act.put, List.setIfInBounds_toArray, List.set_cons_zero, List.set_cons_succ])))
      refine stWalk_turn (fun v => ∃ gp, v = .slice (some ⟨gp, 0, none⟩) 64 64) (fun v W => ∃ gp, v = .slice (some ⟨gp, 0, none⟩) 64 64 ∧ Blk W gp 5 (B92.map c8).toArray) (by rfl) ⟨_, 0, rfl⟩ (by go_simp) ?_ ?_
      · intro W hI hC
        go_simp
        refine (HPAD92.out W hI.1).mono ?_
        rintro e w3 ⟨gp, rfl, hgp, hk, hb3⟩
        exact ⟨_, rfl, ⟨gp, rfl⟩, hI.below hb3, gp, rfl, hk⟩
      rintro v ⟨gp, rfl⟩
      (try simp only [Act.put, List.setIfInBounds_toArray, List.set_cons_zero, List.set_cons_succ])
      repeat (first
         | (apply stWalk_light
            · rfl
            · (intro W hI
               go_simp
               with_reducible exact rfl)
            (try simp only [Act.put, List.setIfInBounds_toArray, List.set_cons_zero, List.set_cons_succ])))
      refine stWalk_turn (fun v => ∃ p, v = .slice (some ⟨p, 0, none⟩) 2 2) (fun v W => Calls Try.prog 39 #[v] W fun e w' => e = .returned (.agg OUT) ∧ IdsI w w5.heap.size IN w') (by rfl) ⟨_, 0, rfl⟩ (by go_simp) ?_ ?_
      · intro W hI hC
        obtain ⟨gp', e, hk⟩ := hC
        cases e
        have r1 := hk.row8
        have i2 := hI.2.1
        rw [hINv.out] at i2
        have r2 := i2.row8
        rw [h92.out] at r1
        rw [shaOf_len] at r2
        have hsum := sum2_any r1 (Nat.le_refl _) r2 (Nat.le_refl _) (by omega) 2
        rw [← hOUTv.out] at hsum
        have hI2 := hI.below (((Below.refl W.heap.size W).alloc (Nat.le_refl _)) (.cells #[.slice (some ⟨gp, 0, none⟩) 64 64, .slice (some ⟨w5.heap.size, 0, none⟩) 32 32] 29))
        have hsum2 := hsum.mono (fun e w' h => show e = .returned (.agg OUT) ∧ IdsI w w5.heap.size IN w' from ⟨h.1, hI.below h.2⟩)
        replace hsum2 := hide hsum2
        replace hI2 := hide hI2
        clear r1 r2 hk hsum i2
        go_simp
        exact ⟨hI2.out, hsum2.out⟩
      rintro v ⟨p, rfl⟩
      (try simp only [Act.put, List.setIfInBounds_toArray, List.set_cons_zero, List.set_cons_succ])
      apply stWalk_turnc (fun W => True)
      · rfl
      · go_simp
      · intro W hI hC
        go_simp
        refine hC.mono ?_
        rintro e w3 ⟨rfl, hI3⟩
        exact ⟨_, rfl, rfl, hI3⟩
      (try simp only [Act.put, List.setIfInBounds_toArray, List.set_cons_zero, List.set_cons_succ])
      apply stWalk_turnc (fun W => Blk W w.heap.size 44 OUT)
      · rfl
      · go_simp
      · intro W hI hC
        obtain ⟨i1, i2, Z', i3, i4⟩ := hI
        refine gives_store_row 44 _ _ rfl w.heap.size rfl OUT rfl 44 Z' i3 hOUT.out.info (i4.trans hOUT.out.size.symm) hOUT.out.one ?_
        exact ⟨rfl, ⟨below_setRow i1 (Nat.le_refl _) _, i2.setRow_far (k := w.heap.size) OUT (by omega), OUT, i3.setRow_ OUT, hOUT.out.size⟩, i3.setRow_ OUT⟩
      (try simp only [Act.put, List.setIfInBounds_toArray, List.set_cons_zero, List.set_cons_succ])
      refine stWalk_nil ?_
      intro W2 hI hC
      have S5 : Hid (Below w.heap.size w W2) := hide hI.1
      have S6 : Hid (Blk W2 w.heap.size 44 OUT) := hide hC
      clear hI hC
      go_wp2_with fail
      refine bodyPost_ret (v := .agg OUT) ?_ rfl ⟨by rw [hOUT.out.val], S5.out⟩
      exact results_cell_row rfl _ _ w.heap.size 44 OUT (0, 0) _ rfl S6.out Try.underlying44 rfl hOUT.out.info
end Go.Proofs.Ytdikknfdgpdenaa
