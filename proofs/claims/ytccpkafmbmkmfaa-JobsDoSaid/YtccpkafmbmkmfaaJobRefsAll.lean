/- The document's answers on payloads and jobs: whether they may be, whether they are few. No condition. The document's ID and Keys; Same of payloads and of jobs, both ways. No condition but sizes. -/
import Derived.Test.YtccpkafmbmkmfaaJobFns2
import Derived.Test.YtccpkafmbmkmfaaShaRefSum
namespace Go.Proofs.Ytccpkafmbmkmfaa
open Go.RowKit Go.Shelf
set_option linter.unusedVariables false
set_option linter.unusedSimpArgs false

set_option maxRecDepth 100000 in
set_option maxHeartbeats 1600000 in
theorem refright13_any (v : Value) (K : List TierK) (w : World) (S : Nat → Prop) (h : PayAt w S v K) (hmax : K.length ≤ 9223372036854775807) :
    Calls Try.prog 81 #[.agg #[v]] w fun e w' => e = .returned (.bool (rightP (plainT K))) ∧ Below w.heap.size w w' := by
  have HP := hide h
  obtain ⟨A, c, rfl, hc, _, _⟩ := h
  obtain ⟨n, hn⟩ : ∃ n, n = K.length := ⟨_, rfl⟩
  have HN := hide hn
  have HNp : Hid (n = (plainT K).length) := hide (by rw [hn]; simp [plainT])
  rw [← hn] at hc HP hmax ⊢
  clear hn
  obtain ⟨rp, hrp⟩ : ∃ rp, rp = rightP (plainT K) := ⟨_, rfl⟩
  have HRp : Hid (rp = (stepR none (plainT K) && (decide (1 ≤ n) && decide (n ≤ 8)))) := hide (by rw [hrp, HNp.out]; unfold rightP; rw [Bool.and_comm])
  rw [← hrp]
  clear hrp
  go_enter Try.func81, Try.ntmps81
  go_wp2
  go_loopw [3] (fun i wr => ∃ (k : Nat), k ≤ n ∧ i = .int .i64 (k : Int) ∧ Hid (Below w.heap.size w wr) ∧ Hid (Blk wr w.heap.size 73 #[.slice A n c]) ∧ Hid (stepR none (plainT K) = stepR (prevF (plainT K) k) ((plainT K).drop k))) (fun i _ => n - (intOf i).toNat)
  case atStart => exact ⟨0, Nat.zero_le _, rfl, hide ((Below.refl _ _).alloc (Nat.le_refl _) _), hide (Blk.new w _ _), hide rfl⟩
  case round =>
    obtain ⟨wz, rfl⟩ : ∃ wz : World, wz = wr := ⟨_, rfl⟩
    obtain ⟨k, hk, rfl, HB, HX, HS⟩ := hrel
    have x1 : wz.cell? ⟨w.heap.size, 0, none⟩ = some (.slice A n c) := (HX.out.cell 0).trans rfl
    by_cases hlt : k < n
    · have hd1 : decide ((k : Int) < (n : Int)) = true := by simpa using hlt
      have hkK : k < K.length := by rw [← HN.out]; exact hlt
      obtain ⟨ga, oa, rfl, hga, c1, c2⟩ := HP.out.at_ (k := k) hkK
      have hst := HS.out.trans (stepR_at (plainT K) k (by rw [← HNp.out]; exact hlt))
      have HC0 : Hid (∀ j, j < K.length → ∀ (h : j < K.length), w.cell? ⟨ga, oa + j * 2, none⟩ = some (c32 K[j].1)) := hide fun j hj h => by
        obtain ⟨g', o', e, _, h1, _⟩ := HP.out.at_ (k := j) hj
        cases e
        exact h1
      replace c1 := (HB.out.cell (p := ⟨ga, oa + k * 2, none⟩) hga).trans c1
      replace c2 := (HB.out.cell (p := ⟨ga, oa + k * 2 + 1, none⟩) hga).trans c2
      have HTx := HP.out.tx (List.getElem_mem hkK)
      have hpl : (plainT K)[k]'(by rw [← HNp.out]; exact hlt) = (K[k].1, K[k].2.2) := by simp [plainT]
      rw [hpl] at hst
      have hk0 : (0 : Int) ≤ (k : Int) := by omega
      have hprev : prevF (plainT K) k = if h : k = 0 then none else some (K[k - 1]'(by omega)).1 := by
        unfold prevF
        split
        · rfl
        · simp [plainT, show k - 1 < K.length by omega]
      generalize hp : (K[k]'hkK) = p at *
      obtain ⟨fee, u, bs⟩ := p
      obtain ⟨A2, c2', e2, _, _⟩ := HTx
      dsimp only at e2 c1 c2 hst
      subst e2
      clear hpl hp
      have HX1 : Hid (∀ q, Below wz.heap.size wz (wz.drewN q)) := hide fun q => below_drewN (Below.refl _ _) q
      have HX0 := hide (show Below wz.heap.size wz wz from Below.refl _ _)
      by_cases ha : bs.length < 1
      · have e1 : decide ((bs.length : Int) < 1) = true := by simp; omega
        rw [decide_eq_false (show ¬ 1 ≤ bs.length by omega)] at hst
        have HF := hide hst
        clear hst hprev HS
        go_upto_region 5 with (fail)
        go_quiet (fail)
        go_wp2
        go_ret
        exact ⟨by rw [HRp.out, HF.out]; rfl, below_next HB.out (HX1.out _)⟩
      have e1 : decide ((bs.length : Int) < 1) = false := by simp; omega
      rw [decide_eq_true (show 1 ≤ bs.length by omega)] at hst
      by_cases hb : 64 < bs.length
      · have e2 : decide ((64 : Int) < (bs.length : Int)) = true := by simp; omega
        rw [decide_eq_false (show ¬ bs.length ≤ 64 by omega)] at hst
        have HF := hide hst
        clear hst hprev HS
        go_upto_region 5 with (fail)
        go_quiet (fail)
        go_wp2
        go_ret
        exact ⟨by rw [HRp.out, HF.out]; rfl, below_next HB.out (HX1.out _)⟩
      have e2 : decide ((64 : Int) < (bs.length : Int)) = false := by simp; omega
      rw [decide_eq_true (show bs.length ≤ 64 by omega)] at hst
      have HXn : Hid (∀ q, Blk (wz.drewN q) w.heap.size 73 #[.slice (some ⟨ga, oa, none⟩) n c]) := hide fun q => HX.out.below (HX1.out q) HX.out.lt
      have HBn : Hid (∀ q, Below w.heap.size w (wz.drewN q)) := hide fun q => below_next HB.out (HX1.out q)
      by_cases hk1 : k = 0
      · have e3 : decide (0 < k) = false := by simp; omega
        rw [hprev, dif_pos hk1] at hst
        have HF := hide hst
        clear hst hprev HS hk1
        go_upto_region 5 with (fail)
        go_quiet (fail)
        go_wp2
        go_roundw
        case rel => exact ⟨k + 1, by omega, by go_num, hide (HBn.out _), hide (HXn.out _), hide (by rw [HF.out]; rfl)⟩
        case measure => simp [intOf]; omega
      have e3 : decide (0 < k) = true := by simp; omega
      have c0 := ((below_next HB.out HX0.out).cell (p := ⟨ga, oa + (k - 1) * 2, none⟩) hga).trans (HC0.out (k - 1) (by omega) (by omega))
      rw [hprev, dif_neg hk1] at hst
      generalize (K[k - 1]'(by omega)).1 = q at *
      obtain ⟨k', rfl⟩ : ∃ k', k = k' + 1 := ⟨k - 1, by omega⟩
      rw [show k' + 1 - 1 = k' by omega] at c0
      have e5 : ((k' + 1 : Nat) : Int) - 1 = (k' : Int) := by omega
      have z1 : (0 : Int) ≤ (k' : Int) := by omega
      have z2 : (k' : Int) < (n : Int) := by omega
      have z3 : k' < n := by omega
      have e6 : IntKind.i64.wrap (k' : Int) = (k' : Int) := IntWalk.i64_in _ (by omega)
      by_cases hq : q.toNat < fee.toNat
      · have e4 : decide (fee.toNat ≤ q.toNat) = false := by simp; omega
        dsimp only at hst
        rw [decide_eq_true hq] at hst
        have HF := hide hst
        clear hst hprev HS
        go_upto_region 5 with (fail)
        go_quiet (fail)
        go_wp2
        go_roundw
        case rel => exact ⟨k' + 1 + 1, by omega, by go_num, hide (HBn.out _), hide (HXn.out _), hide (by rw [HF.out]; rfl)⟩
        case measure => simp [intOf]; omega
      · have e4 : decide (fee.toNat ≤ q.toNat) = true := by simp; omega
        dsimp only at hst
        rw [decide_eq_false hq] at hst
        have HF := hide hst
        clear hst hprev HS
        go_upto_region 5 with (fail)
        go_quiet (fail)
        go_wp2
        go_ret
        exact ⟨by rw [HRp.out, HF.out]; rfl, HBn.out _⟩
    · obtain rfl : k = n := by omega
      have hd1 : decide ((k : Int) < (k : Int)) = false := by simp
      have HF : Hid (stepR none (plainT K) = true) := hide (by rw [HS.out, HNp.out]; simp [stepR])
      by_cases h1 : k < 1
      · have d1 : decide ((1 : Int) ≤ (k : Int)) = false := by simp; omega
        have d2 : decide (1 ≤ k) = false := by simp; omega
        have HG : Hid (rp = false) := hide (by rw [HRp.out, d2]; simp)
        clear HF
        go_wp2
        go_ret
        exact ⟨by rw [HG.out]; rfl, HB.out⟩
      have d1 : decide ((1 : Int) ≤ (k : Int)) = true := by simp; omega
      have d2 : decide (1 ≤ k) = true := by simp; omega
      by_cases h2 : 8 < k
      · have d3 : decide ((k : Int) ≤ 8) = false := by simp; omega
        have d4 : decide (k ≤ 8) = false := by simp; omega
        have HG : Hid (rp = false) := hide (by rw [HRp.out, d4]; simp)
        clear HF
        go_wp2
        go_ret
        exact ⟨by rw [HG.out]; rfl, HB.out⟩
      have d3 : decide ((k : Int) ≤ 8) = true := by simp; omega
      have d4 : decide (k ≤ 8) = true := by simp; omega
      have HG : Hid (rp = true) := hide (by rw [HRp.out, HF.out, d2, d4]; rfl)
      clear HF
      go_wp2
      go_ret
      exact ⟨by rw [HG.out]; rfl, HB.out⟩
set_option maxRecDepth 100000 in
set_option maxHeartbeats 1600000 in
theorem refjright_any (j : JobM) (v : Value) (R : Array Value) (hR : JobVal j v R) (K : List TierK) (w : World) (S : Nat → Prop) (h : PayAt w S v K) (hmax : K.length ≤ 9223372036854775807) :
    Calls Try.prog 42 #[.agg R] w fun e w' => e = .returned (.bool (rightJ j (plainT K))) ∧ Below w.heap.size w w' := by
  obtain ⟨W0, hW0⟩ : ∃ W0, w.alloc (.cells R 75) = W0 := ⟨_, rfl⟩
  have hq0 : Blk W0 w.heap.size 75 R := by rw [← hW0]; exact Blk.new w _ R
  have hb0 : Below w.heap.size w W0 := by rw [← hW0]; exact (Below.refl _ _).alloc (Nat.le_refl _) _
  have HC := hide (refright13_any v K W0 S (h.below hb0) hmax)
  have HP := hide h
  obtain ⟨A, c, rfl, hc, _, _⟩ := h
  have hpl : (plainT K).length = K.length := by simp [plainT]
  have hrj : Hid (rightJ j (plainT K) = (rightP (plainT K) && (!decide (j.height.toNat = 0) && (decide (-1 ≤ j.live) && (decide (j.live < (K.length : Int)) && (decide (j.mined.toNat = 0) || decide (j.live = -1))))))) := hide (by unfold rightJ; rw [hpl])
  have x37 : W0.cell? ⟨w.heap.size, 37, none⟩ = some (.slice A K.length c) := (hq0.cell 37).trans hR.pay
  have HQ := hide hq0
  have HB := hide hb0
  have HR := hide hR
  replace hW0 := hide hW0
  obtain ⟨rp, hrp⟩ : ∃ rp, rp = rightP (plainT K) := ⟨_, rfl⟩
  rw [← hrp] at HC hrj
  clear hq0 hb0 hR hrp hpl
  generalize (plainT K) = L at *
  obtain ⟨ans, hans⟩ : ∃ ans, ans = rightJ j L := ⟨_, rfl⟩
  rw [← hans] at hrj ⊢
  clear hans
  have HX : Hid (∀ W, Below W0.heap.size W0 W → W.cell? ⟨w.heap.size, 34, none⟩ = some (c32 j.height) ∧ W.cell? ⟨w.heap.size, 35, none⟩ = some (c32 j.mined) ∧ W.cell? ⟨w.heap.size, 36, none⟩ = some (ci j.live) ∧ W.cell? ⟨w.heap.size, 37, none⟩ = some (.slice A K.length c)) := hide fun W hW => by
    have hB := HQ.out.below hW HQ.out.lt
    exact ⟨(hB.cell 34).trans HR.out.height, (hB.cell 35).trans HR.out.mined, (hB.cell 36).trans HR.out.live, (hB.cell 37).trans HR.out.pay⟩
  clear HR
  by_cases h0 : rp = false
  · subst h0
    have HF : Hid (ans = false) := hide (by rw [hrj.out]; rfl)
    go_enter Try.func42, Try.ntmps42
    go_upto_region 1 with (fail)
    rw [hW0.out]
    go_wp2_with (first
      | (go_at_call 81; (with_reducible refine HC.out.mono ?_); rintro e w3 ⟨rfl, hb3⟩; obtain ⟨y34, y35, y36, y37⟩ := HX.out w3 hb3; have HB3 := hide (below_next HB.out hb3); clear hb3)
      | fail)
    go_ret
    exact ⟨by rw [HF.out]; rfl, HB3.out⟩
  obtain rfl : rp = true := by simpa using h0
  clear h0
  by_cases h1 : j.height.toNat = 0
  · have e1 : decide (0 < j.height.toNat) = false := by simp [h1]
    have e1' : decide ((0 : Int) < (j.height.toNat : Int)) = false := by simp [h1]
    have HF : Hid (ans = false) := hide (by rw [hrj.out, decide_eq_true h1]; rfl)
    clear h1
    go_enter Try.func42, Try.ntmps42
    go_upto_region 1 with (fail)
    rw [hW0.out]
    go_wp2_with (first
      | (go_at_call 81; (with_reducible refine HC.out.mono ?_); rintro e w3 ⟨rfl, hb3⟩; obtain ⟨y34, y35, y36, y37⟩ := HX.out w3 hb3; have HB3 := hide (below_next HB.out hb3); clear hb3)
      | fail)
    go_ret
    exact ⟨by rw [HF.out]; rfl, HB3.out⟩
  have e1 : decide (0 < j.height.toNat) = true := by simp; omega
  have e1' : decide ((0 : Int) < (j.height.toNat : Int)) = true := by simp; omega
  rw [decide_eq_false h1] at hrj
  clear h1
  by_cases h2 : ¬ -1 ≤ j.live
  · have e2 : decide (-1 ≤ j.live) = false := by simpa using h2
    have HF : Hid (ans = false) := hide (by rw [hrj.out, e2]; rfl)
    clear h2
    go_enter Try.func42, Try.ntmps42
    go_upto_region 1 with (fail)
    rw [hW0.out]
    go_wp2_with (first
      | (go_at_call 81; (with_reducible refine HC.out.mono ?_); rintro e w3 ⟨rfl, hb3⟩; obtain ⟨y34, y35, y36, y37⟩ := HX.out w3 hb3; have HB3 := hide (below_next HB.out hb3); clear hb3)
      | fail)
    go_ret
    exact ⟨by rw [HF.out]; rfl, HB3.out⟩
  replace h2 := Classical.not_not.1 h2
  have e2 : decide (-1 ≤ j.live) = true := by simpa using h2
  rw [e2] at hrj
  clear h2
  by_cases h3 : ¬ j.live < (K.length : Int)
  · have e3 : decide (j.live < (K.length : Int)) = false := by simpa using h3
    have HF : Hid (ans = false) := hide (by rw [hrj.out, e3]; rfl)
    clear h3
    go_enter Try.func42, Try.ntmps42
    go_upto_region 1 with (fail)
    rw [hW0.out]
    go_wp2_with (first
      | (go_at_call 81; (with_reducible refine HC.out.mono ?_); rintro e w3 ⟨rfl, hb3⟩; obtain ⟨y34, y35, y36, y37⟩ := HX.out w3 hb3; have HB3 := hide (below_next HB.out hb3); clear hb3)
      | fail)
    go_ret
    exact ⟨by rw [HF.out]; rfl, HB3.out⟩
  replace h3 := Classical.not_not.1 h3
  have e3 : decide (j.live < (K.length : Int)) = true := by simpa using h3
  rw [e3] at hrj
  clear h3
  by_cases h4 : j.mined.toNat = 0
  · have e4 : ((j.mined.toNat : Int) == 0) = true := by simp [h4]
    have HF : Hid (ans = true) := hide (by rw [hrj.out, decide_eq_true h4]; rfl)
    clear h4
    go_enter Try.func42, Try.ntmps42
    go_upto_region 1 with (fail)
    rw [hW0.out]
    go_wp2_with (first
      | (go_at_call 81; (with_reducible refine HC.out.mono ?_); rintro e w3 ⟨rfl, hb3⟩; obtain ⟨y34, y35, y36, y37⟩ := HX.out w3 hb3; have HB3 := hide (below_next HB.out hb3); clear hb3)
      | fail)
    go_ret
    exact ⟨by rw [HF.out]; rfl, HB3.out⟩
  have e4 : ((j.mined.toNat : Int) == 0) = false := by simp; omega
  rw [decide_eq_false h4] at hrj
  clear h4
  by_cases h5 : j.live = -1
  · have e5 : (j.live == -1) = true := by simpa using h5
    have HF : Hid (ans = true) := hide (by rw [hrj.out, decide_eq_true h5]; rfl)
    clear h5
    go_enter Try.func42, Try.ntmps42
    go_upto_region 1 with (fail)
    rw [hW0.out]
    go_wp2_with (first
      | (go_at_call 81; (with_reducible refine HC.out.mono ?_); rintro e w3 ⟨rfl, hb3⟩; obtain ⟨y34, y35, y36, y37⟩ := HX.out w3 hb3; have HB3 := hide (below_next HB.out hb3); clear hb3)
      | fail)
    go_ret
    exact ⟨by rw [HF.out]; rfl, HB3.out⟩
  have e5 : (j.live == -1) = false := by simpa using h5
  have HF : Hid (ans = false) := hide (by rw [hrj.out, decide_eq_false h5]; rfl)
  clear h5
  go_enter Try.func42, Try.ntmps42
  go_upto_region 1 with (fail)
  rw [hW0.out]
  go_wp2_with (first
    | (go_at_call 81; (with_reducible refine HC.out.mono ?_); rintro e w3 ⟨rfl, hb3⟩; obtain ⟨y34, y35, y36, y37⟩ := HX.out w3 hb3; have HB3 := hide (below_next HB.out hb3); clear hb3)
    | fail)
  go_ret
  exact ⟨by rw [HF.out]; rfl, HB3.out⟩
/-- is there not too much of tiers? -/
def fewP (L : List TierV) : Bool := L.all (fun p => decide (p.2.length ≤ 200)) && decide (L.length ≤ 20)
set_option maxRecDepth 100000 in
set_option maxHeartbeats 800000 in
theorem few13_any (v : Value) (K : List TierK) (w : World) (S : Nat → Prop) (h : PayAt w S v K) (hmax : K.length ≤ 9223372036854775807) :
    Calls Try.prog 41 #[.agg #[v]] w fun e w' => e = .returned (.bool (fewP (plainT K))) ∧ Below w.heap.size w w' := by
  have HP := hide h
  obtain ⟨A, c, rfl, hc, _, _⟩ := h
  obtain ⟨n, hn⟩ : ∃ n, n = K.length := ⟨_, rfl⟩
  have HN := hide hn
  have HNp : Hid (n = (plainT K).length) := hide (by rw [hn]; simp [plainT])
  rw [← hn] at hc HP hmax ⊢
  clear hn
  obtain ⟨rp, hrp⟩ : ∃ rp, rp = fewP (plainT K) := ⟨_, rfl⟩
  have HRp : Hid (rp = ((plainT K).all (fun p => decide (p.2.length ≤ 200)) && decide (n ≤ 20))) := hide (by rw [hrp, HNp.out]; rfl)
  rw [← hrp]
  clear hrp
  go_enter Try.func41, Try.ntmps41
  go_wp2
  go_loopw [3] (fun i wr => ∃ (k : Nat), k ≤ n ∧ i = .int .i64 (k : Int) ∧ Hid (Below w.heap.size w wr) ∧ Hid (Blk wr w.heap.size 73 #[.slice A n c]) ∧ Hid ((plainT K).all (fun p => decide (p.2.length ≤ 200)) = ((plainT K).drop k).all (fun p => decide (p.2.length ≤ 200)))) (fun i _ => n - (intOf i).toNat)
  case atStart => exact ⟨0, Nat.zero_le _, rfl, hide ((Below.refl _ _).alloc (Nat.le_refl _) _), hide (Blk.new w _ _), hide rfl⟩
  case round =>
    obtain ⟨wz, rfl⟩ : ∃ wz : World, wz = wr := ⟨_, rfl⟩
    obtain ⟨k, hk, rfl, HB, HX, HS⟩ := hrel
    have x1 : wz.cell? ⟨w.heap.size, 0, none⟩ = some (.slice A n c) := (HX.out.cell 0).trans rfl
    by_cases hlt : k < n
    · have hd1 : decide ((k : Int) < (n : Int)) = true := by simpa using hlt
      have hkK : k < K.length := by rw [← HN.out]; exact hlt
      obtain ⟨ga, oa, rfl, hga, c1, c2⟩ := HP.out.at_ (k := k) hkK
      replace c1 := (HB.out.cell (p := ⟨ga, oa + k * 2, none⟩) hga).trans c1
      replace c2 := (HB.out.cell (p := ⟨ga, oa + k * 2 + 1, none⟩) hga).trans c2
      have HTx := HP.out.tx (List.getElem_mem hkK)
      have HD : Hid (((plainT K).drop k).all (fun p => decide (p.2.length ≤ 200)) = (decide (K[k].2.2.length ≤ 200) && ((plainT K).drop (k + 1)).all (fun p => decide (p.2.length ≤ 200)))) := hide (by
        rw [List.drop_eq_getElem_cons (by rw [← HNp.out]; exact hlt), List.all_cons]
        simp [plainT])
      have hk0 : (0 : Int) ≤ (k : Int) := by omega
      generalize (K[k]'hkK) = p at *
      obtain ⟨fee, u, bs⟩ := p
      obtain ⟨A2, c2', e2, _, _⟩ := HTx
      dsimp only at e2 c1 c2 HD
      subst e2
      by_cases hb : bs.length ≤ 200
      · have e1 : decide ((200 : Int) < (bs.length : Int)) = false := by simp; omega
        rw [decide_eq_true hb] at HD
        have HS2 : Hid ((plainT K).all (fun p => decide (p.2.length ≤ 200)) = ((plainT K).drop (k + 1)).all (fun p => decide (p.2.length ≤ 200))) := hide (by rw [HS.out, HD.out]; rfl)
        clear HS HD
        go_wp2
        go_roundw
        case rel => exact ⟨k + 1, by omega, by go_num, HB, HX, HS2⟩
        case measure => simp [intOf]; omega
      · have e1 : decide ((200 : Int) < (bs.length : Int)) = true := by simp; omega
        rw [decide_eq_false hb] at HD
        have HG : Hid (rp = false) := hide (by rw [HRp.out, HS.out, HD.out]; rfl)
        clear HS HD
        go_wp2
        go_ret
        exact ⟨by rw [HG.out]; rfl, HB.out⟩
    · obtain rfl : k = n := by omega
      have hd1 : decide ((k : Int) < (k : Int)) = false := by simp
      have HF : Hid (rp = decide ((k : Int) ≤ 20)) := hide (by
        have e0 : (plainT K).drop k = [] := List.drop_eq_nil_of_le (by rw [← HNp.out]; exact Nat.le_refl _)
        rw [HRp.out, HS.out, e0, List.all_nil, Bool.true_and]
        exact decide_eq_decide.2 (by omega))
      clear HS
      go_wp2
      go_ret
      exact ⟨by rw [HF.out]; rfl, HB.out⟩
end Go.Proofs.Ytccpkafmbmkmfaa
namespace Go.Proofs.Ytccpkafmbmkmfaa
open Go.RowKit Go.Shelf
set_option linter.unusedVariables false
set_option linter.unusedSimpArgs false
attribute [local go_sem] Gives givesUpon
attribute [local irreducible] Gives

set_option maxRecDepth 100000 in
theorem refid_any (v : Value) (bs : List (BitVec 8)) (w : World) (S : Nat → Prop) (h : TxAt w S v bs) (hb : bs.length ≤ 4294967296) :
    Calls Try.prog 49 #[v] w fun e w' => e = .returned (.agg ((shaOf bs).map c8).toArray) ∧ Below w.heap.size w w' := by
  obtain ⟨Z, hZ, hZr⟩ := zero_id
  obtain ⟨A, c, rfl, hr, hc⟩ := h
  have HZ32 : Hid (Z.size = 32) := hide (by rw [hZr]; rfl)
  replace hZ := hide hZ
  obtain ⟨W0, hW0⟩ : ∃ W0, w.alloc (.cells Z 70) = W0 := ⟨_, rfl⟩
  have HQ := hide (show Blk W0 w.heap.size 70 Z by rw [← hW0]; exact Blk.new w _ Z)
  have HB0 := hide (show Below w.heap.size w W0 by rw [← hW0]; exact (Below.refl _ _).alloc (Nat.le_refl _) _)
  have HS := hide (refsum_any A bs.length c bs W0 (hr.keep HB0.out.size fun i hi _ => HB0.out.block i hi).reads (by omega))
  obtain ⟨WL, hWL⟩ : ∃ WL, WL = ((shaOf bs).map c8).toArray := ⟨_, rfl⟩
  have hWLl : WL.size = 32 := by rw [hWL, List.size_toArray, List.length_map, shaOf_len]
  have HI : Hid ((Try.prog.info? 70).map (·.size) = some WL.size) := hide (by rw [hWLl]; exact info_id)
  have HWO : Hid (WL.all (·.oneCell') = true) := hide (by rw [hWL]; exact oneCell_bytes _)
  have HZs : Hid (Z.size = WL.size) := hide (by rw [HZ32.out, hWLl])
  rw [← hWL] at HS
  replace hWL := hide hWL
  replace hW0 := hide hW0
  clear hZr hWLl hr
  go_enter Try.func49, Try.ntmps49
  go_wp2_with (first
    | (refine wpList_alloc_is rfl 70 rfl Z hZ.out ?_; rw [hW0.out])
    | (go_at_call 90; (with_reducible refine HS.out.mono ?_); rintro e w3 ⟨rfl, hb3⟩; have HB3 := hide (below_next HB0.out hb3); have HQ3 := hide (HQ.out.below hb3 HQ.out.lt); clear hb3)
    | ((with_reducible show wpList _ _ _ (⟨_, .store _ _ _, _, _, _, _⟩ :: _) _ _); refine wpList_store_row rfl 70 _ _ rfl w.heap.size rfl WL rfl 70 _ HQ3.out HI.out HZs.out HWO.out ?_))
  refine bodyPost_ret (v := .agg WL) ?_ rfl ⟨by rw [hWL.out], ?_⟩
  · exact results_cell_row rfl _ _ w.heap.size 70 WL (0, 0) _ rfl (setRow_heap _ _ _ _ _ _ HQ3.out) Try.underlying70 rfl HI.out
  · exact below_setRow HB3.out (Nat.le_refl _) _
def lit32 (b : BitVec 32) : Lit := .int .u32 (b.toNat : Int)
theorem lit32_inj {a b : BitVec 32} (h : lit32 a = lit32 b) : a = b := by
  unfold lit32 at h
  injection h with _ h
  exact BitVec.eq_of_toNat_eq (by omega)
theorem cells_key : Try.prog.cellsOf 68 = 2 := by kernel_rfl
theorem cells_u32 : Try.prog.cellsOf 22 = 1 := by kernel_rfl
theorem keyLits_key (k : KeyT) : Try.prog.keyLits 2 68 [c32 k.1, c32 k.2] = some [lit32 k.1, lit32 k.2] := by
  have w1 : (Lit.int .u32 (k.1.toNat : Int)).wf = true := WalkArith.wf_u32 (by have := k.1.isLt; omega)
  have w2 : (Lit.int .u32 (k.2.toNat : Int)).wf = true := WalkArith.wf_u32 (by have := k.2.isLt; omega)
  unfold Program.keyLits
  simp only [Try.underlying68]
  rw [if_pos ⟨by rw [cells_key]; rfl, by kernel_rfl⟩]
  simp [cells_u32, Program.keyLits, Try.underlying22, w1, w2, lit32, c32]
set_option maxRecDepth 100000 in
theorem eq_key (a b : KeyT) (w : World) : (Op.equalIn 10000 68 (.agg #[c32 a.1, c32 a.2]) (.agg #[c32 b.1, c32 b.2])).run Try.prog w = .ok (decide (a = b)) w := by
  have hf : ∀ k : KeyT, (Value.agg #[c32 k.1, c32 k.2]).formed Try.prog 68 = true := fun k => by
    rw [Value.formed, Try.underlying68]
    simp [cells_key]
  obtain ⟨r, hr, hi⟩ := run_equalIn_deep (P := Try.prog) 9998 2 68 (by kernel_rfl) w 2 2 _ _ _ _ (hf a) (hf b) (keyLits_key a) (keyLits_key b)
  rw [hr]
  congr 1
  rw [Bool.eq_iff_iff, hi, decide_eq_true_eq]
  constructor
  · intro h
    injection h with h1 h
    injection h with h2 _
    exact Prod.ext (lit32_inj h1) (lit32_inj h2)
  · intro h; rw [h]
/-- the k-th key of a slice -/
theorem keysR_at {w : World} {S : Nat → Prop} {A : Option Addr} {n k : Nat} {L : List KeyT} (h : ReadsS w S 2 A n (keyC L)) (hn : n = L.length) (hk : k < L.length) :
    ∃ g o, A = some ⟨g, o, none⟩ ∧ g < w.heap.size ∧ w.cell? ⟨g, o + k * 2, none⟩ = some (c32 L[k].1) ∧ w.cell? ⟨g, o + k * 2 + 1, none⟩ = some (c32 L[k].2) := by
  obtain ⟨g, o, rfl, _, hg, hc⟩ := h.2 (by omega)
  obtain ⟨g1, g2⟩ := keyC_get L k hk
  exact ⟨g, o, rfl, hg, hc _ _ g1, by have := hc _ _ g2; rwa [← Nat.add_assoc] at this⟩
theorem take_snoc {α : Type} (L : List α) (k : Nat) (h : k < L.length) : L.take (k + 1) = L.take k ++ [L[k]] := List.take_succ_eq_append_getElem h
set_option maxRecDepth 100000 in
set_option maxHeartbeats 1600000 in
theorem keys25_any (A1 : Option Addr) (n1 c1 : Nat) (L1 : List KeyT) (A2 : Option Addr) (n2 c2 : Nat) (L2 : List KeyT) (w : World) (S1 S2 : Nat → Prop) (h1 : ReadsS w S1 2 A1 n1 (keyC L1)) (h2 : ReadsS w S2 2 A2 n2 (keyC L2)) (hn1 : n1 = L1.length) (hn2 : n2 = L2.length) (hb : n1 ≤ 1099511627776) :
    Calls Try.prog 52 #[.slice A1 n1 c1, .slice A2 n2 c2] w fun e w' => e = .returned (.bool (decide (L1 = L2))) ∧ Below w.heap.size w w' := by
  by_cases hnn : n1 = n2
  · subst hnn
    have e0 : ((n1 : Int) != (n1 : Int)) = false := by simp
    have HN1 := hide hn1
    have HN2 := hide hn2
    have H1 := hide h1
    have H2 := hide h2
    clear hn1 hn2 h1 h2
    go_enter Try.func52, Try.ntmps52
    go_wp2
    clear e0
    go_loopw [5] (fun i wr => ∃ (k : Nat), k ≤ n1 ∧ i = .int .i64 (k : Int) ∧ Hid (Below w.heap.size w wr) ∧ Hid (L1.take k = L2.take k)) (fun i _ => n1 - (intOf i).toNat)
    case atStart => exact ⟨0, Nat.zero_le _, rfl, hide (Below.refl _ _), hide rfl⟩
    case round =>
      obtain ⟨wz, rfl⟩ : ∃ wz : World, wz = wr := ⟨_, rfl⟩
      obtain ⟨k, hk, rfl, HB, HX⟩ := hrel
      by_cases hlt : k < n1
      · have hd1 : decide ((k : Int) < (n1 : Int)) = true := by simpa using hlt
        have hk1 : k < L1.length := by rw [← HN1.out]; exact hlt
        have hk2 : k < L2.length := by rw [← HN2.out]; exact hlt
        obtain ⟨g1, o1, rfl, hg1, x1, x2⟩ := keysR_at H1.out HN1.out hk1
        obtain ⟨g2, o2, rfl, hg2, y1, y2⟩ := keysR_at H2.out HN2.out hk2
        have FX : Hid (∀ W, Below wz.heap.size wz W → W.cell? ⟨g1, o1 + k * 2, none⟩ = some (c32 L1[k].1) ∧ W.cell? ⟨g1, o1 + k * 2 + 1, none⟩ = some (c32 L1[k].2) ∧ W.cell? ⟨g2, o2 + k * 2, none⟩ = some (c32 L2[k].1) ∧ W.cell? ⟨g2, o2 + k * 2 + 1, none⟩ = some (c32 L2[k].2)) := hide fun W hW =>
          have b := below_next HB.out hW
          ⟨(b.cell (p := ⟨g1, o1 + k * 2, none⟩) hg1).trans x1, (b.cell (p := ⟨g1, o1 + k * 2 + 1, none⟩) hg1).trans x2, (b.cell (p := ⟨g2, o2 + k * 2, none⟩) hg2).trans y1, (b.cell (p := ⟨g2, o2 + k * 2 + 1, none⟩) hg2).trans y2⟩
        have t1 := take_snoc L1 k hk1
        have t2 := take_snoc L2 k hk2
        have heq := fun W => eq_key L1[k] L2[k] W
        have HT1 := hide t1
        have HT2 := hide t2
        have hk0 : (0 : Int) ≤ (k : Int) := by omega
        have hdiff : L1[k] ≠ L2[k] → L1 ≠ L2 := fun hne e => hne (by subst e; rfl)
        generalize hp : (L1[k]'hk1) = p at *
        generalize hq : (L2[k]'hk2) = q at *
        clear x1 x2 y1 y2 hg1 hg2 t1 t2 hp hq
        by_cases he : p = q
        · subst he
          rw [decide_eq_true rfl] at heq
          have HNx : Hid (L1.take (k + 1) = L2.take (k + 1)) := hide (by rw [HT1.out, HT2.out, HX.out])
          clear hdiff
          go_wp2
          apply wp_region_rel (C := fun W' => Below wz.heap.size wz W') (M := fun W W' => Below W.heap.size W W') (ss := [_, _, _, _, _, _, _, _, _]) (by kernel_rfl) (by kernel_rfl) (by kernel_rfl) (Below.refl _ _).drew
          iterate 9 (first
            | (apply relWalk_const (fun W => Below.refl _ _)
               · (intro W9 hC hF
                  clear hF
                  obtain ⟨q1, q2, q3, q4⟩ := FX.out W9 hC
                  clear hC
                  go_simp
                  with_reducible exact rfl)
               (try simp only [Act.put, List.setIfInBounds_toArray, List.set_cons_zero, List.set_cons_succ])))
          refine relWalk_nil fun W2 hC hF => ?_
          clear hF
          go_wp2
          go_roundw
          case rel => exact ⟨k + 1, by omega, by go_num, hide (below_next HB.out hC), HNx⟩
          case measure => simp [intOf]; omega
        · rw [decide_eq_false he] at heq
          have HNe : Hid (decide (L1 = L2) = false) := hide (decide_eq_false (hdiff he))
          clear hdiff he
          go_wp2
          apply wp_region_rel (C := fun W' => Below wz.heap.size wz W') (M := fun W W' => Below W.heap.size W W') (ss := [_, _, _, _, _, _, _, _, _]) (by kernel_rfl) (by kernel_rfl) (by kernel_rfl) (Below.refl _ _).drew
          iterate 9 (first
            | (apply relWalk_const (fun W => Below.refl _ _)
               · (intro W9 hC hF
                  clear hF
                  obtain ⟨q1, q2, q3, q4⟩ := FX.out W9 hC
                  clear hC
                  go_simp
                  with_reducible exact rfl)
               (try simp only [Act.put, List.setIfInBounds_toArray, List.set_cons_zero, List.set_cons_succ])))
          refine relWalk_nil fun W2 hC hF => ?_
          clear hF
          go_wp2
          go_ret
          exact ⟨by rw [HNe.out]; rfl, below_next HB.out hC⟩
      · obtain rfl : k = n1 := by omega
        have hd1 : decide ((k : Int) < (k : Int)) = false := by simp
        have HNx : Hid (decide (L1 = L2) = true) := hide (decide_eq_true (by have := HX.out; rw [List.take_of_length_le (by rw [HN1.out]; exact Nat.le_refl _), List.take_of_length_le (by rw [HN2.out]; exact Nat.le_refl _)] at this; exact this))
        go_wp2
        go_ret
        exact ⟨by rw [HNx.out]; rfl, HB.out⟩
  · have e0 : ((n1 : Int) != (n2 : Int)) = true := by simp; omega
    have HNe : Hid (decide (L1 = L2) = false) := hide (decide_eq_false fun e => hnn (by rw [hn1, hn2, e]))
    clear h1 h2 hn1 hn2 hnn
    go_enter Try.func52, Try.ntmps52
    go_wp2
    go_ret
    exact ⟨by rw [HNe.out]; rfl, Below.refl _ _⟩
theorem strJ_inj {a b : List (BitVec 8)} (h : strOf a = strOf b) : a = b := by
  have h2 := congrArg (fun s => s.data.toList) h
  simp only [strOf_toList] at h2
  exact (List.map_inj_right (fun _ _ h => by simpa using congrArg UInt8.toBitVec h)).1 h2
theorem strJ_eq (a b : List (BitVec 8)) : ((strOf a).toList == (strOf b).toList) = decide (a = b) := by
  rw [Bool.eq_iff_iff, beq_iff_eq, decide_eq_true_eq]
  constructor
  · intro h
    rw [ByteArray.toList_eq, ByteArray.toList_eq] at h
    exact strJ_inj (Go.WideShapes.bytes_inj h)
  · intro h; rw [h]
theorem wpList_load_want {P : Program} {ops : Array Oper} {rest : List Oper} {o : Oper} {a : Act} {w : World} {Q : Exit → Act → World → Prop} (hw : Region.wanted o (yielded ops a.tmps) = true) (ty : TypeId) (x : Operand) (ho : o.op = .load ty x)
    (ad : Addr) (hx : a.eval x = .pointer (some ad)) (cs : List Value) (d : TypeDesc) (hu : P.underlying ty = some d) (hd : (match d with | .struct _ | .array _ _ => true | _ => false) = true)
    (hi : (P.info? ty).map (·.size) = some cs.length) (h : ∀ j v, cs[j]? = some v → w.cell? (ad.add j) = some v) (hK : wpList P ops Q rest (a.put o.dst (.agg cs.toArray)) w) : wpList P ops Q (o :: rest) a w :=
  BigFrame.wpList_want hw fun _ hk => wp_load_at ty x ho ad hx cs d hu hd hi h (hk _ _ hK)

set_option maxRecDepth 100000 in
set_option maxHeartbeats 1600000 in
theorem refsame13_any (v1 : Value) (K1 : List TierK) (v2 : Value) (K2 : List TierK) (w : World) (S1 S2 : Nat → Prop) (h1 : PayAt w S1 v1 K1) (h2 : PayAt w S2 v2 K2) (hmax : K1.length ≤ 9223372036854775807) :
    Calls Try.prog 89 #[.agg #[v1], .agg #[v2]] w fun e w' => e = .returned (.bool (decide (plainT K1 = plainT K2))) ∧ Below w.heap.size w w' := by
  have HP1 := hide h1
  have HP2 := hide h2
  obtain ⟨A1, c1, rfl, hc1, _, _⟩ := h1
  obtain ⟨A2, c2, rfl, hc2, _, _⟩ := h2
  have hp1 : (plainT K1).length = K1.length := by simp [plainT]
  have hp2 : (plainT K2).length = K2.length := by simp [plainT]
  obtain ⟨W0, hW0, sz, b1, b2, hB0⟩ := blks2 w 73 73 #[.slice A1 K1.length c1] #[.slice A2 K2.length c2]
  replace hW0 := hide hW0
  have HB0 := hide hB0
  by_cases hnn : K1.length = K2.length
  · have HN2 := hide hnn
    obtain ⟨n, hn⟩ : ∃ n, n = K1.length := ⟨_, rfl⟩
    have HN1 := hide hn
    have HNp1 : Hid (n = (plainT K1).length) := hide (by rw [hp1, hn])
    have HNp2 : Hid (n = (plainT K2).length) := hide (by rw [hp2, hn, hnn])
    rw [← hnn, ← hn] at b2 hW0 hc2 HP2
    rw [← hn] at hc1 b1 HP1 hmax
    rw [← hn, show K2.length = n by rw [hn, hnn]]
    have e0 : ((n : Int) != (n : Int)) = false := by simp
    have HQ1 := hide b1
    have HQ2 := hide b2
    have z1 : W0.cell? ⟨w.heap.size, 0, none⟩ = some (.slice A1 n c1) := (b1.cell 0).trans rfl
    have z2 : W0.cell? ⟨w.heap.size + 1, 0, none⟩ = some (.slice A2 n c2) := (b2.cell 0).trans rfl
    obtain ⟨ans, hans⟩ : ∃ ans, ans = decide (plainT K1 = plainT K2) := ⟨_, rfl⟩
    have HAns := hide hans
    rw [← hans]
    clear hn hnn b1 b2 hans hp1 hp2 hB0
    go_enter Try.func89, Try.ntmps89
    go_upto_region 1 with (fail)
    rw [hW0.out]
    go_wp2
    clear e0 z1 z2
    go_loopw [5] (fun i wr => ∃ (k : Nat), k ≤ n ∧ i = .int .i64 (k : Int) ∧ Hid (Below W0.heap.size W0 wr) ∧ Hid ((plainT K1).take k = (plainT K2).take k)) (fun i _ => n - (intOf i).toNat)
    case atStart => exact ⟨0, Nat.zero_le _, rfl, hide (Below.refl _ _), hide rfl⟩
    case round =>
      obtain ⟨wz, rfl⟩ : ∃ wz : World, wz = wr := ⟨_, rfl⟩
      obtain ⟨k, hk, rfl, HB, HE⟩ := hrel
      have HX1 := hide (HQ1.out.below HB.out HQ1.out.lt)
      have HX2 := hide (HQ2.out.below HB.out HQ2.out.lt)
      have z1 : wz.cell? ⟨w.heap.size, 0, none⟩ = some (.slice A1 n c1) := (HX1.out.cell 0).trans rfl
      by_cases hlt : k < n
      · have hd1 : decide ((k : Int) < (n : Int)) = true := by simpa using hlt
        have hk1 : k < K1.length := by rw [← HN1.out]; exact hlt
        have hk2 : k < K2.length := by rw [← HN2.out, ← HN1.out]; exact hlt
        obtain ⟨g1, o1, rfl, hg1, x1, x2⟩ := HP1.out.at_ (k := k) hk1
        obtain ⟨g2, o2, rfl, hg2, y1, y2⟩ := HP2.out.at_ (k := k) hk2
        have HTx1 := HP1.out.tx (List.getElem_mem hk1)
        have HTx2 := HP2.out.tx (List.getElem_mem hk2)
        have t1 := take_snoc (plainT K1) k (by rw [← HNp1.out]; exact hlt)
        have t2 := take_snoc (plainT K2) k (by rw [← HNp2.out]; exact hlt)
        have q1 : (plainT K1)[k]'(by rw [← HNp1.out]; exact hlt) = (K1[k].1, K1[k].2.2) := by simp [plainT]
        have q2 : (plainT K2)[k]'(by rw [← HNp2.out]; exact hlt) = (K2[k].1, K2[k].2.2) := by simp [plainT]
        have hdiff : (K1[k].1, K1[k].2.2) ≠ (K2[k].1, K2[k].2.2) → plainT K1 ≠ plainT K2 := fun hne e => hne (by
          rw [← q1, ← q2]
          have : ∀ (L L' : List TierV) (e : L = L') (h : k < L.length) (h' : k < L'.length), L[k] = L'[k] := by rintro L _ rfl h h'; rfl
          exact this _ _ e _ _)
        rw [q1] at t1
        rw [q2] at t2
        have HT1 := hide t1
        have HT2 := hide t2
        have hk0 : (0 : Int) ≤ (k : Int) := by omega
        generalize (K1[k]'hk1) = p at *
        generalize (K2[k]'hk2) = q at *
        obtain ⟨fee, u1, b1⟩ := p
        obtain ⟨fee2, u2, b2⟩ := q
        obtain ⟨A3, c3, e3, r3, _⟩ := HTx1
        obtain ⟨A4, c4, e4, r4, _⟩ := HTx2
        dsimp only at x1 x2 y1 y2 e3 e4 hdiff
        subst e3 e4
        have hbz := below_next HB0.out HB.out
        have w1 := (hbz.cell (p := ⟨g1, o1 + k * 2, none⟩) hg1).trans x1
        have w2 := (hbz.cell (p := ⟨g1, o1 + k * 2 + 1, none⟩) hg1).trans x2
        have hbW : Below wz.heap.size wz wz := Below.refl _ _
        have FX : Hid (∀ W, Below wz.heap.size wz W → (W.cell? ⟨w.heap.size, 0, none⟩ = some (.slice (some ⟨g1, o1, none⟩) n c1) ∧ W.cell? ⟨g1, o1 + k * 2, none⟩ = some (c32 fee) ∧ W.cell? ⟨g1, o1 + k * 2 + 1, none⟩ = some (.slice A3 b1.length c3)) ∧ W.cell? ⟨w.heap.size + 1, 0, none⟩ = some (.slice (some ⟨g2, o2, none⟩) n c2) ∧ W.cell? ⟨g2, o2 + k * 2, none⟩ = some (c32 fee2) ∧ W.cell? ⟨g2, o2 + k * 2 + 1, none⟩ = some (.slice A4 b2.length c4) ∧
            Sem.run Try.prog (convert 78 9 (.slice A3 b1.length c3)) W = .ok (.string (strOf b1)) W ∧ Sem.run Try.prog (convert 78 9 (.slice A4 b2.length c4)) W = .ok (.string (strOf b2)) W) := hide fun W hW =>
          have b0 := below_next hbW hW
          have b := below_next hbz b0
          ⟨⟨((HX1.out.below b0 HX1.out.lt).cell 0).trans rfl, (b.cell (p := ⟨g1, o1 + k * 2, none⟩) hg1).trans x1, (b.cell (p := ⟨g1, o1 + k * 2 + 1, none⟩) hg1).trans x2⟩, ((HX2.out.below b0 HX2.out.lt).cell 0).trans rfl, (b.cell (p := ⟨g2, o2 + k * 2, none⟩) hg2).trans y1, (b.cell (p := ⟨g2, o2 + k * 2 + 1, none⟩) hg2).trans y2,
            run_str W _ _ _ Try.underlying78 Try.underlying5 Try.underlying9 _ _ _ c3 _ (r3.keep b.size fun i hi _ => b.block i hi).reads,
            run_str W _ _ _ Try.underlying78 Try.underlying5 Try.underlying9 _ _ _ c4 _ (r4.keep b.size fun i hi _ => b.block i hi).reads⟩
        have hmono : ∀ W, Below wz.heap.size wz W → Below W0.heap.size W0 W := fun W hW => below_next HB.out (below_next hbW hW)
        have HMo := hide hmono
        clear x1 x2 y1 y2 t1 t2 q1 q2 r3 r4 hmono hbW hbz 
        by_cases hf : fee = fee2
        · subst hf
          have n1 : ((fee.toNat : Int) != (fee.toNat : Int)) = false := by simp
          by_cases hbb : b1 = b2
          · subst hbb
            have n2 : ((strOf b1).toList == (strOf b1).toList) = true := by simp
            have n3 : ((strOf b1).toList != (strOf b1).toList) = false := by simp
            have HNx : Hid ((plainT K1).take (k + 1) = (plainT K2).take (k + 1)) := hide (by rw [HT1.out, HT2.out, HE.out])
            clear hdiff
            go_upto_region 6 with (fail)
            apply wp_region_rel (C := fun W' => Below wz.heap.size wz W') (M := fun W W' => Below W.heap.size W W') (ss := [_, _, _, _, _, _, _, _, _, _, _, _, _, _, _, _, _, _, _, _, _, _, _, _, _, _, _, _, _, _]) (by kernel_rfl) (by kernel_rfl) (by kernel_rfl) (Below.refl _ _).drew
            iterate 30 (first
              | (apply relWalk_const (fun W => Below.refl _ _)
                 · (intro W9 hC hF
                    clear hF
                    obtain ⟨⟨p0, p1, p2⟩, f2, f3, f4, s1, s2⟩ := FX.out W9 hC
                    clear hC
                    go_simp
                    with_reducible exact rfl)
                 (try simp only [Act.put, List.setIfInBounds_toArray, List.set_cons_zero, List.set_cons_succ])))
            refine relWalk_nil fun W2 hC hF => ?_
            clear hF
            go_wp2
            go_roundw
            case rel => exact ⟨k + 1, by omega, by go_num, hide (HMo.out _ hC), HNx⟩
            case measure => simp [intOf]; omega
          · have n2 : ((strOf b1).toList == (strOf b2).toList) = false := by rw [strJ_eq]; exact decide_eq_false hbb
            have n3 : ((strOf b1).toList != (strOf b2).toList) = true := by rw [bne, n2]; rfl
            have HNo : Hid (ans = false) := hide (by rw [HAns.out]; exact decide_eq_false (hdiff fun e => hbb (congrArg Prod.snd e)))
            clear hdiff hbb
            go_upto_region 6 with (fail)
            apply wp_region_rel (C := fun W' => Below wz.heap.size wz W') (M := fun W W' => Below W.heap.size W W') (ss := [_, _, _, _, _, _, _, _, _, _, _, _, _, _, _, _, _, _, _, _, _, _, _, _, _, _, _, _, _, _]) (by kernel_rfl) (by kernel_rfl) (by kernel_rfl) (Below.refl _ _).drew
            iterate 30 (first
              | (apply relWalk_const (fun W => Below.refl _ _)
                 · (intro W9 hC hF
                    clear hF
                    obtain ⟨⟨p0, p1, p2⟩, f2, f3, f4, s1, s2⟩ := FX.out W9 hC
                    clear hC
                    go_simp
                    with_reducible exact rfl)
                 (try simp only [Act.put, List.setIfInBounds_toArray, List.set_cons_zero, List.set_cons_succ])))
            refine relWalk_nil fun W2 hC hF => ?_
            clear hF
            go_wp2
            go_ret
            exact ⟨by rw [HNo.out]; rfl, below_next HB0.out (HMo.out _ hC)⟩
        · have n1 : ((fee.toNat : Int) != (fee2.toNat : Int)) = true := by rw [bne, c32_eq, decide_eq_false hf]; rfl
          have HNo : Hid (ans = false) := hide (by rw [HAns.out]; exact decide_eq_false (hdiff fun e => hf (congrArg Prod.fst e)))
          clear hdiff hf
          go_upto_region 6 with (fail)
          apply wp_region_rel (C := fun W' => Below wz.heap.size wz W') (M := fun W W' => Below W.heap.size W W') (ss := [_, _, _, _, _, _, _, _, _, _, _, _, _, _, _, _, _, _, _, _, _, _, _, _, _, _, _, _, _, _]) (by kernel_rfl) (by kernel_rfl) (by kernel_rfl) (Below.refl _ _).drew
          iterate 30 (first
            | (apply relWalk_const (fun W => Below.refl _ _)
               · (intro W9 hC hF
                  clear hF
                  obtain ⟨⟨p0, p1, p2⟩, f2, f3, f4, s1, s2⟩ := FX.out W9 hC
                  clear hC
                  go_simp
                  with_reducible exact rfl)
               (try simp only [Act.put, List.setIfInBounds_toArray, List.set_cons_zero, List.set_cons_succ])))
          refine relWalk_nil fun W2 hC hF => ?_
          clear hF
          go_wp2
          go_ret
          exact ⟨by rw [HNo.out]; rfl, below_next HB0.out (HMo.out _ hC)⟩
      · obtain rfl : k = n := by omega
        have hd1 : decide ((k : Int) < (k : Int)) = false := by simp
        have HYes : Hid (ans = true) := hide (by rw [HAns.out]; exact decide_eq_true (by have := HE.out; rw [List.take_of_length_le (by rw [HNp1.out]; exact Nat.le_refl _), List.take_of_length_le (by rw [HNp2.out]; exact Nat.le_refl _)] at this; exact this))
        go_wp2
        go_ret
        exact ⟨by rw [HYes.out]; rfl, below_next HB0.out HB.out⟩
  · have e0 : ((K1.length : Int) != (K2.length : Int)) = true := by simp; omega
    have HNe : Hid (decide (plainT K1 = plainT K2) = false) := hide (decide_eq_false fun e => hnn (by rw [← hp1, ← hp2, e]))
    have z1 : W0.cell? ⟨w.heap.size, 0, none⟩ = some (.slice A1 K1.length c1) := (b1.cell 0).trans rfl
    have z2 : W0.cell? ⟨w.heap.size + 1, 0, none⟩ = some (.slice A2 K2.length c2) := (b2.cell 0).trans rfl
    rw [HNe.out]
    clear HP1 HP2 hnn b1 b2 hp1 hp2 hB0
    go_enter Try.func89, Try.ntmps89
    go_upto_region 1 with (fail)
    rw [hW0.out]
    go_wp2
    go_ret
    exact ⟨rfl, HB0.out⟩

set_option maxRecDepth 100000 in
set_option maxHeartbeats 1600000 in
theorem paysame_any (v1 : Value) (K1 : List TierK) (v2 : Value) (K2 : List TierK) (w : World) (S1 S2 : Nat → Prop) (h1 : PayAt w S1 v1 K1) (h2 : PayAt w S2 v2 K2) (hmax : K1.length ≤ 9223372036854775807) :
    Calls Try.prog 109 #[.agg #[v1], .agg #[v2]] w fun e w' => e = .returned (.bool (decide (plainT K1 = plainT K2))) ∧ Below w.heap.size w w' := by
  have HP1 := hide h1
  have HP2 := hide h2
  obtain ⟨A1, c1, rfl, hc1, _, _⟩ := h1
  obtain ⟨A2, c2, rfl, hc2, _, _⟩ := h2
  have hp1 : (plainT K1).length = K1.length := by simp [plainT]
  have hp2 : (plainT K2).length = K2.length := by simp [plainT]
  obtain ⟨W0, hW0, sz, b1, b2, hB0⟩ := blks2 w 73 73 #[.slice A1 K1.length c1] #[.slice A2 K2.length c2]
  replace hW0 := hide hW0
  have HB0 := hide hB0
  by_cases hnn : K1.length = K2.length
  · have HN2 := hide hnn
    obtain ⟨n, hn⟩ : ∃ n, n = K1.length := ⟨_, rfl⟩
    have HN1 := hide hn
    have HNp1 : Hid (n = (plainT K1).length) := hide (by rw [hp1, hn])
    have HNp2 : Hid (n = (plainT K2).length) := hide (by rw [hp2, hn, hnn])
    rw [← hnn, ← hn] at b2 hW0 hc2 HP2
    rw [← hn] at hc1 b1 HP1 hmax
    rw [← hn, show K2.length = n by rw [hn, hnn]]
    have e0 : ((n : Int) != (n : Int)) = false := by simp
    have HQ1 := hide b1
    have HQ2 := hide b2
    have z1 : W0.cell? ⟨w.heap.size, 0, none⟩ = some (.slice A1 n c1) := (b1.cell 0).trans rfl
    have z2 : W0.cell? ⟨w.heap.size + 1, 0, none⟩ = some (.slice A2 n c2) := (b2.cell 0).trans rfl
    obtain ⟨ans, hans⟩ : ∃ ans, ans = decide (plainT K1 = plainT K2) := ⟨_, rfl⟩
    have HAns := hide hans
    rw [← hans]
    clear hn hnn b1 b2 hans hp1 hp2 hB0
    go_enter Try.func109, Try.ntmps109
    go_upto_region 1 with (fail)
    rw [hW0.out]
    go_wp2
    clear e0 z1 z2
    go_loopw [17] (fun i wr => ∃ (k : Nat), k ≤ n ∧ i = .int .i64 (k : Int) ∧ Hid (Below W0.heap.size W0 wr) ∧ Hid ((plainT K1).take k = (plainT K2).take k)) (fun i _ => n - (intOf i).toNat)
    case atStart => exact ⟨0, Nat.zero_le _, rfl, hide (Below.refl _ _), hide rfl⟩
    case round =>
      obtain ⟨wz, rfl⟩ : ∃ wz : World, wz = wr := ⟨_, rfl⟩
      obtain ⟨k, hk, rfl, HB, HE⟩ := hrel
      have HX1 := hide (HQ1.out.below HB.out HQ1.out.lt)
      have HX2 := hide (HQ2.out.below HB.out HQ2.out.lt)
      have z1 : wz.cell? ⟨w.heap.size, 0, none⟩ = some (.slice A1 n c1) := (HX1.out.cell 0).trans rfl
      by_cases hlt : k < n
      · have hd1 : decide ((k : Int) < (n : Int)) = true := by simpa using hlt
        have hk1 : k < K1.length := by rw [← HN1.out]; exact hlt
        have hk2 : k < K2.length := by rw [← HN2.out, ← HN1.out]; exact hlt
        obtain ⟨g1, o1, rfl, hg1, x1, x2⟩ := HP1.out.at_ (k := k) hk1
        obtain ⟨g2, o2, rfl, hg2, y1, y2⟩ := HP2.out.at_ (k := k) hk2
        have HTx1 := HP1.out.tx (List.getElem_mem hk1)
        have HTx2 := HP2.out.tx (List.getElem_mem hk2)
        have t1 := take_snoc (plainT K1) k (by rw [← HNp1.out]; exact hlt)
        have t2 := take_snoc (plainT K2) k (by rw [← HNp2.out]; exact hlt)
        have q1 : (plainT K1)[k]'(by rw [← HNp1.out]; exact hlt) = (K1[k].1, K1[k].2.2) := by simp [plainT]
        have q2 : (plainT K2)[k]'(by rw [← HNp2.out]; exact hlt) = (K2[k].1, K2[k].2.2) := by simp [plainT]
        have hdiff : (K1[k].1, K1[k].2.2) ≠ (K2[k].1, K2[k].2.2) → plainT K1 ≠ plainT K2 := fun hne e => hne (by
          rw [← q1, ← q2]
          have : ∀ (L L' : List TierV) (e : L = L') (h : k < L.length) (h' : k < L'.length), L[k] = L'[k] := by rintro L _ rfl h h'; rfl
          exact this _ _ e _ _)
        rw [q1] at t1
        rw [q2] at t2
        have HT1 := hide t1
        have HT2 := hide t2
        have hk0 : (0 : Int) ≤ (k : Int) := by omega
        generalize (K1[k]'hk1) = p at *
        generalize (K2[k]'hk2) = q at *
        obtain ⟨fee, u1, b1⟩ := p
        obtain ⟨fee2, u2, b2⟩ := q
        obtain ⟨A3, c3, e3, r3, _⟩ := HTx1
        obtain ⟨A4, c4, e4, r4, _⟩ := HTx2
        dsimp only at x1 x2 y1 y2 e3 e4 hdiff
        subst e3 e4
        have hbz := below_next HB0.out HB.out
        have w1 := (hbz.cell (p := ⟨g1, o1 + k * 2, none⟩) hg1).trans x1
        have w2 := (hbz.cell (p := ⟨g1, o1 + k * 2 + 1, none⟩) hg1).trans x2
        obtain ⟨W1, hW1⟩ : ∃ W1, W1 = wz.alloc (.cells #[c32 fee, .slice A3 b1.length c3] 80) := ⟨_, rfl⟩
        have hbW : Below wz.heap.size wz W1 := by rw [hW1]; exact (Below.refl _ _).alloc (Nat.le_refl _) _
        have hqW : Blk W1 wz.heap.size 80 #[c32 fee, .slice A3 b1.length c3] := by rw [hW1]; exact Blk.new wz _ _
        have FX : Hid (∀ W, Below W1.heap.size W1 W → (W.cell? ⟨wz.heap.size, 0, none⟩ = some (c32 fee) ∧ W.cell? ⟨wz.heap.size, 1, none⟩ = some (.slice A3 b1.length c3)) ∧ W.cell? ⟨w.heap.size + 1, 0, none⟩ = some (.slice (some ⟨g2, o2, none⟩) n c2) ∧ W.cell? ⟨g2, o2 + k * 2, none⟩ = some (c32 fee2) ∧ W.cell? ⟨g2, o2 + k * 2 + 1, none⟩ = some (.slice A4 b2.length c4) ∧
            Sem.run Try.prog (convert 78 9 (.slice A3 b1.length c3)) W = .ok (.string (strOf b1)) W ∧ Sem.run Try.prog (convert 78 9 (.slice A4 b2.length c4)) W = .ok (.string (strOf b2)) W) := hide fun W hW =>
          have b0 := below_next hbW hW
          have b := below_next hbz b0
          ⟨⟨((hqW.below hW hqW.lt).cell 0).trans rfl, ((hqW.below hW hqW.lt).cell 1).trans rfl⟩, ((HX2.out.below b0 HX2.out.lt).cell 0).trans rfl, (b.cell (p := ⟨g2, o2 + k * 2, none⟩) hg2).trans y1, (b.cell (p := ⟨g2, o2 + k * 2 + 1, none⟩) hg2).trans y2,
            run_str W _ _ _ Try.underlying78 Try.underlying5 Try.underlying9 _ _ _ c3 _ (r3.keep b.size fun i hi _ => b.block i hi).reads,
            run_str W _ _ _ Try.underlying78 Try.underlying5 Try.underlying9 _ _ _ c4 _ (r4.keep b.size fun i hi _ => b.block i hi).reads⟩
        have hmono : ∀ W, Below W1.heap.size W1 W → Below W0.heap.size W0 W := fun W hW => below_next HB.out (below_next hbW hW)
        have HMo := hide hmono
        clear x1 x2 y1 y2 t1 t2 q1 q2 r3 r4 hmono hbW hbz hqW
        by_cases hf : fee = fee2
        · subst hf
          have n1 : ((fee.toNat : Int) != (fee.toNat : Int)) = false := by simp
          by_cases hbb : b1 = b2
          · subst hbb
            have n2 : ((strOf b1).toList == (strOf b1).toList) = true := by simp
            have n3 : ((strOf b1).toList != (strOf b1).toList) = false := by simp
            have HNx : Hid ((plainT K1).take (k + 1) = (plainT K2).take (k + 1)) := hide (by rw [HT1.out, HT2.out, HE.out])
            clear hdiff
            go_upto_region 6 with (fail)
            rw [← hW1]
            clear hW1
            apply wp_region_rel (C := fun W' => Below W1.heap.size W1 W') (M := fun W W' => Below W.heap.size W W') (ss := [_, _, _, _, _, _, _, _, _, _, _, _, _, _, _, _, _, _, _, _, _, _]) (by kernel_rfl) (by kernel_rfl) (by kernel_rfl) (Below.refl _ _).drew
            iterate 22 (first
              | (apply relWalk_const (fun W => Below.refl _ _)
                 · (intro W9 hC hF
                    clear hF
                    obtain ⟨⟨p0, p1⟩, f2, f3, f4, s1, s2⟩ := FX.out W9 hC
                    clear hC
                    go_simp
                    with_reducible exact rfl)
                 (try simp only [Act.put, List.setIfInBounds_toArray, List.set_cons_zero, List.set_cons_succ])))
            refine relWalk_nil fun W2 hC hF => ?_
            clear hF
            go_wp2
            go_roundw
            case rel => exact ⟨k + 1, by omega, by go_num, hide (HMo.out _ hC), HNx⟩
            case measure => simp [intOf]; omega
          · have n2 : ((strOf b1).toList == (strOf b2).toList) = false := by rw [strJ_eq]; exact decide_eq_false hbb
            have n3 : ((strOf b1).toList != (strOf b2).toList) = true := by rw [bne, n2]; rfl
            have HNo : Hid (ans = false) := hide (by rw [HAns.out]; exact decide_eq_false (hdiff fun e => hbb (congrArg Prod.snd e)))
            clear hdiff hbb
            go_upto_region 6 with (fail)
            rw [← hW1]
            clear hW1
            apply wp_region_rel (C := fun W' => Below W1.heap.size W1 W') (M := fun W W' => Below W.heap.size W W') (ss := [_, _, _, _, _, _, _, _, _, _, _, _, _, _, _, _, _, _, _, _, _, _]) (by kernel_rfl) (by kernel_rfl) (by kernel_rfl) (Below.refl _ _).drew
            iterate 22 (first
              | (apply relWalk_const (fun W => Below.refl _ _)
                 · (intro W9 hC hF
                    clear hF
                    obtain ⟨⟨p0, p1⟩, f2, f3, f4, s1, s2⟩ := FX.out W9 hC
                    clear hC
                    go_simp
                    with_reducible exact rfl)
                 (try simp only [Act.put, List.setIfInBounds_toArray, List.set_cons_zero, List.set_cons_succ])))
            refine relWalk_nil fun W2 hC hF => ?_
            clear hF
            go_wp2
            go_ret
            exact ⟨by rw [HNo.out]; rfl, below_next HB0.out (HMo.out _ hC)⟩
        · have n1 : ((fee.toNat : Int) != (fee2.toNat : Int)) = true := by rw [bne, c32_eq, decide_eq_false hf]; rfl
          have HNo : Hid (ans = false) := hide (by rw [HAns.out]; exact decide_eq_false (hdiff fun e => hf (congrArg Prod.fst e)))
          clear hdiff hf
          go_upto_region 6 with (fail)
          rw [← hW1]
          clear hW1
          apply wp_region_rel (C := fun W' => Below W1.heap.size W1 W') (M := fun W W' => Below W.heap.size W W') (ss := [_, _, _, _, _, _, _, _, _, _, _, _, _, _, _, _, _, _, _, _, _, _]) (by kernel_rfl) (by kernel_rfl) (by kernel_rfl) (Below.refl _ _).drew
          iterate 22 (first
            | (apply relWalk_const (fun W => Below.refl _ _)
               · (intro W9 hC hF
                  clear hF
                  obtain ⟨⟨p0, p1⟩, f2, f3, f4, s1, s2⟩ := FX.out W9 hC
                  clear hC
                  go_simp
                  with_reducible exact rfl)
               (try simp only [Act.put, List.setIfInBounds_toArray, List.set_cons_zero, List.set_cons_succ])))
          refine relWalk_nil fun W2 hC hF => ?_
          clear hF
          go_wp2
          go_ret
          exact ⟨by rw [HNo.out]; rfl, below_next HB0.out (HMo.out _ hC)⟩
      · obtain rfl : k = n := by omega
        have hd1 : decide ((k : Int) < (k : Int)) = false := by simp
        have HYes : Hid (ans = true) := hide (by rw [HAns.out]; exact decide_eq_true (by have := HE.out; rw [List.take_of_length_le (by rw [HNp1.out]; exact Nat.le_refl _), List.take_of_length_le (by rw [HNp2.out]; exact Nat.le_refl _)] at this; exact this))
        go_wp2
        go_ret
        exact ⟨by rw [HYes.out]; rfl, below_next HB0.out HB.out⟩
  · have e0 : ((K1.length : Int) != (K2.length : Int)) = true := by simp; omega
    have HNe : Hid (decide (plainT K1 = plainT K2) = false) := hide (decide_eq_false fun e => hnn (by rw [← hp1, ← hp2, e]))
    have z1 : W0.cell? ⟨w.heap.size, 0, none⟩ = some (.slice A1 K1.length c1) := (b1.cell 0).trans rfl
    have z2 : W0.cell? ⟨w.heap.size + 1, 0, none⟩ = some (.slice A2 K2.length c2) := (b2.cell 0).trans rfl
    rw [HNe.out]
    clear HP1 HP2 hnn b1 b2 hp1 hp2 hB0
    go_enter Try.func109, Try.ntmps109
    go_upto_region 1 with (fail)
    rw [hW0.out]
    go_wp2
    go_ret
    exact ⟨rfl, HB0.out⟩

instance : DecidableEq JobM := fun a b => decidable_of_iff ((a.ses, a.seq) = (b.ses, b.seq) ∧ a.breach = b.breach ∧ a.height = b.height ∧ a.mined = b.mined ∧ a.live = b.live) (by cases a; cases b; simp [and_assoc])
theorem jobM_eq (a b : JobM) (P : Prop) [Decidable P] : decide (a = b ∧ P) = decide (((a.ses, a.seq) = (b.ses, b.seq) ∧ a.breach = b.breach ∧ a.height = b.height ∧ a.mined = b.mined ∧ a.live = b.live) ∧ P) :=
  decide_eq_decide.2 (by cases a; cases b; simp [and_assoc])
theorem breach_get {j : JobM} {v : Value} (hj : j.breach.length = 32) {i : Nat} {u : Value} (h : (j.breach.map c8)[i]? = some u) : (jobCells j v)[2 + i]? = some u := by
  have hi := (List.getElem?_eq_some_iff.1 h).1
  unfold jobCells jobHead
  rw [List.append_assoc, List.getElem?_append_right (by simp), List.append_assoc, List.getElem?_append_left (by simpa using hi)]
  simpa using h

set_option maxRecDepth 100000 in
set_option maxHeartbeats 1600000 in
theorem refsame29_any (j1 : JobM) (hj1 : j1.breach.length = 32) (v1 : Value) (R1 : Array Value) (hR1 : JobVal j1 v1 R1) (K1 : List TierK) (j2 : JobM) (hj2 : j2.breach.length = 32) (v2 : Value) (R2 : Array Value) (hR2 : JobVal j2 v2 R2) (K2 : List TierK) (w : World) (S1 S2 : Nat → Prop) (h1 : PayAt w S1 v1 K1) (h2 : PayAt w S2 v2 K2) (hmax : K1.length ≤ 9223372036854775807) :
    Calls Try.prog 48 #[.agg R1, .agg R2] w fun e w' => e = .returned (.bool (decide (j1 = j2 ∧ plainT K1 = plainT K2))) ∧ Below w.heap.size w w' := by
  obtain ⟨W0, hW0, sz, b1, b2, hB0⟩ := blks2 w 75 75 R1 R2
  replace hW0 := hide hW0
  have HB0 := hide hB0
  obtain ⟨bb, hbb⟩ : ∃ bb, bb = decide (plainT K1 = plainT K2) := ⟨_, rfl⟩
  have HC := hide (refsame13_any v1 K1 v2 K2 W0 S1 S2 (h1.below hB0) (h2.below hB0) hmax)
  rw [← hbb] at HC
  obtain ⟨ans, hans⟩ : ∃ ans, ans = decide (j1 = j2 ∧ plainT K1 = plainT K2) := ⟨_, rfl⟩
  have HAns : Hid (ans = (decide ((j1.ses, j1.seq) = (j2.ses, j2.seq)) && (decide (j1.breach = j2.breach) && (decide (j1.height = j2.height) && (decide (j1.mined = j2.mined) && (decide (j1.live = j2.live) && bb)))))) := hide (by
    rw [hans, hbb, jobM_eq]
    simp only [Bool.decide_and, Bool.and_assoc])
  rw [← hans]
  have a0 : W0.cell? ⟨w.heap.size, 0, none⟩ = some (c32 j1.ses) := (b1.cell 0).trans hR1.ses
  have a1 : W0.cell? ⟨w.heap.size, 1, none⟩ = some (c32 j1.seq) := (b1.cell 1).trans hR1.seq
  have a34 : W0.cell? ⟨w.heap.size, 34, none⟩ = some (c32 j1.height) := (b1.cell 34).trans hR1.height
  have a35 : W0.cell? ⟨w.heap.size, 35, none⟩ = some (c32 j1.mined) := (b1.cell 35).trans hR1.mined
  have a36 : W0.cell? ⟨w.heap.size, 36, none⟩ = some (ci j1.live) := (b1.cell 36).trans hR1.live
  have a37 : W0.cell? ⟨w.heap.size, 37, none⟩ = some v1 := (b1.cell 37).trans hR1.pay
  have d0 : W0.cell? ⟨w.heap.size + 1, 0, none⟩ = some (c32 j2.ses) := (b2.cell 0).trans hR2.ses
  have d1 : W0.cell? ⟨w.heap.size + 1, 1, none⟩ = some (c32 j2.seq) := (b2.cell 1).trans hR2.seq
  have d34 : W0.cell? ⟨w.heap.size + 1, 34, none⟩ = some (c32 j2.height) := (b2.cell 34).trans hR2.height
  have d35 : W0.cell? ⟨w.heap.size + 1, 35, none⟩ = some (c32 j2.mined) := (b2.cell 35).trans hR2.mined
  have d36 : W0.cell? ⟨w.heap.size + 1, 36, none⟩ = some (ci j2.live) := (b2.cell 36).trans hR2.live
  have d37 : W0.cell? ⟨w.heap.size + 1, 37, none⟩ = some v2 := (b2.cell 37).trans hR2.pay
  have FI1 : Hid (∀ i u, (j1.breach.map c8)[i]? = some u → W0.cell? ((⟨w.heap.size, 2, none⟩ : Addr).add i) = some u) := hide fun i u hu => by
    rw [Addr.add_lit, b1.cell, hR1.val, List.getElem?_toArray]; exact breach_get hj1 hu
  have FI2 : Hid (∀ i u, (j2.breach.map c8)[i]? = some u → W0.cell? ((⟨w.heap.size + 1, 2, none⟩ : Addr).add i) = some u) := hide fun i u hu => by
    rw [Addr.add_lit, b2.cell, hR2.val, List.getElem?_toArray]; exact breach_get hj2 hu
  have HL1 : Hid ((Try.prog.info? 70).map (·.size) = some (j1.breach.map c8).length) := hide (by rw [List.length_map, hj1]; exact info_id)
  have HL2 : Hid ((Try.prog.info? 70).map (·.size) = some (j2.breach.map c8).length) := hide (by rw [List.length_map, hj2]; exact info_id)
  obtain ⟨V1, hV1⟩ : ∃ V1, V1 = (j1.breach.map c8).toArray := ⟨_, rfl⟩
  obtain ⟨V2, hV2⟩ : ∃ V2, V2 = (j2.breach.map c8).toArray := ⟨_, rfl⟩
  have heqI : ∀ W : World, (Op.equalIn 10000 70 (.agg V1) (.agg V2)).run Try.prog W = .ok (decide (j1.breach = j2.breach)) W := fun W => by rw [hV1, hV2]; exact eq_id _ _ hj1 hj2 W
  have heqK : ∀ W : World, (Op.equalIn 10000 68 (.agg #[c32 j1.ses, c32 j1.seq]) (.agg #[c32 j2.ses, c32 j2.seq])).run Try.prog W = .ok (decide ((j1.ses, j1.seq) = (j2.ses, j2.seq))) W := fun W => eq_key (j1.ses, j1.seq) (j2.ses, j2.seq) W
  have q34 := c32_eq j1.height j2.height
  have q35 := c32_eq j1.mined j2.mined
  have q36 : (j1.live == j2.live) = decide (j1.live = j2.live) := by rw [Bool.eq_iff_iff]; simp
  replace hV1 := hide hV1.symm
  replace hV2 := hide hV2.symm
  obtain ⟨A1, c1, rfl, _, _, _⟩ := h1
  obtain ⟨A2, c2, rfl, _, _, _⟩ := h2
  generalize K1.length = l1 at *
  generalize K2.length = l2 at *
  generalize decide ((j1.ses, j1.seq) = (j2.ses, j2.seq)) = t0 at *
  generalize decide (j1.breach = j2.breach) = t1 at *
  generalize decide (j1.height = j2.height) = t2 at *
  generalize decide (j1.mined = j2.mined) = t3 at *
  generalize decide (j1.live = j2.live) = t4 at *
  clear hans hbb hB0 b1 b2 hR1 hR2 hj1 hj2 sz
  by_cases f0 : t0 = false
  · subst f0
    have HF : Hid (ans = false) := hide (by rw [HAns.out]; rfl)
    go_enter Try.func48, Try.ntmps48
    go_upto_region 1 with (fail)
    rw [hW0.out]
    go_wp2_with (first
      | ((with_reducible show wpList _ _ _ (⟨some 12, .load _ _, _, _, _, _⟩ :: _) _ _); refine wpList_load_want (by go_simp) 70 _ rfl ⟨w.heap.size, 2, none⟩ rfl (j1.breach.map c8) _ Try.underlying70 rfl HL1.out FI1.out ?_; rw [hV1.out])
      | ((with_reducible show wpList _ _ _ (⟨some 14, .load _ _, _, _, _, _⟩ :: _) _ _); refine wpList_load_want (by go_simp) 70 _ rfl ⟨w.heap.size + 1, 2, none⟩ rfl (j2.breach.map c8) _ Try.underlying70 rfl HL2.out FI2.out ?_; rw [hV2.out])
      | (go_at_call 89; (with_reducible refine HC.out.mono ?_); rintro e w3 ⟨rfl, hb3⟩; have HB3 := hide (below_next HB0.out hb3); clear hb3)
      | fail)
    go_ret
    exact ⟨by rw [HF.out]; rfl, HB0.out⟩
  obtain rfl : t0 = true := by simpa using f0
  clear f0
  by_cases f1 : t1 = false
  · subst f1
    have HF : Hid (ans = false) := hide (by rw [HAns.out]; rfl)
    go_enter Try.func48, Try.ntmps48
    go_upto_region 1 with (fail)
    rw [hW0.out]
    go_wp2_with (first
      | ((with_reducible show wpList _ _ _ (⟨some 12, .load _ _, _, _, _, _⟩ :: _) _ _); refine wpList_load_want (by go_simp) 70 _ rfl ⟨w.heap.size, 2, none⟩ rfl (j1.breach.map c8) _ Try.underlying70 rfl HL1.out FI1.out ?_; rw [hV1.out])
      | ((with_reducible show wpList _ _ _ (⟨some 14, .load _ _, _, _, _, _⟩ :: _) _ _); refine wpList_load_want (by go_simp) 70 _ rfl ⟨w.heap.size + 1, 2, none⟩ rfl (j2.breach.map c8) _ Try.underlying70 rfl HL2.out FI2.out ?_; rw [hV2.out])
      | (go_at_call 89; (with_reducible refine HC.out.mono ?_); rintro e w3 ⟨rfl, hb3⟩; have HB3 := hide (below_next HB0.out hb3); clear hb3)
      | fail)
    go_ret
    exact ⟨by rw [HF.out]; rfl, HB0.out⟩
  obtain rfl : t1 = true := by simpa using f1
  clear f1
  by_cases f2 : t2 = false
  · subst f2
    have HF : Hid (ans = false) := hide (by rw [HAns.out]; rfl)
    go_enter Try.func48, Try.ntmps48
    go_upto_region 1 with (fail)
    rw [hW0.out]
    go_wp2_with (first
      | ((with_reducible show wpList _ _ _ (⟨some 12, .load _ _, _, _, _, _⟩ :: _) _ _); refine wpList_load_want (by go_simp) 70 _ rfl ⟨w.heap.size, 2, none⟩ rfl (j1.breach.map c8) _ Try.underlying70 rfl HL1.out FI1.out ?_; rw [hV1.out])
      | ((with_reducible show wpList _ _ _ (⟨some 14, .load _ _, _, _, _, _⟩ :: _) _ _); refine wpList_load_want (by go_simp) 70 _ rfl ⟨w.heap.size + 1, 2, none⟩ rfl (j2.breach.map c8) _ Try.underlying70 rfl HL2.out FI2.out ?_; rw [hV2.out])
      | (go_at_call 89; (with_reducible refine HC.out.mono ?_); rintro e w3 ⟨rfl, hb3⟩; have HB3 := hide (below_next HB0.out hb3); clear hb3)
      | fail)
    go_ret
    exact ⟨by rw [HF.out]; rfl, HB0.out⟩
  obtain rfl : t2 = true := by simpa using f2
  clear f2
  by_cases f3 : t3 = false
  · subst f3
    have HF : Hid (ans = false) := hide (by rw [HAns.out]; rfl)
    go_enter Try.func48, Try.ntmps48
    go_upto_region 1 with (fail)
    rw [hW0.out]
    go_wp2_with (first
      | ((with_reducible show wpList _ _ _ (⟨some 12, .load _ _, _, _, _, _⟩ :: _) _ _); refine wpList_load_want (by go_simp) 70 _ rfl ⟨w.heap.size, 2, none⟩ rfl (j1.breach.map c8) _ Try.underlying70 rfl HL1.out FI1.out ?_; rw [hV1.out])
      | ((with_reducible show wpList _ _ _ (⟨some 14, .load _ _, _, _, _, _⟩ :: _) _ _); refine wpList_load_want (by go_simp) 70 _ rfl ⟨w.heap.size + 1, 2, none⟩ rfl (j2.breach.map c8) _ Try.underlying70 rfl HL2.out FI2.out ?_; rw [hV2.out])
      | (go_at_call 89; (with_reducible refine HC.out.mono ?_); rintro e w3 ⟨rfl, hb3⟩; have HB3 := hide (below_next HB0.out hb3); clear hb3)
      | fail)
    go_ret
    exact ⟨by rw [HF.out]; rfl, HB0.out⟩
  obtain rfl : t3 = true := by simpa using f3
  clear f3
  by_cases f4 : t4 = false
  · subst f4
    have HF : Hid (ans = false) := hide (by rw [HAns.out]; rfl)
    go_enter Try.func48, Try.ntmps48
    go_upto_region 1 with (fail)
    rw [hW0.out]
    go_wp2_with (first
      | ((with_reducible show wpList _ _ _ (⟨some 12, .load _ _, _, _, _, _⟩ :: _) _ _); refine wpList_load_want (by go_simp) 70 _ rfl ⟨w.heap.size, 2, none⟩ rfl (j1.breach.map c8) _ Try.underlying70 rfl HL1.out FI1.out ?_; rw [hV1.out])
      | ((with_reducible show wpList _ _ _ (⟨some 14, .load _ _, _, _, _, _⟩ :: _) _ _); refine wpList_load_want (by go_simp) 70 _ rfl ⟨w.heap.size + 1, 2, none⟩ rfl (j2.breach.map c8) _ Try.underlying70 rfl HL2.out FI2.out ?_; rw [hV2.out])
      | (go_at_call 89; (with_reducible refine HC.out.mono ?_); rintro e w3 ⟨rfl, hb3⟩; have HB3 := hide (below_next HB0.out hb3); clear hb3)
      | fail)
    go_ret
    exact ⟨by rw [HF.out]; rfl, HB0.out⟩
  obtain rfl : t4 = true := by simpa using f4
  clear f4
  have HF : Hid (ans = bb) := hide (by rw [HAns.out]; rfl)
  go_enter Try.func48, Try.ntmps48
  go_upto_region 1 with (fail)
  rw [hW0.out]
  go_wp2_with (first
    | ((with_reducible show wpList _ _ _ (⟨some 12, .load _ _, _, _, _, _⟩ :: _) _ _); refine wpList_load_want (by go_simp) 70 _ rfl ⟨w.heap.size, 2, none⟩ rfl (j1.breach.map c8) _ Try.underlying70 rfl HL1.out FI1.out ?_; rw [hV1.out])
    | ((with_reducible show wpList _ _ _ (⟨some 14, .load _ _, _, _, _, _⟩ :: _) _ _); refine wpList_load_want (by go_simp) 70 _ rfl ⟨w.heap.size + 1, 2, none⟩ rfl (j2.breach.map c8) _ Try.underlying70 rfl HL2.out FI2.out ?_; rw [hV2.out])
    | (go_at_call 89; (with_reducible refine HC.out.mono ?_); rintro e w3 ⟨rfl, hb3⟩; have HB3 := hide (below_next HB0.out hb3); clear hb3)
    | fail)
  go_ret
  exact ⟨by rw [HF.out]; rfl, HB3.out⟩

set_option maxRecDepth 100000 in
set_option maxHeartbeats 1600000 in
theorem jsame_any (j1 : JobM) (hj1 : j1.breach.length = 32) (v1 : Value) (R1 : Array Value) (hR1 : JobVal j1 v1 R1) (K1 : List TierK) (j2 : JobM) (hj2 : j2.breach.length = 32) (v2 : Value) (R2 : Array Value) (hR2 : JobVal j2 v2 R2) (K2 : List TierK) (w : World) (S1 S2 : Nat → Prop) (h1 : PayAt w S1 v1 K1) (h2 : PayAt w S2 v2 K2) (hmax : K1.length ≤ 9223372036854775807) :
    Calls Try.prog 69 #[.agg R1, .agg R2] w fun e w' => e = .returned (.bool (decide (j1 = j2 ∧ plainT K1 = plainT K2))) ∧ Below w.heap.size w w' := by
  obtain ⟨W0, hW0, sz, b1, b2, hB0⟩ := blks2 w 75 75 R1 R2
  replace hW0 := hide hW0
  have HB0 := hide hB0
  obtain ⟨bb, hbb⟩ : ∃ bb, bb = decide (plainT K1 = plainT K2) := ⟨_, rfl⟩
  have HC := hide (paysame_any v1 K1 v2 K2 W0 S1 S2 (h1.below hB0) (h2.below hB0) hmax)
  rw [← hbb] at HC
  obtain ⟨ans, hans⟩ : ∃ ans, ans = decide (j1 = j2 ∧ plainT K1 = plainT K2) := ⟨_, rfl⟩
  have HAns : Hid (ans = (decide ((j1.ses, j1.seq) = (j2.ses, j2.seq)) && (decide (j1.breach = j2.breach) && (decide (j1.height = j2.height) && (decide (j1.mined = j2.mined) && (decide (j1.live = j2.live) && bb)))))) := hide (by
    rw [hans, hbb, jobM_eq]
    simp only [Bool.decide_and, Bool.and_assoc])
  rw [← hans]
  have a0 : W0.cell? ⟨w.heap.size, 0, none⟩ = some (c32 j1.ses) := (b1.cell 0).trans hR1.ses
  have a1 : W0.cell? ⟨w.heap.size, 1, none⟩ = some (c32 j1.seq) := (b1.cell 1).trans hR1.seq
  have a34 : W0.cell? ⟨w.heap.size, 34, none⟩ = some (c32 j1.height) := (b1.cell 34).trans hR1.height
  have a35 : W0.cell? ⟨w.heap.size, 35, none⟩ = some (c32 j1.mined) := (b1.cell 35).trans hR1.mined
  have a36 : W0.cell? ⟨w.heap.size, 36, none⟩ = some (ci j1.live) := (b1.cell 36).trans hR1.live
  have a37 : W0.cell? ⟨w.heap.size, 37, none⟩ = some v1 := (b1.cell 37).trans hR1.pay
  have d0 : W0.cell? ⟨w.heap.size + 1, 0, none⟩ = some (c32 j2.ses) := (b2.cell 0).trans hR2.ses
  have d1 : W0.cell? ⟨w.heap.size + 1, 1, none⟩ = some (c32 j2.seq) := (b2.cell 1).trans hR2.seq
  have d34 : W0.cell? ⟨w.heap.size + 1, 34, none⟩ = some (c32 j2.height) := (b2.cell 34).trans hR2.height
  have d35 : W0.cell? ⟨w.heap.size + 1, 35, none⟩ = some (c32 j2.mined) := (b2.cell 35).trans hR2.mined
  have d36 : W0.cell? ⟨w.heap.size + 1, 36, none⟩ = some (ci j2.live) := (b2.cell 36).trans hR2.live
  have d37 : W0.cell? ⟨w.heap.size + 1, 37, none⟩ = some v2 := (b2.cell 37).trans hR2.pay
  have FI1 : Hid (∀ i u, (j1.breach.map c8)[i]? = some u → W0.cell? ((⟨w.heap.size, 2, none⟩ : Addr).add i) = some u) := hide fun i u hu => by
    rw [Addr.add_lit, b1.cell, hR1.val, List.getElem?_toArray]; exact breach_get hj1 hu
  have FI2 : Hid (∀ i u, (j2.breach.map c8)[i]? = some u → W0.cell? ((⟨w.heap.size + 1, 2, none⟩ : Addr).add i) = some u) := hide fun i u hu => by
    rw [Addr.add_lit, b2.cell, hR2.val, List.getElem?_toArray]; exact breach_get hj2 hu
  have HL1 : Hid ((Try.prog.info? 70).map (·.size) = some (j1.breach.map c8).length) := hide (by rw [List.length_map, hj1]; exact info_id)
  have HL2 : Hid ((Try.prog.info? 70).map (·.size) = some (j2.breach.map c8).length) := hide (by rw [List.length_map, hj2]; exact info_id)
  obtain ⟨V1, hV1⟩ : ∃ V1, V1 = (j1.breach.map c8).toArray := ⟨_, rfl⟩
  obtain ⟨V2, hV2⟩ : ∃ V2, V2 = (j2.breach.map c8).toArray := ⟨_, rfl⟩
  have heqI : ∀ W : World, (Op.equalIn 10000 70 (.agg V1) (.agg V2)).run Try.prog W = .ok (decide (j1.breach = j2.breach)) W := fun W => by rw [hV1, hV2]; exact eq_id _ _ hj1 hj2 W
  have heqK : ∀ W : World, (Op.equalIn 10000 68 (.agg #[c32 j1.ses, c32 j1.seq]) (.agg #[c32 j2.ses, c32 j2.seq])).run Try.prog W = .ok (decide ((j1.ses, j1.seq) = (j2.ses, j2.seq))) W := fun W => eq_key (j1.ses, j1.seq) (j2.ses, j2.seq) W
  have q34 := c32_eq j1.height j2.height
  have q35 := c32_eq j1.mined j2.mined
  have q36 : (j1.live == j2.live) = decide (j1.live = j2.live) := by rw [Bool.eq_iff_iff]; simp
  replace hV1 := hide hV1.symm
  replace hV2 := hide hV2.symm
  obtain ⟨A1, c1, rfl, _, _, _⟩ := h1
  obtain ⟨A2, c2, rfl, _, _, _⟩ := h2
  generalize K1.length = l1 at *
  generalize K2.length = l2 at *
  generalize decide ((j1.ses, j1.seq) = (j2.ses, j2.seq)) = t0 at *
  generalize decide (j1.breach = j2.breach) = t1 at *
  generalize decide (j1.height = j2.height) = t2 at *
  generalize decide (j1.mined = j2.mined) = t3 at *
  generalize decide (j1.live = j2.live) = t4 at *
  clear hans hbb hB0 b1 b2 hR1 hR2 hj1 hj2 sz
  by_cases f0 : t0 = false
  · subst f0
    have HF : Hid (ans = false) := hide (by rw [HAns.out]; rfl)
    go_enter Try.func69, Try.ntmps69
    go_upto_region 1 with (fail)
    rw [hW0.out]
    go_wp2_with (first
      | ((with_reducible show wpList _ _ _ (⟨some 12, .load _ _, _, _, _, _⟩ :: _) _ _); refine wpList_load_want (by go_simp) 70 _ rfl ⟨w.heap.size, 2, none⟩ rfl (j1.breach.map c8) _ Try.underlying70 rfl HL1.out FI1.out ?_; rw [hV1.out])
      | ((with_reducible show wpList _ _ _ (⟨some 14, .load _ _, _, _, _, _⟩ :: _) _ _); refine wpList_load_want (by go_simp) 70 _ rfl ⟨w.heap.size + 1, 2, none⟩ rfl (j2.breach.map c8) _ Try.underlying70 rfl HL2.out FI2.out ?_; rw [hV2.out])
      | (go_at_call 109; (with_reducible refine HC.out.mono ?_); rintro e w3 ⟨rfl, hb3⟩; have HB3 := hide (below_next HB0.out hb3); clear hb3)
      | fail)
    go_ret
    exact ⟨by rw [HF.out]; rfl, HB0.out⟩
  obtain rfl : t0 = true := by simpa using f0
  clear f0
  by_cases f1 : t1 = false
  · subst f1
    have HF : Hid (ans = false) := hide (by rw [HAns.out]; rfl)
    go_enter Try.func69, Try.ntmps69
    go_upto_region 1 with (fail)
    rw [hW0.out]
    go_wp2_with (first
      | ((with_reducible show wpList _ _ _ (⟨some 12, .load _ _, _, _, _, _⟩ :: _) _ _); refine wpList_load_want (by go_simp) 70 _ rfl ⟨w.heap.size, 2, none⟩ rfl (j1.breach.map c8) _ Try.underlying70 rfl HL1.out FI1.out ?_; rw [hV1.out])
      | ((with_reducible show wpList _ _ _ (⟨some 14, .load _ _, _, _, _, _⟩ :: _) _ _); refine wpList_load_want (by go_simp) 70 _ rfl ⟨w.heap.size + 1, 2, none⟩ rfl (j2.breach.map c8) _ Try.underlying70 rfl HL2.out FI2.out ?_; rw [hV2.out])
      | (go_at_call 109; (with_reducible refine HC.out.mono ?_); rintro e w3 ⟨rfl, hb3⟩; have HB3 := hide (below_next HB0.out hb3); clear hb3)
      | fail)
    go_ret
    exact ⟨by rw [HF.out]; rfl, HB0.out⟩
  obtain rfl : t1 = true := by simpa using f1
  clear f1
  by_cases f2 : t2 = false
  · subst f2
    have HF : Hid (ans = false) := hide (by rw [HAns.out]; rfl)
    go_enter Try.func69, Try.ntmps69
    go_upto_region 1 with (fail)
    rw [hW0.out]
    go_wp2_with (first
      | ((with_reducible show wpList _ _ _ (⟨some 12, .load _ _, _, _, _, _⟩ :: _) _ _); refine wpList_load_want (by go_simp) 70 _ rfl ⟨w.heap.size, 2, none⟩ rfl (j1.breach.map c8) _ Try.underlying70 rfl HL1.out FI1.out ?_; rw [hV1.out])
      | ((with_reducible show wpList _ _ _ (⟨some 14, .load _ _, _, _, _, _⟩ :: _) _ _); refine wpList_load_want (by go_simp) 70 _ rfl ⟨w.heap.size + 1, 2, none⟩ rfl (j2.breach.map c8) _ Try.underlying70 rfl HL2.out FI2.out ?_; rw [hV2.out])
      | (go_at_call 109; (with_reducible refine HC.out.mono ?_); rintro e w3 ⟨rfl, hb3⟩; have HB3 := hide (below_next HB0.out hb3); clear hb3)
      | fail)
    go_ret
    exact ⟨by rw [HF.out]; rfl, HB0.out⟩
  obtain rfl : t2 = true := by simpa using f2
  clear f2
  by_cases f3 : t3 = false
  · subst f3
    have HF : Hid (ans = false) := hide (by rw [HAns.out]; rfl)
    go_enter Try.func69, Try.ntmps69
    go_upto_region 1 with (fail)
    rw [hW0.out]
    go_wp2_with (first
      | ((with_reducible show wpList _ _ _ (⟨some 12, .load _ _, _, _, _, _⟩ :: _) _ _); refine wpList_load_want (by go_simp) 70 _ rfl ⟨w.heap.size, 2, none⟩ rfl (j1.breach.map c8) _ Try.underlying70 rfl HL1.out FI1.out ?_; rw [hV1.out])
      | ((with_reducible show wpList _ _ _ (⟨some 14, .load _ _, _, _, _, _⟩ :: _) _ _); refine wpList_load_want (by go_simp) 70 _ rfl ⟨w.heap.size + 1, 2, none⟩ rfl (j2.breach.map c8) _ Try.underlying70 rfl HL2.out FI2.out ?_; rw [hV2.out])
      | (go_at_call 109; (with_reducible refine HC.out.mono ?_); rintro e w3 ⟨rfl, hb3⟩; have HB3 := hide (below_next HB0.out hb3); clear hb3)
      | fail)
    go_ret
    exact ⟨by rw [HF.out]; rfl, HB0.out⟩
  obtain rfl : t3 = true := by simpa using f3
  clear f3
  by_cases f4 : t4 = false
  · subst f4
    have HF : Hid (ans = false) := hide (by rw [HAns.out]; rfl)
    go_enter Try.func69, Try.ntmps69
    go_upto_region 1 with (fail)
    rw [hW0.out]
    go_wp2_with (first
      | ((with_reducible show wpList _ _ _ (⟨some 12, .load _ _, _, _, _, _⟩ :: _) _ _); refine wpList_load_want (by go_simp) 70 _ rfl ⟨w.heap.size, 2, none⟩ rfl (j1.breach.map c8) _ Try.underlying70 rfl HL1.out FI1.out ?_; rw [hV1.out])
      | ((with_reducible show wpList _ _ _ (⟨some 14, .load _ _, _, _, _, _⟩ :: _) _ _); refine wpList_load_want (by go_simp) 70 _ rfl ⟨w.heap.size + 1, 2, none⟩ rfl (j2.breach.map c8) _ Try.underlying70 rfl HL2.out FI2.out ?_; rw [hV2.out])
      | (go_at_call 109; (with_reducible refine HC.out.mono ?_); rintro e w3 ⟨rfl, hb3⟩; have HB3 := hide (below_next HB0.out hb3); clear hb3)
      | fail)
    go_ret
    exact ⟨by rw [HF.out]; rfl, HB0.out⟩
  obtain rfl : t4 = true := by simpa using f4
  clear f4
  have HF : Hid (ans = bb) := hide (by rw [HAns.out]; rfl)
  go_enter Try.func69, Try.ntmps69
  go_upto_region 1 with (fail)
  rw [hW0.out]
  go_wp2_with (first
    | ((with_reducible show wpList _ _ _ (⟨some 12, .load _ _, _, _, _, _⟩ :: _) _ _); refine wpList_load_want (by go_simp) 70 _ rfl ⟨w.heap.size, 2, none⟩ rfl (j1.breach.map c8) _ Try.underlying70 rfl HL1.out FI1.out ?_; rw [hV1.out])
    | ((with_reducible show wpList _ _ _ (⟨some 14, .load _ _, _, _, _, _⟩ :: _) _ _); refine wpList_load_want (by go_simp) 70 _ rfl ⟨w.heap.size + 1, 2, none⟩ rfl (j2.breach.map c8) _ Try.underlying70 rfl HL2.out FI2.out ?_; rw [hV2.out])
    | (go_at_call 109; (with_reducible refine HC.out.mono ?_); rintro e w3 ⟨rfl, hb3⟩; have HB3 := hide (below_next HB0.out hb3); clear hb3)
    | fail)
  go_ret
  exact ⟨by rw [HF.out]; rfl, HB3.out⟩
end Go.Proofs.Ytccpkafmbmkmfaa
