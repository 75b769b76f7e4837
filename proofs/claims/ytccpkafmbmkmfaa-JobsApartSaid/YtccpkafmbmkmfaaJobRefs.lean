/- The document's answers on payloads and jobs: whether they may be, whether they are few. No condition. -/
import Derived.Test.YtccpkafmbmkmfaaJobFns2
namespace Go.Proofs.Ytccpkafmbmkmfaa
open Go.RowKit Go.Shelf
set_option linter.unusedVariables false
set_option linter.unusedSimpArgs false

set_option maxRecDepth 100000 in
set_option maxHeartbeats 1600000 in
theorem refright13_any (v : Value) (K : List TierK) (w : World) (S : Nat → Prop) (h : PayAt w S v K) (hmax : K.length ≤ 9223372036854775807) :
    Calls Try.prog 81 #[.agg #[v]] w fun e w' => e = .returned (.bool (rightP (plainT K))) ∧ Below w.heap.size w w' := by
  have HP := hide h
  obtain ⟨A, c, rfl, hc, _, _⟩ := h
  obtain ⟨n, hn⟩ : ∃ n, n = K.length := ⟨_, rfl⟩
  have HN := hide hn
  have HNp : Hid (n = (plainT K).length) := hide (by rw [hn]; simp [plainT])
  rw [← hn] at hc HP hmax ⊢
  clear hn
  obtain ⟨rp, hrp⟩ : ∃ rp, rp = rightP (plainT K) := ⟨_, rfl⟩
  have HRp : Hid (rp = (stepR none (plainT K) && (decide (1 ≤ n) && decide (n ≤ 8)))) := hide (by rw [hrp, HNp.out]; unfold rightP; rw [Bool.and_comm])
  rw [← hrp]
  clear hrp
  go_enter Try.func81, Try.ntmps81
  go_wp2
  go_loopw [3] (fun i wr => ∃ (k : Nat), k ≤ n ∧ i = .int .i64 (k : Int) ∧ Hid (Below w.heap.size w wr) ∧ Hid (Blk wr w.heap.size 73 #[.slice A n c]) ∧ Hid (stepR none (plainT K) = stepR (prevF (plainT K) k) ((plainT K).drop k))) (fun i _ => n - (intOf i).toNat)
  case atStart => exact ⟨0, Nat.zero_le _, rfl, hide ((Below.refl _ _).alloc (Nat.le_refl _) _), hide (Blk.new w _ _), hide rfl⟩
  case round =>
    obtain ⟨wz, rfl⟩ : ∃ wz : World, wz = wr := ⟨_, rfl⟩
    obtain ⟨k, hk, rfl, HB, HX, HS⟩ := hrel
    have x1 : wz.cell? ⟨w.heap.size, 0, none⟩ = some (.slice A n c) := (HX.out.cell 0).trans rfl
    by_cases hlt : k < n
    · have hd1 : decide ((k : Int) < (n : Int)) = true := by simpa using hlt
      have hkK : k < K.length := by rw [← HN.out]; exact hlt
      obtain ⟨ga, oa, rfl, hga, c1, c2⟩ := HP.out.at_ (k := k) hkK
      have hst := HS.out.trans (stepR_at (plainT K) k (by rw [← HNp.out]; exact hlt))
      have HC0 : Hid (∀ j, j < K.length → ∀ (h : j < K.length), w.cell? ⟨ga, oa + j * 2, none⟩ = some (c32 K[j].1)) := hide fun j hj h => by
        obtain ⟨g', o', e, _, h1, _⟩ := HP.out.at_ (k := j) hj
        cases e
        exact h1
      replace c1 := (HB.out.cell (p := ⟨ga, oa + k * 2, none⟩) hga).trans c1
      replace c2 := (HB.out.cell (p := ⟨ga, oa + k * 2 + 1, none⟩) hga).trans c2
      have HTx := HP.out.tx (List.getElem_mem hkK)
      have hpl : (plainT K)[k]'(by rw [← HNp.out]; exact hlt) = (K[k].1, K[k].2.2) := by simp [plainT]
      rw [hpl] at hst
      have hk0 : (0 : Int) ≤ (k : Int) := by omega
      have hprev : prevF (plainT K) k = if h : k = 0 then none else some (K[k - 1]'(by omega)).1 := by
        unfold prevF
        split
        · rfl
        · simp [plainT, show k - 1 < K.length by omega]
      generalize hp : (K[k]'hkK) = p at *
      obtain ⟨fee, u, bs⟩ := p
      obtain ⟨A2, c2', e2, _, _⟩ := HTx
      dsimp only at e2 c1 c2 hst
      subst e2
      clear hpl hp
      have HX1 : Hid (∀ q, Below wz.heap.size wz (wz.drewN q)) := hide fun q => below_drewN (Below.refl _ _) q
      have HX0 := hide (show Below wz.heap.size wz wz from Below.refl _ _)
      by_cases ha : bs.length < 1
      · have e1 : decide ((bs.length : Int) < 1) = true := by simp; omega
        rw [decide_eq_false (show ¬ 1 ≤ bs.length by omega)] at hst
        have HF := hide hst
        clear hst hprev HS
        go_upto_region 5 with (fail)
        go_quiet (fail)
        go_wp2
        go_ret
        exact ⟨by rw [HRp.out, HF.out]; rfl, below_next HB.out (HX1.out _)⟩
      have e1 : decide ((bs.length : Int) < 1) = false := by simp; omega
      rw [decide_eq_true (show 1 ≤ bs.length by omega)] at hst
      by_cases hb : 64 < bs.length
      · have e2 : decide ((64 : Int) < (bs.length : Int)) = true := by simp; omega
        rw [decide_eq_false (show ¬ bs.length ≤ 64 by omega)] at hst
        have HF := hide hst
        clear hst hprev HS
        go_upto_region 5 with (fail)
        go_quiet (fail)
        go_wp2
        go_ret
        exact ⟨by rw [HRp.out, HF.out]; rfl, below_next HB.out (HX1.out _)⟩
      have e2 : decide ((64 : Int) < (bs.length : Int)) = false := by simp; omega
      rw [decide_eq_true (show bs.length ≤ 64 by omega)] at hst
      have HXn : Hid (∀ q, Blk (wz.drewN q) w.heap.size 73 #[.slice (some ⟨ga, oa, none⟩) n c]) := hide fun q => HX.out.below (HX1.out q) HX.out.lt
      have HBn : Hid (∀ q, Below w.heap.size w (wz.drewN q)) := hide fun q => below_next HB.out (HX1.out q)
      by_cases hk1 : k = 0
      · have e3 : decide (0 < k) = false := by simp; omega
        rw [hprev, dif_pos hk1] at hst
        have HF := hide hst
        clear hst hprev HS hk1
        go_upto_region 5 with (fail)
        go_quiet (fail)
        go_wp2
        go_roundw
        case rel => exact ⟨k + 1, by omega, by go_num, hide (HBn.out _), hide (HXn.out _), hide (by rw [HF.out]; rfl)⟩
        case measure => simp [intOf]; omega
      have e3 : decide (0 < k) = true := by simp; omega
      have c0 := ((below_next HB.out HX0.out).cell (p := ⟨ga, oa + (k - 1) * 2, none⟩) hga).trans (HC0.out (k - 1) (by omega) (by omega))
      rw [hprev, dif_neg hk1] at hst
      generalize (K[k - 1]'(by omega)).1 = q at *
      obtain ⟨k', rfl⟩ : ∃ k', k = k' + 1 := ⟨k - 1, by omega⟩
      rw [show k' + 1 - 1 = k' by omega] at c0
      have e5 : ((k' + 1 : Nat) : Int) - 1 = (k' : Int) := by omega
      have z1 : (0 : Int) ≤ (k' : Int) := by omega
      have z2 : (k' : Int) < (n : Int) := by omega
      have z3 : k' < n := by omega
      have e6 : IntKind.i64.wrap (k' : Int) = (k' : Int) := IntWalk.i64_in _ (by omega)
      by_cases hq : q.toNat < fee.toNat
      · have e4 : decide (fee.toNat ≤ q.toNat) = false := by simp; omega
        dsimp only at hst
        rw [decide_eq_true hq] at hst
        have HF := hide hst
        clear hst hprev HS
        go_upto_region 5 with (fail)
        go_quiet (fail)
        go_wp2
        go_roundw
        case rel => exact ⟨k' + 1 + 1, by omega, by go_num, hide (HBn.out _), hide (HXn.out _), hide (by rw [HF.out]; rfl)⟩
        case measure => simp [intOf]; omega
      · have e4 : decide (fee.toNat ≤ q.toNat) = true := by simp; omega
        dsimp only at hst
        rw [decide_eq_false hq] at hst
        have HF := hide hst
        clear hst hprev HS
        go_upto_region 5 with (fail)
        go_quiet (fail)
        go_wp2
        go_ret
        exact ⟨by rw [HRp.out, HF.out]; rfl, HBn.out _⟩
    · obtain rfl : k = n := by omega
      have hd1 : decide ((k : Int) < (k : Int)) = false := by simp
      have HF : Hid (stepR none (plainT K) = true) := hide (by rw [HS.out, HNp.out]; simp [stepR])
      by_cases h1 : k < 1
      · have d1 : decide ((1 : Int) ≤ (k : Int)) = false := by simp; omega
        have d2 : decide (1 ≤ k) = false := by simp; omega
        have HG : Hid (rp = false) := hide (by rw [HRp.out, d2]; simp)
        clear HF
        go_wp2
        go_ret
        exact ⟨by rw [HG.out]; rfl, HB.out⟩
      have d1 : decide ((1 : Int) ≤ (k : Int)) = true := by simp; omega
      have d2 : decide (1 ≤ k) = true := by simp; omega
      by_cases h2 : 8 < k
      · have d3 : decide ((k : Int) ≤ 8) = false := by simp; omega
        have d4 : decide (k ≤ 8) = false := by simp; omega
        have HG : Hid (rp = false) := hide (by rw [HRp.out, d4]; simp)
        clear HF
        go_wp2
        go_ret
        exact ⟨by rw [HG.out]; rfl, HB.out⟩
      have d3 : decide ((k : Int) ≤ 8) = true := by simp; omega
      have d4 : decide (k ≤ 8) = true := by simp; omega
      have HG : Hid (rp = true) := hide (by rw [HRp.out, HF.out, d2, d4]; rfl)
      clear HF
      go_wp2
      go_ret
      exact ⟨by rw [HG.out]; rfl, HB.out⟩
set_option maxRecDepth 100000 in
set_option maxHeartbeats 1600000 in
theorem refjright_any (j : JobM) (v : Value) (R : Array Value) (hR : JobVal j v R) (K : List TierK) (w : World) (S : Nat → Prop) (h : PayAt w S v K) (hmax : K.length ≤ 9223372036854775807) :
    Calls Try.prog 42 #[.agg R] w fun e w' => e = .returned (.bool (rightJ j (plainT K))) ∧ Below w.heap.size w w' := by
  obtain ⟨W0, hW0⟩ : ∃ W0, w.alloc (.cells R 75) = W0 := ⟨_, rfl⟩
  have hq0 : Blk W0 w.heap.size 75 R := by rw [← hW0]; exact Blk.new w _ R
  have hb0 : Below w.heap.size w W0 := by rw [← hW0]; exact (Below.refl _ _).alloc (Nat.le_refl _) _
  have HC := hide (refright13_any v K W0 S (h.below hb0) hmax)
  have HP := hide h
  obtain ⟨A, c, rfl, hc, _, _⟩ := h
  have hpl : (plainT K).length = K.length := by simp [plainT]
  have hrj : Hid (rightJ j (plainT K) = (rightP (plainT K) && (!decide (j.height.toNat = 0) && (decide (-1 ≤ j.live) && (decide (j.live < (K.length : Int)) && (decide (j.mined.toNat = 0) || decide (j.live = -1))))))) := hide (by unfold rightJ; rw [hpl])
  have x37 : W0.cell? ⟨w.heap.size, 37, none⟩ = some (.slice A K.length c) := (hq0.cell 37).trans hR.pay
  have HQ := hide hq0
  have HB := hide hb0
  have HR := hide hR
  replace hW0 := hide hW0
  obtain ⟨rp, hrp⟩ : ∃ rp, rp = rightP (plainT K) := ⟨_, rfl⟩
  rw [← hrp] at HC hrj
  clear hq0 hb0 hR hrp hpl
  generalize (plainT K) = L at *
  obtain ⟨ans, hans⟩ : ∃ ans, ans = rightJ j L := ⟨_, rfl⟩
  rw [← hans] at hrj ⊢
  clear hans
  have HX : Hid (∀ W, Below W0.heap.size W0 W → W.cell? ⟨w.heap.size, 34, none⟩ = some (c32 j.height) ∧ W.cell? ⟨w.heap.size, 35, none⟩ = some (c32 j.mined) ∧ W.cell? ⟨w.heap.size, 36, none⟩ = some (ci j.live) ∧ W.cell? ⟨w.heap.size, 37, none⟩ = some (.slice A K.length c)) := hide fun W hW => by
    have hB := HQ.out.below hW HQ.out.lt
    exact ⟨(hB.cell 34).trans HR.out.height, (hB.cell 35).trans HR.out.mined, (hB.cell 36).trans HR.out.live, (hB.cell 37).trans HR.out.pay⟩
  clear HR
  by_cases h0 : rp = false
  · subst h0
    have HF : Hid (ans = false) := hide (by rw [hrj.out]; rfl)
    go_enter Try.func42, Try.ntmps42
    go_upto_region 1 with (fail)
    rw [hW0.out]
    go_wp2_with (first
      | (go_at_call 81; (with_reducible refine HC.out.mono ?_); rintro e w3 ⟨rfl, hb3⟩; obtain ⟨y34, y35, y36, y37⟩ := HX.out w3 hb3; have HB3 := hide (below_next HB.out hb3); clear hb3)
      | fail)
    go_ret
    exact ⟨by rw [HF.out]; rfl, HB3.out⟩
  obtain rfl : rp = true := by simpa using h0
  clear h0
  by_cases h1 : j.height.toNat = 0
  · have e1 : decide (0 < j.height.toNat) = false := by simp [h1]
    have e1' : decide ((0 : Int) < (j.height.toNat : Int)) = false := by simp [h1]
    have HF : Hid (ans = false) := hide (by rw [hrj.out, decide_eq_true h1]; rfl)
    clear h1
    go_enter Try.func42, Try.ntmps42
    go_upto_region 1 with (fail)
    rw [hW0.out]
    go_wp2_with (first
      | (go_at_call 81; (with_reducible refine HC.out.mono ?_); rintro e w3 ⟨rfl, hb3⟩; obtain ⟨y34, y35, y36, y37⟩ := HX.out w3 hb3; have HB3 := hide (below_next HB.out hb3); clear hb3)
      | fail)
    go_ret
    exact ⟨by rw [HF.out]; rfl, HB3.out⟩
  have e1 : decide (0 < j.height.toNat) = true := by simp; omega
  have e1' : decide ((0 : Int) < (j.height.toNat : Int)) = true := by simp; omega
  rw [decide_eq_false h1] at hrj
  clear h1
  by_cases h2 : ¬ -1 ≤ j.live
  · have e2 : decide (-1 ≤ j.live) = false := by simpa using h2
    have HF : Hid (ans = false) := hide (by rw [hrj.out, e2]; rfl)
    clear h2
    go_enter Try.func42, Try.ntmps42
    go_upto_region 1 with (fail)
    rw [hW0.out]
    go_wp2_with (first
      | (go_at_call 81; (with_reducible refine HC.out.mono ?_); rintro e w3 ⟨rfl, hb3⟩; obtain ⟨y34, y35, y36, y37⟩ := HX.out w3 hb3; have HB3 := hide (below_next HB.out hb3); clear hb3)
      | fail)
    go_ret
    exact ⟨by rw [HF.out]; rfl, HB3.out⟩
  replace h2 := Classical.not_not.1 h2
  have e2 : decide (-1 ≤ j.live) = true := by simpa using h2
  rw [e2] at hrj
  clear h2
  by_cases h3 : ¬ j.live < (K.length : Int)
  · have e3 : decide (j.live < (K.length : Int)) = false := by simpa using h3
    have HF : Hid (ans = false) := hide (by rw [hrj.out, e3]; rfl)
    clear h3
    go_enter Try.func42, Try.ntmps42
    go_upto_region 1 with (fail)
    rw [hW0.out]
    go_wp2_with (first
      | (go_at_call 81; (with_reducible refine HC.out.mono ?_); rintro e w3 ⟨rfl, hb3⟩; obtain ⟨y34, y35, y36, y37⟩ := HX.out w3 hb3; have HB3 := hide (below_next HB.out hb3); clear hb3)
      | fail)
    go_ret
    exact ⟨by rw [HF.out]; rfl, HB3.out⟩
  replace h3 := Classical.not_not.1 h3
  have e3 : decide (j.live < (K.length : Int)) = true := by simpa using h3
  rw [e3] at hrj
  clear h3
  by_cases h4 : j.mined.toNat = 0
  · have e4 : ((j.mined.toNat : Int) == 0) = true := by simp [h4]
    have HF : Hid (ans = true) := hide (by rw [hrj.out, decide_eq_true h4]; rfl)
    clear h4
    go_enter Try.func42, Try.ntmps42
    go_upto_region 1 with (fail)
    rw [hW0.out]
    go_wp2_with (first
      | (go_at_call 81; (with_reducible refine HC.out.mono ?_); rintro e w3 ⟨rfl, hb3⟩; obtain ⟨y34, y35, y36, y37⟩ := HX.out w3 hb3; have HB3 := hide (below_next HB.out hb3); clear hb3)
      | fail)
    go_ret
    exact ⟨by rw [HF.out]; rfl, HB3.out⟩
  have e4 : ((j.mined.toNat : Int) == 0) = false := by simp; omega
  rw [decide_eq_false h4] at hrj
  clear h4
  by_cases h5 : j.live = -1
  · have e5 : (j.live == -1) = true := by simpa using h5
    have HF : Hid (ans = true) := hide (by rw [hrj.out, decide_eq_true h5]; rfl)
    clear h5
    go_enter Try.func42, Try.ntmps42
    go_upto_region 1 with (fail)
    rw [hW0.out]
    go_wp2_with (first
      | (go_at_call 81; (with_reducible refine HC.out.mono ?_); rintro e w3 ⟨rfl, hb3⟩; obtain ⟨y34, y35, y36, y37⟩ := HX.out w3 hb3; have HB3 := hide (below_next HB.out hb3); clear hb3)
      | fail)
    go_ret
    exact ⟨by rw [HF.out]; rfl, HB3.out⟩
  have e5 : (j.live == -1) = false := by simpa using h5
  have HF : Hid (ans = false) := hide (by rw [hrj.out, decide_eq_false h5]; rfl)
  clear h5
  go_enter Try.func42, Try.ntmps42
  go_upto_region 1 with (fail)
  rw [hW0.out]
  go_wp2_with (first
    | (go_at_call 81; (with_reducible refine HC.out.mono ?_); rintro e w3 ⟨rfl, hb3⟩; obtain ⟨y34, y35, y36, y37⟩ := HX.out w3 hb3; have HB3 := hide (below_next HB.out hb3); clear hb3)
    | fail)
  go_ret
  exact ⟨by rw [HF.out]; rfl, HB3.out⟩
/-- is there not too much of tiers? -/
def fewP (L : List TierV) : Bool := L.all (fun p => decide (p.2.length ≤ 200)) && decide (L.length ≤ 20)
set_option maxRecDepth 100000 in
set_option maxHeartbeats 800000 in
theorem few13_any (v : Value) (K : List TierK) (w : World) (S : Nat → Prop) (h : PayAt w S v K) (hmax : K.length ≤ 9223372036854775807) :
    Calls Try.prog 41 #[.agg #[v]] w fun e w' => e = .returned (.bool (fewP (plainT K))) ∧ Below w.heap.size w w' := by
  have HP := hide h
  obtain ⟨A, c, rfl, hc, _, _⟩ := h
  obtain ⟨n, hn⟩ : ∃ n, n = K.length := ⟨_, rfl⟩
  have HN := hide hn
  have HNp : Hid (n = (plainT K).length) := hide (by rw [hn]; simp [plainT])
  rw [← hn] at hc HP hmax ⊢
  clear hn
  obtain ⟨rp, hrp⟩ : ∃ rp, rp = fewP (plainT K) := ⟨_, rfl⟩
  have HRp : Hid (rp = ((plainT K).all (fun p => decide (p.2.length ≤ 200)) && decide (n ≤ 20))) := hide (by rw [hrp, HNp.out]; rfl)
  rw [← hrp]
  clear hrp
  go_enter Try.func41, Try.ntmps41
  go_wp2
  go_loopw [3] (fun i wr => ∃ (k : Nat), k ≤ n ∧ i = .int .i64 (k : Int) ∧ Hid (Below w.heap.size w wr) ∧ Hid (Blk wr w.heap.size 73 #[.slice A n c]) ∧ Hid ((plainT K).all (fun p => decide (p.2.length ≤ 200)) = ((plainT K).drop k).all (fun p => decide (p.2.length ≤ 200)))) (fun i _ => n - (intOf i).toNat)
  case atStart => exact ⟨0, Nat.zero_le _, rfl, hide ((Below.refl _ _).alloc (Nat.le_refl _) _), hide (Blk.new w _ _), hide rfl⟩
  case round =>
    obtain ⟨wz, rfl⟩ : ∃ wz : World, wz = wr := ⟨_, rfl⟩
    obtain ⟨k, hk, rfl, HB, HX, HS⟩ := hrel
    have x1 : wz.cell? ⟨w.heap.size, 0, none⟩ = some (.slice A n c) := (HX.out.cell 0).trans rfl
    by_cases hlt : k < n
    · have hd1 : decide ((k : Int) < (n : Int)) = true := by simpa using hlt
      have hkK : k < K.length := by rw [← HN.out]; exact hlt
      obtain ⟨ga, oa, rfl, hga, c1, c2⟩ := HP.out.at_ (k := k) hkK
      replace c1 := (HB.out.cell (p := ⟨ga, oa + k * 2, none⟩) hga).trans c1
      replace c2 := (HB.out.cell (p := ⟨ga, oa + k * 2 + 1, none⟩) hga).trans c2
      have HTx := HP.out.tx (List.getElem_mem hkK)
      have HD : Hid (((plainT K).drop k).all (fun p => decide (p.2.length ≤ 200)) = (decide (K[k].2.2.length ≤ 200) && ((plainT K).drop (k + 1)).all (fun p => decide (p.2.length ≤ 200)))) := hide (by
        rw [List.drop_eq_getElem_cons (by rw [← HNp.out]; exact hlt), List.all_cons]
        simp [plainT])
      have hk0 : (0 : Int) ≤ (k : Int) := by omega
      generalize (K[k]'hkK) = p at *
      obtain ⟨fee, u, bs⟩ := p
      obtain ⟨A2, c2', e2, _, _⟩ := HTx
      dsimp only at e2 c1 c2 HD
      subst e2
      by_cases hb : bs.length ≤ 200
      · have e1 : decide ((200 : Int) < (bs.length : Int)) = false := by simp; omega
        rw [decide_eq_true hb] at HD
        have HS2 : Hid ((plainT K).all (fun p => decide (p.2.length ≤ 200)) = ((plainT K).drop (k + 1)).all (fun p => decide (p.2.length ≤ 200))) := hide (by rw [HS.out, HD.out]; rfl)
        clear HS HD
        go_wp2
        go_roundw
        case rel => exact ⟨k + 1, by omega, by go_num, HB, HX, HS2⟩
        case measure => simp [intOf]; omega
      · have e1 : decide ((200 : Int) < (bs.length : Int)) = true := by simp; omega
        rw [decide_eq_false hb] at HD
        have HG : Hid (rp = false) := hide (by rw [HRp.out, HS.out, HD.out]; rfl)
        clear HS HD
        go_wp2
        go_ret
        exact ⟨by rw [HG.out]; rfl, HB.out⟩
    · obtain rfl : k = n := by omega
      have hd1 : decide ((k : Int) < (k : Int)) = false := by simp
      have HF : Hid (rp = decide ((k : Int) ≤ 20)) := hide (by
        have e0 : (plainT K).drop k = [] := List.drop_eq_nil_of_le (by rw [← HNp.out]; exact Nat.le_refl _)
        rw [HRp.out, HS.out, e0, List.all_nil, Bool.true_and]
        exact decide_eq_decide.2 (by omega))
      clear HS
      go_wp2
      go_ret
      exact ⟨by rw [HF.out]; rfl, HB.out⟩
end Go.Proofs.Ytccpkafmbmkmfaa
