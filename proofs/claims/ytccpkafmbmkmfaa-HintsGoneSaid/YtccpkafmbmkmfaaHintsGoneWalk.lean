/- The walk of miradorlaw24.HintsGone. No condition. -/
import Derived.Test.YtccpkafmbmkmfaaHintsPlain
import Derived.Test.YtccpkafmbmkmfaaHintsAlive
import Derived.Test.YtccpkafmbmkmfaaOpenPairs
namespace Go.Proofs.Ytccpkafmbmkmfaa
open Go.RowKit
set_option linter.unusedVariables false
set_option linter.unusedSimpArgs false

/-- no block is named -/
abbrev K0 : Nat → Prop := fun _ => False
theorem there0 (W : World) : hInt.There W K0 := fun _ h => h.elim
abbrev LiveI (w W : World) (K : Nat → Prop) (g b : Nat) (C : Noted Int) : Prop := hInt.Live w W K g b C
set_option maxRecDepth 100000 in
theorem hintsGone_big (A : Option Addr) (n c t : Nat) (hn : 200 < n) (w : World) :
    Calls Try.prog 6 #[.slice A n c, .int .u8 (t : Int)] w fun e w' => e = .returned (.bool true) ∧ Below w.heap.size w w' := by
  have hd : decide ((200 : Int) < (n : Int)) = true := by simp; omega
  go_enter Try.func6, Try.ntmps6
  go_wp2_with (go_at_call 19; with_reducible refine (alive24_any _).mono ?_; rintro e w1 ⟨rfl, hb1⟩; have B1 := hide hb1; clear hb1)
  go_ret
  exact ⟨rfl, B1.out⟩
set_option maxRecDepth 100000 in
set_option maxHeartbeats 3200000 in
theorem hintsGone_few (A : Option Addr) (n c t : Nat) (L : PairL) (ht : t < 256) (hn : n ≤ 200) (w : World) (hr : Reads w w.heap.size 2 A n (pc L)) (hL : L.length = n) (hP : InP L) :
    Calls Try.prog 6 #[.slice A n c, .int .u8 (t : Int)] w fun e w' => e = .returned (.bool true) ∧ Below w.heap.size w w' := by
  have HL := hide hL
  have HR := hide hr
  have HP := hide hP
  clear hL hr hP
  have hd : decide ((200 : Int) < (n : Int)) = false := by simp; omega
  have HNew := hide (hInt.live_new' (w0 := w) (W := w) (K := K0) (Below.refl _ _) (there0 _))
  go_enter Try.func6, Try.ntmps6
  go_wp2_with (first
    | (go_at_call 26; (with_reducible refine HNew.out.mono ?_); rintro e w1 ⟨g, b, rfl, hl1, hb1, _, _⟩; replace hl1 := hide hl1; clear hb1)
    | fail)
  go_loopw [6, 8, 9, 10, 22, 39, 40] (fun m p a j i l' i' wr => ∃ (k mm : Nat) (C : Noted Int), k ≤ n ∧ i = .int .i64 (k : Int) ∧ m = .int .i64 (mm : Int) ∧ Hid (mm = totalOf C) ∧ Hid (GoneA L k C) ∧ Hid (LiveI w wr K0 g b C)) (fun _ _ _ _ i _ _ _ => n - (intOf i).toNat)
  case atStart => exact ⟨0, 0, [], Nat.zero_le _, rfl, rfl, hide rfl, hide (GoneA.nil L), hl1⟩
  case round =>
    obtain ⟨wz, rfl⟩ : ∃ wz : World, wz = wr := ⟨_, rfl⟩
    obtain ⟨k, mm, C, hk, rfl, rfl, HMM, HG, HV⟩ := hrel
    have htl : mm ≤ k := by rw [HMM.out]; exact HG.out.tot
    by_cases hlt : k < n
    · have hd1 : decide ((k : Int) < (n : Int)) = true := by simpa using hlt
      obtain ⟨ga, oa, rfl, hga, c1, c2⟩ := reads_pair HR.out (k := k) (by rw [HL.out]; exact hlt)
      replace c1 := (HV.out.below.cell (p := ⟨ga, oa + k * 2, none⟩) hga).trans c1
      replace c2 := (HV.out.below.cell (p := ⟨ga, oa + k * 2 + 1, none⟩) hga).trans c2
      have HN := hide (HG.out.next HV.out.keys (by rw [HL.out]; exact hlt))
      have hb := HP.out _ (List.getElem_mem (show k < L.length by rw [HL.out]; exact hlt))
      generalize (L[k]'(by rw [HL.out]; exact hlt)) = p at *
      obtain ⟨x, y⟩ := p
      dsimp only at c1 c2 HN hb
      have hT := hide (hInt.total_note HV.out.keys x y)
      obtain ⟨W1, hW1⟩ : ∃ W1, W1 = wz.alloc (.cells #[.int .i64 x, .int .i64 y] 49) := ⟨_, rfl⟩
      have HV1 := hide ((HV.out.more (K' := fun i => i = wz.heap.size) (fun i hi _ => by omega)).later (W' := W1) (by rw [hW1]; exact (Below.refl _ _).alloc (Nat.le_refl _) _))
      have P1 := hide (show Blk W1 wz.heap.size 49 #[.int .i64 x, .int .i64 y] by rw [hW1]; exact Blk.new wz _ _)
      have hTh : hInt.There W1 (fun i => i = wz.heap.size) := fun i hi => by rw [hW1]; simp; omega
      have HCall := hide (hInt.live_note x hb.1 y hb.2 HV1.out (by have := HMM.out; omega) hTh)
      rw [hW1] at HCall P1
      have hk0 : (0 : Int) ≤ (k : Int) := by omega
      by_cases hm : y ∈ valsOf C x
      · rw [decide_eq_false (by simpa using hm)] at HCall
        have heq : mm = totalOf (hInt.noteC C x y) := by rw [hT.out, if_pos hm, HMM.out]; rfl
        have HEq := hide heq
        clear heq
        clear hT hm
        obtain ⟨zs, hzs⟩ : ∃ zs, zs = valsOf (hInt.noteC C x y) x := ⟨_, rfl⟩
        have HZs := hide hzs
        clear hzs
        go_wp2_with (first
          | (go_at_call 27; (with_reducible refine HCall.out.mono ?_); rintro e w2 ⟨rfl, hl2, hs2⟩; have HV2 := hide hl2; have P2 := hide (hs2.blk P1.out rfl); have HA2 := hide (hInt.live_at x hb.1 hl2 (by have := HEq.out; omega)); rw [← HZs.out] at HA2; have k0 : w2.cell? ⟨wz.heap.size, 0, none⟩ = some (.int .i64 x) := (P2.out.cell 0).trans rfl; clear hl2 hs2)
          | (go_at_call 28; (with_reducible refine HA2.out.mono ?_); rintro e w3 ⟨v3, rfl, ho3, hb3⟩; obtain ⟨A6, c6, rfl⟩ := own_slice ho3; have HO3 := hide ho3; have HB3 := hide hb3; clear ho3 hb3)
          | fail)
        have HV3 := hide (((HV2.out.more (K' := fun i => w2.heap.size ≤ i) (fun i hi _ => hi)).later HB3.out).more (K' := fun i => w2.heap.size ≤ i ∧ i < w3.heap.size) (fun i hi hni => absurd hi.1 hni))
        have hw2 : w.heap.size ≤ w2.heap.size := HV2.out.below.size
        have h23 : w2.heap.size ≤ w3.heap.size := HB3.out.size
        have hzl : zs.length ≤ 300 := by
          have h1 := vals_le _ HV3.out.keys x
          rw [← HZs.out] at h1
          have h2 := HN.out.tot
          omega
        clear HA2 HB3 HV2 P2 k0 HCall P1 HZs
        generalize w2.heap.size = p2 at *
        generalize hp3 : w3.heap.size = p3 at *
        go_loopw [10, 40] (fun a' j' wr => ∃ (j : Nat) (ys : List Int), j ≤ zs.length ∧ j' = .int .i64 (j : Int) ∧ ys.length = zs.length ∧ Hid (wr.ownsRow p2 3 1 (.slice A6 zs.length c6) zs.length (ys.map ci)) ∧ Hid (LiveI w wr (fun i => p2 ≤ i ∧ i < p3) g b (hInt.noteC C x y)) ∧ wr.heap.size = p3) (fun _ j' _ => zs.length - (intOf j').toNat)
        case atStart => exact ⟨0, zs, Nat.zero_le _, rfl, rfl, HO3, HV3, hp3⟩
        case round =>
          obtain ⟨j, ys, hj, rfl, hyl, HO, HVr, hsz⟩ := hrel
          by_cases hjl : j < zs.length
          · have hd2 : decide ((j : Int) < (zs.length : Int)) = true := by simpa using hjl
            have HO' := HO.out
            rw [← hyl] at HO'
            obtain ⟨g6, e6, hg6, hc6, cur, hcur⟩ := hInt.own_cell HO' (j := j) (by omega)
            subst e6
            have h6 : g6 < p3 := by rw [← hsz]; exact (Array.getElem?_eq_some_iff.1 hcur).1
            have hf6 : wr.frozen? ⟨g6, j, none⟩ = false := by simp [World.frozen?, hcur]
            have HSt : Hid (∀ V : Int, (wr.setCell ⟨g6, j, none⟩ (.int .i64 V)).ownsRow p2 3 1 (.slice (some ⟨g6, 0, none⟩) zs.length c6) zs.length ((ys.set j V).map ci)) := hide fun V => by
              rw [List.map_set]; exact (HO.out.stored j (ci V)).1
            have HLs : Hid (∀ V : Int, LiveI w (wr.setCell ⟨g6, j, none⟩ (.int .i64 V)) (fun i => p2 ≤ i ∧ i < p3) g b (hInt.noteC C x y)) := hide fun V => HVr.out.set ⟨hg6, h6⟩ (by omega) j _
            have hj0 : (0 : Int) ≤ (j : Int) := by omega
            have HYl := hide hyl
            have HSz := hide hsz
            generalize (ys[j]'(by have := HYl.out; omega)) = y6 at *
            clear HO' hcur hsz hyl
            go_wp2
            go_roundw
            case rel => exact ⟨j + 1, ys.set j _, by omega, by go_num, by rw [List.length_set]; exact HYl.out, hide (HSt.out _), hide (HLs.out _), by rw [World.size_setCell]; exact HSz.out⟩
            case measure => simp [intOf]; omega
          · obtain rfl : j = zs.length := by omega
            have HVe := hide (HVr.out.more (K' := K0) (fun i hi _ => hi.elim))
            go_wp2
            go_roundw
            case rel => exact ⟨k + 1, mm, _, by omega, by go_num, rfl, HEq, HN, HVe⟩
            case measure => simp [intOf]; omega
      · rw [decide_eq_true (by simpa using hm)] at HCall
        have heq : mm + 1 = totalOf (hInt.noteC C x y) := by rw [hT.out, if_neg hm, HMM.out]
        have HEq := hide heq
        clear heq
        clear hT hm
        obtain ⟨zs, hzs⟩ : ∃ zs, zs = valsOf (hInt.noteC C x y) x := ⟨_, rfl⟩
        have HZs := hide hzs
        clear hzs
        go_wp2_with (first
          | (go_at_call 27; (with_reducible refine HCall.out.mono ?_); rintro e w2 ⟨rfl, hl2, hs2⟩; have HV2 := hide hl2; have P2 := hide (hs2.blk P1.out rfl); have HA2 := hide (hInt.live_at x hb.1 hl2 (by have := HEq.out; omega)); rw [← HZs.out] at HA2; have k0 : w2.cell? ⟨wz.heap.size, 0, none⟩ = some (.int .i64 x) := (P2.out.cell 0).trans rfl; clear hl2 hs2)
          | (go_at_call 28; (with_reducible refine HA2.out.mono ?_); rintro e w3 ⟨v3, rfl, ho3, hb3⟩; obtain ⟨A6, c6, rfl⟩ := own_slice ho3; have HO3 := hide ho3; have HB3 := hide hb3; clear ho3 hb3)
          | fail)
        have HV3 := hide (((HV2.out.more (K' := fun i => w2.heap.size ≤ i) (fun i hi _ => hi)).later HB3.out).more (K' := fun i => w2.heap.size ≤ i ∧ i < w3.heap.size) (fun i hi hni => absurd hi.1 hni))
        have hw2 : w.heap.size ≤ w2.heap.size := HV2.out.below.size
        have h23 : w2.heap.size ≤ w3.heap.size := HB3.out.size
        have hzl : zs.length ≤ 300 := by
          have h1 := vals_le _ HV3.out.keys x
          rw [← HZs.out] at h1
          have h2 := HN.out.tot
          omega
        clear HA2 HB3 HV2 P2 k0 HCall P1 HZs
        generalize w2.heap.size = p2 at *
        generalize hp3 : w3.heap.size = p3 at *
        go_loopw [10, 40] (fun a' j' wr => ∃ (j : Nat) (ys : List Int), j ≤ zs.length ∧ j' = .int .i64 (j : Int) ∧ ys.length = zs.length ∧ Hid (wr.ownsRow p2 3 1 (.slice A6 zs.length c6) zs.length (ys.map ci)) ∧ Hid (LiveI w wr (fun i => p2 ≤ i ∧ i < p3) g b (hInt.noteC C x y)) ∧ wr.heap.size = p3) (fun _ j' _ => zs.length - (intOf j').toNat)
        case atStart => exact ⟨0, zs, Nat.zero_le _, rfl, rfl, HO3, HV3, hp3⟩
        case round =>
          obtain ⟨j, ys, hj, rfl, hyl, HO, HVr, hsz⟩ := hrel
          by_cases hjl : j < zs.length
          · have hd2 : decide ((j : Int) < (zs.length : Int)) = true := by simpa using hjl
            have HO' := HO.out
            rw [← hyl] at HO'
            obtain ⟨g6, e6, hg6, hc6, cur, hcur⟩ := hInt.own_cell HO' (j := j) (by omega)
            subst e6
            have h6 : g6 < p3 := by rw [← hsz]; exact (Array.getElem?_eq_some_iff.1 hcur).1
            have hf6 : wr.frozen? ⟨g6, j, none⟩ = false := by simp [World.frozen?, hcur]
            have HSt : Hid (∀ V : Int, (wr.setCell ⟨g6, j, none⟩ (.int .i64 V)).ownsRow p2 3 1 (.slice (some ⟨g6, 0, none⟩) zs.length c6) zs.length ((ys.set j V).map ci)) := hide fun V => by
              rw [List.map_set]; exact (HO.out.stored j (ci V)).1
            have HLs : Hid (∀ V : Int, LiveI w (wr.setCell ⟨g6, j, none⟩ (.int .i64 V)) (fun i => p2 ≤ i ∧ i < p3) g b (hInt.noteC C x y)) := hide fun V => HVr.out.set ⟨hg6, h6⟩ (by omega) j _
            have hj0 : (0 : Int) ≤ (j : Int) := by omega
            have HYl := hide hyl
            have HSz := hide hsz
            generalize (ys[j]'(by have := HYl.out; omega)) = y6 at *
            clear HO' hcur hsz hyl
            go_wp2
            go_roundw
            case rel => exact ⟨j + 1, ys.set j _, by omega, by go_num, by rw [List.length_set]; exact HYl.out, hide (HSt.out _), hide (HLs.out _), by rw [World.size_setCell]; exact HSz.out⟩
            case measure => simp [intOf]; omega
          · obtain rfl : j = zs.length := by omega
            have HVe := hide (HVr.out.more (K' := K0) (fun i hi _ => hi.elim))
            go_wp2
            go_roundw
            case rel => exact ⟨k + 1, mm + 1, _, by omega, by go_num, by go_num, HEq, HN, HVe⟩
            case measure => simp [intOf]; omega
    · obtain rfl : k = n := by omega
      have HGB := hide ((show GoneA L L.length C by rw [HL.out]; exact HG.out).b (t := t))
      have HLen : Hid (∀ g' b' C' W, LiveI w W K0 g' b' C' → Calls Try.prog 29 #[.pointer (some ⟨g', 0, none⟩)] W fun e w' => e = .returned (.int .i64 (totalOf C' : Int)) ∧ W = w') := hide fun g' b' C' W h => by
        obtain ⟨S, _, h2, _⟩ := h; exact hInt.len_live W S g' b' C' h2
      have HLen1 := hide (HLen.out g b C wz HV.out)
      rw [← HMM.out] at HLen1
      have hne : ((mm : Int) != (mm : Int)) = false := by simp
      go_wp2_with (first
        | (go_at_call 29; (with_reducible refine HLen1.out.mono ?_); rintro e w4 ⟨rfl, rfl⟩)
        | fail)
      clear hne HLen1
      go_loopw [6, 11, 12, 57] (fun m i0 p i wr => ∃ (i' mm : Nat) (C : Noted Int), i' ≤ k ∧ i = .int .i64 (i' : Int) ∧ m = .int .i64 (mm : Int) ∧ Hid (mm = totalOf C) ∧ Hid (GoneB L t i' C) ∧ Hid (LiveI w wr K0 g b C)) (fun _ _ _ i _ => k - (intOf i).toNat)
      case atStart => exact ⟨0, mm, C, Nat.zero_le _, rfl, rfl, HMM, HGB, HV⟩
      case round =>
        clear HMM HGB HV HG htl
        obtain ⟨wy, rfl⟩ : ∃ wy : World, wy = wr := ⟨_, rfl⟩
        obtain ⟨i, m2, C2, hi, rfl, rfl, HMM, HG, HV⟩ := hrel
        have htl : m2 ≤ k := by have := HG.out.tot; rw [HL.out] at this; rw [HMM.out]; exact this
        by_cases hil : i < k
        · have hd2 : decide ((i : Int) < (k : Int)) = true := by simpa using hil
          obtain ⟨q, hq⟩ : ∃ q, q = (i + t) % k := ⟨_, rfl⟩
          have hqk : q < k := by rw [hq]; exact Nat.mod_lt _ (by omega)
          have hrem : ((i : Int) + (t : Int)) % (k : Int) = (q : Int) := by rw [hq, Int.natCast_emod, Int.natCast_add]
          obtain ⟨ga, oa, rfl, hga, c1, c2⟩ := reads_pair HR.out (k := q) (by rw [HL.out]; exact hqk)
          replace c1 := (HV.out.below.cell (p := ⟨ga, oa + q * 2, none⟩) hga).trans c1
          replace c2 := (HV.out.below.cell (p := ⟨ga, oa + q * 2 + 1, none⟩) hga).trans c2
          have HN := hide (HG.out.next (q := q) HV.out.keys (by rw [HL.out]; exact hq) (by rw [HL.out]; exact hqk))
          have HH := hide (HG.out.has HV.out.keys (q := q) (by rw [HL.out]; exact hqk))
          have hb := HP.out _ (List.getElem_mem (show q < L.length by rw [HL.out]; exact hqk))
          have HQ := hide hq
          clear hq
          generalize (L[q]'(by rw [HL.out]; exact hqk)) = p at *
          obtain ⟨x, y⟩ := p
          dsimp only at c1 c2 HN hb HH
          have hT := hide (hInt.total_strike HV.out.keys x y)
          obtain ⟨W1, hW1⟩ : ∃ W1, W1 = wy.alloc (.cells #[.int .i64 x, .int .i64 y] 49) := ⟨_, rfl⟩
          have HV1 := hide ((HV.out.more (K' := fun i => i = wy.heap.size) (fun i hi _ => by omega)).later (W' := W1) (by rw [hW1]; exact (Below.refl _ _).alloc (Nat.le_refl _) _))
          have P1 := hide (show Blk W1 wy.heap.size 49 #[.int .i64 x, .int .i64 y] by rw [hW1]; exact Blk.new wy _ _)
          have hTh : hInt.There W1 (fun i => i = wy.heap.size) := fun i hi => by rw [hW1]; simp; omega
          have HCall := hide (hInt.live_strike x hb.1 y hb.2 HV1.out (by have := HMM.out; omega) hTh)
          rw [hW1] at HCall P1
          have hi0 : (0 : Int) ≤ (i : Int) := by omega
          have hk1 : (1 : Int) ≤ (k : Int) := by omega
          have hk2 : ¬ k = 0 := by omega
          have hk3 : ((k : Int) == 0) = false := by rw [beq_eq_false_iff_ne]; omega
          have hq0 : (0 : Int) ≤ (q : Int) := by omega
          have hq1 : (q : Int) < (k : Int) := by omega
          clear hTh
          by_cases hm : y ∈ valsOf C2 x
          · rw [decide_eq_true hm] at HCall
            have hT' := hT.out
            rw [if_pos hm] at hT'
            have hm1 : 1 ≤ m2 := by have := HMM.out; omega
            have HEq := hide (show m2 - 1 = totalOf (hInt.strikeC C2 x y) by have := HMM.out; omega)
            have hne : (((m2 - 1 : Nat) : Int) != ((m2 - 1 : Nat) : Int)) = false := by simp
            have hsub : (m2 : Int) - 1 = ((m2 - 1 : Nat) : Int) := by omega
            have HSub := hide hsub
            clear hT hT' hm hsub
            generalize hm3 : m2 - 1 = m3 at *
            have hm4 : (m2 : Int) - 1 = (m3 : Int) := HSub.out
            have hm5 : m3 ≤ 300 := by omega
            clear hm3
            go_wp2_with (first
              | (go_at_call 30; (with_reducible refine HCall.out.mono ?_); rintro e w2 ⟨rfl, hl2, hs2, _⟩; have HV2 := hide hl2; have P2 := hide (hs2.blk P1.out rfl); have k0 : w2.cell? ⟨wy.heap.size, 0, none⟩ = some (.int .i64 x) := (P2.out.cell 0).trans rfl; have k1 : w2.cell? ⟨wy.heap.size, 1, none⟩ = some (.int .i64 y) := (P2.out.cell 1).trans rfl; have HHas := hide (hInt.live_has x hb.1 y hl2 (by have := HEq.out; omega)); rw [decide_eq_false HH.out] at HHas; clear hl2 hs2)
              | (go_at_call 31; (with_reducible refine HHas.out.mono ?_); rintro e w3 ⟨rfl, hb3⟩; have HV3 := hide ((HV2.out.later hb3).more (K' := K0) (fun i hi _ => hi.elim)); have HLn := hide (HLen.out g b _ w3 HV3.out); rw [← HEq.out] at HLn; clear hb3)
              | (go_at_call 29; (with_reducible refine HLn.out.mono ?_); rintro e w4 ⟨rfl, rfl⟩)
              | fail)
            go_roundw
            case rel => exact ⟨i + 1, m3, _, by omega, by go_num, rfl, HEq, HN, HV3⟩
            case measure => simp [intOf]; omega
          · rw [decide_eq_false hm] at HCall
            have hT' := hT.out
            rw [if_neg hm] at hT'
            have HEq := hide (show m2 = totalOf (hInt.strikeC C2 x y) by have := HMM.out; omega)
            have hne : ((m2 : Int) != (m2 : Int)) = false := by simp
            clear hT hT' hm
            go_wp2_with (first
              | (go_at_call 30; (with_reducible refine HCall.out.mono ?_); rintro e w2 ⟨rfl, hl2, hs2, _⟩; have HV2 := hide hl2; have P2 := hide (hs2.blk P1.out rfl); have k0 : w2.cell? ⟨wy.heap.size, 0, none⟩ = some (.int .i64 x) := (P2.out.cell 0).trans rfl; have k1 : w2.cell? ⟨wy.heap.size, 1, none⟩ = some (.int .i64 y) := (P2.out.cell 1).trans rfl; have HHas := hide (hInt.live_has x hb.1 y hl2 (by have := HEq.out; omega)); rw [decide_eq_false HH.out] at HHas; clear hl2 hs2)
              | (go_at_call 31; (with_reducible refine HHas.out.mono ?_); rintro e w3 ⟨rfl, hb3⟩; have HV3 := hide ((HV2.out.later hb3).more (K' := K0) (fun i hi _ => hi.elim)); have HLn := hide (HLen.out g b _ w3 HV3.out); rw [← HEq.out] at HLn; clear hb3)
              | (go_at_call 29; (with_reducible refine HLn.out.mono ?_); rintro e w4 ⟨rfl, rfl⟩)
              | fail)
            go_roundw
            case rel => exact ⟨i + 1, m2, _, by omega, by go_num, rfl, HEq, HN, HV3⟩
            case measure => simp [intOf]; omega
        · obtain rfl : i = k := by omega
          have he : C2 = [] := (show GoneB L t L.length C2 by rw [HL.out]; exact HG.out).end_ HV.out.keys HV.out.nonempty
          subst he
          obtain rfl : m2 = 0 := HMM.out
          have HKeys : Hid (Calls Try.prog 32 #[.pointer (some ⟨g, 0, none⟩)] wy fun e w' => e = .returned (.int .i64 0) ∧ wy = w') := hide (by
            obtain ⟨S, _, h2, _⟩ := HV.out; exact hInt.keys_live wy S g b [] h2)
          go_wp2_with (first
            | (go_at_call 32; (with_reducible refine HKeys.out.mono ?_); rintro e w4 ⟨rfl, rfl⟩)
            | (go_at_call 19; with_reducible refine (alive24_any _).mono ?_; rintro e w5 ⟨rfl, hb5⟩; have B5 := hide (below_then HV.out.below HV.out.below.size hb5); clear hb5)
            | fail)
          go_ret
          exact ⟨rfl, B5.out⟩
theorem hintsGone_walk (w : World) (A0 : Option Addr) (n0 c0 : Nat) (L0 : PairL) (r0 : Reads w w.heap.size 2 A0 n0 (pc L0)) (e0 : L0.length = n0) (p0 : InP L0) (x1 : BitVec 8) :
    Calls Try.prog 6 #[.slice A0 n0 c0, .int .u8 (x1.toNat : Int)] w fun e w' => e = .returned (.bool true) ∧ Below w.heap.size w w' := by
  by_cases h : n0 ≤ 200
  · exact hintsGone_few A0 n0 c0 x1.toNat L0 x1.isLt h w r0 e0 p0
  · exact hintsGone_big A0 n0 c0 x1.toNat (by omega) w
end Go.Proofs.Ytccpkafmbmkmfaa
