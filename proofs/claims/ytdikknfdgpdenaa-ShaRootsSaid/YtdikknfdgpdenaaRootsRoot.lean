/- Chapter 02's reference: which number by digits is greater; roots. Condition: numbers below 2^48. -/
import Derived.Test.YtdikknfdgpdenaaRootsTimes
import Derived.Deep.CutRange
import Derived.Deep.DeepCutAuto
namespace Go.Proofs.Ytdikknfdgpdenaa
open Go.RowKit
set_option linter.unusedVariables false
set_option linter.unusedSimpArgs false

set_option maxRecDepth 100000 in
set_option maxHeartbeats 1600000 in
theorem most_any (A1 : Option Addr) (n1 c1 : Nat) (l1 : List Nat) (v1 : Nat) (A2 : Option Addr) (n2 c2 : Nat) (l2 : List Nat) (v2 : Nat) (w : World) (h1 : DigitsOf w A1 n1 l1 v1) (h2 : DigitsOf w A2 n2 l2 v2) (hn1 : n1 ≤ 100) (hn2 : n2 ≤ 100) :
    Calls Try.prog 72 #[.slice A1 n1 c1, .slice A2 n2 c2] w fun e w' => e = .returned (.bool (decide (v1 ≤ v2))) ∧ w = w' := by
  obtain ⟨r1, len1, d1, hv1⟩ := h1
  obtain ⟨r2, len2, d2, hv2⟩ := h2
  obtain ⟨N, hN⟩ : ∃ N, N = max n1 n2 := ⟨_, rfl⟩
  have R1 := hide r1
  have R2 := hide r2
  have L1 := hide len1
  have L2 := hide len2
  have D1 := hide d1
  have D2 := hide d2
  have V1 := hide hv1
  have V2 := hide hv2
  have HN := hide hN
  clear r1 r2 len1 len2 d1 d2 hv1 hv2 hN
  go_enter Try.func72, Try.ntmps72
  go_upto_if 14 with fail
  go_cut [5] (fun s5 wx => s5 = .int .i64 (N : Int) ∧ w = wx)
  case first =>
    by_cases hb : n1 < n2
    · have hd : decide ((n1 : Int) < (n2 : Int)) = true := by simp; omega
      have e : N = n2 := by have := HN.out; omega
      go_wp2_with fail
      go_meet
      exact ⟨by rw [e], rfl⟩
    · have hd : decide ((n1 : Int) < (n2 : Int)) = false := by simp; omega
      have e : N = n1 := by have := HN.out; omega
      go_wp2_with fail
      go_meet
      exact ⟨by rw [e], rfl⟩
  case rest =>
    obtain ⟨rfl, rfl⟩ := hcut
    have hN2 : N ≤ 100 := by have := HN.out; omega
    go_wp2
    go_loop [6] (fun y => ∃ k : Nat, y = .int .i64 ((k : Int) - 1) ∧ k ≤ N ∧ Hid (valOf (l1.drop k) = valOf (l2.drop k))) (fun y => (intOf y + 1).toNat)
    case atStart => exact ⟨N, rfl, Nat.le_refl _, hide (by rw [List.drop_eq_nil_of_le (by have := HN.out; rw [L1.out]; omega), List.drop_eq_nil_of_le (by have := HN.out; rw [L2.out]; omega)])⟩
    case round =>
      obtain ⟨k, rfl, hk, HV⟩ := hrel
      cases k with
      | zero =>
        have hV := HV.out
        rw [List.drop_zero, List.drop_zero, V1.out, V2.out] at hV
        have HR : Hid (decide (v1 ≤ v2) = true) := hide (decide_eq_true (by omega))
        clear HV hV
        have hd : decide ((0 : Int) ≤ -1) = false := by decide
        go_wp2
        go_ret
        exact ⟨by rw [HR.out]; rfl, rfl⟩
      | succ j =>
        rw [show (((j + 1 : Nat) : Int) - 1) = (j : Int) by omega]
        have hv := HV.out
        have hj0 : (0 : Int) ≤ (j : Int) := by omega
        have hj1 : (j : Int) < 100 := by omega
        have hd : decide ((0 : Int) ≤ (j : Int)) = true := by simp
        clear HV
        obtain ⟨x, hx⟩ : ∃ x, x = l1.getD j 0 := ⟨_, rfl⟩
        obtain ⟨y, hy⟩ : ∃ y, y = l2.getD j 0 := ⟨_, rfl⟩
        have HX := hide hx
        have HY := hide hy
        by_cases hj1n : j < n1
        · have hd1 : decide ((j : Int) < (n1 : Int)) = true := by simp; omega
          have hjn1 : (j : Int) < (n1 : Int) := by omega
          obtain ⟨g1, f1, rfl, hg1, hc1⟩ := reads_digit R1.out (k := j) (by rw [L1.out]; exact hj1n)
          rw [← hx] at hc1
          by_cases hj2n : j < n2
          · have hd2 : decide ((j : Int) < (n2 : Int)) = true := by simp; omega
            have hjn2 : (j : Int) < (n2 : Int) := by omega
            obtain ⟨g2, f2, rfl, hg2, hc2⟩ := reads_digit R2.out (k := j) (by rw [L2.out]; exact hj2n)
            rw [← hy] at hc2
            clear hx hy
            by_cases hxy : x = y
            · have hne : ((x : Int) != (y : Int)) = false := by first | (rw [hxy]; simp) | (rw [← hxy]; simp)
              have HEQ : Hid (valOf (l1.drop j) = valOf (l2.drop j)) := hide (by rw [valOf_drop l1 j, valOf_drop l2 j, hv, ← HX.out, ← HY.out, hxy])
              clear hxy hv
              go_wp2
              go_round
              case rel => exact ⟨j, rfl, by omega, HEQ⟩
              case measure => (simp [intOf]; try omega)
            · have hne : ((x : Int) != (y : Int)) = true := by rw [bne_iff_ne]; omega
              have HR : Hid (decide (v1 ≤ v2) = decide (x < y)) := hide (by
                have h := most_at l1 l2 j D1.out D2.out hv (by rw [← HX.out, ← HY.out]; exact hxy)
                rw [V1.out, V2.out, ← HX.out, ← HY.out] at h
                exact h)
              clear hxy hv
              go_wp2
              go_ret
              exact ⟨by rw [HR.out]; first | rfl | (simp; rfl), rfl⟩
          · have hd2 : decide ((j : Int) < (n2 : Int)) = false := by simp; omega
            have hy0 : y = 0 := by rw [hy]; simp only [List.getD]; rw [List.getElem?_eq_none (by rw [L2.out]; omega)]; rfl
            rw [hy0] at HY
            clear hx hy hy0
            by_cases hxy : x = 0
            · have hne : ((x : Int) != (0 : Int)) = false := by first | (rw [hxy]; simp) | (rw [← hxy]; simp)
              have HEQ : Hid (valOf (l1.drop j) = valOf (l2.drop j)) := hide (by rw [valOf_drop l1 j, valOf_drop l2 j, hv, ← HX.out, ← HY.out, hxy])
              clear hxy hv
              go_wp2
              go_round
              case rel => exact ⟨j, rfl, by omega, HEQ⟩
              case measure => (simp [intOf]; try omega)
            · have hne : ((x : Int) != (0 : Int)) = true := by rw [bne_iff_ne]; omega
              have HR : Hid (decide (v1 ≤ v2) = decide (x < 0)) := hide (by
                have h := most_at l1 l2 j D1.out D2.out hv (by rw [← HX.out, ← HY.out]; exact hxy)
                rw [V1.out, V2.out, ← HX.out, ← HY.out] at h
                exact h)
              clear hxy hv
              go_wp2
              go_ret
              exact ⟨by rw [HR.out]; first | rfl | (simp; rfl), rfl⟩
        · have hd1 : decide ((j : Int) < (n1 : Int)) = false := by simp; omega
          have hj2n : j < n2 := by have := HN.out; omega
          have hd2 : decide ((j : Int) < (n2 : Int)) = true := by simp; omega
          have hjn2 : (j : Int) < (n2 : Int) := by omega
          obtain ⟨g2, f2, rfl, hg2, hc2⟩ := reads_digit R2.out (k := j) (by rw [L2.out]; exact hj2n)
          rw [← hy] at hc2
          have hx0 : x = 0 := by rw [hx]; simp only [List.getD]; rw [List.getElem?_eq_none (by rw [L1.out]; omega)]; rfl
          rw [hx0] at HX
          clear hx hy hx0
          by_cases hxy : 0 = y
          · have hne : ((0 : Int) != (y : Int)) = false := by first | (rw [hxy]; simp) | (rw [← hxy]; simp)
            have HEQ : Hid (valOf (l1.drop j) = valOf (l2.drop j)) := hide (by rw [valOf_drop l1 j, valOf_drop l2 j, hv, ← HX.out, ← HY.out, hxy])
            clear hxy hv
            go_wp2
            go_round
            case rel => exact ⟨j, rfl, by omega, HEQ⟩
            case measure => (simp [intOf]; try omega)
          · have hne : ((0 : Int) != (y : Int)) = true := by rw [bne_iff_ne]; omega
            have HR : Hid (decide (v1 ≤ v2) = decide (0 < y)) := hide (by
              have h := most_at l1 l2 j D1.out D2.out hv (by rw [← HX.out, ← HY.out]; exact hxy)
              rw [V1.out, V2.out, ← HX.out, ← HY.out] at h
              exact h)
            clear hxy hv
            go_wp2
            go_ret
            exact ⟨by rw [HR.out]; first | rfl | (simp; rfl), rfl⟩
set_option maxRecDepth 100000 in
set_option maxHeartbeats 1600000 in
theorem root2_any (n p : Nat) (hn : n + 1 < 281474976710656) (hp : p < 65536) (w : World) :
    Calls Try.prog 44 #[.int .u64 (n : Int), .int .u64 (p : Int), .int .i64 2] w fun e w' => e = .returned (.bool (rootB n p 2)) ∧ Below w.heap.size w w' := by
  obtain ⟨Z, hZ⟩ : ∃ Z, Z = (List.replicate 5 (cu 0)).toArray := ⟨_, rfl⟩
  have hmk : ∀ w, (Instr.makeSlice 92 (.int .i64 5) (.int .i64 5)).run Try.prog w = .ok (.slice (some ⟨w.heap.size, 0, none⟩) 5 5) (w.alloc (.cells Z 48)) := fun w => by rw [hZ]; exact made_u64 5 (by omega) w
  have hZs : Z.setIfInBounds 4 (cu p) = (((List.replicate 5 0).set 4 p).map cu).toArray := by rw [hZ, List.setIfInBounds_toArray, List.map_set, List.map_replicate]
  have HT : Hid (Blk (w.alloc (.cells (Z.setIfInBounds 4 (cu p)) 48)) w.heap.size 48 (((List.replicate 5 0).set 4 p).map cu).toArray) := hide (by rw [← hZs]; exact Blk.new w _ _)
  have q1 : (w.alloc (.cells Z 48)).cell? ⟨w.heap.size, 4, none⟩ = some (cu 0) := ((Blk.new w 48 Z).cell 4).trans (by rw [hZ]; rfl)
  have q2 : (w.alloc (.cells Z 48)).frozen? ⟨w.heap.size, 4, none⟩ = false := (Blk.new w 48 Z).frozen 4
  have HB1 := hide ((Below.refl w.heap.size w).alloc (Nat.le_refl _) (.cells (Z.setIfInBounds 4 (cu p)) 48))
  have en : (n : Int) + 1 = ((n + 1 : Nat) : Int) := by omega
  obtain ⟨n', hn'⟩ : ∃ n', n' = n + 1 := ⟨_, rfl⟩
  rw [← hn'] at en
  have enw := u64_in (n' : Int) (by omega)
  obtain ⟨T, hT⟩ : ∃ T, T = p * 65536 ^ 4 := ⟨_, rfl⟩
  have HROOT : Hid (rootB n p 2 = (decide (n ^ 2 ≤ T) && !decide (n' ^ 2 ≤ T))) := hide (by rw [hT, hn']; rfl)
  have HTV : Hid (∀ W, Blk W w.heap.size 48 (((List.replicate 5 0).set 4 p).map cu).toArray → DigitsOf W (some ⟨w.heap.size, 0, none⟩) 5 ((List.replicate 5 0).set 4 p) T) := hide (fun W h => by
    refine ⟨?_, by simp, fun d hd => ?_, ?_⟩
    · have := h.rowu
      rwa [show ((List.replicate 5 0).set 4 p).length = 5 by simp] at this
    · rcases List.mem_or_eq_of_mem_set hd with h1 | h1
      · rw [List.eq_of_mem_replicate h1]; omega
      · omega
    · have h1 := valOf_set (List.replicate 5 0) 4 p (by simp)
      rw [valOf_zeros] at h1
      have h2 : (List.replicate 5 0).getD 4 0 = 0 := rfl
      rw [h2] at h1
      rw [hT, Nat.mul_comm]; omega)
  have Hn' := hide hn'
  have HN1 : Hid (n < 281474976710656) := hide (by omega)
  have HN2 : Hid (n' < 281474976710656) := hide (by omega)
  clear hZs hZ hT hn'
  go_enter Try.func44, Try.ntmps44
  go_upto_region 3 with fail
  clear hmk q1 q2
  generalize w.alloc (.cells (Z.setIfInBounds 4 (cu p)) 48) = w1 at *
  go_wp2_with (first
    | (go_at_call 70; (with_reducible refine (digits_any n HN1.out w1).mono ?_); rintro e w2 ⟨A3, c3, l3, rfl, h3, hb2⟩; have D3 := hide h3; have B2 := hide (below_next HB1.out hb2); have T2 := hide (HT.out.below hb2 HT.out.lt); clear h3 hb2)
    | (go_at_call 70; (with_reducible refine (digits_any n' HN2.out w2).mono ?_); rintro e w3 ⟨A4, c4, l4, rfl, h4, hb3⟩; have D4 := hide h4; have B3 := hide (below_next B2.out hb3); have T3 := hide (T2.out.below hb3 T2.out.lt); have D5 := hide (D3.out.later hb3); clear h4 hb3))
  go_loopw [10, 11, 12] (fun x y z wr => ∃ (i q : Nat) (Aa Ab : Option Addr) (ca cb : Nat) (la lb : List Nat), 1 ≤ i ∧ i ≤ 2 ∧ (q ≤ 3 * i ∧ 3 * i ≤ q) ∧ x = .slice Aa q ca ∧ y = .slice Ab q cb ∧ z = .int .i64 (i : Int) ∧ Hid (DigitsOf wr Aa q la (n ^ i)) ∧ Hid (DigitsOf wr Ab q lb (n' ^ i)) ∧ Hid (Below w3.heap.size w3 wr)) (fun _ _ z _ => 2 - (intOf z).toNat)
  case atStart => exact ⟨1, 3, A3, A4, c3, c4, l3, l4, by omega, by omega, ⟨by omega, by omega⟩, rfl, rfl, rfl, hide (by rw [Nat.pow_one]; exact D5.out), hide (by rw [Nat.pow_one]; exact D4.out), hide (Below.refl _ _)⟩
  case round =>
    obtain ⟨i, q, Aa, Ab, ca, cb, la, lb, hi1, hik, ⟨hq1, hq2⟩, rfl, rfl, rfl, HDa, HDb, HBr⟩ := hrel
    by_cases hlt : i < 2
    · have hd : decide ((i : Int) < 2) = true := by simp; omega
      have hi0 : (0 : Int) ≤ (i : Int) := by omega
      have hi3 : (i : Int) < 2 := by omega
      have DL := hide (D5.out.later HBr.out)
      have DH := hide (D4.out.later HBr.out)
      have EP := hide (Nat.pow_succ (n := i) (m := n))
      go_wp2_with (first
        | (go_at_call 71; (with_reducible refine (times_any Aa q ca la _ A3 3 c3 l3 _ wr HDa.out DL.out (by omega) (by omega)).mono ?_); rintro e w4 ⟨A6, c6, l6, rfl, h6, hb4⟩; have D6 := hide h6; have B4 := hide (below_next HBr.out hb4); have DH4 := hide (DH.out.later hb4); have DB4 := hide (HDb.out.later hb4); clear h6 hb4)
        | (go_at_call 71; (with_reducible refine (times_any Ab q cb lb _ A4 3 c4 l4 _ w4 DB4.out DH4.out (by omega) (by omega)).mono ?_); rintro e w5 ⟨A7, c7, l7, rfl, h7, hb5⟩; have D7 := hide h7; have B5 := hide (below_next B4.out hb5); have D8 := hide (D6.out.later hb5); clear h7 hb5))
      go_roundw
      case rel => exact ⟨i + 1, q + 3, A6, A7, c6, c7, l6, l7, by omega, hlt, ⟨by omega, by omega⟩, rfl, rfl, int_succ i, hide (by rw [Nat.pow_succ]; exact D8.out), hide (by rw [Nat.pow_succ]; exact D7.out), B5⟩
      case measure => simp [intOf]; omega
    · obtain rfl : i = 2 := by omega
      have hd : decide ((2 : Int) < 2) = false := by decide
      obtain rfl : q = 6 := by omega
      have T4 := hide (HTV.out wr (T3.out.below HBr.out T3.out.lt))
      have B4 := hide (below_next B3.out HBr.out)
      have HM1 := hide (most_any Aa 6 ca la _ _ 5 5 _ _ wr HDa.out T4.out (by omega) (by omega))
      have HM2 := hide (most_any Ab 6 cb lb _ _ 5 5 _ _ wr HDb.out T4.out (by omega) (by omega))
      generalize decide (n ^ 2 ≤ T) = b1 at *
      generalize decide (n' ^ 2 ≤ T) = b2 at *
      clear HDa HDb T4
      cases b1
      · go_wp2_with (first
          | (go_at_call 72; (with_reducible refine HM1.out.mono ?_); rintro e w4 ⟨rfl, rfl⟩))
        go_ret
        exact ⟨by rw [HROOT.out]; rfl, B4.out⟩
      · go_wp2_with (first
          | (go_at_call 72; (with_reducible refine HM1.out.mono ?_); rintro e w4 ⟨rfl, rfl⟩)
          | (go_at_call 72; (with_reducible refine HM2.out.mono ?_); rintro e w4 ⟨rfl, rfl⟩))
        go_ret
        exact ⟨by rw [HROOT.out]; rfl, B4.out⟩
set_option maxRecDepth 100000 in
set_option maxHeartbeats 1600000 in
theorem root3_any (n p : Nat) (hn : n + 1 < 281474976710656) (hp : p < 65536) (w : World) :
    Calls Try.prog 44 #[.int .u64 (n : Int), .int .u64 (p : Int), .int .i64 3] w fun e w' => e = .returned (.bool (rootB n p 3)) ∧ Below w.heap.size w w' := by
  obtain ⟨Z, hZ⟩ : ∃ Z, Z = (List.replicate 7 (cu 0)).toArray := ⟨_, rfl⟩
  have hmk : ∀ w, (Instr.makeSlice 92 (.int .i64 7) (.int .i64 7)).run Try.prog w = .ok (.slice (some ⟨w.heap.size, 0, none⟩) 7 7) (w.alloc (.cells Z 48)) := fun w => by rw [hZ]; exact made_u64 7 (by omega) w
  have hZs : Z.setIfInBounds 6 (cu p) = (((List.replicate 7 0).set 6 p).map cu).toArray := by rw [hZ, List.setIfInBounds_toArray, List.map_set, List.map_replicate]
  have HT : Hid (Blk (w.alloc (.cells (Z.setIfInBounds 6 (cu p)) 48)) w.heap.size 48 (((List.replicate 7 0).set 6 p).map cu).toArray) := hide (by rw [← hZs]; exact Blk.new w _ _)
  have q1 : (w.alloc (.cells Z 48)).cell? ⟨w.heap.size, 6, none⟩ = some (cu 0) := ((Blk.new w 48 Z).cell 6).trans (by rw [hZ]; rfl)
  have q2 : (w.alloc (.cells Z 48)).frozen? ⟨w.heap.size, 6, none⟩ = false := (Blk.new w 48 Z).frozen 6
  have HB1 := hide ((Below.refl w.heap.size w).alloc (Nat.le_refl _) (.cells (Z.setIfInBounds 6 (cu p)) 48))
  have en : (n : Int) + 1 = ((n + 1 : Nat) : Int) := by omega
  obtain ⟨n', hn'⟩ : ∃ n', n' = n + 1 := ⟨_, rfl⟩
  rw [← hn'] at en
  have enw := u64_in (n' : Int) (by omega)
  obtain ⟨T, hT⟩ : ∃ T, T = p * 65536 ^ 6 := ⟨_, rfl⟩
  have HROOT : Hid (rootB n p 3 = (decide (n ^ 3 ≤ T) && !decide (n' ^ 3 ≤ T))) := hide (by rw [hT, hn']; rfl)
  have HTV : Hid (∀ W, Blk W w.heap.size 48 (((List.replicate 7 0).set 6 p).map cu).toArray → DigitsOf W (some ⟨w.heap.size, 0, none⟩) 7 ((List.replicate 7 0).set 6 p) T) := hide (fun W h => by
    refine ⟨?_, by simp, fun d hd => ?_, ?_⟩
    · have := h.rowu
      rwa [show ((List.replicate 7 0).set 6 p).length = 7 by simp] at this
    · rcases List.mem_or_eq_of_mem_set hd with h1 | h1
      · rw [List.eq_of_mem_replicate h1]; omega
      · omega
    · have h1 := valOf_set (List.replicate 7 0) 6 p (by simp)
      rw [valOf_zeros] at h1
      have h2 : (List.replicate 7 0).getD 6 0 = 0 := rfl
      rw [h2] at h1
      rw [hT, Nat.mul_comm]; omega)
  have Hn' := hide hn'
  have HN1 : Hid (n < 281474976710656) := hide (by omega)
  have HN2 : Hid (n' < 281474976710656) := hide (by omega)
  clear hZs hZ hT hn'
  go_enter Try.func44, Try.ntmps44
  go_upto_region 3 with fail
  clear hmk q1 q2
  generalize w.alloc (.cells (Z.setIfInBounds 6 (cu p)) 48) = w1 at *
  go_wp2_with (first
    | (go_at_call 70; (with_reducible refine (digits_any n HN1.out w1).mono ?_); rintro e w2 ⟨A3, c3, l3, rfl, h3, hb2⟩; have D3 := hide h3; have B2 := hide (below_next HB1.out hb2); have T2 := hide (HT.out.below hb2 HT.out.lt); clear h3 hb2)
    | (go_at_call 70; (with_reducible refine (digits_any n' HN2.out w2).mono ?_); rintro e w3 ⟨A4, c4, l4, rfl, h4, hb3⟩; have D4 := hide h4; have B3 := hide (below_next B2.out hb3); have T3 := hide (T2.out.below hb3 T2.out.lt); have D5 := hide (D3.out.later hb3); clear h4 hb3))
  go_loopw [10, 11, 12] (fun x y z wr => ∃ (i q : Nat) (Aa Ab : Option Addr) (ca cb : Nat) (la lb : List Nat), 1 ≤ i ∧ i ≤ 3 ∧ (q ≤ 3 * i ∧ 3 * i ≤ q) ∧ x = .slice Aa q ca ∧ y = .slice Ab q cb ∧ z = .int .i64 (i : Int) ∧ Hid (DigitsOf wr Aa q la (n ^ i)) ∧ Hid (DigitsOf wr Ab q lb (n' ^ i)) ∧ Hid (Below w3.heap.size w3 wr)) (fun _ _ z _ => 3 - (intOf z).toNat)
  case atStart => exact ⟨1, 3, A3, A4, c3, c4, l3, l4, by omega, by omega, ⟨by omega, by omega⟩, rfl, rfl, rfl, hide (by rw [Nat.pow_one]; exact D5.out), hide (by rw [Nat.pow_one]; exact D4.out), hide (Below.refl _ _)⟩
  case round =>
    obtain ⟨i, q, Aa, Ab, ca, cb, la, lb, hi1, hik, ⟨hq1, hq2⟩, rfl, rfl, rfl, HDa, HDb, HBr⟩ := hrel
    by_cases hlt : i < 3
    · have hd : decide ((i : Int) < 3) = true := by simp; omega
      have hi0 : (0 : Int) ≤ (i : Int) := by omega
      have hi3 : (i : Int) < 3 := by omega
      have DL := hide (D5.out.later HBr.out)
      have DH := hide (D4.out.later HBr.out)
      have EP := hide (Nat.pow_succ (n := i) (m := n))
      go_wp2_with (first
        | (go_at_call 71; (with_reducible refine (times_any Aa q ca la _ A3 3 c3 l3 _ wr HDa.out DL.out (by omega) (by omega)).mono ?_); rintro e w4 ⟨A6, c6, l6, rfl, h6, hb4⟩; have D6 := hide h6; have B4 := hide (below_next HBr.out hb4); have DH4 := hide (DH.out.later hb4); have DB4 := hide (HDb.out.later hb4); clear h6 hb4)
        | (go_at_call 71; (with_reducible refine (times_any Ab q cb lb _ A4 3 c4 l4 _ w4 DB4.out DH4.out (by omega) (by omega)).mono ?_); rintro e w5 ⟨A7, c7, l7, rfl, h7, hb5⟩; have D7 := hide h7; have B5 := hide (below_next B4.out hb5); have D8 := hide (D6.out.later hb5); clear h7 hb5))
      go_roundw
      case rel => exact ⟨i + 1, q + 3, A6, A7, c6, c7, l6, l7, by omega, hlt, ⟨by omega, by omega⟩, rfl, rfl, int_succ i, hide (by rw [Nat.pow_succ]; exact D8.out), hide (by rw [Nat.pow_succ]; exact D7.out), B5⟩
      case measure => simp [intOf]; omega
    · obtain rfl : i = 3 := by omega
      have hd : decide ((3 : Int) < 3) = false := by decide
      obtain rfl : q = 9 := by omega
      have T4 := hide (HTV.out wr (T3.out.below HBr.out T3.out.lt))
      have B4 := hide (below_next B3.out HBr.out)
      have HM1 := hide (most_any Aa 9 ca la _ _ 7 7 _ _ wr HDa.out T4.out (by omega) (by omega))
      have HM2 := hide (most_any Ab 9 cb lb _ _ 7 7 _ _ wr HDb.out T4.out (by omega) (by omega))
      generalize decide (n ^ 3 ≤ T) = b1 at *
      generalize decide (n' ^ 3 ≤ T) = b2 at *
      clear HDa HDb T4
      cases b1
      · go_wp2_with (first
          | (go_at_call 72; (with_reducible refine HM1.out.mono ?_); rintro e w4 ⟨rfl, rfl⟩))
        go_ret
        exact ⟨by rw [HROOT.out]; rfl, B4.out⟩
      · go_wp2_with (first
          | (go_at_call 72; (with_reducible refine HM1.out.mono ?_); rintro e w4 ⟨rfl, rfl⟩)
          | (go_at_call 72; (with_reducible refine HM2.out.mono ?_); rintro e w4 ⟨rfl, rfl⟩))
        go_ret
        exact ⟨by rw [HROOT.out]; rfl, B4.out⟩
end Go.Proofs.Ytdikknfdgpdenaa
