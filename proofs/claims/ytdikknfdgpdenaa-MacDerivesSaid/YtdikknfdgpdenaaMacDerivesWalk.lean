/- The walk of the law MacDerives: what is derived of any key and label. No condition. -/
import Derived.Test.YtdikknfdgpdenaaMacRefDerive
namespace Go.Proofs.Ytdikknfdgpdenaa
open Go.RowKit
set_option linter.unusedVariables false
set_option linter.unusedSimpArgs false

set_option maxRecDepth 100000 in
set_option maxHeartbeats 1600000 in
theorem macDerives_walk (w : World) (A0 : Option Addr) (n0 c0 : Nat) (bs0 : List (BitVec 8)) (r0 : Reads w w.heap.size 1 A0 n0 (bs0.map c8)) (m0 : n0 ≤ 9223372036854775807) (k0 : n0 ≤ c0) (s1 : ByteArray) (m1 : s1.size ≤ 9223372036854775807) (x2 : Int) (l2 : -9223372036854775808 ≤ x2) (u2 : x2 ≤ 9223372036854775807) :
    Calls Try.prog 12 #[.slice A0 n0 c0, .string s1, .int .i64 x2] w fun e w' => e = .returned (.bool true) ∧ Below w.heap.size w w' := by
  have HA := hide (alive03_any w)
  by_cases h0 : n0 ≤ 100
  · by_cases h1 : s1.size ≤ 100
    · obtain ⟨fw, hfw⟩ : ∃ fw : Int, fw = min x2 200 := ⟨_, rfl⟩
      obtain ⟨fm, hfm⟩ : ∃ fm : Nat, fm = (min (max fw 0) 8192).toNat := ⟨_, rfl⟩
      have hif : (if 200 < x2 then 200 else x2) = fw := by rw [hfw]; split <;> omega
      obtain ⟨X, hX⟩ : ∃ X, X = derOf bs0 (textOf s1) := ⟨_, rfl⟩
      have HD : Hid (Calls Try.prog 51 #[.slice A0 n0 c0, .string s1, .int .i64 fw] w fun e w' => ∃ A' c', e = .returned (.slice A' fm c') ∧ fm ≤ c' ∧ Reads w' w'.heap.size 1 A' fm ((X.take fm).map c8) ∧ Below w.heap.size w w') := hide (by rw [hX]; exact derive_any A0 n0 c0 bs0 s1 fw w r0 k0 (by omega) (by omega) (by omega) (by omega) fm hfm)
      have HRD : Hid (∀ W, Below w.heap.size w W → Calls Try.prog 52 #[.slice A0 n0 c0, .string s1, .int .i64 fw] W fun e w' => ∃ A' c', e = .returned (.slice A' fm c') ∧ fm ≤ c' ∧ Reads w' w'.heap.size 1 A' fm ((X.take fm).map c8) ∧ Below W.heap.size W w') := hide (fun W hb => by rw [hX]; exact refderive_any A0 n0 c0 bs0 s1 fw W ((r0.below hb).more hb.size) (by omega) (by omega) fm hfm)
      have HSM : Hid (∀ A1 n1 c1 A2 n2 c2 (l : List (BitVec 8)) W, Reads W W.heap.size 1 A1 n1 (l.map c8) → Reads W W.heap.size 1 A2 n2 (l.map c8) → Calls Try.prog 49 #[.slice A1 n1 c1, .slice A2 n2 c2] W fun e w' => e = .returned (.bool true) ∧ W = w') := hide (fun A1 n1 c1 A2 n2 c2 l W h1 h2 => by
        have h := same_any A1 n1 c1 l A2 n2 c2 l W h1 h2
        rw [decide_eq_true rfl] at h; exact h)
      by_cases hbig : 9000 < x2
      · have e200 : fw = 200 := by omega
        rw [e200] at HD HRD
        clear hif
        replace e200 := hide e200
        replace hX := hide hX
        replace hfw := hide hfw
        replace hfm := hide hfm
        have hpos : (0 : Int) < x2 := by omega
        clear r0
        go_enter Try.func12, Try.ntmps12
        go_wp2_with (first
          | (go_at_call 51; (with_reducible refine HD.out.mono ?_); rintro e w1 ⟨A3, c3, rfl, hc3, hr3, hb1⟩; have B1 := hide hb1; have R3 := hide hr3; clear hb1 hr3)
          | (go_at_call 52; (with_reducible refine (HRD.out w1 B1.out).mono ?_); rintro e w2 ⟨A4, c4, rfl, hc4, hr4, hb2⟩; have B2 := hide (below_next B1.out hb2); have R4 := hide hr4; have R5 := hide (R3.out.later hb2); clear hb2 hr4)
          | (go_at_call 49; (with_reducible refine (HSM.out A3 fm c3 A4 fm c4 _ w2 R5.out R4.out).mono ?_); rintro e w3 ⟨rfl, rfl⟩)
          | (go_at_call 45; (with_reducible refine (alive03_any w2).mono ?_); rintro e w4 ⟨rfl, hb4⟩; have B4 := hide (below_next B2.out hb4); clear hb4))
        go_ret
        exact ⟨rfl, B4.out⟩
      · by_cases hneg : x2 < 0
        · have hz : fm = 0 := by omega
          have ex : fw = x2 := by omega
          rw [ex] at HD HRD
          clear hif
          replace ex := hide ex
          replace hX := hide hX
          replace hfw := hide hfw
          replace hfm := hide hfm
          have hzz : ((fm : Int) == 0) = true := by rw [hz]; rfl
          have hpos : decide ((0 : Int) < x2) = false := by simp; omega
          clear r0 hz
          go_enter Try.func12, Try.ntmps12
          go_wp2_with (first
            | (go_at_call 51; (with_reducible refine HD.out.mono ?_); rintro e w1 ⟨A3, c3, rfl, hc3, hr3, hb1⟩; have B1 := hide hb1; have R3 := hide hr3; clear hb1 hr3)
            | (go_at_call 52; (with_reducible refine (HRD.out w1 B1.out).mono ?_); rintro e w2 ⟨A4, c4, rfl, hc4, hr4, hb2⟩; have B2 := hide (below_next B1.out hb2); have R4 := hide hr4; have R5 := hide (R3.out.later hb2); clear hb2 hr4)
            | (go_at_call 49; (with_reducible refine (HSM.out A3 fm c3 A4 fm c4 _ w2 R5.out R4.out).mono ?_); rintro e w3 ⟨rfl, rfl⟩)
            | (go_at_call 45; (with_reducible refine (alive03_any w2).mono ?_); rintro e w4 ⟨rfl, hb4⟩; have B4 := hide (below_next B2.out hb4); clear hb4))
          go_ret
          exact ⟨rfl, B4.out⟩
        · obtain ⟨m2, hm2⟩ : ∃ m2 : Nat, m2 = (min (max x2 0) 8192).toNat := ⟨_, rfl⟩
          have hle : fm ≤ m2 := by omega
          have hm2' : (if 8192 < x2 then 8192 else x2) = (m2 : Int) := by split <;> omega
          have HD2 : Hid (∀ W, Below w.heap.size w W → Calls Try.prog 51 #[.slice A0 n0 c0, .string s1, .int .i64 x2] W fun e w' => ∃ A' c', e = .returned (.slice A' m2 c') ∧ m2 ≤ c' ∧ Reads w' w'.heap.size 1 A' fm ((X.take fm).map c8) ∧ Below W.heap.size W w') := hide (fun W hb => by
            rw [hX]
            refine (derive_any A0 n0 c0 bs0 s1 x2 W ((r0.below hb).more hb.size) k0 (by omega) (by omega) l2 u2 m2 hm2).mono ?_
            rintro e w' ⟨A', c', h1, h2, h3, h4⟩
            refine ⟨A', c', h1, h2, ?_, h4⟩
            have := reads_upto h3 hle
            rwa [List.take_take, Nat.min_eq_left hle] at this)
          replace hX := hide hX
          replace hfw := hide hfw
          replace hfm := hide hfm
          replace hm2 := hide hm2
          have hf0 : (0 : Int) ≤ (fm : Int) := by omega
          clear r0
          go_enter Try.func12, Try.ntmps12
          go_wp2_with (first
            | (go_at_call 51; (with_reducible refine HD.out.mono ?_); rintro e w1 ⟨A3, c3, rfl, hc3, hr3, hb1⟩; have B1 := hide hb1; have R3 := hide hr3; clear hb1 hr3)
            | (go_at_call 52; (with_reducible refine (HRD.out w1 B1.out).mono ?_); rintro e w2 ⟨A4, c4, rfl, hc4, hr4, hb2⟩; have B2 := hide (below_next B1.out hb2); have R4 := hide hr4; have R5 := hide (R3.out.later hb2); clear hb2 hr4)
            | (go_at_call 49; (with_reducible refine (HSM.out A3 fm c3 A4 fm c4 _ w2 R5.out R4.out).mono ?_); rintro e w3 ⟨rfl, rfl⟩)
            | (go_at_call 51; (with_reducible refine (HD2.out w2 B2.out).mono ?_); rintro e w3 ⟨A6, c6, rfl, hc6, hr6, hb3⟩; have B3 := hide (below_next B2.out hb3); have R6 := hide hr6; have R7 := hide (R5.out.later hb3); have hfc : (fm : Int) ≤ (c6 : Int) := (by omega); clear hb3 hr6)
            | (go_at_call 49; (with_reducible refine (HSM.out A6 fm c6 A3 fm c3 _ w3 R6.out R7.out).mono ?_); rintro e w4 ⟨rfl, rfl⟩)
            | (go_at_call 45; (with_reducible refine (alive03_any w3).mono ?_); rintro e w5 ⟨rfl, hb5⟩; have B5 := hide (below_next B3.out hb5); clear hb5))
          go_ret
          exact ⟨rfl, B5.out⟩
    · clear r0
      go_enter Try.func12, Try.ntmps12
      go_wp2_with (go_at_call 45; (with_reducible refine HA.out.mono ?_); rintro e w7 ⟨rfl, hb7⟩)
      go_ret
      exact ⟨rfl, hb7⟩
  · clear r0
    go_enter Try.func12, Try.ntmps12
    go_wp2_with (go_at_call 45; (with_reducible refine HA.out.mono ?_); rintro e w7 ⟨rfl, hb7⟩)
    go_ret
    exact ⟨rfl, hb7⟩
end Go.Proofs.Ytdikknfdgpdenaa
