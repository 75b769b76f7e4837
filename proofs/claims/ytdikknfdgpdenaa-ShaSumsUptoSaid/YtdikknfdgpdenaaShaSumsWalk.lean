/- The walk of the law ShaSums: the hash of any bytes, told in any pieces. Condition: at most 1048576 pieces and bytes in all. -/
import Derived.Test.YtdikknfdgpdenaaShaAlive
import Derived.Test.YtdikknfdgpdenaaRelStage
namespace Go.Proofs.Ytdikknfdgpdenaa
open Go.RowKit
set_option linter.unusedVariables false
set_option linter.unusedSimpArgs false
attribute [local go_sem] Gives givesUpon
attribute [local irreducible] Gives

theorem Reads.first_ {w : World} {B n m : Nat} {A : Option Addr} {xs : List Value} (h : Reads w B 1 A n xs) (hm : m ≤ n) : Reads w B 1 A m (xs.take m) := by
  refine ⟨by have := h.1; rw [List.length_take]; omega, fun hn => ?_⟩
  obtain ⟨ad, e, hb, hc⟩ := h.2 (by omega)
  refine ⟨ad, e, hb, fun j u hu => hc j u ?_⟩
  have hj : j < m := by
    have := (List.getElem?_eq_some_iff.1 hu).1
    rw [List.length_take] at this; omega
  rw [List.getElem?_take_of_lt hj] at hu
  exact hu
theorem Rows8.take_ {w : World} {B : Nat} {vs : List Value} {ps : List (List (BitVec 8))} (h : Rows8 w B vs ps) (m : Nat) : Rows8 w B (vs.take m) (ps.take m) := by
  refine ⟨by rw [List.length_take, List.length_take, h.1], fun i v p hv hp => ?_⟩
  have hi : i < m := by
    have := (List.getElem?_eq_some_iff.1 hv).1
    rw [List.length_take] at this; omega
  rw [List.getElem?_take_of_lt hi] at hv hp
  exact h.2 i v p hv hp
theorem flatten_le (ps : List (List (BitVec 8))) (k : Nat) : (ps.take k).flatten.length ≤ ps.flatten.length := by
  have e : ps.flatten = (ps.take k).flatten ++ (ps.drop k).flatten := by rw [← List.flatten_append, List.take_append_drop]
  rw [e, List.length_append]; omega
set_option maxRecDepth 100000 in
set_option maxHeartbeats 1600000 in
theorem shaSums_walk (w : World) (A0 : Option Addr) (n0 c0 : Nat) (vs : List Value) (ps : List (List (BitVec 8))) (r0 : Reads w w.heap.size 1 A0 n0 vs) (rs0 : Rows8 w w.heap.size vs ps) (m0 : n0 ≤ 9223372036854775807) (k0 : n0 ≤ c0) (hb0 : ps.length + ps.flatten.length ≤ 1048576) :
    Calls Try.prog 6 #[.slice A0 n0 c0] w fun e w' => e = .returned (.bool true) ∧ Below w.heap.size w w' := by
  have HFew : Hid (Calls Try.prog 31 #[.slice A0 n0 c0, .int .i64 700] w fun e w' => e = .returned (.bool (decide (((ps.length + ps.flatten.length : Nat) : Int) ≤ 700))) ∧ w = w') := hide (few_any A0 n0 c0 vs ps 700 w r0 rs0 (by omega))
  by_cases hs : ps.length + ps.flatten.length ≤ 700
  · have hd : decide (((ps.length + ps.flatten.length : Nat) : Int) ≤ 700) = true := decide_eq_true (by omega)
    rw [hd] at HFew
    have hpl : ps.length = n0 := by have := rs0.1; have := r0.1; omega
    have hn0 : n0 ≤ 700 := by omega
    obtain ⟨F, hF⟩ : ∃ F : List (BitVec 8) → Array Value, F = fun l => ((shaOf l).map c8).toArray := ⟨_, rfl⟩
    have hee : ∀ (l : List (BitVec 8)) (w : World), (Op.equalIn 10000 44 (.agg (F l)) (.agg (F l))).run Try.prog w = .ok true w := fun l w => by
      have h := eq_id (shaOf l) (shaOf l) (shaOf_len _) (shaOf_len _) w
      rw [hF]; dsimp only; rw [h]; simp
    have HS : Hid (∀ g bs W, HashIs W g bs → bs.length ≤ 1099511627000 → Calls Try.prog 35 #[.pointer (some ⟨g, 0, none⟩)] W fun e w' => e = .returned (.agg (F bs)) ∧ Below W.heap.size W w') := hide (fun g bs W h hb => by rw [hF]; exact hashsum_any g bs W h hb)
    have HRS : Hid (∀ A n c bs W, Reads W W.heap.size 1 A n (bs.map c8) → n ≤ 1099511627776 → Calls Try.prog 36 #[.slice A n c] W fun e w' => e = .returned (.agg (F bs)) ∧ Below W.heap.size W w') := hide (fun A n c bs W h hn => by rw [hF]; exact refsum_any A n c bs W h hn)
    have HSS : Hid (∀ W, Below w.heap.size w W → Calls Try.prog 39 #[.slice A0 n0 c0] W fun e w' => e = .returned (.agg (F ps.flatten)) ∧ Below W.heap.size W w') := hide (fun W hb => by
      rw [hF]; exact shasum_any A0 n0 c0 vs ps W ((r0.below hb).more hb.size) ((rs0.below hb).more hb.size) (by omega) (by omega))
    have HJ : Hid (∀ (m : Nat) W, Below w.heap.size w W → m ≤ n0 → Calls Try.prog 37 #[.slice A0 m c0] W fun e w' => ∃ A' c', e = .returned (.slice A' (ps.take m).flatten.length c') ∧ Reads w' w'.heap.size 1 A' (ps.take m).flatten.length ((ps.take m).flatten.map c8) ∧ Below W.heap.size W w') := hide (fun m W hb hm => by
      refine (join_any A0 m c0 (vs.take m) (ps.take m) W (((r0.first_ hm).below hb).more hb.size) (((rs0.take_ m).below hb).more hb.size) (by omega) (by have := flatten_le ps m; omega)).mono ?_
      rintro e w' ⟨A', q, c', rfl, own, hb'⟩
      have hr := Reads.of_own own
      have hq : (ps.take m).flatten.length = q := hr.len
      subst hq
      exact ⟨A', c', rfl, hr, hb'⟩)
    clear hF hd
    have HR := hide r0
    have HRS0 := hide rs0
    have HP := hide hpl
    have HL : Hid (ps.flatten.length ≤ 700) := hide (by omega)
    clear r0 rs0 hpl hs hb0
    go_enter Try.func6, Try.ntmps6
    go_wp2_with (first
      | (go_at_call 31; (with_reducible refine HFew.out.mono ?_); rintro e w1 ⟨rfl, rfl⟩)
      | (go_at_call 33; (with_reducible refine (newhash_any _).mono ?_); rintro e w1 ⟨g, rfl, hg, hh1, hb1⟩; have H1 := hide hh1; have B1 := hide hb1; clear hh1 hb1))
    go_loopw [15] (fun i wr => ∃ k : Nat, k ≤ n0 ∧ i = .int .i64 (k : Int) ∧ Hid (HashIs wr g (ps.take k).flatten) ∧ Hid (Below w.heap.size w wr)) (fun i _ => n0 - (intOf i).toNat)
    case atStart => exact ⟨0, by omega, rfl, H1, B1⟩
    case round =>
      obtain ⟨k, hk, rfl, HH, HB⟩ := hrel
      clear H1 B1
      by_cases hlt : k < n0
      · have hd : decide ((k : Int) < (n0 : Int)) = true := by simp; omega
        have hkp : k < ps.length := by rw [HP.out]; exact hlt
        obtain ⟨bA, oA, rfl, hbA⟩ := HR.out.addr' (by omega)
        obtain ⟨Ak, m, ck, hcell0, hrk, hmk⟩ := rows_at HR.out HRS0.out hkp
        have hcell := (HB.out.cell (p := ⟨bA, oA + k, none⟩) hbA).trans hcell0
        obtain ⟨q, hq⟩ : ∃ q, q = k + 1 := ⟨_, rfl⟩
        have hkw : IntKind.i64.wrap ((k : Int) + 1) = (q : Int) := by rw [hq, IntWalk.i64_in _ (by omega)]; omega
        have hq0 : (0 : Int) ≤ (q : Int) := by omega
        have hqc : (q : Int) ≤ (c0 : Int) := by omega
        have HRK := hide (hrk.more (Nat.le_refl w.heap.size))
        have hlen := flatten_le ps (k + 1)
        have hml : ps[k].length = m := hrk.len
        have hNe := flatten_take ps k hkp
        have HJk := hide (fun W hb => HJ.out q W hb (by omega))
        obtain ⟨N, hN⟩ : ∃ N, N = (ps.take (k + 1)).flatten := ⟨_, rfl⟩
        have hNl : N.length ≤ 700 := by have := HL.out; rw [hN]; omega
        rw [hq, ← hN] at HJk
        rw [← hN] at hNe
        rw [← hq] at HJk
        replace hN := hide hN
        generalize hO : (ps.take k).flatten = O at *
        generalize hPk : ps[k] = P at *
        have HNe := hide hNe
        have hNw : IntKind.u64.wrap ((N.length : Nat) : Int) = (N.length : Int) := by rw [IntKind.wrap_u64]; omega
        have hml' : O.length + m ≤ 1099511627776 := by have := congrArg List.length hNe; rw [List.length_append, hml] at this; omega
        have hk0 : (0 : Int) ≤ (k : Int) := by omega
        have hk1 : (k : Int) < (n0 : Int) := by omega
        have hAk : Hid (∀ ad, Ak = some ad → 0 < m → ad.block < w.heap.size) := hide (fun ad e hm => by
          obtain ⟨ad', e', hb', _⟩ := hrk.2 hm
          rw [e] at e'; cases e'; exact hb')
        replace hq := hide hq
        clear hlen hml hNe hrk hcell0 hkp hPk hO hmk
        go_wp2_with fail
        apply wp_region_stage (hv := [2, 8, 13, 14, 19, 24]) (I := fun W => Below w.heap.size w W) (C := fun W => HashIs W g O) (ss := [_, _, _, _, _, _, _, _, _, _, _, _, _, _, _, _, _, _, _, _, _, _, _, _, _, _, _, _, _]) (by kernel_rfl) (by kernel_rfl) (by kernel_rfl) (by kernel_rfl) HB.out.drew HH.out
        repeat (first
          | (apply stWalk_light
             · rfl
             · (intro W hI
                go_simp
                with_reducible exact rfl)
             (try simp only [Act.put, List.setIfInBounds_toArray, List.set_cons_zero, List.set_cons_succ])))
        apply stWalk_turnc (fun W => HashIs W g N)
        · rfl
        · go_simp
        · intro W hI hC
          go_simp
          refine (write_any g Ak m ck O P W hC ((HRK.out.below hI).more hI.size) (fun hm ad e => by have := hAk.out ad e hm; omega) hml').mono ?_
          rintro e w3 ⟨rfl, hh3, gb3⟩
          rw [← HNe.out] at hh3
          exact ⟨_, rfl, rfl, hI.grown gb3 hI.size (fun q e => by cases e; exact hg), hh3⟩
        (try simp only [Act.put, List.setIfInBounds_toArray, List.set_cons_zero, List.set_cons_succ])
        repeat (first
          | (apply stWalk_light
             · rfl
             · (intro W hI
                go_simp
                with_reducible exact rfl)
             (try simp only [Act.put, List.setIfInBounds_toArray, List.set_cons_zero, List.set_cons_succ])))
        apply stWalk_turnc (fun W => HashIs W g N)
        · rfl
        · go_simp
        · intro W hI hC
          go_simp
          refine (HS.out g N W hC (by omega)).mono ?_
          rintro e w3 ⟨rfl, hb3⟩
          exact ⟨_, rfl, rfl, below_next hI hb3, hC.below hb3⟩
        (try simp only [Act.put, List.setIfInBounds_toArray, List.set_cons_zero, List.set_cons_succ])
        repeat (first
          | (apply stWalk_light
             · rfl
             · (intro W hI
                go_simp
                with_reducible exact rfl)
             (try simp only [Act.put, List.setIfInBounds_toArray, List.set_cons_zero, List.set_cons_succ])))
        refine stWalk_turn (fun v => ∃ A c, v = .slice A N.length c) (fun v W => HashIs W g N ∧ SliceOf8 N.length N v W) (by rfl) ⟨_, none, 0, rfl⟩ (by go_simp) ?_ ?_
        · intro W hI hC
          go_simp
          refine (HJk.out W hI).mono ?_
          rintro e w3 ⟨A', c', rfl, hr, hb3⟩
          exact ⟨_, rfl, ⟨A', c', rfl⟩, below_next hI hb3, hC.below hb3, rfl, hr⟩
        rintro v5 ⟨A5, c5, rfl⟩
        (try simp only [Act.put, List.setIfInBounds_toArray, List.set_cons_zero, List.set_cons_succ])
        apply stWalk_turnc (fun W => HashIs W g N)
        · rfl
        · go_simp
        · intro W hI hC
          go_simp
          refine (HRS.out A5 _ c5 N W hC.2.2 (by omega)).mono ?_
          rintro e w3 ⟨rfl, hb3⟩
          exact ⟨_, rfl, rfl, below_next hI hb3, hC.1.below hb3⟩
        (try simp only [Act.put, List.setIfInBounds_toArray, List.set_cons_zero, List.set_cons_succ])
        repeat (first
          | (apply stWalk_light
             · rfl
             · (intro W hI
                go_simp
                with_reducible exact rfl)
             (try simp only [Act.put, List.setIfInBounds_toArray, List.set_cons_zero, List.set_cons_succ])))
        apply stWalk_turnc (fun W => HashIs W g N)
        · rfl
        · go_simp
        · intro W hI hC
          go_simp
          refine (hashlen_any g N W hC).mono ?_
          rintro e w3 ⟨rfl, rfl⟩
          exact ⟨_, rfl, rfl, hI, hC⟩
        (try simp only [Act.put, List.setIfInBounds_toArray, List.set_cons_zero, List.set_cons_succ])
        repeat (first
          | (apply stWalk_light
             · rfl
             · (intro W hI
                go_simp
                with_reducible exact rfl)
             (try simp only [Act.put, List.setIfInBounds_toArray, List.set_cons_zero, List.set_cons_succ])))
        refine stWalk_turn (fun v => ∃ A c, v = .slice A N.length c) (fun v W => HashIs W g N ∧ SliceOf8 N.length N v W) (by rfl) ⟨_, none, 0, rfl⟩ (by go_simp) ?_ ?_
        · intro W hI hC
          go_simp
          refine (HJk.out W hI).mono ?_
          rintro e w3 ⟨A', c', rfl, hr, hb3⟩
          exact ⟨_, rfl, ⟨A', c', rfl⟩, below_next hI hb3, hC.below hb3, rfl, hr⟩
        rintro v6 ⟨A6, c6, rfl⟩
        (try simp only [Act.put, List.setIfInBounds_toArray, List.set_cons_zero, List.set_cons_succ])
        repeat (first
          | (apply stWalk_light
             · rfl
             · (intro W hI
                go_simp
                with_reducible exact rfl)
             (try simp only [Act.put, List.setIfInBounds_toArray, List.set_cons_zero, List.set_cons_succ])))
        refine stWalk_nil ?_
        intro W2 hI hC
        have HB2 := hide hI
        have HH2 := hide hC.1
        clear hI hC HH HB hcell
        go_wp2_with fail
        refine ⟨⟨q, by have := hq.out; omega, rfl, by rw [hq.out, ← hN.out]; exact HH2, HB2⟩, ?_⟩
        have hq' := hq.out
        simp only [intOf]; omega
      · obtain rfl : k = n0 := by omega
        have hd : decide ((k : Int) < (k : Int)) = false := by simp
        have HF : Hid ((ps.take k).flatten = ps.flatten) := hide (by rw [List.take_of_length_le (Nat.le_of_eq HP.out)])
        have HJf := hide (fun W hb => HJ.out k W hb (Nat.le_refl _))
        rw [HF.out] at HH HJf
        have hl7 : ps.flatten.length ≤ 700 := HL.out
        generalize ps.flatten = N at *
        clear HF HJ
        go_wp2_with (first
          | (go_at_call 39; (with_reducible refine (HSS.out wr HB.out).mono ?_); rintro e w2 ⟨rfl, hb2⟩; have B2 := hide (below_next HB.out hb2); have H2 := hide (HH.out.below hb2); clear hb2)
          | (go_at_call 37; (with_reducible refine (HJf.out w2 B2.out).mono ?_); rintro e w3 ⟨A3, c3, rfl, hr3, hb3⟩; have R3 := hide hr3; have B3 := hide (below_next B2.out hb3); have H3 := hide (H2.out.below hb3); clear hb3 hr3)
          | (go_at_call 36; (with_reducible refine (HRS.out A3 _ c3 N w3 R3.out (by omega)).mono ?_); rintro e w4 ⟨rfl, hb4⟩; have B4 := hide (below_next B3.out hb4); have H4 := hide (H3.out.below hb4); clear hb4)
          | (go_at_call 35; (with_reducible refine (HS.out g N w4 H4.out (by omega)).mono ?_); rintro e w5 ⟨rfl, hb5⟩; have B5 := hide (below_next B4.out hb5); clear hb5)
          | (go_at_call 39; (with_reducible refine (HSS.out w5 B5.out).mono ?_); rintro e w6 ⟨rfl, hb6⟩; have B6 := hide (below_next B5.out hb6); clear hb6)
          | (go_at_call 32; (with_reducible refine (alive02_any w6).mono ?_); rintro e w7 ⟨rfl, hb7⟩; have B7 := hide (below_next B6.out hb7); clear hb7))
        go_ret
        exact ⟨rfl, B7.out⟩
  · have hd : decide (((ps.length + ps.flatten.length : Nat) : Int) ≤ 700) = false := decide_eq_false (by omega)
    rw [hd] at HFew
    clear hd hs hb0 r0 rs0
    go_enter Try.func6, Try.ntmps6
    go_wp2_with (first
      | (go_at_call 31; (with_reducible refine HFew.out.mono ?_); rintro e w1 ⟨rfl, rfl⟩)
      | (go_at_call 32; (with_reducible refine (alive02_any w).mono ?_); rintro e w7 ⟨rfl, hb7⟩))
    go_ret
    exact ⟨rfl, hb7⟩
end Go.Proofs.Ytdikknfdgpdenaa
