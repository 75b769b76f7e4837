/- Chapter 02's reference: the hash of bytes. Condition: at most 2^40 bytes. -/
import Derived.Test.YtccpkafmbmkmfaaShaRefTake
import Derived.Test.YtccpkafmbmkmfaaShaPad
import Derived.Test.YtccpkafmbmkmfaaWRefBytes
namespace Go.Proofs.Ytccpkafmbmkmfaa
open Go.RowKit
set_option linter.unusedVariables false
set_option linter.unusedSimpArgs false

theorem Reads.slice_ {w : World} {B n k m g o : Nat} {l : List (BitVec 8)} (h : Reads w B 1 (some ⟨g, o, none⟩) n (l.map c8)) (hk : k + m ≤ n) : Reads w B 1 (some ⟨g, o + k, none⟩) m (((l.drop k).take m).map c8) := by
  have hl := h.len
  refine ⟨by simp; omega, fun hm => ?_⟩
  obtain ⟨ad, e, hb, hc⟩ := h.2 (by omega)
  cases e
  refine ⟨_, rfl, hb, fun j u hu => ?_⟩
  rw [Addr.add_lit, Nat.add_assoc, ← Addr.add_lit]
  refine hc (k + j) u ?_
  rw [List.map_take, List.map_drop] at hu
  have hj : j < m := by
    have := (List.getElem?_eq_some_iff.1 hu).1
    rw [List.length_take] at this; omega
  rw [List.getElem?_take_of_lt hj, List.getElem?_drop] at hu
  exact hu
theorem Reads.byte {w : World} {B n k g o : Nat} {l : List (BitVec 8)} (h : Reads w B 1 (some ⟨g, o, none⟩) n (l.map c8)) (hk : k < n) : w.cell? ⟨g, o + k, none⟩ = some (c8 (l.getD k 0)) := by
  have hl := h.len
  obtain ⟨ad', e, h1, h2⟩ := h.get (k := k) (by omega)
  cases e
  rw [Addr.add_lit] at h2
  rw [h2]; simp [List.getD, hl, hk]
/-- so many bytes, and noughts -/
def idRow (l : List (BitVec 8)) (k : Nat) : List (BitVec 8) := l.take k ++ List.replicate (32 - k) 0#8
theorem set_mid {α : Type} (A : List α) (x y : α) (B : List α) (k : Nat) (hk : A.length = k) : (A ++ x :: B).toArray.setIfInBounds k y = (A ++ y :: B).toArray := by subst hk; simp
theorem idRow_next (l : List (BitVec 8)) (k : Nat) (hl : l.length = 32) (hk : k < 32) : ((idRow l k).map c8).toArray.setIfInBounds k (c8 (l.getD k 0)) = ((idRow l (k + 1)).map c8).toArray := by
  obtain ⟨m, hm⟩ : ∃ m, 32 - k = m + 1 := ⟨31 - k, by omega⟩
  have hm2 : 32 - (k + 1) = m := by omega
  have e : ((l.take k).map c8).length = k := by rw [List.length_map, List.length_take]; omega
  have e2 : l.getD k 0 = l[k] := by simp [List.getD, hl, hk]
  unfold idRow
  rw [hm, hm2, List.replicate_succ, List.take_succ_eq_append_getElem (by omega : k < l.length), List.map_append, List.map_cons, set_mid _ _ _ _ k e, e2, List.map_append, List.map_append, List.append_assoc]
  rfl
theorem idRow_here (l : List (BitVec 8)) (k : Nat) (hl : l.length = 32) (hk : k < 32) : ((idRow l k).map c8).toArray[k]? = some (c8 0) := by
  obtain ⟨m, hm⟩ : ∃ m, 32 - k = m + 1 := ⟨31 - k, by omega⟩
  have e : (l.take k).length = k := by simp; omega
  unfold idRow
  rw [hm, List.replicate_succ, List.getElem?_toArray, List.getElem?_map, List.getElem?_append_right (by omega), e]
  simp
theorem idRow_all (l : List (BitVec 8)) (hl : l.length = 32) : idRow l 32 = l := by
  unfold idRow; rw [List.take_of_length_le (by omega)]; simp
theorem int_add64 (k : Nat) : Value.int .i64 (((64 * k : Nat) : Int) + 64) = Value.int .i64 ((64 * (k + 1) : Nat) : Int) := by congr 1
set_option maxRecDepth 100000 in
set_option maxHeartbeats 1600000 in
theorem refsum_any (A : Option Addr) (n c : Nat) (bs : List (BitVec 8)) (w : World) (hr : Reads w w.heap.size 1 A n (bs.map c8)) (hn : n ≤ 1099511627776) :
    Calls Try.prog 90 #[.slice A n c] w fun e w' => e = .returned (.agg ((shaOf bs).map c8).toArray) ∧ Below w.heap.size w w' := by
  obtain ⟨Z, hZ, hZr⟩ := zero_id
  obtain ⟨W0, hW0⟩ : ∃ W0, w.alloc (.cells Z 70) = W0 := ⟨_, rfl⟩
  have q1 : Blk W0 w.heap.size 70 Z := by rw [← hW0]; exact Blk.new w _ Z
  have hB0 : Below w.heap.size w W0 := by rw [← hW0]; exact (Below.refl _ w).alloc (Nat.le_refl _) _
  have hsz : W0.heap.size = w.heap.size + 1 := by rw [← hW0]; simp
  obtain ⟨W1, hW1⟩ : ∃ W1, W0.alloc (.cells (shaH.list.map c32).toArray 22) = W1 := ⟨_, rfl⟩
  have hB1' : Below W0.heap.size W0 W1 := by rw [← hW1]; exact (Below.refl _ W0).alloc (Nat.le_refl _) _
  have S1 : Reads W1 W1.heap.size 1 (some ⟨W0.heap.size, 0, none⟩) 8 (shaH.list.map c32) := by
    rw [← hW1]; exact (Reads.new W0 22 (shaH.list.map c32).toArray).more (by simp)
  have hB1 := hB0.trans (hB1'.mono (by omega))
  have q1 := q1.below hB1' (by omega)
  have R1 := (hr.below hB1).more (B' := W1.heap.size) hB1.size
  have hZ0 : Z = ((idRow (shaOf bs) 0).map c8).toArray := by rw [hZr]; rfl
  have hml : (paddedOf bs).length % 64 = 0 := padded_len bs
  have hlen : bs.length = n := hr.len
  have hmm : (paddedOf bs).length ≤ n + 72 := by
    unfold paddedOf; rw [List.length_append, tailOf_len, hlen]; omega
  have HZ32 : Hid (Z.size = 32) := hide (by rw [hZr]; rfl)
  obtain ⟨P, hP⟩ : ∃ P, P = paddedOf bs := ⟨_, rfl⟩
  have HSH : Hid (∀ k, k = P.length / 64 → shaOf bs = bytesOf (runV shaH P k).list) := hide (fun k hk => by rw [hk, hP]; rfl)
  have HPA : Hid (∀ (A : Option Addr) (c : Nat), True) := hide (fun _ _ => trivial)
  have CP : Hid (Calls Try.prog 115 #[.slice A n c] W1 fun e w' => ∃ A' m c', e = .returned (.slice A' m c') ∧ w'.ownsRow W1.heap.size 5 1 (.slice A' m c') m (P.map c8) ∧ Below W1.heap.size W1 w') := hide (by rw [hP]; exact padded_any A n c bs W1 R1 hn)
  rw [← hP] at hml hmm
  replace hZ := hide hZ
  replace hW0 := hide hW0
  replace hW1 := hide hW1
  replace q1 := hide q1
  replace hB1 := hide hB1
  rw [hsz] at S1
  replace S1 := hide S1
  replace hZ0 := hide hZ0
  clear hZr hB0 hB1' hP HPA R1 hr hlen
  go_enter Try.func90, Try.ntmps90
  go_wp2_with (first
    | (refine wpList_alloc_is rfl 70 rfl Z hZ.out ?_)
    | (rw [hW0.out]; go_at_call 114; refine (refstarts_any _).mono ?_; rintro e w1 ⟨rfl, rfl⟩; rw [hW1.out])
    | (go_at_call 115; refine CP.out.mono ?_; rintro e W2 ⟨A2, m, c2, rfl, own2, hb2⟩; have HO := hide own2; have HB2 := hide hb2; clear own2 hb2))
  have hmc := own_cap HO.out
  have RP := Reads.of_own HO.out
  have hPm : P.length = m := RP.len
  have h2 := HB2.out.size
  have q2 := hide (q1.out.below HB2.out q1.out.lt)
  have S2 := hide (S1.out.later HB2.out)
  have B2 := hide (hB1.out.trans (HB2.out.mono hB1.out.size))
  have CPk : Hid (∀ k W, 64 * k + 64 ≤ m → Below W2.heap.size W2 W → ∃ g o, A2 = some ⟨g, o, none⟩ ∧ Reads W W.heap.size 1 (some ⟨g, o + 64 * k, none⟩) 64 (((P.drop (64 * k)).take 64).map c8)) := hide (fun k W hk h => by
    obtain ⟨g, o, rfl, hg⟩ := Reads.addr' RP (by omega)
    exact ⟨g, o, rfl, ((RP.slice_ hk).below h).more h.size⟩)
  rw [hPm] at hml hmm
  have HPM := hide hPm
  clear HO HB2 RP CP hPm q1 hB1 S1 h2
  go_loopw [3, 5] (fun v i wr => ∃ (k : Nat) (A : Option Addr) (c : Nat), 64 * k ≤ m ∧ i = .int .i64 ((64 * k : Nat) : Int) ∧ v = .slice A 8 c ∧ Hid (Reads wr wr.heap.size 1 A 8 ((runV shaH P k).list.map c32)) ∧ Hid (Below W2.heap.size W2 wr)) (fun _ i _ => m - (intOf i).toNat)
  case atStart => exact ⟨0, _, _, by omega, rfl, rfl, S2, hide (Below.refl _ _)⟩
  case round =>
    obtain ⟨k, A3, c3, hk, rfl, rfl, hrd, hB3⟩ := hrel
    clear S2
    by_cases hlt : 64 * k < m
    · have hd : decide (((64 * k : Nat) : Int) < (m : Int)) = true := by simp; omega
      obtain ⟨g, o, rfl, hpc⟩ := CPk.out k wr (by omega) hB3.out
      have HPC := hide hpc
      have hne : ¬ c2 = 64 * k := by omega
      have HN : Hid (runV shaH P (k + 1) = takeV (runV shaH P k) ((P.drop (64 * k)).take 64)) := hide rfl
      clear hpc
      go_wp2_with (go_at_call 116; refine (reftake_any (runV shaH P k) A3 c3 _ _ ((P.drop (64 * k)).take 64) wr hrd.out HPC.out).mono ?_; rintro e w5 ⟨A5, c5, rfl, r5, b5⟩; have R5 := hide r5; have B5 := hide (below_next hB3.out b5); clear r5 b5)
      go_roundw
      case rel => exact ⟨k + 1, A5, c5, by omega, int_add64 k, rfl, hide (by rw [HN.out]; exact R5.out), B5⟩
      case measure => simp [intOf]; omega
    · obtain rfl : m = 64 * k := by omega
      have hd : decide (((64 * k : Nat) : Int) < ((64 * k : Nat) : Int)) = false := by simp
      have HE : Hid (shaOf bs = bytesOf (runV shaH P k).list) := hide (HSH.out k (by rw [HPM.out]; omega))
      obtain ⟨L, hL⟩ : ∃ L, L = shaOf bs := ⟨_, rfl⟩
      have HLL : Hid (L.length = 32) := hide (by rw [hL]; exact shaOf_len bs)
      rw [← hL] at HE hZ0
      have HQL := hide hL
      have hgrow := hB3.out.size
      have B6 := hide ((B2.out.trans (hB3.out.mono B2.out.size)).alloc (Nat.le_trans B2.out.size hgrow) (.cells Z 70))
      have bz := (Below.refl wr.heap.size wr).alloc (Nat.le_refl _) (.cells Z 70)
      have RD6 := hide (hrd.out.later bz)
      have Q6 : Blk (wr.alloc (.cells Z 70)) wr.heap.size 70 ((idRow L 0).map c8).toArray := by rw [← hZ0.out]; exact Blk.new wr _ Z
      have Q2 := hide ((q2.out.below hB3.out q2.out.lt).below bz (Nat.lt_of_lt_of_le q2.out.lt hgrow))
      have hl2 : w.heap.size < wr.heap.size := Nat.lt_of_lt_of_le q2.out.lt hgrow
      replace Q6 := hide Q6
      obtain ⟨g6, hg6⟩ : ∃ g, g = wr.heap.size := ⟨_, rfl⟩
      obtain ⟨W6, hW6⟩ : ∃ W, wr.alloc (.cells Z 70) = W := ⟨_, rfl⟩
      have hs6 : W6.heap.size = g6 + 1 := by rw [← hW6, hg6]; simp
      rw [← hg6] at Q6 hl2
      rw [hW6] at B6 RD6 Q6 Q2
      replace hW6 := hide hW6
      have HG6 := hide hg6
      have HS6 := hide hs6
      clear hs6 hg6 hL bz q2 B2 hB3 hrd CPk HSH HPM hgrow hml hmm hk hlt
      go_wp2_with (first
        | (refine wpList_alloc_is rfl 70 rfl Z hZ.out ?_)
        | (rw [hW6.out]; go_at_call 117; refine (refbytes_any A3 8 c3 (runV shaH P k).list W6 RD6.out (by omega)).mono ?_; rintro e w7 ⟨A7, c7, rfl, own7, hb7⟩; have O7 := hide own7; have B7 := hide hb7; clear own7 hb7))
      rw [← HG6.out]
      have RB : Reads w7 w7.heap.size 1 A7 32 (L.map c8) := by rw [HE.out]; exact Reads.of_own O7.out
      obtain ⟨g7, o7, rfl, hg7⟩ := Reads.addr' RB (by omega)
      obtain ⟨hge, cs7, Q7⟩ := own_ge O7.out _ rfl
      have hne : g6 < g7 := by have := HS6.out; dsimp only at hge; omega
      have C7 : Hid (∀ i, i < 32 → cs7[o7 + i]? = some (c8 (L.getD i 0))) := hide (fun i hi => by
        have h1 := RB.byte hi
        rw [Q7.cell (o7 + i)] at h1; exact h1)
      have P7 : Hid (Blk w7 g7 5 cs7) := hide Q7
      have P6 := hide (Q6.out.below B7.out (by have := HS6.out; omega))
      have P2 := hide (Q2.out.below B7.out (by have := HS6.out; omega))
      have P0 := hide (B6.out.trans (B7.out.mono B6.out.size))
      have HZs : Hid (Z.size = 32) := HZ32
      clear RB hge Q7 Q6 Q2 B6 B7 O7 RD6 HE hW6 HS6 hd hg7
      go_loopw [8] (fun i wr => ∃ k : Nat, k ≤ 32 ∧ i = .int .i64 (k : Int) ∧ Hid (Blk wr g6 70 ((idRow L k).map c8).toArray) ∧ Hid (Blk wr w.heap.size 70 Z) ∧ Hid (Blk wr g7 5 cs7) ∧ Hid (Below w.heap.size w wr)) (fun i _ => 32 - (intOf i).toNat)
      case atStart => exact ⟨0, by omega, rfl, P6, P2, P7, P0⟩
      case round =>
        obtain ⟨k, hk, rfl, E6, E2, E7, E0⟩ := hrel
        clear P6 P2 P7 P0
        by_cases hlt : k < 32
        · have hd : decide ((k : Int) < 32) = true := by simp; omega
          have hb : wr.cell? ⟨g7, o7 + k, none⟩ = some (c8 (L.getD k 0)) := (E7.out.cell (o7 + k)).trans (C7.out k hlt)
          have ct := (E6.out.cell k).trans (idRow_here L k HLL.out hlt)
          have cf := E6.out.frozen k
          have hnx := idRow_next L k HLL.out hlt
          generalize L.getD k 0 = x at *
          have n6 := E6.out.set_ k (c8 x)
          rw [hnx] at n6
          have n2 := hide (E2.out.far (p := ⟨g6, k, none⟩) (by dsimp only; omega) (c8 x))
          have n7 := hide (E7.out.far (p := ⟨g6, k, none⟩) (by dsimp only; omega) (c8 x))
          have n0 := hide (E0.out.setCell (p := ⟨g6, k, none⟩) (by dsimp only; omega) (c8 x))
          replace n6 := hide n6
          clear hnx E6 E2 E7 E0
          have hk0 : (0 : Int) ≤ (k : Int) := by omega
          have hk1 : (k : Int) < 32 := by omega
          go_wp2
          go_roundw
          case rel => exact ⟨k + 1, hlt, int_succ k, n6, n2, n7, n0⟩
          case measure => simp [intOf]; omega
        · obtain rfl : k = 32 := by omega
          have hd : decide (((32 : Nat) : Int) < 32) = false := rfl
          obtain ⟨R, hR⟩ : ∃ R, R = (L.map c8).toArray := ⟨_, rfl⟩
          have HRz : Hid (R.size = 32) := hide (by rw [hR]; simp [HLL.out])
          have HRi : Hid ((Try.prog.info? 70).map (·.size) = some R.size) := hide (by rw [HRz.out]; exact info_id)
          have HRo : Hid (R.all (·.oneCell') = true) := hide (by rw [hR]; exact oneCell_bytes _)
          have HZR : Hid (Z.size = R.size) := hide (by rw [HZs.out, HRz.out])
          rw [idRow_all L HLL.out, ← hR] at E6
          have HF : Hid (((shaOf bs).map c8).toArray = R) := hide (by rw [← HQL.out, hR])
          clear hR hk hlt C7
          go_wp2_with (first
            | ((with_reducible show wpList _ _ _ (⟨_, .load _ _, _, _, _, _⟩ :: _) _ _); refine wpList_load_row rfl 70 _ rfl g6 rfl 70 R (0, 0) _ E6.out Try.underlying70 rfl HRi.out ?_)
            | ((with_reducible show wpList _ _ _ (⟨_, .store _ _ _, _, _, _, _⟩ :: _) _ _); refine wpList_store_row rfl 70 _ _ rfl w.heap.size rfl R rfl 70 _ E2.out HRi.out HZR.out HRo.out ?_))
          refine bodyPost_ret (v := .agg R) ?_ rfl ⟨by rw [HF.out], ?_⟩
          · exact results_cell_row rfl _ _ w.heap.size 70 R (0, 0) _ rfl (setRow_heap _ _ _ _ _ _ E2.out) Try.underlying70 rfl HRi.out
          · exact below_setRow E0.out (Nat.le_refl _) _
end Go.Proofs.Ytccpkafmbmkmfaa
