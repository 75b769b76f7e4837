/- Package mac's pad. Condition: a key of at most 2^30 bytes. -/
import Derived.Test.YtdikknfdgpdenaaMac
import Derived.Test.YtdikknfdgpdenaaShaAlive
import Derived.Deep.CutRange
import Derived.Deep.DeepCutAuto
namespace Go.Proofs.Ytdikknfdgpdenaa
open Go.RowKit
set_option linter.unusedVariables false
set_option linter.unusedSimpArgs false

theorem made_u8 (n : Nat) (hn : n ≤ 1099511627776) (w : World) : (Instr.makeSlice 29 (.int .i64 (n : Int)) (.int .i64 (n : Int))).run Try.prog w = .ok (.slice (some ⟨w.heap.size, 0, none⟩) n n) (w.alloc (.cells (List.replicate n (c8 0)).toArray 5)) := by
  obtain ⟨i0, hi, hz0, hz1, hz2⟩ := info_parts info_u8
  have := run_make (P := Try.prog) w 29 5 i0 (.int .u8 0) Try.underlying29 hi hz0 .i64 .i64 n n (by omega) (by omega) (by rw [hz2]; omega) (by omega)
  rw [hz1] at this
  rw [this]
  congr 4
  rw [madeCells]
  apply Array.ext
  · simp
  · intro i h1 h2
    simp [Value.cells, Nat.mod_one]
/-- one slice, as a row of parts -/
theorem rows1 {W : World} {A1 : Option Addr} {n1 c1 : Nat} {b1 : List (BitVec 8)} (r1 : Reads W W.heap.size 1 A1 n1 (b1.map c8)) (h1 : n1 ≤ c1) (t : TypeId) :
    Reads (W.alloc (.cells #[.slice A1 n1 c1] t)) (W.alloc (.cells #[.slice A1 n1 c1] t)).heap.size 1 (some ⟨W.heap.size, 0, none⟩) 1 [.slice A1 n1 c1] ∧
    Rows8 (W.alloc (.cells #[.slice A1 n1 c1] t)) (W.alloc (.cells #[.slice A1 n1 c1] t)).heap.size [.slice A1 n1 c1] [b1] := by
  have hb := (Below.refl W.heap.size W).alloc (Nat.le_refl _) (.cells #[.slice A1 n1 c1] t)
  refine ⟨(Reads.new W t #[.slice A1 n1 c1]).more (by simp), rfl, fun i v p hv hp => ?_⟩
  match i with
  | 0 => cases hv; cases hp; exact ⟨_, _, _, rfl, r1.later hb, h1⟩
  | _ + 1 => simp at hv
/-- the hash of one part, built in place -/
theorem sum1_any {W : World} {A1 : Option Addr} {n1 c1 : Nat} {b1 : List (BitVec 8)} (r1 : Reads W W.heap.size 1 A1 n1 (b1.map c8)) (h1 : n1 ≤ c1) (hl : n1 ≤ 1099511627000) (c : Nat) :
    Calls Try.prog 39 #[.slice (some ⟨W.heap.size, 0, none⟩) 1 c] (W.alloc (.cells #[.slice A1 n1 c1] 29)) fun e w' => e = .returned (.agg ((shaOf b1).map c8).toArray) ∧ Below W.heap.size W w' := by
  obtain ⟨q1, q2⟩ := rows1 r1 h1 29
  have l1 : b1.length = n1 := r1.len
  have h := shasum_any _ 1 c _ _ _ q1 q2 (by omega) (by simp; omega)
  rw [show ([b1] : List (List (BitVec 8))).flatten = b1 by simp] at h
  refine h.mono ?_
  rintro e w' ⟨rfl, hb⟩
  exact ⟨rfl, ((Below.refl W.heap.size W).alloc (Nat.le_refl _) _).trans (hb.mono (by simp))⟩
set_option maxRecDepth 100000 in
set_option maxHeartbeats 1600000 in
theorem pad_any (A : Option Addr) (n c : Nat) (bs : List (BitVec 8)) (by_ : BitVec 8) (w : World) (hr : Reads w w.heap.size 1 A n (bs.map c8)) (hc : n ≤ c) (hn : n ≤ 1099511627000) :
    Calls Try.prog 73 #[.slice A n c, .int .u8 (by_.toNat : Int)] w fun e w' => ∃ g, e = .returned (.slice (some ⟨g, 0, none⟩) 64 64) ∧ w.heap.size ≤ g ∧ Blk w' g 5 ((blockOf bs by_).map c8).toArray ∧ Below w.heap.size w w' := by
  have hl : bs.length = n := hr.len
  obtain ⟨Z, hZ⟩ : ∃ Z, Z = (List.replicate 64 (c8 0)).toArray := ⟨_, rfl⟩
  have hmk : ∀ w, (Instr.makeSlice 29 (.int .i64 64) (.int .i64 64)).run Try.prog w = .ok (.slice (some ⟨w.heap.size, 0, none⟩) 64 64) (w.alloc (.cells Z 5)) := fun w => by rw [hZ]; exact made_u8 64 (by omega) w
  obtain ⟨W0, hW0⟩ : ∃ W0, w.alloc (.cells Z 5) = W0 := ⟨_, rfl⟩
  have hB0 : Below w.heap.size w W0 := by rw [← hW0]; exact (Below.refl _ w).alloc (Nat.le_refl _) _
  have hQ0 : Blk W0 w.heap.size 5 Z := by rw [← hW0]; exact Blk.new w _ Z
  have hs0 : W0.heap.size = w.heap.size + 1 := by rw [← hW0]; simp
  have hR0 := (hr.below hB0).more (B' := W0.heap.size) (by omega)
  have HL := hide hl
  replace hZ := hide hZ
  replace hB0 := hide hB0
  replace hQ0 := hide hQ0
  replace hR0 := hide hR0
  replace hs0 := hide hs0
  replace hW0 := hide hW0
  clear hl hr
  go_enter Try.func73, Try.ntmps73
  go_upto_if 11 with fail
  rw [hW0.out]
  go_cut [0] (fun s0 wx => ∃ A m c, s0 = .slice A m c ∧ m ≤ 64 ∧ Hid (Reads wx wx.heap.size 1 A m ((keyOf bs).map c8)) ∧ Hid (Blk wx w.heap.size 5 Z) ∧ Hid (Below w.heap.size w wx))
  case first =>
    by_cases h64 : n ≤ 64
    · have hd : decide ((64 : Int) < (n : Int)) = false := by simp; omega
      have HK : Hid (keyOf bs = bs) := hide (by unfold keyOf; rw [if_pos (by rw [HL.out]; exact h64)])
      go_wp2_with fail
      go_meet
      exact ⟨A, n, c, rfl, h64, by rw [HK.out]; exact hR0, hQ0, hB0⟩
    · have hd : decide ((64 : Int) < (n : Int)) = true := by simp; omega
      have HK : Hid (keyOf bs = shaOf bs) := hide (by unfold keyOf; rw [if_neg (by rw [HL.out]; exact h64)])
      obtain ⟨ZI, hZI, hZIr⟩ := zero_id
      obtain ⟨R, hR⟩ : ∃ R, R = ((shaOf bs).map c8).toArray := ⟨_, rfl⟩
      have hRz : R.size = 32 := by rw [hR]; simp [shaOf_len]
      have HRi : Hid ((Try.prog.info? 44).map (·.size) = some R.size) := hide (by rw [hRz]; exact info_id)
      have HRo : Hid (R.all (·.oneCell') = true) := hide (by rw [hR]; exact oneCell_bytes _)
      have HZR : Hid (ZI.size = R.size) := hide (by rw [hRz, hZIr]; rfl)
      have HC := hide (sum1_any hR0.out hc hn 1)
      rw [← hR] at HC
      replace hR := hide hR
      replace hZI := hide hZI
      clear hZIr hRz
      go_wp2_with (first
        | (go_at_call 39; (with_reducible refine HC.out.mono ?_); rintro e w1 ⟨rfl, hb1⟩; have B1 := hide (hB0.out.trans (hb1.mono (by rw [hs0.out]; omega))); have Q1 := hide (hQ0.out.below hb1 hQ0.out.lt); clear hb1)
        | ((with_reducible show wpList _ _ _ (⟨_, .alloc 44, _, _, _, _⟩ :: _) _ _); refine wpList_alloc_is rfl 44 rfl ZI hZI.out ?_; have K1 := hide (Blk.new w1 44 ZI); have B2 := hide (B1.out.alloc B1.out.size (.cells ZI 44)); have Q2 := hide (Q1.out.alloc (.cells ZI 44)))
        | ((with_reducible show wpList _ _ _ (⟨_, .store _ _ _, _, _, _, _⟩ :: _) _ _); refine wpList_store_row rfl 44 _ _ rfl w1.heap.size rfl R rfl 44 _ K1.out HRi.out HZR.out HRo.out ?_))
      go_meet
      have K3 := K1.out.setRow_ R
      have hlt := Q1.out.lt
      refine ⟨_, 32, 32, rfl, by omega, hide ?_, hide (Q2.out.setRow_far R (by omega)), hide (below_setRow B2.out B1.out.size R)⟩
      have h := reads_row K3
      rw [hR.out, HK.out] at *
      simpa [shaOf_len] using h
  case rest =>
    obtain ⟨A1, m, c1, rfl, hm, HR, HQ, HB⟩ := hcut
    obtain ⟨K, hK⟩ : ∃ K, K = keyOf bs := ⟨_, rfl⟩
    have hKl : K.length = m := by rw [hK]; exact HR.out.len
    have HE : Hid (blockOf bs by_ = xorK K by_ 64) := hide (by rw [hK]; rfl)
    rw [← hK] at HR
    have HL2 := hide hKl
    have Hm := hide hm
    clear hK hKl hm hmk hW0 hs0 hR0 hQ0 hB0
    have hQl := HQ.out.lt
    obtain ⟨ZL, hZL⟩ : ∃ ZL, ZL = List.replicate 64 (c8 0) := ⟨_, rfl⟩
    replace hZL := hide hZL
    obtain ⟨WL, hWL⟩ : ∃ WL, WL = K.map c8 := ⟨_, rfl⟩
    replace hWL := hide hWL
    go_wp2_with (refine wpList_copy_splice rfl (.tmp 16) (.tmp 17) 29 29 rfl 5 Try.underlying29 (by kernel_rfl) (some ⟨w.heap.size, 0, none⟩) A1 64 64 m c1 rfl rfl w.heap.size 0 ZL 5 ?g1 WL ?g2 ?g3 ?g4 ?g5 w.heap.size wc (Below.refl _ _) (Nat.le_refl _) ?_)
    case g1 => rw [hZL.out, ← hZ.out]; exact HQ.out
    case g2 => rw [hWL.out, List.length_map, HL2.out]; have := Hm.out; show m = min m 64; omega
    case g3 =>
      intro h0
      rw [hWL.out, List.length_map, HL2.out] at h0
      obtain ⟨ad, e, _, hc⟩ := HR.out.2 h0
      exact ⟨ad, e, fun j v hv => hc j v (by rw [hWL.out] at hv; exact hv)⟩
    case g4 => rw [hWL.out, hZL.out]; have := Hm.out; simp [HL2.out]; omega
    case g5 => rw [hWL.out]; exact oneCell_c8 _
    intro w2 hg2 hB2
    have V0 : Hid (Blk w2 w.heap.size 5 ((halfK K by_ 0).map c8).toArray) := hide (by
      have h := hg2.out
      rw [hZL.out, hWL.out] at h
      have e : splice (List.replicate 64 (c8 0)) 0 (K.map c8) = (halfK K by_ 0).map c8 := by
        rw [halfK_zero, padK_splice K (by rw [HL2.out]; exact Hm.out), splice, List.take_zero, List.nil_append, Nat.zero_add, List.length_map, List.drop_replicate, List.map_append, List.map_replicate]
        rfl
      rw [e] at h
      exact h)
    have B2 := hide (HB.out.trans hB2)
    clear hg2 hB2 HB HQ HR
    go_wp2
    go_loopw [21] (fun i wr => ∃ k : Nat, k ≤ 64 ∧ i = .int .i64 (k : Int) ∧ Hid (Blk wr w.heap.size 5 ((halfK K by_ k).map c8).toArray) ∧ Hid (Below w.heap.size w wr)) (fun i _ => 64 - (intOf i).toNat)
    case atStart => exact ⟨0, by omega, rfl, V0, B2⟩
    case round =>
      obtain ⟨k, hk, rfl, HV, HB⟩ := hrel
      clear V0 B2
      by_cases hlt : k < 64
      · have hd : decide ((k : Int) < 64) = true := by simp; omega
        have hcell : wr.cell? ⟨w.heap.size, k, none⟩ = some (c8 (K.getD k 0)) := (HV.out.cell k).trans (by rw [List.getElem?_toArray, List.getElem?_map, halfK_get K by_ k hlt]; rfl)
        have hfr := HV.out.frozen k
        have hk0 : (0 : Int) ≤ (k : Int) := by omega
        have hk1 : (k : Int) < 64 := by omega
        have hx := xor_u8 (K.getD k 0) by_
        obtain ⟨x, hxx⟩ : ∃ x, x = K.getD k 0 := ⟨_, rfl⟩
        rw [← hxx] at hcell hx
        replace hxx := hide hxx
        go_wp2
        go_roundw
        case rel =>
          refine ⟨k + 1, hlt, int_succ k, hide ?_, hide (HB.out.setCell (p := ⟨w.heap.size, k, none⟩) (Nat.le_refl _) _)⟩
          have h := HV.out.set_ k (c8 (x ^^^ by_))
          rw [List.setIfInBounds_toArray, ← List.map_set, hxx.out, halfK_set K by_ k hlt] at h
          rw [← hxx.out] at h
          exact h
        case measure => simp [intOf]; omega
      · obtain rfl : k = 64 := by omega
        have hd : decide ((64 : Int) < 64) = false := by decide
        rw [halfK_all, ← HE.out] at HV
        go_wp2
        go_ret
        exact ⟨_, rfl, Nat.le_refl _, HV.out, HB.out⟩
end Go.Proofs.Ytdikknfdgpdenaa
