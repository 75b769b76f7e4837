/- Chapter 03's reference: a key's block. Condition: a key of at most 2^30 bytes. -/
import Derived.Test.YtdikknfdgpdenaaMacPad
namespace Go.Proofs.Ytdikknfdgpdenaa
open Go.RowKit
set_option linter.unusedVariables false
set_option linter.unusedSimpArgs false

theorem own_mono {w : World} {base b' : Nat} {e : TypeId} {size n : Nat} {v : Value} {xs : List Value} (h : w.ownsRow base e size v n xs) (hb : b' ≤ base) : w.ownsRow b' e size v n xs := by
  refine ⟨h.1, ?_⟩
  rcases h.2 with h | ⟨g, cap, cur, h1, h2, h3⟩
  · exact .inl h
  · exact .inr ⟨g, cap, cur, h1, Nat.le_trans hb h2, h3⟩
set_option maxRecDepth 100000 in
set_option maxHeartbeats 1600000 in
theorem refblock_any (A : Option Addr) (n c : Nat) (bs : List (BitVec 8)) (by_ : BitVec 8) (w : World) (hr : Reads w w.heap.size 1 A n (bs.map c8)) (hn : n ≤ 1099511627000) :
    Calls Try.prog 74 #[.slice A n c, .int .u8 (by_.toNat : Int)] w fun e w' => ∃ A' c', e = .returned (.slice A' 64 c') ∧ w'.ownsRow w.heap.size 5 1 (.slice A' 64 c') 64 ((blockOf bs by_).map c8) ∧ Below w.heap.size w w' := by
  obtain ⟨i0, hi0, hz0, hz1, hz2⟩ := info_parts info_u8
  have hl : bs.length = n := hr.len
  have HL := hide hl
  replace hr := hide hr
  clear hl
  go_enter Try.func74, Try.ntmps74
  go_upto_if 11 with fail
  go_cut [0] (fun s0 wx => ∃ A m c, s0 = .slice A m c ∧ m ≤ 64 ∧ Hid (Reads wx wx.heap.size 1 A m ((keyOf bs).map c8)) ∧ Hid (Below w.heap.size w wx))
  case first =>
    by_cases h64 : n ≤ 64
    · have hd : decide ((64 : Int) < (n : Int)) = false := by simp; omega
      have HK : Hid (keyOf bs = bs) := hide (by unfold keyOf; rw [if_pos (by rw [HL.out]; exact h64)])
      go_wp2_with fail
      go_meet
      exact ⟨A, n, c, rfl, h64, by rw [HK.out]; exact hr, hide (Below.refl _ _)⟩
    · have hd : decide ((64 : Int) < (n : Int)) = true := by simp; omega
      have HK : Hid (keyOf bs = shaOf bs) := hide (by unfold keyOf; rw [if_neg (by rw [HL.out]; exact h64)])
      obtain ⟨ZI, hZI, hZIr⟩ := zero_id
      obtain ⟨R, hR⟩ : ∃ R, R = ((shaOf bs).map c8).toArray := ⟨_, rfl⟩
      have hRz : R.size = 32 := by rw [hR]; simp [shaOf_len]
      have HRi : Hid ((Try.prog.info? 44).map (·.size) = some R.size) := hide (by rw [hRz]; exact info_id)
      have HRo : Hid (R.all (·.oneCell') = true) := hide (by rw [hR]; exact oneCell_bytes _)
      have HZR : Hid (ZI.size = R.size) := hide (by rw [hRz, hZIr]; rfl)
      have HC := hide (refsum_any A n c bs w hr.out (by omega))
      rw [← hR] at HC
      replace hR := hide hR
      replace hZI := hide hZI
      clear hZIr hRz
      go_wp2_with (first
        | (go_at_call 36; (with_reducible refine HC.out.mono ?_); rintro e w1 ⟨rfl, hb1⟩; have B1 := hide hb1; clear hb1)
        | ((with_reducible show wpList _ _ _ (⟨_, .alloc 44, _, _, _, _⟩ :: _) _ _); refine wpList_alloc_is rfl 44 rfl ZI hZI.out ?_; have K1 := hide (Blk.new w1 44 ZI); have B2 := hide (B1.out.alloc B1.out.size (.cells ZI 44)))
        | ((with_reducible show wpList _ _ _ (⟨_, .store _ _ _, _, _, _, _⟩ :: _) _ _); refine wpList_store_row rfl 44 _ _ rfl w1.heap.size rfl R rfl 44 _ K1.out HRi.out HZR.out HRo.out ?_))
      go_meet
      have K3 := K1.out.setRow_ R
      refine ⟨_, 32, 32, rfl, by omega, hide ?_, hide (below_setRow B2.out B1.out.size R)⟩
      have h := reads_row K3
      rw [hR.out, HK.out] at *
      simpa [shaOf_len] using h
  case rest =>
    obtain ⟨A1, m, c1, rfl, hm, HR, HB⟩ := hcut
    obtain ⟨K, hK⟩ : ∃ K, K = keyOf bs := ⟨_, rfl⟩
    have hKl : K.length = m := by rw [hK]; exact HR.out.len
    have HE : Hid (blockOf bs by_ = xorK K by_ 64) := hide (by rw [hK]; rfl)
    rw [← hK] at HR
    have HL2 := hide hKl
    have HG : Hid (w.heap.size ≤ wc.heap.size) := hide HB.out.size
    clear hK hKl hr
    go_wp2
    go_loopw [5, 7] (fun v i wr => ∃ (k : Nat) (A : Option Addr) (c : Nat), k ≤ 64 ∧ v = .slice A k c ∧ i = .int .i64 (k : Int) ∧ Hid (wr.ownsRow wc.heap.size 5 1 (.slice A k c) k ((xorK K by_ k).map c8)) ∧ Hid (Below wc.heap.size wc wr)) (fun _ i _ => 64 - (intOf i).toNat)
    case atStart => exact ⟨0, none, 0, by omega, rfl, rfl, hide (World.ownsRow_nil _ _ _ _), hide (Below.refl _ _)⟩
    case round =>
      obtain ⟨k, A3, c3, hk, rfl, rfl, ho, hB⟩ := hrel
      by_cases hlt : k < 64
      · have hd : decide ((k : Int) < 64) = true := by simp; omega
        have hk0 : (0 : Int) ≤ (k : Int) := by omega
        obtain ⟨x, hxx⟩ : ∃ x, x = K.getD k 0 := ⟨_, rfl⟩
        have HXS : Hid (xorK K by_ (k + 1) = xorK K by_ k ++ [x ^^^ by_]) := hide (by rw [xorK_succ, hxx])
        have hgr := hB.out.size
        have HR1 := hide (one_byte wr (x ^^^ by_))
        have HOA := hide (ho.out.alloc (.cells #[.int .u8 ((x ^^^ by_).toNat : Int)] 5))
        have HBA := hide (hB.out.alloc hgr (.cells #[.int .u8 ((x ^^^ by_).toNat : Int)] 5))
        by_cases hkm : k < m
        · have hd2 : decide ((k : Int) < (m : Int)) = true := by simp; omega
          have hk1 : (k : Int) < (m : Int) := by omega
          obtain ⟨g, o, rfl, hg⟩ := HR.out.addr' (by omega)
          have hcell : wr.cell? ⟨g, o + k, none⟩ = some (c8 x) := by
            obtain ⟨ad, e, _, hc⟩ := (HR.out.below hB.out).get (k := k) (by rw [HL2.out]; exact hkm)
            cases e
            rw [Addr.add_lit] at hc
            rw [hc, hxx]
            simp [List.getD, HL2.out, hkm]
          have hx := xor_u8 x by_
          replace hxx := hide hxx
          go_wp2_with (at_builtin; refine wpList_append_any _ rfl (.tmp 27) (.tmp 31) 29 rfl wc.heap.size 5 i0 _ 1 1 Try.underlying29 hi0 hz0 hz1 hz2 rfl (by omega) _ k _ rfl HOA.out _ _ 1 1 _ rfl HR1.out (oneCell_c8 _) (by simp only [maxLen]; omega) (by omega) HBA.out.size ?_; intro v5 W5 own5 grow5 _; have b5 := below_appended HBA.out HBA.out.size HOA.out (Nat.le_refl _) grow5; obtain ⟨A5, c5, rfl⟩ := own_slice own5; rw [← List.map_append, ← HXS.out] at own5; replace own5 := hide own5; replace b5 := hide b5; clear grow5)
          go_roundw
          case rel => exact ⟨k + 1, A5, c5, hlt, rfl, int_succ k, own5, b5⟩
          case measure => simp [intOf]; omega
        · have hd2 : decide ((k : Int) < (m : Int)) = false := by simp; omega
          have hx0 : x = 0 := by rw [hxx]; simp only [List.getD]; rw [List.getElem?_eq_none (by rw [HL2.out]; omega)]; rfl
          have hx : bits .xor .u8 0 (by_.toNat : Int) = ((x ^^^ by_).toNat : Int) := by rw [hx0]; exact xor_u8 0 by_
          replace hxx := hide hxx
          replace hx0 := hide hx0
          go_wp2_with (at_builtin; refine wpList_append_any _ rfl (.tmp 27) (.tmp 31) 29 rfl wc.heap.size 5 i0 _ 1 1 Try.underlying29 hi0 hz0 hz1 hz2 rfl (by omega) _ k _ rfl HOA.out _ _ 1 1 _ rfl HR1.out (oneCell_c8 _) (by simp only [maxLen]; omega) (by omega) HBA.out.size ?_; intro v5 W5 own5 grow5 _; have b5 := below_appended HBA.out HBA.out.size HOA.out (Nat.le_refl _) grow5; obtain ⟨A5, c5, rfl⟩ := own_slice own5; rw [← List.map_append, ← HXS.out] at own5; replace own5 := hide own5; replace b5 := hide b5; clear grow5)
          go_roundw
          case rel => exact ⟨k + 1, A5, c5, hlt, rfl, int_succ k, own5, b5⟩
          case measure => simp [intOf]; omega
      · obtain rfl : k = 64 := by omega
        have hd : decide ((64 : Int) < 64) = false := by decide
        rw [← HE.out] at ho
        go_wp2
        go_ret
        exact ⟨A3, c3, rfl, own_mono ho.out HG.out, HB.out.trans (hB.out.mono HG.out)⟩
end Go.Proofs.Ytdikknfdgpdenaa
