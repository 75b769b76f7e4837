/- Chapter 06's reference: New. No condition. -/
import Derived.Test.YtdeljodfanfbmaaCipherRefXor
import Derived.Test.YtdeljodfanfbmaaWRefWords
namespace Go.Proofs.Ytdeljodfanfbmaa
open Go.RowKit
set_option linter.unusedVariables false
set_option linter.unusedSimpArgs false

theorem own_setRow {w : World} {base n g : Nat} {e : TypeId} {v : Value} {xs : List Value} (h : w.ownsRow base e 1 v n xs) (hg : g < base) (cs : Array Value) : (w.setRow g cs).ownsRow base e 1 v n xs := by
  refine ⟨h.1, ?_⟩
  rcases h.2 with h | ⟨k, cap, cur, h1, h2, h3⟩
  · exact .inl h
  · refine .inr ⟨k, cap, cur, h1, h2, ?_⟩
    have hne : k ≠ g := by omega
    first
      | exact ⟨(setRow_other w g k cs hne).trans h3.1, h3.2⟩
      | exact (setRow_other w g k cs hne).trans h3
theorem zero_ref06 : (Try.prog.info? 56).map (·.zero) = some (some (.agg #[.slice none 0 0, .slice none 0 0])) := by kernel_rfl
theorem info_ref06 : (Try.prog.info? 56).map (·.size) = some 2 := by kernel_rfl
theorem refpower_2 (n : Nat) (hn : n ≤ 1000) (w : World) : Calls Try.prog 24 #[.int .u8 2, .int .i64 (n : Int)] w fun e w' => e = .returned (.int .u8 (powN 2 n : Int)) ∧ w = w' := by
  refine (refpower_any 2 n (by decide) (by omega) (by omega) w).mono ?_
  rintro e w' ⟨rfl, rfl⟩
  exact ⟨by rw [powI_nat 2 n (by decide)], rfl⟩
set_option maxRecDepth 100000 in
set_option maxHeartbeats 6400000 in
theorem refnew06_any (A : Option Addr) (c : Nat) (key : List (BitVec 8)) (w : World) (hr : Reads w w.heap.size 1 A 32 (key.map c8)) :
    Calls Try.prog 38 #[.slice A 32 c] w fun e w' => ∃ AW AT cw ct, e = .returned (.agg #[.slice AW 60 cw, .slice AT 256 ct]) ∧ 60 ≤ cw ∧ Reads w' w'.heap.size 1 AW 60 ((expandN sub8 (wordsOf key) 52).map c32) ∧
      Reads w' w'.heap.size 1 AT 256 (tabL.map c8) ∧ Below w.heap.size w w' := by
  obtain ⟨i0, hi0, hz0, hz1, hz2⟩ := info_parts info_u32
  have kl : key.length = 32 := hr.len
  obtain ⟨ws, hws⟩ : ∃ ws, ws = wordsOf key := ⟨_, rfl⟩
  have HWS : Hid (ws.length = 8) := hide (by rw [hws]; exact wordsOf_length key 8 (by omega))
  have HWE := hide hws
  rw [← hws]
  obtain ⟨ZC, hZC⟩ : ∃ ZC : Array Value, ZC = #[.slice none 0 0, .slice none 0 0] := ⟨_, rfl⟩
  have HZ : Hid ((Try.prog.info? 56).map (·.zero) = some (some (.agg ZC))) := hide (by rw [hZC]; exact zero_ref06)
  have HZs : Hid (ZC.size = 2) := hide (by rw [hZC]; rfl)
  have HR := hide hr
  have BA := hide ((Below.refl w.heap.size w).alloc (Nat.le_refl _) (.cells ZC 56))
  have KA := hide (Blk.new w 56 ZC)
  clear hr hws kl hZC
  go_enter Try.func38, Try.ntmps38
  go_wp2_with (first
    | (refine wpList_alloc_is rfl 56 rfl ZC HZ.out ?_)
    | (go_at_call 66; (with_reducible refine (reftable_any _).mono ?_); rintro e w1 ⟨gt, rfl, hgt, hT, hb1⟩; have HT1 := hide hT; have B1 := hide (BA.out.trans (hb1.mono BA.out.size)); have K1 := hide (KA.out.below hb1 KA.out.lt); clear hT hb1)
    | (go_at_call 67; (with_reducible refine (refwords_any A 32 8 c key w1 ((HR.out.below B1.out).more B1.out.size) (by omega) (by omega)).mono ?_); rintro e w2 ⟨A2, c2, rfl, own2, hb2⟩; rw [← HWE.out] at own2; have HO := hide own2; have B2 := hide hb2; clear own2 hb2))
  have hz9 : (w.alloc (.cells ZC 56)).heap.size = w.heap.size + 1 := by simp
  have hgne : gt ≠ w.heap.size := by omega
  clear hz9
  have lk := K1.out.lt
  have lt1 := HT1.out.lt
  go_loopw [4, 6] (fun v i wr => ∃ (k : Nat) (A : Option Addr) (c : Nat), k ≤ 52 ∧ v = .slice A (8 + k) c ∧ i = .int .i64 ((8 + k : Nat) : Int) ∧ Hid (wr.ownsRow w1.heap.size 30 1 (.slice A (8 + k) c) (8 + k) ((expandN sub8 ws k).map c32)) ∧ Hid (Below w1.heap.size w1 wr)) (fun _ i _ => 60 - (intOf i).toNat)
  case atStart => exact ⟨0, A2, c2, by omega, rfl, rfl, HO, B2⟩
  case round =>
    obtain ⟨k, A3, c3, hk, rfl, rfl, ho, hBW⟩ := hrel
    clear HO B2
    obtain ⟨n, hn⟩ : ∃ n, n = 8 + k := ⟨_, rfl⟩
    obtain ⟨L, hL⟩ : ∃ L, L = expandN sub8 ws k := ⟨_, rfl⟩
    have hLl : L.length = n := by rw [hL, expandN_len, HWS.out, hn]
    have hNx : expandN sub8 ws (k + 1) = L ++ [nextK sub8 L] := by rw [hL]; rfl
    rw [← hn, ← hL] at ho
    rw [← hn]
    by_cases hlt : k < 52
    · have hd : decide ((n : Int) < 60) = true := by simp; omega
      have hn0 : (0 : Int) ≤ (n : Int) := by omega
      obtain ⟨p, hp⟩ : ∃ p, n = p + 1 := ⟨n - 1, by omega⟩
      obtain ⟨q, hq⟩ : ∃ q, n = q + 8 := ⟨n - 8, by omega⟩
      obtain ⟨x, hx⟩ : ∃ x, L[p]? = some x := ⟨_, List.getElem?_eq_getElem (by rw [hLl]; omega)⟩
      obtain ⟨y, hy⟩ : ∃ y, L[q]? = some y := ⟨_, List.getElem?_eq_getElem (by rw [hLl]; omega)⟩
      obtain ⟨hN0, hN4, hN1⟩ := next_eq L n hLl x y (by rw [show n - 1 = p by omega]; exact hx) (by rw [show n - 8 = q by omega]; exact hy)
      have HR := Reads.of_own ho.out
      obtain ⟨ga, oa, rfl, hga⟩ := reads_at HR (by omega)
      have hcx := reads_cell HR hx
      have hcy := reads_cell HR hy
      have e1 : (n : Int) - 1 = (p : Int) := by omega
      have wf1 : IntKind.i64.wrap (p : Int) = (p : Int) := IntWalk.i64_in _ (by omega)
      have e8 : (n : Int) - 8 = (q : Int) := by omega
      have wf8 : IntKind.i64.wrap (q : Int) = (q : Int) := IntWalk.i64_in _ (by omega)
      have p0 : (0 : Int) ≤ (p : Int) := by omega
      have p1 : (p : Int) < (n : Int) := by omega
      have q0 : (0 : Int) ≤ (q : Int) := by omega
      have q1 : (q : Int) < (n : Int) := by omega
      have hcap := own_cap ho.out
      have hbx : Hid (Reads wr wr.heap.size 1 (some ⟨gt, 0, none⟩) 256 (tabL.map c8)) := hide (by
        have hq := HT1.out.below hBW.out lt1
        exact ⟨by rw [List.length_map, tabL_len], fun _ => ⟨_, rfl, hq.lt, fun j v hv => by rw [Addr.add_lit, Nat.zero_add, hq.cell, List.getElem?_toArray]; exact hv⟩⟩)
      have hgr : w1.heap.size ≤ wr.heap.size := hBW.out.size
      have hn8 : 8 ≤ n := by omega
      have hn60 : n < 60 := by omega
      replace hn := hide hn
      replace hp := hide hp
      replace hq := hide hq
      replace hL := hide hL
      replace hLl := hide hLl
      replace hNx := hide hNx
      obtain ⟨z, hz⟩ : ∃ z, z = nextK sub8 L := ⟨_, rfl⟩
      have HXS : Hid (expandN sub8 ws (k + 1) = L ++ [z]) := by rw [hz]; exact hNx
      have HR1 := hide (one_word wr z)
      have HOA := hide (ho.out.alloc (.cells #[.int .u32 (z.toNat : Int)] 30))
      have HBA := hide (hBW.out.alloc hgr (.cells #[.int .u32 (z.toNat : Int)] 30))
      have HBs : Hid (w1.heap.size ≤ (wr.alloc (.cells #[.int .u32 (z.toNat : Int)] 30)).heap.size) := hide (by simp; omega)
      rw [← hz] at hN0 hN4 hN1
      replace hz := hide hz
      clear hx hy HR
      by_cases h0 : n % 8 = 0
      · have m0 : (n : Int) % 8 = 0 := by omega
        obtain ⟨r, hr⟩ : ∃ r, n / 8 = r + 1 := ⟨n / 8 - 1, by omega⟩
        have d1 : (n : Int) / 8 - 1 = (r : Int) := by omega
        have wr1 : IntKind.i64.wrap (r : Int) = (r : Int) := IntWalk.i64_in _ (by omega)
        have HBW := hide (refword06_any _ 256 (rotl x 8) wr hbx.out)
        have hrot : bits .or .u32 ((x.toNat : Int) * 256 % 4294967296) ((x.toNat : Int) / 16777216) = ((rotl x 8).toNat : Int) := left_u32 x 8
        have HPW := hide (refpower_2 r (by omega) wr)
        have m4 : ((n : Int) % 8 == 4) = false := by simp; omega
        have hpl := powN_lt 2 r (by decide)
        have hval : bits .xor .u32 (y.toNat : Int) (bits .xor .u32 ((subX sub8 (rotl x 8)).toNat : Int) ((powN 2 r : Int) * 16777216)) = (z.toNat : Int) := by
          rw [hN0 h0, show n / 8 - 1 = r by omega, show ((powN 2 r : Int) * 16777216) = ((rcon r).toNat : Int) by rw [rcon_nat]; omega, xor_u32, xor_u32]
        clear hN0 hN4 hN1 h0
        replace hn := hide hn
        replace hp := hide hp
        replace hq := hide hq
        replace hL := hide hL
        replace hLl := hide hLl
        replace hNx := hide hNx
        replace hr := hide hr
        go_wp2_with (first
          | (go_at_call 68; (with_reducible refine HBW.out.mono ?_); rintro e w5 ⟨rfl, rfl⟩)
          | (go_at_call 24; (with_reducible refine HPW.out.mono ?_); rintro e w5 ⟨rfl, rfl⟩)
          | (at_builtin; refine wpList_append_any _ rfl (.tmp 46) (.tmp 54) 54 rfl w1.heap.size 30 i0 _ 1 4 Try.underlying54 hi0 hz0 hz1 hz2 rfl (by omega) _ n _ rfl HOA.out _ _ 1 1 _ rfl HR1.out (oneCell_c32 _) (by simp only [maxLen]; omega) (by omega) HBs.out ?_; intro v5 W5 own5 grow5 _; have b5 := below_appended HBA.out HBs.out HOA.out (Nat.le_refl _) grow5; obtain ⟨A5, c5, rfl⟩ := own_slice own5; rw [← List.map_append, ← HXS.out] at own5; replace own5 := hide own5; replace b5 := hide b5; clear grow5))
        go_roundw
        case rel => exact ⟨k + 1, A5, c5, hlt, by rw [show 8 + (k + 1) = n + 1 by rw [hn.out]; omega], by rw [show 8 + (k + 1) = n + 1 by rw [hn.out]; omega]; exact int_succ n, by rw [show 8 + (k + 1) = n + 1 by rw [hn.out]; omega]; exact own5, b5⟩
        case measure => simp [intOf]; omega
      · have m0 : ((n : Int) % 8 == 0) = false := by simp; omega
        by_cases h4 : n % 8 = 4
        · have m4 : (n : Int) % 8 = 4 := by omega
          have HBW := hide (refword06_any _ 256 x wr hbx.out)
          have hval : bits .xor .u32 (y.toNat : Int) ((subX sub8 x).toNat : Int) = (z.toNat : Int) := by
            rw [hN4 h4, xor_u32]
          clear hN0 hN4 hN1 h0 h4
          clear m0
          replace hn := hide hn
          replace hp := hide hp
          replace hq := hide hq
          replace hL := hide hL
          replace hLl := hide hLl
          replace hNx := hide hNx
          go_wp2_with (first
            | (go_at_call 68; (with_reducible refine HBW.out.mono ?_); rintro e w5 ⟨rfl, rfl⟩)
            | (at_builtin; refine wpList_append_any _ rfl (.tmp 46) (.tmp 54) 54 rfl w1.heap.size 30 i0 _ 1 4 Try.underlying54 hi0 hz0 hz1 hz2 rfl (by omega) _ n _ rfl HOA.out _ _ 1 1 _ rfl HR1.out (oneCell_c32 _) (by simp only [maxLen]; omega) (by omega) HBs.out ?_; intro v5 W5 own5 grow5 _; have b5 := below_appended HBA.out HBs.out HOA.out (Nat.le_refl _) grow5; obtain ⟨A5, c5, rfl⟩ := own_slice own5; rw [← List.map_append, ← HXS.out] at own5; replace own5 := hide own5; replace b5 := hide b5; clear grow5))
          go_roundw
          case rel => exact ⟨k + 1, A5, c5, hlt, by rw [show 8 + (k + 1) = n + 1 by rw [hn.out]; omega], by rw [show 8 + (k + 1) = n + 1 by rw [hn.out]; omega]; exact int_succ n, by rw [show 8 + (k + 1) = n + 1 by rw [hn.out]; omega]; exact own5, b5⟩
          case measure => simp [intOf]; omega
        · have m4 : ((n : Int) % 8 == 4) = false := by simp; omega
          have hval : bits .xor .u32 (y.toNat : Int) (x.toNat : Int) = (z.toNat : Int) := by
            rw [hN1 h0 h4, xor_u32]
          clear hN0 hN4 hN1 h0 h4
          replace hn := hide hn
          replace hp := hide hp
          replace hq := hide hq
          replace hL := hide hL
          replace hLl := hide hLl
          replace hNx := hide hNx
          go_wp2_with (at_builtin; refine wpList_append_any _ rfl (.tmp 46) (.tmp 54) 54 rfl w1.heap.size 30 i0 _ 1 4 Try.underlying54 hi0 hz0 hz1 hz2 rfl (by omega) _ n _ rfl HOA.out _ _ 1 1 _ rfl HR1.out (oneCell_c32 _) (by simp only [maxLen]; omega) (by omega) HBs.out ?_; intro v5 W5 own5 grow5 _; have b5 := below_appended HBA.out HBs.out HOA.out (Nat.le_refl _) grow5; obtain ⟨A5, c5, rfl⟩ := own_slice own5; rw [← List.map_append, ← HXS.out] at own5; replace own5 := hide own5; replace b5 := hide b5; clear grow5)
          go_roundw
          case rel => exact ⟨k + 1, A5, c5, hlt, by rw [show 8 + (k + 1) = n + 1 by rw [hn.out]; omega], by rw [show 8 + (k + 1) = n + 1 by rw [hn.out]; omega]; exact int_succ n, by rw [show 8 + (k + 1) = n + 1 by rw [hn.out]; omega]; exact own5, b5⟩
          case measure => simp [intOf]; omega
    · obtain rfl : k = 52 := by omega
      obtain rfl : n = 60 := by omega
      have hd : decide (((60 : Nat) : Int) < 60) = false := by decide
      have HRw := ho
      rw [hL] at HRw
      have hcap := own_cap ho.out
      have K2 := hide (K1.out.below hBW.out lk)
      have T2 := hide (HT1.out.below hBW.out lt1)
      have BW := hide (B1.out.trans (hBW.out.mono B1.out.size))
      obtain ⟨CV, hCV⟩ : ∃ CV : Array Value, CV = #[.slice A3 60 c3, .slice (some ⟨gt, 0, none⟩) 256 256] := ⟨_, rfl⟩
      have HBu : Hid (Try.prog.built 56 [(0, .slice A3 60 c3), (1, .slice (some ⟨gt, 0, none⟩) 256 256)] = some CV) := hide (by rw [hCV]; kernel_rfl)
      have HCi : Hid ((Try.prog.info? 56).map (·.size) = some CV.size) := hide (by rw [hCV]; exact info_ref06)
      have HCs : Hid (ZC.size = CV.size) := hide (by rw [HZs.out, hCV]; rfl)
      have HCo : Hid (CV.all (·.oneCell') = true) := hide (by rw [hCV]; simp [Value.oneCell'])
      have HCV := hide hCV
      clear hn hLl hNx hL hCV
      go_wp2_with (first
        | ((with_reducible show wpList _ _ _ (⟨_, .build _ _, _, _, _, _⟩ :: _) _ _); refine wpList_build_is rfl 56 _ rfl CV (by exact HBu.out) ?_)
        | ((with_reducible show wpList _ _ _ (⟨_, .store _ _ _, _, _, _, _⟩ :: _) _ _); refine wpList_store_row rfl 56 _ _ rfl w.heap.size rfl CV rfl 56 _ K2.out HCi.out HCs.out HCo.out ?_))
      refine bodyPost_ret (v := .agg CV) ?_ rfl ⟨A3, some ⟨gt, 0, none⟩, c3, 256, by rw [HCV.out], hcap, ?_, ?_, ?_⟩
      · exact results_cell_row rfl _ _ w.heap.size 56 CV (0, 0) _ rfl (setRow_heap _ _ _ _ _ _ K2.out) Try.underlying56 rfl HCi.out
      · exact Reads.of_own (own_setRow HRw.out lk CV)
      · have hq := T2.out.setRow_far CV hgne
        exact ⟨by rw [List.length_map, tabL_len], fun _ => ⟨_, rfl, hq.lt, fun j v hv => by rw [Addr.add_lit, Nat.zero_add, hq.cell, List.getElem?_toArray]; exact hv⟩⟩
      · exact below_setRow BW.out (Nat.le_refl _) _
end Go.Proofs.Ytdeljodfanfbmaa
