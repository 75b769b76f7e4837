/- Package cipher's expand: the key's words. No condition. -/
import Derived.Test.YtdeljodfanfbmaaCipherFns
import Derived.Test.YtdeljodfanfbmaaWordLeft
import Derived.Test.YtdeljodfanfbmaaWWords
import Derived.Test.YtdeljodfanfbmaaWBytes
import Derived.Test.YtdeljodfanfbmaaFieldMore
namespace Go.Proofs.Ytdeljodfanfbmaa
open Go.RowKit
set_option linter.unusedVariables false
set_option linter.unusedSimpArgs false

theorem reads_at {w : World} {B n : Nat} {A : Option Addr} {xs : List Value} (h : Reads w B 1 A n xs) (hn : 0 < n) : ∃ g o, A = some ⟨g, o, none⟩ ∧ g < B := by
  obtain ⟨⟨g, o, sp⟩, u, rfl, hb, _, h0⟩ := h.at_ hn
  have hs : sp = none := by
    have := World.cell?_spot h0
    simpa [Addr.add] using this
  subst hs
  exact ⟨g, o, rfl, hb⟩
theorem reads_cell {w : World} {B n k : Nat} {g o : Nat} {l : List (BitVec 32)} {x : BitVec 32} (h : Reads w B 1 (some ⟨g, o, none⟩) n (l.map c32)) (hx : l[k]? = some x) : w.cell? ⟨g, o + k, none⟩ = some (c32 x) := by
  have hk : k < l.length := (List.getElem?_eq_some_iff.1 hx).1
  obtain ⟨ad, e, _, hc⟩ := h.get hk
  cases e
  rw [Addr.add_lit] at hc
  rw [hc]
  congr 2
  exact (List.getElem?_eq_some_iff.1 hx).2
theorem subX_nat (x : BitVec 32) : (subX sub8 x).toNat = subW x.toNat := by
  rw [subX, w4_toNat, sub8_nat, sub8_nat, sub8_nat, sub8_nat, subW]
  have h := x.isLt
  have e1 : ((x >>> 24).setWidth 8).toNat = x.toNat / 16777216 := by simp [Nat.shiftRight_eq_div_pow]; omega
  have e2 : ((x >>> 16).setWidth 8).toNat = x.toNat / 65536 % 256 := by simp [Nat.shiftRight_eq_div_pow]
  have e3 : ((x >>> 8).setWidth 8).toNat = x.toNat / 256 % 256 := by simp [Nat.shiftRight_eq_div_pow]
  have e4 : (x.setWidth 8).toNat = x.toNat % 256 := by simp
  rw [e1, e2, e3, e4]
theorem boxword_32 (g : Nat) (x : BitVec 32) (w : World) (hb : IsBox w g) : Calls Try.prog 30 #[.pointer (some ⟨g, 0, none⟩), c32 x] w fun e w' => e = .returned (c32 (subX sub8 x)) ∧ w = w' := by
  refine (boxword_any g x.toNat x.isLt w hb).mono ?_
  rintro e w' ⟨rfl, rfl⟩
  exact ⟨by rw [← subX_nat], rfl⟩
theorem left_8 (x : BitVec 32) (w : World) : Calls Try.prog 73 #[c32 x, .int .i64 8] w fun e w' => e = .returned (c32 (rotl x 8)) ∧ w = w' := left_any x 8 w
theorem power_2 (n : Nat) (w : World) : Calls Try.prog 23 #[.int .u8 2, .int .i64 (n : Int)] w fun e w' => e = .returned (.int .u8 (powN 2 n : Int)) ∧ w = w' := by
  refine (power_any 2 n (by decide) w).mono ?_
  rintro e w' ⟨rfl, rfl⟩
  exact ⟨by rw [powI_nat 2 n (by decide)], rfl⟩
theorem rcon_nat (n : Nat) : (rcon n).toNat = powN 2 n * 16777216 := by
  have h := powN_lt 2 n (by decide)
  rw [rcon, BitVec.toNat_ofNat]; omega
theorem one_word (w : World) (x : BitVec 32) : Reads (w.alloc (.cells #[.int .u32 (x.toNat : Int)] 30)) (w.alloc (.cells #[.int .u32 (x.toNat : Int)] 30)).heap.size 1 (some ⟨w.heap.size, 0, none⟩) 1 ([x].map c32) := by
  have h := Reads.new w 30 #[c32 x]
  rw [show (w.alloc (.cells #[.int .u32 (x.toNat : Int)] 30)).heap.size = w.heap.size + 1 from by simp]
  exact h
theorem oneCell_c32 (l : List (BitVec 32)) : ∀ u ∈ l.map c32, u.oneCell' = true := by
  intro u hu
  obtain ⟨x, _, rfl⟩ := List.mem_map.1 hu
  rfl
theorem next_eq (L : List (BitVec 32)) (n : Nat) (hn : L.length = n) (x y : BitVec 32) (hx : L[n - 1]? = some x) (hy : L[n - 8]? = some y) :
    (n % 8 = 0 → nextK sub8 L = y ^^^ (subX sub8 (rotl x 8) ^^^ rcon (n / 8 - 1))) ∧ (n % 8 = 4 → nextK sub8 L = y ^^^ subX sub8 x) ∧ (n % 8 ≠ 0 → n % 8 ≠ 4 → nextK sub8 L = y ^^^ x) := by
  have e1 : L.getD (L.length - 1) 0 = x := by rw [hn]; simp [List.getD, hx]
  have e2 : L.getD (L.length - 8) 0 = y := by rw [hn]; simp [List.getD, hy]
  refine ⟨fun h => ?_, fun h => ?_, fun h h' => ?_⟩
  · rw [nextK, e1, e2, hn, if_pos h]
  · rw [nextK, e1, e2, hn, if_neg (by omega), if_pos h]
  · rw [nextK, e1, e2, hn, if_neg h, if_neg h']
set_option maxRecDepth 100000 in
set_option maxHeartbeats 6400000 in
theorem expand_any (B g : Nat) (ws : List (BitVec 32)) (hws : ws.length = 8) (A : Option Addr) (c : Nat) (w : World) (hB : B ≤ w.heap.size) (hg : g < B) (hb : IsBox w g) (ho : w.ownsRow B 30 1 (.slice A 8 c) 8 (ws.map c32)) :
    Calls Try.prog 59 #[.slice A 8 c, .pointer (some ⟨g, 0, none⟩)] w fun e w' => ∃ A' c', e = .returned (.slice A' 60 c') ∧ w'.ownsRow B 30 1 (.slice A' 60 c') 60 ((expandN sub8 ws 52).map c32) ∧ Below B w w' := by
  obtain ⟨i0, hi0, hz0, hz1, hz2⟩ := info_parts info_u32
  have HO := hide ho
  have HBx := hide hb
  have HWS := hide hws
  replace hB := hide hB
  clear ho hb hws
  go_enter Try.func59, Try.ntmps59
  go_wp2
  go_loopw [0, 5] (fun v i wr => ∃ (k : Nat) (A : Option Addr) (c : Nat), k ≤ 52 ∧ v = .slice A (8 + k) c ∧ i = .int .i64 ((8 + k : Nat) : Int) ∧ Hid (wr.ownsRow B 30 1 (.slice A (8 + k) c) (8 + k) ((expandN sub8 ws k).map c32)) ∧ Hid (Below B w wr)) (fun _ i _ => 60 - (intOf i).toNat)
  case atStart => exact ⟨0, A, c, by omega, rfl, rfl, HO, hide (Below.refl _ _)⟩
  case round =>
    obtain ⟨k, A3, c3, hk, rfl, rfl, ho, hBW⟩ := hrel
    clear HO
    obtain ⟨n, hn⟩ : ∃ n, n = 8 + k := ⟨_, rfl⟩
    obtain ⟨L, hL⟩ : ∃ L, L = expandN sub8 ws k := ⟨_, rfl⟩
    have hLl : L.length = n := by rw [hL, expandN_len, HWS.out, hn]
    have hNx : expandN sub8 ws (k + 1) = L ++ [nextK sub8 L] := by rw [hL]; rfl
    rw [← hn, ← hL] at ho
    rw [← hn]
    by_cases hlt : k < 52
    · have hd : decide ((n : Int) < 60) = true := by simp; omega
      have hn0 : (0 : Int) ≤ (n : Int) := by omega
      obtain ⟨p, hp⟩ : ∃ p, n = p + 1 := ⟨n - 1, by omega⟩
      obtain ⟨q, hq⟩ : ∃ q, n = q + 8 := ⟨n - 8, by omega⟩
      obtain ⟨x, hx⟩ : ∃ x, L[p]? = some x := ⟨_, List.getElem?_eq_getElem (by rw [hLl]; omega)⟩
      obtain ⟨y, hy⟩ : ∃ y, L[q]? = some y := ⟨_, List.getElem?_eq_getElem (by rw [hLl]; omega)⟩
      obtain ⟨hN0, hN4, hN1⟩ := next_eq L n hLl x y (by rw [show n - 1 = p by omega]; exact hx) (by rw [show n - 8 = q by omega]; exact hy)
      have HR := Reads.of_own ho.out
      obtain ⟨ga, oa, rfl, hga⟩ := reads_at HR (by omega)
      have hcx := reads_cell HR hx
      have hcy := reads_cell HR hy
      have e1 : (n : Int) - 1 = (p : Int) := by omega
      have w1 : IntKind.i64.wrap (p : Int) = (p : Int) := IntWalk.i64_in _ (by omega)
      have e8 : (n : Int) - 8 = (q : Int) := by omega
      have w8 : IntKind.i64.wrap (q : Int) = (q : Int) := IntWalk.i64_in _ (by omega)
      have p0 : (0 : Int) ≤ (p : Int) := by omega
      have p1 : (p : Int) < (n : Int) := by omega
      have q0 : (0 : Int) ≤ (q : Int) := by omega
      have q1 : (q : Int) < (n : Int) := by omega
      have hcap := own_cap ho.out
      have hbx := hide (HBx.out.below hBW.out hg)
      have hgr : B ≤ wr.heap.size := Nat.le_trans hB.out hBW.out.size
      have hn8 : 8 ≤ n := by omega
      have hn60 : n < 60 := by omega
      replace hn := hide hn
      replace hp := hide hp
      replace hq := hide hq
      replace hL := hide hL
      replace hLl := hide hLl
      replace hNx := hide hNx
      obtain ⟨z, hz⟩ : ∃ z, z = nextK sub8 L := ⟨_, rfl⟩
      have HXS : Hid (expandN sub8 ws (k + 1) = L ++ [z]) := by rw [hz]; exact hNx
      have HR1 := hide (one_word wr z)
      have HOA := hide (ho.out.alloc (.cells #[.int .u32 (z.toNat : Int)] 30))
      have HBA := hide (hBW.out.alloc hgr (.cells #[.int .u32 (z.toNat : Int)] 30))
      have HBs : Hid (B ≤ (wr.alloc (.cells #[.int .u32 (z.toNat : Int)] 30)).heap.size) := hide (by simp; omega)
      rw [← hz] at hN0 hN4 hN1
      replace hz := hide hz
      clear hx hy HR
      by_cases h0 : n % 8 = 0
      · have m0 : (n : Int) % 8 = 0 := by omega
        obtain ⟨r, hr⟩ : ∃ r, n / 8 = r + 1 := ⟨n / 8 - 1, by omega⟩
        have d1 : (n : Int) / 8 - 1 = (r : Int) := by omega
        have wr1 : IntKind.i64.wrap (r : Int) = (r : Int) := IntWalk.i64_in _ (by omega)
        have HBW := hide (boxword_32 g (rotl x 8) wr hbx.out)
        have HLF := hide (left_8 x wr)
        have HPW := hide (power_2 r wr)
        have hpl := powN_lt 2 r (by decide)
        have hval : bits .xor .u32 (y.toNat : Int) (bits .xor .u32 ((subX sub8 (rotl x 8)).toNat : Int) ((powN 2 r : Int) * 16777216)) = (z.toNat : Int) := by
          rw [hN0 h0, show n / 8 - 1 = r by omega, show ((powN 2 r : Int) * 16777216) = ((rcon r).toNat : Int) by rw [rcon_nat]; omega, xor_u32, xor_u32]
        clear hN0 hN4 hN1 h0
        replace hn := hide hn
        replace hp := hide hp
        replace hq := hide hq
        replace hL := hide hL
        replace hLl := hide hLl
        replace hNx := hide hNx
        replace hr := hide hr
        go_wp2_with (first
          | (go_at_call 73; (with_reducible refine HLF.out.mono ?_); rintro e w1 ⟨rfl, rfl⟩)
          | (go_at_call 30; (with_reducible refine HBW.out.mono ?_); rintro e w1 ⟨rfl, rfl⟩)
          | (go_at_call 23; (with_reducible refine HPW.out.mono ?_); rintro e w1 ⟨rfl, rfl⟩)
          | (at_builtin; refine wpList_append_any _ rfl (.tmp 36) (.tmp 44) 54 rfl B 30 i0 _ 1 4 Try.underlying54 hi0 hz0 hz1 hz2 rfl (by omega) _ n _ rfl HOA.out _ _ 1 1 _ rfl HR1.out (oneCell_c32 _) (by simp only [maxLen]; omega) (by omega) HBs.out ?_; intro v5 W5 own5 grow5 _; have b5 := below_appended HBA.out HBs.out HOA.out (Nat.le_refl _) grow5; obtain ⟨A5, c5, rfl⟩ := own_slice own5; rw [← List.map_append, ← HXS.out] at own5; replace own5 := hide own5; replace b5 := hide b5; clear grow5))
        go_roundw
        case rel => exact ⟨k + 1, A5, c5, hlt, by rw [show 8 + (k + 1) = n + 1 by rw [hn.out]; omega], by rw [show 8 + (k + 1) = n + 1 by rw [hn.out]; omega]; exact int_succ n, by rw [show 8 + (k + 1) = n + 1 by rw [hn.out]; omega]; exact own5, b5⟩
        case measure => simp [intOf]; omega
      · have m0 : ((n : Int) % 8 == 0) = false := by simp; omega
        by_cases h4 : n % 8 = 4
        · have m4 : (n : Int) % 8 = 4 := by omega
          have HBW := hide (boxword_32 g x wr hbx.out)
          have hval : bits .xor .u32 (y.toNat : Int) ((subX sub8 x).toNat : Int) = (z.toNat : Int) := by
            rw [hN4 h4, xor_u32]
          clear hN0 hN4 hN1 h0 h4
          clear m0
          replace hn := hide hn
          replace hp := hide hp
          replace hq := hide hq
          replace hL := hide hL
          replace hLl := hide hLl
          replace hNx := hide hNx
          go_wp2_with (first
            | (go_at_call 30; (with_reducible refine HBW.out.mono ?_); rintro e w1 ⟨rfl, rfl⟩)
            | (at_builtin; refine wpList_append_any _ rfl (.tmp 36) (.tmp 44) 54 rfl B 30 i0 _ 1 4 Try.underlying54 hi0 hz0 hz1 hz2 rfl (by omega) _ n _ rfl HOA.out _ _ 1 1 _ rfl HR1.out (oneCell_c32 _) (by simp only [maxLen]; omega) (by omega) HBs.out ?_; intro v5 W5 own5 grow5 _; have b5 := below_appended HBA.out HBs.out HOA.out (Nat.le_refl _) grow5; obtain ⟨A5, c5, rfl⟩ := own_slice own5; rw [← List.map_append, ← HXS.out] at own5; replace own5 := hide own5; replace b5 := hide b5; clear grow5))
          go_roundw
          case rel => exact ⟨k + 1, A5, c5, hlt, by rw [show 8 + (k + 1) = n + 1 by rw [hn.out]; omega], by rw [show 8 + (k + 1) = n + 1 by rw [hn.out]; omega]; exact int_succ n, by rw [show 8 + (k + 1) = n + 1 by rw [hn.out]; omega]; exact own5, b5⟩
          case measure => simp [intOf]; omega
        · have m4 : ((n : Int) % 8 == 4) = false := by simp; omega
          have hval : bits .xor .u32 (y.toNat : Int) (x.toNat : Int) = (z.toNat : Int) := by
            rw [hN1 h0 h4, xor_u32]
          clear hN0 hN4 hN1 h0 h4
          replace hn := hide hn
          replace hp := hide hp
          replace hq := hide hq
          replace hL := hide hL
          replace hLl := hide hLl
          replace hNx := hide hNx
          go_wp2_with (at_builtin; refine wpList_append_any _ rfl (.tmp 36) (.tmp 44) 54 rfl B 30 i0 _ 1 4 Try.underlying54 hi0 hz0 hz1 hz2 rfl (by omega) _ n _ rfl HOA.out _ _ 1 1 _ rfl HR1.out (oneCell_c32 _) (by simp only [maxLen]; omega) (by omega) HBs.out ?_; intro v5 W5 own5 grow5 _; have b5 := below_appended HBA.out HBs.out HOA.out (Nat.le_refl _) grow5; obtain ⟨A5, c5, rfl⟩ := own_slice own5; rw [← List.map_append, ← HXS.out] at own5; replace own5 := hide own5; replace b5 := hide b5; clear grow5)
          go_roundw
          case rel => exact ⟨k + 1, A5, c5, hlt, by rw [show 8 + (k + 1) = n + 1 by rw [hn.out]; omega], by rw [show 8 + (k + 1) = n + 1 by rw [hn.out]; omega]; exact int_succ n, by rw [show 8 + (k + 1) = n + 1 by rw [hn.out]; omega]; exact own5, b5⟩
          case measure => simp [intOf]; omega
    · obtain rfl : k = 52 := by omega
      obtain rfl : n = 60 := by omega
      have hd : decide (((60 : Nat) : Int) < 60) = false := by decide
      replace hL := hide hL
      clear hn hLl hNx
      go_wp2
      go_ret
      exact ⟨A3, c3, rfl, by rw [← hL.out]; exact ho.out, hBW.out⟩
end Go.Proofs.Ytdeljodfanfbmaa
