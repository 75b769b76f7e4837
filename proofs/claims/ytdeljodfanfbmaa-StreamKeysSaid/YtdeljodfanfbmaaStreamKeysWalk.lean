/- The walk of StreamKeys. No condition. -/
import Derived.Test.YtdeljodfanfbmaaStreamAlive
namespace Go.Proofs.Ytdeljodfanfbmaa
open Go.RowKit Go.Shelf
set_option linter.unusedVariables false
set_option linter.unusedSimpArgs false
attribute [local go_sem] Gives givesUpon
attribute [local irreducible] Gives

def zeroStream : List Value := [.pointer none, .bool false, .int .u64 0] ++ ((List.replicate 16 0#8).map c8 ++ [.int .u64 0])
theorem zero_stream : (Try.prog.info? 84).map (·.zero) = some (some (.agg zeroStream.toArray)) := by kernel_rfl
theorem add8w (x : BitVec 8) (k : Nat) (y : BitVec 8) (hy : y = x + BitVec.ofNat 8 k) (hk : k < 256) : ((x.toNat : Int) + (k : Int)) % 256 = (y.toNat : Int) := by
  rw [hy, BitVec.toNat_add, BitVec.toNat_ofNat]; omega
/-- what holds all along: a blank stream, and bytes that came in -/
def KeyI (w : World) (g n1 : Nat) (A1 : Option Addr) (bs : List (BitVec 8)) (W : World) : Prop := W.cell? ⟨g, 0, none⟩ = some (.pointer none) ∧ g < W.heap.size ∧ w.heap.size ≤ g ∧ Below w.heap.size w W ∧ Reads W w.heap.size 1 A1 n1 (bs.map c8)
theorem KeyI.below {w W W' : World} {g n1 : Nat} {A1 : Option Addr} {bs : List (BitVec 8)} (h : KeyI w g n1 A1 bs W) (hb : Below W.heap.size W W') : KeyI w g n1 A1 bs W' := by
  obtain ⟨h1, h2, h3, h4, h5⟩ := h
  exact ⟨(hb.cell (p := ⟨g, 0, none⟩) h2).trans h1, Nat.lt_of_lt_of_le h2 hb.size, h3, below_next h4 hb, h5.below (hb.mono h4.size)⟩
theorem KeyI.blank {w W : World} {g n1 : Nat} {A1 : Option Addr} {bs : List (BitVec 8)} (h : KeyI w g n1 A1 bs W) : W.cell? ⟨g, 0, none⟩ = some (.pointer none) := h.1
/-- a store into a block that came behind -/
theorem KeyI.put {w W : World} {g n1 k i : Nat} {A1 : Option Addr} {bs : List (BitVec 8)} (h : KeyI w g n1 A1 bs W) (hk : g < k) (v : Value) : KeyI w g n1 A1 bs (W.setCell ⟨k, i, none⟩ v) := by
  obtain ⟨h1, h2, h3, h4, h5⟩ := h
  exact ⟨(World.cell?_setCell_other W ⟨k, i, none⟩ ⟨g, 0, none⟩ v (fun e => by injection e with e; omega)).trans h1, by simpa using h2, h3, h4.setCell (p := ⟨k, i, none⟩) (by show w.heap.size ≤ k; omega) v, h5.setCell (p := ⟨k, i, none⟩) (by show w.heap.size ≤ k; omega) v⟩
/-- two rows of one's own, apart -/
def TwoRows (W : World) (B gx cx gy cy n : Nat) : Prop := gx ≠ gy ∧ B ≤ gx ∧ B ≤ gy ∧ ∃ lx ly : List (BitVec 8), W.ownsRow B 5 1 (.slice (some ⟨gx, 0, none⟩) n cx) n (lx.map c8) ∧ W.ownsRow B 5 1 (.slice (some ⟨gy, 0, none⟩) n cy) n (ly.map c8)
theorem TwoRows.x {W : World} {B gx cx gy cy n i : Nat} (h : TwoRows W B gx cx gy cy n) (hi : i < n) : ∃ x : BitVec 8, W.cell? ⟨gx, i, none⟩ = some (c8 x) ∧ W.frozen? ⟨gx, i, none⟩ = false ∧ ∀ y : BitVec 8, TwoRows (W.setCell ⟨gx, i, none⟩ (c8 y)) B gx cx gy cy n := by
  obtain ⟨hne, hbx, hby, lx, ly, h1, h2⟩ := h
  obtain ⟨x, hx⟩ : ∃ x, lx[i]? = some x := ⟨_, List.getElem?_eq_getElem (by have := h1.1; simp at this; omega)⟩
  obtain ⟨cs, hc⟩ := own_blk h1
  exact ⟨x, own_cell8 h1 hx, hc.frozen i, fun y => ⟨hne, hbx, hby, _, ly, own_set8 h1 hi y, own_grown h2 (gb_cell W gx i (c8 y)) (by simp [Value.ownBlock]; omega)⟩⟩
theorem TwoRows.y {W : World} {B gx cx gy cy n i : Nat} (h : TwoRows W B gx cx gy cy n) (hi : i < n) : ∃ x : BitVec 8, W.cell? ⟨gy, i, none⟩ = some (c8 x) ∧ W.frozen? ⟨gy, i, none⟩ = false ∧ ∀ y : BitVec 8, TwoRows (W.setCell ⟨gy, i, none⟩ (c8 y)) B gx cx gy cy n := by
  obtain ⟨hne, hbx, hby, lx, ly, h1, h2⟩ := h
  obtain ⟨x, hx⟩ : ∃ x, ly[i]? = some x := ⟨_, List.getElem?_eq_getElem (by have := h2.1; simp at this; omega)⟩
  obtain ⟨cs, hc⟩ := own_blk h2
  exact ⟨x, own_cell8 h2 hx, hc.frozen i, fun y => ⟨hne, hbx, hby, lx, _, own_grown h1 (gb_cell W gy i (c8 y)) (by simp [Value.ownBlock]; omega), own_set8 h2 hi y⟩⟩
set_option maxRecDepth 100000 in
set_option maxHeartbeats 6400000 in
theorem streamKeys_walk (w : World) (A0 : Option Addr) (n0 c0 : Nat) (bs0 : List (BitVec 8)) (r0 : Reads w w.heap.size 1 A0 n0 (bs0.map c8)) (m0 : n0 ≤ 9223372036854775807) (k0 : n0 ≤ c0) (A1 : Option Addr) (n1 c1 : Nat) (bs1 : List (BitVec 8)) (r1 : Reads w w.heap.size 1 A1 n1 (bs1.map c8)) (m1 : n1 ≤ 9223372036854775807) (k1 : n1 ≤ c1) (x2 : BitVec 64) :
    Calls Try.prog 14 #[.slice A0 n0 c0, .slice A1 n1 c1, .int .u64 (x2.toNat : Int)] w fun e w' => e = .returned (.bool true) ∧ Below w.heap.size w w' := by
  by_cases hb : n1 ≤ 100
  · have hd1 : decide ((100 : Int) < (n1 : Int)) = false := by simp; omega
    obtain ⟨ZS, hZS⟩ : ∃ ZS, ZS = zeroStream.toArray := ⟨_, rfl⟩
    have HZ : Hid ((Try.prog.info? 84).map (·.zero) = some (some (.agg ZS))) := hide (by rw [hZS]; exact zero_stream)
    have HZ0 : Hid (ZS[0]? = some (.pointer none)) := hide (by rw [hZS]; rfl)
    have HAl := hide alive07_any
    have HKI : Hid (∀ W, Below w.heap.size w W → KeyI w W.heap.size n1 A1 bs1 (W.alloc (.cells ZS 84))) := hide fun W h => by
      have hn := Blk.new W 84 ZS
      have ha := h.alloc h.size (.cells ZS 84)
      exact ⟨(hn.cell 0).trans HZ0.out, hn.lt, h.size, ha, r1.below ha⟩
    have HMk : Hid (∀ (p : Value) (g : Nat) (W : World), KeyI w g n1 A1 bs1 W → (∀ W', KeyI w g n1 A1 bs1 W' → Calls Try.prog 70 #[p] W' fun e w' => e = .returned (.bool true) ∧ W' = w') → Calls Try.prog 49 #[p, .slice A1 n1 c1] W fun e w' => ∃ A' c', e = .returned (.slice A' n1 c') ∧ w'.ownsRow W.heap.size 5 1 (.slice A' n1 c') n1 (bs1.map c8) ∧ KeyI w g n1 A1 bs1 w' ∧ Below W.heap.size W w') := hide fun p g W h hp => by
      refine (mask_nil A1 n1 c1 bs1 p W (h.2.2.2.2.more h.2.2.2.1.size) (by omega) (fun W' hb => hp W' (h.below hb))).mono ?_
      rintro e w' ⟨A', c', rfl, own, hb⟩
      exact ⟨A', c', rfl, own, h.below hb, hb⟩
    have HStr : Hid (∀ (g : Nat) (W : World), KeyI w g n1 A1 bs1 W → Sem.run Try.prog (convert 51 9 (.slice A1 n1 c1)) W = .ok (.string (strOf bs1)) W) := hide fun g W h =>
      run_str W _ _ _ Try.underlying51 Try.underlying5 Try.underlying9 _ _ _ _ _ h.2.2.2.2
    have HStr2 : Hid (∀ (B : Nat) (A : Option Addr) (c : Nat) (W : World), W.ownsRow B 5 1 (.slice A n1 c) n1 (bs1.map c8) → Sem.run Try.prog (convert 51 9 (.slice A n1 c)) W = .ok (.string (strOf bs1)) W) := hide fun B A c W h =>
      run_str W _ _ _ Try.underlying51 Try.underlying5 Try.underlying9 _ _ _ _ _ (Reads.of_own h)
    have HB0 := hide (Below.refl w.heap.size w)
    have HN32 : Hid (n0 = 32 → Calls Try.prog 45 #[.slice A0 n0 c0] w fun e w' => ∃ g, e = .returned (.tuple #[.pointer (some ⟨g, 0, none⟩), .int .i64 0]) ∧ Below w.heap.size w w') := hide fun h => by
      subst h
      refine (newstream_any A0 c0 bs0 w r0 k0).mono ?_
      rintro e w' ⟨g, rfl, _, _, hb⟩
      exact ⟨g, rfl, hb⟩
    have HNno : Hid (n0 ≠ 32 → Calls Try.prog 45 #[.slice A0 n0 c0] w fun e w' => e = .returned (.tuple #[.pointer none, .int .i64 1]) ∧ Below w.heap.size w w') := hide fun h => by
      refine (newstream_no A0 n0 c0 h w).mono ?_
      rintro e w' ⟨rfl, rfl⟩
      exact ⟨rfl, Below.refl _ _⟩
    replace hZS := hide hZS
    clear r0 r1
    go_enter Try.func14, Try.ntmps14
    by_cases h32 : n0 = 32
    · have hq : ((n0 : Int) == 32) = true := by simp; omega
      have HNW := hide (HN32.out h32)
      subst h32
      go_upto_region 15 with (first
        | (go_at_call 45; (with_reducible refine HNW.out.mono ?_); rintro e w1 ⟨g0, rfl, hb1⟩; have B1 := hide hb1; clear hb1)
        | ((with_reducible show wpList _ _ _ (⟨some 10, .alloc _, _, _, _, _⟩ :: _) _ _); refine wpList_alloc_is rfl 84 rfl ZS HZ.out ?_; have HK2 := hide (HKI.out w1 B1.out); have hs1 := HStr.out _ _ HK2.out)
        | (go_at_call 48; (with_reducible refine (seek_nil _ _).mono ?_); rintro e w2 ⟨rfl, rfl⟩)
        | (go_at_call 48; (with_reducible refine (seek_blank w1.heap.size _ _ HK2.out.blank).mono ?_); rintro e w2 ⟨rfl, rfl⟩)
        | (go_at_call 49; (with_reducible refine (HMk.out (.pointer none) _ _ HK2.out (fun W' _ => none_nil W')).mono ?_); rintro e w3 ⟨Ax, cx, rfl, ownx, hk3, hb3⟩; have OX := hide ownx; have HK3 := hide hk3; clear ownx hk3 hb3 hs1)
        | (go_at_call 49; (with_reducible refine (HMk.out (.pointer (some ⟨w1.heap.size, 0, none⟩)) _ w3 HK3.out (fun W' h => none_blank _ W' h.blank)).mono ?_); rintro e w4 ⟨Ay, cy, rfl, owny, hk4, hb4⟩; have OY := hide owny; have HK4 := hide hk4; have OX4 := hide (own_under OX.out hb4); have hs2 := HStr2.out _ Ax cx w4 OX4.out; have hs3 := HStr2.out _ Ay cy w4 OY.out; clear owny hk4 hb4))
      have hgz : (w1.alloc (.cells ZS 84)).heap.size = w1.heap.size + 1 := by simp
      obtain ⟨g, hg⟩ : ∃ g, g = w1.heap.size := ⟨_, rfl⟩
      rw [← hg] at HK4 hgz ⊢
      rw [hgz] at OX4
      clear hs2 hs3 HK2 HK3 hg
      by_cases hn0 : n1 = 0
      · have HK9 := hide (HK4.out)
        subst hn0
        have hs4 := HStr.out _ _ HK4.out
        go_wp2
        go_loopw [69] (fun v wr => v = .int .i64 0 ∧ Hid (wr = w4)) (fun _ _ => 0)
        case atStart => exact ⟨rfl, hide rfl⟩
        case round =>
          obtain ⟨rfl, hw⟩ := hrel
          obtain rfl := hw.out
          go_wp2_with (first
            | (go_at_call 46; (with_reducible refine (place_nil _).mono ?_); rintro e w5 ⟨rfl, rfl⟩)
            | (go_at_call 46; (with_reducible refine (place_blank g _ HK9.out.blank).mono ?_); rintro e w5 ⟨rfl, rfl⟩)
            | (go_at_call 51; (with_reducible refine (at_nil _ _).mono ?_); rintro e w5 ⟨rfl, rfl⟩)
            | (go_at_call 51; (with_reducible refine (at_blank g _ _ HK9.out.blank).mono ?_); rintro e w5 ⟨rfl, rfl⟩)
            | (go_at_call 44; (with_reducible refine (HAl.out _).mono ?_); rintro e w6 ⟨rfl, hb6⟩; have K6 := hide (HK9.out.below hb6); clear hb6))
          go_ret
          exact ⟨rfl, K6.out.2.2.2.1⟩
      · have hnp : 0 < n1 := by omega
        obtain ⟨gx, rfl, hgx, csx, hbx⟩ := own_at OX4.out hnp
        obtain ⟨gy, rfl, hgy, csy, hby⟩ := own_at OY.out hnp
        have hxl : gx < w3.heap.size := by obtain ⟨cs, hc⟩ := own_blk OX.out; exact hc.lt
        have HT4 : Hid (TwoRows w4 (g + 1) gx cx gy cy n1) := hide ⟨by omega, hgx, by omega, bs1, bs1, OX4.out, own_more OY.out (by omega)⟩
        clear OX OX4 OY hbx hby hxl hgy hgx hn0
        go_wp2
        go_loopw [69, 14] (fun v v14 wr => ∃ i : Nat, i ≤ n1 ∧ v = .int .i64 (i : Int) ∧ Hid (KeyI w g n1 A1 bs1 wr) ∧ Hid (TwoRows wr (g + 1) gx cx gy cy n1)) (fun v _ _ => n1 - (intOf v).toNat)
        case atStart => exact ⟨0, by omega, rfl, HK4, HT4⟩
        case round =>
          obtain ⟨i, hi, rfl, P, HT⟩ := hrel
          clear HK4 HT4
          by_cases hlt : i < n1
          · have hd : decide ((i : Int) < (n1 : Int)) = true := by simp; omega
            have f0 : (0 : Int) ≤ (i : Int) := by omega
            have f1 : (i : Int) < (n1 : Int) := by omega
            obtain ⟨x, dc, df, hx⟩ := HT.out.x hlt
            obtain ⟨x1, hx1⟩ : ∃ y, y = x + BitVec.ofNat 8 1 := ⟨_, rfl⟩
            have ha := add8w x 1 x1 hx1 (by omega)
            rw [show ((1 : Nat) : Int) = 1 from rfl] at ha
            have hgx := HT.out.2.1
            have hgy := HT.out.2.2.1
            have P1 := hide (P.out.put (k := gx) (i := i) (by omega) (c8 x1))
            have T1 := hide (hx x1)
            clear hx hx1 P HT
            go_upto_region 19 with fail
            obtain ⟨V, hV⟩ : ∃ V, V = wr.setCell ⟨gx, i, none⟩ (c8 x1) := ⟨_, rfl⟩
            rw [← hV] at P1 T1
            rw [show (.int .u8 (x1.toNat : Int) : Value) = c8 x1 from rfl, ← hV]
            clear hV dc df ha
            obtain ⟨y, dc, df, hy⟩ := T1.out.y hlt
            obtain ⟨y1, hy1⟩ : ∃ z, z = y + BitVec.ofNat 8 2 := ⟨_, rfl⟩
            have ha := add8w y 2 y1 hy1 (by omega)
            rw [show ((2 : Nat) : Int) = 2 from rfl] at ha
            have P2 := hide (P1.out.put (k := gy) (i := i) (by omega) (c8 y1))
            have T2 := hide (hy y1)
            clear hy hy1 P1 T1
            go_wp2
            go_roundw
            case rel => exact ⟨i + 1, hlt, int_succ i, P2, T2⟩
            case measure => simp [intOf]; omega
          · obtain rfl : i = n1 := by omega
            have hd : decide ((i : Int) < (i : Int)) = false := by simp
            have hs4 := HStr.out _ _ P.out
            clear HT
            go_wp2_with (first
              | (go_at_call 46; (with_reducible refine (place_nil _).mono ?_); rintro e w5 ⟨rfl, rfl⟩)
              | (go_at_call 46; (with_reducible refine (place_blank g _ P.out.blank).mono ?_); rintro e w5 ⟨rfl, rfl⟩)
              | (go_at_call 51; (with_reducible refine (at_nil _ _).mono ?_); rintro e w5 ⟨rfl, rfl⟩)
              | (go_at_call 51; (with_reducible refine (at_blank g _ _ P.out.blank).mono ?_); rintro e w5 ⟨rfl, rfl⟩)
              | (go_at_call 44; (with_reducible refine (HAl.out _).mono ?_); rintro e w6 ⟨rfl, hb6⟩; have K6 := hide (P.out.below hb6); clear hb6))
            go_ret
            exact ⟨rfl, K6.out.2.2.2.1⟩
    · have hq : ((n0 : Int) == 32) = false := by simp; omega
      have HNW := hide (HNno.out h32)
      go_upto_region 15 with (first
        | (go_at_call 45; (with_reducible refine HNW.out.mono ?_); rintro e w1 ⟨rfl, hb1⟩; have B1 := hide hb1; clear hb1)
        | ((with_reducible show wpList _ _ _ (⟨some 10, .alloc _, _, _, _, _⟩ :: _) _ _); refine wpList_alloc_is rfl 84 rfl ZS HZ.out ?_; have HK2 := hide (HKI.out w1 B1.out); have hs1 := HStr.out _ _ HK2.out)
        | (go_at_call 48; (with_reducible refine (seek_nil _ _).mono ?_); rintro e w2 ⟨rfl, rfl⟩)
        | (go_at_call 48; (with_reducible refine (seek_blank w1.heap.size _ _ HK2.out.blank).mono ?_); rintro e w2 ⟨rfl, rfl⟩)
        | (go_at_call 49; (with_reducible refine (HMk.out (.pointer none) _ _ HK2.out (fun W' _ => none_nil W')).mono ?_); rintro e w3 ⟨Ax, cx, rfl, ownx, hk3, hb3⟩; have OX := hide ownx; have HK3 := hide hk3; clear ownx hk3 hb3 hs1)
        | (go_at_call 49; (with_reducible refine (HMk.out (.pointer (some ⟨w1.heap.size, 0, none⟩)) _ w3 HK3.out (fun W' h => none_blank _ W' h.blank)).mono ?_); rintro e w4 ⟨Ay, cy, rfl, owny, hk4, hb4⟩; have OY := hide owny; have HK4 := hide hk4; have OX4 := hide (own_under OX.out hb4); have hs2 := HStr2.out _ Ax cx w4 OX4.out; have hs3 := HStr2.out _ Ay cy w4 OY.out; clear owny hk4 hb4))
      have hgz : (w1.alloc (.cells ZS 84)).heap.size = w1.heap.size + 1 := by simp
      obtain ⟨g, hg⟩ : ∃ g, g = w1.heap.size := ⟨_, rfl⟩
      rw [← hg] at HK4 hgz ⊢
      rw [hgz] at OX4
      clear hs2 hs3 HK2 HK3 hg
      by_cases hn0 : n1 = 0
      · have HK9 := hide (HK4.out)
        subst hn0
        have hs4 := HStr.out _ _ HK4.out
        go_wp2
        go_loopw [69] (fun v wr => v = .int .i64 0 ∧ Hid (wr = w4)) (fun _ _ => 0)
        case atStart => exact ⟨rfl, hide rfl⟩
        case round =>
          obtain ⟨rfl, hw⟩ := hrel
          obtain rfl := hw.out
          go_wp2_with (first
            | (go_at_call 46; (with_reducible refine (place_nil _).mono ?_); rintro e w5 ⟨rfl, rfl⟩)
            | (go_at_call 46; (with_reducible refine (place_blank g _ HK9.out.blank).mono ?_); rintro e w5 ⟨rfl, rfl⟩)
            | (go_at_call 51; (with_reducible refine (at_nil _ _).mono ?_); rintro e w5 ⟨rfl, rfl⟩)
            | (go_at_call 51; (with_reducible refine (at_blank g _ _ HK9.out.blank).mono ?_); rintro e w5 ⟨rfl, rfl⟩)
            | (go_at_call 44; (with_reducible refine (HAl.out _).mono ?_); rintro e w6 ⟨rfl, hb6⟩; have K6 := hide (HK9.out.below hb6); clear hb6))
          go_ret
          exact ⟨rfl, K6.out.2.2.2.1⟩
      · have hnp : 0 < n1 := by omega
        obtain ⟨gx, rfl, hgx, csx, hbx⟩ := own_at OX4.out hnp
        obtain ⟨gy, rfl, hgy, csy, hby⟩ := own_at OY.out hnp
        have hxl : gx < w3.heap.size := by obtain ⟨cs, hc⟩ := own_blk OX.out; exact hc.lt
        have HT4 : Hid (TwoRows w4 (g + 1) gx cx gy cy n1) := hide ⟨by omega, hgx, by omega, bs1, bs1, OX4.out, own_more OY.out (by omega)⟩
        clear OX OX4 OY hbx hby hxl hgy hgx hn0
        go_wp2
        go_loopw [69, 14] (fun v v14 wr => ∃ i : Nat, i ≤ n1 ∧ v = .int .i64 (i : Int) ∧ Hid (KeyI w g n1 A1 bs1 wr) ∧ Hid (TwoRows wr (g + 1) gx cx gy cy n1)) (fun v _ _ => n1 - (intOf v).toNat)
        case atStart => exact ⟨0, by omega, rfl, HK4, HT4⟩
        case round =>
          obtain ⟨i, hi, rfl, P, HT⟩ := hrel
          clear HK4 HT4
          by_cases hlt : i < n1
          · have hd : decide ((i : Int) < (n1 : Int)) = true := by simp; omega
            have f0 : (0 : Int) ≤ (i : Int) := by omega
            have f1 : (i : Int) < (n1 : Int) := by omega
            obtain ⟨x, dc, df, hx⟩ := HT.out.x hlt
            obtain ⟨x1, hx1⟩ : ∃ y, y = x + BitVec.ofNat 8 1 := ⟨_, rfl⟩
            have ha := add8w x 1 x1 hx1 (by omega)
            rw [show ((1 : Nat) : Int) = 1 from rfl] at ha
            have hgx := HT.out.2.1
            have hgy := HT.out.2.2.1
            have P1 := hide (P.out.put (k := gx) (i := i) (by omega) (c8 x1))
            have T1 := hide (hx x1)
            clear hx hx1 P HT
            go_upto_region 19 with fail
            obtain ⟨V, hV⟩ : ∃ V, V = wr.setCell ⟨gx, i, none⟩ (c8 x1) := ⟨_, rfl⟩
            rw [← hV] at P1 T1
            rw [show (.int .u8 (x1.toNat : Int) : Value) = c8 x1 from rfl, ← hV]
            clear hV dc df ha
            obtain ⟨y, dc, df, hy⟩ := T1.out.y hlt
            obtain ⟨y1, hy1⟩ : ∃ z, z = y + BitVec.ofNat 8 2 := ⟨_, rfl⟩
            have ha := add8w y 2 y1 hy1 (by omega)
            rw [show ((2 : Nat) : Int) = 2 from rfl] at ha
            have P2 := hide (P1.out.put (k := gy) (i := i) (by omega) (c8 y1))
            have T2 := hide (hy y1)
            clear hy hy1 P1 T1
            go_wp2
            go_roundw
            case rel => exact ⟨i + 1, hlt, int_succ i, P2, T2⟩
            case measure => simp [intOf]; omega
          · obtain rfl : i = n1 := by omega
            have hd : decide ((i : Int) < (i : Int)) = false := by simp
            have hs4 := HStr.out _ _ P.out
            clear HT
            go_wp2_with (first
              | (go_at_call 46; (with_reducible refine (place_nil _).mono ?_); rintro e w5 ⟨rfl, rfl⟩)
              | (go_at_call 46; (with_reducible refine (place_blank g _ P.out.blank).mono ?_); rintro e w5 ⟨rfl, rfl⟩)
              | (go_at_call 51; (with_reducible refine (at_nil _ _).mono ?_); rintro e w5 ⟨rfl, rfl⟩)
              | (go_at_call 51; (with_reducible refine (at_blank g _ _ P.out.blank).mono ?_); rintro e w5 ⟨rfl, rfl⟩)
              | (go_at_call 44; (with_reducible refine (HAl.out _).mono ?_); rintro e w6 ⟨rfl, hb6⟩; have K6 := hide (P.out.below hb6); clear hb6))
            go_ret
            exact ⟨rfl, K6.out.2.2.2.1⟩
  · have hd1 : decide ((100 : Int) < (n1 : Int)) = true := by simp; omega
    clear r0 r1
    go_enter Try.func14, Try.ntmps14
    go_wp2_with (go_at_call 44; (with_reducible refine (alive07_any w).mono ?_); rintro e w1 ⟨rfl, hb1⟩)
    go_ret
    exact ⟨rfl, hb1⟩
end Go.Proofs.Ytdeljodfanfbmaa
