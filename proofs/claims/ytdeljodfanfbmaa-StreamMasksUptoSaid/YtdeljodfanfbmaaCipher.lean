/- The cipher of chapter 06, plain. No condition. -/
import Derived.Test.YtdeljodfanfbmaaBoxUse
namespace Go.Proofs.Ytdeljodfanfbmaa
open Go.RowKit
set_option linter.unusedVariables false

/-! bytes -/
def sub8 (x : BitVec 8) : BitVec 8 := BitVec.ofNat 8 (sub x.toNat)
def back8 (x : BitVec 8) : BitVec 8 := BitVec.ofNat 8 (back x.toNat)
def mul8 (a b : BitVec 8) : BitVec 8 := BitVec.ofNat 8 (times a.toNat b.toNat)
theorem toNat8 {n : Nat} (h : n < 256) : (BitVec.ofNat 8 n).toNat = n := by rw [BitVec.toNat_ofNat]; omega
theorem sub8_nat (x : BitVec 8) : (sub8 x).toNat = sub x.toNat := toNat8 (sub_lt _ x.isLt)
theorem back8_nat (x : BitVec 8) : (back8 x).toNat = back x.toNat := toNat8 (back_lt _ x.isLt)
theorem mul8_nat (a b : BitVec 8) : (mul8 a b).toNat = times a.toNat b.toNat := toNat8 (times_lt _ _ a.isLt)
theorem back8_sub8 (x : BitVec 8) : back8 (sub8 x) = x := by
  apply BitVec.eq_of_toNat_eq; rw [back8_nat, sub8_nat, back_sub _ x.isLt]
theorem sub8_back8 (x : BitVec 8) : sub8 (back8 x) = x := by
  apply BitVec.eq_of_toNat_eq; rw [sub8_nat, back8_nat, sub_back _ x.isLt]
theorem mul8_xor_left (a b c : BitVec 8) : mul8 (a ^^^ b) c = mul8 a c ^^^ mul8 b c := by
  apply BitVec.eq_of_toNat_eq; rw [BitVec.toNat_xor, mul8_nat, mul8_nat, mul8_nat, BitVec.toNat_xor, xor_times _ _ _ a.isLt b.isLt]
theorem mul8_xor_right (a b c : BitVec 8) : mul8 a (b ^^^ c) = mul8 a b ^^^ mul8 a c := by
  apply BitVec.eq_of_toNat_eq; rw [BitVec.toNat_xor, mul8_nat, mul8_nat, mul8_nat, BitVec.toNat_xor, times_xor]
theorem mul8_assoc (a b c : BitVec 8) : mul8 (mul8 a b) c = mul8 a (mul8 b c) := by
  apply BitVec.eq_of_toNat_eq; rw [mul8_nat, mul8_nat, mul8_nat, mul8_nat, times_assoc _ _ _ a.isLt b.isLt]
theorem mul8_comm (a b : BitVec 8) : mul8 a b = mul8 b a := by
  apply BitVec.eq_of_toNat_eq; rw [mul8_nat, mul8_nat, times_comm _ _ a.isLt b.isLt]
theorem mul8_one (a : BitVec 8) : mul8 a 1#8 = a := by
  apply BitVec.eq_of_toNat_eq; rw [mul8_nat]; exact times_one _
theorem mul8_zero (a : BitVec 8) : mul8 a 0#8 = 0#8 := by
  apply BitVec.eq_of_toNat_eq; rw [mul8_nat]; exact times_zero _

/-! columns -/
def dot (a0 a1 a2 a3 c0 c1 c2 c3 : BitVec 8) : BitVec 8 := mul8 a0 c0 ^^^ mul8 a1 c1 ^^^ mul8 a2 c2 ^^^ mul8 a3 c3
theorem dot_dot (a0 a1 a2 a3 p0 p1 p2 p3 q0 q1 q2 q3 r0 r1 r2 r3 t0 t1 t2 t3 s0 s1 s2 s3 : BitVec 8) :
    dot (dot a0 a1 a2 a3 p0 p1 p2 p3) (dot a0 a1 a2 a3 q0 q1 q2 q3) (dot a0 a1 a2 a3 r0 r1 r2 r3) (dot a0 a1 a2 a3 t0 t1 t2 t3) s0 s1 s2 s3 =
    dot a0 a1 a2 a3 (dot p0 q0 r0 t0 s0 s1 s2 s3) (dot p1 q1 r1 t1 s0 s1 s2 s3) (dot p2 q2 r2 t2 s0 s1 s2 s3) (dot p3 q3 r3 t3 s0 s1 s2 s3) := by
  simp only [dot, mul8_xor_left, mul8_xor_right, mul8_assoc]
  ac_rfl
theorem dot_xor (a0 a1 a2 a3 b0 b1 b2 b3 c0 c1 c2 c3 : BitVec 8) : dot (a0 ^^^ b0) (a1 ^^^ b1) (a2 ^^^ b2) (a3 ^^^ b3) c0 c1 c2 c3 = dot a0 a1 a2 a3 c0 c1 c2 c3 ^^^ dot b0 b1 b2 b3 c0 c1 c2 c3 := by
  simp only [dot, mul8_xor_left]
  ac_rfl
theorem dot_e0 (a0 a1 a2 a3 : BitVec 8) : dot a0 a1 a2 a3 1#8 0#8 0#8 0#8 = a0 := by simp [dot, mul8_one, mul8_zero]
theorem dot_e1 (a0 a1 a2 a3 : BitVec 8) : dot a0 a1 a2 a3 0#8 1#8 0#8 0#8 = a1 := by simp [dot, mul8_one, mul8_zero]
theorem dot_e2 (a0 a1 a2 a3 : BitVec 8) : dot a0 a1 a2 a3 0#8 0#8 1#8 0#8 = a2 := by simp [dot, mul8_one, mul8_zero]
theorem dot_e3 (a0 a1 a2 a3 : BitVec 8) : dot a0 a1 a2 a3 0#8 0#8 0#8 1#8 = a3 := by simp [dot, mul8_one, mul8_zero]
def byC (row col : List (BitVec 8)) : List (BitVec 8) :=
  (List.range 4).map fun i => dot (col.getD 0 0) (col.getD 1 0) (col.getD 2 0) (col.getD 3 0) (row.getD ((4 - i) % 4) 0) (row.getD ((5 - i) % 4) 0) (row.getD ((6 - i) % 4) 0) (row.getD ((7 - i) % 4) 0)
def mixRow : List (BitVec 8) := [2#8, 3#8, 1#8, 1#8]
def unRow : List (BitVec 8) := [14#8, 11#8, 13#8, 9#8]
theorem byC_len (row col : List (BitVec 8)) : (byC row col).length = 4 := by simp [byC]
theorem byC_four (r0 r1 r2 r3 a b c d : BitVec 8) : byC [r0, r1, r2, r3] [a, b, c, d] = [dot a b c d r0 r1 r2 r3, dot a b c d r3 r0 r1 r2, dot a b c d r2 r3 r0 r1, dot a b c d r1 r2 r3 r0] := rfl
theorem unmix_mix (a b c d : BitVec 8) : byC unRow (byC mixRow [a, b, c, d]) = [a, b, c, d] := by
  unfold unRow mixRow
  rw [byC_four, byC_four, dot_dot, dot_dot, dot_dot, dot_dot]
  have e : ∀ p : Prop, p → p := fun _ h => h
  rw [show dot 2#8 1#8 1#8 3#8 14#8 11#8 13#8 9#8 = 1#8 by decide +kernel, show dot 3#8 2#8 1#8 1#8 14#8 11#8 13#8 9#8 = 0#8 by decide +kernel, show dot 1#8 3#8 2#8 1#8 14#8 11#8 13#8 9#8 = 0#8 by decide +kernel, show dot 1#8 1#8 3#8 2#8 14#8 11#8 13#8 9#8 = 0#8 by decide +kernel,
    show dot 2#8 1#8 1#8 3#8 9#8 14#8 11#8 13#8 = 0#8 by decide +kernel, show dot 3#8 2#8 1#8 1#8 9#8 14#8 11#8 13#8 = 1#8 by decide +kernel, show dot 1#8 3#8 2#8 1#8 9#8 14#8 11#8 13#8 = 0#8 by decide +kernel, show dot 1#8 1#8 3#8 2#8 9#8 14#8 11#8 13#8 = 0#8 by decide +kernel,
    show dot 2#8 1#8 1#8 3#8 13#8 9#8 14#8 11#8 = 0#8 by decide +kernel, show dot 3#8 2#8 1#8 1#8 13#8 9#8 14#8 11#8 = 0#8 by decide +kernel, show dot 1#8 3#8 2#8 1#8 13#8 9#8 14#8 11#8 = 1#8 by decide +kernel, show dot 1#8 1#8 3#8 2#8 13#8 9#8 14#8 11#8 = 0#8 by decide +kernel,
    show dot 2#8 1#8 1#8 3#8 11#8 13#8 9#8 14#8 = 0#8 by decide +kernel, show dot 3#8 2#8 1#8 1#8 11#8 13#8 9#8 14#8 = 0#8 by decide +kernel, show dot 1#8 3#8 2#8 1#8 11#8 13#8 9#8 14#8 = 0#8 by decide +kernel, show dot 1#8 1#8 3#8 2#8 11#8 13#8 9#8 14#8 = 1#8 by decide +kernel,
    dot_e0, dot_e1, dot_e2, dot_e3]
theorem mix_unmix (a b c d : BitVec 8) : byC mixRow (byC unRow [a, b, c, d]) = [a, b, c, d] := by
  unfold unRow mixRow
  rw [byC_four, byC_four, dot_dot, dot_dot, dot_dot, dot_dot]
  rw [show dot 14#8 9#8 13#8 11#8 2#8 3#8 1#8 1#8 = 1#8 by decide +kernel, show dot 11#8 14#8 9#8 13#8 2#8 3#8 1#8 1#8 = 0#8 by decide +kernel, show dot 13#8 11#8 14#8 9#8 2#8 3#8 1#8 1#8 = 0#8 by decide +kernel, show dot 9#8 13#8 11#8 14#8 2#8 3#8 1#8 1#8 = 0#8 by decide +kernel,
    show dot 14#8 9#8 13#8 11#8 1#8 2#8 3#8 1#8 = 0#8 by decide +kernel, show dot 11#8 14#8 9#8 13#8 1#8 2#8 3#8 1#8 = 1#8 by decide +kernel, show dot 13#8 11#8 14#8 9#8 1#8 2#8 3#8 1#8 = 0#8 by decide +kernel, show dot 9#8 13#8 11#8 14#8 1#8 2#8 3#8 1#8 = 0#8 by decide +kernel,
    show dot 14#8 9#8 13#8 11#8 1#8 1#8 2#8 3#8 = 0#8 by decide +kernel, show dot 11#8 14#8 9#8 13#8 1#8 1#8 2#8 3#8 = 0#8 by decide +kernel, show dot 13#8 11#8 14#8 9#8 1#8 1#8 2#8 3#8 = 1#8 by decide +kernel, show dot 9#8 13#8 11#8 14#8 1#8 1#8 2#8 3#8 = 0#8 by decide +kernel,
    show dot 14#8 9#8 13#8 11#8 3#8 1#8 1#8 2#8 = 0#8 by decide +kernel, show dot 11#8 14#8 9#8 13#8 3#8 1#8 1#8 2#8 = 0#8 by decide +kernel, show dot 13#8 11#8 14#8 9#8 3#8 1#8 1#8 2#8 = 0#8 by decide +kernel, show dot 9#8 13#8 11#8 14#8 3#8 1#8 1#8 2#8 = 1#8 by decide +kernel,
    dot_e0, dot_e1, dot_e2, dot_e3]
theorem mix_xor (a b c d a' b' c' d' : BitVec 8) : byC mixRow [a ^^^ a', b ^^^ b', c ^^^ c', d ^^^ d'] = List.zipWith (· ^^^ ·) (byC mixRow [a, b, c, d]) (byC mixRow [a', b', c', d']) := by
  unfold mixRow
  rw [byC_four, byC_four, byC_four, dot_xor, dot_xor, dot_xor, dot_xor]; rfl

/-! blocks -/
theorem sixteen (l : List (BitVec 8)) (h : l.length = 16) : ∃ x0 x1 x2 x3 x4 x5 x6 x7 x8 x9 x10 x11 x12 x13 x14 x15, l = [x0, x1, x2, x3, x4, x5, x6, x7, x8, x9, x10, x11, x12, x13, x14, x15] :=
  match l, h with
  | [x0, x1, x2, x3, x4, x5, x6, x7, x8, x9, x10, x11, x12, x13, x14, x15], _ => ⟨x0, x1, x2, x3, x4, x5, x6, x7, x8, x9, x10, x11, x12, x13, x14, x15, rfl⟩
def xorL (a b : List (BitVec 8)) : List (BitVec 8) := List.zipWith (· ^^^ ·) a b
def turnB (s : Nat) (b : List (BitVec 8)) : List (BitVec 8) := (List.range 16).map fun p => b.getD (4 * ((p / 4 + s * (p % 4)) % 4) + p % 4) 0
def colB (row b : List (BitVec 8)) : List (BitVec 8) := (List.range 4).flatMap fun c => byC row ((b.drop (4 * c)).take 4)
theorem xorL_len (a b : List (BitVec 8)) (n : Nat) (ha : a.length = n) (hb : b.length = n) : (xorL a b).length = n := by simp [xorL, ha, hb]
theorem turnB_len (s : Nat) (b : List (BitVec 8)) : (turnB s b).length = 16 := by simp [turnB]
theorem colB_four (row : List (BitVec 8)) (x0 x1 x2 x3 x4 x5 x6 x7 x8 x9 x10 x11 x12 x13 x14 x15 : BitVec 8) : colB row [x0, x1, x2, x3, x4, x5, x6, x7, x8, x9, x10, x11, x12, x13, x14, x15] = byC row [x0, x1, x2, x3] ++ (byC row [x4, x5, x6, x7] ++ (byC row [x8, x9, x10, x11] ++ byC row [x12, x13, x14, x15])) := by
  simp [colB, List.range_succ]
theorem colB_len (row b : List (BitVec 8)) : (colB row b).length = 16 := by
  simp [colB, List.range_succ, byC_len]
theorem xorL_xorL (a k : List (BitVec 8)) (h : a.length ≤ k.length) : xorL (xorL a k) k = a := by
  induction a generalizing k with
  | nil => rfl
  | cons x a ih =>
    cases k with
    | nil => simp at h
    | cons y k =>
      have := ih k (by simpa using h)
      simp only [xorL, List.zipWith_cons_cons] at this ⊢
      rw [this, BitVec.xor_assoc, BitVec.xor_self, BitVec.xor_zero]
theorem turn_back (b : List (BitVec 8)) (h : b.length = 16) : turnB 3 (turnB 1 b) = b := by
  obtain ⟨x0, x1, x2, x3, x4, x5, x6, x7, x8, x9, x10, x11, x12, x13, x14, x15, rfl⟩ := sixteen b h
  rfl
theorem back_turn (b : List (BitVec 8)) (h : b.length = 16) : turnB 1 (turnB 3 b) = b := by
  obtain ⟨x0, x1, x2, x3, x4, x5, x6, x7, x8, x9, x10, x11, x12, x13, x14, x15, rfl⟩ := sixteen b h
  rfl
theorem byC_list (row col : List (BitVec 8)) : ∃ a b c d, byC row col = [a, b, c, d] := ⟨_, _, _, _, rfl⟩
theorem un_mix (b : List (BitVec 8)) (h : b.length = 16) : colB unRow (colB mixRow b) = b := by
  obtain ⟨x0, x1, x2, x3, x4, x5, x6, x7, x8, x9, x10, x11, x12, x13, x14, x15, rfl⟩ := sixteen b h
  rw [colB_four]
  obtain ⟨a0, a1, a2, a3, ea⟩ := byC_list mixRow [x0, x1, x2, x3]
  obtain ⟨b0, b1, b2, b3, eb⟩ := byC_list mixRow [x4, x5, x6, x7]
  obtain ⟨c0, c1, c2, c3, ec⟩ := byC_list mixRow [x8, x9, x10, x11]
  obtain ⟨d0, d1, d2, d3, ed⟩ := byC_list mixRow [x12, x13, x14, x15]
  have ha := unmix_mix x0 x1 x2 x3
  have hb := unmix_mix x4 x5 x6 x7
  have hc := unmix_mix x8 x9 x10 x11
  have hd := unmix_mix x12 x13 x14 x15
  rw [ea] at ha ⊢
  rw [eb] at hb ⊢
  rw [ec] at hc ⊢
  rw [ed] at hd ⊢
  simp only [List.cons_append, List.nil_append]
  rw [colB_four, ha, hb, hc, hd]; rfl
theorem mix_un (b : List (BitVec 8)) (h : b.length = 16) : colB mixRow (colB unRow b) = b := by
  obtain ⟨x0, x1, x2, x3, x4, x5, x6, x7, x8, x9, x10, x11, x12, x13, x14, x15, rfl⟩ := sixteen b h
  rw [colB_four]
  obtain ⟨a0, a1, a2, a3, ea⟩ := byC_list unRow [x0, x1, x2, x3]
  obtain ⟨b0, b1, b2, b3, eb⟩ := byC_list unRow [x4, x5, x6, x7]
  obtain ⟨c0, c1, c2, c3, ec⟩ := byC_list unRow [x8, x9, x10, x11]
  obtain ⟨d0, d1, d2, d3, ed⟩ := byC_list unRow [x12, x13, x14, x15]
  have ha := mix_unmix x0 x1 x2 x3
  have hb := mix_unmix x4 x5 x6 x7
  have hc := mix_unmix x8 x9 x10 x11
  have hd := mix_unmix x12 x13 x14 x15
  rw [ea] at ha ⊢
  rw [eb] at hb ⊢
  rw [ec] at hc ⊢
  rw [ed] at hd ⊢
  simp only [List.cons_append, List.nil_append]
  rw [colB_four, ha, hb, hc, hd]; rfl

/-! rounds -/
def keyAt (ks : List (BitVec 8)) (r : Nat) : List (BitVec 8) := (ks.drop (16 * r)).take 16
theorem keyAt_len (ks : List (BitVec 8)) (r : Nat) (h : ks.length = 240) (hr : r ≤ 14) : (keyAt ks r).length = 16 := by simp [keyAt, h]; omega
def encS (S : BitVec 8 → BitVec 8) (r : Nat) (b : List (BitVec 8)) : List (BitVec 8) := if r < 14 then colB mixRow (turnB 1 (b.map S)) else turnB 1 (b.map S)
def encN (S : BitVec 8 → BitVec 8) (ks b : List (BitVec 8)) : Nat → List (BitVec 8)
  | 0 => xorL b (keyAt ks 0)
  | r + 1 => xorL (encS S (r + 1) (encN S ks b r)) (keyAt ks (r + 1))
def decS (r : Nat) (b : List (BitVec 8)) : List (BitVec 8) := (turnB 3 (if r < 14 then colB unRow b else b)).map back8
def decN (ks : List (BitVec 8)) : List (BitVec 8) → Nat → List (BitVec 8)
  | b, 0 => xorL b (keyAt ks 0)
  | b, r + 1 => decN ks (decS (r + 1) (xorL b (keyAt ks (r + 1)))) r
theorem encS_len (S : BitVec 8 → BitVec 8) (r : Nat) (b : List (BitVec 8)) : (encS S r b).length = 16 := by unfold encS; split <;> simp [colB_len, turnB_len]
theorem decS_len (r : Nat) (b : List (BitVec 8)) : (decS r b).length = 16 := by simp [decS, turnB_len]
theorem encN_len (S : BitVec 8 → BitVec 8) (ks b : List (BitVec 8)) (n : Nat) (hb : b.length = 16) (hk : ks.length = 240) (hn : n ≤ 14) : (encN S ks b n).length = 16 := by
  cases n with
  | zero => exact xorL_len _ _ 16 hb (keyAt_len ks 0 hk (by omega))
  | succ n => exact xorL_len _ _ 16 (encS_len _ _ _) (keyAt_len ks _ hk hn)
theorem map_back_sub (b : List (BitVec 8)) : (b.map sub8).map back8 = b := by
  induction b with
  | nil => rfl
  | cons x b ih => simp only [List.map_cons, back8_sub8]; rw [ih]
theorem map_sub_back (b : List (BitVec 8)) : (b.map back8).map sub8 = b := by
  induction b with
  | nil => rfl
  | cons x b ih => simp only [List.map_cons, sub8_back8]; rw [ih]
theorem decS_encS (r : Nat) (b : List (BitVec 8)) (h : b.length = 16) : decS r (encS sub8 r b) = b := by
  unfold decS encS
  split
  · rw [un_mix _ (turnB_len _ _), turn_back _ (by simpa using h), map_back_sub]
  · rw [turn_back _ (by simpa using h), map_back_sub]
theorem encS_decS (r : Nat) (b : List (BitVec 8)) (h : b.length = 16) : encS sub8 r (decS r b) = b := by
  unfold decS encS
  split
  · rw [map_sub_back, back_turn _ (colB_len _ _), mix_un _ h]
  · rw [map_sub_back, back_turn _ h]
theorem dec_enc (ks b : List (BitVec 8)) (n : Nat) (hb : b.length = 16) (hk : ks.length = 240) (hn : n ≤ 14) : decN ks (encN sub8 ks b n) n = b := by
  induction n with
  | zero => exact xorL_xorL _ _ (by rw [hb, keyAt_len ks 0 hk (by omega)]; omega)
  | succ n ih =>
    simp only [encN, decN]
    rw [xorL_xorL _ _ (by rw [encS_len, keyAt_len ks _ hk hn]; omega), decS_encS _ _ (encN_len _ _ _ _ hb hk (by omega)), ih (by omega)]
theorem enc_dec (ks b : List (BitVec 8)) (n : Nat) (hb : b.length = 16) (hk : ks.length = 240) (hn : n ≤ 14) : encN sub8 ks (decN ks b n) n = b := by
  induction n generalizing b with
  | zero => exact xorL_xorL _ _ (by rw [hb, keyAt_len ks 0 hk (by omega)]; omega)
  | succ n ih =>
    simp only [encN, decN]
    rw [ih _ (decS_len _ _) (by omega), encS_decS _ _ (xorL_len _ _ 16 hb (keyAt_len ks _ hk hn)), xorL_xorL _ _ (by rw [hb, keyAt_len ks _ hk hn]; omega)]

/-! keys -/
def subX (S : BitVec 8 → BitVec 8) (x : BitVec 32) : BitVec 32 := w4 (S ((x >>> 24).setWidth 8)) (S ((x >>> 16).setWidth 8)) (S ((x >>> 8).setWidth 8)) (S (x.setWidth 8))
def rcon (n : Nat) : BitVec 32 := BitVec.ofNat 32 (powN 2 n * 16777216)
def nextK (S : BitVec 8 → BitVec 8) (ws : List (BitVec 32)) : BitVec 32 :=
  ws.getD (ws.length - 8) 0 ^^^ (if ws.length % 8 = 0 then subX S (rotl (ws.getD (ws.length - 1) 0) 8) ^^^ rcon (ws.length / 8 - 1) else if ws.length % 8 = 4 then subX S (ws.getD (ws.length - 1) 0) else ws.getD (ws.length - 1) 0)
def expandN (S : BitVec 8 → BitVec 8) (ws : List (BitVec 32)) : Nat → List (BitVec 32)
  | 0 => ws
  | n + 1 => expandN S ws n ++ [nextK S (expandN S ws n)]
theorem expandN_len (S : BitVec 8 → BitVec 8) (ws : List (BitVec 32)) (n : Nat) : (expandN S ws n).length = ws.length + n := by
  induction n with
  | zero => rfl
  | succ n ih => simp only [expandN, List.length_append, ih, List.length_cons, List.length_nil]; omega
def keysOf (S : BitVec 8 → BitVec 8) (key : List (BitVec 8)) : List (BitVec 8) := bytesOf (expandN S (wordsOf key) 52)
theorem keysOf_len (S : BitVec 8 → BitVec 8) (key : List (BitVec 8)) (h : key.length = 32) : (keysOf S key).length = 240 := by
  rw [keysOf, bytesOf_length, expandN_len, wordsOf_length key 8 (by omega)]
def encOf (key b : List (BitVec 8)) : List (BitVec 8) := encN sub8 (keysOf sub8 key) b 14
def decOf (key b : List (BitVec 8)) : List (BitVec 8) := decN (keysOf sub8 key) b 14

/-! the table of substitutes, and the document's example -/
def sboxL : List Nat := [99, 124, 119, 123, 242, 107, 111, 197, 48, 1, 103, 43, 254, 215, 171, 118, 202, 130, 201, 125, 250, 89, 71, 240, 173, 212, 162, 175, 156, 164, 114, 192, 183, 253, 147, 38, 54, 63, 247, 204, 52, 165, 229, 241, 113, 216, 49, 21, 4, 199, 35, 195, 24, 150, 5, 154, 7, 18, 128, 226, 235, 39, 178, 117, 9, 131, 44, 26, 27, 110, 90, 160, 82, 59, 214, 179, 41, 227, 47, 132, 83, 209, 0, 237, 32, 252, 177, 91, 106, 203, 190, 57, 74, 76, 88, 207, 208, 239, 170, 251, 67, 77, 51, 133, 69, 249, 2, 127, 80, 60, 159, 168, 81, 163, 64, 143, 146, 157, 56, 245, 188, 182, 218, 33, 16, 255, 243, 210, 205, 12, 19, 236, 95, 151, 68, 23, 196, 167, 126, 61, 100, 93, 25, 115, 96, 129, 79, 220, 34, 42, 144, 136, 70, 238, 184, 20, 222, 94, 11, 219, 224, 50, 58, 10, 73, 6, 36, 92, 194, 211, 172, 98, 145, 149, 228, 121, 231, 200, 55, 109, 141, 213, 78, 169, 108, 86, 244, 234, 101, 122, 174, 8, 186, 120, 37, 46, 28, 166, 180, 198, 232, 221, 116, 31, 75, 189, 139, 138, 112, 62, 181, 102, 72, 3, 246, 14, 97, 53, 87, 185, 134, 193, 29, 158, 225, 248, 152, 17, 105, 217, 142, 148, 155, 30, 135, 233, 206, 85, 40, 223, 140, 161, 137, 13, 191, 230, 66, 104, 65, 153, 45, 15, 176, 84, 187, 22]
def sboxChk : Bool := allB (fun x => Nat.beq (mixN (fastP 8 x 254 1)) (sboxL.getD x 0)) 256
theorem sboxChk_ok : sboxChk = true := by decide +kernel
theorem sub_table (x : Nat) (h : x < 256) : sub x = sboxL.getD x 0 := by
  have h1 := allB_spec _ _ sboxChk_ok x h
  have h2 := Nat.eq_of_beq_eq_true h1
  rw [← h2, fastP_eq 8 x 254 1 h (by omega) (by omega), one_times _ (powN_lt _ _ h)]
  rfl
def subT (x : BitVec 8) : BitVec 8 := BitVec.ofNat 8 (sboxL.getD x.toNat 0)
theorem sub8_subT : sub8 = subT := funext fun x => by rw [sub8, subT, sub_table _ x.isLt]
def key06 : List (BitVec 8) := (List.range 32).map (BitVec.ofNat 8)
def block06 : List (BitVec 8) := (List.range 16).map fun i => BitVec.ofNat 8 (17 * i)
set_option maxRecDepth 100000 in
theorem enc06 : (encOf key06 block06).getD 0 0 = 142#8 ∧ (encOf key06 block06).getD 1 0 = 162#8 ∧ (encOf key06 block06).getD 15 0 = 137#8 := by
  unfold encOf
  rw [sub8_subT]
  decide +kernel
end Go.Proofs.Ytdeljodfanfbmaa
