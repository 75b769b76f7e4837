/- The walk of word.Words. Condition: at most 2^40 bytes. -/
import Derived.Test.YtccpkafmbmkmfaaLists
import Derived.Test.YtccpkafmbmkmfaaInfo
namespace Go.Proofs.Ytccpkafmbmkmfaa
open Go.RowKit
set_option linter.unusedVariables false

theorem words_no (A : Option Addr) (n c : Nat) (w : World) (hn : n ≤ 9223372036854775807) (h4 : n % 4 ≠ 0) :
    Calls Try.prog 141 #[.slice A n c] w fun e w' => e = .returned (.tuple #[.slice none 0 0, .bool false]) ∧ w = w' := by
  have h1 : ((n : Int) % 4 == 0) = false := by simp; omega
  have h2 : ((n : Int) % 4 != 0) = true := by simp; omega
  go_enter Try.func141, Try.ntmps141
  go_wp2
  go_ret2
  exact ⟨rfl, rfl⟩
/-- four bytes at the head of what is left -/
theorem get4 {w : World} {B n : Nat} {A : Option Addr} {a b c d : BitVec 8} {t : List (BitVec 8)} (h : Reads w B 1 A n ((a :: b :: c :: d :: t).map c8)) :
    ∃ g o, A = some ⟨g, o, none⟩ ∧ g < B ∧ w.cell? ⟨g, o, none⟩ = some (c8 a) ∧ w.cell? ⟨g, o + 1, none⟩ = some (c8 b) ∧ w.cell? ⟨g, o + 2, none⟩ = some (c8 c) ∧ w.cell? ⟨g, o + 3, none⟩ = some (c8 d) := by
  have hl := h.len
  obtain ⟨⟨g, o, sp⟩, rfl, hb, h0⟩ := h.get (k := 0) (by simp)
  obtain ⟨ad1, e1, _, h1⟩ := h.get (k := 1) (by simp)
  obtain ⟨ad2, e2, _, h2⟩ := h.get (k := 2) (by simp)
  obtain ⟨ad3, e3, _, h3⟩ := h.get (k := 3) (by simp)
  cases e1; cases e2; cases e3
  have hs : sp = none := by
    have := World.cell?_spot h0
    simpa [Addr.add] using this
  subst hs
  exact ⟨g, o, rfl, hb, by simpa [Addr.add] using h0, by simpa [Addr.add] using h1, by simpa [Addr.add] using h2, by simpa [Addr.add] using h3⟩
theorem words_split {bs t : List (BitVec 8)} {a b c d : BitVec 8} {k : Nat} (h : bs.take (4 * k) ++ (a :: b :: c :: d :: t) = bs) (hl : 4 * (k + 1) ≤ bs.length) :
    bs = bs.take (4 * (k + 1)) ++ t ∧ wordsOf (bs.take (4 * (k + 1))) = wordsOf (bs.take (4 * k)) ++ [w4 a b c d] := by
  have hlen : (bs.take (4 * k)).length = 4 * k := by simp; omega
  have e : bs.take (4 * (k + 1)) = bs.take (4 * k) ++ [a, b, c, d] := by
    have e1 : (bs.take (4 * k) ++ (a :: b :: c :: d :: t)).take (4 * (k + 1)) = bs.take (4 * k) ++ [a, b, c, d] := by
      rw [List.take_append, hlen, List.take_of_length_le (by omega)]
      have : 4 * (k + 1) - 4 * k = 4 := by omega
      rw [this]
      rfl
    rw [h] at e1
    exact e1
  constructor
  · rw [e, List.append_assoc]; exact h.symm
  · rw [e, wordsOf_append _ _ k hlen]; rfl
set_option maxRecDepth 100000 in
set_option maxHeartbeats 800000 in
theorem words_any (A : Option Addr) (n m c : Nat) (bs : List (BitVec 8)) (w : World) (hr : Reads w w.heap.size 1 A n (bs.map c8)) (hn : n = 4 * m) (hm : m ≤ 1099511627776) (hc : n ≤ c) :
    Calls Try.prog 141 #[.slice A n c] w fun e w' => ∃ A' c', e = .returned (.tuple #[.slice A' m c', .bool true]) ∧ w'.ownsRow w.heap.size 22 1 (.slice A' m c') m ((wordsOf bs).map c32) ∧ Below w.heap.size w w' := by
  obtain ⟨i0, hi0, hz0, hz1, hz2⟩ := info_parts info_u32
  have hl := hr.len
  have HL := hide hl
  clear hl
  have hb1 : n ≤ 4398046511104 := by omega
  have h2 : ((n : Int) % 4 != 0) = false := by simp; omega
  have HN := hide hn
  clear hn
  go_enter Try.func141, Try.ntmps141
  go_wp2_with (at_make; refine wpList_make_own _ rfl _ _ 154 rfl w.heap.size 22 i0 _ 1 Try.underlying154 hi0 hz0 hz1 .i64 .i64 _ (n / 4) rfl rfl (by omega) (by rw [hz2]; omega) (by simp only [maxLen]; omega) (Nat.le_refl _) ?_)
  intro w1 hown1 hgrow1
  go_wp2
  go_loopw [0, 4] (fun s v wr => ∃ (k r cr : Nat) (A' : Option Addr) (rest : List (BitVec 8)), s = .slice A' r cr ∧ r ≤ cr ∧ Reads wr w.heap.size 1 A' r (rest.map c8) ∧ bs = bs.take (4 * k) ++ rest ∧ 4 * k + r = n ∧
      wr.ownsRow w.heap.size 22 1 v k ((wordsOf (bs.take (4 * k))).map c32) ∧ Below w.heap.size w wr) (fun s _ _ => lenOf s)
  case atStart => exact ⟨0, n, c, A, bs, rfl, hc, hr.below ((Below.refl _ _).grown hgrow1 (Nat.le_refl _) (by simp)), by simp, by omega, by simpa [wordsOf_nil] using hown1, (Below.refl _ _).grown hgrow1 (Nat.le_refl _) (by simp)⟩
  case round =>
    obtain ⟨k, r, cr, A', rest, rfl, hrc, hrd, hsp, hkr, hown, hbel⟩ := hrel
    by_cases h0 : 0 < r
    · have hr4 : 4 ≤ r := by have := HN.out; omega
      obtain ⟨a, b, c', d, t, rfl⟩ := four_of rest (by rw [hrd.len]; exact hr4)
      obtain ⟨g, o, rfl, hg, q0, q1, q2, q3⟩ := get4 hrd
      have b0 := a.isLt
      have b1 := b.isLt
      have b2 := c'.isLt
      have b3 := d.isLt
      have hsz := hbel.size
      have i1 : (1 : Int) < (r : Int) := by omega
      have i2 : (2 : Int) < (r : Int) := by omega
      have i3 : (3 : Int) < (r : Int) := by omega
      go_wp2
      go_region_held3 (fun W => W.cell? ⟨g, o, none⟩ = some (c8 a) ∧ W.cell? ⟨g, o + 1, none⟩ = some (c8 b) ∧ W.cell? ⟨g, o + 2, none⟩ = some (c8 c') ∧ W.cell? ⟨g, o + 3, none⟩ = some (c8 d))
        (first
          | go_keep
          | (rw [far_of_own ((hown.alloc _).drew) hgrow' hg (by simp; omega), far_of_own ((hown.alloc _).drew) hgrow' hg (by simp; omega), far_of_own ((hown.alloc _).drew) hgrow' hg (by simp; omega), far_of_own ((hown.alloc _).drew) hgrow' hg (by simp; omega)]; assumption))
        ((refine step_append_any _ rfl (.tmp 18) (.tmp 41) 154 rfl w.heap.size 22 i0 _ 1 4 Try.underlying154 hi0 hz0 hz1 hz2 rfl (by omega) _ k _ (by rfl) ((hown.alloc _).drew) _ _ 1 1 _ (by rfl) (Reads.drew (Reads.new _ _ _)) (by intro u hu; simp at hu; subst hu; rfl) (by simp only [maxLen]; omega) (by omega) (by simp; omega) ?_; intro v' w2 hown' hgrow' hat))
      rw [w4_wrap] at hown'
      have hb2 := below_appended (((hbel.alloc hsz _).drew)) (by simp; omega) ((hown.alloc _).drew) (Nat.le_refl _) hgrow'
      have hown2 := hown.alloc (.cells #[.int .u32 ((w4 a b c' d).toNat : Int)] 22)
      have hgr2 := hgrow'
      rw [w4_wrap] at hgr2
      clear hgrow' hown
      have hrd2 : Reads w2 w.heap.size 1 (if cr = 4 then some ⟨g, o, none⟩ else some ⟨g, o + 4, none⟩) (r - 4) (t.map c8) := by
        have hx := hrd.cut (k := 4) (cap := cr) hr4 hrc
        refine hx.keep fun p hp => ?_
        rw [World.cell?_of_block (hgr2.block p.block (by simp; omega) (own_ne hown2 hp))]
        exact World.cell?_alloc_lt wr _ p (by omega)
      have HT := hide (show bs.take (4 * k) ++ (a :: b :: c' :: d :: t) = bs from hsp.symm)
      have hb4 : 4 * (k + 1) ≤ bs.length := by have := HL.out; omega
      clear hsp hrd hown2 hgr2
      go_wp2
      go_roundw
      case rel =>
        refine ⟨k + 1, r - 4, cr - 4, _, t, rfl, by omega, hrd2, ?_, by omega, ?_, hb2⟩
        · exact (words_split HT.out hb4).1
        · rw [(words_split HT.out hb4).2, List.map_append]; exact hown'
      case measure => simp [lenOf]; omega
    · obtain rfl : r = 0 := by omega
      have hk : k = m := by have := HN.out; omega
      have HK := hide hk
      clear hk hsp
      go_wp2
      go_ret2
      rw [List.take_of_length_le (by have := HL.out; omega)] at hown
      rw [HK.out] at hown
      obtain ⟨A', c', rfl⟩ := own_slice hown
      exact ⟨A', c', rfl, hown, hbel⟩
end Go.Proofs.Ytccpkafmbmkmfaa
