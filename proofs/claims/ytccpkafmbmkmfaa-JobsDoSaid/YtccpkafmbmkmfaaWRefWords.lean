/- The walk of the reference's Words. Condition: at most 2^40 bytes. -/
import Derived.Test.YtccpkafmbmkmfaaWWords
namespace Go.Proofs.Ytccpkafmbmkmfaa
open Go.RowKit
set_option linter.unusedVariables false

theorem refwords_no (A : Option Addr) (n c : Nat) (w : World) (hn : n ≤ 9223372036854775807) (h4 : n % 4 ≠ 0) :
    Calls Try.prog 122 #[.slice A n c] w fun e w' => e = .returned (.tuple #[.slice none 0 0, .bool false]) ∧ w = w' := by
  have h1 : ((n : Int) % 4 == 0) = false := by simp; omega
  have h2 : ((n : Int) % 4 != 0) = true := by simp; omega
  go_enter Try.func122, Try.ntmps122
  go_wp2
  go_ret2
  exact ⟨rfl, rfl⟩
/-- what the inner loop has made of the first bytes of four -/
def part4 (a b c d : BitVec 8) : Nat → Nat
  | 0 => 0
  | 1 => a.toNat
  | 2 => a.toNat * 256 + b.toNat
  | 3 => a.toNat * 65536 + b.toNat * 256 + c.toNat
  | _ => a.toNat * 16777216 + b.toNat * 65536 + c.toNat * 256 + d.toNat
def pick4 (a b c d : BitVec 8) : Nat → BitVec 8
  | 0 => a | 1 => b | 2 => c | _ => d
theorem part4_step (a b c d : BitVec 8) (j : Nat) (h : j < 4) : 256 * (part4 a b c d j : Int) % 4294967296 + ((pick4 a b c d j).toNat : Int) = (part4 a b c d (j + 1) : Int) := by
  have ha := a.isLt; have hb := b.isLt; have hc := c.isLt; have hd := d.isLt
  match j, h with
  | 0, _ => simp only [part4, pick4]; omega
  | 1, _ => simp only [part4, pick4]; omega
  | 2, _ => simp only [part4, pick4]; omega
  | 3, _ => simp only [part4, pick4]; omega
theorem part4_four (a b c d : BitVec 8) : (part4 a b c d 4 : Int) = ((w4 a b c d).toNat : Int) := by rw [w4_toNat]; rfl
set_option maxRecDepth 100000 in
set_option maxHeartbeats 800000 in
theorem refwords_any (A : Option Addr) (n m c : Nat) (bs : List (BitVec 8)) (w : World) (hr : Reads w w.heap.size 1 A n (bs.map c8)) (hn : n = 4 * m) (hm : m ≤ 1099511627776) :
    Calls Try.prog 122 #[.slice A n c] w fun e w' => ∃ A' c', e = .returned (.tuple #[.slice A' m c', .bool true]) ∧ w'.ownsRow w.heap.size 22 1 (.slice A' m c') m ((wordsOf bs).map c32) ∧ Below w.heap.size w w' := by
  obtain ⟨i0, hi0, hz0, hz1, hz2⟩ := info_parts info_u32
  have hl := hr.len
  have HL := hide hl
  clear hl
  have hb1 : n ≤ 4398046511104 := by omega
  have h2 : ((n : Int) % 4 != 0) = false := by simp; omega
  have HN := hide hn
  clear hn
  go_enter Try.func122, Try.ntmps122
  go_wp2
  go_loopw [4, 5] (fun v i wr => ∃ k : Nat, 4 * k ≤ n ∧ i = .int .i64 ((4 * k : Nat) : Int) ∧ wr.ownsRow w.heap.size 22 1 v k ((wordsOf (bs.take (4 * k))).map c32) ∧ Below w.heap.size w wr) (fun _ i _ => n - (intOf i).toNat)
  case atStart => exact ⟨0, Nat.zero_le _, rfl, World.ownsRow_nil _ _ _ _, Below.refl _ _⟩
  case round =>
    obtain ⟨k, hk, rfl, hown, hbel⟩ := hrel
    by_cases hlt : 4 * k < n
    · have hk4 : 4 * k + 3 < bs.length := by have := HN.out; have := HL.out; omega
      obtain ⟨a, ha⟩ : ∃ a, a = bs[4 * k] := ⟨_, rfl⟩
      obtain ⟨b, hb⟩ : ∃ a, a = bs[4 * k + 1] := ⟨_, rfl⟩
      obtain ⟨c', hc'⟩ : ∃ a, a = bs[4 * k + 2] := ⟨_, rfl⟩
      obtain ⟨d, hd⟩ : ∃ a, a = bs[4 * k + 3] := ⟨_, rfl⟩
      have hw := wordsOf_take bs k hk4
      rw [← ha, ← hb, ← hc', ← hd] at hw
      have HW := hide hw
      clear hw
      have hcell : ∀ j, j < 4 → ∃ ad, A = some ad ∧ wr.cell? (ad.add (4 * k + j)) = some (c8 (pick4 a b c' d j)) := by
        intro j hj
        obtain ⟨ad, e, _, hc⟩ := (hr.below hbel).get (k := 4 * k + j) (by omega)
        refine ⟨ad, e, ?_⟩
        rw [hc]
        match j, hj with
        | 0, _ => rw [ha]; rfl
        | 1, _ => rw [hb]; rfl
        | 2, _ => rw [hc']; rfl
        | 3, _ => rw [hd]; rfl
      clear ha hb hc' hd
      have hsz := hbel.size
      have hk5 : 4 * k + 4 ≤ n := by have := HN.out; omega
      obtain ⟨ad, rfl, _⟩ := hcell 0 (by omega)
      have hcell : ∀ j, j < 4 → wr.cell? (ad.add (4 * k + j)) = some (c8 (pick4 a b c' d j)) := by
        intro j hj
        obtain ⟨ad', e, h⟩ := hcell j hj
        cases e; exact h
      have HC := hide hcell
      clear hcell
      obtain ⟨wo, rfl⟩ : ∃ wo : World, wo = wr := ⟨_, rfl⟩
      go_wp2
      go_loop [6, 7] (fun x i => ∃ j : Nat, j ≤ 4 ∧ i = .int .i64 (j : Int) ∧ x = .int .u32 (part4 a b c' d j : Int)) (fun _ i => 4 - (intOf i).toNat)
      case atStart => exact ⟨0, by omega, rfl, rfl⟩
      case round =>
        obtain ⟨j, hj, rfl, rfl⟩ := hrel
        by_cases hj4 : j < 4
        · have hcj := HC.out j hj4
          have bj := (pick4 a b c' d j).isLt
          go_wp2
          go_round
          case rel => exact ⟨j + 1, by omega, by go_num, int_u32 (part4_step a b c' d j hj4)⟩
          case measure => simp [intOf]; omega
        · obtain rfl : j = 4 := by omega
          rw [part4_four]
          go_wp2_with (at_builtin; refine wpList_append_any _ rfl (.tmp 32) (.tmp 34) 154 rfl w.heap.size 22 i0 _ 1 4 Try.underlying154 hi0 hz0 hz1 hz2 rfl (by omega) _ k _ rfl (hown.alloc _) _ _ 1 1 _ rfl (Reads.new _ _ _) (by intro u hu; simp at hu; subst hu; rfl) (by simp only [maxLen]; omega) (by omega) (by simp; omega) ?_)
          intro v' w2 hown' hgrow' _
          have hb2 := below_appended (hbel.alloc hsz _) (by simp; omega) (hown.alloc _) (Nat.le_refl _) hgrow'
          clear hgrow' hown hbel
          go_wp2
          go_roundw
          case rel => exact ⟨k + 1, by omega, by go_num, by rw [HW.out, List.map_append]; exact hown', hb2⟩
          case measure => simp [intOf]; omega
    · obtain rfl : 4 * k = n := by omega
      have hkm : k = m := by have := HN.out; omega
      have HK := hide hkm
      clear hkm
      go_wp2
      go_ret2
      rw [List.take_of_length_le (by have := HL.out; omega), HK.out] at hown
      obtain ⟨A', c', rfl⟩ := own_slice hown
      exact ⟨A', c', rfl, hown, hbel⟩
end Go.Proofs.Ytccpkafmbmkmfaa
