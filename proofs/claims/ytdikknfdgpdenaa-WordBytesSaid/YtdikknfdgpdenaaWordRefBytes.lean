/- The walks of the reference's Bytes, Words, Add and Same, and of word.Add. Condition: at most 2^40 words or bytes. -/
import Derived.Test.YtdikknfdgpdenaaWordWords
namespace Go.Proofs.Ytdikknfdgpdenaa
open Go.RowKit
set_option linter.unusedVariables false

set_option maxHeartbeats 400000 in
theorem refbytes_any (A : Option Addr) (n c : Nat) (ws : List (BitVec 32)) (w : World) (hr : Reads w w.heap.size 1 A n (ws.map c32)) (hn : n ≤ 1099511627776) :
    Calls Try.prog 26 #[.slice A n c] w fun e w' => ∃ A' c', e = .returned (.slice A' (4 * n) c') ∧ w'.ownsRow w.heap.size 5 1 (.slice A' (4 * n) c') (4 * n) ((bytesOf ws).map c8) ∧ Below w.heap.size w w' := by
  obtain ⟨i0, hi0, hz0, hz1, hz2⟩ := info_parts info_u8
  have hl := hr.len
  have HL := hide hl
  clear hl
  go_enter Try.func26, Try.ntmps26
  go_wp2
  go_loopw [3, 4] (fun v i wr => ∃ k : Nat, k ≤ n ∧ i = .int .i64 k ∧ wr.ownsRow w.heap.size 5 1 v (4 * k) ((bytesOf (ws.take k)).map c8) ∧ Below w.heap.size w wr) (fun _ i _ => n - (intOf i).toNat)
  case atStart => exact ⟨0, Nat.zero_le _, rfl, World.ownsRow_nil _ _ _ _, Below.refl _ _⟩
  case round =>
    obtain ⟨k, hk, rfl, hown, hbel⟩ := hrel
    by_cases hlt : k < n
    · obtain ⟨ad, rfl, hab, hcell⟩ := (hr.below hbel).get (k := k) (by rw [HL.out]; exact hlt)
      have hsz := hbel.size
      go_wp2_with (at_builtin; refine wpList_append_any _ rfl (.tmp 16) (.tmp 31) 29 rfl w.heap.size 5 i0 _ 1 1 Try.underlying29 hi0 hz0 hz1 hz2 rfl (by omega) _ (4 * k) _ rfl (hown.alloc _) _ _ 4 4 _ rfl (Reads.new _ _ _) ?_ (by simp only [maxLen]; omega) (by omega) (by simp; omega) ?_)
      · exact ⟨rfl, rfl, rfl, rfl⟩
      · intro v' w2 hown' hgrow' _
        rw [bytes4_cells', bytes_next ws k (by rw [HL.out]; exact hlt)] at hown'
        have hb2 := below_appended (hbel.alloc hsz _) (by simp; omega) (hown.alloc _) (Nat.le_refl _) hgrow'
        clear hgrow' hown hbel
        go_wp2
        go_roundw
        case rel => exact ⟨k + 1, by omega, by go_num, hown', hb2⟩
        case measure => simp [intOf]; omega
    · obtain rfl : k = n := by omega
      go_wp2
      go_ret
      rw [List.take_of_length_le (Nat.le_of_eq HL.out)] at hown
      obtain ⟨A', c', rfl⟩ := own_slice hown
      exact ⟨A', c', rfl, hown, hbel⟩
theorem add_any (A : Option Addr) (n c : Nat) (ws : List (BitVec 32)) (w : World) (hr : Reads w w.heap.size 1 A n (ws.map c32)) (hn : n ≤ 1099511627776) :
    Calls Try.prog 28 #[.slice A n c] w fun e w' => e = .returned (.int .u32 ((sumW ws).toNat : Int)) ∧ w = w' := by
  have hl := hr.len
  have HL := hide hl
  clear hl
  go_enter Try.func28, Try.ntmps28
  go_wp2
  go_loop [3, 8] (fun v i => ∃ k : Nat, k ≤ n ∧ i = .int .i64 k ∧ v = .int .u32 ((sumW (ws.take k)).toNat : Int)) (fun _ i => n - (intOf i).toNat)
  case atStart => exact ⟨0, Nat.zero_le _, rfl, rfl⟩
  case round =>
    obtain ⟨k, hk, rfl, rfl⟩ := hrel
    by_cases hlt : k < n
    · have hkl : k < ws.length := by rw [HL.out]; exact hlt
      obtain ⟨ad, rfl, hab, hcell⟩ := hr.get (k := k) hkl
      go_wp2
      go_round
      case rel => exact ⟨k + 1, by omega, by go_num, int_u32 (sumW_step ws k hkl)⟩
      case measure => simp [intOf]; omega
    · obtain rfl : k = n := by omega
      go_wp2
      go_ret
      rw [List.take_of_length_le (Nat.le_of_eq HL.out)]
      exact ⟨rfl, rfl⟩
theorem refadd_any (A : Option Addr) (n c : Nat) (ws : List (BitVec 32)) (w : World) (hr : Reads w w.heap.size 1 A n (ws.map c32)) (hn : n ≤ 1099511627776) :
    Calls Try.prog 29 #[.slice A n c] w fun e w' => e = .returned (.int .u32 ((sumW ws).toNat : Int)) ∧ w = w' := by
  have hl := hr.len
  have HL := hide hl
  clear hl
  go_enter Try.func29, Try.ntmps29
  go_wp2
  go_loop [3, 4] (fun v i => ∃ k : Nat, k ≤ n ∧ i = .int .i64 k ∧ v = .int .u32 ((sumW (ws.take k)).toNat : Int)) (fun _ i => n - (intOf i).toNat)
  case atStart => exact ⟨0, Nat.zero_le _, rfl, rfl⟩
  case round =>
    obtain ⟨k, hk, rfl, rfl⟩ := hrel
    by_cases hlt : k < n
    · have hkl : k < ws.length := by rw [HL.out]; exact hlt
      obtain ⟨ad, rfl, hab, hcell⟩ := hr.get (k := k) hkl
      go_wp2
      go_round
      case rel => exact ⟨k + 1, by omega, by go_num, int_u32 (sumW_step ws k hkl)⟩
      case measure => simp [intOf]; omega
    · obtain rfl : k = n := by omega
      go_wp2
      go_ret
      rw [List.take_of_length_le (Nat.le_of_eq HL.out)]
      exact ⟨rfl, rfl⟩
set_option maxHeartbeats 400000 in
theorem same01_any (A B : Option Addr) (n m c d : Nat) (xs ys : List (BitVec 32)) (w : World) (ha : Reads w w.heap.size 1 A n (xs.map c32)) (hb : Reads w w.heap.size 1 B m (ys.map c32)) (hn : n ≤ 1099511627776) :
    Calls Try.prog 27 #[.slice A n c, .slice B m d] w fun e w' => e = .returned (.bool (decide (xs = ys))) ∧ ∃ k, w' = w.drewN k := by
  have hla := ha.len
  have hlb := hb.len
  by_cases hnm : n = m
  · subst hnm
    have HA := hide hla
    have HB := hide hlb
    clear hla hlb
    go_enter Try.func27, Try.ntmps27
    go_wp2
    go_loopw [5] (fun i wr => ∃ k : Nat, k ≤ n ∧ i = .int .i64 k ∧ xs.take k = ys.take k ∧ ∃ j, wr = w.drewN j) (fun i _ => n - (intOf i).toNat)
    case atStart => exact ⟨0, Nat.zero_le _, rfl, rfl, 0, rfl⟩
    case round =>
      obtain ⟨k, hk, rfl, htk, j, rfl⟩ := hrel
      have HT := hide htk
      clear htk
      by_cases hlt : k < n
      · have hka : k < xs.length := by rw [HA.out]; exact hlt
        have hkb : k < ys.length := by rw [HB.out]; exact hlt
        obtain ⟨ada, rfl, _, hca⟩ := ha.get (k := k) hka
        obtain ⟨adb, rfl, _, hcb⟩ := hb.get (k := k) hkb
        have i0 : (0 : Int) ≤ (k : Int) := by omega
        have i1 : (k : Int) < (n : Int) := by omega
        by_cases he : xs[k] = ys[k]
        · have hq : ((xs[k].toNat : Int) != (ys[k].toNat : Int)) = false := by rw [he]; simp
          have HE := hide he
          clear he
          go_wp2
          go_quiet (fail)
          go_wp2
          go_roundw
          case rel => exact ⟨k + 1, by omega, by go_num, by rw [List.take_succ_eq_append_getElem hka, List.take_succ_eq_append_getElem hkb, HT.out, HE.out], _, rfl⟩
          case measure => simp [intOf]; omega
        · have hq : ((xs[k].toNat : Int) != (ys[k].toNat : Int)) = true := by
            rw [bne_iff_ne]; intro h; apply he; apply BitVec.eq_of_toNat_eq; omega
          have hd : decide (xs = ys) = false := by
            rw [decide_eq_false_iff_not]; intro h; subst h; exact he rfl
          have HD := hide hd
          clear hd he
          go_wp2
          go_quiet (fail)
          go_wp2
          go_ret
          exact ⟨by rw [HD.out]; rfl, _, World.drewN_drewN ..⟩
      · obtain rfl : k = n := by omega
        have hd : decide (xs = ys) = true := by
          rw [decide_eq_true_eq]
          have h1 := HT.out
          rwa [List.take_of_length_le (Nat.le_of_eq HA.out), List.take_of_length_le (Nat.le_of_eq HB.out)] at h1
        have HD := hide hd
        clear hd
        go_wp2
        go_ret
        exact ⟨by rw [HD.out]; rfl, _, rfl⟩
  · have hd : decide (xs = ys) = false := by
      rw [decide_eq_false_iff_not]; intro h; subst h; omega
    have HD := hide hd
    have h1 : ((n : Int) != (m : Int)) = true := by rw [bne_iff_ne]; omega
    clear hd
    go_enter Try.func27, Try.ntmps27
    go_wp2
    go_ret
    exact ⟨by rw [HD.out]; rfl, 0, rfl⟩
theorem refwords_no (A : Option Addr) (n c : Nat) (w : World) (hn : n ≤ 9223372036854775807) (h4 : n % 4 ≠ 0) :
    Calls Try.prog 30 #[.slice A n c] w fun e w' => e = .returned (.tuple #[.slice none 0 0, .bool false]) ∧ w = w' := by
  have h1 : ((n : Int) % 4 == 0) = false := by simp; omega
  have h2 : ((n : Int) % 4 != 0) = true := by simp; omega
  go_enter Try.func30, Try.ntmps30
  go_wp2
  go_ret2
  exact ⟨rfl, rfl⟩
/-- what the inner loop has made of the first bytes of four -/
def part4 (a b c d : BitVec 8) : Nat → Nat
  | 0 => 0
  | 1 => a.toNat
  | 2 => a.toNat * 256 + b.toNat
  | 3 => a.toNat * 65536 + b.toNat * 256 + c.toNat
  | _ => a.toNat * 16777216 + b.toNat * 65536 + c.toNat * 256 + d.toNat
def pick4 (a b c d : BitVec 8) : Nat → BitVec 8
  | 0 => a | 1 => b | 2 => c | _ => d
theorem part4_step (a b c d : BitVec 8) (j : Nat) (h : j < 4) : 256 * (part4 a b c d j : Int) % 4294967296 + ((pick4 a b c d j).toNat : Int) = (part4 a b c d (j + 1) : Int) := by
  have ha := a.isLt; have hb := b.isLt; have hc := c.isLt; have hd := d.isLt
  match j, h with
  | 0, _ => simp only [part4, pick4]; omega
  | 1, _ => simp only [part4, pick4]; omega
  | 2, _ => simp only [part4, pick4]; omega
  | 3, _ => simp only [part4, pick4]; omega
theorem part4_four (a b c d : BitVec 8) : (part4 a b c d 4 : Int) = ((w4 a b c d).toNat : Int) := by rw [w4_toNat]; rfl
set_option maxRecDepth 100000 in
set_option maxHeartbeats 800000 in
theorem refwords_any (A : Option Addr) (n m c : Nat) (bs : List (BitVec 8)) (w : World) (hr : Reads w w.heap.size 1 A n (bs.map c8)) (hn : n = 4 * m) (hm : m ≤ 1099511627776) :
    Calls Try.prog 30 #[.slice A n c] w fun e w' => ∃ A' c', e = .returned (.tuple #[.slice A' m c', .bool true]) ∧ w'.ownsRow w.heap.size 22 1 (.slice A' m c') m ((wordsOf bs).map c32) ∧ Below w.heap.size w w' := by
  obtain ⟨i0, hi0, hz0, hz1, hz2⟩ := info_parts info_u32
  have hl := hr.len
  have HL := hide hl
  clear hl
  have hb1 : n ≤ 4398046511104 := by omega
  have h2 : ((n : Int) % 4 != 0) = false := by simp; omega
  have HN := hide hn
  clear hn
  go_enter Try.func30, Try.ntmps30
  go_wp2
  go_loopw [4, 5] (fun v i wr => ∃ k : Nat, 4 * k ≤ n ∧ i = .int .i64 ((4 * k : Nat) : Int) ∧ wr.ownsRow w.heap.size 22 1 v k ((wordsOf (bs.take (4 * k))).map c32) ∧ Below w.heap.size w wr) (fun _ i _ => n - (intOf i).toNat)
  case atStart => exact ⟨0, Nat.zero_le _, rfl, World.ownsRow_nil _ _ _ _, Below.refl _ _⟩
  case round =>
    obtain ⟨k, hk, rfl, hown, hbel⟩ := hrel
    by_cases hlt : 4 * k < n
    · have hk4 : 4 * k + 3 < bs.length := by have := HN.out; have := HL.out; omega
      obtain ⟨a, ha⟩ : ∃ a, a = bs[4 * k] := ⟨_, rfl⟩
      obtain ⟨b, hb⟩ : ∃ a, a = bs[4 * k + 1] := ⟨_, rfl⟩
      obtain ⟨c', hc'⟩ : ∃ a, a = bs[4 * k + 2] := ⟨_, rfl⟩
      obtain ⟨d, hd⟩ : ∃ a, a = bs[4 * k + 3] := ⟨_, rfl⟩
      have hw := wordsOf_take bs k hk4
      rw [← ha, ← hb, ← hc', ← hd] at hw
      have HW := hide hw
      clear hw
      have hcell : ∀ j, j < 4 → ∃ ad, A = some ad ∧ wr.cell? (ad.add (4 * k + j)) = some (c8 (pick4 a b c' d j)) := by
        intro j hj
        obtain ⟨ad, e, _, hc⟩ := (hr.below hbel).get (k := 4 * k + j) (by omega)
        refine ⟨ad, e, ?_⟩
        rw [hc]
        match j, hj with
        | 0, _ => rw [ha]; rfl
        | 1, _ => rw [hb]; rfl
        | 2, _ => rw [hc']; rfl
        | 3, _ => rw [hd]; rfl
      clear ha hb hc' hd
      have hsz := hbel.size
      have hk5 : 4 * k + 4 ≤ n := by have := HN.out; omega
      obtain ⟨ad, rfl, _⟩ := hcell 0 (by omega)
      have hcell : ∀ j, j < 4 → wr.cell? (ad.add (4 * k + j)) = some (c8 (pick4 a b c' d j)) := by
        intro j hj
        obtain ⟨ad', e, h⟩ := hcell j hj
        cases e; exact h
      have HC := hide hcell
      clear hcell
      obtain ⟨wo, rfl⟩ : ∃ wo : World, wo = wr := ⟨_, rfl⟩
      go_wp2
      go_loop [6, 7] (fun x i => ∃ j : Nat, j ≤ 4 ∧ i = .int .i64 (j : Int) ∧ x = .int .u32 (part4 a b c' d j : Int)) (fun _ i => 4 - (intOf i).toNat)
      case atStart => exact ⟨0, by omega, rfl, rfl⟩
      case round =>
        obtain ⟨j, hj, rfl, rfl⟩ := hrel
        by_cases hj4 : j < 4
        · have hcj := HC.out j hj4
          have bj := (pick4 a b c' d j).isLt
          go_wp2
          go_round
          case rel => exact ⟨j + 1, by omega, by go_num, int_u32 (part4_step a b c' d j hj4)⟩
          case measure => simp [intOf]; omega
        · obtain rfl : j = 4 := by omega
          rw [part4_four]
          go_wp2_with (at_builtin; refine wpList_append_any _ rfl (.tmp 32) (.tmp 34) 28 rfl w.heap.size 22 i0 _ 1 4 Try.underlying28 hi0 hz0 hz1 hz2 rfl (by omega) _ k _ rfl (hown.alloc _) _ _ 1 1 _ rfl (Reads.new _ _ _) (by intro u hu; simp at hu; subst hu; rfl) (by simp only [maxLen]; omega) (by omega) (by simp; omega) ?_)
          intro v' w2 hown' hgrow' _
          have hb2 := below_appended (hbel.alloc hsz _) (by simp; omega) (hown.alloc _) (Nat.le_refl _) hgrow'
          clear hgrow' hown hbel
          go_wp2
          go_roundw
          case rel => exact ⟨k + 1, by omega, by go_num, by rw [HW.out, List.map_append]; exact hown', hb2⟩
          case measure => simp [intOf]; omega
    · obtain rfl : 4 * k = n := by omega
      have hkm : k = m := by have := HN.out; omega
      have HK := hide hkm
      clear hkm
      go_wp2
      go_ret2
      rw [List.take_of_length_le (by have := HL.out; omega), HK.out] at hown
      obtain ⟨A', c', rfl⟩ := own_slice hown
      exact ⟨A', c', rfl, hown, hbel⟩
end Go.Proofs.Ytdikknfdgpdenaa
