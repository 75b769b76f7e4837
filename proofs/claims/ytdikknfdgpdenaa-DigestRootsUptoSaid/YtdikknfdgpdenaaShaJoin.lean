/- Chapter 02's reference: parts joined, and counted. Condition: of at most 2^40 bytes in all. -/
import Derived.Test.YtdikknfdgpdenaaShaSum
namespace Go.Proofs.Ytdikknfdgpdenaa
open Go.RowKit
set_option linter.unusedVariables false
set_option linter.unusedSimpArgs false

set_option maxRecDepth 100000 in
theorem few_any (A : Option Addr) (n c : Nat) (vs : List Value) (ps : List (List (BitVec 8))) (most : Int) (w : World) (hr : Reads w w.heap.size 1 A n vs) (hrs : Rows8 w w.heap.size vs ps) (hb : ps.length + ps.flatten.length ≤ 1099511627776) :
    Calls Try.prog 31 #[.slice A n c, .int .i64 most] w fun e w' => e = .returned (.bool (decide (((ps.length + ps.flatten.length : Nat) : Int) ≤ most))) ∧ w = w' := by
  have hvl : vs.length = n := by have := hr.1; omega
  have hpl : ps.length = n := by have := hrs.1; omega
  have HR := hide hr
  have HRS := hide hrs
  have HP := hide hpl
  have hn : n ≤ 1099511627776 := by omega
  have HB := hide hb
  clear hr hrs hvl hpl hb
  go_enter Try.func31, Try.ntmps31
  go_wp2
  go_loop [5, 6] (fun x i => ∃ k : Nat, k ≤ n ∧ i = .int .i64 (k : Int) ∧ x = .int .i64 ((n + (ps.take k).flatten.length : Nat) : Int)) (fun _ i => n - (intOf i).toNat)
  case atStart => exact ⟨0, by omega, rfl, by simp⟩
  case round =>
    obtain ⟨k, hk, rfl, rfl⟩ := hrel
    by_cases hlt : k < n
    · have hd : decide ((k : Int) < (n : Int)) = true := by simp; omega
      have hkp : k < ps.length := by rw [HP.out]; exact hlt
      obtain ⟨bA, oA, rfl, hbA⟩ := HR.out.addr' (by omega)
      obtain ⟨Ak, m, ck, hcell, hrk, hmk⟩ := rows_at HR.out HRS.out hkp
      have hlen := flatten_take_len ps k hkp
      have hml : ps[k].length = m := hrk.len
      have HN : Hid (n + (ps.take (k + 1)).flatten.length = n + (ps.take k).flatten.length + m) := hide (by rw [flatten_take ps k hkp, List.length_append, hml]; omega)
      have hk0 : (0 : Int) ≤ (k : Int) := by omega
      have hk1 : (k : Int) < (n : Int) := by omega
      have hx : n + (ps.take k).flatten.length + m ≤ 1099511627776 := by have := HB.out; have := HP.out; omega
      generalize n + (ps.take k).flatten.length = q at *
      clear hlen hml hrk hkp
      go_wp2
      go_round
      case rel => exact ⟨k + 1, hlt, int_succ k, by rw [HN.out, Int.natCast_add]⟩
      case measure => simp [intOf]; omega
    · obtain rfl : k = n := by omega
      have hd : decide ((k : Int) < (k : Int)) = false := by simp
      have HF : Hid (k + (ps.take k).flatten.length = ps.length + ps.flatten.length) := hide (by rw [List.take_of_length_le (Nat.le_of_eq HP.out), HP.out])
      rw [HF.out]
      go_wp2
      go_ret
      exact ⟨rfl, rfl⟩
set_option maxRecDepth 100000 in
set_option maxHeartbeats 400000 in
theorem join_any (A : Option Addr) (n c : Nat) (vs : List Value) (ps : List (List (BitVec 8))) (w : World) (hr : Reads w w.heap.size 1 A n vs) (hrs : Rows8 w w.heap.size vs ps) (hn : n ≤ 1099511627776) (hb : ps.flatten.length ≤ 1099511627776) :
    Calls Try.prog 37 #[.slice A n c] w fun e w' => ∃ A' m c', e = .returned (.slice A' m c') ∧ w'.ownsRow w.heap.size 5 1 (.slice A' m c') m (ps.flatten.map c8) ∧ Below w.heap.size w w' := by
  obtain ⟨i0, hi0, hz0, hz1, hz2⟩ := info_parts info_u8
  have hvl : vs.length = n := by have := hr.1; omega
  have hpl : ps.length = n := by have := hrs.1; omega
  have HR := hide hr
  have HRS := hide hrs
  have HP := hide hpl
  have HB := hide hb
  clear hr hrs hvl hpl hb
  go_enter Try.func37, Try.ntmps37
  go_wp2
  go_loopw [3, 4] (fun v i wr => ∃ (k : Nat) (q : Nat), k ≤ n ∧ i = .int .i64 (k : Int) ∧ q = (ps.take k).flatten.length ∧ Hid (wr.ownsRow w.heap.size 5 1 v q ((ps.take k).flatten.map c8)) ∧ Hid (Below w.heap.size w wr)) (fun _ i _ => n - (intOf i).toNat)
  case atStart => exact ⟨0, 0, by omega, rfl, rfl, hide (World.ownsRow_nil _ _ _ _), hide (Below.refl _ _)⟩
  case round =>
    obtain ⟨k, q, hk, rfl, hq, ho, hB⟩ := hrel
    obtain ⟨A3, c3, rfl⟩ := own_slice ho.out
    by_cases hlt : k < n
    · have hd : decide ((k : Int) < (n : Int)) = true := by simp; omega
      have hkp : k < ps.length := by rw [HP.out]; exact hlt
      have hRw := HR.out.below hB.out
      obtain ⟨bA, oA, rfl, hbA⟩ := hRw.addr' (by omega)
      obtain ⟨Ak, m, ck, hcell, hrk, hmk⟩ := rows_at hRw (HRS.out.below hB.out) hkp
      have hgrow := hB.out.size
      have HRK := hide (hrk.more hgrow)
      have hlen := flatten_take_len ps k hkp
      have hml : ps[k].length = m := hrk.len
      have HN := hide (flatten_take ps k hkp)
      have HQ : Hid (q + m = (ps.take (k + 1)).flatten.length) := hide (by rw [flatten_take ps k hkp, List.length_append, hml, hq])
      have hx : q + m ≤ 1099511627776 := by have := HB.out; omega
      have hk0 : (0 : Int) ≤ (k : Int) := by omega
      have hk1 : (k : Int) < (n : Int) := by omega
      generalize hPk : ps[k] = P at *
      clear hlen hml hrk hRw hkp hPk hq
      go_wp2_with (at_builtin; refine wpList_append_any _ rfl (.tmp 11) (.tmp 15) 29 rfl w.heap.size 5 i0 _ 1 1 Try.underlying29 hi0 hz0 hz1 hz2 rfl (by omega) _ q _ rfl ho.out _ Ak m ck _ rfl HRK.out (oneCell_c8 _) (by simp only [maxLen]; omega) (by omega) hgrow ?_; intro v5 W5 own5 grow5 _; have b5 := below_appended hB.out hgrow ho.out (Nat.le_refl _) grow5; rw [← List.map_append, ← HN.out] at own5; replace own5 := hide own5; replace b5 := hide b5; clear grow5)
      go_roundw
      case rel => exact ⟨k + 1, q + m, hlt, int_succ k, HQ.out, own5, b5⟩
      case measure => simp [intOf]; omega
    · obtain rfl : k = n := by omega
      have hd : decide ((k : Int) < (k : Int)) = false := by simp
      have HF : Hid ((ps.take k).flatten = ps.flatten) := hide (by rw [List.take_of_length_le (Nat.le_of_eq HP.out)])
      rw [HF.out] at ho
      go_wp2
      go_ret
      exact ⟨A3, q, c3, rfl, ho.out, hB.out⟩
end Go.Proofs.Ytdikknfdgpdenaa
