/- The walk of word.Bytes. Condition: at most 2^40 words. -/
import Derived.Test.YtccpkafmbmkmfaaLists
import Derived.Test.YtccpkafmbmkmfaaInfo
namespace Go.Proofs.Ytccpkafmbmkmfaa
open Go.RowKit
set_option linter.unusedVariables false

set_option maxHeartbeats 400000 in
theorem bytes_any (A : Option Addr) (n c : Nat) (ws : List (BitVec 32)) (w : World) (hr : Reads w w.heap.size 1 A n (ws.map c32)) (hn : n ≤ 1099511627776) :
    Calls Try.prog 133 #[.slice A n c] w fun e w' => ∃ A' c', e = .returned (.slice A' (4 * n) c') ∧ w'.ownsRow w.heap.size 5 1 (.slice A' (4 * n) c') (4 * n) ((bytesOf ws).map c8) ∧ Below w.heap.size w w' := by
  obtain ⟨i0, hi0, hz0, hz1, hz2⟩ := info_parts info_u8
  have hl := hr.len
  have HL := hide hl
  clear hl
  go_enter Try.func133, Try.ntmps133
  go_wp2_with (at_make; refine wpList_make_own _ rfl _ _ 78 rfl w.heap.size 5 i0 _ 1 Try.underlying78 hi0 hz0 hz1 .i64 .i64 _ (4 * n) rfl rfl (by omega) (by rw [hz2]; omega) (by simp only [maxLen]; omega) (Nat.le_refl _) ?_)
  intro w1 hown1 hgrow1
  go_wp2
  go_loopw [3, 12] (fun v i wr => ∃ k : Nat, k ≤ n ∧ i = .int .i64 k ∧ wr.ownsRow w.heap.size 5 1 v (4 * k) ((bytesOf (ws.take k)).map c8) ∧ Below w.heap.size w wr) (fun _ i _ => n - (intOf i).toNat)
  case atStart => exact ⟨0, Nat.zero_le _, rfl, hown1, (Below.refl _ _).grown hgrow1 (Nat.le_refl _) (by simp)⟩
  case round =>
    obtain ⟨k, hk, rfl, hown, hbel⟩ := hrel
    by_cases hlt : k < n
    · obtain ⟨ad, rfl, hab, hcell⟩ := (hr.below hbel).get (k := k) (by rw [HL.out]; exact hlt)
      have hsz := hbel.size
      go_wp2_with (at_builtin; refine wpList_append_any _ rfl (.tmp 16) (.tmp 28) 78 rfl w.heap.size 5 i0 _ 1 1 Try.underlying78 hi0 hz0 hz1 hz2 rfl (by omega) _ (4 * k) _ rfl (hown.alloc _) _ _ 4 4 _ rfl (Reads.new _ _ _) ?_ (by simp only [maxLen]; omega) (by omega) (by simp; omega) ?_)
      · exact ⟨rfl, rfl, rfl, rfl⟩
      · intro v' w2 hown' hgrow' _
        rw [bytes4_cells', bytes_next ws k (by rw [HL.out]; exact hlt)] at hown'
        have hb2 := below_appended (hbel.alloc hsz _) (by simp; omega) (hown.alloc _) (Nat.le_refl _) hgrow'
        clear hgrow' hown hbel
        go_wp2
        go_roundw
        case rel => exact ⟨k + 1, by omega, by go_num, hown', hb2⟩
        case measure => simp [intOf]; omega
    · obtain rfl : k = n := by omega
      go_wp2
      go_ret
      rw [List.take_of_length_le (Nat.le_of_eq HL.out)] at hown
      obtain ⟨A', c', rfl⟩ := own_slice hown
      exact ⟨A', c', rfl, hown, hbel⟩
end Go.Proofs.Ytccpkafmbmkmfaa
