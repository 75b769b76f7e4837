/- The walk of word.Add. Condition: at most 2^40 words. -/
import Derived.Test.YtccpkafmbmkmfaaLists
import Derived.Test.YtccpkafmbmkmfaaInfo
namespace Go.Proofs.Ytccpkafmbmkmfaa
open Go.RowKit
set_option linter.unusedVariables false

theorem add_any (A : Option Addr) (n c : Nat) (ws : List (BitVec 32)) (w : World) (hr : Reads w w.heap.size 1 A n (ws.map c32)) (hn : n ≤ 1099511627776) :
    Calls Try.prog 136 #[.slice A n c] w fun e w' => e = .returned (.int .u32 ((sumW ws).toNat : Int)) ∧ w = w' := by
  have hl := hr.len
  have HL := hide hl
  clear hl
  go_enter Try.func136, Try.ntmps136
  go_wp2
  go_loop [3, 8] (fun v i => ∃ k : Nat, k ≤ n ∧ i = .int .i64 k ∧ v = .int .u32 ((sumW (ws.take k)).toNat : Int)) (fun _ i => n - (intOf i).toNat)
  case atStart => exact ⟨0, Nat.zero_le _, rfl, rfl⟩
  case round =>
    obtain ⟨k, hk, rfl, rfl⟩ := hrel
    by_cases hlt : k < n
    · have hkl : k < ws.length := by rw [HL.out]; exact hlt
      obtain ⟨ad, rfl, hab, hcell⟩ := hr.get (k := k) hkl
      go_wp2
      go_round
      case rel => exact ⟨k + 1, by omega, by go_num, int_u32 (sumW_step ws k hkl)⟩
      case measure => simp [intOf]; omega
    · obtain rfl : k = n := by omega
      go_wp2
      go_ret
      rw [List.take_of_length_le (Nat.le_of_eq HL.out)]
      exact ⟨rfl, rfl⟩
end Go.Proofs.Ytccpkafmbmkmfaa
