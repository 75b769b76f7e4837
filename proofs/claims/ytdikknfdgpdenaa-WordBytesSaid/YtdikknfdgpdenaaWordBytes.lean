/- The walks of word.Bytes and of its reference. Condition: at most 2^40 words. -/
import Derived.Test.YtdikknfdgpdenaaLists
import Derived.Test.YtdikknfdgpdenaaWordRefs
namespace Go.Proofs.Ytdikknfdgpdenaa
open Go.RowKit
set_option linter.unusedVariables false

theorem info_u8 : (Try.prog.info? 5).map (fun i => (i.zero, i.size, i.bytes)) = some (some (.int .u8 0), 1, 1) := by kernel_rfl
theorem info_u32 : (Try.prog.info? 22).map (fun i => (i.zero, i.size, i.bytes)) = some (some (.int .u32 0), 1, 4) := by kernel_rfl

set_option maxHeartbeats 400000 in
theorem bytes_any (A : Option Addr) (n c : Nat) (ws : List (BitVec 32)) (w : World) (hr : Reads w w.heap.size 1 A n (ws.map c32)) (hn : n ≤ 1099511627776) :
    Calls Try.prog 24 #[.slice A n c] w fun e w' => ∃ A' c', e = .returned (.slice A' (4 * n) c') ∧ w'.ownsRow w.heap.size 5 1 (.slice A' (4 * n) c') (4 * n) ((bytesOf ws).map c8) ∧ Below w.heap.size w w' := by
  obtain ⟨i0, hi0, hz0, hz1, hz2⟩ := info_parts info_u8
  have hl := hr.len
  have HL := hide hl
  clear hl
  go_enter Try.func24, Try.ntmps24
  go_wp2_with (at_make; refine wpList_make_own _ rfl _ _ 29 rfl w.heap.size 5 i0 _ 1 Try.underlying29 hi0 hz0 hz1 .i64 .i64 _ (4 * n) rfl rfl (by omega) (by rw [hz2]; omega) (by simp only [maxLen]; omega) (Nat.le_refl _) ?_)
  intro w1 hown1 hgrow1
  go_wp2
  go_loopw [3, 12] (fun v i wr => ∃ k : Nat, k ≤ n ∧ i = .int .i64 k ∧ wr.ownsRow w.heap.size 5 1 v (4 * k) ((bytesOf (ws.take k)).map c8) ∧ Below w.heap.size w wr) (fun _ i _ => n - (intOf i).toNat)
  case atStart => exact ⟨0, Nat.zero_le _, rfl, hown1, (Below.refl _ _).grown hgrow1 (Nat.le_refl _) (by simp)⟩
  case round =>
    obtain ⟨k, hk, rfl, hown, hbel⟩ := hrel
    by_cases hlt : k < n
    · obtain ⟨ad, rfl, hab, hcell⟩ := (hr.below hbel).get (k := k) (by rw [HL.out]; exact hlt)
      have hsz := hbel.size
      go_wp2_with (at_builtin; refine wpList_append_any _ rfl (.tmp 16) (.tmp 28) 29 rfl w.heap.size 5 i0 _ 1 1 Try.underlying29 hi0 hz0 hz1 hz2 rfl (by omega) _ (4 * k) _ rfl (hown.alloc _) _ _ 4 4 _ rfl (Reads.new _ _ _) ?_ (by simp only [maxLen]; omega) (by omega) (by simp; omega) ?_)
      · exact ⟨rfl, rfl, rfl, rfl⟩
      · intro v' w2 hown' hgrow' _
        rw [bytes4_cells', bytes_next ws k (by rw [HL.out]; exact hlt)] at hown'
        have hb2 := below_appended (hbel.alloc hsz _) (by simp; omega) (hown.alloc _) (Nat.le_refl _) hgrow'
        clear hgrow' hown hbel
        go_wp2
        go_roundw
        case rel => exact ⟨k + 1, by omega, by go_num, hown', hb2⟩
        case measure => simp [intOf]; omega
    · obtain rfl : k = n := by omega
      go_wp2
      go_ret
      rw [List.take_of_length_le (Nat.le_of_eq HL.out)] at hown
      obtain ⟨A', c', rfl⟩ := own_slice hown
      exact ⟨A', c', rfl, hown, hbel⟩

theorem alive01_left (w : World) : Calls Try.prog 19 #[.int .u32 1, .int .i64 33] w fun e w' => e = .returned (.int .u32 2) ∧ w = w' := by
  have h := left_any 1#32 33 w
  have e : rotl 1#32 (turnN 33) = 2#32 := by decide
  rw [e] at h
  exact h
theorem alive01_choose (w : World) : Calls Try.prog 15 #[.int .u32 1, .int .u32 1, .int .u32 0] w fun e w' => e = .returned (.int .u32 1) ∧ w = w' := by
  have h := choose_any 1#32 1#32 0#32 w
  have e : choose 1#32 1#32 0#32 = 1#32 := by decide
  rw [e] at h
  exact h
theorem alive01_bytes (W : World) : Calls Try.prog 24 #[.slice (some ⟨W.heap.size, 0, none⟩) 1 1] (W.alloc (.cells #[.int .u32 258] 22)) fun e w' => ∃ A' c', e = .returned (.slice A' 4 c') ∧
    Sem.run Try.prog (convert 29 9 (.slice A' 4 c')) w' = .ok (.string ⟨#[0, 0, 1, 2]⟩) w' ∧ Below W.heap.size W w' := by
  have h : Reads (W.alloc (.cells #[.int .u32 258] 22)) (W.heap.size + 1) 1 (some ⟨W.heap.size, 0, none⟩) 1 ([258#32].map c32) := Reads.new W 22 #[.int .u32 258]
  refine (bytes_any _ 1 1 [258#32] _ (h.more (by simp)) (by omega)).mono fun e w' ⟨A', c', he, hown, hb⟩ => ⟨A', c', he, ?_, ?_⟩
  · have := run_str (P := Try.prog) w' 29 9 5 Try.underlying29 Try.underlying5 Try.underlying9 _ A' 4 c' _ (Reads.of_own hown)
    have e : strOf (bytesOf [258#32]) = ⟨#[0, 0, 1, 2]⟩ := by decide
    rw [e] at this
    exact this
  · exact ((Below.refl _ _).alloc (Nat.le_refl _) _).trans (hb.mono (by simp))
theorem alive01_any (w : World) : Calls Try.prog 20 #[] w fun e w' => e = .returned (.bool true) ∧ Below w.heap.size w w' := by
  go_enter Try.func20, Try.ntmps20
  go_wp2_with (first
    | (go_at_call 19; refine (alive01_left _).mono ?_; rintro e w' ⟨rfl, rfl⟩)
    | (go_at_call 15; refine (alive01_choose _).mono ?_; rintro e w' ⟨rfl, rfl⟩)
    | (go_at_call 24; refine (alive01_bytes _).mono ?_; rintro e w' ⟨A', c', rfl, hcv, hb⟩))
  go_ret
  exact ⟨rfl, hb⟩
end Go.Proofs.Ytdikknfdgpdenaa
