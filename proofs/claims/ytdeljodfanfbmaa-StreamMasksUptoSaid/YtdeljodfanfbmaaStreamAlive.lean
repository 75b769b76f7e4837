/- Chapter 07's law: alive, the document's example. No condition. -/
import Derived.Test.YtdeljodfanfbmaaStreamAll
import Derived.Test.YtdeljodfanfbmaaCipherAlive
namespace Go.Proofs.Ytdeljodfanfbmaa
open Go.RowKit Go.Shelf
set_option linter.unusedVariables false
set_option linter.unusedSimpArgs false

theorem mask07 : maskL (keysOf sub8 key07) 0#64 [0#8, 0#8] = [220#8, 149#8] := by
  have h := stream07
  have e : fromL (keysOf sub8 key07) 0#64 2 = [streamAt (keysOf sub8 key07) 0, streamAt (keysOf sub8 key07) 1] := rfl
  rw [maskL, show [0#8, 0#8].length = 2 from rfl, e, h.1, h.2]; rfl
theorem below_stream {gs : Nat} {a w w' : World} (h : Below a.heap.size a w) (hg : w.grownBy w' (some gs)) (hb : a.heap.size ≤ gs) : Below a.heap.size a w' := h.grown hg h.size (fun q e => by cases e; exact hb)
set_option maxRecDepth 100000 in
set_option maxHeartbeats 3200000 in
theorem alive07_any (w : World) : Calls Try.prog 44 #[] w fun e w' => e = .returned (.bool true) ∧ Below w.heap.size w w' := by
  obtain ⟨C0, hC0⟩ : ∃ C0, C0 = (List.replicate 32 (c8 0)).toArray := ⟨_, rfl⟩
  have hmk : ∀ w, (Instr.makeSlice 51 (.int .i64 32) (.int .i64 32)).run Try.prog w = .ok (.slice (some ⟨w.heap.size, 0, none⟩) 32 32) (w.alloc (.cells C0 5)) := fun w => by rw [hC0]; exact made8 32 (by omega) w
  have hk07 : C0 = (key07.map c8).toArray := by rw [hC0]; rfl
  have HR : Hid (Reads (w.alloc (.cells C0 5)) (w.alloc (.cells C0 5)).heap.size 1 (some ⟨w.heap.size, 0, none⟩) 32 (key07.map c8)) := hide (by
    have h := Blk.new w 5 C0
    exact ⟨rfl, fun _ => ⟨_, rfl, h.lt, fun j v hv => by rw [Addr.add_lit, Nat.zero_add, h.cell, hk07, List.getElem?_toArray]; exact hv⟩⟩)
  have BA := hide ((Below.refl w.heap.size w).alloc (Nat.le_refl _) (.cells C0 5))
  obtain ⟨ks, hks⟩ : ∃ ks, ks = keysOf sub8 key07 := ⟨_, rfl⟩
  have HN : Hid (Calls Try.prog 45 #[.slice (some ⟨w.heap.size, 0, none⟩) 32 32] (w.alloc (.cells C0 5)) fun e w' => ∃ g, e = .returned (.tuple #[.pointer (some ⟨g, 0, none⟩), .int .i64 0]) ∧ w.heap.size ≤ g ∧ StreamIs w' g ks 0#64 ∧ Below w.heap.size w w') := hide (by
    refine (newstream_any _ 32 key07 _ HR.out (by omega)).mono ?_
    rintro e w' ⟨g, rfl, hg, hs, hb⟩
    exact ⟨g, rfl, Nat.le_trans BA.out.size hg, by rw [hks]; exact hs, BA.out.trans (hb.mono BA.out.size)⟩)
  have HA0 : Hid (∀ g W, StreamIs W g ks 0#64 → Calls Try.prog 51 #[.pointer (some ⟨g, 0, none⟩), .int .u64 0] W fun e w' => e = .returned (.int .u8 220) ∧ StreamIs w' g ks 0#64 ∧ W.grownBy w' (some g)) := hide fun g W h => by
    have h2 := at_any g ks 0#64 0#64 W h
    rw [show ((0#64 : BitVec 64).toNat : Int) = 0 from rfl, show (0#64 : BitVec 64).toNat = 0 from rfl, hks, stream07.1] at h2
    rw [hks]; exact h2
  have HA1 : Hid (∀ g W, StreamIs W g ks 0#64 → Calls Try.prog 51 #[.pointer (some ⟨g, 0, none⟩), .int .u64 1] W fun e w' => e = .returned (.int .u8 149) ∧ StreamIs w' g ks 0#64 ∧ W.grownBy w' (some g)) := hide fun g W h => by
    have h2 := at_any g ks 0#64 1#64 W h
    rw [show ((1#64 : BitVec 64).toNat : Int) = 1 from rfl, show (1#64 : BitVec 64).toNat = 1 from rfl, hks, stream07.2] at h2
    rw [hks]; exact h2
  have HMk : Hid (∀ g W, StreamIs W g ks 0#64 → Calls Try.prog 49 #[.pointer (some ⟨g, 0, none⟩), .slice (some ⟨W.heap.size, 0, none⟩) 2 2] (W.alloc (.cells #[.int .u8 0, .int .u8 0] 5)) fun e w' => ∃ A' c', e = .returned (.slice A' 2 c') ∧ Sem.run Try.prog (convert 51 9 (.slice A' 2 c')) w' = .ok (.string ⟨#[220, 149]⟩) w' ∧ StreamIs w' g ks 2#64 ∧ W.grownBy w' (some g)) := hide fun g W h => by
    have hb := (Below.refl W.heap.size W).alloc (Nat.le_refl _) (.cells #[.int .u8 0, .int .u8 0] 5)
    have hr := (Reads.new W 5 #[.int .u8 0, .int .u8 0]).more (show W.heap.size + 1 ≤ (W.alloc (.cells #[.int .u8 0, .int .u8 0] 5)).heap.size by simp)
    refine (mask_any g ks 0#64 _ 2 2 [0#8, 0#8] _ (h.below hb) hr (by omega)).mono ?_
    rintro e w' ⟨A', c', rfl, own, hs, hg⟩
    rw [hks, mask07] at own
    exact ⟨A', c', rfl, run_str w' _ _ _ Try.underlying51 Try.underlying5 Try.underlying9 _ _ _ c' _ (Reads.of_own own), hs, gb_trans (gb_of hb _) hg⟩
  have HPl : Hid (∀ g W, StreamIs W g ks 2#64 → Calls Try.prog 46 #[.pointer (some ⟨g, 0, none⟩)] W fun e w' => e = .returned (.int .u64 2) ∧ W = w') := hide fun g W h => place_any g ks 2#64 W h
  replace hC0 := hide hC0
  clear hk07 hks HR BA
  go_enter Try.func44, Try.ntmps44
  go_wp2_with (first
    | (go_at_call 45; (with_reducible refine HN.out.mono ?_); rintro e w1 ⟨g, rfl, hg, hs1, hb1⟩; have S1 := hide hs1; have B1 := hide hb1; clear hs1 hb1)
    | (go_at_call 51; (with_reducible refine (HA0.out g w1 S1.out).mono ?_); rintro e w2 ⟨rfl, hs2, hg2⟩; have S2 := hide hs2; have B2 := hide (below_stream B1.out hg2 hg); clear hs2 hg2)
    | (go_at_call 51; (with_reducible refine (HA1.out g w2 S2.out).mono ?_); rintro e w3 ⟨rfl, hs3, hg3⟩; have S3 := hide hs3; have B3 := hide (below_stream B2.out hg3 hg); clear hs3 hg3)
    | (go_at_call 49; (with_reducible refine (HMk.out g w3 S3.out).mono ?_); rintro e w4 ⟨A4, c4, rfl, hstr, hs4, hg4⟩; have S4 := hide hs4; have B4 := hide (below_stream B3.out hg4 hg); clear hs4 hg4)
    | (go_at_call 46; (with_reducible refine (HPl.out g w4 S4.out).mono ?_); rintro e w5 ⟨rfl, rfl⟩))
  go_ret
  exact ⟨rfl, B4.out⟩
end Go.Proofs.Ytdeljodfanfbmaa
