/- The walk of the law MacEqual: whether any bytes are the same. No condition. -/
import Derived.Test.YtdikknfdgpdenaaMacAlive
namespace Go.Proofs.Ytdikknfdgpdenaa
open Go.RowKit
set_option linter.unusedVariables false
set_option linter.unusedSimpArgs false

set_option maxRecDepth 100000 in
theorem macEqual_walk (w : World) (A0 : Option Addr) (n0 c0 : Nat) (bs0 : List (BitVec 8)) (r0 : Reads w w.heap.size 1 A0 n0 (bs0.map c8)) (m0 : n0 ≤ 9223372036854775807) (k0 : n0 ≤ c0) (A1 : Option Addr) (n1 c1 : Nat) (bs1 : List (BitVec 8)) (r1 : Reads w w.heap.size 1 A1 n1 (bs1.map c8)) (m1 : n1 ≤ 9223372036854775807) (k1 : n1 ≤ c1) :
    Calls Try.prog 11 #[.slice A0 n0 c0, .slice A1 n1 c1] w fun e w' => e = .returned (.bool true) ∧ Below w.heap.size w w' := by
  obtain ⟨d, hd⟩ : ∃ d, d = decide (bs0 = bs1) := ⟨_, rfl⟩
  have H1 : Hid (Calls Try.prog 50 #[.slice A0 n0 c0, .slice A1 n1 c1] w fun e w' => e = .returned (.bool d) ∧ Below w.heap.size w w') := hide (by rw [hd]; exact equal_any A0 n0 c0 bs0 A1 n1 c1 bs1 w r0 r1 m0 m1)
  have H2 : Hid (∀ W, Below w.heap.size w W → Calls Try.prog 49 #[.slice A0 n0 c0, .slice A1 n1 c1] W fun e w' => e = .returned (.bool d) ∧ W = w') := hide (fun W hb => by rw [hd]; exact same_any A0 n0 c0 bs0 A1 n1 c1 bs1 W ((r0.below hb).more hb.size) ((r1.below hb).more hb.size))
  have H3 : Hid (∀ W, Below w.heap.size w W → Calls Try.prog 50 #[.slice A0 n0 c0, .slice A0 n0 c0] W fun e w' => e = .returned (.bool true) ∧ Below W.heap.size W w') := hide (fun W hb => by
    have h := equal_any A0 n0 c0 bs0 A0 n0 c0 bs0 W ((r0.below hb).more hb.size) ((r0.below hb).more hb.size) m0 m0
    rw [decide_eq_true rfl] at h; exact h)
  clear hd r0 r1
  go_enter Try.func11, Try.ntmps11
  go_wp2_with (first
    | (go_at_call 50; (with_reducible refine H1.out.mono ?_); rintro e w1 ⟨rfl, hb1⟩; have B1 := hide hb1; clear hb1)
    | (go_at_call 49; (with_reducible refine (H2.out w1 B1.out).mono ?_); rintro e w2 ⟨rfl, rfl⟩)
    | (go_at_call 50; (with_reducible refine (H3.out w1 B1.out).mono ?_); rintro e w3 ⟨rfl, hb3⟩; have B3 := hide (below_next B1.out hb3); clear hb3)
    | (go_at_call 45; (with_reducible refine (alive03_any w3).mono ?_); rintro e w4 ⟨rfl, hb4⟩; have B4 := hide (below_next B3.out hb4); clear hb4))
  go_ret
  exact ⟨rfl, B4.out⟩
end Go.Proofs.Ytdikknfdgpdenaa
