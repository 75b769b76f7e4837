/- Package hints at string keys: Each's function: the iterator's contract. No condition but that arguments fit their kinds. -/
import Derived.RangeFuncNested
import Derived.RangeFuncBound
import Derived.RangeFuncCalls
import Derived.RangeFuncLeaves
import Derived.Shelf.Abstract
import Derived.Shelf.RegionOpen
import Derived.WalkKit
import Derived.OwnWalkIn
import Derived.TacticsInMore
import Derived.LoopNIn
import Derived.LoopIn
import Derived.WalkMore
import Derived.Test.YtccpkafmbmkmfaaHintsFnsStr
namespace Go.Proofs.Ytccpkafmbmkmfaa.hStr
open Go.RowKit Go.Shelf
set_option linter.unusedVariables false
set_option linter.unusedSimpArgs false
attribute [local go_sem] Oper.semAt_some

theorem grown_of_below {w w' : World} (h : Below w.heap.size w w') : w.grownBy w' none := ⟨h.os, h.tape, h.output, h.size, fun i hi _ => h.block i hi⟩
abbrev intRow (x : Int) : Array Value := #[.int .i64 x]
theorem own_cell {w : World} {base c : Nat} {A : Option Addr} {xs : List Int} (h : w.ownsRow base 3 1 (.slice A xs.length c) xs.length (xs.map ci)) {j : Nat} (hj : j < xs.length) : ∃ g, A = some ⟨g, 0, none⟩ ∧ base ≤ g ∧ w.cell? ⟨g, j, none⟩ = some (ci xs[j]) ∧ ∃ cur, w.heap[g]? = some (.cells cur 3 (0, 0)) := by
  obtain ⟨g, cap, hv, hb, hlt⟩ := h.form (by omega)
  injection hv with hv
  subst hv
  have hc := h.cells (g := g) rfl
  have h1 := hc j (ci xs[j]) (by simp [hj])
  rw [Addr.add_lit, Nat.zero_add] at h1
  refine ⟨g, rfl, hb, h1, ?_⟩
  rcases h.2 with ⟨e, _⟩ | ⟨g', cap', cur, e, _, h3, _⟩
  · cases e
  · injection e with e1
    cases e1
    exact ⟨cur, h3⟩
theorem pre_snoc {xs pre : List Int} {k : Nat} (h : pre = xs.take k) (hk : k < xs.length) : pre ++ [xs[k]] = xs.take (k + 1) := by
  rw [h, List.take_succ_eq_append_getElem hk]
set_option maxRecDepth 100000 in
set_option maxHeartbeats 800000 in
theorem each1_stops (n : Nat) (hn : 1 ≤ n) (Bp Bk : Nat) (p : Option Addr) (k : ByteArray) (xs : List Int) (hI : InI xs) (hxl : xs.length ≤ 1099511627776) (Kp : World → World → Prop) (w : World)
    (hKp : ∀ A B, Kp A B → ∀ (i : Nat) cs t fr, w.heap.size ≤ i → A.heap[i]? = some (.cells cs t fr) → B.heap[i]? = A.heap[i]?)
    (lp : Bp < w.heap.size) (lk : Bk < w.heap.size) (cp0 : w.cell? ⟨Bp, 0, none⟩ = some (.pointer p)) (ck0 : w.cell? ⟨Bk, 0, none⟩ = some (fk k)) (hT : Tells (.pointer p) k xs w) :
    SeqStopsK Fence.wide n Try.prog 125 #[.pointer (some ⟨Bp, 0, none⟩), .pointer (some ⟨Bk, 0, none⟩)] intRow Kp
      (fun ys => ys = xs) (fun pre => pre <+: xs) xs.length w := fun l J Jx W hW hJ _ hY h0 => by
  have cp := (hW.cell (p := ⟨Bp, 0, none⟩) lp).trans cp0
  have ck := (hW.cell (p := ⟨Bk, 0, none⟩) lk).trans ck0
  have HA := hide (hT W hW)
  have HW := hide hW.size
  clear cp0 ck0 hW hT
  refine callsIn_of_wp Try.func125 rfl trivial ?_ rfl
  simp only [Try.ntmps125, List.size_toArray, List.length_cons, List.length_nil, Nat.reduceAdd, Nat.reduceSub, Array.replicate_succ, Array.replicate_zero, List.push_toArray, List.append_toArray, List.nil_append, List.cons_append]
  gi_wp2_with (refine ⟨trivial, ?_⟩; gi_at_call 74; refine (callsIn_wide.2 HA.out).mono ?_; rintro e W1 ⟨v1, rfl, hown1, hb1⟩; obtain ⟨A1, c1, rfl⟩ := own_slice hown1; replace hb1 := hide hb1; replace hown1 := hide hown1)
  gi_loopw [10, 5] (fun i y wr => ∃ j : Nat, j ≤ xs.length ∧ i = .int .i64 (j : Int) ∧ Hid (wr.ownsRow W.heap.size 3 1 (.slice A1 xs.length c1) xs.length (xs.map ci)) ∧ ∃ pre, Hid (pre = xs.take j) ∧ J pre wr) (fun i y wr => xs.length - (intOf i).toNat)
  case atStart => exact ⟨0, by omega, rfl, hown1, [], hide rfl, hJ _ _ _ none h0 (grown_of_below hb1.out) (by simp)⟩
  case round =>
    obtain ⟨j, hj, rfl, HO, pre, HP, hJ1⟩ := hrel
    by_cases hlt : j < xs.length
    · obtain ⟨g, e1, hg, hc, cur, hcur⟩ := own_cell HO.out hlt
      subst e1
      have hd : decide ((j : Int) < (xs.length : Int)) = true := by simpa using hlt
      have HC := hide hcur
      have HG := hide hg
      clear hcur hg
      obtain ⟨fn, tmps, assign, body, hy, hR⟩ := hY pre xs[j] wr hJ1 (by rw [HP.out, List.length_take]; omega)
      have HX := hide (pre_snoc HP.out hlt)
      have HPre := hide (show pre ++ [xs[j]] <+: xs by rw [HX.out]; exact List.take_prefix _ _)
      dsimp only [intRow] at hy
      generalize xs[j] = x at *
      gi_wp2
      refine hR.mono ?_
      rintro e W3 (⟨rfl, hJ3, hk3⟩ | ⟨rfl, hJx3⟩)
      · have HO3 := hide (own_block HO.out fun r hr => hKp _ _ hk3 r cur _ _ (by simp [Value.ownBlock] at hr; subst hr; have := HG.out; have := HW.out; omega) (by simp [Value.ownBlock] at hr; subst hr; exact HC.out))
        clear hk3 hR hy hY
        gi_wp2
        go_roundw
        case rel => exact ⟨j + 1, by omega, by go_num, HO3, _, HX, hJ3⟩
        case measure => simp [intOf]; omega
      · gi_wp2
        refine bodyPost_ret (results_none rfl _ _ _) rfl ?_
        exact ⟨⟨_, rfl⟩, .inr ⟨_, HPre.out, hJx3⟩⟩
    · obtain rfl : j = xs.length := by omega
      gi_wp2
      go_end0
      exact ⟨⟨_, rfl⟩, .inl ⟨pre, by rw [HP.out, List.take_length], hJ1⟩⟩
end Go.Proofs.Ytccpkafmbmkmfaa.hStr
