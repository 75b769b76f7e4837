/- Package box's All: the iterator's contract. No condition. -/
import Derived.RangeFuncNested
import Derived.RangeFuncBound
import Derived.RangeFuncCalls
import Derived.RangeFuncLeaves
import Derived.Shelf.Abstract
import Derived.Shelf.RegionOpen
import Derived.WalkKit
import Derived.OwnWalkIn
import Derived.TacticsInMore
import Derived.LoopNIn
import Derived.LoopIn
import Derived.WalkMore
import Derived.Test.YtdeljodfanfbmaaBoxRefs
import Derived.Test.YtdeljodfanfbmaaArr
import Derived.Test.YtdeljodfanfbmaaInfo
namespace Go.Proofs.Ytdeljodfanfbmaa
open Go.RowKit Go.Shelf
set_option linter.unusedVariables false
attribute [local go_sem] Oper.semAt_some

theorem all_any (p : Option Addr) (w : World) :
    Calls Try.prog 33 #[.pointer p] w fun e w' =>
      e = .returned (.func (.func 57) #[] #[.pointer (some ⟨w.heap.size, 0, none⟩)]) ∧ w' = w.alloc (.cells #[.pointer p] 31) := by
  go_enter Try.func33, Try.ntmps33
  go_wp2
  go_ret
  exact ⟨rfl, rfl⟩
abbrev Byte := { k : Nat // k < 256 }
def InBytes (xs : List Byte) : Prop := xs.map (·.1) = List.range xs.length
theorem inBytes_nil : InBytes [] := rfl
theorem inBytes_snoc {pre : List Byte} {x : Byte} (h : InBytes pre) (hx : x.1 = pre.length) : InBytes (pre ++ [x]) := by
  unfold InBytes at h ⊢
  simp [h, hx, List.range_succ]
/-- the table's part that is substituted to -/
def toRow (T : Nat → Nat) : List Value := (List.range 256).map fun i => .int .u8 (T i : Int)
theorem toRow_get (T : Nat → Nat) (k : Nat) (h : k < 256) : (toRow T).toArray[k]? = some (.int .u8 (T k : Int)) := by
  unfold toRow; simp [h]
theorem toRow_len (T : Nat → Nat) : (toRow T).length = 256 := by simp [toRow]
def byteRow (T : Nat → Nat) (x : Byte) : Array Value := #[.int .u8 (x.1 : Int), .int .u8 (T x.1 : Int)]
theorem info_arr : (Try.prog.info? 41).map (·.size) = some 256 := by kernel_rfl

set_option maxRecDepth 100000 in
set_option maxHeartbeats 800000 in
theorem all_stops (n : Nat) (hn : 1 ≤ n) (T : Nat → Nat) (Bb g : Nat) (Kp : World → World → Prop) (w : World) (lb : Bb < w.heap.size) (lg : g < w.heap.size)
    (cb0 : w.cell? ⟨Bb, 0, none⟩ = some (.pointer (some ⟨g, 0, none⟩))) (cm0 : w.cell? ⟨g, 0, none⟩ = some (.bool true)) (ct0 : ∀ i, i < 256 → w.cell? ⟨g, 1 + i, none⟩ = some (.int .u8 (T i : Int))) :
    SeqStopsK Fence.wide n Try.prog 57 #[.pointer (some ⟨Bb, 0, none⟩)] (byteRow T) Kp
      (fun xs => InBytes xs ∧ xs.length = 256) InBytes 256 w := fun l J Jx W hW _ _ hY h0 => by
  have cb := (hW.cell (p := ⟨Bb, 0, none⟩) lb).trans cb0
  have cm := (hW.cell (p := ⟨g, 0, none⟩) lg).trans cm0
  have CT : Hid (∀ j v, (toRow T)[j]? = some v → W.cell? ((⟨g, 1, none⟩ : Addr).add j) = some v) := hide fun j v hv => by
    have hj : j < 256 := by have := (List.getElem?_eq_some_iff.1 hv).1; rwa [toRow_len] at this
    have e : ((⟨g, 1, none⟩ : Addr).add j) = ⟨g, 1 + j, none⟩ := by rw [Addr.add_lit]
    rw [e, hW.cell (p := ⟨g, 1 + j, none⟩) lg, ct0 j hj]
    unfold toRow at hv
    simp [hj] at hv
    rw [← hv]
  clear cb0 cm0 ct0 hW
  have HI : Hid (∀ (k : Nat) (w : World), k < 256 → (Instr.index 41 (.agg (toRow T).toArray) (.int .i64 (k : Int))).run Try.prog w = .ok (.int .u8 (T k : Int)) w) := hide fun k w hk => by
    obtain ⟨i0, hi, _, hz1, _⟩ := info_parts info_u8
    exact run_index_agg w _ _ 256 k _ _ i0 .u8 Try.underlying41 hi hz1 Try.underlying5 hk (toRow_get T k hk)
  have HL : Hid ((Try.prog.info? 41).map (·.size) = some (toRow T).length) := hide (by rw [toRow_len]; exact info_arr)
  refine callsIn_of_wp Try.func57 rfl trivial ?_ rfl
  simp only [Try.ntmps57, List.size_toArray, List.length_cons, List.length_nil, Nat.reduceAdd, Nat.reduceSub, Array.replicate_succ, Array.replicate_zero, List.push_toArray, List.append_toArray, List.nil_append, List.cons_append]
  gi_wp2_with (refine wpListIn_load_at rfl 41 _ rfl ⟨g, 1, none⟩ rfl (toRow T) _ Try.underlying41 rfl HL.out CT.out ?_)
  gi_loopw [18] (fun i wr => ∃ k : Nat, k ≤ 256 ∧ i = .int .i64 (k : Int) ∧ ∃ pre : List Byte, Hid (pre.length = k ∧ InBytes pre) ∧ J pre wr) (fun i wr => 256 - (intOf i).toNat)
  case atStart => exact ⟨0, by omega, rfl, [], hide ⟨rfl, inBytes_nil⟩, h0⟩
  case round =>
    obtain ⟨k, hk, rfl, pre, HP, hJ1⟩ := hrel
    by_cases hlt : k < 256
    · have hidx := fun w => HI.out k w hlt
      have E8 := hide (show (k : Int) % 256 = (k : Int) by omega)
      obtain ⟨x, hx⟩ : ∃ x : Byte, x.1 = k := ⟨⟨k, hlt⟩, rfl⟩
      obtain ⟨fn, tmps, assign, body, hy, hR⟩ := hY pre x wr hJ1 (by rw [HP.out.1]; omega)
      dsimp only [byteRow] at hy
      rw [hx] at hy
      have HX := hide hx
      clear hx
      gi_wp2
      refine hR.mono ?_
      rintro e W3 (⟨rfl, hJ3, hk3⟩ | ⟨rfl, hJx3⟩)
      · clear hk3 hR hy hY
        gi_wp2
        go_roundw
        case rel => exact ⟨k + 1, by omega, by go_num, pre ++ [x], hide ⟨by simp [HP.out.1], inBytes_snoc HP.out.2 (HX.out.trans HP.out.1.symm)⟩, hJ3⟩
        case measure => simp [intOf]; omega
      · gi_wp2
        refine bodyPost_ret (results_none rfl _ _ _) rfl ?_
        exact ⟨⟨_, rfl⟩, .inr ⟨_, inBytes_snoc HP.out.2 (HX.out.trans HP.out.1.symm), hJx3⟩⟩
    · obtain rfl : k = 256 := by omega
      gi_wp2
      go_end0
      exact ⟨⟨_, rfl⟩, .inl ⟨pre, ⟨HP.out.2, HP.out.1⟩, hJ1⟩⟩
/-- a nil box, and one that no call made: nothing is gone through -/
theorem all_none (n : Nat) (hn : 1 ≤ n) (Bb : Nat) (Kp : World → World → Prop) (enc : Byte → Array Value) (w : World) (lb : Bb < w.heap.size) (cb0 : w.cell? ⟨Bb, 0, none⟩ = some (.pointer none)) :
    SeqStopsK Fence.wide n Try.prog 57 #[.pointer (some ⟨Bb, 0, none⟩)] enc Kp (fun xs => xs = []) (fun _ => False) 0 w := fun l J Jx W hW _ _ hY h0 => by
  have cb := (hW.cell (p := ⟨Bb, 0, none⟩) lb).trans cb0
  clear cb0 hW
  refine callsIn_of_wp Try.func57 rfl trivial ?_ rfl
  simp only [Try.ntmps57, List.size_toArray, List.length_cons, List.length_nil, Nat.reduceAdd, Nat.reduceSub, Array.replicate_succ, Array.replicate_zero, List.push_toArray, List.append_toArray, List.nil_append, List.cons_append]
  gi_wp2
  refine bodyPost_ret (results_none rfl _ _ _) rfl ?_
  exact ⟨⟨_, rfl⟩, .inl ⟨[], rfl, h0⟩⟩
theorem all_blank (n : Nat) (hn : 1 ≤ n) (Bb g : Nat) (Kp : World → World → Prop) (enc : Byte → Array Value) (w : World) (lb : Bb < w.heap.size) (lg : g < w.heap.size)
    (cb0 : w.cell? ⟨Bb, 0, none⟩ = some (.pointer (some ⟨g, 0, none⟩))) (cm0 : w.cell? ⟨g, 0, none⟩ = some (.bool false)) :
    SeqStopsK Fence.wide n Try.prog 57 #[.pointer (some ⟨Bb, 0, none⟩)] enc Kp (fun xs => xs = []) (fun _ => False) 0 w := fun l J Jx W hW _ _ hY h0 => by
  have cb := (hW.cell (p := ⟨Bb, 0, none⟩) lb).trans cb0
  have cm := (hW.cell (p := ⟨g, 0, none⟩) lg).trans cm0
  clear cb0 cm0 hW
  refine callsIn_of_wp Try.func57 rfl trivial ?_ rfl
  simp only [Try.ntmps57, List.size_toArray, List.length_cons, List.length_nil, Nat.reduceAdd, Nat.reduceSub, Array.replicate_succ, Array.replicate_zero, List.push_toArray, List.append_toArray, List.nil_append, List.cons_append]
  gi_wp2
  refine bodyPost_ret (results_none rfl _ _ _) rfl ?_
  exact ⟨⟨_, rfl⟩, .inl ⟨[], rfl, h0⟩⟩
end Go.Proofs.Ytdeljodfanfbmaa
