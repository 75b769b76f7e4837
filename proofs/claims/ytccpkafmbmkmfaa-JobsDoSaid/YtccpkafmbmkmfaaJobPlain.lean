/- Words for the walks of package jobs' laws. No condition. -/
import Derived.Test.YtccpkafmbmkmfaaJobRefsAll
import Derived.Test.YtccpkafmbmkmfaaRelPhase
namespace Go.Proofs.Ytccpkafmbmkmfaa
open Go.RowKit Go.Shelf
set_option linter.unusedVariables false
set_option linter.unusedSimpArgs false

theorem Tab.mono_ {w : World} {S S' : Nat → Prop} {g b : Nat} {M : List (KeyT × EntryK)} (h : Tab w S g b M) (hS : ∀ i, i < w.heap.size → S i → S' i) : Tab w S' g b M := by
  obtain ⟨F, ov, h⟩ := h
  have h' := h.bound
  exact ⟨_, ov, h'.head, h'.ord, h'.map, h'.ents, ⟨hS g h.head.lt h.sg.1, h'.sg.2⟩, ⟨hS b h.map.lt h.sb.1, h'.sb.2⟩, fun r hr => ⟨hS r (own_lt h.ord hr).2 (h.so r hr).1, (h'.so r hr).2⟩, fun p hp => ⟨hS _ (h.ents p hp).blk.lt (h.se p hp).1, (h'.se p hp).2⟩, fun i hi => hS i hi.2 (h.sf i hi.1), h.apart⟩
theorem mput_single (k : KeyT) (x x' : EntryK) : mput [(k, x)] k x' = [(k, x')] := by simp [mput, mget]
theorem mget_single (k : KeyT) (x : EntryK) : mget [(k, x)] k = some x := by simp [mget]
theorem dead_single (k : KeyT) (x : EntryK) : dead [k] [(k, x)] = [(k, deadJ x)] := by simp [dead]
theorem keysP_single (k : KeyT) (x : EntryK) (p : EntryK → Bool) : keysP [(k, x)] p = if p x then [k] else [] := by
  unfold keysP
  by_cases h : p x = true <;> simp [h]
/-- between two calls: the table, a box of the job, a box of an id -/
structure StL (w W : World) (S : Nat → Prop) (g b bx tx : Nat) (R RM : Array Value) (M : List (KeyT × EntryK)) : Prop where
  below : Below w.heap.size w W
  tab : Tab W S g b M
  box : Blk W bx 75 R
  id : Blk W tx 70 RM
  bxS : ¬ S bx
  txS : ¬ S tx
  low : ∀ i, i < w.heap.size → ¬ S i
  up : ∀ i, W.heap.size ≤ i → ¬ S i
section
variable {w W W' : World} {S : Nat → Prop} {g b bx tx : Nat} {R RM : Array Value} {M M' : List (KeyT × EntryK)}
theorem StL.next (h : StL w W S g b bx tx R RM M) (hb : Below W.heap.size W W') : StL w W' S g b bx tx R RM M :=
  ⟨below_next h.below hb, h.tab.below hb, h.box.below hb h.box.lt, h.id.below hb h.id.lt, h.bxS, h.txS, h.low, fun i hi => h.up i (Nat.le_trans hb.size hi)⟩
theorem StL.touch (h : StL w W S g b bx tx R RM M) (hc : Touch S W W') (ht : Tab W' S g b M') : StL w W' S g b bx tx R RM M' :=
  ⟨h.below.trans (hc.below h.below.size h.low), ht, h.box.touch hc h.bxS, h.id.touch hc h.txS, h.bxS, h.txS, h.low, fun i hi => h.up i (Nat.le_trans hc.size hi)⟩
end
/-- a slice of one key, apart from S -/
def KeyR (S : Nat → Prop) (k : KeyT) (u : Value) (W : World) : Prop := ∃ A c, u = .slice A 1 c ∧ ReadsS W (fun i => ¬ S i) 2 A 1 (keyC [k])
def RowN (n : Nat) (u : Value) : Prop := ∃ A c, u = .slice A n c
theorem KeyR.later {S : Nat → Prop} {k : KeyT} : ∀ (v : Value) (w w' : World), Touch S w w' → KeyR S k v w → KeyR S k v w' := by
  rintro v w w' hc ⟨A, c, e, h⟩
  exact ⟨A, c, e, h.keep hc.size fun i hi h => hc.block i hi h⟩
/-- the class of a region whose operation 2 turns the table -/
def PhC (w : World) (S : Nat → Prop) (g b bx tx : Nat) (R RM : Array Value) (M M' : List (KeyT × EntryK)) (L : Nat → Bool) (W : World) : Prop := StL w W S g b bx tx R RM (if L 2 then M' else M)
theorem PhC.more {w : World} {S : Nat → Prop} {g b bx tx : Nat} {R RM : Array Value} {M M' : List (KeyT × EntryK)} {L : Nat → Bool} {W : World} {i : Nat} (h : PhC w S g b bx tx R RM M M' L W) (hi : i ≠ 2) : PhC w S g b bx tx R RM M M' (more L i) W := by
  unfold PhC at h ⊢
  rw [more_ne (Ne.symm hi)]; exact h
theorem bump_ne (b : BitVec 8) (tl : List (BitVec 8)) : (b + 1) :: tl ≠ b :: tl := by
  intro h
  injection h with h _
  have := congrArg BitVec.toNat h
  simp [BitVec.toNat_add] at this
  have := b.isLt
  omega
theorem wrap8 (b : BitVec 8) : IntKind.u8.wrap ((b.toNat : Int) + 1) = ((b + 1).toNat : Int) := by
  have := b.isLt
  rw [show (b + 1).toNat = (b.toNat + 1) % 256 by simp [BitVec.toNat_add]]
  simp [IntKind.wrap, IntKind.signed, IntKind.bits]
theorem jobVal_set {j : JobM} {v : Value} {R : Array Value} (hj : j.breach.length = 32) (hv : v.oneCell' = true) (h : JobVal j v R) (m : BitVec 32) : JobVal { j with mined := m } v (R.setIfInBounds 35 (c32 m)) := by
  obtain ⟨R', h'⟩ := jobVal (j := { j with mined := m }) hj hv
  have : R.setIfInBounds 35 (c32 m) = R' := by
    rw [h.val, h'.val, List.setIfInBounds_toArray]
    congr 1
    unfold jobCells jobHead
    rw [List.append_assoc, List.append_assoc, List.set_append_right _ _ (by simp), List.append_assoc, List.append_assoc, List.set_append_right _ _ (by simp [hj])]
    simp [hj]
  rw [this]; exact h'
theorem evP_live {x : EntryK} {k : Nat} {q m : List (BitVec 8)} (hl : x.job.live = (k : Int)) (hq : (idsOf (plainT x.K))[k]? = some q) : evP m x = decide (q = m) := by
  unfold evP
  rw [hl, show ((k : Int)).toNat = k by simp, hq]
  exact decide_eq_decide.2 ⟨fun e => by injection e.2, fun e => ⟨by omega, by rw [e]⟩⟩
theorem evP_dead {x : EntryK} {m : List (BitVec 8)} (hl : x.job.live = -1) : evP m x = false := by
  unfold evP; exact decide_eq_false fun e => e.1 hl
/-- a place from 0 on, of any number -/
theorem place_of (t : Int) (n : Nat) (hn : 0 < n) (hn8 : n ≤ 8) : ∃ k : Nat, k < n ∧ Int.tmod (IntKind.i64.wrap (Int.tmod t (n : Int) + (n : Int))) (n : Int) = (k : Int) ∧ IntKind.i64.wrap (Int.tmod t (n : Int) + (n : Int)) = Int.tmod t (n : Int) + (n : Int) ∧ Int.tmod (Int.tmod t (n : Int) + (n : Int)) (n : Int) = (k : Int) ∧ Int.tmod t (n : Int) + (n : Int) = (((Int.tmod t (n : Int) + (n : Int)).toNat : Nat) : Int) := by
  have h1 : Int.tmod t (n : Int) < (n : Int) := Int.tmod_lt_of_pos t (by omega)
  have h2 : -(n : Int) < Int.tmod t (n : Int) := by
    have := Int.lt_tmod_of_pos t (show (0 : Int) < n by omega)
    exact this
  have hw : IntKind.i64.wrap (Int.tmod t (n : Int) + (n : Int)) = Int.tmod t (n : Int) + (n : Int) := IntWalk.i64_in _ (by omega)
  obtain ⟨s, hs⟩ : ∃ s : Nat, Int.tmod t (n : Int) + (n : Int) = (s : Int) := ⟨(Int.tmod t (n : Int) + (n : Int)).toNat, by omega⟩
  have hm : Int.tmod (s : Int) (n : Int) = ((s % n : Nat) : Int) := by rw [Int.tmod_eq_emod_of_nonneg (by omega)]; simp
  exact ⟨s % n, Nat.mod_lt _ hn, by rw [hw, hs, hm], hw, by rw [hs, hm], by rw [hs]; simp⟩
end Go.Proofs.Ytccpkafmbmkmfaa
