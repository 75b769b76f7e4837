/- Chapter 44, plain: rows of hashes, roots, proofs. No condition. How an argument that is a slice of rows of 32 bytes is opened. No condition. Package digest's item and pair, and chapter 44's reference of them. Condition: of at most 1099511620000 bytes. Package digest's Check, and chapter 44's reference of it. Condition: at most 2^40 items, at most 1000 bytes of an item. Chapter 44's reference: Check. Condition: at most 2^40 items, at most 1000 bytes of an item. Rows of ids of a call's own: built of one, appended to, read. No condition. Package digest's mapped over item, and chapter 44's hashes. Condition: at most 2^40 items, of at most 2^40 bytes each. Package digest's row above a row. Condition: at most 2^40 ids. Chapter 44's row above a row. Condition: at most 2^40 ids. Chapter 44, plain: the top of a row, the proof of a place, and that it leads there. No condition. Package digest's Root, and chapter 44's. Condition: at most 2^40 items and bytes. Package digest's Prove, and chapter 44's. Condition: at most 2^40 items and bytes. -/
import Derived.Test.YtdikknfdgpdenaaSha
import Derived.Test.YtdikknfdgpdenaaOpenArr
import Derived.Deep.Slices
import Derived.Test.YtdikknfdgpdenaaMacOf
import Derived.Test.YtdikknfdgpdenaaShaAlive
import Derived.Test.YtdikknfdgpdenaaMacRef
import Derived.Great.BuildSlice
import Derived.Great.CaseRows
namespace Go.Proofs.Ytdikknfdgpdenaa
open Go.RowKit
set_option linter.unusedVariables false

def itemD (b : List (BitVec 8)) : List (BitVec 8) := shaOf (0#8 :: b)
def pairD (a b : List (BitVec 8)) : List (BitVec 8) := shaOf (1#8 :: (a ++ b))
theorem itemD_len (b : List (BitVec 8)) : (itemD b).length = 32 := shaOf_len _
theorem pairD_len (a b : List (BitVec 8)) : (pairD a b).length = 32 := shaOf_len _
/-- all of one length -/
def Ids (l : List (List (BitVec 8))) : Prop := ∀ x ∈ l, x.length = 32
theorem Ids.nil : Ids [] := by intro x h; cases h
theorem Ids.cons {x : List (BitVec 8)} {l : List (List (BitVec 8))} (hx : x.length = 32) (h : Ids l) : Ids (x :: l) := by
  intro y hy
  rcases List.mem_cons.1 hy with rfl | hy
  · exact hx
  · exact h y hy
theorem Ids.append {l m : List (List (BitVec 8))} (h : Ids l) (k : Ids m) : Ids (l ++ m) := by
  intro y hy
  rcases List.mem_append.1 hy with hy | hy
  · exact h y hy
  · exact k y hy
theorem Ids.drop {l : List (List (BitVec 8))} (h : Ids l) (k : Nat) : Ids (l.drop k) := fun x hx => h x (List.mem_of_mem_drop hx)
theorem Ids.take {l : List (List (BitVec 8))} (h : Ids l) (k : Nat) : Ids (l.take k) := fun x hx => h x (List.mem_of_mem_take hx)
theorem Ids.flat_len {l : List (List (BitVec 8))} (h : Ids l) : l.flatten.length = l.length * 32 := by
  induction l with
  | nil => rfl
  | cons x l ih =>
    rw [List.flatten_cons, List.length_append, h x (by simp), ih (fun y hy => h y (by simp [hy])), List.length_cons]; omega
theorem Ids.flat_drop {l : List (List (BitVec 8))} (h : Ids l) (k : Nat) : (l.drop k).flatten = l.flatten.drop (k * 32) := by
  induction l generalizing k with
  | nil => simp
  | cons x l ih =>
    cases k with
    | zero => simp
    | succ k =>
      have hx := h x (by simp)
      rw [List.drop_succ_cons, ih (fun y hy => h y (by simp [hy])) k, List.flatten_cons, List.drop_append, hx]
      rw [show x.drop ((k + 1) * 32) = [] from List.drop_eq_nil_of_le (by omega), List.nil_append]
      congr 1; omega
theorem Ids.flat_get {l : List (List (BitVec 8))} (h : Ids l) (k j : Nat) (x : List (BitVec 8)) (hx : l[k]? = some x) (hj : j < 32) : l.flatten[k * 32 + j]? = x[j]? := by
  have hk : k < l.length := (List.getElem?_eq_some_iff.1 hx).1
  have e : l.flatten[k * 32 + j]? = (l.flatten.drop (k * 32))[j]? := by rw [List.getElem?_drop]
  rw [e, ← h.flat_drop, List.drop_eq_getElem_cons hk, List.flatten_cons]
  have hx' : l[k] = x := (List.getElem?_eq_some_iff.1 hx).2
  rw [hx', List.getElem?_append_left (by rw [h x (by rw [← hx']; exact List.getElem_mem _)]; exact hj)]
/-- the row above a row -/
def aboveD : List (List (BitVec 8)) → List (List (BitVec 8))
  | a :: b :: r => pairD a b :: aboveD r
  | l => l
theorem aboveD_ids : ∀ (l : List (List (BitVec 8))), Ids l → Ids (aboveD l)
  | [], h => h
  | [a], h => h
  | a :: b :: r, h => Ids.cons (pairD_len a b) (aboveD_ids r (fun x hx => h x (by simp [hx])))
theorem aboveD_len : ∀ (l : List (List (BitVec 8))), (aboveD l).length = l.length / 2 + l.length % 2
  | [] => by simp [aboveD]
  | [a] => by simp [aboveD]
  | a :: b :: r => by
    rw [aboveD, List.length_cons, aboveD_len r, List.length_cons, List.length_cons]; omega
/-- one step of a check: the rest of it -/
def checkD : Nat → List (BitVec 8) → Nat → Nat → List (List (BitVec 8)) → Option (List (BitVec 8) × List (List (BitVec 8)))
  | 0, x, i, n, p => some (x, p)
  | f + 1, x, i, n, p =>
    if n ≤ 1 then some (x, p)
    else if i % 2 = 0 ∧ n ≤ i + 1 then checkD f x (i / 2) (n / 2 + n % 2) p
    else match p with
      | [] => none
      | q :: p => checkD f (if i % 2 = 0 then pairD x q else pairD q x) (i / 2) (n / 2 + n % 2) p
def okD (root : List (BitVec 8)) : Option (List (BitVec 8) × List (List (BitVec 8))) → Bool
  | some (x, []) => decide (x = root)
  | _ => false
theorem checkD_end (f : Nat) (x : List (BitVec 8)) (i n : Nat) (p : List (List (BitVec 8))) (hn : n ≤ 1) : checkD f x i n p = some (x, p) := by
  cases f with
  | zero => rfl
  | succ f => unfold checkD; rw [if_pos hn]
theorem checkD_skip (f : Nat) (x : List (BitVec 8)) (i n : Nat) (p : List (List (BitVec 8))) (hn : ¬ n ≤ 1) (h : i % 2 = 0 ∧ n ≤ i + 1) : checkD (f + 1) x i n p = checkD f x (i / 2) (n / 2 + n % 2) p := by
  conv => lhs; unfold checkD
  rw [if_neg hn, if_pos h]
theorem checkD_none (f : Nat) (x : List (BitVec 8)) (i n : Nat) (hn : ¬ n ≤ 1) (h : ¬ (i % 2 = 0 ∧ n ≤ i + 1)) : checkD (f + 1) x i n [] = none := by
  conv => lhs; unfold checkD
  rw [if_neg hn, if_neg h]
theorem checkD_some (f : Nat) (x : List (BitVec 8)) (i n : Nat) (q : List (BitVec 8)) (p : List (List (BitVec 8))) (hn : ¬ n ≤ 1) (h : ¬ (i % 2 = 0 ∧ n ≤ i + 1)) :
    checkD (f + 1) x i n (q :: p) = checkD f (if i % 2 = 0 then pairD x q else pairD q x) (i / 2) (n / 2 + n % 2) p := by
  conv => lhs; unfold checkD
  rw [if_neg hn, if_neg h]
theorem half_le (n f : Nat) (h : n ≤ 2 ^ (f + 1)) : n / 2 + n % 2 ≤ 2 ^ f := by
  rw [Nat.pow_succ] at h; omega
end Go.Proofs.Ytdikknfdgpdenaa
namespace Go.Proofs.Ytdikknfdgpdenaa
open Go.ChangeShapes Go.WideShapes Go.ChangeAt Go.RowKit Go.Deep
set_option linter.unusedVariables false

section
variable {H : Type} {enc : TypeId × Value → H} {P : Program} {w : World} {base : Nat} {sp : Nat → Bool} {held : Bool}
theorem trod_arr8 {t e : TypeId} {n m : Nat} {cs : List Value} {x : DataW H × List MemPlace} (hu : P.underlying t = some (.array n e)) (he : P.underlying e = some (.int .u8)) (ce : P.cellsOf e = 1) (ct : P.cellsOf t = n)
    (hf : DataW.trod enc P w base sp held m t cs = some x) (hn : cs.length = n) : ∃ bs : List (BitVec 8), cs = bs.map c8 := by
  cases m with
  | zero => simp [DataW.trod] at hf
  | succ m =>
    rw [DataW.trod_step] at hf
    unfold DataW.trodStep at hf
    simp only [hu] at hf
    rw [if_pos (by rw [ct]; simpa using hn)] at hf
    simp only [Option.map_eq_some_iff] at hf
    obtain ⟨ys, hy, _⟩ := hf
    have hb := mapM_bytes he _ ys hy
    exact bytes_of cs (by
      intro v hv
      obtain ⟨i, hi, rfl⟩ := List.mem_iff_getElem.1 hv
      obtain ⟨b, h⟩ := hb i (by simp; omega)
      rw [ce, Nat.mul_one, List.drop_eq_getElem_cons hi, List.take_succ_cons, List.take_zero] at h
      injection h with h1 _
      exact ⟨b, h1⟩)
theorem open_ids {t e u : TypeId} {A : Option Addr} {n c : Nat} {d : DataW H} {p : List MemPlace} (ht : P.underlying t = some (.slice e)) (he : P.underlying e = some (.array 32 u)) (hu : P.underlying u = some (.int .u8)) (ce : P.cellsOf e = 32) (cu : P.cellsOf u = 1)
    (h : DataW.Trod enc P w base sp held t (.slice A n c) d p) : ∃ ids : List (List (BitVec 8)), Reads w w.heap.size 32 A n (ids.flatten.map c8) ∧ Ids ids ∧ ids.length = n ∧ n ≤ 9223372036854775807 ∧ n ≤ c := by
  obtain ⟨fuel, hf⟩ := h
  rcases open_slice ht hf with ⟨hcs, _⟩ | ⟨a, len, cap, m, k, D, Pl, hcs, _, hl, hm, hmm, _, hi⟩
  · simp [Value.cells] at hcs
    obtain ⟨rfl, rfl, rfl⟩ := hcs
    exact ⟨[], Reads.none_, Ids.nil, rfl, by omega, by omega⟩
  · simp [Value.cells] at hcs
    obtain ⟨rfl, rfl, rfl⟩ := hcs
    unfold maxLen at hm
    have hml : n ≤ m := by rw [hmm]; split <;> omega
    obtain ⟨V, hV⟩ := choose_lt (α := List (BitVec 8)) (n := n) (p := fun i l => l.length = 32 ∧ ∀ j v, (l.map c8)[j]? = some v → w.cell? (a.add (i * 32 + j)) = some v) (fun i hin => by
      obtain ⟨cs', h1, h2⟩ := hi i (by omega)
      rw [ce] at h1
      obtain ⟨_, hcl, hat⟩ := World.cells?_some h1
      obtain ⟨bs, rfl⟩ := trod_arr8 he hu cu ce h2 hcl
      refine ⟨bs, by simpa using hcl, fun j v hv => ?_⟩
      have hj : j < 32 := by have := (List.getElem?_eq_some_iff.1 hv).1; rw [hcl] at this; exact this
      rw [← Go.Deep.add_add, hat j hj, hv])
    have hids : Ids ((List.range n).map V) := by
      intro x hx
      obtain ⟨i, hir, rfl⟩ := List.mem_map.1 hx
      exact (hV i (List.mem_range.1 hir)).1
    refine ⟨(List.range n).map V, ⟨by rw [List.length_map, hids.flat_len]; simp, fun hn => ⟨a, rfl, ?_, fun j u hju => ?_⟩⟩, hids, by simp, by omega, hl⟩
    · obtain ⟨x, hx⟩ : ∃ x, ((V 0).map c8)[0]? = some x := ⟨_, List.getElem?_eq_getElem (by rw [List.length_map, (hV 0 hn).1]; omega)⟩
      have h0 := (hV 0 hn).2 0 x hx
      have := block_lt_of_cell h0
      rwa [block_of_add] at this
    · have hjl : j < n * 32 := by
        have := (List.getElem?_eq_some_iff.1 hju).1
        rw [List.length_map, hids.flat_len] at this
        simpa using this
      have hjd : j / 32 < n := by omega
      have hj2 : j = (j / 32) * 32 + j % 32 := by omega
      have hg := hids.flat_get (j / 32) (j % 32) (V (j / 32)) (by rw [List.getElem?_map, List.getElem?_range hjd]; rfl) (by omega)
      rw [← hj2] at hg
      rw [List.getElem?_map, hg] at hju
      have := (hV (j / 32) hjd).2 (j % 32) u (by rw [List.getElem?_map]; exact hju)
      rw [← hj2] at this
      exact this
end
end Go.Proofs.Ytdikknfdgpdenaa
namespace Go.Proofs.Ytdikknfdgpdenaa
open Go.RowKit
set_option linter.unusedVariables false
set_option linter.unusedSimpArgs false
attribute [local go_sem] Gives givesUpon
attribute [local irreducible] Gives

theorem own_one (W : World) (x : BitVec 8) : (W.alloc (.cells #[.int .u8 (x.toNat : Int)] 5)).ownsRow W.heap.size 5 1 (.slice (some ⟨W.heap.size, 0, none⟩) 1 1) 1 ([x].map c8) :=
  ⟨rfl, .inr ⟨W.heap.size, 1, #[.int .u8 (x.toNat : Int)], rfl, Nat.le_refl _, heap_alloc_last _ _, Nat.le_refl _, by simp [maxLen], rfl, rfl⟩⟩
theorem reads_one (W : World) (x : BitVec 8) : Reads (W.alloc (.cells #[.int .u8 (x.toNat : Int)] 5)) (W.alloc (.cells #[.int .u8 (x.toNat : Int)] 5)).heap.size 1 (some ⟨W.heap.size, 0, none⟩) 1 ([x].map c8) := Reads.of_own (own_one W x)
theorem Blk.id32 {w : World} {g : Nat} {l : List (BitVec 8)} {R : Array Value} (h : Blk w g 44 R) (hR : IdVal l R) (hl : l.length = 32) : Reads w w.heap.size 1 (some ⟨g, 0, none⟩) 32 (l.map c8) :=
  ⟨by rw [List.length_map, hl], fun _ => ⟨_, rfl, h.lt, fun j v hv => by rw [Addr.add_lit, Nat.zero_add, h.cell, hR.val, List.getElem?_toArray]; exact hv⟩⟩
/-- the hash of three parts, built in place -/
theorem rows_3 {W : World} {A1 A2 A3 : Option Addr} {n1 c1 n2 c2 n3 c3 : Nat} {b1 b2 b3 : List (BitVec 8)} (r1 : Reads W W.heap.size 1 A1 n1 (b1.map c8)) (h1 : n1 ≤ c1) (r2 : Reads W W.heap.size 1 A2 n2 (b2.map c8)) (h2 : n2 ≤ c2) (r3 : Reads W W.heap.size 1 A3 n3 (b3.map c8)) (h3 : n3 ≤ c3) (t : TypeId) :
    Reads (W.alloc (.cells #[.slice A1 n1 c1, .slice A2 n2 c2, .slice A3 n3 c3] t)) (W.alloc (.cells #[.slice A1 n1 c1, .slice A2 n2 c2, .slice A3 n3 c3] t)).heap.size 1 (some ⟨W.heap.size, 0, none⟩) 3 [.slice A1 n1 c1, .slice A2 n2 c2, .slice A3 n3 c3] ∧
    Rows8 (W.alloc (.cells #[.slice A1 n1 c1, .slice A2 n2 c2, .slice A3 n3 c3] t)) (W.alloc (.cells #[.slice A1 n1 c1, .slice A2 n2 c2, .slice A3 n3 c3] t)).heap.size [.slice A1 n1 c1, .slice A2 n2 c2, .slice A3 n3 c3] [b1, b2, b3] := by
  have hb := (Below.refl W.heap.size W).alloc (Nat.le_refl _) (.cells #[.slice A1 n1 c1, .slice A2 n2 c2, .slice A3 n3 c3] t)
  refine ⟨(Reads.new W t #[.slice A1 n1 c1, .slice A2 n2 c2, .slice A3 n3 c3]).more (by simp), rfl, fun i v p hv hp => ?_⟩
  match i with
  | 0 => cases hv; cases hp; exact ⟨_, _, _, rfl, r1.later hb, h1⟩
  | 1 => cases hv; cases hp; exact ⟨_, _, _, rfl, r2.later hb, h2⟩
  | 2 => cases hv; cases hp; exact ⟨_, _, _, rfl, r3.later hb, h3⟩
  | _ + 3 => simp at hv
theorem sum3_any {W : World} {A1 A2 A3 : Option Addr} {n1 c1 n2 c2 n3 c3 : Nat} {b1 b2 b3 : List (BitVec 8)} (r1 : Reads W W.heap.size 1 A1 n1 (b1.map c8)) (h1 : n1 ≤ c1) (r2 : Reads W W.heap.size 1 A2 n2 (b2.map c8)) (h2 : n2 ≤ c2) (r3 : Reads W W.heap.size 1 A3 n3 (b3.map c8)) (h3 : n3 ≤ c3) (hl : n1 + n2 + n3 ≤ 1099511627000) (c : Nat) :
    Calls Try.prog 39 #[.slice (some ⟨W.heap.size, 0, none⟩) 3 c] (W.alloc (.cells #[.slice A1 n1 c1, .slice A2 n2 c2, .slice A3 n3 c3] 29)) fun e w' => e = .returned (.agg ((shaOf (b1 ++ (b2 ++ b3))).map c8).toArray) ∧ Below W.heap.size W w' := by
  obtain ⟨q1, q2⟩ := rows_3 r1 h1 r2 h2 r3 h3 29
  have l1 : b1.length = n1 := r1.len
  have l2 : b2.length = n2 := r2.len
  have l3 : b3.length = n3 := r3.len
  have h := shasum_any _ 3 c _ _ _ q1 q2 (by omega) (by simp; omega)
  rw [show ([b1, b2, b3] : List (List (BitVec 8))).flatten = b1 ++ (b2 ++ b3) by simp] at h
  refine h.mono ?_
  rintro e w' ⟨rfl, hb⟩
  exact ⟨rfl, ((Below.refl W.heap.size W).alloc (Nat.le_refl _) _).trans (hb.mono (by simp))⟩
set_option maxRecDepth 100000 in
set_option maxHeartbeats 1600000 in
theorem item_any (A : Option Addr) (n c : Nat) (b : List (BitVec 8)) (w : World) (hr : Reads w w.heap.size 1 A n (b.map c8)) (hc : n ≤ c) (hn : n ≤ 1099511620000) :
    Calls Try.prog 77 #[.slice A n c] w fun e w' => e = .returned (.agg ((itemD b).map c8).toArray) ∧ Below w.heap.size w w' := by
  obtain ⟨Z, hZ, hZs⟩ := zeroId
  obtain ⟨R, hR⟩ := idVal (itemD b) (itemD_len b)
  obtain ⟨W1, hW1⟩ : ∃ W1, W1 = w.alloc (.cells Z 44) := ⟨_, rfl⟩
  have B1 : Below w.heap.size w W1 := by rw [hW1]; exact (Below.refl _ w).alloc (Nat.le_refl _) _
  have K1 : Blk W1 w.heap.size 44 Z := by rw [hW1]; exact Blk.new w 44 Z
  have HS : Hid (Calls Try.prog 39 #[.slice (some ⟨W1.heap.size + 1, 0, none⟩) 2 2] ((W1.alloc (.cells #[.int .u8 0] 5)).alloc (.cells #[.slice (some ⟨W1.heap.size, 0, none⟩) 1 1, .slice A n c] 29)) fun e w' => e = .returned (.agg R) ∧ Below W1.heap.size W1 w') := hide (by
    have hb2 := (Below.refl W1.heap.size W1).alloc (Nat.le_refl _) (.cells #[.int .u8 0] 5)
    have h := sum2_any (reads_one W1 0#8) (Nat.le_refl 1) (((hr.later B1)).later hb2) hc (by omega) 2
    rw [show (W1.alloc (.cells #[.int .u8 ((0#8 : BitVec 8).toNat : Int)] 5)).heap.size = W1.heap.size + 1 by simp, show [0#8] ++ b = 0#8 :: b from rfl, ← itemD, ← hR.val] at h
    refine h.mono ?_
    rintro e w' ⟨rfl, hb⟩
    exact ⟨rfl, hb2.trans (hb.mono (by omega))⟩)
  have HB := hide B1
  have HK := hide K1
  have HW := hide hW1.symm
  rw [← hR.val]
  replace hR := hide hR
  replace hZ := hide hZ
  replace hZs := hide hZs
  clear hr hc hn hW1 B1 K1
  go_enter Try.func77, Try.ntmps77
  go_wp2_with (first
    | ((with_reducible show wpList _ _ _ (⟨some 2, .alloc _, _, _, _, _⟩ :: _) _ _); refine wpList_alloc_is rfl 44 rfl Z hZ.out ?_; rw [HW.out])
    | (go_at_call 39; (with_reducible refine HS.out.mono ?_); rintro e w2 ⟨rfl, hb2⟩; have K2 := hide (HK.out.below hb2 HK.out.lt); have B2 := hide (HB.out.trans (hb2.mono HB.out.size)); clear hb2)
    | ((with_reducible show wpList _ _ _ (⟨_, .store 44 _ _, _, _, _, _⟩ :: _) _ _); refine wpList_store_row rfl 44 _ _ rfl w.heap.size rfl R rfl 44 _ K2.out hR.out.info (hZs.out.trans hR.out.size.symm) hR.out.one ?_)
    | fail)
  refine bodyPost_ret (v := .agg R) ?_ rfl ⟨rfl, ?_⟩
  · exact results_cell_row rfl _ _ w.heap.size 44 R (0, 0) _ rfl (setRow_heap _ _ _ _ _ _ K2.out) Try.underlying44 rfl hR.out.info
  · exact below_setRow B2.out (Nat.le_refl _) _
set_option maxRecDepth 100000 in
set_option maxHeartbeats 1600000 in
theorem refitem_any (A : Option Addr) (n c : Nat) (b : List (BitVec 8)) (w : World) (hr : Reads w w.heap.size 1 A n (b.map c8)) (hn : n ≤ 1099511620000) :
    Calls Try.prog 75 #[.slice A n c] w fun e w' => e = .returned (.agg ((itemD b).map c8).toArray) ∧ Below w.heap.size w w' := by
  obtain ⟨i0, hi0, hz0, hz1, hz2⟩ := info_parts info_u8
  obtain ⟨Z, hZ, hZs⟩ := zeroId
  obtain ⟨R, hR⟩ := idVal (itemD b) (itemD_len b)
  obtain ⟨W1, hW1⟩ : ∃ W1, W1 = w.alloc (.cells Z 44) := ⟨_, rfl⟩
  have B1 : Below w.heap.size w W1 := by rw [hW1]; exact (Below.refl _ w).alloc (Nat.le_refl _) _
  have K1 : Blk W1 w.heap.size 44 Z := by rw [hW1]; exact Blk.new w 44 Z
  have hb2 := (Below.refl W1.heap.size W1).alloc (Nat.le_refl _) (.cells #[.int .u8 0] 5)
  have O2 := hide (own_one W1 0#8)
  have R2 := hide ((hr.later B1).later hb2)
  have B2 := hide hb2
  have HSm : Hid (∀ A' c' W, Reads W W.heap.size 1 A' (1 + n) ((0#8 :: b).map c8) → Calls Try.prog 36 #[.slice A' (1 + n) c'] W fun e w' => e = .returned (.agg R) ∧ Below W.heap.size W w') := hide fun A' c' W h => by
    rw [hR.val]; exact refsum_any A' _ c' _ W h (by omega)
  have HB := hide B1
  have HK := hide K1
  have HW := hide hW1.symm
  have hsz : W1.heap.size ≤ (W1.alloc (.cells #[.int .u8 0] 5)).heap.size := hb2.size
  have HSZ := hide hsz
  rw [← hR.val]
  replace hR := hide hR
  replace hZ := hide hZ
  replace hZs := hide hZs
  clear hr hW1 B1 K1 hb2 hsz
  go_enter Try.func75, Try.ntmps75
  go_wp2_with (first
    | ((with_reducible show wpList _ _ _ (⟨some 2, .alloc _, _, _, _, _⟩ :: _) _ _); refine wpList_alloc_is rfl 44 rfl Z hZ.out ?_; rw [HW.out])
    | (at_builtin; refine wpList_append_any _ rfl (.tmp 3) (.tmp 4) 29 rfl W1.heap.size 5 i0 _ 1 1 Try.underlying29 hi0 hz0 hz1 hz2 rfl (by omega) _ 1 _ rfl O2.out _ A n c _ rfl R2.out (oneCell_c8 _) (by simp only [maxLen]; omega) (by omega) HSZ.out ?_; intro v5 W5 own5 grow5 _; have b5 := hide (below_appended B2.out HSZ.out O2.out (Nat.le_refl _) grow5); obtain ⟨A5, c5, rfl⟩ := own_slice own5; rw [← List.map_append, show [0#8] ++ b = 0#8 :: b from rfl] at own5; have R5 := hide (Reads.of_own own5); clear own5 grow5)
    | (go_at_call 36; (with_reducible refine (HSm.out A5 c5 W5 R5.out).mono ?_); rintro e w6 ⟨rfl, hb6⟩; have b6 := hide (b5.out.trans (hb6.mono b5.out.size)); have K6 := hide (HK.out.below b6.out HK.out.lt); clear hb6)
    | ((with_reducible show wpList _ _ _ (⟨_, .store 44 _ _, _, _, _, _⟩ :: _) _ _); refine wpList_store_row rfl 44 _ _ rfl w.heap.size rfl R rfl 44 _ K6.out hR.out.info (hZs.out.trans hR.out.size.symm) hR.out.one ?_)
    | fail)
  refine bodyPost_ret (v := .agg R) ?_ rfl ⟨rfl, ?_⟩
  · exact results_cell_row rfl _ _ w.heap.size 44 R (0, 0) _ rfl (setRow_heap _ _ _ _ _ _ K6.out) Try.underlying44 rfl hR.out.info
  · exact below_setRow (HB.out.trans (b6.out.mono HB.out.size)) (Nat.le_refl _) _
/-- two rows of 32 bytes, and one of one's own -/
def PairI (w : World) (Va Vb Z : Array Value) (W : World) : Prop := Below w.heap.size w W ∧ Blk W w.heap.size 44 Va ∧ Blk W (w.heap.size + 1) 44 Vb ∧ Blk W (w.heap.size + 2) 44 Z
theorem PairI.below {w W W' : World} {Va Vb Z : Array Value} (h : PairI w Va Vb Z W) (hb : Below W.heap.size W W') : PairI w Va Vb Z W' := ⟨below_next h.1 hb, h.2.1.below hb h.2.1.lt, h.2.2.1.below hb h.2.2.1.lt, h.2.2.2.below hb h.2.2.2.lt⟩
set_option maxRecDepth 100000 in
set_option maxHeartbeats 1600000 in
theorem pair_any (a b : List (BitVec 8)) (Va Vb : Array Value) (ha : a.length = 32) (hb : b.length = 32) (hva : IdVal a Va) (hvb : IdVal b Vb) (R : Array Value) (hR : IdVal (pairD a b) R) (w : World) :
    Calls Try.prog 81 #[.agg Va, .agg Vb] w fun e w' => e = .returned (.agg R) ∧ Below w.heap.size w w' := by
  obtain ⟨Z, hZ, hZs⟩ := zeroId
  obtain ⟨W0, hW0, sz, p0, p1, p2, hB⟩ := blks3 w 44 44 44 Va Vb Z
  have HI0 : Hid (PairI w Va Vb Z W0) := hide ⟨hB, p0, p1, p2⟩
  have HS : Hid (∀ (g : Nat) (W : World), PairI w Va Vb Z W → Reads W W.heap.size 1 (some ⟨g, 0, none⟩) 1 ([1#8].map c8) → Calls Try.prog 39 #[.slice (some ⟨W.heap.size, 0, none⟩) 3 3] (W.alloc (.cells #[.slice (some ⟨g, 0, none⟩) 1 1, .slice (some ⟨w.heap.size, 0, none⟩) 32 32, .slice (some ⟨w.heap.size + 1, 0, none⟩) 32 32] 29)) fun e w' => e = .returned (.agg R) ∧ PairI w Va Vb Z w') := hide fun g W h h1 => by
    have h2 := sum3_any h1 (Nat.le_refl 1) (h.2.1.id32 hva ha) (Nat.le_refl 32) (h.2.2.1.id32 hvb hb) (Nat.le_refl 32) (by omega) 3
    rw [show [1#8] ++ (a ++ b) = 1#8 :: (a ++ b) from rfl, ← pairD, ← hR.val] at h2
    refine h2.mono ?_
    rintro e w' ⟨rfl, hb'⟩
    exact ⟨rfl, h.below hb'⟩
  replace hR := hide hR
  replace hZ := hide hZ
  replace hZs := hide hZs
  replace hW0 := hide hW0
  replace sz := hide sz
  clear ha hb hva hvb p0 p1 p2 hB
  go_enter Try.func81, Try.ntmps81
  go_wp2_with (refine wpList_alloc_is rfl 44 rfl Z hZ.out ?_)
  rw [show ((w.alloc (.cells Va 44)).alloc (.cells Vb 44)).heap.size = w.heap.size + 2 from by simp, hW0.out]
  apply wp_region_stage (hv := [0, 3, 4, 5]) (I := fun W => Below w.heap.size w W) (C := PairI w Va Vb Z) (ss := [_, _, _, _, _, _]) (by kernel_rfl) (by kernel_rfl) (by kernel_rfl) (by kernel_rfl) HI0.out.1.drew ⟨HI0.out.1.drew, HI0.out.2.1, HI0.out.2.2.1, HI0.out.2.2.2⟩
  refine stWalk_turn (fun v => ∃ p, v = .slice (some ⟨p, 0, none⟩) 1 1) (fun v W => PairI w Va Vb Z W ∧ SliceOf8 1 [1#8] v W) (by rfl) ⟨_, 0, rfl⟩ (by go_simp) ?_ ?_
  · intro W hI hC
    have q1 := hide (hC.below ((Below.refl W.heap.size W).alloc (Nat.le_refl _) (.cells #[.int .u8 1] 5)))
    have q2 := hide (reads_one W 1#8)
    clear hC hI
    go_simp
    exact ⟨q1.out.1, q1.out, rfl, q2.out⟩
  rintro v ⟨p, rfl⟩
  (try simp only [Act.put, List.setIfInBounds_toArray, List.set_cons_zero, List.set_cons_succ])
  repeat (first
    | (apply stWalk_light
       · rfl
       · (intro W hI
          go_simp
          with_reducible exact rfl)
       (try simp only [Act.put, List.setIfInBounds_toArray, List.set_cons_zero, List.set_cons_succ])))
  refine stWalk_turn (fun v => ∃ p, v = .slice (some ⟨p, 0, none⟩) 3 3) (fun v W => Calls Try.prog 39 #[v] W fun e w' => e = .returned (.agg R) ∧ PairI w Va Vb Z w') (by rfl) ⟨_, 0, rfl⟩ (by go_simp) ?_ ?_
  · intro W hI hC
    have q1 := hide (HS.out p W hC.1 hC.2.2)
    have q2 := hide (hC.1.below ((Below.refl W.heap.size W).alloc (Nat.le_refl _) (.cells #[.slice (some ⟨p, 0, none⟩) 1 1, .slice (some ⟨w.heap.size, 0, none⟩) 32 32, .slice (some ⟨w.heap.size + 1, 0, none⟩) 32 32] 29)))
    clear hC hI
    go_simp
    exact ⟨q2.out.1, q1.out⟩
  rintro v ⟨p3, rfl⟩
  (try simp only [Act.put, List.setIfInBounds_toArray, List.set_cons_zero, List.set_cons_succ])
  apply stWalk_turnc (PairI w Va Vb Z)
  · rfl
  · go_simp
  · intro W hI hC
    go_simp
    refine hC.mono ?_
    rintro e w3 ⟨rfl, hI3⟩
    exact ⟨_, rfl, rfl, hI3.1, hI3⟩
  (try simp only [Act.put, List.setIfInBounds_toArray, List.set_cons_zero, List.set_cons_succ])
  apply stWalk_turnc (c := undef) (fun W => Below w.heap.size w W ∧ Blk W (w.heap.size + 2) 44 R)
  · rfl
  · rfl
  · intro W hI hC
    have hl := hC.2.2.2.lt
    exact gives_store_row 44 _ _ rfl (w.heap.size + 2) rfl R rfl 44 _ hC.2.2.2 hR.out.info (hZs.out.trans hR.out.size.symm) hR.out.one ⟨rfl, below_setRow hC.1 (by omega) R, below_setRow hC.1 (by omega) R, hC.2.2.2.setRow_ R⟩
  (try simp only [Act.put, List.setIfInBounds_toArray, List.set_cons_zero, List.set_cons_succ])
  refine stWalk_nil ?_
  intro W hI hC
  have B9 := hide hC.1
  have K9 := hide hC.2
  clear hI hC
  go_wp2_with fail
  refine bodyPost_ret (v := .agg R) ?_ rfl ⟨rfl, B9.out⟩
  exact results_cell_row rfl _ _ (w.heap.size + 2) 44 R (0, 0) _ rfl K9.out Try.underlying44 rfl hR.out.info
set_option maxRecDepth 100000 in
set_option maxHeartbeats 1600000 in
theorem refpair_any (a b : List (BitVec 8)) (Va Vb : Array Value) (ha : a.length = 32) (hb : b.length = 32) (hva : IdVal a Va) (hvb : IdVal b Vb) (R : Array Value) (hR : IdVal (pairD a b) R) (w : World) :
    Calls Try.prog 82 #[.agg Va, .agg Vb] w fun e w' => e = .returned (.agg R) ∧ Below w.heap.size w w' := by
  obtain ⟨i0, hi0, hz0, hz1, hz2⟩ := info_parts info_u8
  obtain ⟨Z, hZ, hZs⟩ := zeroId
  obtain ⟨W0, hW0, sz, p0, p1, p2, hB⟩ := blks3 w 44 44 44 Va Vb Z
  have HI0 : Hid (PairI w Va Vb Z W0) := hide ⟨hB, p0, p1, p2⟩
  have hb2 := (Below.refl W0.heap.size W0).alloc (Nat.le_refl _) (.cells #[.int .u8 1] 5)
  have O2 := hide (own_one W0 1#8)
  have B2 := hide hb2
  have HSZ : Hid (W0.heap.size ≤ (W0.alloc (.cells #[.int .u8 1] 5)).heap.size) := hide hb2.size
  have I2 := hide (HI0.out.below hb2)
  have Ra := hide (I2.out.2.1.id32 hva ha)
  have HRb : Hid (∀ W, PairI w Va Vb Z W → Reads W W.heap.size 1 (some ⟨w.heap.size + 1, 0, none⟩) 32 (b.map c8)) := hide fun W h => h.2.2.1.id32 hvb hb
  have HSm : Hid (∀ A' c' W, Reads W W.heap.size 1 A' (1 + 32 + 32) ((1#8 :: (a ++ b)).map c8) → Calls Try.prog 36 #[.slice A' (1 + 32 + 32) c'] W fun e w' => e = .returned (.agg R) ∧ Below W.heap.size W w') := hide fun A' c' W h => by
    rw [hR.val]; exact refsum_any A' _ c' _ W h (by omega)
  replace hR := hide hR
  replace hZ := hide hZ
  replace hZs := hide hZs
  replace hW0 := hide hW0
  replace sz := hide sz
  clear ha hb hva hvb p0 p1 p2 hB hb2
  go_enter Try.func82, Try.ntmps82
  go_wp2_with (first
    | ((with_reducible show wpList _ _ _ (⟨some 4, .alloc _, _, _, _, _⟩ :: _) _ _); refine wpList_alloc_is rfl 44 rfl Z hZ.out ?_; rw [show ((w.alloc (.cells Va 44)).alloc (.cells Vb 44)).heap.size = w.heap.size + 2 from (by simp), hW0.out])
    | (at_builtin; refine wpList_append_any _ rfl (.tmp 6) (.tmp 7) 29 rfl W0.heap.size 5 i0 _ 1 1 Try.underlying29 hi0 hz0 hz1 hz2 rfl (by omega) _ 1 _ rfl O2.out _ _ 32 32 _ rfl Ra.out (oneCell_c8 _) (by simp only [maxLen]; omega) (by omega) HSZ.out ?_; intro v5 W5 own5 grow5 _; have b5 := hide (below_appended B2.out HSZ.out O2.out (Nat.le_refl _) grow5); obtain ⟨A5, c5, rfl⟩ := own_slice own5; rw [← List.map_append] at own5; have I5 := hide (HI0.out.below b5.out); have Rb5 := hide (HRb.out _ I5.out); have O5 := hide own5; have S5 := hide b5.out.size; clear own5 grow5)
    | (at_builtin; refine wpList_append_any _ rfl (.tmp 9) (.tmp 10) 29 rfl W0.heap.size 5 i0 _ 1 1 Try.underlying29 hi0 hz0 hz1 hz2 rfl (by omega) _ (1 + 32) _ rfl O5.out _ _ 32 32 _ rfl Rb5.out (oneCell_c8 _) (by simp only [maxLen]; omega) (by omega) S5.out ?_; intro v6 W6 own6 grow6 _; have b6 := hide (below_appended b5.out S5.out O5.out (Nat.le_refl _) grow6); obtain ⟨A6, c6, rfl⟩ := own_slice own6; rw [← List.map_append, show ([1#8] ++ a) ++ b = 1#8 :: (a ++ b) by simp] at own6; have R6 := hide (Reads.of_own own6); clear own6 grow6)
    | (go_at_call 36; (with_reducible refine (HSm.out A6 c6 W6 R6.out).mono ?_); rintro e w7 ⟨rfl, hb7⟩; have I7 := hide (HI0.out.below (b6.out.trans (hb7.mono b6.out.size))); clear hb7)
    | ((with_reducible show wpList _ _ _ (⟨_, .store 44 _ _, _, _, _, _⟩ :: _) _ _); refine wpList_store_row rfl 44 _ _ rfl (w.heap.size + 2) rfl R rfl 44 _ I7.out.2.2.2 hR.out.info (hZs.out.trans hR.out.size.symm) hR.out.one ?_)
    | fail)
  refine bodyPost_ret (v := .agg R) ?_ rfl ⟨rfl, ?_⟩
  · exact results_cell_row rfl _ _ (w.heap.size + 2) 44 R (0, 0) _ rfl (setRow_heap _ _ _ _ _ _ I7.out.2.2.2) Try.underlying44 rfl hR.out.info
  · exact below_setRow I7.out.1 (by omega) _
end Go.Proofs.Ytdikknfdgpdenaa
namespace Go.Proofs.Ytdikknfdgpdenaa
open Go.RowKit
set_option linter.unusedVariables false
set_option linter.unusedSimpArgs false
attribute [local go_sem] Gives givesUpon
attribute [local irreducible] Gives

theorem ofInt_i64 (a : Nat) (ha : a < 9223372036854775808) : (BitVec.ofInt 64 (a : Int)).toNat = a := by
  rw [BitVec.ofInt_natCast, BitVec.toNat_ofNat]; exact Nat.mod_eq_of_lt (by omega)
theorem i64_xor_nat (a b : Nat) (ha : a < 9223372036854775808) (hb : b < 9223372036854775808) : bits .xor .i64 (a : Int) (b : Int) = ((a ^^^ b : Nat) : Int) := by
  have hx : a ^^^ b < 2 ^ 63 := Nat.xor_lt_two_pow (by omega) (by omega)
  show IntKind.i64.wrap ((BitVec.ofInt 64 (a : Int) ^^^ BitVec.ofInt 64 (b : Int)).toNat : Int) = _
  rw [BitVec.toNat_xor, ofInt_i64 a ha, ofInt_i64 b hb]
  exact IntWalk.i64_in _ (by omega)
def sib (i : Nat) : Nat := if i % 2 = 0 then i + 1 else i - 1
theorem xor_one (i : Nat) : i ^^^ 1 = sib i := by
  have h1 : (i ^^^ 1) % 2 = (i % 2) ^^^ 1 := Nat.xor_mod_two_pow (n := 1)
  have h2 : (i ^^^ 1) / 2 = i / 2 := by
    have := Nat.xor_div_two_pow (n := 1) (a := i) (b := 1)
    simpa using this
  unfold sib
  rcases (by omega : i % 2 = 0 ∨ i % 2 = 1) with h | h
  · rw [h] at h1
    rw [if_pos h]
    have : (0 : Nat) ^^^ 1 = 1 := rfl
    omega
  · rw [h] at h1
    rw [if_neg (by omega)]
    have : (1 : Nat) ^^^ 1 = 0 := rfl
    omega
theorem sib_i64 (i : Nat) (h : i < 4398046511104) : bits .xor .i64 (i : Int) 1 = (sib i : Int) := by
  have := i64_xor_nat i 1 (by omega) (by omega)
  rw [xor_one] at this; exact this
theorem sib_lt (i n : Nat) (hi : i < n) : n ≤ sib i ↔ (i % 2 = 0 ∧ n ≤ i + 1) := by
  unfold sib
  split <;> omega
theorem val_half (i : Nat) : Value.int .i64 ((i : Int) / 2) = .int .i64 ((i / 2 : Nat) : Int) := by simp
theorem val_up (n : Nat) : Value.int .i64 ((n : Int) / 2 + (n : Int) % 2) = .int .i64 ((n / 2 + n % 2 : Nat) : Int) := by simp
theorem reads_id {w : World} {B n : Nat} {g o : Nat} {q : List (BitVec 8)} {p : List (List (BitVec 8))} (h : Reads w B 32 (some ⟨g, o, none⟩) n ((q :: p).flatten.map c8)) (hn : 0 < n) (hq : q.length = 32) : ∀ j v, (q.map c8)[j]? = some v → w.cell? ((⟨g, o, none⟩ : Addr).add j) = some v := by
  intro j v hv
  obtain ⟨ad, e, _, hc⟩ := h.2 hn
  cases e
  refine hc j v ?_
  have hj : j < q.length := by have := (List.getElem?_eq_some_iff.1 hv).1; simpa using this
  rw [List.flatten_cons, List.map_append, List.getElem?_append_left (by simpa using hj)]
  exact hv
theorem reads32_at {w : World} {B n : Nat} {A : Option Addr} {xs : List Value} (h : Reads w B 32 A n xs) (hn : 0 < n) : ∃ g o, A = some ⟨g, o, none⟩ ∧ g < B := by
  obtain ⟨⟨g, o, sp⟩, rfl, hb, hc⟩ := h.2 hn
  have h0 := hc 0 (xs[0]'(by have := h.1; omega)) (by simp)
  have hs : sp = none := by
    have := World.cell?_spot h0
    simpa [Addr.add] using this
  subst hs
  exact ⟨g, o, rfl, hb⟩
/-- what a check says -/
def chkD (root item : List (BitVec 8)) (i n : Int) (ids : List (List (BitVec 8))) : Bool := if 0 ≤ i ∧ i < n then okD root (checkD 40 (itemD item) i.toNat n.toNat ids) else false
set_option maxRecDepth 100000 in
set_option maxHeartbeats 6400000 in
theorem check44_any (root item : List (BitVec 8)) (RV : Array Value) (hrl : root.length = 32) (hRV : IdVal root RV) (A : Option Addr) (m c : Nat) (i n : Int) (AP : Option Addr) (np cp : Nat) (ids : List (List (BitVec 8))) (w : World)
    (hr : Reads w w.heap.size 1 A m (item.map c8)) (hc : m ≤ c) (hm : m ≤ 1000000) (hn : n ≤ 1099511627776) (hp : Reads w w.heap.size 32 AP np (ids.flatten.map c8)) (hids : Ids ids) (hnp : ids.length = np) (hcp : np ≤ cp) (hnp1 : np ≤ 100)
    (hi63 : -9223372036854775808 ≤ i ∧ i ≤ 9223372036854775807) :
    Calls Try.prog 59 #[.agg RV, .slice A m c, .int .i64 i, .int .i64 n, .slice AP np cp] w fun e w' => e = .returned (.bool (chkD root item i n ids)) ∧ Below w.heap.size w w' := by
  by_cases hin : 0 ≤ i ∧ i < n
  · obtain ⟨k, rfl⟩ : ∃ k : Nat, i = (k : Int) := ⟨i.toNat, by omega⟩
    obtain ⟨N, rfl⟩ : ∃ N : Nat, n = (N : Int) := ⟨n.toNat, by omega⟩
    have hd1 : decide ((k : Int) < 0) = false := by simp
    have hd2 : decide ((N : Int) ≤ (k : Int)) = false := by simp; omega
    obtain ⟨R, hR⟩ : ∃ R, R = checkD 40 (itemD item) k N ids := ⟨_, rfl⟩
    have hres : chkD root item k N ids = okD root R := by rw [chkD, if_pos hin, hR]; simp
    rw [hres]
    obtain ⟨Z, hZ, hZs⟩ := zeroId
    obtain ⟨x0, hx0⟩ : ∃ x, x = itemD item := ⟨_, rfl⟩
    have hx0l : x0.length = 32 := by rw [hx0]; exact itemD_len _
    obtain ⟨X0, hX0⟩ := idVal x0 hx0l
    obtain ⟨W0, hW0⟩ : ∃ W0, W0 = w.alloc (.cells RV 44) := ⟨_, rfl⟩
    have B0 : Below w.heap.size w W0 := by rw [hW0]; exact (Below.refl _ w).alloc (Nat.le_refl _) _
    have K0 : Blk W0 w.heap.size 44 RV := by rw [hW0]; exact Blk.new w 44 RV
    have HIt : Hid (Calls Try.prog 77 #[.slice A m c] W0 fun e w' => e = .returned (.agg X0) ∧ Below W0.heap.size W0 w') := hide (by rw [hX0.val, hx0]; exact item_any A m c item W0 (hr.later B0) hc (by omega))
    have HRx : Hid (checkD 40 x0 k N ids = R) := hide (by rw [hR, hx0])
    have HP0 := hide hp
    have HB := hide B0
    have HK := hide K0
    have HW := hide hW0.symm
    have HRl := hide hrl
    have HRV := hide hRV
    have HIds := hide hids
    have HNp := hide hnp
    have hk : k < N := by omega
    have hN : N ≤ 2 ^ 40 := by omega
    replace hX0 := hide hX0
    replace hx0l := hide hx0l
    replace hZ := hide hZ
    replace hZs := hide hZs
    replace hN := hide hN
    clear hR hres hx0 hr hp hids hnp hrl hRV hW0 B0 K0 hin hi63
    go_enter Try.func59, Try.ntmps59
    go_wp2_with (first
      | (rw [HW.out]; go_at_call 77; (with_reducible refine HIt.out.mono ?_); rintro e w1 ⟨rfl, hb1⟩; have K1 := hide (Blk.new w1 44 Z); have B1 := hide (HB.out.trans (hb1.mono HB.out.size)); have KR1 := hide (HK.out.below hb1 HK.out.lt); clear hb1)
      | ((with_reducible show wpList _ _ _ (⟨some 11, .alloc _, _, _, _, _⟩ :: _) _ _); refine wpList_alloc_is rfl 44 rfl Z hZ.out ?_)
      | ((with_reducible show wpList _ _ _ (⟨_, .store 44 _ _, _, _, _, _⟩ :: _) _ _); refine wpList_store_row rfl 44 _ _ rfl w1.heap.size rfl X0 rfl 44 _ K1.out hX0.out.info (hZs.out.trans hX0.out.size.symm) hX0.out.one ?_)
      | fail)
    have l1 := B1.out.size
    have krl := KR1.out.lt
    have hrow := below_setRow ((Below.refl w1.heap.size w1).alloc (Nat.le_refl _) (.cells Z 44)) (Nat.le_refl _) X0
    have K2 := hide (K1.out.setRow_ X0)
    have KR2 := hide (KR1.out.below hrow krl)
    have B2 := hide (B1.out.trans (hrow.mono l1))
    have P2 := hide (HP0.out.below B2.out)
    (try simp only [Act.put, List.setIfInBounds_toArray, List.set_cons_zero, List.set_cons_succ])
    obtain ⟨W2, hW2⟩ : ∃ W, W = (w1.alloc (.cells Z 44)).setRow w1.heap.size X0 := ⟨_, rfl⟩
    rw [← hW2] at K2 KR2 B2 P2 ⊢
    clear hW2 hrow K1 KR1 B1 HP0
    go_loopw [2, 3, 4] (fun a b s wr => ∃ (f i n mp : Nat) (A : Option Addr) (c : Nat) (x : List (BitVec 8)) (X : Array Value) (p : List (List (BitVec 8))), a = .int .i64 (i : Int) ∧ b = .int .i64 (n : Int) ∧ s = .slice A mp c ∧ i < n ∧ n ≤ N ∧ mp ≤ c ∧ Hid (n ≤ 2 ^ f) ∧ Hid (p.length = mp) ∧
      Hid (x.length = 32) ∧ Hid (IdVal x X) ∧ Hid (Ids p) ∧ Hid (checkD f x i n p = R) ∧ Hid (Reads wr w.heap.size 32 A mp (p.flatten.map c8)) ∧ Hid (Blk wr w1.heap.size 44 X) ∧ Hid (Blk wr w.heap.size 44 RV) ∧ Hid (Below w.heap.size w wr)) (fun _ b _ _ => (intOf b).toNat)
    case atStart => exact ⟨40, k, N, np, AP, cp, x0, X0, ids, rfl, rfl, rfl, hk, Nat.le_refl _, hcp, hN, HNp, hx0l, hX0, HIds, HRx, P2, K2, KR2, B2⟩
    case round =>
      obtain ⟨f, i, n, mp, A4, c4, x, X, p, rfl, rfl, rfl, hlt, hnN, hmc, hf, hml, hxl, hX, hid, hck, hP, hKx, hKr, hB⟩ := hrel
      clear K2 KR2 B2 P2 HRx
      have hsz := hB.out.size
      by_cases hn1 : n ≤ 1
      · have hd : decide ((1 : Int) < (n : Int)) = false := by simp; omega
        have hRe : R = some (x, p) := by rw [← hck.out, checkD_end f x i n p hn1]
        have HRe := hide hRe
        have HXi := hide hX.out.info
        have HRi := hide HRV.out.info
        have heq : ∀ W : World, (Op.equalIn 10000 44 (.agg X) (.agg RV)).run Try.prog W = .ok (decide (x = root)) W := fun W => by
          rw [hX.out.val, HRV.out.val]; exact eq_id x root hxl.out HRl.out W
        clear hRe
        by_cases hxr : x = root
        · have hdx : decide (x = root) = true := decide_eq_true hxr
          rw [hdx] at heq
          cases p with
          | nil =>
            obtain rfl : mp = 0 := by have := hml.out; simpa using this.symm
            have hres : okD root R = true := by rw [HRe.out, okD, hxr]; simp
            have HRes := hide hres
            clear hres hxr hdx
            go_wp2_with (first
              | ((with_reducible show wpList _ _ _ (⟨some 52, .load _ _, _, _, _, _⟩ :: _) _ _); refine wpList_load_row rfl 44 _ rfl w1.heap.size rfl 44 X (0, 0) _ hKx.out Try.underlying44 rfl HXi.out ?_)
              | ((with_reducible show wpList _ _ _ (⟨some 53, .load _ _, _, _, _, _⟩ :: _) _ _); refine wpList_load_row rfl 44 _ rfl w.heap.size rfl 44 RV (0, 0) _ hKr.out Try.underlying44 rfl HRi.out ?_))
            go_ret
            exact ⟨by rw [HRes.out]; rfl, hB.out⟩
          | cons q p =>
            have hmz : ((mp : Int) == 0) = false := by have := hml.out; simp at this; simp; omega
            have hres : okD root R = false := by rw [HRe.out, okD]; simp
            have HRes := hide hres
            clear hres hxr hdx
            go_wp2_with (first
              | ((with_reducible show wpList _ _ _ (⟨some 52, .load _ _, _, _, _, _⟩ :: _) _ _); refine wpList_load_row rfl 44 _ rfl w1.heap.size rfl 44 X (0, 0) _ hKx.out Try.underlying44 rfl HXi.out ?_)
              | ((with_reducible show wpList _ _ _ (⟨some 53, .load _ _, _, _, _, _⟩ :: _) _ _); refine wpList_load_row rfl 44 _ rfl w.heap.size rfl 44 RV (0, 0) _ hKr.out Try.underlying44 rfl HRi.out ?_))
            go_ret
            exact ⟨by rw [HRes.out]; rfl, hB.out⟩
        · have hdx : decide (x = root) = false := decide_eq_false hxr
          rw [hdx] at heq
          have hres : okD root R = false := by rw [HRe.out]; cases p <;> simp [okD, hxr]
          have HRes := hide hres
          clear hres hxr hdx
          go_wp2_with (first
            | ((with_reducible show wpList _ _ _ (⟨some 52, .load _ _, _, _, _, _⟩ :: _) _ _); refine wpList_load_row rfl 44 _ rfl w1.heap.size rfl 44 X (0, 0) _ hKx.out Try.underlying44 rfl HXi.out ?_)
            | ((with_reducible show wpList _ _ _ (⟨some 53, .load _ _, _, _, _, _⟩ :: _) _ _); refine wpList_load_row rfl 44 _ rfl w.heap.size rfl 44 RV (0, 0) _ hKr.out Try.underlying44 rfl HRi.out ?_))
          go_ret
          exact ⟨by rw [HRes.out]; rfl, hB.out⟩
      · have hd : decide ((1 : Int) < (n : Int)) = true := by simp; omega
        obtain ⟨f, rfl⟩ : ∃ g, f = g + 1 := ⟨f - 1, by have := hf.out; cases f with | zero => simp at this; omega | succ g => omega⟩
        obtain ⟨s, hs⟩ : ∃ s, s = sib i := ⟨_, rfl⟩
        have hxor : bits .xor .i64 (i : Int) 1 = (s : Int) := by rw [hs]; exact sib_i64 i (by omega)
        have hsi := sib_lt i n hlt
        rw [← hs] at hsi
        have Hf2 := hide (half_le n f hf.out)
        have hi2 : i / 2 < n / 2 + n % 2 := by omega
        have hn2 : n / 2 + n % 2 < n := by omega
        have hn3 : n / 2 + n % 2 ≤ N := by omega
        have hb1 : (i : Int) ≤ 1099511627776 := by omega
        have hb2 : (n : Int) ≤ 1099511627776 := by omega
        have hb3 : (0 : Int) ≤ (i : Int) := by omega
        by_cases hsk : i % 2 = 0 ∧ n ≤ i + 1
        · have hge : decide (n ≤ s) = true := decide_eq_true (hsi.2 hsk)
          have Hck := hide ((checkD_skip f x i n p hn1 hsk).symm.trans hck.out)
          clear hsi hs hsk hck hn1
          go_wp2
          go_roundw
          case rel => exact ⟨f, i / 2, n / 2 + n % 2, mp, A4, c4, x, X, p, val_half i, val_up n, rfl, hi2, hn3, hmc, Hf2, hml, hxl, hX, hid, Hck, hP, hKx, hKr, hB⟩
          case measure => simp [intOf]; omega
        · have hge : decide (n ≤ s) = false := decide_eq_false (fun h => hsk (hsi.1 h))
          cases p with
          | nil =>
            obtain rfl : mp = 0 := by have := hml.out; simpa using this.symm
            have hres : okD root R = false := by rw [← hck.out, checkD_none f x i n hn1 hsk]; rfl
            have HRes := hide hres
            clear hres hsi hs hsk hck
            go_wp2
            go_ret
            exact ⟨by rw [HRes.out]; rfl, hB.out⟩
          | cons q p =>
            obtain ⟨mq, rfl⟩ : ∃ k, mp = k + 1 := ⟨mp - 1, by have := hml.out; simp at this; omega⟩
            have hmq : p.length = mq := by have := hml.out; simpa using this
            have hmz : (((mq + 1 : Nat) : Int) == 0) = false := by simp; omega
            have hql : q.length = 32 := hid.out q (by simp)
            have hidp : Ids p := fun y hy => hid.out y (by simp [hy])
            obtain ⟨Q, hQ⟩ := idVal q hql
            obtain ⟨gp, op_, rfl, hgp⟩ := reads32_at hP.out (by omega)
            have HLQ := hide (reads_id hP.out (by omega) hql)
            have hQi : (Try.prog.info? 44).map (·.size) = some (q.map c8).length := by rw [List.length_map, hql]; exact info_id
            have HQi := hide hQi
            have HQV := hide hQ.val
            have HXi := hide hX.out.info
            obtain ⟨y, hy⟩ : ∃ y, y = if i % 2 = 0 then pairD x q else pairD q x := ⟨_, rfl⟩
            have hyl : y.length = 32 := by rw [hy]; split <;> exact pairD_len _ _
            obtain ⟨Y, hY⟩ := idVal y hyl
            have Hck : Hid (checkD f y (i / 2) (n / 2 + n % 2) p = R) := hide (by rw [hy, ← checkD_some f x i n q p hn1 hsk]; exact hck.out)
            have HPc : Hid (∀ W, Below wr.heap.size wr W → Reads W w.heap.size 32 (if c4 = 1 then some ⟨gp, op_, none⟩ else some ⟨gp, op_ + 32, none⟩) mq (p.flatten.map c8)) := hide fun W hW => by
              have h := (hP.out.below (hW.mono hsz)).cut (k := 1) (cap := c4) (by omega) hmc
              rw [List.flatten_cons, List.map_append, List.drop_append_of_le_length (by simp [hql]), List.drop_of_length_le (by simp [hql]), List.nil_append, Nat.add_sub_cancel] at h
              split at h
              · rename_i hc1; rw [if_pos hc1]; exact h
              · rename_i hc1; rw [if_neg hc1]; simpa [Addr.add_lit] using h
            have hgpw : gp < wr.heap.size := by omega
            have kxl := hKx.out.lt
            have krl2 := hKr.out.lt
            have HYl := hide hyl
            have HY := hide hY
            have HMq := hide hmq
            have HIdp := hide hidp
            have hc4 : 1 ≤ c4 := by omega
            have hc4i : (1 : Int) ≤ (c4 : Int) := by omega
            by_cases hev : i % 2 = 0
            · have hevd : ((i : Int) % 2 == 0) = true := by simp; omega
              have HPr : Hid (∀ W, Below wr.heap.size wr W → Calls Try.prog 81 #[.agg X, .agg Q] W fun e w' => e = .returned (.agg Y) ∧ Below W.heap.size W w') := hide fun W _ => pair_any x q X Q hxl.out hql hX.out hQ Y (by rw [← (show y = pairD x q by rw [hy, if_pos hev])]; exact hY) W
              clear hsi hs hsk hck hql hidp hQi hQ hy hyl hY hmq hev hn1 hid hP
              go_wp2
              apply wp_region_relT 5 (C := fun W => Below wr.heap.size wr W) (M := fun W W' => Below W.heap.size W W') (ss := [_, _, _, _, _]) (by kernel_rfl) (by kernel_rfl) (by kernel_rfl) (by kernel_rfl) (Below.refl _ _).drew
              simp only [List.take_succ_cons, List.take_zero, List.drop_succ_cons, List.drop_zero]
              apply relWalk_const (fun W => Below.refl _ _)
              · intro W hC hF
                rw [if_pos]
                · exact gives_load_row 44 _ rfl w1.heap.size rfl 44 X (0, 0) _ (hKx.out.below hC hKx.out.lt) Try.underlying44 rfl HXi.out ⟨rfl, rfl⟩
                · rfl
              (try simp only [Act.put, List.setIfInBounds_toArray, List.set_cons_zero, List.set_cons_succ])
              repeat (first
                | (apply relWalk_const (fun W => Below.refl _ _)
                   · (intro W hC hF
                      clear hF
                      go_simp
                      with_reducible exact rfl)
                   (try simp only [Act.put, List.setIfInBounds_toArray, List.set_cons_zero, List.set_cons_succ])))
              apply relWalk_const (c := .agg Q) (fun W => Below.refl _ _)
              · intro W hC hF
                rw [if_pos (wanted_none _ rfl)]
                refine gives_load_at 44 _ rfl ⟨gp, op_, none⟩ rfl (q.map c8) _ Try.underlying44 rfl HQi.out (fun j v hv => ?_) ⟨by rw [HQV.out], rfl⟩
                exact (hC.cell (by rw [block_of_add]; exact hgpw)).trans (HLQ.out j v hv)
              (try simp only [Act.put, List.setIfInBounds_toArray, List.set_cons_zero, List.set_cons_succ])
              refine relWalk_rel (fun v => v = .agg Y) (fun _ _ => True) ⟨_, rfl⟩ (fun _ _ _ _ _ => trivial) (by rfl) ?_ ?_
              · intro W hC hF
                refine gives_call rfl [.agg X, .agg Q] rfl (enters_of Try.func81 (by kernel_rfl) rfl) ?_
                refine (HPr.out W hC).mono ?_
                rintro e w' ⟨rfl, hb⟩
                exact ⟨_, rfl, rfl, trivial, below_next hC hb, hb⟩
              rintro v rfl
              (try simp only [Act.put, List.setIfInBounds_toArray, List.set_cons_zero, List.set_cons_succ])
              apply relWalk_nil
              intro W hC hF
              clear hF
              have hKx2 := hide (hKx.out.below hC kxl)
              have hKr2 := hide (hKr.out.below hC krl2)
              have hB2 := hide (hB.out.trans (hC.mono hsz))
              have hP2 := HPc.out W hC
              clear HPr HPc HLQ hC hKx hKr hB
              go_upto_region 12 with ((with_reducible show wpList _ _ _ (⟨_, .store 44 _ _, _, _, _, _⟩ :: _) _ _); refine wpList_store_row rfl 44 _ _ rfl w1.heap.size rfl Y rfl 44 _ hKx2.out HY.out.info (hX.out.size.trans HY.out.size.symm) HY.out.one ?_)
              have hKx3 := hide (hKx2.out.setRow_ Y)
              have hKr3 := hide (hKr2.out.setRow_far (k := w1.heap.size) Y (by omega))
              have hB3 := hide (below_setRow hB2.out l1 Y)
              have hP3 := hide (hP2.keep (w' := W.setRow w1.heap.size Y) (fun p hp => World.cell?_of_block (setRow_other W w1.heap.size p.block Y (by omega))))
              clear hKx2 hKr2 hB2 hP2
              (try simp only [Act.put, List.setIfInBounds_toArray, List.set_cons_zero, List.set_cons_succ])
              obtain ⟨V, hV⟩ : ∃ V, V = W.setRow w1.heap.size Y := ⟨_, rfl⟩
              rw [← hV] at hKx3 hKr3 hB3 hP3 ⊢
              clear hV
              by_cases hc1 : c4 = 1
              · rw [if_pos hc1] at hP3
                go_wp2
                go_roundw
                case rel => exact ⟨f, i / 2, n / 2 + n % 2, mq, _, c4 - 1, y, Y, p, val_half i, val_up n, by simp [hc1], hi2, hn3, by omega, Hf2, HMq, HYl, HY, HIdp, Hck, hP3, hKx3, hKr3, hB3⟩
                case measure => simp [intOf]; omega
              · rw [if_neg hc1] at hP3
                go_wp2
                go_roundw
                case rel => exact ⟨f, i / 2, n / 2 + n % 2, mq, _, c4 - 1, y, Y, p, val_half i, val_up n, by simp, hi2, hn3, by omega, Hf2, HMq, HYl, HY, HIdp, Hck, hP3, hKx3, hKr3, hB3⟩
                case measure => simp [intOf]; omega
            · have hevd : ((i : Int) % 2 == 0) = false := by simp; omega
              have HPr : Hid (∀ W, Below wr.heap.size wr W → Calls Try.prog 81 #[.agg Q, .agg X] W fun e w' => e = .returned (.agg Y) ∧ Below W.heap.size W w') := hide fun W _ => pair_any q x Q X hql hxl.out hQ hX.out Y (by rw [← (show y = pairD q x by rw [hy, if_neg hev])]; exact hY) W
              clear hsi hs hsk hck hql hidp hQi hQ hy hyl hY hmq hev hn1 hid hP
              go_wp2
              apply wp_region_relT 5 (C := fun W => Below wr.heap.size wr W) (M := fun W W' => Below W.heap.size W W') (ss := [_, _, _, _, _]) (by kernel_rfl) (by kernel_rfl) (by kernel_rfl) (by kernel_rfl) (Below.refl _ _).drew
              simp only [List.take_succ_cons, List.take_zero, List.drop_succ_cons, List.drop_zero]
              repeat (first
                | (apply relWalk_const (fun W => Below.refl _ _)
                   · (intro W hC hF
                      clear hF
                      go_simp
                      with_reducible exact rfl)
                   (try simp only [Act.put, List.setIfInBounds_toArray, List.set_cons_zero, List.set_cons_succ])))
              apply relWalk_const (c := .agg Q) (fun W => Below.refl _ _)
              · intro W hC hF
                rw [if_pos (wanted_none _ rfl)]
                refine gives_load_at 44 _ rfl ⟨gp, op_, none⟩ rfl (q.map c8) _ Try.underlying44 rfl HQi.out (fun j v hv => ?_) ⟨by rw [HQV.out], rfl⟩
                exact (hC.cell (by rw [block_of_add]; exact hgpw)).trans (HLQ.out j v hv)
              (try simp only [Act.put, List.setIfInBounds_toArray, List.set_cons_zero, List.set_cons_succ])
              apply relWalk_const (fun W => Below.refl _ _)
              · intro W hC hF
                rw [if_pos]
                · exact gives_load_row 44 _ rfl w1.heap.size rfl 44 X (0, 0) _ (hKx.out.below hC hKx.out.lt) Try.underlying44 rfl HXi.out ⟨rfl, rfl⟩
                · rfl
              (try simp only [Act.put, List.setIfInBounds_toArray, List.set_cons_zero, List.set_cons_succ])
              refine relWalk_rel (fun v => v = .agg Y) (fun _ _ => True) ⟨_, rfl⟩ (fun _ _ _ _ _ => trivial) (by rfl) ?_ ?_
              · intro W hC hF
                refine gives_call rfl [.agg Q, .agg X] rfl (enters_of Try.func81 (by kernel_rfl) rfl) ?_
                refine (HPr.out W hC).mono ?_
                rintro e w' ⟨rfl, hb⟩
                exact ⟨_, rfl, rfl, trivial, below_next hC hb, hb⟩
              rintro v rfl
              (try simp only [Act.put, List.setIfInBounds_toArray, List.set_cons_zero, List.set_cons_succ])
              apply relWalk_nil
              intro W hC hF
              clear hF
              have hKx2 := hide (hKx.out.below hC kxl)
              have hKr2 := hide (hKr.out.below hC krl2)
              have hB2 := hide (hB.out.trans (hC.mono hsz))
              have hP2 := HPc.out W hC
              clear HPr HPc HLQ hC hKx hKr hB
              go_upto_region 12 with ((with_reducible show wpList _ _ _ (⟨_, .store 44 _ _, _, _, _, _⟩ :: _) _ _); refine wpList_store_row rfl 44 _ _ rfl w1.heap.size rfl Y rfl 44 _ hKx2.out HY.out.info (hX.out.size.trans HY.out.size.symm) HY.out.one ?_)
              have hKx3 := hide (hKx2.out.setRow_ Y)
              have hKr3 := hide (hKr2.out.setRow_far (k := w1.heap.size) Y (by omega))
              have hB3 := hide (below_setRow hB2.out l1 Y)
              have hP3 := hide (hP2.keep (w' := W.setRow w1.heap.size Y) (fun p hp => World.cell?_of_block (setRow_other W w1.heap.size p.block Y (by omega))))
              clear hKx2 hKr2 hB2 hP2
              (try simp only [Act.put, List.setIfInBounds_toArray, List.set_cons_zero, List.set_cons_succ])
              obtain ⟨V, hV⟩ : ∃ V, V = W.setRow w1.heap.size Y := ⟨_, rfl⟩
              rw [← hV] at hKx3 hKr3 hB3 hP3 ⊢
              clear hV
              by_cases hc1 : c4 = 1
              · rw [if_pos hc1] at hP3
                go_wp2
                go_roundw
                case rel => exact ⟨f, i / 2, n / 2 + n % 2, mq, _, c4 - 1, y, Y, p, val_half i, val_up n, by simp [hc1], hi2, hn3, by omega, Hf2, HMq, HYl, HY, HIdp, Hck, hP3, hKx3, hKr3, hB3⟩
                case measure => simp [intOf]; omega
              · rw [if_neg hc1] at hP3
                go_wp2
                go_roundw
                case rel => exact ⟨f, i / 2, n / 2 + n % 2, mq, _, c4 - 1, y, Y, p, val_half i, val_up n, by simp, hi2, hn3, by omega, Hf2, HMq, HYl, HY, HIdp, Hck, hP3, hKx3, hKr3, hB3⟩
                case measure => simp [intOf]; omega
  · have hres : chkD root item i n ids = false := by rw [chkD, if_neg hin]
    rw [hres]
    obtain ⟨W0, hW0⟩ : ∃ W0, W0 = w.alloc (.cells RV 44) := ⟨_, rfl⟩
    have B0 := hide ((Below.refl w.heap.size w).alloc (Nat.le_refl _) (.cells RV 44))
    clear hres hr hp hids hnp hrl hRV hW0
    by_cases h0 : 0 ≤ i
    · have hd1 : decide (i < 0) = false := by simp; omega
      have hd2 : decide (n ≤ i) = true := by simp; omega
      clear hin
      go_enter Try.func59, Try.ntmps59
      go_wp2
      go_ret
      exact ⟨rfl, B0.out⟩
    · have hd1 : decide (i < 0) = true := by simp; omega
      clear hin
      go_enter Try.func59, Try.ntmps59
      go_wp2
      go_ret
      exact ⟨rfl, B0.out⟩
end Go.Proofs.Ytdikknfdgpdenaa
namespace Go.Proofs.Ytdikknfdgpdenaa
open Go.RowKit
set_option linter.unusedVariables false
set_option linter.unusedSimpArgs false
attribute [local go_sem] Gives givesUpon
attribute [local irreducible] Gives

theorem val_up2 (n : Nat) : Value.int .i64 (((n : Int) - (n : Int) % 2) / 2 + (n : Int) % 2) = .int .i64 ((n / 2 + n % 2 : Nat) : Int) := by
  congr 1; omega
theorem reads_idN {w : World} {B n u : Nat} {g o : Nat} {q : List (BitVec 8)} {ids : List (List (BitVec 8))} (h : Reads w B 32 (some ⟨g, o, none⟩) n (ids.flatten.map c8)) (hi : Ids ids) (hn : 0 < n) (hu : ids[u]? = some q) : ∀ j v, (q.map c8)[j]? = some v → w.cell? ((⟨g, o + u * 32, none⟩ : Addr).add j) = some v := by
  intro j v hv
  obtain ⟨ad, e, _, hc⟩ := h.2 hn
  cases e
  have hq : q.length = 32 := hi q (List.mem_of_getElem? hu)
  have hj : j < 32 := by have := (List.getElem?_eq_some_iff.1 hv).1; rw [List.length_map, hq] at this; exact this
  have := hc (u * 32 + j) v (by rw [List.getElem?_map, hi.flat_get u j q hu hj, ← List.getElem?_map]; exact hv)
  rw [Addr.add_lit] at this ⊢
  rw [Nat.add_assoc]; exact this
set_option maxRecDepth 100000 in
set_option maxHeartbeats 6400000 in
theorem refcheck44_any (root item : List (BitVec 8)) (RV : Array Value) (hrl : root.length = 32) (hRV : IdVal root RV) (A : Option Addr) (m c : Nat) (i n : Int) (AP : Option Addr) (np cp : Nat) (ids : List (List (BitVec 8))) (w : World)
    (hr : Reads w w.heap.size 1 A m (item.map c8)) (hc : m ≤ c) (hm : m ≤ 1000000) (hn : n ≤ 1099511627776) (hp : Reads w w.heap.size 32 AP np (ids.flatten.map c8)) (hids : Ids ids) (hnp : ids.length = np) (hcp : np ≤ cp) (hnp1 : np ≤ 100)
    (hi63 : -9223372036854775808 ≤ i ∧ i ≤ 9223372036854775807) :
    Calls Try.prog 60 #[.agg RV, .slice A m c, .int .i64 i, .int .i64 n, .slice AP np cp] w fun e w' => e = .returned (.bool (chkD root item i n ids)) ∧ Below w.heap.size w w' := by
  by_cases hin : 0 ≤ i ∧ i < n
  · obtain ⟨k, rfl⟩ : ∃ k : Nat, i = (k : Int) := ⟨i.toNat, by omega⟩
    obtain ⟨N, rfl⟩ : ∃ N : Nat, n = (N : Int) := ⟨n.toNat, by omega⟩
    have hd1 : decide ((k : Int) < 0) = false := by simp
    have hd2 : decide ((N : Int) ≤ (k : Int)) = false := by simp; omega
    obtain ⟨R, hR⟩ : ∃ R, R = checkD 40 (itemD item) k N ids := ⟨_, rfl⟩
    have hres : chkD root item k N ids = okD root R := by rw [chkD, if_pos hin, hR]; simp
    rw [hres]
    obtain ⟨Z, hZ, hZs⟩ := zeroId
    obtain ⟨x0, hx0⟩ : ∃ x, x = itemD item := ⟨_, rfl⟩
    have hx0l : x0.length = 32 := by rw [hx0]; exact itemD_len _
    obtain ⟨X0, hX0⟩ := idVal x0 hx0l
    obtain ⟨W0, hW0⟩ : ∃ W0, W0 = w.alloc (.cells RV 44) := ⟨_, rfl⟩
    have B0 : Below w.heap.size w W0 := by rw [hW0]; exact (Below.refl _ w).alloc (Nat.le_refl _) _
    have K0 : Blk W0 w.heap.size 44 RV := by rw [hW0]; exact Blk.new w 44 RV
    have HIt : Hid (Calls Try.prog 75 #[.slice A m c] W0 fun e w' => e = .returned (.agg X0) ∧ Below W0.heap.size W0 w') := hide (by rw [hX0.val, hx0]; exact refitem_any A m c item W0 (hr.later B0) (by omega))
    have HRx : Hid (checkD 40 x0 k N ids = R) := hide (by rw [hR, hx0])
    have HP0 := hide hp
    have HB := hide B0
    have HK := hide K0
    have HW := hide hW0.symm
    have HRl := hide hrl
    have HRV := hide hRV
    have HIds := hide hids
    have HNp := hide hnp
    have hk : k < N := by omega
    have hN : N ≤ 2 ^ 40 := by omega
    replace hX0 := hide hX0
    replace hx0l := hide hx0l
    replace hZ := hide hZ
    replace hZs := hide hZs
    replace hN := hide hN
    clear hR hres hx0 hr hp hids hnp hrl hRV hW0 B0 K0 hin hi63
    go_enter Try.func60, Try.ntmps60
    go_wp2_with (first
      | (rw [HW.out]; go_at_call 75; (with_reducible refine HIt.out.mono ?_); rintro e w1 ⟨rfl, hb1⟩; have K1 := hide (Blk.new w1 44 Z); have B1 := hide (HB.out.trans (hb1.mono HB.out.size)); have KR1 := hide (HK.out.below hb1 HK.out.lt); clear hb1)
      | ((with_reducible show wpList _ _ _ (⟨some 11, .alloc _, _, _, _, _⟩ :: _) _ _); refine wpList_alloc_is rfl 44 rfl Z hZ.out ?_)
      | ((with_reducible show wpList _ _ _ (⟨_, .store 44 _ _, _, _, _, _⟩ :: _) _ _); refine wpList_store_row rfl 44 _ _ rfl w1.heap.size rfl X0 rfl 44 _ K1.out hX0.out.info (hZs.out.trans hX0.out.size.symm) hX0.out.one ?_)
      | fail)
    have l1 := B1.out.size
    have krl := KR1.out.lt
    have hrow := below_setRow ((Below.refl w1.heap.size w1).alloc (Nat.le_refl _) (.cells Z 44)) (Nat.le_refl _) X0
    have K2 := hide (K1.out.setRow_ X0)
    have KR2 := hide (KR1.out.below hrow krl)
    have B2 := hide (B1.out.trans (hrow.mono l1))
    (try simp only [Act.put, List.setIfInBounds_toArray, List.set_cons_zero, List.set_cons_succ])
    obtain ⟨W2, hW2⟩ : ∃ W, W = (w1.alloc (.cells Z 44)).setRow w1.heap.size X0 := ⟨_, rfl⟩
    rw [← hW2] at K2 KR2 B2 ⊢
    clear hW2 hrow K1 KR1 B1
    go_wp2
    go_loopw [2, 3, 12] (fun a b s wr => ∃ (f i n u : Nat) (x : List (BitVec 8)) (X : Array Value) (p : List (List (BitVec 8))), a = .int .i64 (i : Int) ∧ b = .int .i64 (n : Int) ∧ s = .int .i64 (u : Int) ∧ i < n ∧ n ≤ N ∧ u ≤ np ∧ Hid (n ≤ 2 ^ f) ∧ Hid (ids.drop u = p) ∧
      Hid (x.length = 32) ∧ Hid (IdVal x X) ∧ Hid (checkD f x i n p = R) ∧ Hid (Blk wr w1.heap.size 44 X) ∧ Hid (Blk wr w.heap.size 44 RV) ∧ Hid (Below w.heap.size w wr)) (fun _ b _ _ => (intOf b).toNat)
    case atStart => exact ⟨40, k, N, 0, x0, X0, ids, rfl, rfl, rfl, hk, Nat.le_refl _, by omega, hN, hide rfl, hx0l, hX0, HRx, K2, KR2, B2⟩
    case round =>
      obtain ⟨f, i, n, u, x, X, p, rfl, rfl, rfl, hlt, hnN, hmc, hf, hml, hxl, hX, hck, hKx, hKr, hB⟩ := hrel
      clear K2 KR2 B2 HRx
      have hsz := hB.out.size
      by_cases hn1 : n ≤ 1
      · have hd : decide ((1 : Int) < (n : Int)) = false := by simp; omega
        have hRe : R = some (x, p) := by rw [← hck.out, checkD_end f x i n p hn1]
        have HRe := hide hRe
        have HXi := hide hX.out.info
        have HRi := hide HRV.out.info
        have heq : ∀ W : World, (Op.equalIn 10000 44 (.agg X) (.agg RV)).run Try.prog W = .ok (decide (x = root)) W := fun W => by
          rw [hX.out.val, HRV.out.val]; exact eq_id x root hxl.out HRl.out W
        clear hRe
        by_cases hxr : x = root
        · have hdx : decide (x = root) = true := decide_eq_true hxr
          rw [hdx] at heq
          cases p with
          | nil =>
            have hun : u = np := by have := congrArg List.length hml.out; rw [List.length_drop, HNp.out] at this; simp at this; omega
            have hue : ((u : Int) == (np : Int)) = true := by simp; omega
            have hue2 : (u == np) = true := by simp; omega
            have hres : okD root R = true := by rw [HRe.out, okD, hxr]; simp
            have HRes := hide hres
            clear hres hxr hdx
            go_wp2_with (first
              | ((with_reducible show wpList _ _ _ (⟨some 64, .load _ _, _, _, _, _⟩ :: _) _ _); refine wpList_load_row rfl 44 _ rfl w1.heap.size rfl 44 X (0, 0) _ hKx.out Try.underlying44 rfl HXi.out ?_)
              | ((with_reducible show wpList _ _ _ (⟨some 65, .load _ _, _, _, _, _⟩ :: _) _ _); refine wpList_load_row rfl 44 _ rfl w.heap.size rfl 44 RV (0, 0) _ hKr.out Try.underlying44 rfl HRi.out ?_))
            go_ret
            exact ⟨by rw [HRes.out]; rfl, hB.out⟩
          | cons q p =>
            have hun : u < np := by have := congrArg List.length hml.out; rw [List.length_drop, HNp.out] at this; simp at this; omega
            have hue : ((u : Int) == (np : Int)) = false := by simp; omega
            have hue2 : (u == np) = false := by simp; omega
            have hres : okD root R = false := by rw [HRe.out, okD]; simp
            have HRes := hide hres
            clear hres hxr hdx
            go_wp2_with (first
              | ((with_reducible show wpList _ _ _ (⟨some 64, .load _ _, _, _, _, _⟩ :: _) _ _); refine wpList_load_row rfl 44 _ rfl w1.heap.size rfl 44 X (0, 0) _ hKx.out Try.underlying44 rfl HXi.out ?_)
              | ((with_reducible show wpList _ _ _ (⟨some 65, .load _ _, _, _, _, _⟩ :: _) _ _); refine wpList_load_row rfl 44 _ rfl w.heap.size rfl 44 RV (0, 0) _ hKr.out Try.underlying44 rfl HRi.out ?_))
            go_ret
            exact ⟨by rw [HRes.out]; rfl, hB.out⟩
        · have hdx : decide (x = root) = false := decide_eq_false hxr
          rw [hdx] at heq
          have hres : okD root R = false := by rw [HRe.out]; cases p <;> simp [okD, hxr]
          have HRes := hide hres
          clear hres hxr hdx
          go_wp2_with (first
            | ((with_reducible show wpList _ _ _ (⟨some 64, .load _ _, _, _, _, _⟩ :: _) _ _); refine wpList_load_row rfl 44 _ rfl w1.heap.size rfl 44 X (0, 0) _ hKx.out Try.underlying44 rfl HXi.out ?_)
            | ((with_reducible show wpList _ _ _ (⟨some 65, .load _ _, _, _, _, _⟩ :: _) _ _); refine wpList_load_row rfl 44 _ rfl w.heap.size rfl 44 RV (0, 0) _ hKr.out Try.underlying44 rfl HRi.out ?_))
          go_ret
          exact ⟨by rw [HRes.out]; rfl, hB.out⟩
      · have hd : decide ((1 : Int) < (n : Int)) = true := by simp; omega
        obtain ⟨f, rfl⟩ : ∃ g, f = g + 1 := ⟨f - 1, by have := hf.out; cases f with | zero => simp at this; omega | succ g => omega⟩
        have Hf2 := hide (half_le n f hf.out)
        have hi2 : i / 2 < n / 2 + n % 2 := by omega
        have hn2 : n / 2 + n % 2 < n := by omega
        have hn3 : n / 2 + n % 2 ≤ N := by omega
        have hb1 : (i : Int) ≤ 1099511627776 := by omega
        have hb2 : (n : Int) ≤ 1099511627776 := by omega
        have hb3 : (0 : Int) ≤ (i : Int) := by omega
        by_cases hsk : i % 2 = 0 ∧ n ≤ i + 1
        · have he1 : ((i : Int) % 2 == 1) = false := by simp; omega
          have he2 : decide ((i : Int) + 1 < (n : Int)) = false := by simp; omega
          have he3 : decide (i + 1 < n) = false := by simp; omega
          have Hck := hide ((checkD_skip f x i n p hn1 hsk).symm.trans hck.out)
          clear hsk hck hn1
          go_wp2
          go_roundw
          case rel => exact ⟨f, i / 2, n / 2 + n % 2, u, x, X, p, val_half i, val_up2 n, rfl, hi2, hn3, hmc, Hf2, hml, hxl, hX, Hck, hKx, hKr, hB⟩
          case measure => simp [intOf]; omega
        · rcases (by omega : i % 2 = 1 ∨ (i % 2 = 0 ∧ i + 1 < n)) with hodd | ⟨heven, hin1⟩
          · have he1 : ((i : Int) % 2 == 1) = true := by simp; omega
            cases p with
            | nil =>
              have hres : okD root R = false := by rw [← hck.out, checkD_none f x i n hn1 hsk]; rfl
              have HRes := hide hres
              have hun : np ≤ u := by have := congrArg List.length hml.out; rw [List.length_drop, HNp.out] at this; simp at this; omega
              have hud : decide (np ≤ u) = true := decide_eq_true hun
              clear hres hsk hck
              go_wp2
              go_ret
              exact ⟨by rw [HRes.out]; rfl, hB.out⟩
            | cons q p =>
              have hun : u < np := by have := congrArg List.length hml.out; rw [List.length_drop, HNp.out] at this; simp at this; omega
              have hud : decide (np ≤ u) = false := decide_eq_false (by omega)
              have hqu : ids[u]? = some q := by
                have := congrArg (fun l => l[0]?) hml.out
                simpa using this
              have hdr : ids.drop (u + 1) = p := by
                have := congrArg (List.drop 1) hml.out
                simpa [List.drop_drop] using this
              have hql : q.length = 32 := HIds.out q (List.mem_of_getElem? hqu)
              obtain ⟨Q, hQ⟩ := idVal q hql
              obtain ⟨gp, op_, rfl, hgp⟩ := reads32_at HP0.out (by omega)
              have HLQ := hide (reads_idN HP0.out HIds.out (by omega) hqu)
              have hQi : (Try.prog.info? 44).map (·.size) = some (q.map c8).length := by rw [List.length_map, hql]; exact info_id
              have HQi := hide hQi
              have HQV := hide hQ.val
              have HXi := hide hX.out.info
              obtain ⟨y, hy⟩ : ∃ y, y = if i % 2 = 0 then pairD x q else pairD q x := ⟨_, rfl⟩
              have hyl : y.length = 32 := by rw [hy]; split <;> exact pairD_len _ _
              obtain ⟨Y, hY⟩ := idVal y hyl
              have Hck : Hid (checkD f y (i / 2) (n / 2 + n % 2) p = R) := hide (by rw [hy, ← checkD_some f x i n q p hn1 hsk]; exact hck.out)
              have hgpw : gp < wr.heap.size := by omega
              have kxl := hKx.out.lt
              have krl2 := hKr.out.lt
              have HYl := hide hyl
              have HY := hide hY
              have Hdr := hide hdr
              have u0 : (0 : Int) ≤ (u : Int) := by omega
              have u1 : (u : Int) < (np : Int) := by omega
              have HPr : Hid (∀ W, Below wr.heap.size wr W → Calls Try.prog 82 #[.agg Q, .agg X] W fun e w' => e = .returned (.agg Y) ∧ Below W.heap.size W w') := hide fun W _ => refpair_any q x Q X hql hxl.out hQ hX.out Y (by rw [← (show y = pairD q x by rw [hy, if_neg (by omega)])]; exact hY) W
              clear hsk hck hql hQi hQ hy hyl hY hn1 hml hqu hdr hodd
              go_wp2
              apply wp_region_relT 6 (C := fun W => Below wr.heap.size wr W) (M := fun W W' => Below W.heap.size W W') (ss := [_, _, _, _, _, _]) (by kernel_rfl) (by kernel_rfl) (by kernel_rfl) (by kernel_rfl) (Below.refl _ _).drew
              simp only [List.take_succ_cons, List.take_zero, List.drop_succ_cons, List.drop_zero]
              repeat (first
                | (apply relWalk_const (fun W => Below.refl _ _)
                   · (intro W hC hF
                      clear hF
                      go_simp
                      with_reducible exact rfl)
                   (try simp only [Act.put, List.setIfInBounds_toArray, List.set_cons_zero, List.set_cons_succ])))
              apply relWalk_const (c := .agg Q) (fun W => Below.refl _ _)
              · intro W hC hF
                rw [if_pos (wanted_none _ rfl)]
                refine gives_load_at 44 _ rfl ⟨gp, op_ + u * 32, none⟩ rfl (q.map c8) _ Try.underlying44 rfl HQi.out (fun j v hv => ?_) ⟨by rw [HQV.out], rfl⟩
                exact (hC.cell (by rw [block_of_add]; exact hgpw)).trans ((hB.out.cell (by rw [block_of_add]; exact hgp)).trans (HLQ.out j v hv))
              (try simp only [Act.put, List.setIfInBounds_toArray, List.set_cons_zero, List.set_cons_succ])
              apply relWalk_const (fun W => Below.refl _ _)
              · intro W hC hF
                rw [if_pos]
                · exact gives_load_row 44 _ rfl w1.heap.size rfl 44 X (0, 0) _ (hKx.out.below hC hKx.out.lt) Try.underlying44 rfl HXi.out ⟨rfl, rfl⟩
                · rfl
              (try simp only [Act.put, List.setIfInBounds_toArray, List.set_cons_zero, List.set_cons_succ])
              refine relWalk_rel (fun v => v = .agg Y) (fun _ _ => True) ⟨_, rfl⟩ (fun _ _ _ _ _ => trivial) (by rfl) ?_ ?_
              · intro W hC hF
                refine gives_call rfl [.agg Q, .agg X] rfl (enters_of Try.func82 (by kernel_rfl) rfl) ?_
                refine (HPr.out W hC).mono ?_
                rintro e w' ⟨rfl, hb⟩
                exact ⟨_, rfl, rfl, trivial, below_next hC hb, hb⟩
              rintro v rfl
              (try simp only [Act.put, List.setIfInBounds_toArray, List.set_cons_zero, List.set_cons_succ])
              apply relWalk_nil
              intro W hC hF
              clear hF
              have hKx2 := hide (hKx.out.below hC kxl)
              have hKr2 := hide (hKr.out.below hC krl2)
              have hB2 := hide (hB.out.trans (hC.mono hsz))
              clear HPr HLQ hC hKx hKr hB
              go_upto_region 12 with ((with_reducible show wpList _ _ _ (⟨_, .store 44 _ _, _, _, _, _⟩ :: _) _ _); refine wpList_store_row rfl 44 _ _ rfl w1.heap.size rfl Y rfl 44 _ hKx2.out HY.out.info (hX.out.size.trans HY.out.size.symm) HY.out.one ?_)
              have hKx3 := hide (hKx2.out.setRow_ Y)
              have hKr3 := hide (hKr2.out.setRow_far (k := w1.heap.size) Y (by omega))
              have hB3 := hide (below_setRow hB2.out l1 Y)
              clear hKx2 hKr2 hB2
              (try simp only [Act.put, List.setIfInBounds_toArray, List.set_cons_zero, List.set_cons_succ])
              obtain ⟨V, hV⟩ : ∃ V, V = W.setRow w1.heap.size Y := ⟨_, rfl⟩
              rw [← hV] at hKx3 hKr3 hB3 ⊢
              clear hV
              go_wp2
              go_roundw
              case rel => exact ⟨f, i / 2, n / 2 + n % 2, u + 1, y, Y, p, val_half i, val_up2 n, int_succ u, hi2, hn3, hun, Hf2, Hdr, HYl, HY, Hck, hKx3, hKr3, hB3⟩
              case measure => simp [intOf]; omega
          · have he1 : ((i : Int) % 2 == 1) = false := by simp; omega
            have he2 : decide ((i : Int) + 1 < (n : Int)) = true := by simp; omega
            have he3 : decide (i + 1 < n) = true := by simp; omega
            cases p with
            | nil =>
              have hres : okD root R = false := by rw [← hck.out, checkD_none f x i n hn1 hsk]; rfl
              have HRes := hide hres
              have hun : np ≤ u := by have := congrArg List.length hml.out; rw [List.length_drop, HNp.out] at this; simp at this; omega
              have hud : decide (np ≤ u) = true := decide_eq_true hun
              clear hres hsk hck
              go_wp2
              go_ret
              exact ⟨by rw [HRes.out]; rfl, hB.out⟩
            | cons q p =>
              have hun : u < np := by have := congrArg List.length hml.out; rw [List.length_drop, HNp.out] at this; simp at this; omega
              have hud : decide (np ≤ u) = false := decide_eq_false (by omega)
              have hqu : ids[u]? = some q := by
                have := congrArg (fun l => l[0]?) hml.out
                simpa using this
              have hdr : ids.drop (u + 1) = p := by
                have := congrArg (List.drop 1) hml.out
                simpa [List.drop_drop] using this
              have hql : q.length = 32 := HIds.out q (List.mem_of_getElem? hqu)
              obtain ⟨Q, hQ⟩ := idVal q hql
              obtain ⟨gp, op_, rfl, hgp⟩ := reads32_at HP0.out (by omega)
              have HLQ := hide (reads_idN HP0.out HIds.out (by omega) hqu)
              have hQi : (Try.prog.info? 44).map (·.size) = some (q.map c8).length := by rw [List.length_map, hql]; exact info_id
              have HQi := hide hQi
              have HQV := hide hQ.val
              have HXi := hide hX.out.info
              obtain ⟨y, hy⟩ : ∃ y, y = if i % 2 = 0 then pairD x q else pairD q x := ⟨_, rfl⟩
              have hyl : y.length = 32 := by rw [hy]; split <;> exact pairD_len _ _
              obtain ⟨Y, hY⟩ := idVal y hyl
              have Hck : Hid (checkD f y (i / 2) (n / 2 + n % 2) p = R) := hide (by rw [hy, ← checkD_some f x i n q p hn1 hsk]; exact hck.out)
              have hgpw : gp < wr.heap.size := by omega
              have kxl := hKx.out.lt
              have krl2 := hKr.out.lt
              have HYl := hide hyl
              have HY := hide hY
              have Hdr := hide hdr
              have u0 : (0 : Int) ≤ (u : Int) := by omega
              have u1 : (u : Int) < (np : Int) := by omega
              have HPr : Hid (∀ W, Below wr.heap.size wr W → Calls Try.prog 82 #[.agg X, .agg Q] W fun e w' => e = .returned (.agg Y) ∧ Below W.heap.size W w') := hide fun W _ => refpair_any x q X Q hxl.out hql hX.out hQ Y (by rw [← (show y = pairD x q by rw [hy, if_pos heven])]; exact hY) W
              clear hsk hck hql hQi hQ hy hyl hY hn1 hml hqu hdr heven hin1
              go_wp2
              apply wp_region_relT 6 (C := fun W => Below wr.heap.size wr W) (M := fun W W' => Below W.heap.size W W') (ss := [_, _, _, _, _, _]) (by kernel_rfl) (by kernel_rfl) (by kernel_rfl) (by kernel_rfl) (Below.refl _ _).drew
              simp only [List.take_succ_cons, List.take_zero, List.drop_succ_cons, List.drop_zero]
              apply relWalk_const (fun W => Below.refl _ _)
              · intro W hC hF
                rw [if_pos]
                · exact gives_load_row 44 _ rfl w1.heap.size rfl 44 X (0, 0) _ (hKx.out.below hC hKx.out.lt) Try.underlying44 rfl HXi.out ⟨rfl, rfl⟩
                · rfl
              (try simp only [Act.put, List.setIfInBounds_toArray, List.set_cons_zero, List.set_cons_succ])
              repeat (first
                | (apply relWalk_const (fun W => Below.refl _ _)
                   · (intro W hC hF
                      clear hF
                      go_simp
                      with_reducible exact rfl)
                   (try simp only [Act.put, List.setIfInBounds_toArray, List.set_cons_zero, List.set_cons_succ])))
              apply relWalk_const (c := .agg Q) (fun W => Below.refl _ _)
              · intro W hC hF
                rw [if_pos (wanted_none _ rfl)]
                refine gives_load_at 44 _ rfl ⟨gp, op_ + u * 32, none⟩ rfl (q.map c8) _ Try.underlying44 rfl HQi.out (fun j v hv => ?_) ⟨by rw [HQV.out], rfl⟩
                exact (hC.cell (by rw [block_of_add]; exact hgpw)).trans ((hB.out.cell (by rw [block_of_add]; exact hgp)).trans (HLQ.out j v hv))
              (try simp only [Act.put, List.setIfInBounds_toArray, List.set_cons_zero, List.set_cons_succ])
              refine relWalk_rel (fun v => v = .agg Y) (fun _ _ => True) ⟨_, rfl⟩ (fun _ _ _ _ _ => trivial) (by rfl) ?_ ?_
              · intro W hC hF
                refine gives_call rfl [.agg X, .agg Q] rfl (enters_of Try.func82 (by kernel_rfl) rfl) ?_
                refine (HPr.out W hC).mono ?_
                rintro e w' ⟨rfl, hb⟩
                exact ⟨_, rfl, rfl, trivial, below_next hC hb, hb⟩
              rintro v rfl
              (try simp only [Act.put, List.setIfInBounds_toArray, List.set_cons_zero, List.set_cons_succ])
              apply relWalk_nil
              intro W hC hF
              clear hF
              have hKx2 := hide (hKx.out.below hC kxl)
              have hKr2 := hide (hKr.out.below hC krl2)
              have hB2 := hide (hB.out.trans (hC.mono hsz))
              clear HPr HLQ hC hKx hKr hB
              go_upto_region 12 with ((with_reducible show wpList _ _ _ (⟨_, .store 44 _ _, _, _, _, _⟩ :: _) _ _); refine wpList_store_row rfl 44 _ _ rfl w1.heap.size rfl Y rfl 44 _ hKx2.out HY.out.info (hX.out.size.trans HY.out.size.symm) HY.out.one ?_)
              have hKx3 := hide (hKx2.out.setRow_ Y)
              have hKr3 := hide (hKr2.out.setRow_far (k := w1.heap.size) Y (by omega))
              have hB3 := hide (below_setRow hB2.out l1 Y)
              clear hKx2 hKr2 hB2
              (try simp only [Act.put, List.setIfInBounds_toArray, List.set_cons_zero, List.set_cons_succ])
              obtain ⟨V, hV⟩ : ∃ V, V = W.setRow w1.heap.size Y := ⟨_, rfl⟩
              rw [← hV] at hKx3 hKr3 hB3 ⊢
              clear hV
              go_wp2
              go_roundw
              case rel => exact ⟨f, i / 2, n / 2 + n % 2, u + 1, y, Y, p, val_half i, val_up2 n, int_succ u, hi2, hn3, hun, Hf2, Hdr, HYl, HY, Hck, hKx3, hKr3, hB3⟩
              case measure => simp [intOf]; omega
  · have hres : chkD root item i n ids = false := by rw [chkD, if_neg hin]
    rw [hres]
    obtain ⟨W0, hW0⟩ : ∃ W0, W0 = w.alloc (.cells RV 44) := ⟨_, rfl⟩
    have B0 := hide ((Below.refl w.heap.size w).alloc (Nat.le_refl _) (.cells RV 44))
    clear hres hr hp hids hnp hrl hRV hW0
    by_cases h0 : 0 ≤ i
    · have hd1 : decide (i < 0) = false := by simp; omega
      have hd2 : decide (n ≤ i) = true := by simp; omega
      clear hin
      go_enter Try.func60, Try.ntmps60
      go_wp2
      go_ret
      exact ⟨rfl, B0.out⟩
    · have hd1 : decide (i < 0) = true := by simp; omega
      clear hin
      go_enter Try.func60, Try.ntmps60
      go_wp2
      go_ret
      exact ⟨rfl, B0.out⟩
end Go.Proofs.Ytdikknfdgpdenaa
namespace Go.Proofs.Ytdikknfdgpdenaa
open Go.RowKit
set_option linter.unusedVariables false
set_option linter.unusedSimpArgs false

theorem info_idfull : (Try.prog.info? 44).map (fun i => (i.zero, i.size, i.bytes)) = some (some (.agg (List.replicate 32 (c8 0)).toArray), 32, 32) := by kernel_rfl
theorem fill_id (R : Array Value) (hR : R.size = 32) (cells : Array Value) (hc : cells.size = 32) : Instr.fill (fun i => some (i * 32, 32)) cells [(0, .agg R)] = some R := by
  have h := Great.fill_whole (s := 32) (by omega) [Value.agg R] cells (by intro v hv; simp at hv; subst hv; exact hR) (by simp [hc])
  simpa [Value.cells] using h
theorem run_build_id (w : World) (R : Array Value) (hR : R.size = 32) : (Instr.buildSlice 68 1 #[(0, .agg R)]).run Try.prog w = .ok (.slice (some ⟨w.heap.size, 0, none⟩) 1 1) (w.alloc (.cells R 44)) := by
  obtain ⟨i, hi, hz0, hz1, hz2⟩ := info_parts info_idfull
  refine run_buildSlice w 68 44 1 _ R i _ Try.underlying68 hi hz0 (by rw [hz1]; decide) (by rw [hz1]; decide) ?_
  rw [hz1]
  exact fill_id R hR _ (by simp)
theorem wpList_build_id {ops : Array Oper} {rest : List Oper} {o : Oper} {a : Act} {w : World} {Q : Exit → Act → World → Prop} (hgd : o.guard = none) (x : Operand) (ho : o.op = .buildSlice 68 1 #[(0, x)]) (R : Array Value) (hx : a.eval x = .agg R) (hR : R.size = 32)
    (h : wpList Try.prog ops Q rest (a.put o.dst (.slice (some ⟨w.heap.size, 0, none⟩) 1 1)) (w.alloc (.cells R 44))) : wpList Try.prog ops Q (o :: rest) a w := by
  refine wpList_plain hgd fun _ hK => ?_
  unfold Oper.wp execOp
  simp only [ho, Sem.run_bind, List.map_toArray, List.map_cons, List.map_nil, hx, run_build_id w R hR, Result.andThen_ok]
  exact hK _ _ h
theorem gives_build_id {o : Oper} {a : Act} {w : World} {X : Value → World → Prop} (x : Operand) (ho : o.op = .buildSlice 68 1 #[(0, x)]) (R : Array Value) (hx : a.eval x = .agg R) (hR : R.size = 32)
    (h : X (.slice (some ⟨w.heap.size, 0, none⟩) 1 1) (w.alloc (.cells R 44))) : Gives Try.prog o a w X := by
  unfold Gives execOp
  simp only [ho, Sem.run_bind, List.map_toArray, List.map_cons, List.map_nil, hx, run_build_id w R hR, Result.andThen_ok, givesUpon]
  exact h
/-- a block of 32 bytes as a row of one id -/
theorem reads_blk_id {W : World} {g : Nat} {q : List (BitVec 8)} {R : Array Value} (h : Blk W g 44 R) (hq : q.length = 32) (hR : IdVal q R) : Reads W W.heap.size 32 (some ⟨g, 0, none⟩) 1 (([q].flatten).map c8) :=
  ⟨by simp [hq], fun _ => ⟨_, rfl, h.lt, fun j v hv => by
    rw [Addr.add_lit, Nat.zero_add, h.cell, hR.val, List.getElem?_toArray]
    simpa using hv⟩⟩
/-- a row of ids of one's own, made since w0 -/
structure OwnIds (w0 w : World) (v : Value) (ids : List (List (BitVec 8))) : Prop where
  hid : Ids ids
  own : w.ownsRow w0.heap.size 44 32 v ids.length (ids.flatten.map c8)
  below : Below w0.heap.size w0 w
theorem OwnIds.none_ {w0 w : World} (h : Below w0.heap.size w0 w) : OwnIds w0 w (.slice none 0 0) [] := ⟨Ids.nil, ⟨rfl, .inl ⟨rfl, rfl⟩⟩, h⟩
theorem OwnIds.later {w0 w w' : World} {v : Value} {ids : List (List (BitVec 8))} (h : OwnIds w0 w v ids) (hb : Below w.heap.size w w') : OwnIds w0 w' v ids :=
  ⟨h.hid, ⟨h.own.1, h.own.2.imp id fun ⟨g, cap, cur, h1, h2, h3, h4⟩ => ⟨g, cap, cur, h1, h2, (hb.block g (Array.getElem?_eq_some_iff.1 h3).1).trans h3, h4⟩⟩, below_next h.below hb⟩
theorem OwnIds.slice {w0 w : World} {v : Value} {ids : List (List (BitVec 8))} (h : OwnIds w0 w v ids) : ∃ A c, v = .slice A ids.length c ∧ ids.length ≤ c := by
  obtain ⟨A, c, rfl⟩ := own_slice h.own
  exact ⟨A, c, rfl, own_cap h.own⟩
theorem OwnIds.reads {w0 w : World} {A : Option Addr} {n c : Nat} {ids : List (List (BitVec 8))} (h : OwnIds w0 w (.slice A n c) ids) : Reads w w.heap.size 32 A ids.length (ids.flatten.map c8) := by
  obtain ⟨A', c', e, _⟩ := h.slice
  injection e with e1 e2 e3
  have := h.own
  rw [e2] at this
  exact Reads.of_own this
/-- a row that is read, and is not this one -/
def FarIds (w : World) (v : Value) (A : Option Addr) (n : Nat) (ids : List (List (BitVec 8))) : Prop := Reads w w.heap.size 32 A n (ids.flatten.map c8) ∧ ∀ ad, A = some ad → some ad.block ≠ v.ownBlock
theorem FarIds.reads {w : World} {v : Value} {A : Option Addr} {n : Nat} {ids : List (List (BitVec 8))} (h : FarIds w v A n ids) : Reads w w.heap.size 32 A n (ids.flatten.map c8) := h.1
theorem FarIds.later {w w' : World} {v : Value} {A : Option Addr} {n : Nat} {ids : List (List (BitVec 8))} (h : FarIds w v A n ids) (hb : Below w.heap.size w w') : FarIds w' v A n ids := ⟨h.1.later hb, h.2⟩
theorem FarIds.grown {w w' : World} {v v' : Value} {A : Option Addr} {n : Nat} {ids : List (List (BitVec 8))} (h : FarIds w v A n ids) (hn : 0 < n) (hg : w.grownBy w' v.ownBlock) (hv : v'.ownBlock = v.ownBlock ∨ v'.ownBlock = some w.heap.size) : FarIds w' v' A n ids := by
  obtain ⟨ad, rfl, hb, hc⟩ := h.1.2 hn
  have hf := h.2 ad rfl
  refine ⟨⟨h.1.1, fun _ => ⟨ad, rfl, Nat.lt_of_lt_of_le hb hg.size, fun j u hu => ?_⟩⟩, fun ad' e => ?_⟩
  · refine (World.cell?_of_block (hg.block _ ?_ ?_)).trans (hc j u hu)
    · rw [block_of_add]; exact hb
    · rw [block_of_add]; exact hf
  · cases e
    rcases hv with hv | hv
    · rw [hv]; exact hf
    · rw [hv]; intro e; injection e; omega
theorem OwnIds.far {w0 w w' : World} {v : Value} {ids : List (List (BitVec 8))} (h : OwnIds w0 w v ids) {A : Option Addr} {n c : Nat} {ids' : List (List (BitVec 8))} (k : OwnIds w w' (.slice A n c) ids') : FarIds w' v A ids'.length ids' := by
  refine ⟨k.reads, fun ad e hx => ?_⟩
  subst e
  rcases k.own.2 with ⟨e, _⟩ | ⟨g, cap, cur, e, hb, _⟩
  · cases e
  · injection e with e1
    cases e1
    rcases h.own.2 with ⟨rfl, _⟩ | ⟨g', cap', cur', rfl, _, h3, _⟩
    · simp [Value.ownBlock] at hx
    · simp [Value.ownBlock] at hx
      have := (Array.getElem?_eq_some_iff.1 h3).1
      omega
theorem OwnIds.grown {w0 w w' : World} {v v' : Value} {ids new : List (List (BitVec 8))} (h : OwnIds w0 w v ids) (hn : Ids new) {m : Nat} (hm : new.length = m) (own : w'.ownsRow w0.heap.size 44 32 v' (ids.length + m) (ids.flatten.map c8 ++ new.flatten.map c8)) (grow : w.grownBy w' v.ownBlock) : OwnIds w0 w' v' (ids ++ new) := by
  refine ⟨h.hid.append hn, ?_, below_appended h.below h.below.size h.own (Nat.le_refl _) grow⟩
  rw [List.length_append, List.flatten_append, List.map_append, hm]; exact own
theorem wpList_append_ids {ops : Array Oper} {rest : List Oper} {o : Oper} {a : Act} {w : World} {Q : Exit → Act → World → Prop} (hgd : o.guard = none) (s x : Operand)
    (ho : o.op = .call { callee := .builtin .append, args := #[s, x], argTypes := #[68, 68] }) (w0 : World) (v : Value) (ids : List (List (BitVec 8))) (hs : a.eval s = v) (h : OwnIds w0 w v ids)
    (A : Option Addr) (m c : Nat) (new : List (List (BitVec 8))) (hx : a.eval x = .slice A m c) (B : Nat) (hr : Reads w B 32 A m (new.flatten.map c8)) (hid : Ids new) (hm : new.length = m) (hb : ids.length + m ≤ 1099511627776)
    (hK : ∀ v' w', OwnIds w0 w' v' (ids ++ new) → w.grownBy w' v.ownBlock → (v'.ownBlock = v.ownBlock ∨ v'.ownBlock = some w.heap.size) → wpList Try.prog ops Q rest (a.put o.dst v') w') : wpList Try.prog ops Q (o :: rest) a w := by
  obtain ⟨i, hi, hz0, hz1, hz2⟩ := info_parts info_idfull
  refine wpList_append_any w hgd s x 68 ho w0.heap.size 44 i _ 32 32 Try.underlying68 hi hz0 hz1 hz2 (by simp [Value.cells]) (by omega) v ids.length _ hs h.own B A m c _ hx hr (oneCell_c8 _) (by simp only [maxLen]; omega) (by omega) h.below.size ?_
  intro v' w' own grow hv
  exact hK v' w' (h.grown hid hm own grow) grow hv
theorem gives_append_ids {o : Oper} {a : Act} {w : World} {X : Value → World → Prop} (s x : Operand)
    (ho : o.op = .call { callee := .builtin .append, args := #[s, x], argTypes := #[68, 68] }) (w0 : World) (v : Value) (ids : List (List (BitVec 8))) (hs : a.eval s = v) (h : OwnIds w0 w v ids)
    (A : Option Addr) (m c : Nat) (new : List (List (BitVec 8))) (hx : a.eval x = .slice A m c) (B : Nat) (hr : Reads w B 32 A m (new.flatten.map c8)) (hid : Ids new) (hm : new.length = m) (hb : ids.length + m ≤ 1099511627776)
    (hK : ∀ v' w', OwnIds w0 w' v' (ids ++ new) → w.grownBy w' v.ownBlock → X v' w') : Gives Try.prog o a w X := by
  obtain ⟨i, hi, hz0, hz1, hz2⟩ := info_parts info_idfull
  refine gives_append_any s x 68 ho w0.heap.size 44 i _ 32 32 Try.underlying68 hi hz0 hz1 hz2 (by simp [Value.cells]) (by omega) v ids.length _ hs h.own B A m c _ hx hr (oneCell_c8 _) (by simp only [maxLen]; omega) (by omega) h.below.size ?_
  intro v' w' own grow
  exact hK v' w' (h.grown hid hm own grow) grow
/-- the k-th id of a row -/
theorem reads_id_at {w : World} {B n k : Nat} {A : Option Addr} {ids : List (List (BitVec 8))} (h : Reads w B 32 A n (ids.flatten.map c8)) (hid : Ids ids) (q : List (BitVec 8)) (hq : ids[k]? = some q) (hk : k < n) :
    ∃ g o, A = some ⟨g, o, none⟩ ∧ g < B ∧ ∀ j v, (q.map c8)[j]? = some v → w.cell? ((⟨g, o, none⟩ : Addr).add (k * 32 + j)) = some v := by
  have hn : ids.length = n := by have := h.1; rw [List.length_map, hid.flat_len] at this; omega
  obtain ⟨⟨g, o, sp⟩, rfl, hb, hc⟩ := h.2 (by omega)
  have hs : sp = none := by
    have h0 := hc 0 ((ids.flatten.map c8)[0]'(by rw [List.length_map, hid.flat_len]; omega)) (by simp)
    have := World.cell?_spot h0
    simpa [Addr.add] using this
  subst hs
  refine ⟨g, o, rfl, hb, fun j v hv => hc _ v ?_⟩
  have hql : q.length = 32 := hid q (List.mem_of_getElem? hq)
  have hj : j < 32 := by have := (List.getElem?_eq_some_iff.1 hv).1; rwa [List.length_map, hql] at this
  rw [List.getElem?_map, hid.flat_get k j q hq hj, ← List.getElem?_map]; exact hv
end Go.Proofs.Ytdikknfdgpdenaa
namespace Go.Proofs.Ytdikknfdgpdenaa
open Go.RowKit
set_option linter.unusedVariables false
set_option linter.unusedSimpArgs false
attribute [local go_sem] Gives givesUpon
attribute [local irreducible] Gives

theorem take_map_next (ps : List (List (BitVec 8))) (k : Nat) (h : k < ps.length) : (ps.take (k + 1)).map itemD = (ps.take k).map itemD ++ [itemD ps[k]] := by
  rw [List.take_succ_eq_append_getElem h, List.map_append]; rfl
theorem ids_one {q : List (BitVec 8)} (h : q.length = 32) : Ids [q] := Ids.cons h Ids.nil
set_option maxRecDepth 100000 in
set_option maxHeartbeats 1600000 in
theorem mapped_any (A : Option Addr) (n c : Nat) (vs : List Value) (ps : List (List (BitVec 8))) (w : World) (hr : Reads w w.heap.size 1 A n vs) (hrs : Rows8 w w.heap.size vs ps) (hn : n ≤ 1099511627776) (hb : ps.flatten.length ≤ 1099511620000) :
    Calls Try.prog 76 #[.slice A n c, .func (.func 77) #[] #[]] w fun e w' => ∃ v, e = .returned v ∧ OwnIds w w' v (ps.map itemD) := by
  obtain ⟨i0, hi0, hz0, hz1, hz2⟩ := info_parts info_idfull
  have hvl : vs.length = n := by have := hr.1; omega
  have hpl : ps.length = n := by have := hrs.1; omega
  have HV := hide hvl
  have HP := hide hpl
  have HR := hide hr
  have HRS := hide hrs
  have HB := hide hb
  clear hr hrs hvl hpl hb
  go_enter Try.func76, Try.ntmps76
  go_wp2_with (first
    | (at_make; refine wpList_make_own _ rfl _ _ 68 rfl w.heap.size 44 i0 _ 32 Try.underlying68 hi0 hz0 hz1 .i64 .i64 _ n rfl rfl rfl (by rw [hz2]; omega) (by simp only [maxLen]; omega) (Nat.le_refl _) ?_; intro w1 own1 grow1; have O1 : Hid (OwnIds w w1 (.slice (some ⟨w.heap.size, 0, none⟩) 0 n) []) := hide ⟨Ids.nil, own1, (Below.refl _ w).grown grow1 (Nat.le_refl _) (fun q e => by cases e)⟩; clear own1 grow1)
    | fail)
  go_loopw [5, 13] (fun v i wr => ∃ k : Nat, k ≤ n ∧ i = .int .i64 (k : Int) ∧ Hid (OwnIds w wr v ((ps.take k).map itemD))) (fun _ i _ => n - (intOf i).toNat)
  case atStart => exact ⟨0, by omega, rfl, O1⟩
  case round =>
    obtain ⟨k, hk, rfl, hO⟩ := hrel
    clear O1
    by_cases hlt : k < n
    · have hd : decide ((k : Int) < (n : Int)) = true := by simp; omega
      have hkp : k < ps.length := by rw [HP.out]; exact hlt
      have hbw := hO.out.below
      have hRw := HR.out.below hbw
      obtain ⟨bA, oA, rfl, hbA⟩ := hRw.addr' (by omega)
      obtain ⟨Ak, m, ck, hcell, hrk, hmk⟩ := rows_at hRw (HRS.out.below hbw) hkp
      have hgrow := hbw.size
      have HRK := hide (hrk.more hgrow)
      have hlen := flatten_take_len ps k hkp
      have hml : ps[k].length = m := hrk.len
      have HN := hide (take_map_next ps k hkp)
      have hlk : ((ps.take k).map itemD).length = k := by rw [List.length_map, List.length_take]; omega
      have HLk := hide hlk
      have hm63 : m ≤ 1099511620000 := by have := HB.out; omega
      have hk0 : (0 : Int) ≤ (k : Int) := by omega
      have hk1 : (k : Int) < (n : Int) := by omega
      obtain ⟨q, hq⟩ : ∃ q, q = itemD ps[k] := ⟨_, rfl⟩
      have hql : q.length = 32 := by rw [hq]; exact itemD_len _
      obtain ⟨V, hV⟩ := idVal q hql
      have HC : Hid (Calls Try.prog 77 #[.slice Ak m ck] wr fun e w' => e = .returned (.agg V) ∧ Below wr.heap.size wr w') := hide (by rw [hV.val, hq]; exact item_any Ak m ck _ wr HRK.out hmk (by omega))
      rw [← hq] at HN
      have hen : (callFunc 77 #[.slice Ak m ck]).run Try.prog wr = .ok (.enter 77 #[.slice Ak m ck]) wr := enters_of Try.func77 (by kernel_rfl) rfl _ _
      have HQl := hide hql
      replace hV := hide hV
      clear hlen hml hrk hRw hkp hq hql HRK hlk hbw
      go_wp2_with (first
        | ((with_reducible refine HC.out.mono ?_); rintro e w2 ⟨rfl, hb2⟩; have O2 := hide (hO.out.later hb2); have O3 := hide (O2.out.later ((Below.refl w2.heap.size w2).alloc (Nat.le_refl _) (.cells V 44))); have R3 := hide (reads_blk_id (Blk.new w2 44 V) HQl.out hV.out); clear hb2)
        | ((with_reducible show wpList _ _ _ (⟨_, .buildSlice _ _ _, _, _, _, _⟩ :: _) _ _); refine wpList_build_id rfl _ rfl V rfl hV.out.size ?_)
        | (at_builtin; refine wpList_append_ids rfl (.tmp 17) (.tmp 21) rfl w _ _ rfl O3.out _ 1 1 _ rfl _ R3.out (ids_one HQl.out) rfl (by rw [HLk.out]; omega) ?_; intro v4 w4 O4' _ _; have O4 := hide O4'; clear O4')
        | fail)
      go_roundw
      case rel => exact ⟨k + 1, hlt, int_succ k, by rw [HN.out]; exact O4⟩
      case measure => simp [intOf]; omega
    · obtain rfl : k = n := by omega
      have hd : decide ((k : Int) < (k : Int)) = false := by simp
      have HF : Hid (ps.take k = ps) := hide (List.take_of_length_le (Nat.le_of_eq HP.out))
      rw [HF.out] at hO
      go_wp2
      go_ret
      exact ⟨_, rfl, hO.out⟩
set_option maxRecDepth 100000 in
set_option maxHeartbeats 1600000 in
theorem hashes_any (A : Option Addr) (n c : Nat) (vs : List Value) (ps : List (List (BitVec 8))) (w : World) (hr : Reads w w.heap.size 1 A n vs) (hrs : Rows8 w w.heap.size vs ps) (hn : n ≤ 1099511627776) (hb : ps.flatten.length ≤ 1099511620000) :
    Calls Try.prog 79 #[.slice A n c] w fun e w' => ∃ v, e = .returned v ∧ OwnIds w w' v (ps.map itemD) := by
  have hvl : vs.length = n := by have := hr.1; omega
  have hpl : ps.length = n := by have := hrs.1; omega
  have HV := hide hvl
  have HP := hide hpl
  have HR := hide hr
  have HRS := hide hrs
  have HB := hide hb
  clear hr hrs hvl hpl hb
  go_enter Try.func79, Try.ntmps79
  go_wp2
  go_loopw [3, 4] (fun v i wr => ∃ k : Nat, k ≤ n ∧ i = .int .i64 (k : Int) ∧ Hid (OwnIds w wr v ((ps.take k).map itemD))) (fun _ i _ => n - (intOf i).toNat)
  case atStart => exact ⟨0, by omega, rfl, hide (OwnIds.none_ (Below.refl _ _))⟩
  case round =>
    obtain ⟨k, hk, rfl, hO⟩ := hrel
    by_cases hlt : k < n
    · have hd : decide ((k : Int) < (n : Int)) = true := by simp; omega
      have hkp : k < ps.length := by rw [HP.out]; exact hlt
      have hbw := hO.out.below
      have hRw := HR.out.below hbw
      obtain ⟨bA, oA, rfl, hbA⟩ := hRw.addr' (by omega)
      obtain ⟨Ak, m, ck, hcell, hrk, hmk⟩ := rows_at hRw (HRS.out.below hbw) hkp
      have hgrow := hbw.size
      have HRK := hide (hrk.more hgrow)
      have hlen := flatten_take_len ps k hkp
      have hml : ps[k].length = m := hrk.len
      have HN := hide (take_map_next ps k hkp)
      have hlk : ((ps.take k).map itemD).length = k := by rw [List.length_map, List.length_take]; omega
      have HLk := hide hlk
      have hm63 : m ≤ 1099511620000 := by have := HB.out; omega
      have hk0 : (0 : Int) ≤ (k : Int) := by omega
      have hk1 : (k : Int) < (n : Int) := by omega
      obtain ⟨q, hq⟩ : ∃ q, q = itemD ps[k] := ⟨_, rfl⟩
      have hql : q.length = 32 := by rw [hq]; exact itemD_len _
      obtain ⟨V, hV⟩ := idVal q hql
      have HC : Hid (Calls Try.prog 75 #[.slice Ak m ck] wr fun e w' => e = .returned (.agg V) ∧ Below wr.heap.size wr w') := hide (by rw [hV.val, hq]; exact refitem_any Ak m ck _ wr HRK.out (by omega))
      rw [← hq] at HN
      have HQl := hide hql
      replace hV := hide hV
      clear hlen hml hrk hRw hkp hq hql HRK hlk hbw
      go_wp2_with (first
        | (go_at_call 75; (with_reducible refine HC.out.mono ?_); rintro e w2 ⟨rfl, hb2⟩; have O2 := hide (hO.out.later hb2); have O3 := hide (O2.out.later ((Below.refl w2.heap.size w2).alloc (Nat.le_refl _) (.cells V 44))); have R3 := hide (reads_blk_id (Blk.new w2 44 V) HQl.out hV.out); clear hb2)
        | ((with_reducible show wpList _ _ _ (⟨_, .buildSlice _ _ _, _, _, _, _⟩ :: _) _ _); refine wpList_build_id rfl _ rfl V rfl hV.out.size ?_)
        | (at_builtin; refine wpList_append_ids rfl (.tmp 11) (.tmp 17) rfl w _ _ rfl O3.out _ 1 1 _ rfl _ R3.out (ids_one HQl.out) rfl (by rw [HLk.out]; omega) ?_; intro v4 w4 O4' _ _; have O4 := hide O4'; clear O4')
        | fail)
      go_roundw
      case rel => exact ⟨k + 1, hlt, int_succ k, by rw [HN.out]; exact O4⟩
      case measure => simp [intOf]; omega
    · obtain rfl : k = n := by omega
      have hd : decide ((k : Int) < (k : Int)) = false := by simp
      have HF : Hid (ps.take k = ps) := hide (List.take_of_length_le (Nat.le_of_eq HP.out))
      rw [HF.out] at hO
      go_wp2
      go_ret
      exact ⟨_, rfl, hO.out⟩
end Go.Proofs.Ytdikknfdgpdenaa
namespace Go.Proofs.Ytdikknfdgpdenaa
open Go.RowKit
set_option linter.unusedVariables false
set_option linter.unusedSimpArgs false
attribute [local go_sem] Gives givesUpon
attribute [local irreducible] Gives

def sliceLen : Value → Nat
  | .slice _ n _ => n
  | _ => 0
theorem id_cells {w : World} {B n k : Nat} {g o : Nat} {ids : List (List (BitVec 8))} (h : Reads w B 32 (some ⟨g, o, none⟩) n (ids.flatten.map c8)) (hid : Ids ids) (q : List (BitVec 8)) (hq : ids[k]? = some q) (hk : k < n) :
    ∀ j v, (q.map c8)[j]? = some v → w.cell? ((⟨g, o + k * 32, none⟩ : Addr).add j) = some v := by
  intro j v hv
  obtain ⟨g', o', e, _, hc⟩ := reads_id_at h hid q hq hk
  cases e
  have := hc j v hv
  rw [Addr.add_lit] at this ⊢
  rw [Nat.add_assoc]; exact this
theorem id_size {q : List (BitVec 8)} (h : q.length = 32) : (Try.prog.info? 44).map (·.size) = some (q.map c8).length := by rw [List.length_map, h]; exact info_id
theorem reads_ids_cut {w : World} {B n c k : Nat} {A : Option Addr} {ids : List (List (BitVec 8))} (h : Reads w B 32 A n (ids.flatten.map c8)) (hid : Ids ids) (hk : k ≤ n) (hc : n ≤ c) :
    Reads w B 32 (if c = k then A else A.map (·.add (k * 32))) (n - k) ((ids.drop k).flatten.map c8) := by
  have := h.cut hk hc
  rwa [← List.map_drop, ← hid.flat_drop] at this
/-- what holds behind the row of one id that is built to be appended -/
def BuiltId (w : World) (v : Value) (done : List (List (BitVec 8))) (q : List (BitVec 8)) (u : Value) (W : World) : Prop := OwnIds w W v done ∧ ∃ g, u = .slice (some ⟨g, 0, none⟩) 1 1 ∧ Reads W W.heap.size 32 (some ⟨g, 0, none⟩) 1 (([q].flatten).map c8)
set_option maxRecDepth 100000 in
set_option maxHeartbeats 1600000 in
theorem above_any (A : Option Addr) (n c : Nat) (ids : List (List (BitVec 8))) (w : World) (hr : Reads w w.heap.size 32 A n (ids.flatten.map c8)) (hid : Ids ids) (hl : ids.length = n) (hc : n ≤ c) (hn : n ≤ 1099511627776) :
    Calls Try.prog 78 #[.slice A n c] w fun e w' => ∃ v, e = .returned v ∧ OwnIds w w' v (aboveD ids) := by
  obtain ⟨R, hR⟩ : ∃ R, R = aboveD ids := ⟨_, rfl⟩
  rw [← hR]
  have HD0 : Hid ([] ++ aboveD ids = R) := hide (by rw [hR]; rfl)
  have HR := hide hr
  have HId := hide hid
  have HL := hide hl
  clear hR hr hid hl
  go_enter Try.func78, Try.ntmps78
  go_wp2
  go_loopw [0, 3] (fun s v wr => ∃ (A : Option Addr) (m c : Nat) (rest done : List (List (BitVec 8))), s = .slice A m c ∧ m ≤ c ∧ done.length + m ≤ n ∧ Hid (rest.length = m) ∧ Hid (Ids rest) ∧ Hid (Reads wr w.heap.size 32 A m (rest.flatten.map c8)) ∧
    Hid (OwnIds w wr v done) ∧ Hid (done ++ aboveD rest = R)) (fun s _ _ => sliceLen s)
  case atStart => exact ⟨A, n, c, ids, [], rfl, hc, by simp, HL, HId, HR, hide (OwnIds.none_ (Below.refl _ _)), HD0⟩
  case round =>
    obtain ⟨A1, m, c1, rest, done, rfl, hmc, hdm, hml, hids, hrd, hO, hD⟩ := hrel
    clear HR HId HL HD0
    by_cases hlt : 1 < m
    · have hd : decide ((1 : Int) < (m : Int)) = true := by simp; omega
      obtain ⟨a, b, r, hab⟩ : ∃ a b r, rest = a :: b :: r := by
        have := hml.out
        match rest, this with
        | a :: b :: r, _ => exact ⟨a, b, r, rfl⟩
        | [a], h => simp at h; omega
        | [], h => simp at h; omega
      subst hab
      have hal : a.length = 32 := hids.out a (by simp)
      have hbl : b.length = 32 := hids.out b (by simp)
      obtain ⟨VA, hVA⟩ := idVal a hal
      obtain ⟨VB, hVB⟩ := idVal b hbl
      obtain ⟨q, hq⟩ : ∃ q, q = pairD a b := ⟨_, rfl⟩
      have hql : q.length = 32 := by rw [hq]; exact pairD_len _ _
      obtain ⟨Q, hQ⟩ := idVal q hql
      obtain ⟨ga, oa, rfl, hga⟩ := reads32_at hrd.out (by omega)
      have hwr := hO.out.below.size
      obtain ⟨A3, c3, rfl, hc3⟩ := hO.out.slice
      have HLA := hide (id_cells (k := 0) hrd.out hids.out a rfl (by omega))
      have HLB := hide (id_cells (k := 1) hrd.out hids.out b rfl (by omega))
      rw [show oa + 0 * 32 = oa by omega] at HLA
      rw [show oa + 1 * 32 = oa + 32 by omega] at HLB
      have HAi := hide (id_size hal)
      have HBi := hide (id_size hbl)
      have HAv := hide hVA.val
      have HBv := hide hVB.val
      have HPr : Hid (∀ W : World, Calls Try.prog 81 #[.agg VA, .agg VB] W fun e w' => e = .returned (.agg Q) ∧ Below W.heap.size W w') := hide fun W => pair_any a b VA VB hal hbl hVA hVB Q (by rw [← hq]; exact hQ) W
      have HQl := hide hql
      have HQ := hide hQ
      have HDn : Hid ((done ++ [q]) ++ aboveD r = R) := hide (by rw [← hD.out, aboveD, hq]; simp)
      have HIdr : Hid (Ids r) := hide (hids.out.drop 2)
      have HRl : Hid (r.length = m - 2) := hide (by have := hml.out; simp at this; omega)
      have HCut : Hid (∀ W : World, Below w.heap.size wr W → Reads W w.heap.size 32 (if c1 = 2 then some ⟨ga, oa, none⟩ else some ⟨ga, oa + 64, none⟩) (m - 2) (r.flatten.map c8)) := hide fun W hW => by
        have h := reads_ids_cut (k := 2) (hrd.out.below hW) hids.out (by omega) hmc
        simp only [List.drop_succ_cons, List.drop_zero] at h
        split at h
        · rename_i hc1; rw [if_pos hc1]; exact h
        · rename_i hc1; rw [if_neg hc1]; simpa [Addr.add_lit] using h
      have hm2 : (2 : Int) ≤ (c1 : Int) := by omega
      have hc2 : 2 ≤ c1 := by omega
      have hm3 : 2 ≤ m := by omega
      have hm4 : (0 : Int) < (m : Int) := by omega
      have hm5 : (1 : Int) < (m : Int) := by omega
      have hm6 : 0 < m := by omega
      have hm7 : 1 < m := hlt
      have hm8 : ¬ m ≤ 0 := by omega
      have hm9 : ¬ m ≤ 1 := by omega
      clear hal hbl hVA hVB hq hql hQ hrd hids hml hD
      go_wp2
      apply wp_region_stage (hv := [7, 8, 9, 10]) (I := fun W => Below w.heap.size wr W) (C := fun W => OwnIds w W (.slice A3 done.length c3) done) (ss := [_, _, _, _, _, _, _, _, _, _, _]) (by kernel_rfl) (by kernel_rfl) (by kernel_rfl) (by kernel_rfl) (Below.refl _ _).drew (hO.out.later (Below.refl _ _).drew)
      repeat (first
        | (apply stWalk_light
           · rfl
           · (intro W hI
              go_simp
              with_reducible exact rfl)
           (try simp only [Act.put, List.setIfInBounds_toArray, List.set_cons_zero, List.set_cons_succ])))
      apply stWalk_light (c := .agg VA)
      · rfl
      · intro W hI
        rw [if_pos (wanted_none _ rfl)]
        refine gives_load_at 44 _ rfl ⟨ga, oa, none⟩ rfl (a.map c8) _ Try.underlying44 rfl HAi.out (fun j v hv => ?_) ⟨by rw [HAv.out], rfl⟩
        exact (hI.cell (by rw [block_of_add]; exact hga)).trans (HLA.out j v hv)
      (try simp only [Act.put, List.setIfInBounds_toArray, List.set_cons_zero, List.set_cons_succ])
      repeat (first
        | (apply stWalk_light
           · rfl
           · (intro W hI
              go_simp
              with_reducible exact rfl)
           (try simp only [Act.put, List.setIfInBounds_toArray, List.set_cons_zero, List.set_cons_succ])))
      apply stWalk_light (c := .agg VB)
      · rfl
      · intro W hI
        rw [if_pos (wanted_none _ rfl)]
        refine gives_load_at 44 _ rfl ⟨ga, oa + 32, none⟩ rfl (b.map c8) _ Try.underlying44 rfl HBi.out (fun j v hv => ?_) ⟨by rw [HBv.out], rfl⟩
        exact (hI.cell (by rw [block_of_add]; exact hga)).trans (HLB.out j v hv)
      (try simp only [Act.put, List.setIfInBounds_toArray, List.set_cons_zero, List.set_cons_succ])
      apply stWalk_turnc (c := .agg Q) (fun W => OwnIds w W (.slice A3 done.length c3) done)
      · rfl
      · rfl
      · intro W hI hC
        refine gives_call rfl [.agg VA, .agg VB] rfl (enters_of Try.func81 (by kernel_rfl) rfl) ?_
        refine (HPr.out W).mono ?_
        rintro e w' ⟨rfl, hb⟩
        exact ⟨_, rfl, rfl, hI.trans (hb.mono (Nat.le_trans hwr hI.size)), hC.later hb⟩
      (try simp only [Act.put, List.setIfInBounds_toArray, List.set_cons_zero, List.set_cons_succ])
      refine stWalk_turn (fun u => ∃ g, u = .slice (some ⟨g, 0, none⟩) 1 1) (fun u W => BuiltId w (.slice A3 done.length c3) done q u W) (by rfl) ⟨_, 0, rfl⟩ (by rfl) ?_ ?_
      · intro W hI hC
        refine gives_build_id _ rfl Q rfl HQ.out.size ?_
        have hb := (Below.refl W.heap.size W).alloc (Nat.le_refl _) (.cells Q 44)
        exact ⟨⟨_, rfl⟩, hI.trans (hb.mono (Nat.le_trans hwr hI.size)), hC.later hb, _, rfl, reads_blk_id (Blk.new W 44 Q) HQl.out HQ.out⟩
      rintro u ⟨gu, rfl⟩
      (try simp only [Act.put, List.setIfInBounds_toArray, List.set_cons_zero, List.set_cons_succ])
      refine stWalk_turn (fun u => True) (fun u W => OwnIds w W u (done ++ [q])) (by rfl) ⟨.bool true, trivial⟩ (by rfl) ?_ ?_
      · rintro W hI ⟨hC, g, e, hg⟩
        cases e
        refine gives_append_ids (.tmp 9) (.tmp 17) rfl w _ done rfl hC _ 1 1 _ rfl _ hg (ids_one HQl.out) rfl (by omega) ?_
        intro v' w' h' grow'
        refine ⟨trivial, ?_, h'⟩
        exact below_appended hI (Nat.le_trans hwr hI.size) hC.own (Nat.le_refl _) grow'
      rintro u -
      (try simp only [Act.put, List.setIfInBounds_toArray, List.set_cons_zero, List.set_cons_succ])
      refine stWalk_turn (fun u => True) (fun u W => OwnIds w W u (done ++ [q])) (by rfl) ⟨.bool true, trivial⟩ (by rfl) ?_ ?_
      · intro W hI hC
        exact gives_assign (.tmp 18) rfl u rfl ⟨trivial, hI, hC⟩
      rintro u9 -
      (try simp only [Act.put, List.setIfInBounds_toArray, List.set_cons_zero, List.set_cons_succ])
      refine stWalk_nil ?_
      intro W hI hC
      have O9 := hide hC
      have P9 := HCut.out W hI
      clear hI hC HCut HPr HLA HLB
      by_cases hc1 : c1 = 2
      · rw [if_pos hc1] at P9
        go_wp2
        go_roundw
        case rel => exact ⟨_, m - 2, c1 - 2, r, done ++ [q], by simp [hc1], by omega, by simp; omega, HRl, HIdr, hide P9, O9, HDn⟩
        case measure => simp [sliceLen]; omega
      · rw [if_neg hc1] at P9
        go_wp2
        go_roundw
        case rel => exact ⟨_, m - 2, c1 - 2, r, done ++ [q], by simp [hc1], by omega, by simp; omega, HRl, HIdr, hide P9, O9, HDn⟩
        case measure => simp [sliceLen]; omega
    · have hd : decide ((1 : Int) < (m : Int)) = false := by simp; omega
      have hrs : aboveD rest = rest := by
        have := hml.out
        match rest, this with
        | a :: b :: r, h => simp at h; omega
        | [a], _ => rfl
        | [], _ => rfl
      have HDe : Hid (done ++ rest = R) := hide (by rw [← hD.out, hrs])
      clear hrs hD
      go_wp2_with (first
        | (at_builtin; refine wpList_append_ids rfl (.tmp 19) (.tmp 20) rfl w _ done rfl hO.out _ m c1 rest rfl _ hrd.out hids.out hml.out (by omega) ?_; intro v4 w4 O4' _ _; rw [HDe.out] at O4'; have O4 := hide O4'; clear O4')
        | fail)
      go_ret
      exact ⟨_, rfl, O4.out⟩
end Go.Proofs.Ytdikknfdgpdenaa
namespace Go.Proofs.Ytdikknfdgpdenaa
open Go.RowKit
set_option linter.unusedVariables false
set_option linter.unusedSimpArgs false
attribute [local go_sem] Gives givesUpon
attribute [local irreducible] Gives

theorem drop_two {l : List (List (BitVec 8))} {k : Nat} (h : k + 1 < l.length) : l.drop k = l[k] :: l[k + 1] :: l.drop (k + 2) := by
  rw [List.drop_eq_getElem_cons (by omega), List.drop_eq_getElem_cons h]
set_option maxRecDepth 100000 in
set_option maxHeartbeats 1600000 in
theorem refabove_any (A : Option Addr) (n c : Nat) (ids : List (List (BitVec 8))) (w : World) (hr : Reads w w.heap.size 32 A n (ids.flatten.map c8)) (hid : Ids ids) (hl : ids.length = n) (hc : n ≤ c) (hn : n ≤ 1099511627776) :
    Calls Try.prog 80 #[.slice A n c] w fun e w' => ∃ v, e = .returned v ∧ OwnIds w w' v (aboveD ids) := by
  obtain ⟨R, hR⟩ : ∃ R, R = aboveD ids := ⟨_, rfl⟩
  rw [← hR]
  have HD0 : Hid ([] ++ aboveD (ids.drop 0) = R) := hide (by rw [hR]; rfl)
  have HR := hide hr
  have HId := hide hid
  have HL := hide hl
  clear hR hr hid hl
  go_enter Try.func80, Try.ntmps80
  go_wp2
  go_loopw [3, 4] (fun v i wr => ∃ (k : Nat) (done : List (List (BitVec 8))), i = .int .i64 (k : Int) ∧ k ≤ n + 1 ∧ done.length ≤ k ∧
    Hid (OwnIds w wr v done) ∧ Hid (done ++ aboveD (ids.drop k) = R)) (fun _ i _ => n + 1 - (intOf i).toNat)
  case atStart => exact ⟨0, [], rfl, by omega, by simp, hide (OwnIds.none_ (Below.refl _ _)), HD0⟩
  case round =>
    obtain ⟨k, done, rfl, hk, hdm, hO, hD⟩ := hrel
    clear HD0
    have hwr := hO.out.below.size
    obtain ⟨A3, c3, rfl, hc3⟩ := hO.out.slice
    by_cases hlt : k < n
    · have hd : decide ((k : Int) < (n : Int)) = true := by simp; omega
      have hk0 : (0 : Int) ≤ (k : Int) := by omega
      have hk1 : (k : Int) < (n : Int) := by omega
      have hk2 : (k : Int) ≤ 1099511627776 := by omega
      have hkl : k < ids.length := by rw [HL.out]; exact hlt
      obtain ⟨ga, oa, rfl, hga⟩ := reads32_at HR.out (by omega)
      obtain ⟨a, ha⟩ : ∃ a, a = ids[k] := ⟨_, rfl⟩
      have hal : a.length = 32 := HId.out a (by rw [ha]; exact List.getElem_mem _)
      obtain ⟨VA, hVA⟩ := idVal a hal
      have HAi := hide (id_size hal)
      have HAv := hide hVA.val
      have HLA : Hid (∀ W, Below w.heap.size wr W → ∀ j v, (a.map c8)[j]? = some v → W.cell? ((⟨ga, oa + k * 32, none⟩ : Addr).add j) = some v) := hide fun W hW => id_cells (k := k) ((HR.out.below hO.out.below).below hW) HId.out a (by rw [ha]; exact List.getElem?_eq_getElem hkl) (by omega)
      by_cases hlt2 : k + 1 < n
      · have hd2 : decide ((k : Int) + 1 < (n : Int)) = true := by simp; omega
        have hkl2 : k + 1 < ids.length := by rw [HL.out]; exact hlt2
        obtain ⟨b, hb⟩ : ∃ b, b = ids[k + 1] := ⟨_, rfl⟩
        have hbl : b.length = 32 := HId.out b (by rw [hb]; exact List.getElem_mem _)
        obtain ⟨VB, hVB⟩ := idVal b hbl
        obtain ⟨q, hq⟩ : ∃ q, q = pairD a b := ⟨_, rfl⟩
        have hql : q.length = 32 := by rw [hq]; exact pairD_len _ _
        obtain ⟨Q, hQ⟩ := idVal q hql
        have HBi := hide (id_size hbl)
        have HBv := hide hVB.val
        have HLB : Hid (∀ W, Below w.heap.size wr W → ∀ j v, (b.map c8)[j]? = some v → W.cell? ((⟨ga, oa + (k + 1) * 32, none⟩ : Addr).add j) = some v) := hide fun W hW => id_cells (k := k + 1) ((HR.out.below hO.out.below).below hW) HId.out b (by rw [hb]; exact List.getElem?_eq_getElem hkl2) (by omega)
        have HPr : Hid (∀ W : World, Calls Try.prog 82 #[.agg VA, .agg VB] W fun e w' => e = .returned (.agg Q) ∧ Below W.heap.size W w') := hide fun W => refpair_any a b VA VB hal hbl hVA hVB Q (by rw [← hq]; exact hQ) W
        have HQl := hide hql
        have HQ := hide hQ
        have HDn : Hid ((done ++ [q]) ++ aboveD (ids.drop (k + 2)) = R) := hide (by rw [← hD.out, drop_two hkl2, aboveD, hq, ← ha, ← hb]; simp)
        have hk3 : (0 : Int) ≤ (k : Int) + 1 := by omega
        have hk4 : (k : Int) + 1 < (n : Int) := by omega
        have hk5 : ((k : Int) + 1).toNat = k + 1 := by omega
        have hk7 : IntKind.i64.wrap ((k : Int) + 1) = (k : Int) + 1 := IntWalk.i64_in _ (by omega)
        have hk6 : decide ((k : Int) + 1 < 0) = false := by simp; omega
        clear hal hbl hVA hVB hq hql hQ hD ha hb hkl hkl2
        go_wp2
        apply wp_region_stage (hv := [10, 11, 12, 13]) (I := fun W => Below w.heap.size wr W) (C := fun W => OwnIds w W (.slice A3 done.length c3) done) (ss := [_, _, _, _, _, _, _, _, _, _, _, _, _, _]) (by kernel_rfl) (by kernel_rfl) (by kernel_rfl) (by kernel_rfl) (Below.refl _ _).drew (hO.out.later (Below.refl _ _).drew)
        repeat (first
          | (apply stWalk_light
             · rfl
             · (intro W hI
                go_simp
                with_reducible exact rfl)
             (try simp only [Act.put, List.setIfInBounds_toArray, List.set_cons_zero, List.set_cons_succ])))
        apply stWalk_light (c := .agg VA)
        · rfl
        · intro W hI
          rw [if_pos (wanted_none _ rfl)]
          refine gives_load_at 44 _ rfl ⟨ga, oa + k * 32, none⟩ rfl (a.map c8) _ Try.underlying44 rfl HAi.out (fun j v hv => ?_) ⟨by rw [HAv.out], rfl⟩
          exact HLA.out W hI j v hv
        (try simp only [Act.put, List.setIfInBounds_toArray, List.set_cons_zero, List.set_cons_succ])
        repeat (first
          | (apply stWalk_light
             · rfl
             · (intro W hI
                go_simp
                with_reducible exact rfl)
             (try simp only [Act.put, List.setIfInBounds_toArray, List.set_cons_zero, List.set_cons_succ])))
        apply stWalk_light (c := .agg VB)
        · rfl
        · intro W hI
          rw [if_pos (wanted_none _ rfl)]
          refine gives_load_at 44 _ rfl ⟨ga, oa + (k + 1) * 32, none⟩ rfl (b.map c8) _ Try.underlying44 rfl HBi.out (fun j v hv => ?_) ⟨by rw [HBv.out], rfl⟩
          exact HLB.out W hI j v hv
        (try simp only [Act.put, List.setIfInBounds_toArray, List.set_cons_zero, List.set_cons_succ])
        apply stWalk_turnc (c := .agg Q) (fun W => OwnIds w W (.slice A3 done.length c3) done)
        · rfl
        · rfl
        · intro W hI hC
          refine gives_call rfl [.agg VA, .agg VB] rfl (enters_of Try.func82 (by kernel_rfl) rfl) ?_
          refine (HPr.out W).mono ?_
          rintro e w' ⟨rfl, hb⟩
          exact ⟨_, rfl, rfl, hI.trans (hb.mono (Nat.le_trans hwr hI.size)), hC.later hb⟩
        (try simp only [Act.put, List.setIfInBounds_toArray, List.set_cons_zero, List.set_cons_succ])
        refine stWalk_turn (fun u => ∃ g, u = .slice (some ⟨g, 0, none⟩) 1 1) (fun u W => BuiltId w (.slice A3 done.length c3) done q u W) (by rfl) ⟨_, 0, rfl⟩ (by rfl) ?_ ?_
        · intro W hI hC
          refine gives_build_id _ rfl Q rfl HQ.out.size ?_
          have hb := (Below.refl W.heap.size W).alloc (Nat.le_refl _) (.cells Q 44)
          exact ⟨⟨_, rfl⟩, hI.trans (hb.mono (Nat.le_trans hwr hI.size)), hC.later hb, _, rfl, reads_blk_id (Blk.new W 44 Q) HQl.out HQ.out⟩
        rintro u ⟨gu, rfl⟩
        (try simp only [Act.put, List.setIfInBounds_toArray, List.set_cons_zero, List.set_cons_succ])
        refine stWalk_turn (fun u => True) (fun u W => OwnIds w W u (done ++ [q])) (by rfl) ⟨.bool true, trivial⟩ (by rfl) ?_ ?_
        · rintro W hI ⟨hC, g, e, hg⟩
          cases e
          refine gives_append_ids (.tmp 16) (.tmp 27) rfl w _ done rfl hC _ 1 1 _ rfl _ hg (ids_one HQl.out) rfl (by omega) ?_
          intro v' w' h' grow'
          refine ⟨trivial, ?_, h'⟩
          exact below_appended hI (Nat.le_trans hwr hI.size) hC.own (Nat.le_refl _) grow'
        rintro u -
        (try simp only [Act.put, List.setIfInBounds_toArray, List.set_cons_zero, List.set_cons_succ])
        refine stWalk_turn (fun u => True) (fun u W => OwnIds w W u (done ++ [q])) (by rfl) ⟨.bool true, trivial⟩ (by rfl) ?_ ?_
        · intro W hI hC
          exact gives_assign (.tmp 28) rfl u rfl ⟨trivial, hI, hC⟩
        rintro u9 -
        (try simp only [Act.put, List.setIfInBounds_toArray, List.set_cons_zero, List.set_cons_succ])
        refine stWalk_nil ?_
        intro W hI hC
        have O9 := hide hC
        clear hI hC HPr HLA HLB
        go_wp2
        go_roundw
        case rel => exact ⟨k + 2, done ++ [q], by simp, by omega, by simp; omega, O9, HDn⟩
        case measure => simp [intOf]; omega
      · have hd2 : decide ((k : Int) + 1 < (n : Int)) = false := by simp; omega
        have HDn : Hid ((done ++ [a]) ++ aboveD (ids.drop (k + 2)) = R) := hide (by
          rw [← hD.out, List.drop_eq_getElem_cons hkl, ← ha, List.drop_eq_nil_of_le (i := k + 1) (by rw [HL.out]; omega), List.drop_eq_nil_of_le (i := k + 2) (by rw [HL.out]; omega)]; simp [aboveD])
        have HAl := hide hal
        have HVA := hide hVA
        have HLw := hide (HLA.out wr (Below.refl _ _))
        clear hal hVA hD ha hkl HLA
        go_wp2_with (first
          | ((with_reducible show wpList _ _ _ (⟨_, .load 44 _, _, _, _, _⟩ :: _) _ _); refine wpList_load_at rfl 44 _ rfl ⟨ga, oa + k * 32, none⟩ rfl (a.map c8) _ Try.underlying44 rfl HAi.out HLw.out ?_; rw [← HAv.out])
          | ((with_reducible show wpList _ _ _ (⟨_, .buildSlice _ _ _, _, _, _, _⟩ :: _) _ _); refine wpList_build_id rfl _ rfl VA rfl HVA.out.size ?_; have O3 := hide (hO.out.later ((Below.refl wr.heap.size wr).alloc (Nat.le_refl _) (.cells VA 44))); have R3 := hide (reads_blk_id (Blk.new wr 44 VA) HAl.out HVA.out))
          | (at_builtin; refine wpList_append_ids rfl (.tmp 29) (.tmp 34) rfl w _ done rfl O3.out _ 1 1 _ rfl _ R3.out (ids_one HAl.out) rfl (by omega) ?_; intro v4 w4 O4' _ _; have O4 := hide O4'; clear O4')
          | fail)
        go_roundw
        case rel => exact ⟨k + 2, done ++ [a], by simp, by omega, by simp; omega, O4, HDn⟩
        case measure => simp [intOf]; omega
    · have hd : decide ((k : Int) < (n : Int)) = false := by simp; omega
      have HDe : Hid (done = R) := hide (by rw [← hD.out, List.drop_eq_nil_of_le (by rw [HL.out]; omega)]; simp [aboveD])
      clear hD
      go_wp2
      go_ret
      exact ⟨_, rfl, by rw [← HDe.out]; exact hO.out⟩
end Go.Proofs.Ytdikknfdgpdenaa
namespace Go.Proofs.Ytdikknfdgpdenaa
open Go.RowKit
set_option linter.unusedVariables false
set_option linter.unusedSimpArgs false

/-- the top of a row -/
def topD : Nat → List (List (BitVec 8)) → List (BitVec 8)
  | _, [] => shaOf []
  | 0, x :: _ => x
  | f + 1, x :: l => if l = [] then x else topD f (aboveD (x :: l))
/-- the proof of a place -/
def proveD : Nat → Nat → List (List (BitVec 8)) → List (List (BitVec 8))
  | 0, _, _ => []
  | f + 1, i, l => if l.length ≤ 1 then [] else l[sib i]?.toList ++ proveD f (i / 2) (aboveD l)
theorem topD_one (f : Nat) (x : List (BitVec 8)) : topD f [x] = x := by
  cases f <;> simp [topD]
theorem topD_next (f : Nat) (l : List (List (BitVec 8))) (h : 1 < l.length) : topD (f + 1) l = topD f (aboveD l) := by
  match l, h with
  | a :: b :: r, _ => simp [topD]
theorem topD_len (f : Nat) (l : List (List (BitVec 8))) (h : Ids l) : (topD f l).length = 32 := by
  induction f generalizing l with
  | zero =>
    cases l with
    | nil => exact shaOf_len _
    | cons x l => exact h x (by simp)
  | succ f ih =>
    cases l with
    | nil => exact shaOf_len _
    | cons x l =>
      rw [topD]
      split
      · exact h x (by simp)
      · exact ih _ (aboveD_ids _ h)
theorem proveD_end (f i : Nat) (l : List (List (BitVec 8))) (h : l.length ≤ 1) : proveD f i l = [] := by
  cases f with
  | zero => rfl
  | succ f => rw [proveD, if_pos h]
theorem proveD_next (f i : Nat) (l : List (List (BitVec 8))) (h : 1 < l.length) : proveD (f + 1) i l = l[sib i]?.toList ++ proveD f (i / 2) (aboveD l) := by
  rw [proveD, if_neg (by omega)]
theorem proveD_ids (f i : Nat) (l : List (List (BitVec 8))) (h : Ids l) : Ids (proveD f i l) := by
  induction f generalizing i l with
  | zero => exact Ids.nil
  | succ f ih =>
    rw [proveD]
    split
    · exact Ids.nil
    · refine Ids.append ?_ (ih _ _ (aboveD_ids _ h))
      cases hs : l[sib i]? with
      | none => exact Ids.nil
      | some q => exact Ids.cons (h q (List.mem_of_getElem? hs)) Ids.nil
theorem proveD_len (f i : Nat) (l : List (List (BitVec 8))) : (proveD f i l).length ≤ f := by
  induction f generalizing i l with
  | zero => simp [proveD]
  | succ f ih =>
    rw [proveD]
    split
    · simp
    · rw [List.length_append]
      have := ih (i / 2) (aboveD l)
      cases l[sib i]? with
      | none => simp; omega
      | some q => simp; omega
theorem aboveD_two : ∀ (l : List (List (BitVec 8))) (k : Nat) (a b : List (BitVec 8)), l[2 * k]? = some a → l[2 * k + 1]? = some b → (aboveD l)[k]? = some (pairD a b)
  | [], k, a, b, h, _ => by simp at h
  | [x], k, a, b, h, h2 => by simp at h2
  | x :: y :: r, 0, a, b, h, h2 => by
    simp at h h2
    subst h h2
    rfl
  | x :: y :: r, k + 1, a, b, h, h2 => by
    rw [aboveD, List.getElem?_cons_succ]
    refine aboveD_two r k a b ?_ ?_
    · rw [show 2 * (k + 1) = 2 * k + 1 + 1 by omega, List.getElem?_cons_succ, List.getElem?_cons_succ] at h; exact h
    · rw [show 2 * (k + 1) + 1 = 2 * k + 1 + 1 + 1 by omega, List.getElem?_cons_succ, List.getElem?_cons_succ] at h2; exact h2
theorem aboveD_last : ∀ (l : List (List (BitVec 8))) (k : Nat) (a : List (BitVec 8)), l[2 * k]? = some a → l.length ≤ 2 * k + 1 → (aboveD l)[k]? = some a
  | [], k, a, h, _ => by simp at h
  | [x], 0, a, h, h2 => by simpa [aboveD] using h
  | [x], k + 1, a, h, h2 => by simp at h
  | x :: y :: r, 0, a, h, h2 => by simp at h2
  | x :: y :: r, k + 1, a, h, h2 => by
    rw [aboveD, List.getElem?_cons_succ]
    refine aboveD_last r k a ?_ (by simp at h2; omega)
    rw [show 2 * (k + 1) = 2 * k + 1 + 1 by omega, List.getElem?_cons_succ, List.getElem?_cons_succ] at h; exact h
/-- A PROOF LEADS TO THE TOP -/
theorem check_prove : ∀ (f i : Nat) (l : List (List (BitVec 8))) (x : List (BitVec 8)), l[i]? = some x → l.length ≤ 2 ^ f → checkD f x i l.length (proveD f i l) = some (topD f l, [])
  | 0, i, l, x, hx, hl => by
    have hi := (List.getElem?_eq_some_iff.1 hx).1
    match l, hl, hi, hx with
    | [y], _, hi, hx =>
      obtain rfl : i = 0 := by simp at hi; omega
      simp at hx; subst hx
      rfl
    | y :: z :: r, hl, _, _ => simp at hl
  | f + 1, i, l, x, hx, hl => by
    have hi := (List.getElem?_eq_some_iff.1 hx).1
    by_cases h1 : l.length ≤ 1
    · rw [proveD_end _ _ _ h1, checkD_end _ _ _ _ _ h1]
      match l, h1, hi, hx with
      | [y], _, hi, hx =>
        obtain rfl : i = 0 := by simp at hi; omega
        simp at hx; subst hx
        rw [topD_one]
      | y :: z :: r, h1, _, _ => simp at h1
    · rw [proveD_next _ _ _ (by omega), topD_next _ _ (by omega)]
      have hla : (aboveD l).length = l.length / 2 + l.length % 2 := aboveD_len l
      have hlf : (aboveD l).length ≤ 2 ^ f := by rw [hla]; exact half_le _ _ hl
      by_cases hs : i % 2 = 0 ∧ l.length ≤ i + 1
      · have hn : l[sib i]? = none := List.getElem?_eq_none ((sib_lt i l.length hi).2 hs)
        rw [hn, checkD_skip _ _ _ _ _ h1 hs, ← hla]
        refine check_prove f (i / 2) (aboveD l) x (aboveD_last l (i / 2) x ?_ (by omega)) hlf
        rw [show 2 * (i / 2) = i by omega]; exact hx
      · have hsl : sib i < l.length := by
          rcases Nat.lt_or_ge (sib i) l.length with h | h
          · exact h
          · exact absurd ((sib_lt i l.length hi).1 h) hs
        obtain ⟨q, hq⟩ : ∃ q, l[sib i]? = some q := ⟨_, List.getElem?_eq_getElem hsl⟩
        rw [hq, Option.toList_some, List.singleton_append, checkD_some _ _ _ _ _ _ h1 hs, ← hla]
        refine check_prove f (i / 2) (aboveD l) _ ?_ hlf
        by_cases he : i % 2 = 0
        · rw [if_pos he]
          refine aboveD_two l (i / 2) x q ?_ ?_
          · rw [show 2 * (i / 2) = i by omega]; exact hx
          · rw [show 2 * (i / 2) + 1 = sib i by unfold sib; rw [if_pos he]; omega]; exact hq
        · rw [if_neg he]
          refine aboveD_two l (i / 2) q x ?_ ?_
          · rw [show 2 * (i / 2) = sib i by unfold sib; rw [if_neg he]; omega]; exact hq
          · rw [show 2 * (i / 2) + 1 = i by omega]; exact hx
theorem ok_check_prove (f i : Nat) (l : List (List (BitVec 8))) (x : List (BitVec 8)) (hx : l[i]? = some x) (hl : l.length ≤ 2 ^ f) : okD (topD f l) (checkD f x i l.length (proveD f i l)) = true := by
  rw [check_prove f i l x hx hl]; simp [okD]
end Go.Proofs.Ytdikknfdgpdenaa
namespace Go.Proofs.Ytdikknfdgpdenaa
open Go.RowKit
set_option linter.unusedVariables false
set_option linter.unusedSimpArgs false

theorem topD_nil (f : Nat) : topD f [] = shaOf [] := by cases f <;> rw [topD]
set_option maxRecDepth 100000 in
set_option maxHeartbeats 1600000 in
theorem root44_any (A : Option Addr) (n c : Nat) (vs : List Value) (ps : List (List (BitVec 8))) (w : World) (hr : Reads w w.heap.size 1 A n vs) (hrs : Rows8 w w.heap.size vs ps) (hn : n ≤ 1099511627776) (hb : ps.flatten.length ≤ 1099511620000) :
    Calls Try.prog 54 #[.slice A n c] w fun e w' => e = .returned (.agg ((topD 40 (ps.map itemD)).map c8).toArray) ∧ Below w.heap.size w w' := by
  have hpl : ps.length = n := by have := hrs.1; have := hr.1; omega
  obtain ⟨Z, hZ, hZs⟩ := zeroId
  have hids : Ids (ps.map itemD) := by
    intro x hx
    obtain ⟨p, _, rfl⟩ := List.mem_map.1 hx
    exact itemD_len p
  obtain ⟨row0, hrow0⟩ : ∃ r, r = ps.map itemD := ⟨_, rfl⟩
  have hl0 : row0.length = n := by rw [hrow0, List.length_map, hpl]
  rw [← hrow0] at hids
  obtain ⟨R, hR⟩ : ∃ R, R = topD 40 row0 := ⟨_, rfl⟩
  rw [← hrow0, ← hR]
  have hRl : R.length = 32 := by rw [hR]; exact topD_len _ _ hids
  obtain ⟨RV, hRV⟩ := idVal R hRl
  obtain ⟨W0, hW0⟩ : ∃ W0, W0 = w.alloc (.cells Z 44) := ⟨_, rfl⟩
  have B0 : Below w.heap.size w W0 := by rw [hW0]; exact (Below.refl _ w).alloc (Nat.le_refl _) _
  have K0 : Blk W0 w.heap.size 44 Z := by rw [hW0]; exact Blk.new w 44 Z
  have HM : Hid (Calls Try.prog 76 #[.slice A n c, .func (.func 77) #[] #[]] W0 fun e w' => ∃ v, e = .returned v ∧ OwnIds W0 w' v row0) := hide (by rw [hrow0]; exact mapped_any A n c vs ps W0 (hr.later B0) ((hrs.below B0).more B0.size) hn hb)
  have HT0 : Hid (topD 40 row0 = R) := hide hR.symm
  have HSm : Hid (row0.length = 0 → ∀ W : World, Calls Try.prog 39 #[.slice none 0 0] W fun e w' => e = .returned (.agg RV) ∧ Below W.heap.size W w') := hide (fun h0 W => by
    have e0 : row0 = [] := List.eq_nil_of_length_eq_zero h0
    have e1 : R = shaOf [] := by rw [hR, e0, topD_nil]
    have h := shasum_any none 0 0 [] [] W Reads.none_ ⟨rfl, fun i v p hv => by simp at hv⟩ (by omega) (by simp only [List.flatten_nil, List.length_nil]; omega)
    rw [hRV.val, e1]; exact h)
  rw [← hRV.val]
  have HB := hide B0
  have HK := hide K0
  have HW := hide hW0.symm
  have HIds := hide hids
  have HL0 := hide hl0
  replace hZ := hide hZ
  replace hZs := hide hZs
  replace hRV := hide hRV
  clear hr hrs hpl hids hrow0 hl0 hR hRl hW0 B0 K0 hb
  go_enter Try.func54, Try.ntmps54
  go_upto_region 2 with (first
    | ((with_reducible show wpList _ _ _ (⟨some 2, .alloc _, _, _, _, _⟩ :: _) _ _); refine wpList_alloc_is rfl 44 rfl Z hZ.out ?_; rw [HW.out])
    | (go_at_call 76; (with_reducible refine HM.out.mono ?_); rintro e w1 ⟨v1, rfl, o1⟩; have hs1 := o1.slice; rw [HL0.out] at hs1; obtain ⟨A1, c1, rfl, hc1⟩ := hs1; have O1 := hide o1; clear o1)
    | fail)
  have r1 := O1.out.reads
  rw [HL0.out] at r1
  have R1 := hide r1
  have B1 := hide (HB.out.trans (O1.out.below.mono HB.out.size))
  have K1 := hide (HK.out.below O1.out.below HK.out.lt)
  clear r1 O1 HM HB HK HW
  by_cases hn0 : n = 0
  · subst hn0
    have HS1 := hide (HSm.out HL0.out w1)
    clear HSm R1
    go_wp2_with (first
      | (go_at_call 39; (with_reducible refine HS1.out.mono ?_); rintro e w2 ⟨rfl, hb2⟩; have K2 := hide (K1.out.below hb2 K1.out.lt); have B2 := hide (B1.out.trans (hb2.mono B1.out.size)); clear hb2)
      | ((with_reducible show wpList _ _ _ (⟨_, .store 44 _ _, _, _, _, _⟩ :: _) _ _); refine wpList_store_row rfl 44 _ _ rfl w.heap.size rfl RV rfl 44 _ K2.out hRV.out.info (hZs.out.trans hRV.out.size.symm) hRV.out.one ?_)
      | fail)
    refine bodyPost_ret (v := .agg RV) ?_ rfl ⟨rfl, ?_⟩
    · exact results_cell_row rfl _ _ w.heap.size 44 RV (0, 0) _ rfl (setRow_heap _ _ _ _ _ _ K2.out) Try.underlying44 rfl hRV.out.info
    · exact below_setRow B2.out (Nat.le_refl _) _
  · have hd0 : ((n : Int) == 0) = false := by simp; omega
    have hn1 : 0 < n := by omega
    have hn40 : Hid (n ≤ 2 ^ 40) := hide (by omega)
    clear HSm
    go_upto_region 4 with fail
    go_loopw [3] (fun s wr => ∃ (f m : Nat) (A : Option Addr) (c : Nat) (row : List (List (BitVec 8))), s = .slice A m c ∧ 0 < m ∧ m ≤ c ∧ m ≤ n ∧ Hid (m ≤ 2 ^ f) ∧ Hid (row.length = m) ∧ Hid (Ids row) ∧ Hid (topD f row = R) ∧
      Hid (Reads wr wr.heap.size 32 A m (row.flatten.map c8)) ∧ Hid (Blk wr w.heap.size 44 Z) ∧ Hid (Below w.heap.size w wr)) (fun s _ => sliceLen s)
    case atStart => exact ⟨40, n, A1, c1, row0, rfl, hn1, hc1, Nat.le_refl _, hn40, HL0, HIds, HT0, R1, K1, B1⟩
    case round =>
      obtain ⟨f, m, A4, c4, row, rfl, hm0, hmc, hmn, hf, hml, hid, hT, hRd, hK, hB⟩ := hrel
      clear R1 K1 B1 HT0 HIds HL0
      by_cases hlt : 1 < m
      · have hd : decide ((1 : Int) < (m : Int)) = true := by simp; omega
        obtain ⟨f, rfl⟩ : ∃ g, f = g + 1 := ⟨f - 1, by have := hf.out; cases f with | zero => simp at this; omega | succ g => omega⟩
        have hal := aboveD_len row
        rw [hml.out] at hal
        have HA := hide (above_any A4 m c4 row wr hRd.out hid.out hml.out hmc (by omega))
        have Hf2 : Hid (m / 2 + m % 2 ≤ 2 ^ f) := hide (half_le m f hf.out)
        have HIa := hide (aboveD_ids row hid.out)
        have HLa := hide hal
        have HTa : Hid (topD f (aboveD row) = R) := hide (by rw [← topD_next f row (by rw [hml.out]; exact hlt)]; exact hT.out)
        clear hal hT hRd
        go_wp2_with (first
          | (go_at_call 78; (with_reducible refine HA.out.mono ?_); rintro e w2 ⟨v2, rfl, o2⟩; have hs2 := o2.slice; rw [HLa.out] at hs2; obtain ⟨A2, c2, rfl, hc2⟩ := hs2; have r2 := o2.reads; rw [HLa.out] at r2; have R2 := hide r2; have K2 := hide (hK.out.below o2.below hK.out.lt); have B2 := hide (hB.out.trans (o2.below.mono hB.out.size)); clear r2 o2)
          | fail)
        go_roundw
        case rel => exact ⟨f, m / 2 + m % 2, A2, c2, aboveD row, rfl, by omega, hc2, by omega, Hf2, HLa, HIa, HTa, R2, K2, B2⟩
        case measure => simp [sliceLen]; omega
      · have hd : decide ((1 : Int) < (m : Int)) = false := by simp; omega
        obtain rfl : m = 1 := by omega
        obtain ⟨x, rfl⟩ : ∃ x, row = [x] := by
          have := hml.out
          match row, this with
          | [x], _ => exact ⟨x, rfl⟩
        have hxR : x = R := by rw [← hT.out, topD_one]
        subst hxR
        obtain ⟨ga, oa, rfl, hga⟩ := reads32_at hRd.out (by omega)
        have HL := hide (id_cells (k := 0) hRd.out hid.out x rfl (by omega))
        rw [show oa + 0 * 32 = oa by omega] at HL
        have HXi := hide (id_size (hid.out x (by simp)))
        have HXv := hide hRV.out.val
        clear hT hRd hid
        go_wp2_with (first
          | ((with_reducible show wpList _ _ _ (⟨_, .load 44 _, _, _, _, _⟩ :: _) _ _); refine wpList_load_at rfl 44 _ rfl ⟨ga, oa, none⟩ rfl (x.map c8) _ Try.underlying44 rfl HXi.out HL.out ?_; rw [← HXv.out])
          | ((with_reducible show wpList _ _ _ (⟨_, .store 44 _ _, _, _, _, _⟩ :: _) _ _); refine wpList_store_row rfl 44 _ _ rfl w.heap.size rfl RV rfl 44 _ hK.out hRV.out.info (hZs.out.trans hRV.out.size.symm) hRV.out.one ?_)
          | fail)
        refine bodyPost_ret (v := .agg RV) ?_ rfl ⟨rfl, ?_⟩
        · exact results_cell_row rfl _ _ w.heap.size 44 RV (0, 0) _ rfl (setRow_heap _ _ _ _ _ _ hK.out) Try.underlying44 rfl hRV.out.info
        · exact below_setRow hB.out (Nat.le_refl _) _
set_option maxRecDepth 100000 in
set_option maxHeartbeats 1600000 in
theorem refroot44_any (A : Option Addr) (n c : Nat) (vs : List Value) (ps : List (List (BitVec 8))) (w : World) (hr : Reads w w.heap.size 1 A n vs) (hrs : Rows8 w w.heap.size vs ps) (hn : n ≤ 1099511627776) (hb : ps.flatten.length ≤ 1099511620000) :
    Calls Try.prog 57 #[.slice A n c] w fun e w' => e = .returned (.agg ((topD 40 (ps.map itemD)).map c8).toArray) ∧ Below w.heap.size w w' := by
  have hpl : ps.length = n := by have := hrs.1; have := hr.1; omega
  obtain ⟨Z, hZ, hZs⟩ := zeroId
  have hids : Ids (ps.map itemD) := by
    intro x hx
    obtain ⟨p, _, rfl⟩ := List.mem_map.1 hx
    exact itemD_len p
  obtain ⟨row0, hrow0⟩ : ∃ r, r = ps.map itemD := ⟨_, rfl⟩
  have hl0 : row0.length = n := by rw [hrow0, List.length_map, hpl]
  rw [← hrow0] at hids
  obtain ⟨R, hR⟩ : ∃ R, R = topD 40 row0 := ⟨_, rfl⟩
  rw [← hrow0, ← hR]
  have hRl : R.length = 32 := by rw [hR]; exact topD_len _ _ hids
  obtain ⟨RV, hRV⟩ := idVal R hRl
  obtain ⟨W0, hW0⟩ : ∃ W0, W0 = w.alloc (.cells Z 44) := ⟨_, rfl⟩
  have B0 : Below w.heap.size w W0 := by rw [hW0]; exact (Below.refl _ w).alloc (Nat.le_refl _) _
  have K0 : Blk W0 w.heap.size 44 Z := by rw [hW0]; exact Blk.new w 44 Z
  have HM : Hid (Calls Try.prog 79 #[.slice A n c] W0 fun e w' => ∃ v, e = .returned v ∧ OwnIds W0 w' v row0) := hide (by rw [hrow0]; exact hashes_any A n c vs ps W0 (hr.later B0) ((hrs.below B0).more B0.size) hn hb)
  have HT0 : Hid (topD 40 row0 = R) := hide hR.symm
  have HSm : Hid (row0.length = 0 → ∀ W : World, Calls Try.prog 36 #[.slice none 0 0] W fun e w' => e = .returned (.agg RV) ∧ Below W.heap.size W w') := hide (fun h0 W => by
    have e0 : row0 = [] := List.eq_nil_of_length_eq_zero h0
    have e1 : R = shaOf [] := by rw [hR, e0, topD_nil]
    have h := refsum_any none 0 0 [] W Reads.none_ (by omega)
    rw [hRV.val, e1]; exact h)
  rw [← hRV.val]
  have HB := hide B0
  have HK := hide K0
  have HW := hide hW0.symm
  have HIds := hide hids
  have HL0 := hide hl0
  replace hZ := hide hZ
  replace hZs := hide hZs
  replace hRV := hide hRV
  clear hr hrs hpl hids hrow0 hl0 hR hRl hW0 B0 K0 hb
  go_enter Try.func57, Try.ntmps57
  go_upto_region 2 with (first
    | ((with_reducible show wpList _ _ _ (⟨some 2, .alloc _, _, _, _, _⟩ :: _) _ _); refine wpList_alloc_is rfl 44 rfl Z hZ.out ?_; rw [HW.out])
    | (go_at_call 79; (with_reducible refine HM.out.mono ?_); rintro e w1 ⟨v1, rfl, o1⟩; have hs1 := o1.slice; rw [HL0.out] at hs1; obtain ⟨A1, c1, rfl, hc1⟩ := hs1; have O1 := hide o1; clear o1)
    | fail)
  have r1 := O1.out.reads
  rw [HL0.out] at r1
  have R1 := hide r1
  have B1 := hide (HB.out.trans (O1.out.below.mono HB.out.size))
  have K1 := hide (HK.out.below O1.out.below HK.out.lt)
  clear r1 O1 HM HB HK HW
  by_cases hn0 : n = 0
  · subst hn0
    have HS1 := hide (HSm.out HL0.out w1)
    clear HSm R1
    go_wp2_with (first
      | (go_at_call 36; (with_reducible refine HS1.out.mono ?_); rintro e w2 ⟨rfl, hb2⟩; have K2 := hide (K1.out.below hb2 K1.out.lt); have B2 := hide (B1.out.trans (hb2.mono B1.out.size)); clear hb2)
      | ((with_reducible show wpList _ _ _ (⟨_, .store 44 _ _, _, _, _, _⟩ :: _) _ _); refine wpList_store_row rfl 44 _ _ rfl w.heap.size rfl RV rfl 44 _ K2.out hRV.out.info (hZs.out.trans hRV.out.size.symm) hRV.out.one ?_)
      | fail)
    refine bodyPost_ret (v := .agg RV) ?_ rfl ⟨rfl, ?_⟩
    · exact results_cell_row rfl _ _ w.heap.size 44 RV (0, 0) _ rfl (setRow_heap _ _ _ _ _ _ K2.out) Try.underlying44 rfl hRV.out.info
    · exact below_setRow B2.out (Nat.le_refl _) _
  · have hd0 : ((n : Int) == 0) = false := by simp; omega
    have hn1 : 0 < n := by omega
    have hn40 : Hid (n ≤ 2 ^ 40) := hide (by omega)
    clear HSm
    go_upto_region 4 with fail
    go_loopw [3] (fun s wr => ∃ (f m : Nat) (A : Option Addr) (c : Nat) (row : List (List (BitVec 8))), s = .slice A m c ∧ 0 < m ∧ m ≤ c ∧ m ≤ n ∧ Hid (m ≤ 2 ^ f) ∧ Hid (row.length = m) ∧ Hid (Ids row) ∧ Hid (topD f row = R) ∧
      Hid (Reads wr wr.heap.size 32 A m (row.flatten.map c8)) ∧ Hid (Blk wr w.heap.size 44 Z) ∧ Hid (Below w.heap.size w wr)) (fun s _ => sliceLen s)
    case atStart => exact ⟨40, n, A1, c1, row0, rfl, hn1, hc1, Nat.le_refl _, hn40, HL0, HIds, HT0, R1, K1, B1⟩
    case round =>
      obtain ⟨f, m, A4, c4, row, rfl, hm0, hmc, hmn, hf, hml, hid, hT, hRd, hK, hB⟩ := hrel
      clear R1 K1 B1 HT0 HIds HL0
      by_cases hlt : 1 < m
      · have hd : decide ((1 : Int) < (m : Int)) = true := by simp; omega
        obtain ⟨f, rfl⟩ : ∃ g, f = g + 1 := ⟨f - 1, by have := hf.out; cases f with | zero => simp at this; omega | succ g => omega⟩
        have hal := aboveD_len row
        rw [hml.out] at hal
        have HA := hide (refabove_any A4 m c4 row wr hRd.out hid.out hml.out hmc (by omega))
        have Hf2 : Hid (m / 2 + m % 2 ≤ 2 ^ f) := hide (half_le m f hf.out)
        have HIa := hide (aboveD_ids row hid.out)
        have HLa := hide hal
        have HTa : Hid (topD f (aboveD row) = R) := hide (by rw [← topD_next f row (by rw [hml.out]; exact hlt)]; exact hT.out)
        clear hal hT hRd
        go_wp2_with (first
          | (go_at_call 80; (with_reducible refine HA.out.mono ?_); rintro e w2 ⟨v2, rfl, o2⟩; have hs2 := o2.slice; rw [HLa.out] at hs2; obtain ⟨A2, c2, rfl, hc2⟩ := hs2; have r2 := o2.reads; rw [HLa.out] at r2; have R2 := hide r2; have K2 := hide (hK.out.below o2.below hK.out.lt); have B2 := hide (hB.out.trans (o2.below.mono hB.out.size)); clear r2 o2)
          | fail)
        go_roundw
        case rel => exact ⟨f, m / 2 + m % 2, A2, c2, aboveD row, rfl, by omega, hc2, by omega, Hf2, HLa, HIa, HTa, R2, K2, B2⟩
        case measure => simp [sliceLen]; omega
      · have hd : decide ((1 : Int) < (m : Int)) = false := by simp; omega
        obtain rfl : m = 1 := by omega
        obtain ⟨x, rfl⟩ : ∃ x, row = [x] := by
          have := hml.out
          match row, this with
          | [x], _ => exact ⟨x, rfl⟩
        have hxR : x = R := by rw [← hT.out, topD_one]
        subst hxR
        obtain ⟨ga, oa, rfl, hga⟩ := reads32_at hRd.out (by omega)
        have HL := hide (id_cells (k := 0) hRd.out hid.out x rfl (by omega))
        rw [show oa + 0 * 32 = oa by omega] at HL
        have HXi := hide (id_size (hid.out x (by simp)))
        have HXv := hide hRV.out.val
        clear hT hRd hid
        go_wp2_with (first
          | ((with_reducible show wpList _ _ _ (⟨_, .load 44 _, _, _, _, _⟩ :: _) _ _); refine wpList_load_at rfl 44 _ rfl ⟨ga, oa, none⟩ rfl (x.map c8) _ Try.underlying44 rfl HXi.out HL.out ?_; rw [← HXv.out])
          | ((with_reducible show wpList _ _ _ (⟨_, .store 44 _ _, _, _, _, _⟩ :: _) _ _); refine wpList_store_row rfl 44 _ _ rfl w.heap.size rfl RV rfl 44 _ hK.out hRV.out.info (hZs.out.trans hRV.out.size.symm) hRV.out.one ?_)
          | fail)
        refine bodyPost_ret (v := .agg RV) ?_ rfl ⟨rfl, ?_⟩
        · exact results_cell_row rfl _ _ w.heap.size 44 RV (0, 0) _ rfl (setRow_heap _ _ _ _ _ _ hK.out) Try.underlying44 rfl hRV.out.info
        · exact below_setRow hB.out (Nat.le_refl _) _
end Go.Proofs.Ytdikknfdgpdenaa
namespace Go.Proofs.Ytdikknfdgpdenaa
open Go.RowKit
set_option linter.unusedVariables false
set_option linter.unusedSimpArgs false

/-- what a proof says of any place -/
def provI (i : Int) (l : List (List (BitVec 8))) : List (List (BitVec 8)) := if 0 ≤ i ∧ i < (l.length : Int) then proveD 40 i.toNat l else []
set_option maxRecDepth 100000 in
set_option maxHeartbeats 1600000 in
theorem prove44_any (i : Int) (A : Option Addr) (n c : Nat) (vs : List Value) (ps : List (List (BitVec 8))) (w : World) (hr : Reads w w.heap.size 1 A n vs) (hrs : Rows8 w w.heap.size vs ps) (hn : n ≤ 1099511627776) (hb : ps.flatten.length ≤ 1099511620000) :
    Calls Try.prog 55 #[.int .i64 i, .slice A n c] w fun e w' => ∃ v, e = .returned (.tuple #[v, .bool (decide (0 ≤ i ∧ i < (n : Int)))]) ∧ OwnIds w w' v (provI i (ps.map itemD)) := by
  have hpl : ps.length = n := by have := hrs.1; have := hr.1; omega
  have hids : Ids (ps.map itemD) := by
    intro x hx
    obtain ⟨p, _, rfl⟩ := List.mem_map.1 hx
    exact itemD_len p
  obtain ⟨row0, hrow0⟩ : ∃ r, r = ps.map itemD := ⟨_, rfl⟩
  have hl0 : row0.length = n := by rw [hrow0, List.length_map, hpl]
  rw [← hrow0] at hids
  have HM : Hid (Calls Try.prog 76 #[.slice A n c, .func (.func 77) #[] #[]] w fun e w' => ∃ v, e = .returned v ∧ OwnIds w w' v row0) := hide (by rw [hrow0]; exact mapped_any A n c vs ps w hr hrs hn hb)
  rw [← hrow0]
  obtain ⟨P, hP⟩ : ∃ P, P = provI i row0 := ⟨_, rfl⟩
  rw [← hP]
  by_cases hin : 0 ≤ i ∧ i < (n : Int)
  · obtain ⟨k, rfl⟩ : ∃ k : Nat, i = (k : Int) := ⟨i.toNat, by omega⟩
    rw [decide_eq_true hin]
    have HT0 : Hid ([] ++ proveD 40 k row0 = P) := hide (by rw [hP, provI, hl0, if_pos hin]; simp)
    have HIds := hide hids
    have HL0 := hide hl0
    have hkn : k < n := by omega
    have hd1 : decide ((k : Int) < 0) = false := by simp
    have hd2 : decide ((n : Int) ≤ (k : Int)) = false := by simp; omega
    have hn40 : Hid (n ≤ 2 ^ 40) := hide (by omega)
    clear hr hrs hpl hids hrow0 hl0 hb hP hin
    go_enter Try.func55, Try.ntmps55
    go_upto_region 5 with (first
      | (go_at_call 76; (with_reducible refine HM.out.mono ?_); rintro e w1 ⟨v1, rfl, o1⟩; have hs1 := o1.slice; rw [HL0.out] at hs1; obtain ⟨A1, c1, rfl, hc1⟩ := hs1; have O1 := hide o1; clear o1)
      | fail)
    have f1 := (OwnIds.none_ (Below.refl w.heap.size w)).far O1.out
    rw [HL0.out] at f1
    have F1 := hide f1
    have N1 := hide (OwnIds.none_ O1.out.below)
    clear f1 O1 HM
    go_loopw [0, 6, 7] (fun i o r wr => ∃ (f k m : Nat) (A : Option Addr) (c : Nat) (row done : List (List (BitVec 8))), i = .int .i64 (k : Int) ∧ r = .slice A m c ∧ k < m ∧ m ≤ c ∧ m ≤ n ∧ done.length + f ≤ 40 ∧ Hid (m ≤ 2 ^ f) ∧ Hid (row.length = m) ∧ Hid (Ids row) ∧
      Hid (OwnIds w wr o done) ∧ Hid (FarIds wr o A m row) ∧ Hid (done ++ proveD f k row = P)) (fun _ _ r _ => sliceLen r)
    case atStart => exact ⟨40, k, n, A1, c1, row0, [], rfl, rfl, hkn, hc1, Nat.le_refl _, by simp, hn40, HL0, HIds, N1, F1, HT0⟩
    case round =>
      obtain ⟨f, k, m, A4, c4, row, done, rfl, rfl, hkm, hmc, hmn, hdf, hf, hml, hid, hO, hF, hT⟩ := hrel
      clear F1 N1 HT0 HIds HL0
      by_cases hlt : 1 < m
      · have hd : decide ((1 : Int) < (m : Int)) = true := by simp; omega
        obtain ⟨f, rfl⟩ : ∃ g, f = g + 1 := ⟨f - 1, by have := hf.out; cases f with | zero => simp at this; omega | succ g => omega⟩
        have hal := aboveD_len row
        rw [hml.out] at hal
        have Hf2 : Hid (m / 2 + m % 2 ≤ 2 ^ f) := hide (half_le m f hf.out)
        have HIa := hide (aboveD_ids row hid.out)
        have HLa := hide hal
        have hTn : done ++ (row[sib k]?.toList ++ proveD f (k / 2) (aboveD row)) = P := by rw [← proveD_next f k row (by rw [hml.out]; exact hlt)]; exact hT.out
        have hk2 : k / 2 < m / 2 + m % 2 := by omega
        have hm2 : m / 2 + m % 2 ≤ n := by omega
        have hm3 : m / 2 + m % 2 < m := by omega
        have hk3 : (0 : Int) ≤ (k : Int) := by omega
        have hk4 : (k : Int) ≤ 1099511627776 := by omega
        have hsl := sib_lt k m hkm
        obtain ⟨s, hs⟩ : ∃ s, s = sib k := ⟨_, rfl⟩
        have hxor : bits .xor .i64 (k : Int) 1 = (s : Int) := by rw [hs]; exact sib_i64 k (by omega)
        have hs1 : s ≤ k + 1 := by rw [hs]; unfold sib; split <;> omega
        by_cases hsb : sib k < m
        · obtain ⟨q, hq⟩ : ∃ q, row[sib k]? = some q := ⟨_, List.getElem?_eq_getElem (by rw [hml.out]; exact hsb)⟩
          have HTn : Hid ((done ++ [q]) ++ proveD f (k / 2) (aboveD row) = P) := hide (by rw [← hTn, hq]; simp)
          have hql : q.length = 32 := hid.out q (List.mem_of_getElem? hq)
          obtain ⟨V, hV⟩ := idVal q hql
          have HQl := hide hql
          have HVi := hide (id_size hql)
          have HVv := hide hV.val
          have HV := hide hV
          obtain ⟨ga, oa, rfl, hga⟩ := reads32_at hF.out.1 (by omega)
          have HAb : Hid (∀ W : World, Reads W W.heap.size 32 (some ⟨ga, oa, none⟩) m (row.flatten.map c8) → Calls Try.prog 78 #[.slice (some ⟨ga, oa, none⟩) m c4] W fun e w' => ∃ v, e = .returned v ∧ OwnIds W w' v (aboveD row)) := hide fun W hW => above_any (some ⟨ga, oa, none⟩) m c4 row W hW hid.out hml.out hmc (by omega)
          have HF := hide hF.out
          have hm0 : 0 < m := by omega
          have hge : decide (s < m) = true := by rw [hs]; simp; omega
          have hs0 : (0 : Int) ≤ (s : Int) := by omega
          have hs2 : (s : Int) < (m : Int) := by rw [hs]; omega
          have HL := hide (id_cells (k := sib k) hF.out.1 hid.out q hq (by exact hsb))
          clear hal hq hql hV hTn hT hF
          rw [← hs] at HL
          clear hs hsl hsb
          go_wp2_with (first
            | ((with_reducible show wpList _ _ _ (⟨_, .load 44 _, _, _, _, _⟩ :: _) _ _); refine wpList_load_at rfl 44 _ rfl ⟨ga, oa + s * 32, none⟩ rfl (q.map c8) _ Try.underlying44 rfl HVi.out HL.out ?_; rw [← HVv.out])
            | ((with_reducible show wpList _ _ _ (⟨_, .buildSlice _ _ _, _, _, _, _⟩ :: _) _ _); refine wpList_build_id rfl _ rfl V rfl HV.out.size ?_; have hb3 := (Below.refl wr.heap.size wr).alloc (Nat.le_refl _) (.cells V 44); have O3 := hide (hO.out.later hb3); have F3 := hide (HF.out.later hb3); have R3 := hide (reads_blk_id (Blk.new wr 44 V) HQl.out HV.out); clear hb3)
            | (at_builtin; refine wpList_append_ids rfl (.tmp 30) (.tmp 35) rfl w _ done rfl O3.out _ 1 1 _ rfl _ R3.out (ids_one HQl.out) rfl (by omega) ?_; intro v4 w4 O4' g4 h4; have O4 := hide O4'; have F4 := hide (F3.out.grown hm0 g4 h4); clear O4' g4 h4)
            | (go_at_call 78; ((with_reducible refine (HAb.out _ F4.out.reads).mono ?_); rintro e w2 ⟨v2, rfl, o2⟩; have hs2 := o2.slice; rw [HLa.out] at hs2; obtain ⟨A2, c2, rfl, hc2⟩ := hs2; have f2 := O4.out.far o2; rw [HLa.out] at f2; have F2 := hide f2; have O2 := hide (O4.out.later o2.below); clear f2 o2))
            | fail)
          go_roundw
          case rel => exact ⟨f, k / 2, m / 2 + m % 2, A2, c2, aboveD row, done ++ [q], val_half k, rfl, hk2, hc2, hm2, by (try simp); omega, Hf2, HLa, HIa, O2, F2, HTn⟩
          case measure => simp [sliceLen]; omega
        · have hq : row[sib k]? = none := List.getElem?_eq_none (by rw [hml.out]; exact Nat.le_of_not_lt hsb)
          have HTn : Hid (done ++ proveD f (k / 2) (aboveD row) = P) := hide (by rw [← hTn, hq]; simp)
          have HAb : Hid (∀ W : World, Reads W W.heap.size 32 A4 m (row.flatten.map c8) → Calls Try.prog 78 #[.slice A4 m c4] W fun e w' => ∃ v, e = .returned v ∧ OwnIds W w' v (aboveD row)) := hide fun W hW => above_any A4 m c4 row W hW hid.out hml.out hmc (by omega)
          have HF := hide hF.out
          have hm0 : 0 < m := by omega
          have hge : decide (s < m) = false := by rw [hs]; simp; omega
          clear hs
          clear hal hsl hTn hq hT hF
          go_wp2_with (first
            | (go_at_call 78; ((with_reducible refine (HAb.out _ HF.out.reads).mono ?_); rintro e w2 ⟨v2, rfl, o2⟩; have hs2 := o2.slice; rw [HLa.out] at hs2; obtain ⟨A2, c2, rfl, hc2⟩ := hs2; have f2 := hO.out.far o2; rw [HLa.out] at f2; have F2 := hide f2; have O2 := hide (hO.out.later o2.below); clear f2 o2))
            | fail)
          go_roundw
          case rel => exact ⟨f, k / 2, m / 2 + m % 2, A2, c2, aboveD row, done, val_half k, rfl, hk2, hc2, hm2, by (try simp); omega, Hf2, HLa, HIa, O2, F2, HTn⟩
          case measure => simp [sliceLen]; omega
      · have hd : decide ((1 : Int) < (m : Int)) = false := by simp; omega
        have HTe : Hid (done = P) := hide (by rw [← hT.out, proveD_end _ _ _ (by rw [hml.out]; omega)]; simp)
        clear hT
        go_wp2
        go_ret2
        exact ⟨_, rfl, by rw [← HTe.out]; exact hO.out⟩
  · rw [decide_eq_false hin]
    have HP : Hid (P = []) := hide (by rw [hP, provI, hl0, if_neg hin])
    by_cases hi0 : i < 0
    · have hd1 : decide (i < 0) = true := by simp; omega
      clear hr hrs hpl hids hrow0 hl0 hb hP hin HM
      go_enter Try.func55, Try.ntmps55
      go_wp2_with fail
      go_ret2
      exact ⟨_, rfl, by rw [HP.out]; exact OwnIds.none_ (Below.refl _ _)⟩
    · have hd1 : decide (i < 0) = false := by simp; omega
      have hd2 : decide ((n : Int) ≤ i) = true := by simp; omega
      clear hr hrs hpl hids hrow0 hl0 hb hP hin HM
      go_enter Try.func55, Try.ntmps55
      go_wp2_with fail
      go_ret2
      exact ⟨_, rfl, by rw [HP.out]; exact OwnIds.none_ (Below.refl _ _)⟩
set_option maxRecDepth 100000 in
set_option maxHeartbeats 1600000 in
theorem refprove44_any (i : Int) (A : Option Addr) (n c : Nat) (vs : List Value) (ps : List (List (BitVec 8))) (w : World) (hr : Reads w w.heap.size 1 A n vs) (hrs : Rows8 w w.heap.size vs ps) (hn : n ≤ 1099511627776) (hb : ps.flatten.length ≤ 1099511620000) :
    Calls Try.prog 56 #[.int .i64 i, .slice A n c] w fun e w' => ∃ v, e = .returned (.tuple #[v, .bool (decide (0 ≤ i ∧ i < (n : Int)))]) ∧ OwnIds w w' v (provI i (ps.map itemD)) := by
  have hpl : ps.length = n := by have := hrs.1; have := hr.1; omega
  have hids : Ids (ps.map itemD) := by
    intro x hx
    obtain ⟨p, _, rfl⟩ := List.mem_map.1 hx
    exact itemD_len p
  obtain ⟨row0, hrow0⟩ : ∃ r, r = ps.map itemD := ⟨_, rfl⟩
  have hl0 : row0.length = n := by rw [hrow0, List.length_map, hpl]
  rw [← hrow0] at hids
  have HM : Hid (Calls Try.prog 79 #[.slice A n c] w fun e w' => ∃ v, e = .returned v ∧ OwnIds w w' v row0) := hide (by rw [hrow0]; exact hashes_any A n c vs ps w hr hrs hn hb)
  rw [← hrow0]
  obtain ⟨P, hP⟩ : ∃ P, P = provI i row0 := ⟨_, rfl⟩
  rw [← hP]
  by_cases hin : 0 ≤ i ∧ i < (n : Int)
  · obtain ⟨k, rfl⟩ : ∃ k : Nat, i = (k : Int) := ⟨i.toNat, by omega⟩
    rw [decide_eq_true hin]
    have HT0 : Hid ([] ++ proveD 40 k row0 = P) := hide (by rw [hP, provI, hl0, if_pos hin]; simp)
    have HIds := hide hids
    have HL0 := hide hl0
    have hkn : k < n := by omega
    have hd1 : decide ((k : Int) < 0) = false := by simp
    have hd2 : decide ((n : Int) ≤ (k : Int)) = false := by simp; omega
    have hn40 : Hid (n ≤ 2 ^ 40) := hide (by omega)
    clear hr hrs hpl hids hrow0 hl0 hb hP hin
    go_enter Try.func56, Try.ntmps56
    go_upto_region 5 with (first
      | (go_at_call 79; (with_reducible refine HM.out.mono ?_); rintro e w1 ⟨v1, rfl, o1⟩; have hs1 := o1.slice; rw [HL0.out] at hs1; obtain ⟨A1, c1, rfl, hc1⟩ := hs1; have O1 := hide o1; clear o1)
      | fail)
    have f1 := (OwnIds.none_ (Below.refl w.heap.size w)).far O1.out
    rw [HL0.out] at f1
    have F1 := hide f1
    have N1 := hide (OwnIds.none_ O1.out.below)
    clear f1 O1 HM
    go_loopw [0, 6, 7] (fun i o r wr => ∃ (f k m : Nat) (A : Option Addr) (c : Nat) (row done : List (List (BitVec 8))), i = .int .i64 (k : Int) ∧ r = .slice A m c ∧ k < m ∧ m ≤ c ∧ m ≤ n ∧ done.length + f ≤ 40 ∧ Hid (m ≤ 2 ^ f) ∧ Hid (row.length = m) ∧ Hid (Ids row) ∧
      Hid (OwnIds w wr o done) ∧ Hid (FarIds wr o A m row) ∧ Hid (done ++ proveD f k row = P)) (fun _ _ r _ => sliceLen r)
    case atStart => exact ⟨40, k, n, A1, c1, row0, [], rfl, rfl, hkn, hc1, Nat.le_refl _, by simp, hn40, HL0, HIds, N1, F1, HT0⟩
    case round =>
      obtain ⟨f, k, m, A4, c4, row, done, rfl, rfl, hkm, hmc, hmn, hdf, hf, hml, hid, hO, hF, hT⟩ := hrel
      clear F1 N1 HT0 HIds HL0
      by_cases hlt : 1 < m
      · have hd : decide ((1 : Int) < (m : Int)) = true := by simp; omega
        obtain ⟨f, rfl⟩ : ∃ g, f = g + 1 := ⟨f - 1, by have := hf.out; cases f with | zero => simp at this; omega | succ g => omega⟩
        have hal := aboveD_len row
        rw [hml.out] at hal
        have Hf2 : Hid (m / 2 + m % 2 ≤ 2 ^ f) := hide (half_le m f hf.out)
        have HIa := hide (aboveD_ids row hid.out)
        have HLa := hide hal
        have hTn : done ++ (row[sib k]?.toList ++ proveD f (k / 2) (aboveD row)) = P := by rw [← proveD_next f k row (by rw [hml.out]; exact hlt)]; exact hT.out
        have hk2 : k / 2 < m / 2 + m % 2 := by omega
        have hm2 : m / 2 + m % 2 ≤ n := by omega
        have hm3 : m / 2 + m % 2 < m := by omega
        have hk3 : (0 : Int) ≤ (k : Int) := by omega
        have hk4 : (k : Int) ≤ 1099511627776 := by omega
        have hsl := sib_lt k m hkm
        by_cases hod : k % 2 = 1
        · have hsk : sib k = k - 1 := by unfold sib; rw [if_neg (by omega)]
          have hmod : ((k : Int) % 2 == 1) = true := by simp; omega
          have hw1 : IntKind.i64.wrap ((k : Int) - 1) = ((k - 1 : Nat) : Int) := by rw [IntWalk.i64_in _ (by omega)]; omega
          have hw2 : (k : Int) - 1 = ((k - 1 : Nat) : Int) := by omega
          obtain ⟨j, hj⟩ : ∃ j, j = k - 1 := ⟨_, rfl⟩
          rw [← hj] at hsk hw1 hw2
          have hj1 : j < m := by omega
          obtain ⟨q, hq⟩ : ∃ q, row[sib k]? = some q := ⟨_, List.getElem?_eq_getElem (by rw [hml.out]; exact (by rw [hsk]; exact hj1))⟩
          have HTn : Hid ((done ++ [q]) ++ proveD f (k / 2) (aboveD row) = P) := hide (by rw [← hTn, hq]; simp)
          have hql : q.length = 32 := hid.out q (List.mem_of_getElem? hq)
          obtain ⟨V, hV⟩ := idVal q hql
          have HQl := hide hql
          have HVi := hide (id_size hql)
          have HVv := hide hV.val
          have HV := hide hV
          obtain ⟨ga, oa, rfl, hga⟩ := reads32_at hF.out.1 (by omega)
          have HAb : Hid (∀ W : World, Reads W W.heap.size 32 (some ⟨ga, oa, none⟩) m (row.flatten.map c8) → Calls Try.prog 80 #[.slice (some ⟨ga, oa, none⟩) m c4] W fun e w' => ∃ v, e = .returned v ∧ OwnIds W w' v (aboveD row)) := hide fun W hW => refabove_any (some ⟨ga, oa, none⟩) m c4 row W hW hid.out hml.out hmc (by omega)
          have HF := hide hF.out
          have hm0 : 0 < m := by omega
          have hs0 : (0 : Int) ≤ (j : Int) := by omega
          have hs2 : (j : Int) < (m : Int) := by omega
          have HL := hide (id_cells (k := sib k) hF.out.1 hid.out q hq (by exact (by rw [hsk]; exact hj1)))
          clear hal hq hql hV hTn hT hF
          rw [hsk] at HL
          clear hsl hsk hj
          go_wp2_with (first
            | ((with_reducible show wpList _ _ _ (⟨_, .load 44 _, _, _, _, _⟩ :: _) _ _); refine wpList_load_at rfl 44 _ rfl ⟨ga, oa + j * 32, none⟩ rfl (q.map c8) _ Try.underlying44 rfl HVi.out HL.out ?_; rw [← HVv.out])
            | ((with_reducible show wpList _ _ _ (⟨_, .buildSlice _ _ _, _, _, _, _⟩ :: _) _ _); refine wpList_build_id rfl _ rfl V rfl HV.out.size ?_; have hb3 := (Below.refl wr.heap.size wr).alloc (Nat.le_refl _) (.cells V 44); have O3 := hide (hO.out.later hb3); have F3 := hide (HF.out.later hb3); have R3 := hide (reads_blk_id (Blk.new wr 44 V) HQl.out HV.out); clear hb3)
            | (at_builtin; refine wpList_append_ids rfl (.tmp 24) (.tmp 30) rfl w _ done rfl O3.out _ 1 1 _ rfl _ R3.out (ids_one HQl.out) rfl (by omega) ?_; intro v4 w4 O4' g4 h4; have O4 := hide O4'; have F4 := hide (F3.out.grown hm0 g4 h4); clear O4' g4 h4)
            | (go_at_call 80; ((with_reducible refine (HAb.out _ F4.out.reads).mono ?_); rintro e w2 ⟨v2, rfl, o2⟩; have hs2 := o2.slice; rw [HLa.out] at hs2; obtain ⟨A2, c2, rfl, hc2⟩ := hs2; have f2 := O4.out.far o2; rw [HLa.out] at f2; have F2 := hide f2; have O2 := hide (O4.out.later o2.below); clear f2 o2))
            | fail)
          go_roundw
          case rel => exact ⟨f, k / 2, m / 2 + m % 2, A2, c2, aboveD row, done ++ [q], val_half k, rfl, hk2, hc2, hm2, by (try simp); omega, Hf2, HLa, HIa, O2, F2, HTn⟩
          case measure => simp [sliceLen]; omega
        · have hsk : sib k = k + 1 := by unfold sib; rw [if_pos (by omega)]
          have hmod : ((k : Int) % 2 == 1) = false := by simp; omega
          have hw1 : IntKind.i64.wrap ((k : Int) + 1) = (k : Int) + 1 := IntWalk.i64_in _ (by omega)
          by_cases hk1 : k + 1 < m
          · have hd2 : decide ((k : Int) + 1 < (m : Int)) = true := by simp; omega
            obtain ⟨q, hq⟩ : ∃ q, row[sib k]? = some q := ⟨_, List.getElem?_eq_getElem (by rw [hml.out]; exact (by rw [hsk]; exact hk1))⟩
            have HTn : Hid ((done ++ [q]) ++ proveD f (k / 2) (aboveD row) = P) := hide (by rw [← hTn, hq]; simp)
            have hql : q.length = 32 := hid.out q (List.mem_of_getElem? hq)
            obtain ⟨V, hV⟩ := idVal q hql
            have HQl := hide hql
            have HVi := hide (id_size hql)
            have HVv := hide hV.val
            have HV := hide hV
            obtain ⟨ga, oa, rfl, hga⟩ := reads32_at hF.out.1 (by omega)
            have HAb : Hid (∀ W : World, Reads W W.heap.size 32 (some ⟨ga, oa, none⟩) m (row.flatten.map c8) → Calls Try.prog 80 #[.slice (some ⟨ga, oa, none⟩) m c4] W fun e w' => ∃ v, e = .returned v ∧ OwnIds W w' v (aboveD row)) := hide fun W hW => refabove_any (some ⟨ga, oa, none⟩) m c4 row W hW hid.out hml.out hmc (by omega)
            have HF := hide hF.out
            have hm0 : 0 < m := by omega
            have hs0 : (0 : Int) ≤ (k : Int) + 1 := by omega
            have hs2 : (k : Int) + 1 < (m : Int) := by omega
            have hs3 : ((k : Int) + 1).toNat = k + 1 := by omega
            have hs4 : decide ((k : Int) + 1 < 0) = false := by simp; omega
            have HL := hide (id_cells (k := sib k) hF.out.1 hid.out q hq (by exact (by rw [hsk]; exact hk1)))
            clear hal hq hql hV hTn hT hF
            rw [hsk] at HL
            clear hsl hsk
            go_wp2_with (first
              | ((with_reducible show wpList _ _ _ (⟨_, .load 44 _, _, _, _, _⟩ :: _) _ _); refine wpList_load_at rfl 44 _ rfl ⟨ga, oa + (k + 1) * 32, none⟩ rfl (q.map c8) _ Try.underlying44 rfl HVi.out HL.out ?_; rw [← HVv.out])
              | ((with_reducible show wpList _ _ _ (⟨_, .buildSlice _ _ _, _, _, _, _⟩ :: _) _ _); refine wpList_build_id rfl _ rfl V rfl HV.out.size ?_; have hb3 := (Below.refl wr.heap.size wr).alloc (Nat.le_refl _) (.cells V 44); have O3 := hide (hO.out.later hb3); have F3 := hide (HF.out.later hb3); have R3 := hide (reads_blk_id (Blk.new wr 44 V) HQl.out HV.out); clear hb3)
              | (at_builtin; refine wpList_append_ids rfl (.tmp 37) (.tmp 43) rfl w _ done rfl O3.out _ 1 1 _ rfl _ R3.out (ids_one HQl.out) rfl (by omega) ?_; intro v4 w4 O4' g4 h4; have O4 := hide O4'; have F4 := hide (F3.out.grown hm0 g4 h4); clear O4' g4 h4)
              | (go_at_call 80; ((with_reducible refine (HAb.out _ F4.out.reads).mono ?_); rintro e w2 ⟨v2, rfl, o2⟩; have hs2 := o2.slice; rw [HLa.out] at hs2; obtain ⟨A2, c2, rfl, hc2⟩ := hs2; have f2 := O4.out.far o2; rw [HLa.out] at f2; have F2 := hide f2; have O2 := hide (O4.out.later o2.below); clear f2 o2))
              | fail)
            go_roundw
            case rel => exact ⟨f, k / 2, m / 2 + m % 2, A2, c2, aboveD row, done ++ [q], val_half k, rfl, hk2, hc2, hm2, by (try simp); omega, Hf2, HLa, HIa, O2, F2, HTn⟩
            case measure => simp [sliceLen]; omega
          · have hd2 : decide ((k : Int) + 1 < (m : Int)) = false := by simp; omega
            have hq : row[sib k]? = none := List.getElem?_eq_none (by rw [hml.out]; exact (by rw [hsk]; omega))
            have HTn : Hid (done ++ proveD f (k / 2) (aboveD row) = P) := hide (by rw [← hTn, hq]; simp)
            have HAb : Hid (∀ W : World, Reads W W.heap.size 32 A4 m (row.flatten.map c8) → Calls Try.prog 80 #[.slice A4 m c4] W fun e w' => ∃ v, e = .returned v ∧ OwnIds W w' v (aboveD row)) := hide fun W hW => refabove_any A4 m c4 row W hW hid.out hml.out hmc (by omega)
            have HF := hide hF.out
            have hm0 : 0 < m := by omega
            clear hsk
            clear hal hsl hTn hq hT hF
            go_wp2_with (first
              | (go_at_call 80; ((with_reducible refine (HAb.out _ HF.out.reads).mono ?_); rintro e w2 ⟨v2, rfl, o2⟩; have hs2 := o2.slice; rw [HLa.out] at hs2; obtain ⟨A2, c2, rfl, hc2⟩ := hs2; have f2 := hO.out.far o2; rw [HLa.out] at f2; have F2 := hide f2; have O2 := hide (hO.out.later o2.below); clear f2 o2))
              | fail)
            go_roundw
            case rel => exact ⟨f, k / 2, m / 2 + m % 2, A2, c2, aboveD row, done, val_half k, rfl, hk2, hc2, hm2, by (try simp); omega, Hf2, HLa, HIa, O2, F2, HTn⟩
            case measure => simp [sliceLen]; omega
      · have hd : decide ((1 : Int) < (m : Int)) = false := by simp; omega
        have HTe : Hid (done = P) := hide (by rw [← hT.out, proveD_end _ _ _ (by rw [hml.out]; omega)]; simp)
        clear hT
        go_wp2
        go_ret2
        exact ⟨_, rfl, by rw [← HTe.out]; exact hO.out⟩
  · rw [decide_eq_false hin]
    have HP : Hid (P = []) := hide (by rw [hP, provI, hl0, if_neg hin])
    by_cases hi0 : i < 0
    · have hd1 : decide (i < 0) = true := by simp; omega
      clear hr hrs hpl hids hrow0 hl0 hb hP hin HM
      go_enter Try.func56, Try.ntmps56
      go_wp2_with fail
      go_ret2
      exact ⟨_, rfl, by rw [HP.out]; exact OwnIds.none_ (Below.refl _ _)⟩
    · have hd1 : decide (i < 0) = false := by simp; omega
      have hd2 : decide ((n : Int) ≤ i) = true := by simp; omega
      clear hr hrs hpl hids hrow0 hl0 hb hP hin HM
      go_enter Try.func56, Try.ntmps56
      go_wp2_with fail
      go_ret2
      exact ⟨_, rfl, by rw [HP.out]; exact OwnIds.none_ (Below.refl _ _)⟩
end Go.Proofs.Ytdikknfdgpdenaa
