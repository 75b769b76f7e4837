/- The stream of chapter 07, plain. No condition. A stream, where it stands; package stream's none and number. No condition. Package stream's New, Seek, Place, At and Mask. No condition (Mask: at most 2^40 bytes). Package stream's Mask. Condition: at most 2^40 bytes. Chapter 07's reference: From and Mask. Condition: at most 2^40 bytes. Chapter 07's reference: Mask. Condition: at most 2^40 bytes. -/
import Derived.Test.YtdeljodfanfbmaaCipherDec
import Derived.Test.YtdeljodfanfbmaaCipherRefs
namespace Go.Proofs.Ytdeljodfanfbmaa
open Go.RowKit
set_option linter.unusedVariables false

/-- a number's block, of whose bytes the last i are laid -/
def ctrH (n i : Nat) : List (BitVec 8) := (List.range 16).map fun p => if 16 - i ≤ p then BitVec.ofNat 8 (n / 2 ^ (8 * (15 - p))) else 0#8
def ctrB (n : Nat) : List (BitVec 8) := ctrH n 8
theorem ctrH_len (n i : Nat) : (ctrH n i).length = 16 := by simp [ctrH]
theorem ctrB_len (n : Nat) : (ctrB n).length = 16 := ctrH_len n 8
theorem ctrH_zero (n : Nat) : ctrH n 0 = List.replicate 16 0#8 := by
  apply List.ext_getElem?
  intro p
  by_cases hp : p < 16
  · rw [ctrH, List.getElem?_map, List.getElem?_range hp, Option.map_some, if_neg (by omega), List.getElem?_replicate, if_pos hp]
  · rw [List.getElem?_eq_none (by rw [ctrH_len]; omega), List.getElem?_eq_none (by rw [List.length_replicate]; omega)]
theorem ctrH_get (n i p : Nat) (hp : p < 16) : (ctrH n i)[p]? = some (if 16 - i ≤ p then BitVec.ofNat 8 (n / 2 ^ (8 * (15 - p))) else 0#8) := by
  rw [ctrH, List.getElem?_map, List.getElem?_range hp, Option.map_some]
theorem ctrH_next (n i : Nat) (hi : i < 8) : (ctrH n i).set (15 - i) (BitVec.ofNat 8 (n / 2 ^ (8 * i))) = ctrH n (i + 1) := by
  apply List.ext_getElem?
  intro p
  by_cases hp : p < 16
  · by_cases he : 15 - i = p
    · subst he
      rw [List.getElem?_set_self (by rw [ctrH_len]; exact hp), ctrH_get n (i + 1) _ hp, if_pos (by omega), show 15 - (15 - i) = i by omega]
    · rw [List.getElem?_set_ne he, ctrH_get n i p hp, ctrH_get n (i + 1) p hp]
      by_cases hq : 16 - i ≤ p
      · rw [if_pos hq, if_pos (by omega)]
      · rw [if_neg hq, if_neg (by omega)]
  · rw [List.getElem?_eq_none (by rw [List.length_set, ctrH_len]; omega), List.getElem?_eq_none (by rw [ctrH_len]; omega)]
/-- a place's byte -/
def streamAt (ks : List (BitVec 8)) (n : Nat) : BitVec 8 := (encN sub8 ks (ctrB (n / 16)) 14).getD (n % 16) 0
/-- so many bytes from a place on -/
def fromL (ks : List (BitVec 8)) (at_ : BitVec 64) (j : Nat) : List (BitVec 8) := (List.range j).map fun i => streamAt ks (at_ + BitVec.ofNat 64 i).toNat
theorem fromL_len (ks : List (BitVec 8)) (at_ : BitVec 64) (j : Nat) : (fromL ks at_ j).length = j := by simp [fromL]
theorem fromL_succ (ks : List (BitVec 8)) (at_ : BitVec 64) (j : Nat) : fromL ks at_ (j + 1) = fromL ks at_ j ++ [streamAt ks (at_ + BitVec.ofNat 64 j).toNat] := by
  simp [fromL, List.range_succ]
theorem fromL_get (ks : List (BitVec 8)) (at_ : BitVec 64) (j i : Nat) (h : i < j) : (fromL ks at_ j)[i]? = some (streamAt ks (at_ + BitVec.ofNat 64 i).toNat) := by
  rw [fromL, List.getElem?_map, List.getElem?_range h, Option.map_some]
theorem fromL_add (ks : List (BitVec 8)) (at_ : BitVec 64) (m n : Nat) : fromL ks at_ (m + n) = fromL ks at_ m ++ fromL ks (at_ + BitVec.ofNat 64 m) n := by
  induction n with
  | zero => simp [fromL]
  | succ n ih =>
    rw [← Nat.add_assoc, fromL_succ, fromL_succ, ih, List.append_assoc]
    congr 4
    rw [BitVec.add_assoc, BitVec.ofNat_add]
/-- bytes masked from a place on -/
def maskL (ks : List (BitVec 8)) (at_ : BitVec 64) (l : List (BitVec 8)) : List (BitVec 8) := xorL l (fromL ks at_ l.length)
theorem maskL_len (ks : List (BitVec 8)) (at_ : BitVec 64) (l : List (BitVec 8)) : (maskL ks at_ l).length = l.length := xorL_len _ _ _ rfl (fromL_len _ _ _)
theorem maskL_maskL (ks : List (BitVec 8)) (at_ : BitVec 64) (l : List (BitVec 8)) : maskL ks at_ (maskL ks at_ l) = l := by
  rw [maskL, maskL_len, maskL]
  exact xorL_xorL _ _ (by rw [fromL_len]; exact Nat.le_refl _)
theorem xorL_append (a b c d : List (BitVec 8)) (h : a.length = c.length) : xorL (a ++ b) (c ++ d) = xorL a c ++ xorL b d := by
  rw [xorL, xorL, xorL, List.zipWith_append h]
theorem maskL_append (ks : List (BitVec 8)) (at_ : BitVec 64) (a b : List (BitVec 8)) : maskL ks at_ (a ++ b) = maskL ks at_ a ++ maskL ks (at_ + BitVec.ofNat 64 a.length) b := by
  rw [maskL, List.length_append, fromL_add, xorL_append _ _ _ _ (by rw [fromL_len]), maskL, maskL]
theorem maskL_get (ks : List (BitVec 8)) (at_ : BitVec 64) (l : List (BitVec 8)) (i : Nat) (x : BitVec 8) (hx : l[i]? = some x) : (maskL ks at_ l)[i]? = some (x ^^^ streamAt ks (at_ + BitVec.ofNat 64 i).toNat) := by
  have hi : i < l.length := (List.getElem?_eq_some_iff.1 hx).1
  rw [maskL, xorL, List.getElem?_zipWith, hx, fromL_get ks at_ _ _ hi]
theorem inc64 (x : BitVec 64) : ((x.toNat : Int) + 1) % 18446744073709551616 = ((x + 1#64).toNat : Int) := by
  rw [BitVec.toNat_add]
  have : (1#64 : BitVec 64).toNat = 1 := rfl
  rw [this]; omega
theorem at_succ (x : BitVec 64) (i : Nat) : x + BitVec.ofNat 64 (i + 1) = x + BitVec.ofNat 64 i + 1#64 := by
  rw [BitVec.add_assoc, ← BitVec.ofNat_add]
/-! the document's example -/
def key07 : List (BitVec 8) := List.replicate 32 0#8
set_option maxRecDepth 100000 in
theorem stream07 : streamAt (keysOf sub8 key07) 0 = 220#8 ∧ streamAt (keysOf sub8 key07) 1 = 149#8 := by
  unfold streamAt
  rw [sub8_subT]
  decide +kernel
end Go.Proofs.Ytdeljodfanfbmaa
namespace Go.Proofs.Ytdeljodfanfbmaa
open Go.RowKit Go.Shelf
set_option linter.unusedVariables false
set_option linter.unusedSimpArgs false
attribute [local go_sem] Gives givesUpon
attribute [local irreducible] Gives

theorem gb_cell (w : World) (g i : Nat) (v : Value) : w.grownBy (w.setCell ⟨g, i, none⟩ v) (some g) :=
  ⟨rfl, rfl, rfl, by simp, fun k hk hne => heap_setCell_other w ⟨g, i, none⟩ k v (fun e => hne (by rw [e]))⟩
theorem gb_row (w : World) (g : Nat) (c : Array Value) : w.grownBy (w.setRow g c) (some g) :=
  ⟨rfl, rfl, rfl, by simp, fun k hk hne => setRow_other w g k c (fun e => hne (by rw [e]))⟩
theorem gb_trans {a b c : World} {row : Option Nat} (h : a.grownBy b row) (k : b.grownBy c row) : a.grownBy c row :=
  ⟨k.os.trans h.os, k.tape.trans h.tape, k.output.trans h.output, Nat.le_trans h.size k.size, fun i hi hne => (k.block i (Nat.lt_of_lt_of_le hi h.size) hne).trans (h.block i hi hne)⟩
theorem gb_below {a b c : World} {row : Option Nat} (h : a.grownBy b row) (k : Below b.heap.size b c) : a.grownBy c row :=
  ⟨k.os.trans h.os, k.tape.trans h.tape, k.output.trans h.output, Nat.le_trans h.size k.size, fun i hi hne => (k.block i (Nat.lt_of_lt_of_le hi h.size)).trans (h.block i hi hne)⟩
theorem gb_of {a b : World} (k : Below a.heap.size a b) (row : Option Nat) : a.grownBy b row := gb_below (World.grownBy.refl a row) k
/-- a store into a block that came later -/
theorem gb_later {a b : World} {row : Option Nat} (h : a.grownBy b row) {g : Nat} (hg : a.heap.size ≤ g) (c : Array Value) : a.grownBy (b.setRow g c) row :=
  ⟨h.os, h.tape, h.output, by simp [World.setRow]; exact h.size, fun i hi hne => (setRow_other b g i c (by omega)).trans (h.block i hi hne)⟩
theorem gives_store_at {P : Program} {o : Oper} {a : Act} {w : World} {X : Value → World → Prop} (ty : TypeId) (p x : Operand) (ho : o.op = .store ty p x) (g off : Nat) (hp : a.eval p = .pointer (some ⟨g, off, none⟩)) (vs : List Value) (hx : a.eval x = .agg vs.toArray)
    (t : TypeId) (cur : Array Value) (hg : w.heap[g]? = some (.cells cur t (0, 0))) (hi : (P.info? ty).map (·.size) = some vs.length) (hl : off + vs.length ≤ cur.size) (h1 : ∀ v ∈ vs, v.oneCell' = true) (h : X undef (w.setRow g (splice cur.toList off vs).toArray)) : Gives P o a w X := by
  unfold Gives execOp
  simp only [ho, hp, hx, Sem.run_bind, Result.andThen_ok, run_storeAt_at w ty t g off cur vs hg hi hl h1, givesUpon]
  exact h
def streamCells (gc : Nat) (sm : Bool) (n : Nat) (last : List (BitVec 8)) (pl : BitVec 64) : List Value := [.pointer (some ⟨gc, 0, none⟩), .bool sm, .int .u64 (n : Int)] ++ (last.map c8 ++ [.int .u64 (pl.toNat : Int)])
/-- at a block stands a stream of these keys, at this place -/
def StreamIs (w : World) (gs : Nat) (ks : List (BitVec 8)) (pl : BitVec 64) : Prop :=
  ∃ gc sm n last, Blk w gs 84 (streamCells gc sm n last pl).toArray ∧ CipherIs w gc ks ∧ last.length = 16 ∧ (sm = true → last = encN sub8 ks (ctrB n) 14)
theorem StreamIs.lt {w : World} {gs : Nat} {ks : List (BitVec 8)} {pl : BitVec 64} (h : StreamIs w gs ks pl) : gs < w.heap.size := by
  obtain ⟨_, _, _, _, h, _⟩ := h; exact h.lt
theorem StreamIs.below {w w' : World} {gs : Nat} {ks : List (BitVec 8)} {pl : BitVec 64} (h : StreamIs w gs ks pl) (hb : Below w.heap.size w w') : StreamIs w' gs ks pl := by
  obtain ⟨gc, sm, n, last, h1, h2, h3⟩ := h
  exact ⟨gc, sm, n, last, h1.below hb h1.lt, h2.below hb, h3⟩
theorem CipherIs.grown {w w' : World} {g : Nat} {ks : List (BitVec 8)} {k : Nat} (h : CipherIs w g ks) (hg : w.grownBy w' (some k)) (hk : g ≠ k) (hb : ∀ gb cs, Blk w gb 43 cs → gb ≠ k) : CipherIs w' g ks := by
  obtain ⟨h0, gb, h1, cs, h2, h3⟩ := h
  exact ⟨h0, gb, h1.grown hg (by simpa using hk), cs, h2.grown hg (by simpa using hb gb cs h2), h3⟩
/-- of another block, of another type than a stream, a cipher and a box -/
theorem StreamIs.grown {w w' : World} {gs : Nat} {ks : List (BitVec 8)} {pl : BitVec 64} {k : Nat} {t : TypeId} {cs : Array Value} (h : StreamIs w gs ks pl) (hg : w.grownBy w' (some k)) (hk : Blk w k t cs) (n1 : t ≠ 84) (n2 : t ≠ 61) (n3 : t ≠ 43) : StreamIs w' gs ks pl := by
  obtain ⟨gc, sm, n, last, h1, h2, h3⟩ := h
  have e2 := h2
  obtain ⟨_, gb, hc, _⟩ := e2
  exact ⟨gc, sm, n, last, h1.grown hg (fun e => Blk.ne_ h1 hk n1.symm (by injection e)), h2.grown hg (Blk.ne_ hc hk n2.symm) (fun gb c hb => Blk.ne_ hb hk n3.symm), h3⟩
theorem streamCells_len (gc : Nat) (sm : Bool) (n : Nat) (last : List (BitVec 8)) (pl : BitVec 64) (h : last.length = 16) : (streamCells gc sm n last pl).length = 20 := by simp [streamCells, h]
theorem streamCells_last (gc : Nat) (sm : Bool) (n : Nat) (last : List (BitVec 8)) (pl : BitVec 64) (j : Nat) (v : Value) (hv : (last.map c8)[j]? = some v) : (streamCells gc sm n last pl)[3 + j]? = some v := by
  have hj : j < (last.map c8).length := (List.getElem?_eq_some_iff.1 hv).1
  rw [streamCells, List.getElem?_append_right (by simp), List.getElem?_append_left (by simpa using hj)]
  rw [← hv]; congr 1
  simp
theorem streamCells_place (gc : Nat) (sm : Bool) (n : Nat) (last : List (BitVec 8)) (pl : BitVec 64) (h : last.length = 16) : (streamCells gc sm n last pl)[19]? = some (.int .u64 (pl.toNat : Int)) := by
  rw [streamCells, List.getElem?_append_right (by simp), List.getElem?_append_right (by simp [h])]
  simp [h]
theorem streamCells_some (gc : Nat) (sm : Bool) (n : Nat) (last : List (BitVec 8)) (pl : BitVec 64) (b : Bool) : (streamCells gc sm n last pl).toArray.setIfInBounds 1 (.bool b) = (streamCells gc b n last pl).toArray := by
  rw [List.setIfInBounds_toArray]; rfl
theorem streamCells_n (gc : Nat) (sm : Bool) (n : Nat) (last : List (BitVec 8)) (pl : BitVec 64) (m : Nat) : (streamCells gc sm n last pl).toArray.setIfInBounds 2 (.int .u64 (m : Int)) = (streamCells gc sm m last pl).toArray := by
  rw [List.setIfInBounds_toArray]; rfl
theorem streamCells_set (gc : Nat) (sm : Bool) (n : Nat) (last : List (BitVec 8)) (pl pl' : BitVec 64) (h : last.length = 16) : (streamCells gc sm n last pl).toArray.setIfInBounds 19 (.int .u64 (pl'.toNat : Int)) = (streamCells gc sm n last pl').toArray := by
  rw [List.setIfInBounds_toArray, streamCells, List.set_append_right _ _ (by simp), List.set_append_right _ _ (by simp [h]), streamCells]
  simp [h]
theorem streamCells_splice (gc : Nat) (sm : Bool) (n : Nat) (last x : List (BitVec 8)) (pl : BitVec 64) (h : last.length = 16) (hx : x.length = 16) : splice (streamCells gc sm n last pl) 3 (x.map c8) = streamCells gc sm n x pl := by
  have e := splice_mid [Value.pointer (some ⟨gc, 0, none⟩), .bool sm, .int .u64 (n : Int)] (last.map c8 ++ [.int .u64 (pl.toNat : Int)]) (x.map c8)
  rw [List.drop_append_of_le_length (by simp [h, hx]), List.drop_of_length_le (by simp [h, hx])] at e
  exact e
theorem StreamIs.setPlace {w : World} {gs : Nat} {ks : List (BitVec 8)} {pl : BitVec 64} (h : StreamIs w gs ks pl) (pl' : BitVec 64) : StreamIs (w.setCell ⟨gs, 19, none⟩ (.int .u64 (pl'.toNat : Int))) gs ks pl' := by
  obtain ⟨gc, sm, n, last, h1, h2, h3, h4⟩ := h
  have e2 := h2
  obtain ⟨_, gb, hc, _⟩ := e2
  refine ⟨gc, sm, n, last, ?_, h2.grown (gb_cell w gs 19 _) (Blk.ne_ hc h1 (by decide)) (fun gb c hb => Blk.ne_ hb h1 (by decide)), h3, h4⟩
  have := h1.set_ 19 (.int .u64 (pl'.toNat : Int))
  rw [streamCells_set gc sm n last pl pl' h3] at this
  exact this
theorem StreamIs.place {w : World} {gs : Nat} {ks : List (BitVec 8)} {pl : BitVec 64} (h : StreamIs w gs ks pl) : w.cell? ⟨gs, 19, none⟩ = some (.int .u64 (pl.toNat : Int)) := by
  obtain ⟨gc, sm, n, last, h1, h2, h3, h4⟩ := h
  exact (h1.cell 19).trans (by rw [List.getElem?_toArray]; exact streamCells_place gc sm n last pl h3)
theorem StreamIs.frozen {w : World} {gs : Nat} {ks : List (BitVec 8)} {pl : BitVec 64} (h : StreamIs w gs ks pl) (i : Nat) : w.frozen? ⟨gs, i, none⟩ = false := by
  obtain ⟨gc, sm, n, last, h1, h2, h3, h4⟩ := h
  exact h1.frozen i
theorem StreamIs.some_ {w : World} {gs : Nat} {ks : List (BitVec 8)} {pl : BitVec 64} (h : StreamIs w gs ks pl) : ∃ gc, w.cell? ⟨gs, 0, none⟩ = some (.pointer (some ⟨gc, 0, none⟩)) := by
  obtain ⟨gc, sm, n, last, h1, h2, h3, h4⟩ := h
  exact ⟨gc, h1.cell 0⟩
theorem none_no (gs gc : Nat) (w : World) (hc : w.cell? ⟨gs, 0, none⟩ = some (.pointer (some ⟨gc, 0, none⟩))) : Calls Try.prog 70 #[.pointer (some ⟨gs, 0, none⟩)] w fun e w' => e = .returned (.bool false) ∧ w = w' := by
  go_enter Try.func70, Try.ntmps70
  go_wp2
  go_ret
  exact ⟨rfl, rfl⟩
theorem none_nil (w : World) : Calls Try.prog 70 #[.pointer none] w fun e w' => e = .returned (.bool true) ∧ w = w' := by
  go_enter Try.func70, Try.ntmps70
  go_wp2
  go_ret
  exact ⟨rfl, rfl⟩
theorem none_blank (gs : Nat) (w : World) (hc : w.cell? ⟨gs, 0, none⟩ = some (.pointer none)) : Calls Try.prog 70 #[.pointer (some ⟨gs, 0, none⟩)] w fun e w' => e = .returned (.bool true) ∧ w = w' := by
  go_enter Try.func70, Try.ntmps70
  go_wp2
  go_ret
  exact ⟨rfl, rfl⟩
theorem byteN (n k : Nat) : ((n / 2 ^ k % 256 : Nat) : Int) = ((BitVec.ofNat 8 (n / 2 ^ k)).toNat : Int) := by rw [BitVec.toNat_ofNat]
/-- what holds all along the region in which a block is encrypted and kept -/
def NumI (w : World) (gs gc g5 gr : Nat) (ks : List (BitVec 8)) (V Z : Array Value) (W : World) : Prop :=
  W.cell? ⟨gs, 0, none⟩ = some (.pointer (some ⟨gc, 0, none⟩)) ∧ Blk W g5 46 V ∧ Blk W gr 46 Z ∧ CipherIs W gc ks ∧ w.grownBy W (some gs)
theorem NumI.below {w W W' : World} {gs gc g5 gr : Nat} {ks : List (BitVec 8)} {V Z : Array Value} (h : NumI w gs gc g5 gr ks V Z W) (hb : Below W.heap.size W W') (hs : gs < W.heap.size) : NumI w gs gc g5 gr ks V Z W' :=
  ⟨(hb.cell (p := ⟨gs, 0, none⟩) hs).trans h.1, h.2.1.below hb h.2.1.lt, h.2.2.1.below hb h.2.2.1.lt, h.2.2.2.1.below hb, gb_below h.2.2.2.2 hb⟩
theorem NumI.put {w W W' : World} {gs gc g5 gr : Nat} {ks : List (BitVec 8)} {V Z cs : Array Value} (h : NumI w gs gc g5 gr ks V Z W) (hs : Blk W gs 84 cs) (hg : W.grownBy W' (some gs)) (hc : W'.cell? ⟨gs, 0, none⟩ = some (.pointer (some ⟨gc, 0, none⟩))) : NumI w gs gc g5 gr ks V Z W' := by
  obtain ⟨h1, h2, h3, h4, h5⟩ := h
  have e4 := h4
  obtain ⟨_, gb, hcc, _⟩ := e4
  exact ⟨hc, h2.grown hg (fun e => Blk.ne_ h2 hs (by decide) (by injection e)), h3.grown hg (fun e => Blk.ne_ h3 hs (by decide) (by injection e)), h4.grown hg (Blk.ne_ hcc hs (by decide)) (fun gb c hb => Blk.ne_ hb hs (by decide)), gb_trans h5 hg⟩
set_option maxRecDepth 100000 in
set_option maxHeartbeats 3200000 in
theorem number_hit (gs : Nat) (ks : List (BitVec 8)) (pl : BitVec 64) (n gc : Nat) (last : List (BitVec 8)) (w : World) (hS : Blk w gs 84 (streamCells gc true n last pl).toArray) (hll : last.length = 16) :
    Calls Try.prog 71 #[.pointer (some ⟨gs, 0, none⟩), .int .u64 (n : Int)] w fun e w' => e = .returned (.agg (last.map c8).toArray) ∧ Below w.heap.size w w' := by
  obtain ⟨Z, hZ, hZv⟩ := zeroB
  obtain ⟨R, hR⟩ := bVal last hll
  have hlt := hS.lt
  have SA := hS.alloc (.cells Z 46)
  have KA := hide (Blk.new w 46 Z)
  have BA := hide ((Below.refl w.heap.size w).alloc (Nat.le_refl _) (.cells Z 46))
  have HL : Hid (∀ j v, (last.map c8)[j]? = some v → (w.alloc (.cells Z 46)).cell? ((⟨gs, 3, none⟩ : Addr).add j) = some v) := hide fun j v hv => by
    rw [Addr.add_lit]
    exact (SA.cell (3 + j)).trans (by rw [List.getElem?_toArray]; exact streamCells_last gc true n last pl j v hv)
  have q1 := SA.cell 1
  have q2 := SA.cell 2
  rw [List.getElem?_toArray] at q1 q2
  rw [show (streamCells gc true n last pl)[1]? = some (.bool true) from rfl] at q1
  rw [show (streamCells gc true n last pl)[2]? = some (.int .u64 (n : Int)) from rfl] at q2
  have HLi : Hid ((Try.prog.info? 46).map (·.size) = some (last.map c8).length) := hide (by rw [List.length_map, hll]; exact info_block)
  replace hR := hide hR
  replace hZ := hide hZ
  replace hZv := hide hZv
  clear hS SA hll
  go_enter Try.func71, Try.ntmps71
  rw [← hR.out.val]
  go_wp2_with (first
    | ((with_reducible show wpList _ _ _ (⟨some 4, .alloc _, _, _, _, _⟩ :: _) _ _); refine wpList_alloc_is rfl 46 rfl Z hZ.out ?_)
    | ((with_reducible show wpList _ _ _ (⟨some 22, .load 46 _, _, _, _, _⟩ :: _) _ _); refine wpList_load_at rfl 46 _ rfl ⟨gs, 3, none⟩ rfl (last.map c8) _ Try.underlying46 rfl HLi.out HL.out ?_; rw [← hR.out.val])
    | ((with_reducible show wpList _ _ _ (⟨_, .store 46 _ _, _, _, _, _⟩ :: _) _ _); refine wpList_store_row rfl 46 _ _ rfl w.heap.size rfl R rfl 46 _ KA.out hR.out.info (by rw [hZv.out.size, hR.out.size]) hR.out.one ?_)
    | fail)
  refine bodyPost_ret (v := .agg R) ?_ rfl ⟨rfl, ?_⟩
  · exact results_cell_row rfl _ _ w.heap.size 46 R (0, 0) _ rfl (setRow_heap _ _ _ _ _ _ KA.out) Try.underlying46 rfl hR.out.info
  · exact below_setRow BA.out (Nat.le_refl _) _
set_option maxRecDepth 100000 in
set_option maxHeartbeats 6400000 in
theorem number_miss_false (gs : Nat) (ks : List (BitVec 8)) (pl : BitVec 64) (n k gc : Nat) (last : List (BitVec 8)) (w : World) (hS : Blk w gs 84 (streamCells gc false k last pl).toArray) (hC : CipherIs w gc ks) (hll : last.length = 16) (hm : false = true → k ≠ n) :
    Calls Try.prog 71 #[.pointer (some ⟨gs, 0, none⟩), .int .u64 (n : Int)] w fun e w' => e = .returned (.agg ((encN sub8 ks (ctrB n) 14).map c8).toArray) ∧ StreamIs w' gs ks pl ∧ w.grownBy w' (some gs) := by
  obtain ⟨Z, hZ, hZv⟩ := zeroB
  obtain ⟨ZL, hZL⟩ : ∃ ZL, ZL = List.replicate 16 0#8 := ⟨_, rfl⟩
  obtain ⟨V, hV⟩ := bVal (ctrB n) (ctrB_len n)
  obtain ⟨x, hx⟩ : ∃ x, x = encN sub8 ks (ctrB n) 14 := ⟨_, rfl⟩
  have hxl : x.length = 16 := by rw [hx]; exact encN_len _ _ _ _ (ctrB_len n) hC.1 (by omega)
  obtain ⟨R, hR⟩ := bVal x hxl
  have hlt := hS.lt
  have HEN : Hid (∀ W : World, CipherIs W gc ks → Calls Try.prog 35 #[.pointer (some ⟨gc, 0, none⟩), .agg V] W fun e w' => e = .returned (.agg R) ∧ Below W.heap.size W w') := hide fun W h => by rw [hR.val, hx]; exact encrypt_any gc ks (ctrB n) V hV W h
  rw [← hx, ← hR.val]
  obtain ⟨W0, hW0, sz, p4, p5, hB⟩ := blks2 w 46 46 Z Z
  have G5 : Hid (Blk W0 (w.heap.size + 1) 46 ((ctrH n 0).map c8).toArray) := hide (by rw [ctrH_zero, ← hZv.val]; exact p5)
  have S0 := hide (hS.below hB hlt)
  have K0 := hide p4
  have HB := hide hB
  have HC0 := hide hC
  have SA := hS.alloc (.cells Z 46)
  have q1 := SA.cell 1
  have q2 := SA.cell 2
  rw [List.getElem?_toArray] at q1 q2
  rw [show (streamCells gc false k last pl)[1]? = some (.bool false) from rfl] at q1
  rw [show (streamCells gc false k last pl)[2]? = some (.int .u64 (k : Int)) from rfl] at q2
  have HLL := hide hll
  have HX : Hid (splice (streamCells gc true n last pl) 3 (x.map c8) = streamCells gc true n x pl) := hide (streamCells_splice gc true n last x pl hll hxl)
  have HSI : Hid (∀ W : World, Blk W gs 84 (streamCells gc true n x pl).toArray → CipherIs W gc ks → StreamIs W gs ks pl) := hide fun W h1 h2 => ⟨gc, true, n, x, h1, h2, hxl, fun _ => hx⟩
  have HXi : Hid ((Try.prog.info? 46).map (·.size) = some (x.map c8).length) := hide (by rw [List.length_map, hxl]; exact info_block)
  have HLn : Hid (3 + (x.map c8).length ≤ 20) := hide (by rw [List.length_map, hxl]; omega)
  have HXV := hide hR.val
  replace hR := hide hR
  replace hV := hide hV
  replace hZ := hide hZ
  replace hZv := hide hZv
  replace hW0 := hide hW0
  replace sz := hide sz
  have hbyte : ∀ i, Hid ((n / 2 ^ (8 * i) % 256 : Nat) = (BitVec.ofNat 8 (n / 2 ^ (8 * i))).toNat) := fun i => hide (by rw [BitVec.toNat_ofNat])
  have HBY := hide hbyte
  clear hS hC hll hx hxl hB p4 p5 SA hbyte
  go_enter Try.func71, Try.ntmps71
  clear hm
  · clear hZL
    go_wp2_with (first
      | ((with_reducible show wpList _ _ _ (⟨_, .alloc _, _, _, _, _⟩ :: _) _ _); refine wpList_alloc_is rfl 46 rfl Z hZ.out ?_))
    rw [hW0.out]
    clear q1 q2
    go_loopw [23, 6] (fun v v6 wr => ∃ i : Nat, i ≤ 8 ∧ v = .int .i64 (i : Int) ∧ Hid (Blk wr (w.heap.size + 1) 46 ((ctrH n i).map c8).toArray) ∧ Hid (Below (w.heap.size + 1) W0 wr)) (fun v _ _ => 8 - (intOf v).toNat)
    case atStart => exact ⟨0, by omega, rfl, G5, hide (Below.refl _ _)⟩
    case round =>
      obtain ⟨i, hi, rfl, P5, HP⟩ := hrel
      clear G5
      by_cases hlt8 : i < 8
      · have hd : decide ((i : Int) < 8) = true := by simp; omega
        obtain ⟨z, hz⟩ : ∃ z, z = BitVec.ofNat 8 (n / 2 ^ (8 * i)) := ⟨_, rfl⟩
        have HS : Hid ((ctrH n i).set (15 - i) z = ctrH n (i + 1)) := hide (by rw [hz]; exact ctrH_next n i hlt8)
        have HZ8 : Hid ((n / 2 ^ (8 * i) % 256 : Nat) = z.toNat) := by rw [hz]; exact HBY.out i
        obtain ⟨o5, d5⟩ : ∃ o, wr.cell? ⟨w.heap.size + 1, 15 - i, none⟩ = some o := ⟨_, (P5.out.cell _).trans (by rw [List.getElem?_toArray]; exact List.getElem?_eq_getElem (by rw [List.length_map, ctrH_len]; omega))⟩
        have df := P5.out.frozen (15 - i)
        have e7 := hide (P5.out.set8 (p := 15 - i) z)
        rw [HS.out] at e7
        have HB2 := hide (HP.out.setCell (p := ⟨w.heap.size + 1, 15 - i, none⟩) (Nat.le_refl _) (c8 z))
        clear hz P5 HP
        rcases (by omega : i = 0 ∨ i = 1 ∨ i = 2 ∨ i = 3 ∨ i = 4 ∨ i = 5 ∨ i = 6 ∨ i = 7) with rfl | rfl | rfl | rfl | rfl | rfl | rfl | rfl
        all_goals
          simp only [Nat.reduceSub, Nat.reduceAdd, Nat.sub_zero, Nat.zero_add] at d5 df e7 HB2
          first
            | (have hzq : (n : Int) % 256 = (z.toNat : Int) := (by have := (HZ8.out : (n / 2 ^ 0 % 256 : Nat) = z.toNat); omega))
            | (have hzq : (n : Int) / 256 % 256 = (z.toNat : Int) := (by have := (HZ8.out : (n / 2 ^ 8 % 256 : Nat) = z.toNat); omega))
            | (have hzq : (n : Int) / 65536 % 256 = (z.toNat : Int) := (by have := (HZ8.out : (n / 2 ^ 16 % 256 : Nat) = z.toNat); omega))
            | (have hzq : (n : Int) / 16777216 % 256 = (z.toNat : Int) := (by have := (HZ8.out : (n / 2 ^ 24 % 256 : Nat) = z.toNat); omega))
            | (have hzq : (n : Int) / 4294967296 % 256 = (z.toNat : Int) := (by have := (HZ8.out : (n / 2 ^ 32 % 256 : Nat) = z.toNat); omega))
            | (have hzq : (n : Int) / 1099511627776 % 256 = (z.toNat : Int) := (by have := (HZ8.out : (n / 2 ^ 40 % 256 : Nat) = z.toNat); omega))
            | (have hzq : (n : Int) / 281474976710656 % 256 = (z.toNat : Int) := (by have := (HZ8.out : (n / 2 ^ 48 % 256 : Nat) = z.toNat); omega))
            | (have hzq : (n : Int) / 72057594037927936 % 256 = (z.toNat : Int) := (by have := (HZ8.out : (n / 2 ^ 56 % 256 : Nat) = z.toNat); omega))
          go_wp2
          go_roundw
          case rel => exact ⟨_, hlt8, int_succ _, e7, HB2⟩
          case measure => decide
      · obtain rfl : i = 8 := by omega
        have hd : decide ((8 : Int) < 8) = false := by decide
        rw [show ctrH n 8 = ctrB n from rfl, ← hV.out.val] at P5
        have hb0 := HP.out.size
        have hs0 := S0.out.lt
        have hk0 := K0.out.lt
        have hw0 := HB.out.size
        have S1 := hide (S0.out.below HP.out (by omega))
        have K1 := hide (K0.out.below HP.out (by omega))
        have hsz := sz.out
        have HBW := hide (HB.out.trans (HP.out.mono (by omega)))
        have C1 := hide (HC0.out.below HBW.out)
        have hI : Hid (NumI w gs gc (w.heap.size + 1) w.heap.size ks V Z wr) := hide ⟨S1.out.cell 0, P5.out, K1.out, C1.out, gb_of HBW.out _⟩
        have HVi := hide hV.out.info
        have hlr := S1.out.lt
        go_wp2
        apply wp_region_stage (hv := [9, 12, 15, 18]) (I := NumI w gs gc (w.heap.size + 1) w.heap.size ks V Z) (C := fun W => Blk W gs 84 (streamCells gc false k last pl).toArray) (ss := [_, _, _, _, _, _, _, _, _, _, _, _, _, _, _, _, _, _, _]) (by kernel_rfl) (by kernel_rfl) (by kernel_rfl) (by kernel_rfl) ⟨hI.out.1, hI.out.2.1, hI.out.2.2.1, hI.out.2.2.2.1, ⟨hI.out.2.2.2.2.os, hI.out.2.2.2.2.tape, hI.out.2.2.2.2.output, hI.out.2.2.2.2.size, hI.out.2.2.2.2.block⟩⟩ S1.out
        repeat (first
          | (apply stWalk_light
             · rfl
             · (intro W hI
                have d0 := hI.1
                go_simp
                with_reducible exact rfl)
             (try simp only [Act.put, List.setIfInBounds_toArray, List.set_cons_zero, List.set_cons_succ])))
        apply stWalk_light
        · rfl
        · intro W hI
          rw [if_pos (wanted_none _ rfl)]
          exact gives_load_row 46 _ rfl (w.heap.size + 1) rfl 46 V (0, 0) _ hI.2.1 Try.underlying46 rfl HVi.out ⟨rfl, rfl⟩
        (try simp only [Act.put, List.setIfInBounds_toArray, List.set_cons_zero, List.set_cons_succ])
        apply stWalk_turnc (fun W => Blk W gs 84 (streamCells gc false k last pl).toArray)
        · rfl
        · rfl
        · intro W hI hC
          refine gives_call rfl [.pointer (some ⟨gc, 0, none⟩), .agg V] rfl (enters_of Try.func35 (by kernel_rfl) rfl) ?_
          refine (HEN.out W hI.2.2.2.1).mono ?_
          rintro e w' ⟨rfl, hb⟩
          exact ⟨_, rfl, rfl, hI.below hb hC.lt, hC.below hb hC.lt⟩
        (try simp only [Act.put, List.setIfInBounds_toArray, List.set_cons_zero, List.set_cons_succ])
        repeat (first
          | (apply stWalk_light
             · rfl
             · (intro W hI
                have d0 := hI.1
                go_simp
                with_reducible exact rfl)
             (try simp only [Act.put, List.setIfInBounds_toArray, List.set_cons_zero, List.set_cons_succ])))
        apply stWalk_turnc (c := undef) (fun W => Blk W gs 84 (streamCells gc true k last pl).toArray)
        · rfl
        · rfl
        · intro W hI hC
          have hn := hC.set_ 1 (.bool true)
          rw [streamCells_some] at hn
          have hp := hide (hI.put hC (gb_cell W gs 1 (.bool true)) (hn.cell 0))
          have HN := hide hn
          have dc := hC.cell 1
          rw [List.getElem?_toArray, show (streamCells gc false k last pl)[1]? = some (.bool false) from rfl] at dc
          have df := hC.frozen 1
          clear hn hC hI
          go_simp
          exact ⟨hp.out, HN.out⟩
        (try simp only [Act.put, List.setIfInBounds_toArray, List.set_cons_zero, List.set_cons_succ])
        repeat (first
          | (apply stWalk_light
             · rfl
             · (intro W hI
                have d0 := hI.1
                go_simp
                with_reducible exact rfl)
             (try simp only [Act.put, List.setIfInBounds_toArray, List.set_cons_zero, List.set_cons_succ])))
        apply stWalk_turnc (c := undef) (fun W => Blk W gs 84 (streamCells gc true n last pl).toArray)
        · rfl
        · rfl
        · intro W hI hC
          have hn := hC.set_ 2 (.int .u64 (n : Int))
          rw [streamCells_n] at hn
          have hp := hide (hI.put hC (gb_cell W gs 2 (.int .u64 (n : Int))) (hn.cell 0))
          have HN := hide hn
          have dc := hC.cell 2
          rw [List.getElem?_toArray, show (streamCells gc true k last pl)[2]? = some (.int .u64 (k : Int)) from rfl] at dc
          have df := hC.frozen 2
          clear hn hC hI
          go_simp
          exact ⟨hp.out, HN.out⟩
        (try simp only [Act.put, List.setIfInBounds_toArray, List.set_cons_zero, List.set_cons_succ])
        repeat (first
          | (apply stWalk_light
             · rfl
             · (intro W hI
                have d0 := hI.1
                go_simp
                with_reducible exact rfl)
             (try simp only [Act.put, List.setIfInBounds_toArray, List.set_cons_zero, List.set_cons_succ])))
        apply stWalk_turnc (c := undef) (fun W => Blk W gs 84 (streamCells gc true n x pl).toArray)
        · rfl
        · rfl
        · intro W hI hC
          refine gives_store_at 46 _ _ rfl gs 3 rfl (x.map c8) (by rw [← HXV.out]; rfl) 84 _ hC HXi.out (by rw [List.size_toArray, streamCells_len gc true n last pl HLL.out]; exact HLn.out) (oneCell_c8 x) ?_
          have hn := hC.setRow_ (splice (streamCells gc true n last pl) 3 (x.map c8)).toArray
          rw [HX.out] at hn
          refine ⟨rfl, ?_, ?_⟩
          · rw [HX.out]; exact hI.put hC (gb_row W gs _) (hn.cell 0)
          · rw [HX.out]; exact hn
        (try simp only [Act.put, List.setIfInBounds_toArray, List.set_cons_zero, List.set_cons_succ])
        refine stWalk_nil ?_
        intro W hI hC
        have HS9 := hide hC
        have K9 := hide hI.2.2.1
        have HC9 := hide hI.2.2.2.1
        have HG9 := hide hI.2.2.2.2
        have hcl := hC.lt
        have HL : Hid (∀ j v, (x.map c8)[j]? = some v → W.cell? ((⟨gs, 3, none⟩ : Addr).add j) = some v) := hide fun j v hv => by
          rw [Addr.add_lit]
          exact (HS9.out.cell (3 + j)).trans (by rw [List.getElem?_toArray]; exact streamCells_last gc true n x pl j v hv)
        clear hI hC
        go_wp2_with (first
          | ((with_reducible show wpList _ _ _ (⟨some 54, .load 46 _, _, _, _, _⟩ :: _) _ _); refine wpList_load_at rfl 46 _ rfl ⟨gs, 3, none⟩ rfl (x.map c8) _ Try.underlying46 rfl HXi.out HL.out ?_; rw [← HXV.out])
          | ((with_reducible show wpList _ _ _ (⟨_, .store 46 _ _, _, _, _, _⟩ :: _) _ _); refine wpList_store_row rfl 46 _ _ rfl w.heap.size rfl R rfl 46 _ K9.out hR.out.info (by rw [hZv.out.size, hR.out.size]) hR.out.one ?_)
          | fail)
        refine bodyPost_ret (v := .agg R) ?_ rfl ⟨rfl, ?_, ?_⟩
        · exact results_cell_row rfl _ _ w.heap.size 46 R (0, 0) _ rfl (setRow_heap _ _ _ _ _ _ K9.out) Try.underlying46 rfl hR.out.info
        · have hgr := gb_row W w.heap.size R
          have e9 := HC9.out
          obtain ⟨_, gb, hcc, _⟩ := e9
          exact HSI.out _ (HS9.out.setRow_far _ (by omega)) (HC9.out.grown hgr (Blk.ne_ hcc K9.out (by decide)) (fun gb c hb => Blk.ne_ hb K9.out (by decide)))
        · exact gb_later HG9.out (Nat.le_refl _) R
set_option maxRecDepth 100000 in
set_option maxHeartbeats 6400000 in
theorem number_miss_true (gs : Nat) (ks : List (BitVec 8)) (pl : BitVec 64) (n k gc : Nat) (last : List (BitVec 8)) (w : World) (hS : Blk w gs 84 (streamCells gc true k last pl).toArray) (hC : CipherIs w gc ks) (hll : last.length = 16) (hm : true = true → k ≠ n) :
    Calls Try.prog 71 #[.pointer (some ⟨gs, 0, none⟩), .int .u64 (n : Int)] w fun e w' => e = .returned (.agg ((encN sub8 ks (ctrB n) 14).map c8).toArray) ∧ StreamIs w' gs ks pl ∧ w.grownBy w' (some gs) := by
  obtain ⟨Z, hZ, hZv⟩ := zeroB
  obtain ⟨ZL, hZL⟩ : ∃ ZL, ZL = List.replicate 16 0#8 := ⟨_, rfl⟩
  obtain ⟨V, hV⟩ := bVal (ctrB n) (ctrB_len n)
  obtain ⟨x, hx⟩ : ∃ x, x = encN sub8 ks (ctrB n) 14 := ⟨_, rfl⟩
  have hxl : x.length = 16 := by rw [hx]; exact encN_len _ _ _ _ (ctrB_len n) hC.1 (by omega)
  obtain ⟨R, hR⟩ := bVal x hxl
  have hlt := hS.lt
  have HEN : Hid (∀ W : World, CipherIs W gc ks → Calls Try.prog 35 #[.pointer (some ⟨gc, 0, none⟩), .agg V] W fun e w' => e = .returned (.agg R) ∧ Below W.heap.size W w') := hide fun W h => by rw [hR.val, hx]; exact encrypt_any gc ks (ctrB n) V hV W h
  rw [← hx, ← hR.val]
  obtain ⟨W0, hW0, sz, p4, p5, hB⟩ := blks2 w 46 46 Z Z
  have G5 : Hid (Blk W0 (w.heap.size + 1) 46 ((ctrH n 0).map c8).toArray) := hide (by rw [ctrH_zero, ← hZv.val]; exact p5)
  have S0 := hide (hS.below hB hlt)
  have K0 := hide p4
  have HB := hide hB
  have HC0 := hide hC
  have SA := hS.alloc (.cells Z 46)
  have q1 := SA.cell 1
  have q2 := SA.cell 2
  rw [List.getElem?_toArray] at q1 q2
  rw [show (streamCells gc true k last pl)[1]? = some (.bool true) from rfl] at q1
  rw [show (streamCells gc true k last pl)[2]? = some (.int .u64 (k : Int)) from rfl] at q2
  have HLL := hide hll
  have HX : Hid (splice (streamCells gc true n last pl) 3 (x.map c8) = streamCells gc true n x pl) := hide (streamCells_splice gc true n last x pl hll hxl)
  have HSI : Hid (∀ W : World, Blk W gs 84 (streamCells gc true n x pl).toArray → CipherIs W gc ks → StreamIs W gs ks pl) := hide fun W h1 h2 => ⟨gc, true, n, x, h1, h2, hxl, fun _ => hx⟩
  have HXi : Hid ((Try.prog.info? 46).map (·.size) = some (x.map c8).length) := hide (by rw [List.length_map, hxl]; exact info_block)
  have HLn : Hid (3 + (x.map c8).length ≤ 20) := hide (by rw [List.length_map, hxl]; omega)
  have HXV := hide hR.val
  replace hR := hide hR
  replace hV := hide hV
  replace hZ := hide hZ
  replace hZv := hide hZv
  replace hW0 := hide hW0
  replace sz := hide sz
  have hbyte : ∀ i, Hid ((n / 2 ^ (8 * i) % 256 : Nat) = (BitVec.ofNat 8 (n / 2 ^ (8 * i))).toNat) := fun i => hide (by rw [BitVec.toNat_ofNat])
  have HBY := hide hbyte
  clear hS hC hll hx hxl hB p4 p5 SA hbyte
  go_enter Try.func71, Try.ntmps71
  have hkd : ((k : Int) == (n : Int)) = false := by have := hm rfl; simp; omega
  clear hm
  · clear hZL
    go_wp2_with (first
      | ((with_reducible show wpList _ _ _ (⟨_, .alloc _, _, _, _, _⟩ :: _) _ _); refine wpList_alloc_is rfl 46 rfl Z hZ.out ?_))
    rw [hW0.out]
    clear q1 q2
    go_loopw [23, 6] (fun v v6 wr => ∃ i : Nat, i ≤ 8 ∧ v = .int .i64 (i : Int) ∧ Hid (Blk wr (w.heap.size + 1) 46 ((ctrH n i).map c8).toArray) ∧ Hid (Below (w.heap.size + 1) W0 wr)) (fun v _ _ => 8 - (intOf v).toNat)
    case atStart => exact ⟨0, by omega, rfl, G5, hide (Below.refl _ _)⟩
    case round =>
      obtain ⟨i, hi, rfl, P5, HP⟩ := hrel
      clear G5
      by_cases hlt8 : i < 8
      · have hd : decide ((i : Int) < 8) = true := by simp; omega
        obtain ⟨z, hz⟩ : ∃ z, z = BitVec.ofNat 8 (n / 2 ^ (8 * i)) := ⟨_, rfl⟩
        have HS : Hid ((ctrH n i).set (15 - i) z = ctrH n (i + 1)) := hide (by rw [hz]; exact ctrH_next n i hlt8)
        have HZ8 : Hid ((n / 2 ^ (8 * i) % 256 : Nat) = z.toNat) := by rw [hz]; exact HBY.out i
        obtain ⟨o5, d5⟩ : ∃ o, wr.cell? ⟨w.heap.size + 1, 15 - i, none⟩ = some o := ⟨_, (P5.out.cell _).trans (by rw [List.getElem?_toArray]; exact List.getElem?_eq_getElem (by rw [List.length_map, ctrH_len]; omega))⟩
        have df := P5.out.frozen (15 - i)
        have e7 := hide (P5.out.set8 (p := 15 - i) z)
        rw [HS.out] at e7
        have HB2 := hide (HP.out.setCell (p := ⟨w.heap.size + 1, 15 - i, none⟩) (Nat.le_refl _) (c8 z))
        clear hz P5 HP
        rcases (by omega : i = 0 ∨ i = 1 ∨ i = 2 ∨ i = 3 ∨ i = 4 ∨ i = 5 ∨ i = 6 ∨ i = 7) with rfl | rfl | rfl | rfl | rfl | rfl | rfl | rfl
        all_goals
          simp only [Nat.reduceSub, Nat.reduceAdd, Nat.sub_zero, Nat.zero_add] at d5 df e7 HB2
          first
            | (have hzq : (n : Int) % 256 = (z.toNat : Int) := (by have := (HZ8.out : (n / 2 ^ 0 % 256 : Nat) = z.toNat); omega))
            | (have hzq : (n : Int) / 256 % 256 = (z.toNat : Int) := (by have := (HZ8.out : (n / 2 ^ 8 % 256 : Nat) = z.toNat); omega))
            | (have hzq : (n : Int) / 65536 % 256 = (z.toNat : Int) := (by have := (HZ8.out : (n / 2 ^ 16 % 256 : Nat) = z.toNat); omega))
            | (have hzq : (n : Int) / 16777216 % 256 = (z.toNat : Int) := (by have := (HZ8.out : (n / 2 ^ 24 % 256 : Nat) = z.toNat); omega))
            | (have hzq : (n : Int) / 4294967296 % 256 = (z.toNat : Int) := (by have := (HZ8.out : (n / 2 ^ 32 % 256 : Nat) = z.toNat); omega))
            | (have hzq : (n : Int) / 1099511627776 % 256 = (z.toNat : Int) := (by have := (HZ8.out : (n / 2 ^ 40 % 256 : Nat) = z.toNat); omega))
            | (have hzq : (n : Int) / 281474976710656 % 256 = (z.toNat : Int) := (by have := (HZ8.out : (n / 2 ^ 48 % 256 : Nat) = z.toNat); omega))
            | (have hzq : (n : Int) / 72057594037927936 % 256 = (z.toNat : Int) := (by have := (HZ8.out : (n / 2 ^ 56 % 256 : Nat) = z.toNat); omega))
          go_wp2
          go_roundw
          case rel => exact ⟨_, hlt8, int_succ _, e7, HB2⟩
          case measure => decide
      · obtain rfl : i = 8 := by omega
        have hd : decide ((8 : Int) < 8) = false := by decide
        rw [show ctrH n 8 = ctrB n from rfl, ← hV.out.val] at P5
        have hb0 := HP.out.size
        have hs0 := S0.out.lt
        have hk0 := K0.out.lt
        have hw0 := HB.out.size
        have S1 := hide (S0.out.below HP.out (by omega))
        have K1 := hide (K0.out.below HP.out (by omega))
        have hsz := sz.out
        have HBW := hide (HB.out.trans (HP.out.mono (by omega)))
        have C1 := hide (HC0.out.below HBW.out)
        have hI : Hid (NumI w gs gc (w.heap.size + 1) w.heap.size ks V Z wr) := hide ⟨S1.out.cell 0, P5.out, K1.out, C1.out, gb_of HBW.out _⟩
        have HVi := hide hV.out.info
        have hlr := S1.out.lt
        go_wp2
        apply wp_region_stage (hv := [9, 12, 15, 18]) (I := NumI w gs gc (w.heap.size + 1) w.heap.size ks V Z) (C := fun W => Blk W gs 84 (streamCells gc true k last pl).toArray) (ss := [_, _, _, _, _, _, _, _, _, _, _, _, _, _, _, _, _, _, _]) (by kernel_rfl) (by kernel_rfl) (by kernel_rfl) (by kernel_rfl) ⟨hI.out.1, hI.out.2.1, hI.out.2.2.1, hI.out.2.2.2.1, ⟨hI.out.2.2.2.2.os, hI.out.2.2.2.2.tape, hI.out.2.2.2.2.output, hI.out.2.2.2.2.size, hI.out.2.2.2.2.block⟩⟩ S1.out
        repeat (first
          | (apply stWalk_light
             · rfl
             · (intro W hI
                have d0 := hI.1
                go_simp
                with_reducible exact rfl)
             (try simp only [Act.put, List.setIfInBounds_toArray, List.set_cons_zero, List.set_cons_succ])))
        apply stWalk_light
        · rfl
        · intro W hI
          rw [if_pos (wanted_none _ rfl)]
          exact gives_load_row 46 _ rfl (w.heap.size + 1) rfl 46 V (0, 0) _ hI.2.1 Try.underlying46 rfl HVi.out ⟨rfl, rfl⟩
        (try simp only [Act.put, List.setIfInBounds_toArray, List.set_cons_zero, List.set_cons_succ])
        apply stWalk_turnc (fun W => Blk W gs 84 (streamCells gc true k last pl).toArray)
        · rfl
        · rfl
        · intro W hI hC
          refine gives_call rfl [.pointer (some ⟨gc, 0, none⟩), .agg V] rfl (enters_of Try.func35 (by kernel_rfl) rfl) ?_
          refine (HEN.out W hI.2.2.2.1).mono ?_
          rintro e w' ⟨rfl, hb⟩
          exact ⟨_, rfl, rfl, hI.below hb hC.lt, hC.below hb hC.lt⟩
        (try simp only [Act.put, List.setIfInBounds_toArray, List.set_cons_zero, List.set_cons_succ])
        repeat (first
          | (apply stWalk_light
             · rfl
             · (intro W hI
                have d0 := hI.1
                go_simp
                with_reducible exact rfl)
             (try simp only [Act.put, List.setIfInBounds_toArray, List.set_cons_zero, List.set_cons_succ])))
        apply stWalk_turnc (c := undef) (fun W => Blk W gs 84 (streamCells gc true k last pl).toArray)
        · rfl
        · rfl
        · intro W hI hC
          have hn := hC.set_ 1 (.bool true)
          rw [streamCells_some] at hn
          have hp := hide (hI.put hC (gb_cell W gs 1 (.bool true)) (hn.cell 0))
          have HN := hide hn
          have dc := hC.cell 1
          rw [List.getElem?_toArray, show (streamCells gc true k last pl)[1]? = some (.bool true) from rfl] at dc
          have df := hC.frozen 1
          clear hn hC hI
          go_simp
          exact ⟨hp.out, HN.out⟩
        (try simp only [Act.put, List.setIfInBounds_toArray, List.set_cons_zero, List.set_cons_succ])
        repeat (first
          | (apply stWalk_light
             · rfl
             · (intro W hI
                have d0 := hI.1
                go_simp
                with_reducible exact rfl)
             (try simp only [Act.put, List.setIfInBounds_toArray, List.set_cons_zero, List.set_cons_succ])))
        apply stWalk_turnc (c := undef) (fun W => Blk W gs 84 (streamCells gc true n last pl).toArray)
        · rfl
        · rfl
        · intro W hI hC
          have hn := hC.set_ 2 (.int .u64 (n : Int))
          rw [streamCells_n] at hn
          have hp := hide (hI.put hC (gb_cell W gs 2 (.int .u64 (n : Int))) (hn.cell 0))
          have HN := hide hn
          have dc := hC.cell 2
          rw [List.getElem?_toArray, show (streamCells gc true k last pl)[2]? = some (.int .u64 (k : Int)) from rfl] at dc
          have df := hC.frozen 2
          clear hn hC hI
          go_simp
          exact ⟨hp.out, HN.out⟩
        (try simp only [Act.put, List.setIfInBounds_toArray, List.set_cons_zero, List.set_cons_succ])
        repeat (first
          | (apply stWalk_light
             · rfl
             · (intro W hI
                have d0 := hI.1
                go_simp
                with_reducible exact rfl)
             (try simp only [Act.put, List.setIfInBounds_toArray, List.set_cons_zero, List.set_cons_succ])))
        apply stWalk_turnc (c := undef) (fun W => Blk W gs 84 (streamCells gc true n x pl).toArray)
        · rfl
        · rfl
        · intro W hI hC
          refine gives_store_at 46 _ _ rfl gs 3 rfl (x.map c8) (by rw [← HXV.out]; rfl) 84 _ hC HXi.out (by rw [List.size_toArray, streamCells_len gc true n last pl HLL.out]; exact HLn.out) (oneCell_c8 x) ?_
          have hn := hC.setRow_ (splice (streamCells gc true n last pl) 3 (x.map c8)).toArray
          rw [HX.out] at hn
          refine ⟨rfl, ?_, ?_⟩
          · rw [HX.out]; exact hI.put hC (gb_row W gs _) (hn.cell 0)
          · rw [HX.out]; exact hn
        (try simp only [Act.put, List.setIfInBounds_toArray, List.set_cons_zero, List.set_cons_succ])
        refine stWalk_nil ?_
        intro W hI hC
        have HS9 := hide hC
        have K9 := hide hI.2.2.1
        have HC9 := hide hI.2.2.2.1
        have HG9 := hide hI.2.2.2.2
        have hcl := hC.lt
        have HL : Hid (∀ j v, (x.map c8)[j]? = some v → W.cell? ((⟨gs, 3, none⟩ : Addr).add j) = some v) := hide fun j v hv => by
          rw [Addr.add_lit]
          exact (HS9.out.cell (3 + j)).trans (by rw [List.getElem?_toArray]; exact streamCells_last gc true n x pl j v hv)
        clear hI hC
        go_wp2_with (first
          | ((with_reducible show wpList _ _ _ (⟨some 54, .load 46 _, _, _, _, _⟩ :: _) _ _); refine wpList_load_at rfl 46 _ rfl ⟨gs, 3, none⟩ rfl (x.map c8) _ Try.underlying46 rfl HXi.out HL.out ?_; rw [← HXV.out])
          | ((with_reducible show wpList _ _ _ (⟨_, .store 46 _ _, _, _, _, _⟩ :: _) _ _); refine wpList_store_row rfl 46 _ _ rfl w.heap.size rfl R rfl 46 _ K9.out hR.out.info (by rw [hZv.out.size, hR.out.size]) hR.out.one ?_)
          | fail)
        refine bodyPost_ret (v := .agg R) ?_ rfl ⟨rfl, ?_, ?_⟩
        · exact results_cell_row rfl _ _ w.heap.size 46 R (0, 0) _ rfl (setRow_heap _ _ _ _ _ _ K9.out) Try.underlying46 rfl hR.out.info
        · have hgr := gb_row W w.heap.size R
          have e9 := HC9.out
          obtain ⟨_, gb, hcc, _⟩ := e9
          exact HSI.out _ (HS9.out.setRow_far _ (by omega)) (HC9.out.grown hgr (Blk.ne_ hcc K9.out (by decide)) (fun gb c hb => Blk.ne_ hb K9.out (by decide)))
        · exact gb_later HG9.out (Nat.le_refl _) R
theorem number_any (gs : Nat) (ks : List (BitVec 8)) (pl : BitVec 64) (n : Nat) (w : World) (h : StreamIs w gs ks pl) :
    Calls Try.prog 71 #[.pointer (some ⟨gs, 0, none⟩), .int .u64 (n : Int)] w fun e w' => e = .returned (.agg ((encN sub8 ks (ctrB n) 14).map c8).toArray) ∧ StreamIs w' gs ks pl ∧ w.grownBy w' (some gs) := by
  have h0 := h
  obtain ⟨gc, sm, k, last, h1, h2, h3, h4⟩ := h
  by_cases hs : sm = true
  · by_cases hk : k = n
    · subst hs hk
      refine (number_hit gs ks pl k gc last w h1 h3).mono ?_
      rintro e w' ⟨rfl, hb⟩
      exact ⟨by rw [h4 rfl], h0.below hb, gb_of hb _⟩
    · subst hs; exact number_miss_true gs ks pl n k gc last w h1 h2 h3 (fun _ => hk)
  · have hf : sm = false := by simpa using hs
    subst hf; exact number_miss_false gs ks pl n k gc last w h1 h2 h3 (fun h => by cases h)
end Go.Proofs.Ytdeljodfanfbmaa
namespace Go.Proofs.Ytdeljodfanfbmaa
open Go.RowKit Go.Shelf
set_option linter.unusedVariables false
set_option linter.unusedSimpArgs false
attribute [local go_sem] Gives givesUpon
attribute [local irreducible] Gives

def keptCells (gc : Nat) : List Value := [.pointer (some ⟨gc, 0, none⟩), .bool false, .int .u64 0] ++ (List.replicate 16 0#8).map c8
theorem built_kept (gc : Nat) : Try.prog.built 82 [(0, .pointer (some ⟨gc, 0, none⟩))] = some (keptCells gc).toArray := by kernel_rfl
theorem built_stream (gc : Nat) : Try.prog.built 84 [(0, .agg (keptCells gc).toArray)] = some (streamCells gc false 0 (List.replicate 16 0#8) 0#64).toArray := by kernel_rfl
set_option maxRecDepth 100000 in
theorem newstream_no (A : Option Addr) (n c : Nat) (hn : n ≠ 32) (w : World) :
    Calls Try.prog 45 #[.slice A n c] w fun e w' => e = .returned (.tuple #[.pointer none, .int .i64 1]) ∧ w = w' := by
  go_enter Try.func45, Try.ntmps45
  go_wp2_with (go_at_call 34; (with_reducible refine (ciphernew_no A n c hn w).mono ?_); rintro e w1 ⟨rfl, rfl⟩)
  go_ret2
  exact ⟨rfl, rfl⟩
set_option maxRecDepth 100000 in
set_option maxHeartbeats 1600000 in
theorem newstream_any (A : Option Addr) (c : Nat) (key : List (BitVec 8)) (w : World) (hr : Reads w w.heap.size 1 A 32 (key.map c8)) (hc : 32 ≤ c) :
    Calls Try.prog 45 #[.slice A 32 c] w fun e w' => ∃ g, e = .returned (.tuple #[.pointer (some ⟨g, 0, none⟩), .int .i64 0]) ∧ w.heap.size ≤ g ∧ StreamIs w' g (keysOf sub8 key) 0#64 ∧ Below w.heap.size w w' := by
  obtain ⟨ks, hks⟩ : ∃ ks, ks = keysOf sub8 key := ⟨_, rfl⟩
  have HN := hide (ciphernew_any A c key w hr hc)
  rw [← hks] at HN ⊢
  clear hr hks
  go_enter Try.func45, Try.ntmps45
  go_wp2_with (first
    | (go_at_call 34; (with_reducible refine HN.out.mono ?_); rintro e w1 ⟨gc, rfl, hgc, hC, hb1⟩; have C1 := hide hC; have B1 := hide hb1; obtain ⟨K1, hK1⟩ : ∃ K, K = (keptCells gc).toArray := ⟨_, rfl⟩; obtain ⟨S1, hS1⟩ : ∃ K, K = (streamCells gc false 0 (List.replicate 16 0#8) 0#64).toArray := ⟨_, rfl⟩; have HK1 := hide (built_kept gc); have HS1 := hide (built_stream gc); rw [← hK1] at HK1 HS1; rw [← hS1] at HS1; have HSE := hide hS1; clear hC hb1 hK1 hS1)
    | ((with_reducible show wpList _ _ _ (⟨some 15, .build _ _, _, _, _, _⟩ :: _) _ _); refine wpList_build_is rfl _ _ rfl K1 (by exact HK1.out) ?_)
    | ((with_reducible show wpList _ _ _ (⟨some 16, .build _ _, _, _, _, _⟩ :: _) _ _); refine wpList_build_is rfl _ _ rfl S1 (by exact HS1.out) ?_)
    | fail)
  go_ret2
  have hb := (Below.refl w1.heap.size w1).alloc (Nat.le_refl _) (.cells S1 84)
  have hn := Blk.new w1 84 S1
  rw [HSE.out] at hn hb
  refine ⟨w1.heap.size, rfl, B1.out.size, ⟨gc, false, 0, List.replicate 16 0#8, ?_, ?_, List.length_replicate, fun h => by cases h⟩, ?_⟩
  · rw [HSE.out]; exact hn
  · rw [HSE.out]; exact C1.out.below hb
  · exact B1.out.alloc B1.out.size _
set_option maxRecDepth 100000 in
theorem seek_any (gs : Nat) (ks : List (BitVec 8)) (pl x : BitVec 64) (w : World) (h : StreamIs w gs ks pl) :
    Calls Try.prog 48 #[.pointer (some ⟨gs, 0, none⟩), .int .u64 (x.toNat : Int)] w fun e w' => e = .returned (.tuple #[]) ∧ StreamIs w' gs ks x ∧ w.grownBy w' (some gs) := by
  obtain ⟨gc, h0⟩ := h.some_
  have hp := h.place
  have hf := h.frozen 19
  have HN := hide (none_no gs gc w h0)
  have HS := hide (h.setPlace x)
  have HG := hide (gb_cell w gs 19 (.int .u64 (x.toNat : Int)))
  clear h h0
  go_enter Try.func48, Try.ntmps48
  go_wp2_with (go_at_call 70; (with_reducible refine HN.out.mono ?_); rintro e w1 ⟨rfl, rfl⟩)
  go_end0
  exact ⟨rfl, HS.out, HG.out⟩
theorem seek_nil (v : Value) (w : World) : Calls Try.prog 48 #[.pointer none, v] w fun e w' => e = .returned (.tuple #[]) ∧ w = w' := by
  go_enter Try.func48, Try.ntmps48
  go_wp2_with (go_at_call 70; (with_reducible refine (none_nil w).mono ?_); rintro e w1 ⟨rfl, rfl⟩)
  go_end0
  exact ⟨rfl, rfl⟩
theorem seek_blank (gs : Nat) (v : Value) (w : World) (hc : w.cell? ⟨gs, 0, none⟩ = some (.pointer none)) : Calls Try.prog 48 #[.pointer (some ⟨gs, 0, none⟩), v] w fun e w' => e = .returned (.tuple #[]) ∧ w = w' := by
  have HN := hide (none_blank gs w hc)
  clear hc
  go_enter Try.func48, Try.ntmps48
  go_wp2_with (go_at_call 70; (with_reducible refine HN.out.mono ?_); rintro e w1 ⟨rfl, rfl⟩)
  go_end0
  exact ⟨rfl, rfl⟩
theorem place_any (gs : Nat) (ks : List (BitVec 8)) (pl : BitVec 64) (w : World) (h : StreamIs w gs ks pl) :
    Calls Try.prog 46 #[.pointer (some ⟨gs, 0, none⟩)] w fun e w' => e = .returned (.int .u64 (pl.toNat : Int)) ∧ w = w' := by
  obtain ⟨gc, h0⟩ := h.some_
  have hp := h.place
  have HN := hide (none_no gs gc w h0)
  clear h h0
  go_enter Try.func46, Try.ntmps46
  go_wp2_with (go_at_call 70; (with_reducible refine HN.out.mono ?_); rintro e w1 ⟨rfl, rfl⟩)
  go_ret
  exact ⟨rfl, rfl⟩
theorem place_nil (w : World) : Calls Try.prog 46 #[.pointer none] w fun e w' => e = .returned (.int .u64 0) ∧ w = w' := by
  go_enter Try.func46, Try.ntmps46
  go_wp2_with (go_at_call 70; (with_reducible refine (none_nil w).mono ?_); rintro e w1 ⟨rfl, rfl⟩)
  go_ret
  exact ⟨rfl, rfl⟩
theorem place_blank (gs : Nat) (w : World) (hc : w.cell? ⟨gs, 0, none⟩ = some (.pointer none)) : Calls Try.prog 46 #[.pointer (some ⟨gs, 0, none⟩)] w fun e w' => e = .returned (.int .u64 0) ∧ w = w' := by
  have HN := hide (none_blank gs w hc)
  clear hc
  go_enter Try.func46, Try.ntmps46
  go_wp2_with (go_at_call 70; (with_reducible refine HN.out.mono ?_); rintro e w1 ⟨rfl, rfl⟩)
  go_ret
  exact ⟨rfl, rfl⟩
theorem at_nil (v : Value) (w : World) : Calls Try.prog 51 #[.pointer none, v] w fun e w' => e = .returned (.int .u8 0) ∧ w = w' := by
  go_enter Try.func51, Try.ntmps51
  go_wp2_with (go_at_call 70; (with_reducible refine (none_nil w).mono ?_); rintro e w1 ⟨rfl, rfl⟩)
  go_ret
  exact ⟨rfl, rfl⟩
theorem at_blank (gs : Nat) (v : Value) (w : World) (hc : w.cell? ⟨gs, 0, none⟩ = some (.pointer none)) : Calls Try.prog 51 #[.pointer (some ⟨gs, 0, none⟩), v] w fun e w' => e = .returned (.int .u8 0) ∧ w = w' := by
  have HN := hide (none_blank gs w hc)
  clear hc
  go_enter Try.func51, Try.ntmps51
  go_wp2_with (go_at_call 70; (with_reducible refine HN.out.mono ?_); rintro e w1 ⟨rfl, rfl⟩)
  go_ret
  exact ⟨rfl, rfl⟩
set_option maxRecDepth 100000 in
set_option maxHeartbeats 1600000 in
theorem at_any (gs : Nat) (ks : List (BitVec 8)) (pl x : BitVec 64) (w : World) (h : StreamIs w gs ks pl) :
    Calls Try.prog 51 #[.pointer (some ⟨gs, 0, none⟩), .int .u64 (x.toNat : Int)] w fun e w' => e = .returned (c8 (streamAt ks x.toNat)) ∧ StreamIs w' gs ks pl ∧ w.grownBy w' (some gs) := by
  obtain ⟨gc, h0⟩ := h.some_
  obtain ⟨Z, hZ, hZv⟩ := zeroB
  obtain ⟨y, hy⟩ : ∃ y, y = encN sub8 ks (ctrB (x.toNat / 16)) 14 := ⟨_, rfl⟩
  have hyl : y.length = 16 := by
    obtain ⟨_, _, _, _, _, hC, _⟩ := h
    rw [hy]; exact encN_len _ _ _ _ (ctrB_len _) hC.1 (by omega)
  obtain ⟨R, hR⟩ := bVal y hyl
  have hs : streamAt ks x.toNat = y.getD (x.toNat % 16) 0 := by rw [hy]; rfl
  rw [hs]
  have HNo := hide (none_no gs gc w h0)
  have HNu := hide (number_any gs ks pl (x.toNat / 16) w h)
  rw [← hy, ← hR.val] at HNu
  obtain ⟨m, hm⟩ : ∃ m, m = x.toNat / 16 := ⟨_, rfl⟩
  obtain ⟨i, hi⟩ : ∃ i, i = x.toNat % 16 := ⟨_, rfl⟩
  have e1 : (x.toNat : Int) / 16 = (m : Int) := by omega
  have e2 : (x.toNat : Int) % 16 = (i : Int) := by omega
  have hi16 : i < 16 := by omega
  have i0 : (0 : Int) ≤ (i : Int) := by omega
  have i1 : (i : Int) < 16 := by omega
  rw [← hm] at HNu
  rw [← hi]
  obtain ⟨z, hz⟩ : ∃ z, y[i]? = some z := ⟨_, List.getElem?_eq_getElem (by omega)⟩
  have hzz : y.getD i 0 = z := by simp [List.getD, hz]
  rw [hzz]
  have HYZ : Hid (R[i]? = some (c8 z)) := hide (by rw [hR.val, List.getElem?_toArray, List.getElem?_map, hz]; rfl)
  replace hR := hide hR
  replace hZ := hide hZ
  replace hZv := hide hZv
  clear h h0 hy hyl hs hm hi hz hzz
  go_enter Try.func51, Try.ntmps51
  go_upto_region 4 with (first
    | (go_at_call 70; (with_reducible refine HNo.out.mono ?_); rintro e w1 ⟨rfl, rfl⟩)
    | (go_at_call 71; (with_reducible refine HNu.out.mono ?_); rintro e w1 ⟨rfl, hs1, hg1⟩; have S1 := hide hs1; have G1 := hide hg1; have K1 := hide (Blk.new w1 46 Z); clear hs1 hg1)
    | ((with_reducible show wpList _ _ _ (⟨some 5, .alloc _, _, _, _, _⟩ :: _) _ _); refine wpList_alloc_is rfl 46 rfl Z hZ.out ?_)
    | ((with_reducible show wpList _ _ _ (⟨_, .store 46 _ _, _, _, _, _⟩ :: _) _ _); refine wpList_store_row rfl 46 _ _ rfl w1.heap.size rfl R rfl 46 _ K1.out hR.out.info (by rw [hZv.out.size, hR.out.size]) hR.out.one ?_)
    | fail)
  have K2 := K1.out.setRow_ R
  have hb := below_setRow ((Below.refl w1.heap.size w1).alloc (Nat.le_refl _) (.cells Z 46)) (Nat.le_refl _) R
  have S2 := hide (S1.out.below hb)
  have G2 := hide (gb_below G1.out hb)
  have dc := (K2.cell i).trans HYZ.out
  (try simp only [Act.put, List.setIfInBounds_toArray, List.set_cons_zero, List.set_cons_succ])
  obtain ⟨W3, hW3⟩ : ∃ W3, W3 = (w1.alloc (.cells Z 46)).setRow w1.heap.size R := ⟨_, rfl⟩
  rw [← hW3] at dc S2 G2 ⊢
  clear hW3 K2 hb
  go_wp2
  go_ret
  exact ⟨rfl, S2.out, G2.out⟩
end Go.Proofs.Ytdeljodfanfbmaa
namespace Go.Proofs.Ytdeljodfanfbmaa
open Go.RowKit Go.Shelf
set_option linter.unusedVariables false
set_option linter.unusedSimpArgs false
attribute [local go_sem] Gives givesUpon
attribute [local irreducible] Gives

theorem own_grown {w w' : World} {base n k : Nat} {e : TypeId} {v : Value} {xs : List Value} (h : w.ownsRow base e 1 v n xs) (hg : w.grownBy w' (some k)) (hk : v.ownBlock ≠ some k) : w'.ownsRow base e 1 v n xs := by
  refine ⟨h.1, ?_⟩
  rcases h.2 with h | ⟨g, cap, cur, h1, h2, h3⟩
  · exact .inl h
  · refine .inr ⟨g, cap, cur, h1, h2, ?_⟩
    have hne : g ≠ k := by rintro rfl; rw [h1] at hk; simp [Value.ownBlock] at hk
    first
      | exact ⟨(hg.block g (by have := h3.1; exact Blk.lt this) (by simpa using hne)).trans h3.1, h3.2⟩
      | exact (hg.block g (Blk.lt h3) (by simpa using hne)).trans h3
/-- a row of one's own, that has bytes, is told by its block -/
theorem own_at {w : World} {base n c : Nat} {A : Option Addr} {xs : List Value} (h : w.ownsRow base 5 1 (.slice A n c) n xs) (hn : 0 < n) : ∃ g, A = some ⟨g, 0, none⟩ ∧ base ≤ g ∧ ∃ cs, Blk w g 5 cs := by
  rcases h.2 with ⟨h0, h1⟩ | ⟨g, cap, cur, hv, hb, hh, _⟩
  · injection h0 with _ h0 _; omega
  · injection hv with hA _ _
    exact ⟨g, hA, hb, cur, hh⟩
theorem own_cell8 {w : World} {base n c g i : Nat} {l : List (BitVec 8)} {x : BitVec 8} (h : w.ownsRow base 5 1 (.slice (some ⟨g, 0, none⟩) n c) n (l.map c8)) (hx : l[i]? = some x) : w.cell? ⟨g, i, none⟩ = some (c8 x) := by
  have := reads_cell8 (Reads.of_own h) hx
  rwa [Nat.zero_add] at this
theorem own_blk {w : World} {base n c g : Nat} {xs : List Value} (h : w.ownsRow base 5 1 (.slice (some ⟨g, 0, none⟩) n c) n xs) : ∃ cs, Blk w g 5 cs := by
  rcases h.2 with ⟨h0, h1⟩ | ⟨g', cap, cur, hv, hb, hh, _⟩
  · cases h0
  · injection hv with hA _ _
    injection hA with hA; injection hA with hA
    subst hA; exact ⟨cur, hh⟩
theorem own_set8 {w : World} {base n c g i : Nat} {l : List (BitVec 8)} (h : w.ownsRow base 5 1 (.slice (some ⟨g, 0, none⟩) n c) n (l.map c8)) (hi : i < n) (x : BitVec 8) : (w.setCell ⟨g, i, none⟩ (c8 x)).ownsRow base 5 1 (.slice (some ⟨g, 0, none⟩) n c) n ((l.set i x).map c8) := by
  refine ⟨by have := h.1; simpa using this, ?_⟩
  rcases h.2 with ⟨h0, h1⟩ | ⟨g', cap, cur, hv, hb, hh, hnc, hmx, hcs, htake⟩
  · cases h0
  · have hg : g = g' := by injection hv with hA _ _; injection hA with hA; injection hA
    subst hg
    have hB : Blk w g 5 cur := hh
    refine .inr ⟨g, cap, cur.setIfInBounds i (c8 x), hv, hb, hB.set_ i (c8 x), hnc, hmx, by simpa using hcs, ?_⟩
    rw [Array.toList_setIfInBounds, List.take_set, htake, List.map_set]
theorem gb_cell_later {a b : World} {row : Option Nat} (h : a.grownBy b row) {g i : Nat} (hg : a.heap.size ≤ g) (v : Value) : a.grownBy (b.setCell ⟨g, i, none⟩ v) row :=
  ⟨h.os, h.tape, h.output, by simp; exact h.size, fun k hk hne => (heap_setCell_other b ⟨g, i, none⟩ k v (by show k ≠ g; omega)).trans (h.block k hk hne)⟩
/-- what holds all along the region in which a byte is masked -/
def MaskI (w : World) (gs go n c : Nat) (ks : List (BitVec 8)) (q : BitVec 64) (l : List (BitVec 8)) (W : World) : Prop :=
  StreamIs W gs ks q ∧ W.ownsRow w.heap.size 5 1 (.slice (some ⟨go, 0, none⟩) n c) n (l.map c8) ∧ w.grownBy W (some gs)
theorem MaskI.later {w W W' : World} {gs go n c : Nat} {ks : List (BitVec 8)} {q : BitVec 64} {l : List (BitVec 8)} (h : MaskI w gs go n c ks q l W) (hs : StreamIs W' gs ks q) (hg : W.grownBy W' (some gs)) : MaskI w gs go n c ks q l W' := by
  obtain ⟨h1, h2, h3⟩ := h
  obtain ⟨_, _, _, _, hb, _⟩ := h1
  exact ⟨hs, own_grown h2 hg (own_blk_ne h2 hb (by decide)), gb_trans h3 hg⟩
theorem MaskI.put {w W : World} {gs go n c i : Nat} {ks : List (BitVec 8)} {q : BitVec 64} {l : List (BitVec 8)} (h : MaskI w gs go n c ks q l W) (hgo : w.heap.size ≤ go) (hi : i < n) (x : BitVec 8) : MaskI w gs go n c ks q (l.set i x) (W.setCell ⟨go, i, none⟩ (c8 x)) := by
  obtain ⟨h1, h2, h3⟩ := h
  obtain ⟨cs, hb⟩ := own_blk h2
  exact ⟨h1.grown (gb_cell W go i (c8 x)) hb (by decide) (by decide) (by decide), own_set8 h2 hi x, gb_cell_later h3 hgo _⟩
theorem MaskI.next {w W : World} {gs go n c : Nat} {ks : List (BitVec 8)} {q : BitVec 64} {l : List (BitVec 8)} (h : MaskI w gs go n c ks q l W) (q' : BitVec 64) : MaskI w gs go n c ks q' l (W.setCell ⟨gs, 19, none⟩ (.int .u64 (q'.toNat : Int))) := by
  obtain ⟨h1, h2, h3⟩ := h
  have h0 := h1
  obtain ⟨_, _, _, _, hb, _⟩ := h0
  have hg := gb_cell W gs 19 (.int .u64 (q'.toNat : Int))
  exact ⟨h1.setPlace q', own_grown h2 hg (own_blk_ne h2 hb (by decide)), gb_trans h3 hg⟩
/-- a copy of bytes, of one's own -/
theorem mask_nil (A : Option Addr) (n c : Nat) (l : List (BitVec 8)) (p : Value) (w : World) (hr : Reads w w.heap.size 1 A n (l.map c8)) (hn : n ≤ 1099511627776)
    (HN : ∀ W, Below w.heap.size w W → Calls Try.prog 70 #[p] W fun e w' => e = .returned (.bool true) ∧ W = w') :
    Calls Try.prog 49 #[p, .slice A n c] w fun e w' => ∃ A' c', e = .returned (.slice A' n c') ∧ w'.ownsRow w.heap.size 5 1 (.slice A' n c') n (l.map c8) ∧ Below w.heap.size w w' := by
  obtain ⟨i0, hi0, hz0, hz1, hz2⟩ := info_parts info_u8
  have HR := hide hr
  have HNN := hide HN
  have O0 := hide (World.ownsRow_nil w w.heap.size 5 1)
  clear hr HN
  go_enter Try.func49, Try.ntmps49
  go_wp2_with (first
    | (at_builtin; refine wpList_append_any _ rfl (.const (.slice none 0 0)) (.tmp 7) 51 rfl w.heap.size 5 i0 _ 1 1 Try.underlying51 hi0 hz0 hz1 hz2 rfl (by omega) _ 0 _ rfl O0.out _ A n c _ rfl HR.out (oneCell_c8 _) (by simp only [maxLen]; omega) (by omega) (Nat.le_refl _) ?_; intro v5 W5 own5 grow5 _; have b5 := hide (below_appended (Below.refl _ _) (Nat.le_refl _) O0.out (Nat.le_refl _) grow5); simp only [Nat.zero_add, List.nil_append] at own5; obtain ⟨A5, c5, rfl⟩ := own_slice own5; replace own5 := hide own5; clear grow5)
    | (go_at_call 70; (with_reducible refine (HNN.out _ b5.out).mono ?_); rintro e w1 ⟨rfl, rfl⟩))
  go_ret
  exact ⟨A5, c5, rfl, own5.out, b5.out⟩
set_option maxRecDepth 100000 in
set_option maxHeartbeats 3200000 in
theorem mask_any (gs : Nat) (ks : List (BitVec 8)) (pl : BitVec 64) (A : Option Addr) (n c : Nat) (l : List (BitVec 8)) (w : World) (h : StreamIs w gs ks pl) (hr : Reads w w.heap.size 1 A n (l.map c8)) (hn : n ≤ 1099511627776) :
    Calls Try.prog 49 #[.pointer (some ⟨gs, 0, none⟩), .slice A n c] w fun e w' => ∃ A' c', e = .returned (.slice A' n c') ∧ w'.ownsRow w.heap.size 5 1 (.slice A' n c') n ((maskL ks pl l).map c8) ∧ StreamIs w' gs ks (pl + BitVec.ofNat 64 n) ∧ w.grownBy w' (some gs) := by
  obtain ⟨i0, hi0, hz0, hz1, hz2⟩ := info_parts info_u8
  have hl : l.length = n := hr.len
  obtain ⟨M, hM⟩ : ∃ M, M = maskL ks pl l := ⟨_, rfl⟩
  have hMl : M.length = n := by rw [hM, maskL_len, hl]
  have HMG : Hid (∀ i x, l[i]? = some x → M[i]? = some (x ^^^ streamAt ks (pl + BitVec.ofNat 64 i).toNat)) := hide fun i x hx => by rw [hM]; exact maskL_get ks pl l i x hx
  rw [← hM]
  have HR := hide hr
  have HS := hide h
  have O0 := hide (World.ownsRow_nil w w.heap.size 5 1)
  replace hl := hide hl
  replace hMl := hide hMl
  clear hr h hM
  go_enter Try.func49, Try.ntmps49
  go_wp2_with (first
    | (at_builtin; refine wpList_append_any _ rfl (.const (.slice none 0 0)) (.tmp 7) 51 rfl w.heap.size 5 i0 _ 1 1 Try.underlying51 hi0 hz0 hz1 hz2 rfl (by omega) _ 0 _ rfl O0.out _ A n c _ rfl HR.out (oneCell_c8 _) (by simp only [maxLen]; omega) (by omega) (Nat.le_refl _) ?_; intro v5 W5 own5 grow5 _; have b5 := hide (below_appended (Below.refl _ _) (Nat.le_refl _) O0.out (Nat.le_refl _) grow5); simp only [Nat.zero_add, List.nil_append] at own5; obtain ⟨A5, c5, rfl⟩ := own_slice own5; replace own5 := hide own5; have S5 := hide (HS.out.below b5.out); clear grow5)
    | (go_at_call 70; (with_reducible refine (none_no gs (Classical.choose S5.out.some_) _ (Classical.choose_spec S5.out.some_)).mono ?_); rintro e w1 ⟨rfl, rfl⟩))
  have G5 := hide (gb_of b5.out (some gs))
  clear b5 HS HR O0
  by_cases hn0 : n = 0
  · subst hn0
    have hml : M = [] := List.eq_nil_of_length_eq_zero hMl.out
    have hll : l = [] := List.eq_nil_of_length_eq_zero hl.out
    rw [hll] at own5
    have HME := hide hml
    clear hml hll
    go_loopw [14] (fun v wr => v = .int .i64 0 ∧ Hid (wr = W5)) (fun _ _ => 0)
    case atStart => exact ⟨rfl, hide rfl⟩
    case round =>
      obtain ⟨rfl, hw⟩ := hrel
      go_wp2
      go_ret
      have e : pl + BitVec.ofNat 64 0 = pl := by simp
      exact ⟨A5, c5, rfl, by rw [HME.out, hw.out]; exact own5.out, by rw [e, hw.out]; exact S5.out, by rw [hw.out]; exact G5.out⟩
  · obtain ⟨go, rfl, hgo, _⟩ := own_at own5.out (by omega)
    have HI0 : Hid (MaskI w gs go n c5 ks (pl + BitVec.ofNat 64 0) (half M l 0) W5) := hide (by rw [half_zero, show pl + BitVec.ofNat 64 0 = pl by simp]; exact ⟨S5.out, own5.out, G5.out⟩)
    have hnp : 0 < n := by omega
    clear own5 S5 G5 hn0
    go_loopw [14, 6] (fun v v6 wr => ∃ i : Nat, i ≤ n ∧ v = .int .i64 (i : Int) ∧ Hid (MaskI w gs go n c5 ks (pl + BitVec.ofNat 64 i) (half M l i) wr)) (fun v _ _ => n - (intOf v).toNat)
    case atStart => exact ⟨0, by omega, rfl, HI0⟩
    case round =>
      obtain ⟨i, hi, rfl, P⟩ := hrel
      clear HI0
      by_cases hlt : i < n
      · have hd : decide ((i : Int) < (n : Int)) = true := by simp; omega
        have k0 : (0 : Int) ≤ (i : Int) := by omega
        have k1 : (i : Int) < (n : Int) := by omega
        obtain ⟨x, hx⟩ : ∃ x, l[i]? = some x := ⟨_, List.getElem?_eq_getElem (by rw [hl.out]; exact hlt)⟩
        obtain ⟨q, hq⟩ : ∃ q, q = pl + BitVec.ofNat 64 i := ⟨_, rfl⟩
        obtain ⟨s, hs⟩ : ∃ s, s = streamAt ks q.toNat := ⟨_, rfl⟩
        obtain ⟨z, hz⟩ : ∃ z, z = x ^^^ s := ⟨_, rfl⟩
        have hval := xor_u8 x s
        rw [← hz] at hval
        obtain ⟨L, hL⟩ : ∃ L, L = half M l i := ⟨_, rfl⟩
        have HLx : Hid (L[i]? = some x) := hide (by rw [hL, half_get M l i i (by rw [hMl.out]; omega) (Nat.le_refl _)]; exact hx)
        have HLs : Hid (L.set i z = half M l (i + 1)) := hide (by rw [hL]; exact half_set M l i z (by rw [hz, hs, hq]; exact HMG.out i x hx) (by rw [hl.out]; exact hlt))
        have HQ : Hid (pl + BitVec.ofNat 64 (i + 1) = q + 1#64) := hide (by rw [hq]; exact at_succ pl i)
        have HAT : Hid (∀ W, MaskI w gs go n c5 ks q L W → Calls Try.prog 51 #[.pointer (some ⟨gs, 0, none⟩), .int .u64 (q.toNat : Int)] W fun e w' => e = .returned (c8 s) ∧ MaskI w gs go n c5 ks q L w') := hide fun W h => by
          refine (at_any gs ks q q W h.1).mono ?_
          rintro e w' ⟨rfl, h1, h2⟩
          exact ⟨by rw [hs], h.later h1 h2⟩
        rw [← hq, ← hL] at P
        clear hx hq hs hz hL
        go_wp2
        apply wp_region_relT 12 (C := MaskI w gs go n c5 ks q L) (M := fun _ _ => True) (ss := [_, _, _, _, _, _, _, _, _, _, _, _]) (by kernel_rfl) (by kernel_rfl) (by kernel_rfl) (by kernel_rfl) ⟨P.out.1, P.out.2.1, ⟨P.out.2.2.os, P.out.2.2.tape, P.out.2.2.output, P.out.2.2.size, P.out.2.2.block⟩⟩
        simp only [List.take_succ_cons, List.take_zero, List.drop_succ_cons, List.drop_zero]
        repeat (first
          | (apply relWalk_const (fun W => trivial)
             · (intro W hC hF
                clear hF
                have d0 := own_cell8 hC.2.1 HLx.out
                have d1 := hC.1.place
                go_simp
                with_reducible exact rfl)
             (try simp only [Act.put, List.setIfInBounds_toArray, List.set_cons_zero, List.set_cons_succ])))
        refine relWalk_rel (fun v => v = c8 s) (fun _ _ => True) ⟨_, rfl⟩ (fun _ _ _ _ _ => trivial) (by rfl) ?_ ?_
        · intro W hC hF
          refine gives_call rfl [.pointer (some ⟨gs, 0, none⟩), .int .u64 (q.toNat : Int)] rfl (enters_of Try.func51 (by kernel_rfl) rfl) ?_
          refine (HAT.out W hC).mono ?_
          rintro e w' ⟨rfl, hI⟩
          exact ⟨_, rfl, rfl, trivial, hI, trivial⟩
        rintro v rfl
        (try simp only [Act.put, List.setIfInBounds_toArray, List.set_cons_zero, List.set_cons_succ])
        repeat (first
          | (apply relWalk_const (fun W => trivial)
             · (intro W hC hF
                clear hF
                have d0 := own_cell8 hC.2.1 HLx.out
                have d1 := hC.1.place
                go_simp
                with_reducible exact rfl)
             (try simp only [Act.put, List.setIfInBounds_toArray, List.set_cons_zero, List.set_cons_succ])))
        apply relWalk_nil
        intro W hC hF
        clear hF
        have dc := own_cell8 hC.2.1 HLx.out
        have df : W.frozen? ⟨go, i, none⟩ = false := by obtain ⟨cs, hb⟩ := own_blk hC.2.1; exact hb.frozen i
        have hp := hC.put hgo hlt z
        rw [HLs.out] at hp
        have HP := hide hp
        have hp19 := hide hp.1.place
        have hf19 := hide (hp.1.frozen 19)
        obtain ⟨V, hV⟩ : ∃ V, V = W.setCell ⟨go, i, none⟩ (c8 z) := ⟨_, rfl⟩
        rw [← hV] at HP hp19 hf19
        have HV := hide hV.symm
        have HN := hide (HP.out.next (q + 1#64))
        have hinc := inc64 q
        clear hp hC P HAT HLx HLs hV hval
        go_wp2_with (first
          | (rw [show (.int .u8 (z.toNat : Int) : Value) = c8 z from rfl, HV.out]; clear dc df; have dc := hp19.out; have df := hf19.out)
          | fail)
        go_roundw
        case rel => exact ⟨i + 1, hlt, int_succ i, by rw [HQ.out]; exact HN⟩
        case measure => simp [intOf]; omega
      · obtain rfl : i = n := by omega
        have hd : decide ((i : Int) < (i : Int)) = false := by simp
        rw [half_all M l i hMl.out hl.out] at P
        go_wp2
        go_ret
        exact ⟨some ⟨go, 0, none⟩, c5, rfl, P.out.2.1, P.out.1, P.out.2.2⟩
end Go.Proofs.Ytdeljodfanfbmaa
namespace Go.Proofs.Ytdeljodfanfbmaa
open Go.RowKit Go.Shelf
set_option linter.unusedVariables false
set_option linter.unusedSimpArgs false
attribute [local go_sem] Gives givesUpon
attribute [local irreducible] Gives

def sliceLen : Value → Nat
  | .slice _ n _ => n
  | _ => 0
theorem ctrB_half (n : Nat) : half (ctrB n) (List.replicate 16 0#8) (8 + 0) = List.replicate 16 0#8 := by
  have e : (ctrB n).take 8 = List.replicate 8 0#8 := by
    apply List.ext_getElem?
    intro p
    by_cases hp : p < 8
    · rw [List.getElem?_take_of_lt hp, ctrB, ctrH_get n 8 p (by omega), if_neg (by omega), List.getElem?_replicate, if_pos hp]
    · rw [List.getElem?_eq_none (by rw [List.length_take, ctrB_len]; omega), List.getElem?_eq_none (by rw [List.length_replicate]; omega)]
  rw [half, Nat.add_zero, e]; rfl
theorem ctrB_get (n i : Nat) (hi : i < 8) : (ctrB n)[8 + i]? = some (BitVec.ofNat 8 (n / 2 ^ (56 - 8 * i))) := by
  rw [ctrB, ctrH_get n 8 (8 + i) (by omega), if_pos (by omega), show 8 * (15 - (8 + i)) = 56 - 8 * i by omega]
theorem inc64w (x : BitVec 64) : IntKind.u64.wrap ((x.toNat : Int) + 1) = ((x + 1#64).toNat : Int) := (show IntKind.u64.wrap ((x.toNat : Int) + 1) = ((x.toNat : Int) + 1) % 18446744073709551616 from rfl).trans (inc64 x)
/-- the next place, within a block -/
theorem at_next (q : BitVec 64) (m k : Nat) (hk : k + 1 < 16) (h : q.toNat = 16 * m + k) : (q + 1#64).toNat = 16 * m + (k + 1) := by
  rw [BitVec.toNat_add, show (1#64 : BitVec 64).toNat = 1 from rfl]
  have := q.isLt
  omega
/-- bytes stand one behind the other -/
def BytesAt (w : World) (g : Nat) (y : List (BitVec 8)) : Prop := g < w.heap.size ∧ ∀ k x, y[k]? = some x → w.cell? ⟨g, k, none⟩ = some (c8 x)
theorem BytesAt.alloc {w : World} {g : Nat} {y : List (BitVec 8)} (h : BytesAt w g y) (o : Obj) : BytesAt (w.alloc o) g y :=
  ⟨by simp; have := h.1; omega, fun k x hx => (World.cell?_alloc_lt w o ⟨g, k, none⟩ h.1).trans (h.2 k x hx)⟩
theorem BytesAt.grown {w w' : World} {g : Nat} {y : List (BitVec 8)} {row : Option Nat} (h : BytesAt w g y) (hg : w.grownBy w' row) (hr : row ≠ some g) : BytesAt w' g y :=
  ⟨Nat.lt_of_lt_of_le h.1 hg.size, fun k x hx => (World.cell?_of_block (hg.block g h.1 (fun e => hr e.symm))).trans (h.2 k x hx)⟩
theorem own_lt_ne {w : World} {base n g : Nat} {e : TypeId} {v : Value} {xs : List Value} (h : w.ownsRow base e 1 v n xs) (hg : w.heap.size ≤ g) : v.ownBlock ≠ some g := by
  rcases h.2 with ⟨rfl, _⟩ | ⟨k, cap, cur, rfl, h2, h3, _⟩
  · simp [Value.ownBlock]
  · have := Blk.lt h3
    simp [Value.ownBlock]; omega
theorem streamAt_in (ks : List (BitVec 8)) (q : BitVec 64) (m k : Nat) (hk : k < 16) (h : q.toNat = 16 * m + k) (y : List (BitVec 8)) (hy : y = encN sub8 ks (ctrB m) 14) (x : BitVec 8) (hx : y[k]? = some x) : streamAt ks q.toNat = x := by
  rw [streamAt, h, show (16 * m + k) / 16 = m by omega, show (16 * m + k) % 16 = k by omega, ← hy]
  simp [List.getD, hx]
set_option maxRecDepth 100000 in
set_option maxHeartbeats 6400000 in
theorem reffrom_any (A : Option Addr) (c : Nat) (key : List (BitVec 8)) (at_ : BitVec 64) (many : Nat) (w : World) (hr : Reads w w.heap.size 1 A 32 (key.map c8)) (hm : many ≤ 1099511627776) :
    Calls Try.prog 52 #[.slice A 32 c, .int .u64 (at_.toNat : Int), .int .i64 (many : Int)] w fun e w' => ∃ A' c', e = .returned (.slice A' many c') ∧ w'.ownsRow w.heap.size 5 1 (.slice A' many c') many ((fromL (keysOf sub8 key) at_ many).map c8) ∧ Below w.heap.size w w' := by
  obtain ⟨i0, hi0, hz0, hz1, hz2⟩ := info_parts info_u8
  have kl : key.length = 32 := hr.len
  obtain ⟨ws, hws⟩ : ∃ ws, ws = expandN sub8 (wordsOf key) 52 := ⟨_, rfl⟩
  obtain ⟨ks, hks⟩ : ∃ ks, ks = keysOf sub8 key := ⟨_, rfl⟩
  have hkw : bytesOf ws = ks := by rw [hws, hks]; rfl
  have hkl : ks.length = 240 := by rw [hks]; exact keysOf_len sub8 key kl
  rw [← hks]
  have HN := hide (refnew06_any A c key w hr)
  rw [← hws] at HN
  obtain ⟨ZC, hZC⟩ : ∃ ZC : Array Value, ZC = #[.slice none 0 0, .slice none 0 0] := ⟨_, rfl⟩
  have HZ : Hid ((Try.prog.info? 56).map (·.zero) = some (some (.agg ZC))) := hide (by rw [hZC]; exact zero_ref06)
  have HZs : Hid (ZC.size = 2) := hide (by rw [hZC]; rfl)
  obtain ⟨C16, hC16⟩ : ∃ C16, C16 = (List.replicate 16 (c8 0)).toArray := ⟨_, rfl⟩
  have hmk : ∀ w, (Instr.makeSlice 51 (.int .i64 16) (.int .i64 16)).run Try.prog w = .ok (.slice (some ⟨w.heap.size, 0, none⟩) 16 16) (w.alloc (.cells C16 5)) := fun w => by rw [hC16]; exact made8 16 (by omega) w
  obtain ⟨Z, hZ⟩ : ∃ Z : List (BitVec 8), Z = List.replicate 16 0#8 := ⟨_, rfl⟩
  have hZl : Z.length = 16 := by rw [hZ]; rfl
  have HZC : Hid (C16 = (Z.map c8).toArray) := hide (by rw [hC16, hZ]; rfl)
  have HZE := hide hZ
  replace hZl := hide hZl
  replace hkl := hide hkl
  replace hkw := hide hkw
  replace hC16 := hide hC16
  clear hr kl hws hks hZC hZ
  go_enter Try.func52, Try.ntmps52
  go_wp2_with (first
    | (go_at_call 38; (with_reducible refine HN.out.mono ?_); rintro e w1 ⟨AW, AT, cw, ct, rfl, h60, hw60, ht256, hb1⟩; have HW1 := hide hw60; have HT1 := hide ht256; have B1 := hide hb1; obtain ⟨CV, hCV⟩ : ∃ CV : Array Value, CV = #[.slice AW 60 cw, .slice AT 256 ct] := ⟨_, rfl⟩; have HCi : Hid ((Try.prog.info? 56).map (·.size) = some CV.size) := hide (by rw [hCV]; exact info_ref06); have HCs : Hid (ZC.size = CV.size) := hide (by rw [HZs.out, hCV]; rfl); have HCo : Hid (CV.all (·.oneCell') = true) := hide (by rw [hCV]; simp [Value.oneCell']); have HCV := hide hCV; rw [← hCV]; have K1 := hide (Blk.new w1 56 ZC); clear hw60 ht256 hb1 hCV)
    | ((with_reducible show wpList _ _ _ (⟨some 7, .alloc _, _, _, _, _⟩ :: _) _ _); refine wpList_alloc_is rfl 56 rfl ZC HZ.out ?_)
    | ((with_reducible show wpList _ _ _ (⟨_, .store 56 _ _, _, _, _, _⟩ :: _) _ _); refine wpList_store_row rfl 56 _ _ rfl w1.heap.size rfl CV rfl 56 _ K1.out HCi.out HCs.out HCo.out ?_)
    | fail)
  have hrow := below_setRow ((Below.refl w1.heap.size w1).alloc (Nat.le_refl _) (.cells ZC 56)) (Nat.le_refl _) CV
  have K2 := hide (K1.out.setRow_ CV)
  have HW2 := hide (HW1.out.later hrow)
  have HT2 := hide (HT1.out.later hrow)
  have B2 := hide (B1.out.trans (hrow.mono B1.out.size))
  (try simp only [Act.put, List.setIfInBounds_toArray, List.set_cons_zero, List.set_cons_succ])
  obtain ⟨W2, hW2⟩ : ∃ W, W = (w1.alloc (.cells ZC 56)).setRow w1.heap.size CV := ⟨_, rfl⟩
  rw [← hW2] at K2 HW2 HT2 B2 ⊢
  have hk2 := K2.out.lt
  clear hW2 hrow K1 HW1 HT1 B1 HN
  go_loopw [1, 8] (fun a o wr => ∃ (j : Nat) (A : Option Addr) (c : Nat), j ≤ many ∧ a = .int .u64 ((at_ + BitVec.ofNat 64 j).toNat : Int) ∧ o = .slice A j c ∧ Hid (wr.ownsRow W2.heap.size 5 1 (.slice A j c) j ((fromL ks at_ j).map c8)) ∧ Hid (Below W2.heap.size W2 wr)) (fun _ o _ => many - sliceLen o)
  case atStart => exact ⟨0, none, 0, by omega, by simp, rfl, hide (World.ownsRow_nil _ _ _ _), hide (Below.refl _ _)⟩
  case round =>
    obtain ⟨j, A3, c3, hj, rfl, rfl, ho, hB⟩ := hrel
    obtain ⟨wo, rfl⟩ : ∃ wo : World, wo = wr := ⟨_, rfl⟩
    by_cases hlt : j < many
    · have hd : decide ((j : Int) < (many : Int)) = true := by simp; omega
      obtain ⟨q, hq⟩ : ∃ q, q = at_ + BitVec.ofNat 64 j := ⟨_, rfl⟩
      obtain ⟨m, hmq⟩ : ∃ m, m = q.toNat / 16 := ⟨_, rfl⟩
      obtain ⟨k0, hk0⟩ : ∃ k, k = q.toNat % 16 := ⟨_, rfl⟩
      have e1 : (q.toNat : Int) / 16 = (m : Int) := by omega
      have e2 : (q.toNat : Int) % 16 = (k0 : Int) := by omega
      have hk16 : k0 < 16 := by omega
      have HQM : Hid (q.toNat = 16 * m + k0) := hide (by omega)
      rw [← hq]
      have HQ := hide hq
      have hsz := hB.out.size
      have T0 : Hid (Blk (wo.alloc (.cells C16 5)) wo.heap.size 5 ((half (ctrB m) Z (8 + 0)).map c8).toArray) := hide (by rw [HZE.out, ctrB_half, ← HZE.out, ← HZC.out]; exact Blk.new wo 5 C16)
      have BA := hide ((Below.refl wo.heap.size wo).alloc (Nat.le_refl _) (.cells C16 5))
      have HMB : Hid (m < 1152921504606846976) := hide (by have := q.isLt; omega)
      clear hmq hk0 hq
      go_wp2
      go_loopw [11] (fun v wr => ∃ i : Nat, i ≤ 8 ∧ v = .int .i64 (i : Int) ∧ Hid (Blk wr wo.heap.size 5 ((half (ctrB m) Z (8 + i)).map c8).toArray) ∧ Hid (Below wo.heap.size wo wr)) (fun v _ => 8 - (intOf v).toNat)
      case atStart => exact ⟨0, by omega, rfl, T0, BA⟩
      case round =>
        obtain ⟨i, hi, rfl, P, HP⟩ := hrel
        clear T0 BA
        by_cases hit : i < 8
        · have hd3 : decide ((i : Int) < 8) = true := by simp; omega
          obtain ⟨z, hz⟩ : ∃ z, z = BitVec.ofNat 8 (m / 2 ^ (56 - 8 * i)) := ⟨_, rfl⟩
          have HS : Hid ((half (ctrB m) Z (8 + i)).set (8 + i) z = half (ctrB m) Z (8 + i + 1)) := hide (half_set (ctrB m) Z (8 + i) _ (by rw [hz]; exact ctrB_get m i hit) (by rw [hZl.out]; omega))
          have HZ8 : Hid ((m / 2 ^ (56 - 8 * i) % 256 : Nat) = z.toNat) := hide (by rw [hz, BitVec.toNat_ofNat])
          obtain ⟨o5, d5⟩ : ∃ o, wr.cell? ⟨wo.heap.size, 8 + i, none⟩ = some o := ⟨_, (P.out.cell _).trans (by rw [List.getElem?_toArray]; exact List.getElem?_eq_getElem (by rw [List.length_map, half_len (ctrB m) Z _ 16 (ctrB_len m) hZl.out (by omega)]; omega))⟩
          have df := P.out.frozen (8 + i)
          have e7 := hide (P.out.set8 (p := 8 + i) z)
          rw [HS.out] at e7
          have HB2 := hide (HP.out.setCell (p := ⟨wo.heap.size, 8 + i, none⟩) (Nat.le_refl _) (c8 z))
          clear hz P HP
          rcases (by omega : i = 0 ∨ i = 1 ∨ i = 2 ∨ i = 3 ∨ i = 4 ∨ i = 5 ∨ i = 6 ∨ i = 7) with rfl | rfl | rfl | rfl | rfl | rfl | rfl | rfl
          all_goals
            simp only [Nat.reduceSub, Nat.reduceAdd, Nat.sub_zero, Nat.zero_add, Nat.add_zero] at d5 df e7 HB2
            have wk := wrapsK
            have ww := wraps64
            first
            | (have hzq : (m : Int) / 72057594037927936 = (z.toNat : Int) := (by have := (HZ8.out : (m / 2 ^ 56 % 256 : Nat) = z.toNat); have := HMB.out; omega))
            | (have hzq : (m : Int) / 72057594037927936 % 256 = (z.toNat : Int) := (by have := (HZ8.out : (m / 2 ^ 56 % 256 : Nat) = z.toNat); omega))
            | (have hzq : (m : Int) / 281474976710656 % 256 = (z.toNat : Int) := (by have := (HZ8.out : (m / 2 ^ 48 % 256 : Nat) = z.toNat); omega))
            | (have hzq : (m : Int) / 1099511627776 % 256 = (z.toNat : Int) := (by have := (HZ8.out : (m / 2 ^ 40 % 256 : Nat) = z.toNat); omega))
            | (have hzq : (m : Int) / 4294967296 % 256 = (z.toNat : Int) := (by have := (HZ8.out : (m / 2 ^ 32 % 256 : Nat) = z.toNat); omega))
            | (have hzq : (m : Int) / 16777216 % 256 = (z.toNat : Int) := (by have := (HZ8.out : (m / 2 ^ 24 % 256 : Nat) = z.toNat); omega))
            | (have hzq : (m : Int) / 65536 % 256 = (z.toNat : Int) := (by have := (HZ8.out : (m / 2 ^ 16 % 256 : Nat) = z.toNat); omega))
            | (have hzq : (m : Int) / 256 % 256 = (z.toNat : Int) := (by have := (HZ8.out : (m / 2 ^ 8 % 256 : Nat) = z.toNat); omega))
            | (have hzq : (m : Int) % 256 = (z.toNat : Int) := (by have := (HZ8.out : (m / 2 ^ 0 % 256 : Nat) = z.toNat); omega))
            go_wp2
            go_roundw
            case rel => exact ⟨_, hit, int_succ _, e7, HB2⟩
            case measure => decide
        · obtain rfl : i = 8 := by omega
          have hd3 : decide ((8 : Int) < 8) = false := by decide
          rw [half_all (ctrB m) Z (8 + 8) (ctrB_len m) hZl.out] at P
          have RB := hide (P.out.bytes (ctrB_len m))
          have B3 := hide (hB.out.trans (HP.out.mono hsz))
          have K3 := hide (K2.out.below B3.out hk2)
          obtain ⟨y, hy⟩ : ∃ y, y = encN sub8 ks (ctrB m) 14 := ⟨_, rfl⟩
          have hyl : y.length = 16 := by rw [hy]; exact encN_len _ _ _ _ (ctrB_len m) hkl.out (by omega)
          have HE : Hid (Calls Try.prog 37 #[.agg CV, .slice (some ⟨wo.heap.size, 0, none⟩) 16 16] wr fun e w' => ∃ A c, e = .returned (.slice A 16 c) ∧ w'.ownsRow wr.heap.size 5 1 (.slice A 16 c) 16 (y.map c8) ∧ Below wr.heap.size wr w') := hide (by
            have h := refenc06_any AW AT _ cw ct 16 ws (ctrB m) wr (HW2.out.later B3.out) h60 (HT2.out.later B3.out) RB.out
            rw [hkw.out, ← hy, ← HCV.out] at h
            exact h)
          have HO3 := hide (own_under ho.out HP.out)
          have HY := hide hy
          have HYl := hide hyl
          rw [show ((8 : Nat) : Int) = 8 from rfl]
          clear hy hyl P HP RB ho
          go_wp2_with (first
            | ((with_reducible show wpList _ _ _ (⟨_, .load 56 _, _, _, _, _⟩ :: _) _ _); refine wpList_load_row rfl 56 _ rfl w1.heap.size rfl 56 CV (0, 0) _ K3.out Try.underlying56 rfl HCi.out ?_)
            | (go_at_call 37; (with_reducible refine HE.out.mono ?_); rintro e w5 ⟨A5, c5, rfl, hr5, hb5⟩; have HY5 := hide hr5; have HNE := hide hb5.size; have B5 := hide (B3.out.trans (hb5.mono B3.out.size)); have HO5 := hide (own_under HO3.out hb5); clear hr5 hb5))
          obtain ⟨gy, rfl, hgy, csy, hby⟩ := own_at HY5.out (by omega)
          have HYA : Hid (BytesAt w5 gy y) := hide ⟨hby.lt, fun k x hx => own_cell8 HY5.out hx⟩
          have HN0 : Hid ((Value.slice A3 j c3).ownBlock ≠ some gy) := hide (own_lt_ne HO3.out hgy)
          clear hby
          rw [e2]

          go_loopw [1, 8, 13] (fun a o kv wr => ∃ (jj k : Nat) (A : Option Addr) (c : Nat), jj ≤ many ∧ k ≤ 16 ∧ jj + k0 = j + k ∧ k0 ≤ k ∧ a = .int .u64 ((at_ + BitVec.ofNat 64 jj).toNat : Int) ∧ o = .slice A jj c ∧ kv = .int .u64 (k : Int) ∧ Hid (k < 16 → (at_ + BitVec.ofNat 64 jj).toNat = 16 * m + k) ∧
            Hid (wr.ownsRow W2.heap.size 5 1 (.slice A jj c) jj ((fromL ks at_ jj).map c8)) ∧ Hid (BytesAt wr gy y) ∧ Hid ((Value.slice A jj c).ownBlock ≠ some gy) ∧ Hid (Below W2.heap.size W2 wr)) (fun _ _ kv _ => 16 - (intOf kv).toNat)
          case atStart => exact ⟨j, k0, A3, c3, by omega, by omega, rfl, Nat.le_refl _, by rw [HQ.out], rfl, rfl, hide (fun _ => by rw [← HQ.out]; exact HQM.out), HO5, HYA, HN0, B5⟩
          case round =>
            obtain ⟨jj, k, A6, c6, hjj, hk, hjk, hkk, rfl, rfl, rfl, hqk, hoj, hyj, hnj, hBj⟩ := hrel
            by_cases hkt : k < 16
            · have hdk : decide ((k : Int) < 16) = true := by simp; omega
              by_cases hjt : jj < many
              · have hdj : decide ((jj : Int) < (many : Int)) = true := by simp; omega
                obtain ⟨x, hx⟩ : ∃ x, y[k]? = some x := ⟨_, List.getElem?_eq_getElem (by rw [HYl.out]; exact hkt)⟩
                obtain ⟨qj, hqj⟩ : ∃ q, q = at_ + BitVec.ofNat 64 jj := ⟨_, rfl⟩
                have hq16 := hqk.out hkt
                rw [← hqj] at hq16 ⊢
                have HX : Hid (fromL ks at_ (jj + 1) = fromL ks at_ jj ++ [x]) := hide (by rw [fromL_succ, ← hqj, streamAt_in ks qj m k hkt hq16 y HY.out x hx])
                have HQ1 : Hid (k + 1 < 16 → (at_ + BitVec.ofNat 64 (jj + 1)).toNat = 16 * m + (k + 1)) := hide fun h => by rw [at_succ, ← hqj]; exact at_next qj m k h hq16
                have HQ2 : Hid (at_ + BitVec.ofNat 64 (jj + 1) = qj + 1#64) := hide (by rw [at_succ, hqj])
                have d0 := hyj.out.2 k x hx
                have hinc := inc64 qj
                have f0 : (0 : Int) ≤ (k : Int) := by omega
                have f1 : (k : Int) < 16 := by omega
                have hgr := hBj.out.size
                have HR4 := hide (one8 wr x)
                have HOA := hide (hoj.out.alloc (.cells #[.int .u8 (x.toNat : Int)] 5))
                have HBA := hide (hBj.out.alloc hgr (.cells #[.int .u8 (x.toNat : Int)] 5))
                have HGR : Hid (W2.heap.size ≤ (wr.alloc (.cells #[.int .u8 (x.toNat : Int)] 5)).heap.size) := hide (by simp; omega)
                have HYB := hide (hyj.out.alloc (.cells #[.int .u8 (x.toNat : Int)] 5))
                have hgs : gy ≠ wr.heap.size := by have := hyj.out.1; omega
                have HSz : Hid ((wr.alloc (.cells #[.int .u8 (x.toNat : Int)] 5)).heap.size = wr.heap.size + 1) := hide (by simp)
                have hgy9 := hyj.out.1
                clear hx hqj hq16
                go_wp2_with (at_builtin; refine wpList_append_any _ rfl (.tmp 52) (.tmp 57) 51 rfl W2.heap.size 5 i0 _ 1 1 Try.underlying51 hi0 hz0 hz1 hz2 rfl (by omega) _ jj _ rfl HOA.out _ _ 1 1 _ rfl HR4.out (oneCell_c8 _) (by simp only [maxLen]; omega) (by omega) HGR.out ?_; intro v7 W7 own7 grow7 hob7; have b7 := hide (below_appended HBA.out HGR.out HOA.out (Nat.le_refl _) grow7); have y7 := hide (HYB.out.grown grow7 hnj.out); have n7 : Hid (v7.ownBlock ≠ some gy) := hide (by rcases hob7 with e | e <;> rw [e]; exact hnj.out; rw [HSz.out]; intro h; injection h; omega); obtain ⟨A7, c7, rfl⟩ := own_slice own7; rw [← List.map_append, ← HX.out] at own7; replace own7 := hide own7; clear grow7 hob7)
                go_roundw
                case rel => exact ⟨jj + 1, k + 1, A7, c7, hjt, hkt, by omega, by omega, by rw [HQ2.out, inc64w], rfl, by simp, HQ1, own7, y7, n7, b7⟩
                case measure => simp [intOf]; omega
              · obtain rfl : jj = many := by omega
                have hdj : decide ((jj : Int) < (jj : Int)) = false := by simp
                go_wp2
                go_roundw
                case rel => exact ⟨jj, A6, c6, by omega, rfl, rfl, hoj, hBj⟩
                case measure => simp [sliceLen]; omega
            · obtain rfl : k = 16 := by omega
              have hdk : decide ((16 : Int) < 16) = false := by decide
              go_wp2
              go_roundw
              case rel => exact ⟨jj, A6, c6, by omega, rfl, rfl, hoj, hBj⟩
              case measure => simp [sliceLen]; omega
    · obtain rfl : j = many := by omega
      have hd : decide ((j : Int) < (j : Int)) = false := by simp
      go_wp2
      go_ret
      exact ⟨A3, c3, rfl, own_more ho.out B2.out.size, B2.out.trans (hB.out.mono B2.out.size)⟩
end Go.Proofs.Ytdeljodfanfbmaa
namespace Go.Proofs.Ytdeljodfanfbmaa
open Go.RowKit Go.Shelf
set_option linter.unusedVariables false
set_option linter.unusedSimpArgs false
attribute [local go_sem] Gives givesUpon
attribute [local irreducible] Gives

set_option maxRecDepth 100000 in
set_option maxHeartbeats 3200000 in
theorem refmask_any (A : Option Addr) (c : Nat) (key : List (BitVec 8)) (at_ : BitVec 64) (A2 : Option Addr) (n c2 : Nat) (l : List (BitVec 8)) (w : World) (hr : Reads w w.heap.size 1 A 32 (key.map c8)) (hr2 : Reads w w.heap.size 1 A2 n (l.map c8)) (hn : n ≤ 1099511627776) :
    Calls Try.prog 50 #[.slice A 32 c, .int .u64 (at_.toNat : Int), .slice A2 n c2] w fun e w' => ∃ A' c', e = .returned (.slice A' n c') ∧ w'.ownsRow w.heap.size 5 1 (.slice A' n c') n ((maskL (keysOf sub8 key) at_ l).map c8) ∧ Below w.heap.size w w' := by
  have hl : l.length = n := hr2.len
  obtain ⟨F, hF⟩ : ∃ F, F = fromL (keysOf sub8 key) at_ n := ⟨_, rfl⟩
  obtain ⟨M, hM⟩ : ∃ M, M = maskL (keysOf sub8 key) at_ l := ⟨_, rfl⟩
  have hFl : F.length = n := by rw [hF]; exact fromL_len _ _ _
  have hMl : M.length = n := by rw [hM, maskL_len, hl]
  have hMF : M = xorL l F := by rw [hM, hF, maskL, hl]
  have HMG : Hid (∀ i x f, l[i]? = some x → F[i]? = some f → M[i]? = some (f ^^^ x)) := hide fun i x f hx hf => by
    rw [hMF, BitVec.xor_comm]; exact xorL_get l F i x f hx hf
  clear hMF
  have HFr := hide (reffrom_any A c key at_ n w hr hn)
  rw [← hF] at HFr
  rw [← hM]
  have HR2 := hide hr2
  replace hl := hide hl
  replace hFl := hide hFl
  replace hMl := hide hMl
  clear hr hr2 hF hM
  go_enter Try.func50, Try.ntmps50
  go_wp2_with (go_at_call 52; (with_reducible refine HFr.out.mono ?_); rintro e w1 ⟨A5, c5, rfl, own5, b5⟩; have O5 := hide own5; have B5 := hide b5; clear own5 b5)
  by_cases hn0 : n = 0
  · subst hn0
    have hml : M = [] := List.eq_nil_of_length_eq_zero hMl.out
    have hfl : F = [] := List.eq_nil_of_length_eq_zero hFl.out
    rw [hfl] at O5
    have HME := hide hml
    clear hml hfl
    go_loopw [8] (fun v wr => v = .int .i64 0 ∧ Hid (wr = w1)) (fun _ _ => 0)
    case atStart => exact ⟨rfl, hide rfl⟩
    case round =>
      obtain ⟨rfl, hw⟩ := hrel
      go_wp2
      go_ret
      exact ⟨A5, c5, rfl, by rw [HME.out, hw.out]; exact O5.out, by rw [hw.out]; exact B5.out⟩
  · obtain ⟨go, rfl, hgo, _⟩ := own_at O5.out (by omega)
    have HI0 : Hid (w1.ownsRow w.heap.size 5 1 (.slice (some ⟨go, 0, none⟩) n c5) n ((half M F 0).map c8)) := hide (by rw [half_zero]; exact O5.out)
    have hnp : 0 < n := by omega
    obtain ⟨g2, o2, rfl, hg2⟩ := reads_at HR2.out (by omega)
    clear O5 hn0
    go_loopw [8] (fun v wr => ∃ i : Nat, i ≤ n ∧ v = .int .i64 (i : Int) ∧ Hid (wr.ownsRow w.heap.size 5 1 (.slice (some ⟨go, 0, none⟩) n c5) n ((half M F i).map c8)) ∧ Hid (Below w.heap.size w wr)) (fun v _ => n - (intOf v).toNat)
    case atStart => exact ⟨0, by omega, rfl, HI0, B5⟩
    case round =>
      obtain ⟨i, hi, rfl, P, HP⟩ := hrel
      clear HI0 B5
      by_cases hlt : i < n
      · have hd : decide ((i : Int) < (n : Int)) = true := by simp; omega
        have k0 : (0 : Int) ≤ (i : Int) := by omega
        have k1 : (i : Int) < (n : Int) := by omega
        obtain ⟨x, hx⟩ : ∃ x, l[i]? = some x := ⟨_, List.getElem?_eq_getElem (by rw [hl.out]; exact hlt)⟩
        obtain ⟨f, hf⟩ : ∃ f, F[i]? = some f := ⟨_, List.getElem?_eq_getElem (by rw [hFl.out]; exact hlt)⟩
        obtain ⟨z, hz⟩ : ∃ z, z = f ^^^ x := ⟨_, rfl⟩
        have hval := xor_u8 f x
        rw [← hz] at hval
        have HLs : Hid ((half M F i).set i z = half M F (i + 1)) := hide (half_set M F i z (by rw [hz]; exact HMG.out i x f hx hf) (by rw [hFl.out]; exact hlt))
        have q0 := hide (own_cell8 P.out (by rw [half_get M F i i (by rw [hMl.out]; omega) (Nat.le_refl _)]; exact hf))
        have q1 := hide (reads_cell8 (HR2.out.below HP.out) hx)
        have lw := HP.out.size
        have g2w : g2 < wr.heap.size := by omega
        have HFz : Hid (wr.frozen? ⟨go, i, none⟩ = false) := hide (by obtain ⟨cs, hb⟩ := own_blk P.out; exact hb.frozen i)
        have gow : go < wr.heap.size := by obtain ⟨cs, hb⟩ := own_blk P.out; exact hb.lt
        clear hx hf hz
        go_wp2
        apply wp_region_relT 12 (C := fun W => Below wr.heap.size wr W) (M := fun W W' => Below W.heap.size W W') (ss := [_, _, _, _, _, _, _, _, _, _, _, _]) (by kernel_rfl) (by kernel_rfl) (by kernel_rfl) (by kernel_rfl) (Below.refl _ _).drew
        simp only [List.take_succ_cons, List.take_zero, List.drop_succ_cons, List.drop_zero]
        repeat (first
          | (apply relWalk_const (fun W => Below.refl _ _)
             · (intro W hC hF
                clear hF
                have d0 := ((hC.cell (p := ⟨go, i, none⟩) gow).trans q0.out)
                have d1 := ((hC.cell (p := ⟨g2, o2 + i, none⟩) g2w).trans q1.out)
                go_simp
                with_reducible exact rfl)
             (try simp only [Act.put, List.setIfInBounds_toArray, List.set_cons_zero, List.set_cons_succ])))
        apply relWalk_nil
        intro W hC hF
        clear hF
        have dc := ((hC.cell (p := ⟨go, i, none⟩) gow).trans q0.out)
        have df := (hC.frozen (p := ⟨go, i, none⟩) gow).trans HFz.out
        have hp := own_set8 (own_under P.out hC) hlt z
        rw [HLs.out] at hp
        have HP2 := hide hp
        have HB2 := hide ((HP.out.trans (hC.mono lw)).setCell (p := ⟨go, i, none⟩) hgo (c8 z))
        clear hp hC P HP q0 q1 HLs HFz
        go_wp2_with fail
        go_roundw
        case rel => exact ⟨i + 1, hlt, int_succ i, HP2, HB2⟩
        case measure => simp [intOf]; omega
      · obtain rfl : i = n := by omega
        have hd : decide ((i : Int) < (i : Int)) = false := by simp
        rw [half_all M F i hMl.out hFl.out] at P
        go_wp2
        go_ret
        exact ⟨some ⟨go, 0, none⟩, c5, rfl, P.out, HP.out⟩
end Go.Proofs.Ytdeljodfanfbmaa
