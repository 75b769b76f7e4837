/- An entry of package jobs, built of a job and its ids. No condition. Package jobs' Add. Condition: a payload that is not too much, at most 2^20 jobs. The job of the document's example. No condition. The document's example of chapter 29. No condition. What package jobs tells of a table that is nil, or that no call made. No condition. -/
import Derived.Test.YtccpkafmbmkmfaaJobFns
import Derived.Great.FillDense
import Derived.Deep.Cut
namespace Go.Proofs.Ytccpkafmbmkmfaa
open Go.RowKit Go.Shelf
set_option linter.unusedVariables false
set_option linter.unusedSimpArgs false

/-- one part of what is built -/
theorem fill_step {place : Nat → Option (Nat × Nat)} {cells : Array Value} {rest : List (Nat × Value)} {i off : Nat} {v : Value} (hp : place i = some (off, v.cells.size)) (hs : off + v.cells.size ≤ cells.size) :
    ∃ cells', Instr.fill place cells ((i, v) :: rest) = Instr.fill place cells' rest ∧ cells'.size = cells.size ∧ ∀ k, cells'[k]? = if off ≤ k ∧ k < off + v.cells.size then v.cells[k - off]? else cells[k]? := by
  have hfold : v.cells.zipIdx.foldl (fun cs (x : Value × Nat) => cs.setIfInBounds (off + x.2) x.1) cells = (v.cells.toList.zipIdx 0).foldl (fun cs (x : Value × Nat) => cs.setIfInBounds (off + x.2) x.1) cells := by
    rw [← Array.foldl_toList]; simp
  obtain ⟨h1, h2⟩ := Great.foldl_set off v.cells.toList 0 cells
  refine ⟨(v.cells.toList.zipIdx 0).foldl (fun cs (x : Value × Nat) => cs.setIfInBounds (off + x.2) x.1) cells, ?_, h1, fun k => ?_⟩
  · rw [← hfold]
    simp only [Instr.fill, hp]
    rw [if_neg (by simp; omega)]
  · rw [h2 k]
    simp only [Nat.add_zero, Array.length_toList, Array.getElem?_toList]
    by_cases hk : off ≤ k ∧ k < off + v.cells.size
    · rw [if_pos ⟨hk.1, hk.2, by omega⟩, if_pos hk]
    · rw [if_neg (fun h => hk ⟨h.1, h.2.1⟩), if_neg hk]
theorem zero_entry : ∃ Z : Array Value, (Try.prog.info? 130).map (·.zero) = some (some (.agg Z)) ∧ Z.size = 39 := ⟨((List.replicate 2 (c32 0)) ++ (List.replicate 32 (c8 0)) ++ [c32 0, c32 0, ci 0, .slice none 0 0, .slice none 0 0]).toArray, by kernel_rfl, rfl⟩
theorem places_entry : ∃ fs, Try.prog.underlying 130 = some (.struct fs) ∧ fs.toList.mapM (fun f => (Try.prog.info? f.type).map fun i => (f.offset, i.size)) = some [(0, 38), (38, 1)] := ⟨_, Try.underlying130, by kernel_rfl⟩
theorem built_entry (R : Array Value) (hR : R.size = 38) (A : Option Addr) (n c : Nat) : Try.prog.built 130 [(0, .agg R), (1, .slice A n c)] = some (R.push (.slice A n c)) := by
  obtain ⟨Z, hZ, hZs⟩ := zero_entry
  obtain ⟨fs, hu, hp⟩ := places_entry
  obtain ⟨it, hit, hz⟩ : ∃ it, Try.prog.info? 130 = some it ∧ it.zero = some (.agg Z) := by simpa [Option.map_eq_some_iff] using hZ
  unfold Program.built
  simp only [hit, hu, hz, hp]
  obtain ⟨c1, e1, s1, k1⟩ := fill_step (place := fun i => [(0, 38), (38, 1)].toArray[i]?) (cells := Z) (rest := [(1, .slice A n c)]) (i := 0) (off := 0) (v := .agg R) (by simp [Value.cells, hR]) (by simp [Value.cells, hR, hZs])
  obtain ⟨c2, e2, s2, k2⟩ := fill_step (place := fun i => [(0, 38), (38, 1)].toArray[i]?) (cells := c1) (rest := []) (i := 1) (off := 38) (v := .slice A n c) (by simp [Value.cells]) (by simp [Value.cells, s1, hZs])
  refine e1.trans (e2.trans ?_)
  simp only [Instr.fill, Option.some.injEq]
  apply Array.ext_getElem?
  intro k
  rw [k2 k]
  by_cases h38 : k = 38
  · subst h38
    rw [if_pos (show 38 ≤ 38 ∧ 38 < 38 + (Value.slice A n c).cells.size from ⟨Nat.le_refl _, by simp [Value.cells]⟩)]
    rw [show (R.push (Value.slice A n c))[38]? = some (.slice A n c) by rw [← hR]; exact Array.getElem?_push_size]
    rfl
  · rw [if_neg (show ¬ (38 ≤ k ∧ k < 38 + (Value.slice A n c).cells.size) by simp [Value.cells]; omega), k1 k]
    by_cases hlt : k < 38
    · rw [if_pos (show 0 ≤ k ∧ k < 0 + (Value.agg R).cells.size by simp [Value.cells, hR]; exact hlt)]
      simp [Value.cells, Array.getElem?_push, hR, h38]
    · rw [if_neg (show ¬ (0 ≤ k ∧ k < 0 + (Value.agg R).cells.size) by simp [Value.cells, hR]; omega), Array.getElem?_eq_none (by omega), Array.getElem?_eq_none (by simp [hR]; omega)]
end Go.Proofs.Ytccpkafmbmkmfaa
namespace Go.Proofs.Ytccpkafmbmkmfaa
open Go.RowKit Go.Shelf
set_option linter.unusedVariables false
set_option linter.unusedSimpArgs false
attribute [local go_sem] Gives givesUpon
attribute [local irreducible] Gives

def keyOfJ (j : JobM) : KeyT := (j.ses, j.seq)
theorem OwnPay.less {w0 w1 w : World} {v : Value} {K : List TierK} (h : OwnPay w1 w v K) (hs : w0.heap.size ≤ w1.heap.size) : OwnPay w0 w v K := ⟨own_less h.own hs, fun p hp => own_less (h.txs p hp) hs⟩
theorem OwnPay.payNe {w0 w : World} {v : Value} {K : List TierK} (h : OwnPay w0 w v K) {e : Nat} {cs : Array Value} (he : Blk w e 130 cs) : PayAt w (fun i => w0.heap.size ≤ i ∧ i < w.heap.size ∧ i ≠ e) v K := by
  obtain ⟨A, c, rfl⟩ := own_slice h.own
  refine ⟨A, c, rfl, own_cap h.own, (ReadsS.of_own h.own).mono fun i _ hi => ⟨(own_lt h.own hi).1, (own_lt h.own hi).2, fun e1 => own_blk_ne h.own he (by decide) (by rw [hi, e1])⟩, fun p hp => ?_⟩
  have ho := h.txs p hp
  obtain ⟨A', c', e2⟩ := own_slice ho
  rw [e2] at ho ⊢
  exact ⟨A', c', rfl, (ReadsS.of_own ho).mono fun i _ hi => ⟨(own_lt ho hi).1, (own_lt ho hi).2, fun e1 => own_blk_ne ho he (by decide) (by rw [hi, e1])⟩, own_cap ho⟩
theorem own_idsNe {w0 w : World} {v : Value} {ids : List (List (BitVec 8))} (h : w.ownsRow w0.heap.size 70 32 v ids.length (ids.flatten.map c8)) {e : Nat} {cs : Array Value} (he : Blk w e 130 cs) : IdsAt w (fun i => w0.heap.size ≤ i ∧ i < w.heap.size ∧ i ≠ e) v ids := by
  obtain ⟨A, c, rfl⟩ := own_slice h
  exact ⟨A, c, rfl, (ReadsS.of_own h).mono fun i _ hi => ⟨(own_lt h hi).1, (own_lt h hi).2, fun e1 => own_blk_ne h he (by decide) (by rw [hi, e1])⟩, own_cap h⟩
/-- what a call of own told -/
def IsJob (j : JobM) (u : Value) : Prop := ∃ A n c R, u = .agg R ∧ JobVal j (.slice A n c) R
def OwnJob (w2 : World) (j : JobM) (L : List TierV) (u : Value) (W : World) : Prop := ∃ v R K, u = .agg R ∧ JobVal j v R ∧ plainT K = L ∧ OwnPay w2 W v K
def OwnIds2 (w2 : World) (ids : List (List (BitVec 8))) (u : Value) (W : World) : Prop := W.ownsRow w2.heap.size 70 32 u ids.length (ids.flatten.map c8)
theorem JobVal.same {j : JobM} (hj : j.breach.length = 32) {v v' : Value} {R : Array Value} (h : JobVal j v R) (h' : JobVal j v' R) : v = v' := by
  have := h.pay.symm.trans h'.pay
  injection this
theorem JobVal.put {j : JobM} {v iv : Value} {R : Array Value} (h : JobVal j v R) (e : Nat) (K : List TierK) : R.push iv = (entryCells ⟨e, j, v, K, iv⟩).toArray := by
  unfold entryCells
  rw [h.val]
  simp
theorem OwnJob.later {w2 : World} {j : JobM} {L : List TierV} : ∀ (v : Value) (w w' : World), Below w.heap.size w w' → OwnJob w2 j L v w → OwnJob w2 j L v w' := by
  rintro v w w' hb ⟨u, R, K, h1, h2, h3, h4⟩
  exact ⟨u, R, K, h1, h2, h3, h4.later hb⟩
theorem OwnIds2.later {w2 : World} {ids : List (List (BitVec 8))} : ∀ (v : Value) (w w' : World), Below w.heap.size w w' → OwnIds2 w2 ids v w → OwnIds2 w2 ids v w' := fun v w w' hb h => own_block h fun r hr => hb.block r (own_lt h hr).2
def IsAgg (u : Value) : Prop := ∃ E, u = .agg E
def EntMade (w2 : World) (j : JobM) (L : List TierV) (u : Value) (W : World) : Prop := ∃ v R K iv, u = .agg (R.push iv) ∧ JobVal j v R ∧ plainT K = L ∧ OwnPay w2 W v K ∧ OwnIds2 w2 (idsOf L) iv W
theorem EntMade.later {w2 : World} {j : JobM} {L : List TierV} : ∀ (v : Value) (w w' : World), Below w.heap.size w w' → EntMade w2 j L v w → EntMade w2 j L v w' := by
  rintro v w w' hb ⟨u, R, K, iv, h1, h2, h3, h4, h5⟩
  exact ⟨u, R, K, iv, h1, h2, h3, h4.later hb, OwnIds2.later _ _ _ hb h5⟩
def IsPtr (u : Value) : Prop := ∃ e, u = .pointer (some ⟨e, 0, none⟩)
def EntNew (w2 : World) (j : JobM) (L : List TierV) (u : Value) (W : World) : Prop := ∃ x : EntryK, u = .pointer (some ⟨x.blk, 0, none⟩) ∧ x.job = j ∧ plainT x.K = L ∧ w2.heap.size ≤ x.blk ∧ Blk W x.blk 130 (entryCells x).toArray ∧ OwnPay w2 W x.pv x.K ∧ OwnIds2 w2 (idsOf L) x.iv W
theorem EntNew.later {w2 : World} {j : JobM} {L : List TierV} : ∀ (v : Value) (w w' : World), Below w.heap.size w w' → EntNew w2 j L v w → EntNew w2 j L v w' := by
  rintro v w w' hb ⟨x, h1, h2, h3, h0, h4, h5, h6⟩
  exact ⟨x, h1, h2, h3, h0, h4.below hb h4.lt, h5.later hb, OwnIds2.later _ _ _ hb h6⟩
theorem gives_build {P : Program} {o : Oper} {a : Act} {w : World} {X : Value → World → Prop} (t : TypeId) (parts : Array (Nat × Operand)) (ho : o.op = .build t parts) (cells : Array Value)
    (hf : P.built t (parts.toList.map fun (i, x) => (i, a.eval x)) = some cells) (h : X (.agg cells) w) : Gives P o a w X := by
  unfold Gives execOp
  simp only [ho, Sem.run_bind, run_build w t _ cells (by rw [Array.toList_map]; exact hf), Result.andThen_ok, givesUpon]
  exact h
theorem gives_box {P : Program} {o : Oper} {a : Act} {w : World} {X : Value → World → Prop} (t : TypeId) (y : Operand) (ho : o.op = .box t y) (cells : Array Value) (hy : a.eval y = .agg cells)
    (h : X (.pointer (some ⟨w.heap.size, 0, none⟩)) (w.alloc (.cells cells t))) : Gives P o a w X := by
  unfold Gives execOp
  simp [ho, hy, Instr.box, newVar, newRow, Value.cells, givesUpon]
  exact h
theorem wpList_mapUpdate_is {α : Type} [DecidableEq α] {P : Program} {k t e : TypeId} {f : α → Value} {ok : α → Prop} (K : KeyFn P k f ok) (ht : P.underlying t = some (.map k e)) {ops : Array Oper} {rest : List Oper} {o : Oper} {a : Act} {w : World} {Q : Exit → Act → World → Prop} {b : Nat} {l : List (α × Value)}
    (hgd : o.guard = none) (m y z : Operand) (ho : o.op = .mapUpdate t m y z) (hm : a.eval m = .map (some b)) (key : α) (hy : a.eval y = f key) (hk : ok key) (v : Value) (hz : a.eval z = v) (h : MapIs w b f ok l)
    (hK : ∀ w', MapIs w' b f ok (mput l key v) → w.grownBy w' (some b) → wpList P ops Q rest (a.put o.dst undef) w') : wpList P ops Q (o :: rest) a w := by
  refine wpList_plain hgd fun K' hK' => ?_
  obtain ⟨w', hrun, h1, h2, _⟩ := h.update K ht hk v
  unfold Oper.wp
  simp [execOp, ho, hm, hy, hz, hrun, Result.andThen]
  exact hK' _ _ (hK w' h1 h2)
theorem info_jkey : (Try.prog.info? 68).map (fun i => (i.zero, i.size, i.bytes)) = some (some (.agg #[.int .u32 0, .int .u32 0]), 2, 8) := by kernel_rfl
theorem run_build_key (w : World) (f u : Value) : (Instr.buildSlice 92 1 #[(0, .agg #[f, u])]).run Try.prog w = .ok (.slice (some ⟨w.heap.size, 0, none⟩) 1 1) (w.alloc (.cells #[f, u] 68)) := by
  obtain ⟨i, hi, hz0, hz1, hz2⟩ := info_parts info_jkey
  refine run_buildSlice w 92 68 1 _ #[f, u] i _ Try.underlying92 hi hz0 (by rw [hz1]; decide) (by rw [hz1]; decide) ?_
  rw [hz1]
  simp [Instr.fill, Value.cells]
  apply Array.ext
  · simp
  · intro i h1 h2
    have : i = 0 ∨ i = 1 := by simp at h2; omega
    rcases this with rfl | rfl <;> simp
theorem gives_build_key {o : Oper} {a : Act} {w : World} {X : Value → World → Prop} (y : Operand) (ho : o.op = .buildSlice 92 1 #[(0, y)]) (f u : Value) (hx : a.eval y = .agg #[f, u])
    (h : X (.slice (some ⟨w.heap.size, 0, none⟩) 1 1) (w.alloc (.cells #[f, u] 68))) : Gives Try.prog o a w X := by
  unfold Gives execOp
  simp only [ho, Sem.run_bind, List.map_toArray, List.map_cons, List.map_nil, hx, run_build_key w f u, Result.andThen_ok, givesUpon]
  exact h
theorem ptrs_put {M : List (KeyT × EntryK)} {k : KeyT} (h : mget M k = none) (x : EntryK) : mput (ptrs M) k (.pointer (some ⟨x.blk, 0, none⟩)) = ptrs (M ++ [(k, x)]) := by
  unfold mput
  rw [ptrs_get, h]
  simp [ptrs]
theorem keyCells_len (M : List (KeyT × EntryK)) : (keyCells M).length = M.length * 2 := by
  induction M with
  | nil => rfl
  | cons p M ih => simp only [keyCells, List.flatMap_cons, List.length_append, List.length_cons, List.length_nil] at ih ⊢; omega
def KeyNew (w3 : World) (k : KeyT) (u : Value) (W : World) : Prop := ∃ r, u = .slice (some ⟨r, 0, none⟩) 1 1 ∧ w3.heap.size ≤ r ∧ Blk W r 68 #[c32 k.1, c32 k.2] ∧ w3.grownBy W none
def KeyAdded (w3 : World) (n : Nat) (cs : List Value) (ov : Value) (u : Value) (W : World) : Prop := W.ownsRow 0 68 2 u n cs ∧ (u.ownBlock = ov.ownBlock ∨ ∃ r, u.ownBlock = some r ∧ w3.heap.size ≤ r)
theorem TabIs.bound {w : World} {S F : Nat → Prop} {g b : Nat} {ov : Value} {M : List (KeyT × EntryK)} (h : TabIs w S F g b ov M) : TabIs w S (fun i => F i ∧ i < w.heap.size) g b ov M :=
  ⟨h.head, h.ord, h.map, fun p hp => (h.ents p hp).mono fun i hi hf => ⟨hf, hi⟩, ⟨h.sg.1, fun e => h.sg.2 e.1⟩, ⟨h.sb.1, fun e => h.sb.2 e.1⟩, fun r hr => ⟨(h.so r hr).1, fun e => (h.so r hr).2 e.1⟩, fun p hp => ⟨(h.se p hp).1, fun e => (h.se p hp).2 e.1⟩, fun i hi => h.sf i hi.1, h.apart⟩
/-- the map has the key, the order not yet -/
structure AddMid (w w3 : World) (S F : Nat → Prop) (g b : Nat) (ov : Value) (M : List (KeyT × EntryK)) (k : KeyT) (x : EntryK) (B : Nat) : Prop where
  head : Blk w3 g 99 #[.map (some b), ov]
  ord : w3.ownsRow 0 68 2 ov M.length (keyCells M)
  map : MapIs w3 b kf (fun _ => True) (ptrs (M ++ [(k, x)]))
  old : ∀ p ∈ M, EntIs w3 F p
  ent : EntIs w3 (fun i => w.heap.size ≤ i ∧ i < B ∧ i ≠ x.blk) (k, x)
  at_ : w.heap.size ≤ x.blk
  bnd : B ≤ w3.heap.size
  touch : Touch S w w3
theorem AddMid.done {w w3 W : World} {S F : Nat → Prop} {g b B : Nat} {ov u : Value} {M : List (KeyT × EntryK)} {k : KeyT} {x : EntryK} (HW : TabIs w S F g b ov M) (hFb : ∀ i, F i → i < w.heap.size) (H : AddMid w w3 S F g b ov M k x B) (hn : mget M k = none)
    (hI : w3.grownBy W ov.ownBlock) (hu : KeyAdded w3 (M.length + 1) (keyCells M ++ [c32 k.1, c32 k.2]) ov u W) :
    Touch S w (W.setCell ⟨g, 1, none⟩ u) ∧ Tab (W.setCell ⟨g, 1, none⟩ u) (fun i => S i ∨ w.heap.size ≤ i) g b (M ++ [(k, x)]) := by
  have hoth : ∀ i, i < w3.heap.size → i ≠ g → some i ≠ ov.ownBlock → (W.setCell ⟨g, 1, none⟩ u).heap[i]? = w3.heap[i]? := fun i h1 h2 h3 => (Below.heap_setCell _ _ _ _ h2).trans (hI.block i h1 h3)
  have hob : ∀ r, ov.ownBlock = some r → r < w.heap.size := fun r hr => (own_lt HW.ord hr).2
  have hgw : g < w.heap.size := HW.head.lt
  have hbw : b < w.heap.size := HW.map.lt
  have hsz : w3.heap.size ≤ (W.setCell ⟨g, 1, none⟩ u).heap.size := by simpa using hI.size
  have hgo : some g ≠ ov.ownBlock := fun e => own_blk_ne HW.ord HW.head (by decide) e.symm
  have hgW : Blk W g 99 #[.map (some b), ov] := (hI.block _ H.head.lt hgo).trans H.head
  have hbnd := H.bnd
  have hat := H.at_
  obtain ⟨hu1, hu2⟩ := hu
  refine ⟨(H.touch.trans (S' := fun i => ov.ownBlock = some i) (Touch.of_grown hI (fun r e => e)) (fun i _ e => (HW.so i e).1)).setCell (p := ⟨g, 1, none⟩) HW.sg.1 u, fun i => F i ∨ (w.heap.size ≤ i ∧ i < B ∧ i ≠ x.blk), u, ?_⟩
  refine ⟨by have := hgW.set_ 1 u; simpa using this, ?_, H.map.block (hoth b H.map.lt (fun e => H.map.ne_blk H.head e) (fun e => H.map.not_row H.ord e)), ?_, ⟨.inl HW.sg.1, ?_⟩, ⟨.inl HW.sb.1, ?_⟩, ?_, ?_, ?_, ?_⟩
  · have e1 : keyCells (M ++ [(k, x)]) = keyCells M ++ [c32 k.1, c32 k.2] := by simp [keyCells]
    rw [e1, List.length_append]
    exact own_block hu1 fun r hr => Below.heap_setCell _ _ _ _ (fun e => own_blk_ne hu1 hgW (by decide) (by rw [hr]; exact congrArg some e))
  · intro p hp
    rcases List.mem_append.1 hp with hp | hp
    · have hE := H.old p hp
      exact ((hE.keep hsz (hoth _ hE.blk.lt (hE.blk.ne_ H.head (by decide)) (fun e => own_blk_ne H.ord hE.blk (by decide) e.symm)) (fun i hi hf => hoth i hi (fun e => HW.sg.2 (e ▸ hf)) (fun e => (HW.so i e.symm).2 hf))).mono fun i _ hf => .inl hf)
    · simp only [List.mem_singleton] at hp
      subst hp
      have hE := H.ent
      exact ((hE.keep hsz (hoth _ hE.blk.lt (hE.blk.ne_ H.head (by decide)) (fun e => own_blk_ne H.ord hE.blk (by decide) e.symm)) (fun i hi hf => hoth i hi (by have := hf.1; omega) (fun e => by have := hob i e.symm; have := hf.1; omega))).mono fun i _ hf => .inr hf)
  · rintro (hf | hf)
    · exact HW.sg.2 hf
    · have := hf.1; omega
  · rintro (hf | hf)
    · exact HW.sb.2 hf
    · have := hf.1; omega
  · intro r hr
    rcases hu2 with e | ⟨r', e, hr'⟩
    · have ho : ov.ownBlock = some r := by rw [← e]; exact hr
      have hlt := hob r ho
      refine ⟨.inl (HW.so r ho).1, ?_⟩
      rintro (hf | hf)
      · exact (HW.so r ho).2 hf
      · have := hf.1; omega
    · rw [hr] at e; injection e with e; subst e
      have hw3 : w.heap.size ≤ w3.heap.size := H.touch.size
      refine ⟨.inr (by omega), ?_⟩
      rintro (hf | hf)
      · have := hFb r hf; omega
      · have := hf.2.1; omega
  · intro p hp
    rcases List.mem_append.1 hp with hp | hp
    · have hlt := (HW.ents p hp).blk.lt
      refine ⟨.inl (HW.se p hp).1, ?_⟩
      rintro (hf | hf)
      · exact (HW.se p hp).2 hf
      · have := hf.1; omega
    · simp only [List.mem_singleton] at hp
      subst hp
      refine ⟨.inr hat, ?_⟩
      rintro (hf | hf)
      · have := hFb _ hf; dsimp only at this; omega
      · exact hf.2.2 rfl
  · rintro i (hf | hf)
    · exact .inl (HW.sf i hf)
    · exact .inr hf.1
  · intro p hp q hq hpq
    rcases List.mem_append.1 hp with hp | hp <;> rcases List.mem_append.1 hq with hq | hq
    · exact HW.apart p hp q hq hpq
    · simp only [List.mem_singleton] at hq
      subst hq
      have hlt := (HW.ents p hp).blk.lt
      dsimp only; omega
    · simp only [List.mem_singleton] at hp
      subst hp
      have hlt := (HW.ents q hq).blk.lt
      dsimp only; omega
    · simp only [List.mem_singleton] at hp hq
      subst hp hq
      exact absurd rfl hpq
set_option maxRecDepth 100000 in
set_option maxHeartbeats 3200000 in
theorem jadd_new (w : World) (S : Nat → Prop) (g b : Nat) (M : List (KeyT × EntryK)) (j : JobM) (hj : j.breach.length = 32) (v : Value) (R : Array Value) (hR : JobVal j v R) (K : List TierK) (S2 : Nat → Prop) (hP : PayAt w S2 v K) (hm : Modest K)
    (hr : rightJ j (plainT K) = true) (h : Tab w S g b M) (hl : M.length ≤ 1048576) (hn : mget M (keyOfJ j) = none) :
    Calls Try.prog 45 #[.pointer (some ⟨g, 0, none⟩), .agg R] w fun e w' => e = .returned (.int .i64 0) ∧ Touch S w w' ∧
      ∃ x, x.job = j ∧ plainT x.K = plainT K ∧ Tab w' (fun i => S i ∨ w.heap.size ≤ i) g b (M ++ [(keyOfJ j, x)]) := by
  obtain ⟨F, hFb, ov, h⟩ : ∃ F : Nat → Prop, (∀ i, F i → i < w.heap.size) ∧ ∃ ov, TabIs w S F g b ov M := by
    obtain ⟨F, ov, h⟩ := h
    exact ⟨_, fun i hi => hi.2, ov, h.bound⟩
  have HW := hide h
  have HFb := hide hFb
  have HRt := hide hr
  clear hFb
  obtain ⟨W0, hW0⟩ : ∃ W0, W0 = w.alloc (.cells R 75) := ⟨_, rfl⟩
  have hb0 : Below w.heap.size w W0 := by rw [hW0]; exact (Below.refl _ _).alloc (Nat.le_refl _) _
  have hq0 : Blk W0 w.heap.size 75 R := by rw [hW0]; exact Blk.new w _ _
  have h0 := h.below hb0
  have HN := hide (absent_live g b ov W0 h0.head)
  have HRi := hide (jright_any j v R hR K W0 S2 (hP.below hb0))
  rw [hr] at HRi
  have HR := hide hR
  have HB0 := hide hb0
  have HQ0 := hide hq0
  have HH0 := hide h0
  have HP := hide (hP.below hb0)
  have HM := hide hm
  have HNo := hide hn
  clear hb0 hq0 h0 hR h hr hP hm hn
  go_enter Try.func45, Try.ntmps45
  go_upto_region 1 with (fail)
  rw [← hW0]
  clear hW0
  go_wp2_with (first
    | (go_at_call 83; (with_reducible refine HN.out.mono ?_); rintro e w0 ⟨rfl, rfl⟩)
    | ((with_reducible show wpList _ _ _ (⟨_, .load 75 _, _, _, _, _⟩ :: _) _ _); refine wpList_load_row rfl 75 _ rfl w.heap.size rfl 75 R (0, 0) _ HQ0.out Try.underlying75 rfl (by rw [HR.out.size]; exact info_job) ?_)
    | (go_at_call 68; (with_reducible refine HRi.out.mono ?_); rintro e w1 ⟨rfl, hb1⟩; have HB1 := hide hb1; clear hb1)
    | fail)
  have HT1 := hide (HH0.out.below HB1.out)
  have HQ1 := hide (HQ0.out.below HB1.out HQ0.out.lt)
  have HP1 := hide (HP.out.below HB1.out)
  have HB := hide (below_next HB0.out HB1.out)
  clear HN HRi HB0 HQ0 HH0 HP HB1
  have FC : Hid (∀ W, Below w1.heap.size w1 W → W.cell? ⟨g, 0, none⟩ = some (.map (some b))) := hide fun W hW => ((HT1.out.below hW).head.cell 0).trans rfl
  have FK : Hid (∀ W, Below w1.heap.size w1 W → W.cell? ⟨w.heap.size, 0, none⟩ = some (c32 j.ses) ∧ W.cell? ⟨w.heap.size, 1, none⟩ = some (c32 j.seq)) := hide fun W hW =>
    ⟨((HQ1.out.below hW HQ1.out.lt).cell 0).trans HR.out.ses, ((HQ1.out.below hW HQ1.out.lt).cell 1).trans HR.out.seq⟩
  have FL : Hid (∀ W, Below w1.heap.size w1 W → (Instr.lookup 97 (.map (some b)) (.agg #[c32 j.ses, c32 j.seq]) false).run Try.prog W = .ok (.pointer none) W) := hide fun W hW => by
    have := (HT1.out.below hW).map.lookup keyJ Try.underlying97 (a := keyOfJ j) trivial false (zero_entryp W)
    rw [ptrs_get, HNo.out] at this
    exact this
  apply wp_region_rel (C := fun W' => Below w1.heap.size w1 W') (M := fun W W' => Below W.heap.size W W') (ss := [_, _, _, _, _, _, _, _, _]) (by kernel_rfl) (by kernel_rfl) (by kernel_rfl) (Below.refl _ _).drew
  repeat (first
    | (apply relWalk_const (fun W => Below.refl _ _)
       · (intro W9 hC hF
          clear hF
          have c0 := FC.out W9 hC
          obtain ⟨q0, q1⟩ := FK.out W9 hC
          have fl := FL.out W9 hC
          clear hC
          go_simp
          with_reducible exact rfl)
       (try simp only [Act.put, List.setIfInBounds_toArray, List.set_cons_zero, List.set_cons_succ])))
  refine relWalk_nil fun w2 hC hF => ?_
  clear hF
  have HC2 := hide hC
  clear hC
  go_wp2
  have FQ : Hid (∀ W, Below w2.heap.size w2 W → Blk W w.heap.size 75 R) := hide fun W hW => (HQ1.out.below (below_next HC2.out hW) HQ1.out.lt)
  have FX : Hid (∀ W, Below w2.heap.size w2 W → W.cell? ⟨w.heap.size, 37, none⟩ = some v) := hide fun W hW => ((FQ.out W hW).cell 37).trans HR.out.pay
  have FP : Hid (∀ W, Below w2.heap.size w2 W → PayAt W S2 v K) := hide fun W hW => HP1.out.below (below_next HC2.out hW)
  obtain ⟨R0, hR0⟩ := jobVal hj (v := .slice none 0 0) rfl
  have HR0 := hide hR0
  clear hR0
  apply wp_region_relT 13 (C := fun W => Below w2.heap.size w2 W) (M := fun W W' => Below W.heap.size W W') (ss := [_, _, _, _, _, _, _, _, _, _, _, _, _]) (by kernel_rfl) (by kernel_rfl) (by kernel_rfl) (by kernel_rfl) (Below.refl _ _).drew
  simp only [List.take_succ_cons, List.take_zero, List.drop_succ_cons, List.drop_zero]
  repeat (first
    | (apply relWalk_const (fun W => Below.refl _ _)
       · (intro W9 hC hF
          clear hF
          have c0 := FC.out W9 (below_next HC2.out hC)
          obtain ⟨q0, q1⟩ := FK.out W9 (below_next HC2.out hC)
          have x37 := FX.out W9 hC
          clear hC
          go_simp
          with_reducible exact rfl)
       (try simp only [Act.put, List.setIfInBounds_toArray, List.set_cons_zero, List.set_cons_succ])))
  apply relWalk_const (c := .agg R) (fun W => Below.refl _ _)
  · intro W hC hF
    rw [if_pos (wanted_none _ rfl)]
    exact gives_load_row 75 _ rfl w.heap.size rfl 75 R (0, 0) _ (FQ.out W hC) Try.underlying75 rfl (by rw [HR.out.size]; exact info_job) ⟨rfl, rfl⟩
  (try simp only [Act.put, List.setIfInBounds_toArray, List.set_cons_zero, List.set_cons_succ])
  apply relWalk_rel (IsJob j) (OwnJob w2 j (plainT K)) ⟨_, none, 0, 0, R0, rfl, HR0.out⟩ OwnJob.later
  · go_simp
  · intro W hC hF
    refine gives_call rfl [.agg R] rfl (enters_of Try.func84 (by kernel_rfl) rfl) ?_
    refine (own_any j hj v R HR.out K W S2 (FP.out W hC) HM.out).mono ?_
    rintro e w' ⟨v', K', R', rfl, hJV, hK, ho, hb⟩
    obtain ⟨A', c', rfl⟩ := own_slice ho.own
    exact ⟨_, rfl, ⟨A', _, c', R', rfl, hJV⟩, ⟨_, R', K', rfl, hJV, hK, ho.less hC.size⟩, below_next hC hb, hb⟩
  rintro u7 ⟨A7, n7, c7, R7, rfl, HJ7⟩
  (try simp only [Act.put, List.setIfInBounds_toArray, List.set_cons_zero, List.set_cons_succ])
  repeat (first
    | (apply relWalk_const (fun W => Below.refl _ _)
       · (intro W9 hC hF
          clear hF
          have c0 := FC.out W9 (below_next HC2.out hC)
          obtain ⟨q0, q1⟩ := FK.out W9 (below_next HC2.out hC)
          have x37 := FX.out W9 hC
          clear hC
          go_simp
          with_reducible exact rfl)
       (try simp only [Act.put, List.setIfInBounds_toArray, List.set_cons_zero, List.set_cons_succ])))
  apply relWalk_rel (RowOf (idsOf (plainT K)).length) (OwnIds2 w2 (idsOf (plainT K))) ⟨_, none, 0, rfl⟩ OwnIds2.later
  · go_simp
  · intro W hC hF
    refine gives_call rfl [.agg #[v]] rfl (enters_of Try.func85 (by kernel_rfl) rfl) ?_
    refine (ids_any v K W S2 (FP.out W hC) HM.out).mono ?_
    rintro e w' ⟨u, rfl, ho⟩
    obtain ⟨A', c', rfl⟩ := own_slice ho.own
    exact ⟨_, rfl, ⟨A', c', rfl⟩, own_less ho.own hC.size, below_next hC ho.below, ho.below⟩
  rintro u10 ⟨A10, c10, rfl⟩
  (try simp only [Act.put, List.setIfInBounds_toArray, List.set_cons_zero, List.set_cons_succ])
  apply relWalk_rel IsAgg (EntMade w2 j (plainT K)) ⟨_, #[], rfl⟩ EntMade.later
  · go_simp
  · intro W hC hF
    have h10 := hF.1 (by kernel_rfl)
    have h7 := hF.2.1 (by kernel_rfl)
    obtain ⟨v7, R7', K7, e7, hJ7, hK7, hO7⟩ := h7
    injection e7 with e7
    subst e7
    refine gives_build 130 _ rfl (R7.push (.slice A10 (idsOf (plainT K)).length c10)) (built_entry R7 hJ7.size A10 _ c10) ⟨⟨_, rfl⟩, ⟨v7, R7, K7, _, rfl, hJ7, hK7, hO7, h10⟩, hC, Below.refl _ _⟩
  rintro u11 ⟨E11, rfl⟩
  (try simp only [Act.put, List.setIfInBounds_toArray, List.set_cons_zero, List.set_cons_succ])
  apply relWalk_rel IsPtr (EntNew w2 j (plainT K)) ⟨_, 0, rfl⟩ EntNew.later
  · go_simp
  · intro W hC hF
    have h11 := hF.1 (by kernel_rfl)
    obtain ⟨v7, R7', K7, iv, e7, hJ7, hK7, hO7, hI7⟩ := h11
    injection e7 with e7
    subst e7
    have hbb : Below W.heap.size W (W.alloc (.cells (R7'.push iv) 130)) := (Below.refl _ _).alloc (Nat.le_refl _) _
    refine gives_box 130 _ rfl (R7'.push iv) rfl ⟨⟨_, rfl⟩, ⟨⟨W.heap.size, j, v7, K7, iv⟩, rfl, rfl, hK7, hC.size, ?_, hO7.later hbb, OwnIds2.later _ _ _ hbb hI7⟩, below_next hC hbb, hbb⟩
    rw [hJ7.put W.heap.size K7]; exact Blk.new W _ _
  rintro u12 ⟨e12, rfl⟩
  (try simp only [Act.put, List.setIfInBounds_toArray, List.set_cons_zero, List.set_cons_succ])
  refine relWalk_nil fun W hC hF => ?_
  have h12 : EntNew w2 j (plainT K) (.pointer (some ⟨e12, 0, none⟩)) W := hF.1
  clear hF
  obtain ⟨x, ex, hxj, hxK, hx0, hxB, hxP, hxI⟩ := h12
  obtain rfl : e12 = x.blk := by injection ex with ex; injection ex with ex; injection ex
  have hBW := below_next HB.out (below_next HC2.out hC)
  have hw2 : w.heap.size ≤ w2.heap.size := (below_next HB.out HC2.out).size
  have hTW := HT1.out.below (below_next HC2.out hC)
  have hqW := FQ.out W hC
  refine wpList_mapUpdate_is keyJ Try.underlying97 rfl _ _ _ rfl rfl (keyOfJ j) rfl trivial (.pointer (some ⟨x.blk, 0, none⟩)) rfl hTW.map fun w3 hm3 hg3 => ?_
  rw [ptrs_put HNo.out] at hm3
  have hoth : ∀ i, i < W.heap.size → i ≠ b → w3.heap[i]? = W.heap[i]? := fun i hi hb => hg3.block i hi (fun e => hb (by injection e))
  have HMid : Hid (AddMid w w3 S F g b ov M (keyOfJ j) x W.heap.size) := hide (by
    refine ⟨(hoth g hTW.head.lt (fun e => hTW.map.ne_blk hTW.head e.symm)).trans hTW.head, own_block hTW.ord fun r hr => hoth r (own_lt hTW.ord hr).2 (fun e => hTW.map.not_row hTW.ord (by rw [hr, e])), hm3,
      fun p hp => (hTW.ents p hp).keep hg3.size (hoth _ (hTW.ents p hp).blk.lt (fun e => hTW.map.ne_blk (hTW.ents p hp).blk e.symm)) (fun i hi hf => hoth i hi (fun e => hTW.sb.2 (e ▸ hf))), ?_, Nat.le_trans hw2 hx0, hg3.size, ?_⟩
    · have hbw : b < w.heap.size := HW.out.map.lt
      have hk : ∀ i, i < W.heap.size → (w.heap.size ≤ i ∧ i < W.heap.size ∧ i ≠ x.blk) → w3.heap[i]? = W.heap[i]? := fun i hi hf => hoth i hi (by omega)
      refine ⟨(hoth _ hxB.lt (fun e => hTW.map.ne_blk hxB e.symm)).trans hxB, by rw [hxj]; exact hj, by rw [hxj]; rfl, by rw [hxj, hxK]; exact HRt.out, ?_, ?_⟩
      · exact ((hxP.payNe hxB).mono fun i hi hf => ⟨Nat.le_trans hw2 hf.1, hf.2⟩).keep hg3.size hk
      · have := (own_idsNe hxI hxB).mono (F' := fun i => w.heap.size ≤ i ∧ i < W.heap.size ∧ i ≠ x.blk) fun i hi hf => ⟨Nat.le_trans hw2 hf.1, hf.2⟩
        rw [← hxK] at this
        exact this.keep hg3.size hk
    · exact (Touch.of_below hBW).trans (S' := fun i => i = b) (Touch.of_grown hg3 (fun r e => by injection e with e; exact e.symm)) (fun i _ e => e ▸ HW.out.sb.1))
  have HQ3 : Hid (Blk w3 w.heap.size 75 R) := hide ((hoth _ hqW.lt (fun e => hTW.map.ne_blk hqW e.symm)).trans hqW)
  have HXj := hide hxj
  have HXk := hide hxK
  obtain ⟨B, hB⟩ : ∃ B, B = W.heap.size := ⟨_, rfl⟩
  rw [← hB] at HMid
  clear hB hBW hw2 hTW hqW hm3 hoth hg3 hxj hxK hx0 hxB hxP hxI ex FC FK FL FX FP FQ HT1 HQ1 HP1 hC
  go_wp2
  obtain ⟨rb, hrb⟩ : ∃ rb, rb = ov.ownBlock := ⟨_, rfl⟩
  have HRb := hide hrb
  have HNg : Hid (some g ≠ rb) := hide fun e => own_blk_ne HMid.out.ord HMid.out.head (by decide) (by rw [← hrb]; exact e.symm)
  have HNq : Hid (some w.heap.size ≠ rb) := hide fun e => own_blk_ne HMid.out.ord HQ3.out (by decide) (by rw [← hrb]; exact e.symm)
  have FG : Hid (∀ W, w3.grownBy W rb → W.cell? ⟨g, 1, none⟩ = some ov) := hide fun W hW =>
    (World.cell?_of_block (a := ⟨g, 1, none⟩) (hW.block _ HMid.out.head.lt HNg.out)).trans ((HMid.out.head.cell 1).trans rfl)
  have FK : Hid (∀ W, w3.grownBy W rb → W.cell? ⟨w.heap.size, 0, none⟩ = some (c32 j.ses) ∧ W.cell? ⟨w.heap.size, 1, none⟩ = some (c32 j.seq)) := hide fun W hW =>
    ⟨(World.cell?_of_block (a := ⟨w.heap.size, 0, none⟩) (hW.block _ HQ3.out.lt HNq.out)).trans ((HQ3.out.cell 0).trans HR.out.ses), (World.cell?_of_block (a := ⟨w.heap.size, 1, none⟩) (hW.block _ HQ3.out.lt HNq.out)).trans ((HQ3.out.cell 1).trans HR.out.seq)⟩
  have HML := hide hl
  clear hrb hl
  apply wp_region_last 11 _ (hv := [7, 8]) (I := fun W => w3.grownBy W rb) (C := fun W => w3.grownBy W none) (ss := [_, _, _, _, _, _, _, _, _, _, _]) rfl (by kernel_rfl) (by kernel_rfl) (by kernel_rfl) (by kernel_rfl) (by kernel_rfl) (by kernel_rfl) (grown_drew' w3 rb) (grown_drew' w3 none)
  simp only [List.take_succ_cons, List.take_zero]
  repeat (first
    | (apply stWalk_light
       · rfl
       · (intro W hI
          have c1 := FG.out W hI
          obtain ⟨q0, q1⟩ := FK.out W hI
          clear hI
          go_simp
          with_reducible exact rfl)
       (try simp only [Act.put, List.setIfInBounds_toArray, List.set_cons_zero, List.set_cons_succ])))
  apply stWalk_turn OneOf (KeyNew w3 (keyOfJ j))
  · rfl
  · exact ⟨_, 0, rfl⟩
  · rfl
  · intro W hI hC
    refine gives_build_key _ rfl (c32 j.ses) (c32 j.seq) rfl ⟨⟨_, rfl⟩, grown_trans' hI (World.grownBy_alloc W _ none) (by simp), _, rfl, hI.size, Blk.new W _ _, grown_trans' hC (World.grownBy_alloc W _ none) (by simp)⟩
  rintro u8 ⟨r, rfl⟩
  (try simp only [Act.put, List.setIfInBounds_toArray, List.set_cons_zero, List.set_cons_succ])
  apply stWalk_turn (RowOf (M.length + 1)) (KeyAdded w3 (M.length + 1) (keyCells M ++ [c32 j.ses, c32 j.seq]) ov)
  · rfl
  · exact ⟨_, none, 0, rfl⟩
  · rfl
  · intro W hI hC
    obtain ⟨r', e, hr, hB, hg0⟩ := hC
    cases e
    have hown := own_block HMid.out.ord fun i hi => hg0.block i (own_lt HMid.out.ord hi).2 (by simp)
    refine gives_append_of _ _ 92 rfl 0 68 _ 2 8 Try.underlying92 info_jkey rfl (by omega) ov M.length (keyCells M) rfl hown (r + 1) (some ⟨r, 0, none⟩) 1 1 [c32 j.ses, c32 j.seq] rfl ⟨rfl, fun _ => ⟨_, rfl, by simp, fun i y hy => ?_⟩⟩ (by simp [Value.oneCell', c32]) (by have := HML.out; simp only [maxLen]; omega) (by have := HML.out; omega) (Nat.zero_le _) ?_
    · rw [Addr.add_lit, Nat.zero_add, hB.cell]
      simpa [keyOfJ] using hy
    · intro v2 W' ho hg hat
      obtain ⟨A7, c7, rfl⟩ := own_slice ho
      exact ⟨⟨A7, c7, rfl⟩, grown_trans' hI hg (fun i e => .inr (by rw [HRb.out]; exact e)), ho, hat.imp id fun e => ⟨_, e, hI.size⟩⟩
  rintro u9 ⟨A7, c7, rfl⟩
  (try simp only [Act.put, List.setIfInBounds_toArray, List.set_cons_zero, List.set_cons_succ])
  repeat (first
    | (apply stWalk_light
       · rfl
       · (intro W hI
          have c1 := FG.out W hI
          obtain ⟨q0, q1⟩ := FK.out W hI
          clear hI
          go_simp
          with_reducible exact rfl)
       (try simp only [Act.put, List.setIfInBounds_toArray, List.set_cons_zero, List.set_cons_succ])))
  refine stWalk_nil fun W hI hC => ⟨rfl, ?_⟩
  have c1 := FG.out W hI
  have hgW : Blk W g 99 #[.map (some b), ov] := (hI.block _ HMid.out.head.lt HNg.out).trans HMid.out.head
  have f1 : W.frozen? ⟨g, 1, none⟩ = false := hgW.frozen 1
  have HFin : Hid (Touch S w (W.setCell ⟨g, 1, none⟩ (.slice A7 (M.length + 1) c7)) ∧ Tab (W.setCell ⟨g, 1, none⟩ (.slice A7 (M.length + 1) c7)) (fun i => S i ∨ w.heap.size ≤ i) g b (M ++ [(keyOfJ j, x)])) := hide (AddMid.done HW.out HFb.out HMid.out HNo.out (by rw [← HRb.out]; exact hI) hC)
  clear hI hC hgW FG FK HML HNg HNq
  go_simp
  go_wp2
  go_ret
  exact ⟨rfl, HFin.out.1, x, HXj.out, HXk.out, HFin.out.2⟩
end Go.Proofs.Ytccpkafmbmkmfaa
namespace Go.Proofs.Ytccpkafmbmkmfaa
open Go.RowKit Go.Shelf
set_option linter.unusedVariables false
set_option linter.unusedSimpArgs false

def oneJ : JobM := ⟨1#32, 0#32, List.replicate 32 0#8, 5#32, 0#32, 0⟩
def oneL : List TierV := [(1#32, [7#8])]
theorem one_right : rightJ oneJ oneL = true := by decide
theorem one_len : oneJ.breach.length = 32 := by simp [oneJ]
theorem built_one (A : Option Addr) (n c : Nat) : Try.prog.built 75 [(0, .agg #[.int .u32 1, .int .u32 0]), (2, .int .u32 5), (5, .agg #[.slice A n c])] = some (jobCells oneJ (.slice A n c)).toArray := by kernel_rfl
/-- a block as a slice of one element -/
theorem ReadsS.blk {w : World} {S : Nat → Prop} {g size : Nat} {t : TypeId} {cs : Array Value} (h : Blk w g t cs) (hS : S g) (hs : cs.size = size) : ReadsS w S size (some ⟨g, 0, none⟩) 1 cs.toList :=
  ⟨by simp [hs], fun _ => ⟨g, 0, rfl, hS, h.lt, fun j u hu => by rw [Nat.zero_add, h.cell, ← Array.getElem?_toList]; exact hu⟩⟩
set_option maxRecDepth 100000 in
set_option maxHeartbeats 800000 in
theorem one_any (w : World) : Calls Try.prog 82 #[] w fun e w' => ∃ v K R, e = .returned (.agg R) ∧ JobVal oneJ v R ∧ plainT K = oneL ∧ PayAt w' (fun i => i < w'.heap.size) v K ∧ Below w.heap.size w w' := by
  obtain ⟨Z, hZ, hZs⟩ := zero_job
  have HZ := hide hZ
  have HZs := hide hZs
  obtain ⟨W0, hW0⟩ : ∃ W0, W0 = w.alloc (.cells Z 75) := ⟨_, rfl⟩
  have hb0 : Below w.heap.size w W0 := by rw [hW0]; exact (Below.refl _ _).alloc (Nat.le_refl _) _
  have hq0 : Blk W0 w.heap.size 75 Z := by rw [hW0]; exact Blk.new w _ _
  obtain ⟨v, hv⟩ : ∃ v : Value, v = .slice (some ⟨W0.heap.size + 1, 0, none⟩) 1 1 := ⟨_, rfl⟩
  obtain ⟨R, hR⟩ := jobVal one_len (v := v) (by rw [hv]; rfl)
  have HR := hide hR
  have HBd : Hid (Try.prog.built 75 [(0, .agg #[.int .u32 1, .int .u32 0]), (2, .int .u32 5), (5, .agg #[.slice (some ⟨W0.heap.size + 1, 0, none⟩) 1 1])] = some R) := hide (by rw [hR.val, hv]; exact built_one _ 1 1)
  obtain ⟨W2, hW2⟩ : ∃ W2, W2 = (W0.alloc (.cells #[.int .u8 7] 5)).alloc (.cells #[.int .u32 1, .slice (some ⟨W0.heap.size, 0, none⟩) 1 1] 80) := ⟨_, rfl⟩
  have hb2 : Below W0.heap.size W0 W2 := by rw [hW2]; exact ((Below.refl _ _).alloc (Nat.le_refl _) _).alloc (by simp) _
  have hB1 : Blk W2 W0.heap.size 5 #[.int .u8 7] := by rw [hW2]; exact (Blk.new W0 _ _).alloc _
  have hB2 : Blk W2 (W0.heap.size + 1) 80 #[.int .u32 1, .slice (some ⟨W0.heap.size, 0, none⟩) 1 1] := by
    rw [hW2]
    have := Blk.new (W0.alloc (.cells #[.int .u8 7] 5)) 80 #[.int .u32 1, .slice (some ⟨W0.heap.size, 0, none⟩) 1 1]
    rwa [World.size_alloc] at this
  have hsz : w.heap.size < W0.heap.size := hq0.lt
  have HFin : Hid (PayAt (W2.setRow w.heap.size R) (fun i => i < (W2.setRow w.heap.size R).heap.size) v [(1#32, (.slice (some ⟨W0.heap.size, 0, none⟩) 1 1, [7#8]))] ∧ Below w.heap.size w (W2.setRow w.heap.size R)) := hide (by
    have hC1 : Blk (W2.setRow w.heap.size R) W0.heap.size 5 #[.int .u8 7] := (setRow_other _ _ _ _ (by omega)).trans hB1
    have hC2 : Blk (W2.setRow w.heap.size R) (W0.heap.size + 1) 80 #[.int .u32 1, .slice (some ⟨W0.heap.size, 0, none⟩) 1 1] := (setRow_other _ _ _ _ (by omega)).trans hB2
    refine ⟨⟨_, 1, hv, Nat.le_refl _, ReadsS.blk (size := 2) hC2 hC2.lt rfl, fun p hp => ?_⟩, below_setRow (below_next hb0 hb2) (Nat.le_refl _) _⟩
    simp only [List.mem_singleton] at hp
    subst hp
    exact ⟨_, 1, rfl, ReadsS.blk (size := 1) hC1 hC1.lt rfl, Nat.le_refl _⟩)
  have HQ2 : Hid (Blk W2 w.heap.size 75 Z) := hide (hq0.below hb2 hsz)
  replace hW0 := hide hW0.symm
  replace hW2 := hide hW2.symm
  clear hZ hZs hb0 hq0 hb2 hB1 hB2 hsz hR hv
  go_enter Try.func82, Try.ntmps82
  go_wp2_with (first
    | (refine wpList_alloc_is rfl 75 rfl Z HZ.out ?_; rw [hW0.out])
    | ((with_reducible show wpList _ _ _ (⟨_, .build 75 _, _, _, _, _⟩ :: _) _ _); refine wpList_build_is rfl 75 _ rfl R HBd.out ?_; rw [hW2.out])
    | ((with_reducible show wpList _ _ _ (⟨_, .store 75 _ _, _, _, _, _⟩ :: _) _ _); refine wpList_store_row rfl 75 _ _ rfl w.heap.size rfl R rfl 75 _ HQ2.out (by rw [HR.out.size]; exact info_job) (by rw [HR.out.size]; exact HZs.out) HR.out.one ?_))
  refine bodyPost_ret (v := .agg R) ?_ rfl ⟨v, _, R, rfl, HR.out, rfl, HFin.out.1, HFin.out.2⟩
  exact results_cell_row rfl _ _ w.heap.size 75 R (0, 0) _ rfl (setRow_heap _ _ _ _ _ _ HQ2.out) Try.underlying75 rfl (by rw [HR.out.size]; exact info_job)
end Go.Proofs.Ytccpkafmbmkmfaa
namespace Go.Proofs.Ytccpkafmbmkmfaa
open Go.RowKit Go.Shelf
set_option linter.unusedVariables false
set_option linter.unusedSimpArgs false

abbrev oneK : KeyT := (1#32, 0#32)
theorem oneK_key : keyOfJ oneJ = oneK := rfl
theorem oneK_val : kf oneK = .agg #[.int .u32 1, .int .u32 0] := rfl
theorem mput_one (x x' : EntryK) : mput [(oneK, x)] oneK x' = [(oneK, x')] := by simp [mput, mget]
theorem mget_one (x : EntryK) : mget [(oneK, x)] oneK = some x := by simp [mget]
set_option maxRecDepth 100000 in
set_option maxHeartbeats 1600000 in
theorem alive29_any (w : World) : Calls Try.prog 43 #[] w fun e w' => e = .returned (.bool true) ∧ Below w.heap.size w w' := by
  obtain ⟨Z, hZ, hZs⟩ := zero_job
  have HZ := hide hZ
  have HZs := hide hZs
  clear hZ hZs
  go_enter Try.func43, Try.ntmps43
  go_wp2_with (first
    | (go_at_call 44; (with_reducible refine (jnew_any _).mono ?_); rintro e w1 ⟨rfl, ht1, hb1⟩; have HT1 := hide ht1; have HB1 := hide hb1; clear ht1 hb1)
    | (go_at_call 82; (with_reducible refine (one_any _).mono ?_); rintro e w2 ⟨v, K, R, rfl, hJ, hK, hP, hb2⟩; have HB2 := hide (below_next HB1.out hb2); have HAdd := hide (jadd_new w2 _ _ _ [] oneJ one_len v R hJ K _ hP (modest_right (j := oneJ) (by rw [hK]; exact one_right)) (by rw [hK]; exact one_right) (HT1.out.below hb2) (Nat.zero_le _) rfl); clear hJ hK hP hb2)
    | (go_at_call 45; (with_reducible refine HAdd.out.mono ?_); rintro e w3 ⟨rfl, htc, x, hxj, hxK, ht3⟩; have HB3 := hide (HB2.out.trans (htc.below HB2.out.size (fun i hi h => by have h : w.heap.size ≤ i := h; omega))); replace ht3 : Tab w3 _ _ _ [(oneK, x)] := ht3; have HT3 := hide ht3; have HXj := hide hxj; have HMk := hide (jmark_some w3 _ _ _ _ oneK 7#32 x ht3 (mget_one x)); rw [oneK_val, mput_one, show (((7#32).toNat : Nat) : Int) = 7 from rfl] at HMk; clear htc hxj hxK ht3)
    | (go_at_call 53; (with_reducible refine HMk.out.mono ?_); rintro e w4 ⟨rfl, ht4, htc⟩; have HB4 := hide (HB3.out.trans (htc.below HB3.out.size (fun i hi h => by rcases h with h | h; (have h : w.heap.size ≤ i := h; omega); (have := HB2.out.size; omega)))); have HT4 := hide ht4; have HGt := hide (jget_some w4 _ _ _ _ oneK _ ht4 (mget_one _)); rw [oneK_val] at HGt; clear ht4 htc)
    | (go_at_call 46; (with_reducible refine HGt.out.mono ?_); rintro e w5 ⟨v5, K5, R5, rfl, hJ5, hK5, hO5, hb5⟩; have HB5 := hide (below_next HB4.out hb5); have HT5 := hide (HT4.out.below hb5); have HJ5 := hide hJ5; clear hJ5 hK5 hO5 hb5)
    | (refine wpList_alloc_is rfl 75 rfl Z HZ.out ?_)
    | ((with_reducible show wpList _ _ _ (⟨_, .store 75 _ _, _, _, _, _⟩ :: _) _ _); refine wpList_store_row rfl 75 _ _ rfl w5.heap.size rfl R5 rfl 75 _ (Blk.new w5 _ Z) (by rw [HJ5.out.size]; exact info_job) (by rw [HJ5.out.size]; exact HZs.out) HJ5.out.one ?_; obtain ⟨W6, hW6⟩ : ∃ W6, W6 = (w5.alloc (.cells Z 75)).setRow w5.heap.size R5 := ⟨_, rfl⟩; have hbl : Blk W6 w5.heap.size 75 R5 := (by rw [hW6]; exact setRow_heap _ _ _ _ _ _ (Blk.new w5 _ Z)); have hb6 : Below w5.heap.size w5 W6 := (by rw [hW6]; exact below_setRow ((Below.refl _ _).alloc (Nat.le_refl _) _) (Nat.le_refl _) _); have z35 : W6.cell? ⟨w5.heap.size, 35, none⟩ = some (.int .u32 7) := (hbl.cell 35).trans HJ5.out.mined; have z36 : W6.cell? ⟨w5.heap.size, 36, none⟩ = some (.int .i64 (-1)) := (hbl.cell 36).trans HJ5.out.live; have HB6 := hide (below_next HB5.out hb6); have HLv := hide (jlive_mined W6 _ _ _ _ oneK 0 _ (HT5.out.below hb6) (mget_one _) (show (7#32).toNat ≠ 0 by decide)); rw [oneK_val] at HLv; rw [← hW6]; clear hW6 hbl hb6)
    | (go_at_call 50; (with_reducible refine HLv.out.mono ?_); rintro e w7 ⟨rfl, hb7⟩; have HB7 := hide (below_next HB6.out hb7); clear hb7)
    | fail)
  go_ret
  exact ⟨rfl, HB7.out⟩
end Go.Proofs.Ytccpkafmbmkmfaa
namespace Go.Proofs.Ytccpkafmbmkmfaa
open Go.RowKit Go.Shelf
set_option linter.unusedVariables false
set_option linter.unusedSimpArgs false

/-- a table that has nothing, at whatever world behind w -/
def Absent (p : Value) (w : World) : Prop := ∀ W, Below w.heap.size w W → Calls Try.prog 83 #[p] W fun e w' => e = .returned (.bool true) ∧ W = w'
theorem Absent.later {p : Value} {w w' : World} (h : Absent p w) (hb : Below w.heap.size w w') : Absent p w' := fun W hW => h W (below_next hb hW)
theorem Absent.nil_ (w : World) : Absent (.pointer none) w := fun W _ => absent_nil W
theorem Absent.blank {w : World} {g : Nat} {ov : Value} (h : Blk w g 99 #[.map none, ov]) : Absent (.pointer (some ⟨g, 0, none⟩)) w := fun W hW => absent_blank g ov W (h.below hW h.lt)
theorem Absent.call {p : Value} {w : World} (h : Absent p w) : Calls Try.prog 83 #[p] w fun e w' => e = .returned (.bool true) ∧ w = w' := h w (Below.refl _ _)
theorem jat_absent (p : Value) (k : KeyT) (w : World) (h : Absent p w) : Calls Try.prog 86 #[p, kf k] w fun e w' => e = .returned (.pointer none) ∧ Below w.heap.size w w' := by
  obtain ⟨W0, hW0⟩ : ∃ W0, W0 = w.alloc (.cells #[c32 k.1, c32 k.2] 68) := ⟨_, rfl⟩
  have HB := hide (show Below w.heap.size w W0 by rw [hW0]; exact (Below.refl _ _).alloc (Nat.le_refl _) _)
  have HA := hide (h W0 HB.out)
  clear h
  unfold kf
  go_enter Try.func86, Try.ntmps86
  go_upto_region 1 with (fail)
  rw [← hW0]
  clear hW0
  go_wp2_with (first
    | (go_at_call 83; (with_reducible refine HA.out.mono ?_); rintro e w1 ⟨rfl, rfl⟩)
    | fail)
  go_ret
  exact ⟨rfl, HB.out⟩
theorem jthose_absent (p f : Value) (w : World) (h : Absent p w) : Calls Try.prog 87 #[p, f] w fun e w' => e = .returned (.slice none 0 0) ∧ w = w' := by
  have HA := hide h.call
  clear h
  go_enter Try.func87, Try.ntmps87
  go_wp2_with (first
    | (go_at_call 83; (with_reducible refine HA.out.mono ?_); rintro e w1 ⟨rfl, rfl⟩)
    | fail)
  go_ret
  exact ⟨rfl, rfl⟩
theorem jlen_absent (p : Value) (w : World) (h : Absent p w) : Calls Try.prog 59 #[p] w fun e w' => e = .returned (.int .i64 0) ∧ w = w' := by
  have HA := hide h.call
  clear h
  go_enter Try.func59, Try.ntmps59
  go_wp2_with (first
    | (go_at_call 83; (with_reducible refine HA.out.mono ?_); rintro e w1 ⟨rfl, rfl⟩)
    | fail)
  go_ret
  exact ⟨rfl, rfl⟩
theorem jclone_absent (p : Value) (w : World) (h : Absent p w) : Calls Try.prog 60 #[p] w fun e w' => e = .returned (.pointer none) ∧ w = w' := by
  have HA := hide h.call
  clear h
  go_enter Try.func60, Try.ntmps60
  go_wp2_with (first
    | (go_at_call 83; (with_reducible refine HA.out.mono ?_); rintro e w1 ⟨rfl, rfl⟩)
    | fail)
  go_ret
  exact ⟨rfl, rfl⟩
theorem jmark_absent (p : Value) (k : KeyT) (m : BitVec 32) (w : World) (h : Absent p w) : Calls Try.prog 53 #[p, kf k, .int .u32 (m.toNat : Int)] w fun e w' => e = .returned (.bool false) ∧ Below w.heap.size w w' := by
  obtain ⟨W0, hW0⟩ : ∃ W0, W0 = w.alloc (.cells #[c32 k.1, c32 k.2] 68) := ⟨_, rfl⟩
  have hq0 : Blk W0 w.heap.size 68 #[c32 k.1, c32 k.2] := by rw [hW0]; exact Blk.new w _ _
  have q0 : W0.cell? ⟨w.heap.size, 0, none⟩ = some (c32 k.1) := (hq0.cell 0).trans rfl
  have q1 : W0.cell? ⟨w.heap.size, 1, none⟩ = some (c32 k.2) := (hq0.cell 1).trans rfl
  have HB := hide (show Below w.heap.size w W0 by rw [hW0]; exact (Below.refl _ _).alloc (Nat.le_refl _) _)
  have HA := hide (jat_absent p k W0 (h.later HB.out))
  clear h hq0
  unfold kf at HA ⊢
  go_enter Try.func53, Try.ntmps53
  go_upto_region 1 with (fail)
  rw [← hW0]
  clear hW0
  go_wp2_with (first
    | (go_at_call 86; (with_reducible refine HA.out.mono ?_); rintro e w1 ⟨rfl, hb1⟩; have HB1 := hide (below_next HB.out hb1); clear hb1)
    | fail)
  go_ret
  exact ⟨rfl, HB1.out⟩
theorem jlive_absent (p : Value) (k : KeyT) (t : Int) (w : World) (h : Absent p w) : Calls Try.prog 50 #[p, kf k, .int .i64 t] w fun e w' => e = .returned (.bool false) ∧ Below w.heap.size w w' := by
  obtain ⟨W0, hW0⟩ : ∃ W0, W0 = w.alloc (.cells #[c32 k.1, c32 k.2] 68) := ⟨_, rfl⟩
  have hq0 : Blk W0 w.heap.size 68 #[c32 k.1, c32 k.2] := by rw [hW0]; exact Blk.new w _ _
  have q0 : W0.cell? ⟨w.heap.size, 0, none⟩ = some (c32 k.1) := (hq0.cell 0).trans rfl
  have q1 : W0.cell? ⟨w.heap.size, 1, none⟩ = some (c32 k.2) := (hq0.cell 1).trans rfl
  have HB := hide (show Below w.heap.size w W0 by rw [hW0]; exact (Below.refl _ _).alloc (Nat.le_refl _) _)
  have HA := hide (jat_absent p k W0 (h.later HB.out))
  clear h hq0
  unfold kf at HA ⊢
  go_enter Try.func50, Try.ntmps50
  go_upto_region 1 with (fail)
  rw [← hW0]
  clear hW0
  go_wp2_with (first
    | (go_at_call 86; (with_reducible refine HA.out.mono ?_); rintro e w1 ⟨rfl, hb1⟩; have HB1 := hide (below_next HB.out hb1); clear hb1)
    | fail)
  go_ret
  exact ⟨rfl, HB1.out⟩
theorem jdrop_absent (p : Value) (k : KeyT) (w : World) (h : Absent p w) : Calls Try.prog 55 #[p, kf k] w fun e w' => e = .returned (.bool false) ∧ Below w.heap.size w w' := by
  obtain ⟨W0, hW0⟩ : ∃ W0, W0 = w.alloc (.cells #[c32 k.1, c32 k.2] 68) := ⟨_, rfl⟩
  have hq0 : Blk W0 w.heap.size 68 #[c32 k.1, c32 k.2] := by rw [hW0]; exact Blk.new w _ _
  have q0 : W0.cell? ⟨w.heap.size, 0, none⟩ = some (c32 k.1) := (hq0.cell 0).trans rfl
  have q1 : W0.cell? ⟨w.heap.size, 1, none⟩ = some (c32 k.2) := (hq0.cell 1).trans rfl
  have HB := hide (show Below w.heap.size w W0 by rw [hW0]; exact (Below.refl _ _).alloc (Nat.le_refl _) _)
  have HA := hide (jat_absent p k W0 (h.later HB.out))
  clear h hq0
  unfold kf at HA ⊢
  go_enter Try.func55, Try.ntmps55
  go_upto_region 1 with (fail)
  rw [← hW0]
  clear hW0
  go_wp2_with (first
    | (go_at_call 86; (with_reducible refine HA.out.mono ?_); rintro e w1 ⟨rfl, hb1⟩; have HB1 := hide (below_next HB.out hb1); clear hb1)
    | fail)
  go_ret
  exact ⟨rfl, HB1.out⟩
theorem jbyAt_absent (p : Value) (m : BitVec 32) (w : World) (h : Absent p w) : Calls Try.prog 57 #[p, .int .u32 (m.toNat : Int)] w fun e w' => e = .returned (.slice none 0 0) ∧ Below w.heap.size w w' := by
  obtain ⟨W0, hW0⟩ : ∃ W0, W0 = w.alloc (.cells #[.int .u32 (m.toNat : Int)] 22) := ⟨_, rfl⟩
  have HB := hide (show Below w.heap.size w W0 by rw [hW0]; exact (Below.refl _ _).alloc (Nat.le_refl _) _)
  have HA : Hid (∀ f, Calls Try.prog 87 #[p, f] W0 fun e w' => e = .returned (.slice none 0 0) ∧ W0 = w') := hide fun f => jthose_absent p f W0 (h.later HB.out)
  clear h
  go_enter Try.func57, Try.ntmps57
  go_upto_region 1 with (fail)
  rw [← hW0]
  clear hW0
  go_wp2_with (first
    | (go_at_call 87; (with_reducible refine (HA.out _).mono ?_); rintro e w1 ⟨rfl, rfl⟩)
    | fail)
  go_ret
  exact ⟨rfl, HB.out⟩
theorem jbyMined_absent (p : Value) (m : BitVec 32) (w : World) (h : Absent p w) : Calls Try.prog 58 #[p, .int .u32 (m.toNat : Int)] w fun e w' => e = .returned (.slice none 0 0) ∧ Below w.heap.size w w' := by
  obtain ⟨W0, hW0⟩ : ∃ W0, W0 = w.alloc (.cells #[.int .u32 (m.toNat : Int)] 22) := ⟨_, rfl⟩
  have HB := hide (show Below w.heap.size w W0 by rw [hW0]; exact (Below.refl _ _).alloc (Nat.le_refl _) _)
  have HA : Hid (∀ f, Calls Try.prog 87 #[p, f] W0 fun e w' => e = .returned (.slice none 0 0) ∧ W0 = w') := hide fun f => jthose_absent p f W0 (h.later HB.out)
  clear h
  go_enter Try.func58, Try.ntmps58
  go_upto_region 1 with (fail)
  rw [← hW0]
  clear hW0
  go_wp2_with (first
    | (go_at_call 87; (with_reducible refine (HA.out _).mono ?_); rintro e w1 ⟨rfl, rfl⟩)
    | fail)
  go_ret
  exact ⟨rfl, HB.out⟩
theorem jclaim_absent (p : Value) (R : Array Value) (w : World) (h : Absent p w) : Calls Try.prog 56 #[p, .agg R] w fun e w' => e = .returned (.slice none 0 0) ∧ Below w.heap.size w w' := by
  obtain ⟨W0, hW0⟩ : ∃ W0, W0 = w.alloc (.cells R 70) := ⟨_, rfl⟩
  have HB := hide (show Below w.heap.size w W0 by rw [hW0]; exact (Below.refl _ _).alloc (Nat.le_refl _) _)
  have HA : Hid (∀ f, Calls Try.prog 87 #[p, f] W0 fun e w' => e = .returned (.slice none 0 0) ∧ W0 = w') := hide fun f => jthose_absent p f W0 (h.later HB.out)
  clear h
  go_enter Try.func56, Try.ntmps56
  go_upto_region 1 with (fail)
  rw [← hW0]
  clear hW0
  go_wp2_with (first
    | (go_at_call 87; (with_reducible refine (HA.out _).mono ?_); rintro e w1 ⟨rfl, rfl⟩)
    | fail)
  go_ret
  exact ⟨rfl, HB.out⟩
theorem jadd_absent (p : Value) (R : Array Value) (w : World) (h : Absent p w) : Calls Try.prog 45 #[p, .agg R] w fun e w' => e = .returned (.int .i64 7) ∧ Below w.heap.size w w' := by
  obtain ⟨W0, hW0⟩ : ∃ W0, W0 = w.alloc (.cells R 75) := ⟨_, rfl⟩
  have HB := hide (show Below w.heap.size w W0 by rw [hW0]; exact (Below.refl _ _).alloc (Nat.le_refl _) _)
  have HA := hide (h W0 HB.out)
  clear h
  go_enter Try.func45, Try.ntmps45
  go_upto_region 1 with (fail)
  rw [← hW0]
  clear hW0
  go_wp2_with (first
    | (go_at_call 83; (with_reducible refine HA.out.mono ?_); rintro e w1 ⟨rfl, rfl⟩)
    | fail)
  go_ret
  exact ⟨rfl, HB.out⟩
theorem jrest_absent (p : Value) (w : World) (h : Absent p w) : Calls Try.prog 54 #[p] w fun e w' => e = .returned (.tuple #[]) ∧ w = w' := by
  have HA : Hid (∀ f, Calls Try.prog 87 #[p, f] w fun e w' => e = .returned (.slice none 0 0) ∧ w = w') := hide fun f => jthose_absent p f w h
  clear h
  go_enter Try.func54, Try.ntmps54
  go_wp2_with (first
    | (go_at_call 87; (with_reducible refine (HA.out _).mono ?_); rintro e w1 ⟨rfl, rfl⟩)
    | fail)
  go_loopw [7] (fun i wr => i = .int .i64 0 ∧ wr = w) (fun _ _ => 0)
  case atStart => exact ⟨rfl, rfl⟩
  case round =>
    obtain ⟨rfl, rfl⟩ := hrel
    go_wp2
    go_end0
    exact ⟨rfl, rfl⟩
theorem jlist_absent (p : Value) (w : World) (h : Absent p w) : Calls Try.prog 47 #[p] w fun e w' => e = .returned (.slice none 0 0) ∧ w = w' := by
  have HA : Hid (∀ f, Calls Try.prog 87 #[p, f] w fun e w' => e = .returned (.slice none 0 0) ∧ w = w') := hide fun f => jthose_absent p f w h
  clear h
  go_enter Try.func47, Try.ntmps47
  go_wp2_with (first
    | (go_at_call 87; (with_reducible refine (HA.out _).mono ?_); rintro e w1 ⟨rfl, rfl⟩)
    | fail)
  go_loopw [3, 9] (fun o i wr => o = .slice none 0 0 ∧ i = .int .i64 0 ∧ wr = w) (fun _ _ _ => 0)
  case atStart => exact ⟨rfl, rfl, rfl⟩
  case round =>
    obtain ⟨rfl, rfl, rfl⟩ := hrel
    go_wp2
    go_ret
    exact ⟨rfl, rfl⟩
theorem jevict_absent (p : Value) (R : Array Value) (w : World) (h : Absent p w) : Calls Try.prog 51 #[p, .agg R] w fun e w' => e = .returned (.slice none 0 0) ∧ Below w.heap.size w w' := by
  obtain ⟨W0, hW0⟩ : ∃ W0, W0 = w.alloc (.cells R 70) := ⟨_, rfl⟩
  have HB := hide (show Below w.heap.size w W0 by rw [hW0]; exact (Below.refl _ _).alloc (Nat.le_refl _) _)
  have HA : Hid (∀ f, Calls Try.prog 87 #[p, f] W0 fun e w' => e = .returned (.slice none 0 0) ∧ W0 = w') := hide fun f => jthose_absent p f W0 (h.later HB.out)
  clear h
  go_enter Try.func51, Try.ntmps51
  go_upto_region 1 with (fail)
  rw [← hW0]
  clear hW0
  go_wp2_with (first
    | (go_at_call 87; (with_reducible refine (HA.out _).mono ?_); rintro e w1 ⟨rfl, rfl⟩)
    | fail)
  go_loopw [13] (fun i wr => i = .int .i64 0 ∧ wr = W0) (fun _ _ => 0)
  case atStart => exact ⟨rfl, rfl⟩
  case round =>
    obtain ⟨rfl, rfl⟩ := hrel
    go_wp2
    go_ret
    exact ⟨rfl, HB.out⟩
theorem built_zero {Z : Array Value} (hZ : (Try.prog.info? 75).map (·.zero) = some (some (.agg Z))) : Try.prog.built 75 [] = some Z := by
  obtain ⟨it, hit, hz⟩ : ∃ it, Try.prog.info? 75 = some it ∧ it.zero = some (.agg Z) := by simpa [Option.map_eq_some_iff] using hZ
  obtain ⟨fs, pl, hu, hp⟩ : ∃ fs pl, Try.prog.underlying 75 = some (.struct fs) ∧ fs.toList.mapM (fun f => (Try.prog.info? f.type).map fun i => (f.offset, i.size)) = some pl := ⟨_, [(0, 2), (2, 32), (34, 1), (35, 1), (36, 1), (37, 1)], Try.underlying75, by kernel_rfl⟩
  unfold Program.built
  simp only [hit, hu, hz, hp]
  rfl
set_option maxRecDepth 100000 in
theorem jget_absent (p : Value) (k : KeyT) (w : World) (h : Absent p w) : Calls Try.prog 46 #[p, kf k] w fun e w' => ∃ Z : Array Value, e = .returned (.tuple #[.agg Z, .bool false]) ∧ (Z.size = 38 ∧ (Try.prog.info? 75).map (·.zero) = some (some (.agg Z))) ∧ Below w.heap.size w w' := by
  obtain ⟨Z, hZ, hZs⟩ := zero_job
  have HZ := hide hZ
  have HZs := hide hZs
  have HBd := hide (built_zero hZ)
  obtain ⟨W0, hW0⟩ : ∃ W0, W0 = w.alloc (.cells #[c32 k.1, c32 k.2] 68) := ⟨_, rfl⟩
  have hs0 : W0.heap.size = w.heap.size + 1 := by rw [hW0]; simp
  obtain ⟨W1, hW1⟩ : ∃ W1, W1 = W0.alloc (.cells Z 75) := ⟨_, rfl⟩
  have hb0 : Below w.heap.size w W1 := by rw [hW1, hW0]; exact ((Below.refl _ _).alloc (Nat.le_refl _) _).alloc (by simp) _
  have hq0 : Blk W1 w.heap.size 68 #[c32 k.1, c32 k.2] := by rw [hW1, hW0]; exact (Blk.new w _ _).alloc _
  have hr0 : Blk W1 (w.heap.size + 1) 75 Z := by rw [hW1, ← hs0]; exact Blk.new W0 _ _
  have q0 : W1.cell? ⟨w.heap.size, 0, none⟩ = some (c32 k.1) := (hq0.cell 0).trans rfl
  have q1 : W1.cell? ⟨w.heap.size, 1, none⟩ = some (c32 k.2) := (hq0.cell 1).trans rfl
  have HA := hide (jat_absent p k W1 (h.later hb0))
  have HB := hide hb0
  have HR0 := hide hr0
  have HS0 := hide hs0
  have HZi : Hid ((Try.prog.info? 75).map (·.size) = some Z.size) := hide (by rw [hZs]; exact info_job)
  have HZo : Hid (Z.all (·.oneCell') = true) := hide (by
    obtain ⟨Z', hZ', _⟩ : ∃ Z' : Array Value, (Try.prog.info? 75).map (·.zero) = some (some (.agg Z')) ∧ Z'.all (·.oneCell') = true := ⟨((List.replicate 2 (c32 0)) ++ (List.replicate 32 (c8 0)) ++ [c32 0, c32 0, ci 0, .slice none 0 0]).toArray, by kernel_rfl, (by first | kernel_rfl | (simp [Value.oneCell', List.replicate]; done) | (rw [Array.all_eq_true_iff_forall_mem]; intro u hu; simp [List.replicate] at hu; rcases hu with rfl | rfl | rfl | rfl <;> rfl))⟩
    rw [hZ] at hZ'
    injection hZ' with e; injection e with e; injection e with e
    rw [e]; assumption)
  clear hq0 hr0 hb0 hs0 hZ hZs h
  replace hW0 := hide hW0.symm
  replace hW1 := hide hW1.symm
  unfold kf at HA ⊢
  go_enter Try.func46, Try.ntmps46
  go_wp2_with (first
    | (rw [hW0.out]; refine wpList_alloc_is rfl 75 rfl Z HZ.out ?_; rw [hW1.out, HS0.out])
    | (go_at_call 86; (with_reducible refine HA.out.mono ?_); rintro e w1 ⟨rfl, hb1⟩; have HB1 := hide (below_next HB.out hb1); have HR1 := hide (HR0.out.below hb1 HR0.out.lt); clear hb1)
    | ((with_reducible show wpList _ _ _ (⟨_, .build 75 _, _, _, _, _⟩ :: _) _ _); refine wpList_build_is rfl 75 _ rfl Z HBd.out ?_)
    | ((with_reducible show wpList _ _ _ (⟨_, .store 75 _ _, _, _, _, _⟩ :: _) _ _); refine wpList_store_row rfl 75 _ _ rfl (w.heap.size + 1) rfl Z rfl 75 _ HR1.out HZi.out rfl HZo.out ?_)
    | fail)
  refine bodyPost_ret (v := .tuple #[.agg Z, .bool false]) ?_ rfl ⟨Z, rfl, ⟨HZs.out, HZ.out⟩, below_setRow HB1.out (Nat.le_succ _) _⟩
  refine Eq.trans (results_cell_row_tmp rfl _ _ (w.heap.size + 1) 75 Z (0, 0) _ rfl (setRow_heap _ _ _ _ _ _ HR1.out) Try.underlying75 rfl HZi.out) rfl
end Go.Proofs.Ytccpkafmbmkmfaa
