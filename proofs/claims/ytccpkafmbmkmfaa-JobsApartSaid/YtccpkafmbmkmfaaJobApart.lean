/- Words for JobsApart: a job built of another one's fields; two payloads that grow side by side; a payload whose bytes are written. No condition. -/
import Derived.Test.YtccpkafmbmkmfaaJobPlain
namespace Go.Proofs.Ytccpkafmbmkmfaa
open Go.RowKit Go.Shelf
set_option linter.unusedVariables false
set_option linter.unusedSimpArgs false

theorem places_job : ∃ fs, Try.prog.underlying 75 = some (.struct fs) ∧ fs.toList.mapM (fun f => (Try.prog.info? f.type).map fun i => (f.offset, i.size)) = some [(0, 2), (2, 32), (34, 1), (35, 1), (36, 1), (37, 1)] := ⟨_, Try.underlying75, by kernel_rfl⟩
theorem zero_job_pay : ∃ Z : Array Value, (Try.prog.info? 75).map (·.zero) = some (some (.agg Z)) ∧ Z.size = 38 ∧ Z[37]? = some (.slice none 0 0) := ⟨((List.replicate 2 (c32 0)) ++ (List.replicate 32 (c8 0)) ++ [c32 0, c32 0, ci 0, .slice none 0 0]).toArray, by kernel_rfl, rfl, rfl⟩
theorem built_job (j : JobM) (hj : j.breach.length = 32) : Try.prog.built 75 [(0, .agg #[c32 j.ses, c32 j.seq]), (1, .agg (j.breach.map c8).toArray), (2, c32 j.height), (3, c32 j.mined), (4, ci j.live)] = some (jobCells j (.slice none 0 0)).toArray := by
  obtain ⟨Z, hZ, hZs, hZ37⟩ := zero_job_pay
  obtain ⟨fs, hu, hp⟩ := places_job
  obtain ⟨it, hit, hz⟩ : ∃ it, Try.prog.info? 75 = some it ∧ it.zero = some (.agg Z) := by simpa [Option.map_eq_some_iff] using hZ
  unfold Program.built
  simp only [hit, hu, hz, hp]
  let pl : Nat → Option (Nat × Nat) := fun i => [(0, 2), (2, 32), (34, 1), (35, 1), (36, 1), (37, 1)].toArray[i]?
  have hb : (Value.agg (j.breach.map c8).toArray).cells.size = 32 := by simp [Value.cells, hj]
  obtain ⟨c1, e1, s1, k1⟩ := fill_step (place := pl) (cells := Z) (rest := [(1, .agg (j.breach.map c8).toArray), (2, c32 j.height), (3, c32 j.mined), (4, ci j.live)]) (i := 0) (off := 0) (v := .agg #[c32 j.ses, c32 j.seq]) rfl (by simp [Value.cells, hZs])
  obtain ⟨c2, e2, s2, k2⟩ := fill_step (place := pl) (cells := c1) (rest := [(2, c32 j.height), (3, c32 j.mined), (4, ci j.live)]) (i := 1) (off := 2) (v := .agg (j.breach.map c8).toArray) (by rw [hb]; rfl) (by rw [hb, s1, hZs]; omega)
  obtain ⟨c3, e3, s3, k3⟩ := fill_step (place := pl) (cells := c2) (rest := [(3, c32 j.mined), (4, ci j.live)]) (i := 2) (off := 34) (v := c32 j.height) rfl (by rw [s2, s1, hZs]; simp [Value.cells, c32])
  obtain ⟨c4, e4, s4, k4⟩ := fill_step (place := pl) (cells := c3) (rest := [(4, ci j.live)]) (i := 3) (off := 35) (v := c32 j.mined) rfl (by rw [s3, s2, s1, hZs]; simp [Value.cells, c32])
  obtain ⟨c5, e5, s5, k5⟩ := fill_step (place := pl) (cells := c4) (rest := []) (i := 4) (off := 36) (v := ci j.live) rfl (by rw [s4, s3, s2, s1, hZs]; simp [Value.cells, ci])
  refine e1.trans (e2.trans (e3.trans (e4.trans (e5.trans ?_))))
  simp only [Instr.fill, Option.some.injEq]
  apply Array.ext_getElem?
  intro k
  have z1 : (c32 j.height).cells = #[c32 j.height] := rfl
  have z2 : (c32 j.mined).cells = #[c32 j.mined] := rfl
  have z3 : (ci j.live).cells = #[ci j.live] := rfl
  have z4 : (Value.agg (j.breach.map c8).toArray).cells = (j.breach.map c8).toArray := rfl
  have z5 : (Value.agg #[c32 j.ses, c32 j.seq]).cells = #[c32 j.ses, c32 j.seq] := rfl
  rw [z5] at k1
  rw [z4] at k2
  rw [z1] at k3
  rw [z2] at k4
  rw [z3] at k5
  simp only [List.size_toArray, List.length_map, hj, List.length_cons, List.length_nil] at k1 k2 k3 k4 k5
  rw [k5 k, List.getElem?_toArray]
  unfold jobCells jobHead
  rcases (by omega : k < 2 ∨ (2 ≤ k ∧ k < 34) ∨ k = 34 ∨ k = 35 ∨ k = 36 ∨ k = 37 ∨ 38 ≤ k) with h | ⟨h, h'⟩ | rfl | rfl | rfl | rfl | h
  · rw [if_neg (by omega), k4 k, if_neg (by omega), k3 k, if_neg (by omega), k2 k, if_neg (by omega), k1 k, if_pos ⟨Nat.zero_le _, by omega⟩]
    rcases (by omega : k = 0 ∨ k = 1) with rfl | rfl <;> rfl
  · rw [if_neg (by omega), k4 k, if_neg (by omega), k3 k, if_neg (by omega), k2 k, if_pos ⟨h, by omega⟩]
    rw [List.getElem?_toArray, List.getElem?_toArray, List.append_assoc, List.getElem?_append_right (by simpa using h), List.append_assoc, List.getElem?_append_left (by simp [hj]; omega)]
    rfl
  · rw [if_neg (by omega), k4, if_neg (by omega), k3, if_pos ⟨by omega, by omega⟩]
    simp [List.getElem?_append, hj]
  · rw [if_neg (by omega), k4, if_pos ⟨by omega, by omega⟩]
    simp [List.getElem?_append, hj]
  · rw [if_pos ⟨by omega, by omega⟩]
    simp [List.getElem?_append, hj]
  · rw [if_neg (by omega), k4, if_neg (by omega), k3, if_neg (by omega), k2, if_neg (by omega), k1, if_neg (by omega), hZ37]
    simp [List.getElem?_append, hj]
  · rw [if_neg (by omega), k4, if_neg (by omega), k3, if_neg (by omega), k2, if_neg (by omega), k1, if_neg (by omega), Array.getElem?_eq_none (by omega), List.getElem?_toArray, List.getElem?_eq_none (by simp [hj]; omega)]
/-- a payload of one's own, of blocks in S -/
structure PayIn (w1 W : World) (S : Nat → Prop) (v : Value) (K : List TierK) : Prop where
  own : OwnPay w1 W v K
  row : ∀ r, v.ownBlock = some r → S r
  txs : ∀ p ∈ K, ∀ r, p.2.1.ownBlock = some r → S r
theorem PayIn.keep {w1 W W' : World} {S : Nat → Prop} {v : Value} {K : List TierK} (h : PayIn w1 W S v K) (hk : ∀ i, i < W.heap.size → S i → W'.heap[i]? = W.heap[i]?) : PayIn w1 W' S v K :=
  ⟨⟨own_block h.own.own fun r hr => hk r (own_lt h.own.own hr).2 (h.row r hr), fun p hp => own_block (h.own.txs p hp) fun r hr => hk r (own_lt (h.own.txs p hp) hr).2 (h.txs p hp r hr)⟩, h.row, h.txs⟩
theorem PayIn.mono {w1 W : World} {S S' : Nat → Prop} {v : Value} {K : List TierK} (h : PayIn w1 W S v K) (hS : ∀ i, S i → S' i) : PayIn w1 W S' v K := ⟨h.own, fun r hr => hS r (h.row r hr), fun p hp r hr => hS r (h.txs p hp r hr)⟩
theorem PayIn.pay {w1 W : World} {S : Nat → Prop} {v : Value} {K : List TierK} (h : PayIn w1 W S v K) : PayAt W S v K := by
  obtain ⟨A, c, rfl⟩ := own_slice h.own.own
  refine ⟨A, c, rfl, own_cap h.own.own, (ReadsS.of_own h.own.own).mono fun i _ hi => h.row i hi, fun p hp => ?_⟩
  have ho := h.own.txs p hp
  obtain ⟨A', c', e⟩ := own_slice ho
  have hx := h.txs p hp
  rw [e] at ho hx ⊢
  exact ⟨A', c', rfl, (ReadsS.of_own ho).mono fun i _ hi => hx i hi, own_cap ho⟩
/-- TWO JOBS WHOSE PAYLOADS GROW SIDE BY SIDE in the boxes bx and by_ -/
structure Two (w0 w1 W : World) (bi bx by_ : Nat) (R : Array Value) (j : JobM) (vx : Value) (KX : List TierK) (kx : Nat) (vy : Value) (KY : List TierK) (ky : Nat) (L : List TierV) : Prop where
  below : Below w0.heap.size w0 W
  le1 : w1.heap.size ≤ W.heap.size
  inp : Blk W bi 75 R
  bX : ∃ RX, JobVal j vx RX ∧ Blk W bx 75 RX
  bY : ∃ RY, JobVal j vy RY ∧ Blk W by_ 75 RY
  ne : bx ≠ by_ ∧ bi ≠ bx ∧ bi ≠ by_
  lo : w0.heap.size ≤ bx ∧ w0.heap.size ≤ by_ ∧ w0.heap.size ≤ w1.heap.size
  hi : bx < w1.heap.size ∧ by_ < w1.heap.size
  sets : ∃ SX SY : Nat → Prop, (∀ i, SX i → w1.heap.size ≤ i ∧ i < W.heap.size) ∧ (∀ i, SY i → w1.heap.size ≤ i ∧ i < W.heap.size) ∧ (∀ i, SX i → SY i → False) ∧ PayIn w1 W SX vx KX ∧ PayIn w1 W SY vy KY
  plX : plainT KX = L.take kx
  plY : plainT KY = L.take ky
section
variable {w0 w1 W W' : World} {bi bx by_ : Nat} {R : Array Value} {j : JobM} {vx vy : Value} {KX KY : List TierK} {kx ky : Nat} {L : List TierV}
theorem Two.swap (h : Two w0 w1 W bi bx by_ R j vx KX kx vy KY ky L) : Two w0 w1 W bi by_ bx R j vy KY ky vx KX kx L := by
  obtain ⟨SX, SY, s1, s2, s3, p1, p2⟩ := h.sets
  exact ⟨h.below, h.le1, h.inp, h.bY, h.bX, ⟨fun e => h.ne.1 e.symm, h.ne.2.2, h.ne.2.1⟩, ⟨h.lo.2.1, h.lo.1, h.lo.2.2⟩, ⟨h.hi.2, h.hi.1⟩, ⟨SY, SX, s2, s1, fun i a b => s3 i b a, p2, p1⟩, h.plY, h.plX⟩
theorem Two.next (h : Two w0 w1 W bi bx by_ R j vx KX kx vy KY ky L) (hb : Below W.heap.size W W') : Two w0 w1 W' bi bx by_ R j vx KX kx vy KY ky L := by
  obtain ⟨SX, SY, s1, s2, s3, p1, p2⟩ := h.sets
  obtain ⟨RX, x1, x2⟩ := h.bX
  obtain ⟨RY, y1, y2⟩ := h.bY
  exact ⟨below_next h.below hb, Nat.le_trans h.le1 hb.size, h.inp.below hb h.inp.lt, ⟨RX, x1, x2.below hb x2.lt⟩, ⟨RY, y1, y2.below hb y2.lt⟩, h.ne, h.lo, h.hi, ⟨SX, SY, fun i hi => ⟨(s1 i hi).1, Nat.lt_of_lt_of_le (s1 i hi).2 hb.size⟩, fun i hi => ⟨(s2 i hi).1, Nat.lt_of_lt_of_le (s2 i hi).2 hb.size⟩, s3, p1.keep fun i hi _ => hb.block i hi, p2.keep fun i hi _ => hb.block i hi⟩, h.plX, h.plY⟩
/-- one more tier on the first side -/
theorem Two.step (h : Two w0 w1 W bi bx by_ R j vx KX kx vy KY ky L) (hj : j.breach.length = 32) {fee : BitVec 32} {bs : List (BitVec 8)} (hL : L[kx]? = some (fee, bs)) {u : Value} (hI : W.grownBy W' vx.ownBlock) (hC : TierAdded w1 W KX fee bs vx.ownBlock u W') :
    ∃ y, Two w0 w1 (W'.setCell ⟨bx, 37, none⟩ u) bi bx by_ R j u (KX ++ [(fee, (y, bs))]) (kx + 1) vy KY ky L := by
  obtain ⟨SX, SY, s1, s2, s3, p1, p2⟩ := h.sets
  obtain ⟨RX, x1, x2⟩ := h.bX
  obtain ⟨RY, y1, y2⟩ := h.bY
  obtain ⟨y, ho, hx, hat⟩ := hC
  have hrow : ∀ r, vx.ownBlock = some r → SX r ∧ r < W.heap.size ∧ w1.heap.size ≤ r := fun r hr => ⟨p1.row r hr, (own_lt p1.own.own hr).2, (own_lt p1.own.own hr).1⟩
  have hnr : ∀ g cs, Blk W g 75 cs → some g ≠ vx.ownBlock := fun g cs hg e => own_blk_ne p1.own.own hg (by decide) e.symm
  have hg0 : ∀ i, i < W.heap.size → some i ≠ vx.ownBlock → i ≠ bx → (W'.setCell ⟨bx, 37, none⟩ u).heap[i]? = W.heap[i]? := fun i hi hr hb => (Below.heap_setCell _ _ _ _ hb).trans (hI.block i hi hr)
  have hbx' : Blk W' bx 75 RX := (hI.block _ x2.lt (hnr _ _ x2)).trans x2
  have hnb : ∀ g cs e, Blk W' g e cs → e ≠ 75 → g ≠ bx := fun g cs e hg hne => hg.ne_ hbx' hne
  have hown : (W'.setCell ⟨bx, 37, none⟩ u).ownsRow w1.heap.size 80 2 u (KX.length + 1) (tierCells (KX ++ [(fee, (y, bs))])) := own_block ho fun r hr => Below.heap_setCell _ _ _ _ (fun e => own_blk_ne ho hbx' (by decide) (by rw [hr, e]))
  have htx : ∀ p ∈ KX ++ [(fee, (y, bs))], W'.ownsRow w1.heap.size 5 1 p.2.1 p.2.2.length (p.2.2.map c8) := fun p hp => by
    rcases List.mem_append.1 hp with hp | hp
    · have h1 := p1.own.txs p hp
      exact own_block h1 fun r hr => hI.block r (own_lt h1 hr).2 (fun e => own_own_ne h1 p1.own.own (by decide) hr e.symm)
    · simp only [List.mem_singleton] at hp
      subst hp
      exact own_less hx h.le1
  have hu1 : u.oneCell' = true := by obtain ⟨A, c, rfl⟩ := own_slice ho; rfl
  refine ⟨y, ?_, ?_, ?_, ⟨_, x1.to hj hu1, hbx'.set_ 37 u⟩, ⟨RY, y1, (hg0 _ y2.lt (hnr _ _ y2) (fun e => h.ne.1 e.symm)).trans y2⟩, h.ne, h.lo, h.hi, ⟨fun i => SX i ∨ (W.heap.size ≤ i ∧ i < W'.heap.size), SY, ?_, ?_, ?_, ⟨⟨?_, ?_⟩, ?_, ?_⟩, ?_⟩, ?_, h.plY⟩
  · have hb := h.below.grown hI h.below.size (fun g e => Nat.le_trans h.lo.2.2 (hrow g e).2.2)
    exact hb.setCell (p := ⟨bx, 37, none⟩) h.lo.1 _
  · simp; exact Nat.le_trans h.le1 hI.size
  · exact (hg0 _ h.inp.lt (hnr _ _ h.inp) h.ne.2.1).trans h.inp
  · rintro i (hi | hi)
    · exact ⟨(s1 i hi).1, by simp; exact Nat.lt_of_lt_of_le (s1 i hi).2 hI.size⟩
    · exact ⟨Nat.le_trans h.le1 hi.1, by simp; exact hi.2⟩
  · intro i hi; exact ⟨(s2 i hi).1, by simp; exact Nat.lt_of_lt_of_le (s2 i hi).2 hI.size⟩
  · rintro i (hi | hi) h2
    · exact s3 i hi h2
    · have := (s2 i h2).2; omega
  · simpa using hown
  · intro p hp
    have h1 := htx p hp
    exact own_block h1 fun r hr => Below.heap_setCell _ _ _ _ (fun e => own_blk_ne h1 hbx' (by decide) (by rw [hr, e]))
  · intro r hr
    rcases hat with e | ⟨r', e, hr'⟩
    · exact .inl (p1.row r (by rw [← e]; exact hr))
    · have hlt := (own_lt ho hr).2
      rw [e] at hr; injection hr with hr; subst hr
      exact .inr ⟨hr', hlt⟩
  · intro p hp r hr
    rcases List.mem_append.1 hp with hp | hp
    · exact .inl (p1.txs p hp r hr)
    · simp only [List.mem_singleton] at hp
      subst hp
      exact .inr (own_lt hx hr)
  · exact p2.keep fun i hi hs => hg0 i hi (fun e => s3 i (p1.row i e.symm) hs) (fun e => by have h1 := (s2 i hs).1; have h2 := h.hi.1; omega)
  · have hl := h.plX
    rw [List.take_add_one, hL, ← hl]
    simp [plainT]
end
/-- n tiers in block g, each of at least one byte; all in blocks of S; whatever they hold -/
def Shape (w : World) (S : Nat → Prop) (g n : Nat) : Prop := ∃ cs, S g ∧ Blk w g 80 cs ∧ ∀ i, i < n → ∃ (f : BitVec 32) (r m c : Nat) (cs' : Array Value) (b : BitVec 8),
  cs[i * 2]? = some (c32 f) ∧ cs[i * 2 + 1]? = some (.slice (some ⟨r, 0, none⟩) m c) ∧ 1 ≤ m ∧ S r ∧ Blk w r 5 cs' ∧ cs'[0]? = some (c8 b)
section
variable {w w' w1 : World} {S S' : Nat → Prop} {g n : Nat}
theorem Shape.of_pay {v : Value} {K : List TierK} (h : PayIn w1 w S v K) (hn : 0 < K.length) (hb : ∀ p ∈ K, 1 ≤ p.2.2.length) : ∃ g c, v = .slice (some ⟨g, 0, none⟩) K.length c ∧ Shape w S g K.length := by
  rcases h.own.own.2 with ⟨_, h0⟩ | ⟨g, cap, cur, rfl, _, hg, _, _, _, htk⟩
  · omega
  · refine ⟨g, cap, rfl, cur, h.row g rfl, hg, fun i hi => ?_⟩
    have hget : ∀ j u, j < K.length * 2 → (tierCells K)[j]? = some u → cur[j]? = some u := fun j u hj hu => by
      rw [← htk, List.getElem?_take, if_pos hj] at hu
      simpa using hu
    obtain ⟨t1, t2⟩ := tierCells_get K i hi
    have hm := List.getElem_mem hi
    have ho := h.own.txs _ hm
    have hl := hb _ hm
    have hS := h.txs _ hm
    rcases ho.2 with ⟨_, h0⟩ | ⟨r, cap', cur', e, _, hr, _, _, _, htk'⟩
    · omega
    · rw [e] at t2 hS
      have h0 : cur'[0]? = some (c8 (K[i].2.2[0]'(by omega))) := by
        have : (cur'.toList.take (K[i].2.2.length * 1))[0]? = some (c8 (K[i].2.2[0]'(by omega))) := by rw [htk', List.getElem?_map, List.getElem?_eq_getElem (by omega)]; rfl
        rw [List.getElem?_take, if_pos (by omega)] at this
        simpa using this
      exact ⟨_, r, _, cap', cur', _, hget _ _ (by omega) t1, hget _ _ (by omega) t2, hl, hS r rfl, hr, h0⟩
theorem Shape.keep (h : Shape w S g n) (hk : ∀ i, i < w.heap.size → S i → w'.heap[i]? = w.heap[i]?) : Shape w' S g n := by
  obtain ⟨cs, h1, h2, h3⟩ := h
  refine ⟨cs, h1, (hk g h2.lt h1).trans h2, fun i hi => ?_⟩
  obtain ⟨f, r, m, c, cs', b, a1, a2, a3, a4, a5, a6⟩ := h3 i hi
  exact ⟨f, r, m, c, cs', b, a1, a2, a3, a4, (hk r a5.lt a4).trans a5, a6⟩
theorem Shape.in_ (h : Shape w S g n) : S g ∧ g < w.heap.size := by
  obtain ⟨cs, h1, h2, _⟩ := h; exact ⟨h1, h2.lt⟩
theorem Shape.ne_job (h : Shape w S g n) {bx : Nat} {cs : Array Value} (hb : Blk w bx 75 cs) : g ≠ bx := by
  obtain ⟨_, _, h2, _⟩ := h; exact h2.ne_ hb (by decide)
/-- the k-th tier -/
theorem Shape.at_ (h : Shape w S g n) {k : Nat} (hk : k < n) : ∃ (f : BitVec 32) (r m c : Nat) (b : BitVec 8),
    w.cell? ⟨g, k * 2, none⟩ = some (c32 f) ∧ w.cell? ⟨g, k * 2 + 1, none⟩ = some (.slice (some ⟨r, 0, none⟩) m c) ∧ 1 ≤ m ∧ S r ∧ w.cell? ⟨r, 0, none⟩ = some (c8 b) ∧ w.frozen? ⟨r, 0, none⟩ = false ∧ w.frozen? ⟨g, k * 2, none⟩ = false ∧ r < w.heap.size ∧
    (∀ b' : BitVec 8, Shape (w.setCell ⟨r, 0, none⟩ (c8 b')) S g n) ∧ (∀ f' : BitVec 32, Shape (w.setCell ⟨g, k * 2, none⟩ (c32 f')) S g n) ∧ (∀ bx cs, Blk w bx 75 cs → r ≠ bx) := by
  obtain ⟨cs, h1, h2, h3⟩ := h
  obtain ⟨f, r, m, c, cs', b, a1, a2, a3, a4, a5, a6⟩ := h3 k hk
  refine ⟨f, r, m, c, b, (h2.cell _).trans a1, (h2.cell _).trans a2, a3, a4, (a5.cell 0).trans a6, a5.frozen 0, h2.frozen _, a5.lt, fun b' => ?_, fun f' => ?_, fun bx cs hb => a5.ne_ hb (by decide)⟩
  · refine ⟨cs, h1, h2.far (h2.ne_ a5 (by decide)) _, fun i hi => ?_⟩
    obtain ⟨f, r', m, c, cs2, b, q1, q2, q3, q4, q5, q6⟩ := h3 i hi
    by_cases e : r' = r
    · subst e
      have hsz : 0 < cs2.size := (Array.getElem?_eq_some_iff.1 q6).1
      exact ⟨f, r', m, c, _, b', q1, q2, q3, q4, q5.set_ 0 _, by simp [hsz]⟩
    · exact ⟨f, r', m, c, cs2, b, q1, q2, q3, q4, q5.far e _, q6⟩
  · have hsz : k * 2 < cs.size := (Array.getElem?_eq_some_iff.1 a1).1
    refine ⟨_, h1, h2.set_ (k * 2) (c32 f'), fun i hi => ?_⟩
    obtain ⟨f, r', m, c, cs2, b, q1, q2, q3, q4, q5, q6⟩ := h3 i hi
    have hr : Blk (w.setCell ⟨g, k * 2, none⟩ (c32 f')) r' 5 cs2 := q5.far (fun e => by have := q5.ne_ h2 (by decide); exact this e) _
    by_cases e : i = k
    · subst e
      exact ⟨f', r', m, c, cs2, b, by simp [hsz], by rw [Array.getElem?_setIfInBounds_ne (by omega)]; exact q2, q3, q4, hr, q6⟩
    · exact ⟨f, r', m, c, cs2, b, by rw [Array.getElem?_setIfInBounds_ne (by omega)]; exact q1, by rw [Array.getElem?_setIfInBounds_ne (by omega)]; exact q2, q3, q4, hr, q6⟩
end
theorem info_u8full : (Try.prog.info? 5).map (fun i => (i.zero, i.size, i.bytes)) = some (some (.int .u8 0), 1, 1) := by kernel_rfl
theorem run_build_bytes0 (w : World) : (Instr.buildSlice 78 0 #[]).run Try.prog w = .ok (.slice (some ⟨w.heap.size, 0, none⟩) 0 0) (w.alloc (.cells #[] 5)) := by
  obtain ⟨i, hi, hz0, hz1, hz2⟩ := info_parts info_u8full
  simp [Instr.buildSlice, run_underlying Try.underlying78, sizeOf, typeInfo, hi, hz1, Instr.fill, newRow]
  rw [show Array.map (fun x : Nat => (default : Value)) (Array.range 0) = #[] from Array.eq_empty_of_size_eq_zero (by simp)]
theorem gives_build_bytes0 {o : Oper} {a : Act} {w : World} {X : Value → World → Prop} (ho : o.op = .buildSlice 78 0 #[])
    (h : X (.slice (some ⟨w.heap.size, 0, none⟩) 0 0) (w.alloc (.cells #[] 5))) : Gives Try.prog o a w X := by
  unfold Gives execOp
  simp only [ho, Sem.run_bind, List.map_toArray, List.map_nil, run_build_bytes0 w, Result.andThen_ok, givesUpon]
  exact h
theorem own_bytes0 {w : World} {r base : Nat} (hr : base ≤ r) (h : Blk w r 5 #[]) : w.ownsRow base 5 1 (.slice (some ⟨r, 0, none⟩) 0 0) 0 [] :=
  ⟨rfl, .inr ⟨r, 0, #[], rfl, hr, h, Nat.le_refl _, by decide, by simp, rfl⟩⟩
def EmptyOf (u : Value) : Prop := ∃ r, u = .slice (some ⟨r, 0, none⟩) 0 0
def EmptyNew (w1 : World) (u : Value) (W : World) : Prop := ∃ r, u = .slice (some ⟨r, 0, none⟩) 0 0 ∧ w1.heap.size ≤ r ∧ Blk W r 5 #[] ∧ w1.grownBy W none
/-- three payloads that are written, and what is kept meanwhile -/
structure L2I (w9 W : World) (SW SX SL : Nat → Prop) (gW gX gL n bl : Nat) (csL : Array Value) : Prop where
  touch : Touch (fun i => SW i ∨ SX i ∨ SL i) w9 W
  shW : Shape W SW gW n
  shX : Shape W SX gX n
  shL : Shape W SL gL n
  box : Blk W bl 75 csL
  dWX : ∀ i, SW i → SX i → False
  dWL : ∀ i, SW i → SL i → False
  dXL : ∀ i, SX i → SL i → False
section
variable {w9 W : World} {SW SX SL : Nat → Prop} {gW gX gL n bl : Nat} {csL : Array Value} {p : Addr} {u : Value}
theorem L2I.writeW (h : L2I w9 W SW SX SL gW gX gL n bl csL) (hp : SW p.block) (hs : Shape (W.setCell p u) SW gW n) (hb : bl ≠ p.block) : L2I w9 (W.setCell p u) SW SX SL gW gX gL n bl csL :=
  ⟨h.touch.setCell (.inl hp) u, hs, h.shX.keep fun i _ hi => Below.heap_setCell _ _ _ _ (fun e => h.dWX i (e ▸ hp) hi), h.shL.keep fun i _ hi => Below.heap_setCell _ _ _ _ (fun e => h.dWL i (e ▸ hp) hi), h.box.far hb u, h.dWX, h.dWL, h.dXL⟩
theorem L2I.writeX (h : L2I w9 W SW SX SL gW gX gL n bl csL) (hp : SX p.block) (hs : Shape (W.setCell p u) SX gX n) (hb : bl ≠ p.block) : L2I w9 (W.setCell p u) SW SX SL gW gX gL n bl csL :=
  ⟨h.touch.setCell (.inr (.inl hp)) u, h.shW.keep fun i _ hi => Below.heap_setCell _ _ _ _ (fun e => h.dWX i hi (e ▸ hp)), hs, h.shL.keep fun i _ hi => Below.heap_setCell _ _ _ _ (fun e => h.dXL i (e ▸ hp) hi), h.box.far hb u, h.dWX, h.dWL, h.dXL⟩
theorem L2I.writeL (h : L2I w9 W SW SX SL gW gX gL n bl csL) (hp : SL p.block) (hs : Shape (W.setCell p u) SL gL n) (hb : bl ≠ p.block) : L2I w9 (W.setCell p u) SW SX SL gW gX gL n bl csL :=
  ⟨h.touch.setCell (.inr (.inr hp)) u, h.shW.keep fun i _ hi => Below.heap_setCell _ _ _ _ (fun e => h.dWL i hi (e ▸ hp)), h.shX.keep fun i _ hi => Below.heap_setCell _ _ _ _ (fun e => h.dXL i hi (e ▸ hp)), hs, h.box.far hb u, h.dWX, h.dWL, h.dXL⟩
end
theorem bump8 (b : BitVec 8) : (Value.int .u8 (((b.toNat : Int) + 1) % 256)) = c8 (b + 1) := by
  have := wrap8 b
  unfold c8
  rw [← this]; simp [IntKind.wrap, IntKind.signed, IntKind.bits]
theorem bump32 (b : BitVec 32) : (Value.int .u32 (((b.toNat : Int) + 1) % 4294967296)) = c32 (b + 1) := by
  have hb := b.isLt
  unfold c32
  rw [show (b + 1).toNat = (b.toNat + 1) % 4294967296 by simp [BitVec.toNat_add]]
  congr 1
theorem OwnPay.in_ {w1 W : World} {v : Value} {K : List TierK} (h : OwnPay w1 W v K) : PayIn w1 W (fun i => w1.heap.size ≤ i ∧ i < W.heap.size) v K :=
  ⟨h, fun r hr => own_lt h.own hr, fun p hp r hr => own_lt (h.txs p hp) hr⟩
theorem pos_of_plain {K T : List TierK} (h : plainT K = plainT T) (hT : ∀ p ∈ T, 1 ≤ p.2.2.length) : ∀ p ∈ K, 1 ≤ p.2.2.length := fun p hp => by
  have : (p.1, p.2.2) ∈ plainT K := List.mem_map.2 ⟨p, hp, rfl⟩
  rw [h] at this
  obtain ⟨q, hq, e⟩ := List.mem_map.1 this
  have := hT q hq
  injection e with _ e2
  rw [← e2]; exact this
theorem len_of_plain {K T : List TierK} (h : plainT K = plainT T) : K.length = T.length := by have := congrArg List.length h; simpa [plainT] using this
/-- one job of one's own -/
theorem own_job1 {w0 w : World} {v : Value} {j : JobM} {vl : Value} {Kl : List TierK} (hj : j.breach.length = 32) (h : OwnJobs w0 w v [(j, vl, Kl)]) : ∃ g c cs, v = .slice (some ⟨g, 0, none⟩) 1 c ∧ Blk w g 75 cs ∧ cs[37]? = some vl ∧ w0.heap.size ≤ g := by
  rcases h.own.2 with ⟨_, h0⟩ | ⟨g, cap, cur, e, hb, hg, _, _, _, htk⟩
  · simp at h0
  · refine ⟨g, cap, cur, e, hg, ?_, hb⟩
    have hc : (jobsC [(j, vl, Kl)])[37]? = some vl := by
      have := (job_get hj vl).2.2.2.2.2
      simpa [jobsC] using this
    rw [← htk, List.getElem?_take, if_pos (by simp)] at hc
    simpa using hc
theorem L2I.next {w9 W W' : World} {SW SX SL : Nat → Prop} {gW gX gL n bl : Nat} {csL : Array Value} (h : L2I w9 W SW SX SL gW gX gL n bl csL) (hb : Below W.heap.size W W') : L2I w9 W' SW SX SL gW gX gL n bl csL :=
  ⟨h.touch.then_below hb, h.shW.keep fun i hi _ => hb.block i hi, h.shX.keep fun i hi _ => hb.block i hi, h.shL.keep fun i hi _ => hb.block i hi, h.box.below hb h.box.lt, h.dWX, h.dWL, h.dXL⟩
end Go.Proofs.Ytccpkafmbmkmfaa
