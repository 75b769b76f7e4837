/- The walk of miradorlaw05.BoxOnce. No condition. -/
import Derived.Test.YtdeljodfanfbmaaBoxNilWalk
namespace Go.Proofs.Ytdeljodfanfbmaa
open Go.RowKit Go.Shelf
set_option linter.unusedVariables false
set_option linter.unusedSimpArgs false
attribute [local go_sem] Oper.semAt_some

theorem IsBox.far {w : World} {g : Nat} (h : IsBox w g) {p : Addr} (hp : g ≠ p.block) (u : Value) : IsBox (w.setCell p u) g := by
  obtain ⟨cs, h1, h2⟩ := h
  exact ⟨cs, h1.far hp u, h2⟩
theorem IsBox.grown {w w' : World} {g : Nat} {row : Option Nat} (h : IsBox w g) (hb : w.grownBy w' row) (hg : some g ≠ row) : IsBox w' g := by
  obtain ⟨cs, h1, h2⟩ := h
  exact ⟨cs, h1.grown hb hg, h2⟩
theorem IsBox.alloc {w : World} {g : Nat} (h : IsBox w g) (o : Obj) : IsBox (w.alloc o) g := by
  obtain ⟨cs, h1, h2⟩ := h
  exact ⟨cs, h1.alloc o, h2⟩
/-- which substitutes have been seen -/
def SeenAt (pre : List Byte) (ss : Array Value) : Prop := ss.size = 256 ∧ ∀ i, i < 256 → ss[i]? = some (.bool (pre.any fun x => sub x.1 == i))
theorem seenAt_next {pre : List Byte} {ss : Array Value} (h : SeenAt pre ss) (x : Byte) : SeenAt (pre ++ [x]) (ss.setIfInBounds (sub x.1) (.bool true)) := by
  obtain ⟨h1, h2⟩ := h
  refine ⟨by simpa using h1, fun i hi => ?_⟩
  by_cases e : sub x.1 = i
  · subst e; rw [Array.getElem?_setIfInBounds_self_of_lt (by omega)]; simp
  · rw [Array.getElem?_setIfInBounds_ne e, h2 i hi]
    simp [e]
theorem seenAt_new {pre : List Byte} {x : Byte} (h : InBytes pre) (hx : x.1 = pre.length) : (pre.any fun y => sub y.1 == sub x.1) = false := by
  rw [List.any_eq_false]
  intro y hy
  have hm : y.1 ∈ pre.map (·.1) := List.mem_map.2 ⟨y, hy, rfl⟩
  rw [h] at hm
  have hlt : y.1 < pre.length := by simpa using hm
  have hne : sub y.1 ≠ sub x.1 := fun e => by have := sub_inj _ _ y.2 x.2 e; omega
  simpa using hne
theorem info_bool : (Try.prog.info? 4).map (fun i => (i.zero, i.size, i.bytes)) = some (some (.bool false), 1, 1) := by kernel_rfl
theorem made_256 : ∃ M : Array Value, (∀ w : World, (Instr.makeSlice 39 (.int .i64 256) (.int .i64 256)).run Try.prog w = .ok (.slice (some ⟨w.heap.size, 0, none⟩) 256 256) (w.alloc (.cells M 4))) ∧ SeenAt [] M := by
  obtain ⟨i0, hi, hz0, hz1, hz2⟩ := info_parts info_bool
  refine ⟨madeCells (Value.bool false).cells 256, fun w => ?_, ?_⟩
  · have := run_make (P := Try.prog) w 39 4 i0 (.bool false) Try.underlying39 hi hz0 .i64 .i64 256 256 (by omega) (by omega) (by rw [hz2]; decide) (by omega)
    rw [hz1] at this
    exact this
  · refine ⟨by simp [madeCells], fun i hi => ?_⟩
    simp [madeCells, hi, Value.cells, Nat.mod_one]
set_option maxRecDepth 100000 in
set_option maxHeartbeats 1600000 in
theorem boxOnce_in (q : Nat) (hq : q < 65536) (w : World) :
    CallsIn Fence.wide 6 Try.prog 7 #[.int .u16 (q : Int)] w fun e w' => e = .returned (.bool true) ∧ Below w.heap.size w w' := by
  refine callsIn_of_wp_marks Try.func7 rfl trivial ?_ rfl
  simp only [Try.ntmps7, List.size_toArray, List.length_cons, List.length_nil, Nat.reduceAdd, Nat.reduceSub, Array.replicate_succ, Array.replicate_zero, List.push_toArray, List.append_toArray, List.nil_append, List.cons_append]
  refine wpIn_wide.2 ?_
  have SN := box_seq_nil
  obtain ⟨M, hmk, hM⟩ := made_256
  replace hM := hide hM
  go_wp2_with (go_at_call 25; refine (boxnew_any _).mono ?_; rintro e w1 ⟨g, rfl, hg, hb, hB⟩)
  replace hb := hide hb
  replace hB := hide hB
  replace hg := hide hg
  go_wp2_with (go_at_call 33; with_reducible refine (all_any _ _).mono ?_; rintro e w' ⟨rfl, rfl⟩)
  clear SN hmk
  obtain ⟨W0, hW0, sz, b1, b2, b3, b4, b5, hBa⟩ := blks5 w1 31 31 3 4 39 #[.pointer (some ⟨g, 0, none⟩)] #[.pointer (some ⟨g, 0, none⟩)] #[.int .i64 0] M #[.slice (some ⟨w1.heap.size + 1 + 1 + 1, 0, none⟩) 256 256]
  obtain ⟨V0, hV0, szv, a1, a2, hBv⟩ := blks2 w 35 4 #[.int .u16 (q : Int)] #[.bool false]
  rw [hV0] at hB hg
  have hg2 := hg.out
  rw [szv] at hg2
  have HBx := hB.out
  have szw := HBx.size
  rw [szv] at HBx szw
  have hbox : IsBox W0 g := by rw [← hW0]; exact ((((hb.out.alloc _).alloc _).alloc _).alloc _).alloc _
  have c1 : Blk W0 w.heap.size 35 #[.int .u16 (q : Int)] := (a1.below HBx (by omega)).below hBa (by omega)
  have c2 : Blk W0 (w.heap.size + 1) 4 #[.bool false] := (a2.below HBx (by omega)).below hBa (by omega)
  have hB0 : Below w.heap.size w W0 := (hBv.trans (HBx.mono (by omega))).trans (hBa.mono (by omega))
  have hgp : g < w1.heap.size := hb.out.lt
  change Code.wp _ _ _ _ (((((w1.alloc (.cells #[.pointer (some ⟨g, 0, none⟩)] 31)).alloc (.cells #[.pointer (some ⟨g, 0, none⟩)] 31)).alloc (.cells #[.int .i64 0] 3)).alloc (.cells M 4)).alloc (.cells #[.slice (some ⟨w1.heap.size + 1 + 1 + 1, 0, none⟩) 256 256] 39))
  rw [hW0]
  clear hW0 hV0 hb hB hg HBx hBa hBv a1 a2 szv V0
  generalize w1.heap.size = p at *
  refine (wpIn_wide (n := 6)).1 ?_
  refine wpIn_rangeFunc_ownF rfl (by omega) (gf := 57) (lb := #[.pointer (some ⟨p + 1, 0, none⟩)]) rfl trivial (enters_of Try.func57 (by kernel_rfl) rfl)
    (all_stops 5 (by omega) sub (p + 1) g (fun _ _ => True) W0 (by omega) (by omega) ((b2.cell 0).trans rfl) (by obtain ⟨cs, h1, h2⟩ := hbox; exact (h1.cell 0).trans h2.made) (fun i hi => hbox.to i hi))
    (fun _ _ => trivial) (fun _ _ _ _ _ _ _ _ => trivial) (Below.refl _ _) (fun _ => rfl)
    (fun pre W => IsBox W g ∧ Blk W w.heap.size 35 #[.int .u16 (q : Int)] ∧ Blk W (w.heap.size + 1) 4 #[.bool false] ∧ Blk W p 31 #[.pointer (some ⟨g, 0, none⟩)] ∧
      Blk W (p + 2) 3 #[.int .i64 (pre.length : Int)] ∧ (∃ ss, Blk W (p + 3) 4 ss ∧ SeenAt pre ss) ∧ Blk W (p + 4) 39 #[.slice (some ⟨p + 3, 0, none⟩) 256 256] ∧ (InBytes pre ∧ pre.length ≤ q) ∧ Below w.heap.size w W)
    (fun c pre W => (c = .ret ∧ ¬ InBytes pre ∨ c = .exit 0 ∧ q < 256 ∧ Blk W w.heap.size 35 #[.int .u16 (q : Int)] ∧ Blk W (w.heap.size + 1) 4 #[.bool false] ∧ Blk W (p + 2) 3 #[.int .i64 (q : Int)]) ∧ Below w.heap.size w W)
    ?hI ?hIx ?h0 ?a1 ?assign ?body ?done ?stop
  case hI =>
    refine OwnFrom.and (fun s A B row hs hg hr => hs.grown hg (fun e => by have := (hr _ e.symm).1; omega)) (OwnFrom.and (ownFrom_blk (by omega)) (OwnFrom.and (ownFrom_blk (by omega)) (OwnFrom.and (ownFrom_blk (by omega)) (OwnFrom.and (ownFrom_blk (cs := fun (s : List Byte) => #[.int .i64 (s.length : Int)]) (by omega)) (OwnFrom.and (fun s A B row hs hg hr => ?_) (OwnFrom.and (ownFrom_blk (by omega)) (OwnFrom.and (fun _ _ _ _ h _ _ => h) (ownFrom_below (Nat.le_refl _) (by omega)))))))))
    obtain ⟨ss, h1, h2⟩ := hs
    exact ⟨ss, h1.grown hg (fun e => by have := (hr _ e.symm).1; omega), h2⟩
  case hIx =>
    intro c
    refine OwnFrom.and (fun s A B row hs hg hr => ?_) (ownFrom_below (Nat.le_refl _) (by omega))
    rcases hs with hs | ⟨hc, hq, h1, h2, h3⟩
    · exact .inl hs
    · exact .inr ⟨hc, hq, h1.grown hg (fun e => by have := (hr _ e.symm).1; omega), h2.grown hg (fun e => by have := (hr _ e.symm).1; omega), h3.grown hg (fun e => by have := (hr _ e.symm).1; omega)⟩
  case h0 => exact ⟨hbox, c1, c2, b1, b3, ⟨M, b4, hM.out⟩, b5, ⟨inBytes_nil, Nat.zero_le _⟩, hB0⟩
  case assign =>
    intro l x W K hK
    gi_wp2
    exact hK
  case body =>
    clear b1 b2 b3 b4 b5 c1 c2 hbox hB0 hM
    rintro l pre ⟨x, hx⟩ W ⟨hbox, c1, c2, b1, b3, ⟨ss, b4, hS⟩, b5, ⟨hP, hpq⟩, hB⟩ hlen
    dsimp only [byteRow]
    have HB := hide hB
    have k1 := (c1.cell 0).trans rfl
    have k2 := (c2.cell 0).trans rfl
    have f2 := c2.frozen 0
    have k3 := (b1.cell 0).trans rfl
    have k4 := (b3.cell 0).trans rfl
    have f4 := b3.frozen 0
    have k5 := (b5.cell 0).trans rfl
    replace c1 := hide c1
    replace c2 := hide c2
    replace b1 := hide b1
    replace b3 := hide b3
    replace b4 := hide b4
    replace b5 := hide b5
    replace hS := hide hS
    replace hP := hide hP
    replace hbox := hide hbox
    clear hB
    by_cases hk : pre.length = q
    · have hk' : (q : Int) ≤ (pre.length : Int) := by omega
      have HQ := hide hk
      clear hk
      gi_wp2
      exact ⟨KeepsOthers.refl _, .inr ⟨rfl, by have := HQ.out; omega, c1.out, c2.out, by have := b3.out; rw [HQ.out] at this; exact this⟩, HB.out⟩
    · have hk' : (pre.length : Int) < (q : Int) := by omega
      have HK := hide (show pre.length < q by omega)
      clear hk
      by_cases hxe : x = pre.length
      · subst hxe
        have hsx := sub_lt pre.length hx
        have kss := (b4.out.cell (sub pre.length)).trans (hS.out.2 _ hsx)
        rw [seenAt_new (x := ⟨pre.length, hx⟩) hP.out rfl] at kss
        have fss := b4.out.frozen (sub pre.length)
        have H1 := hide (boxsub_any g pre.length hx W hbox.out)
        have H2 : Hid (Calls Try.prog 28 #[.pointer (some ⟨g, 0, none⟩), .int .u8 (sub pre.length : Int)] W fun e w' => e = .returned (.int .u8 (pre.length : Int)) ∧ W = w') := hide (by
          have := boxback_any g (sub pre.length) hsx W hbox.out
          rwa [back_sub _ hx] at this)
        have HSn := hide (seenAt_next hS.out ⟨pre.length, hx⟩)
        have n4 := hide (b4.out.set_ (sub pre.length) (.bool true))
        dsimp only at HSn
        have hs0 : (0 : Int) ≤ (sub pre.length : Int) := by omega
        have hs1 : (sub pre.length : Int) < 256 := by omega
        generalize hSg : sub pre.length = S at *
        have HSg := hide hSg
        clear hSg
        gi_wp2_with (first
          | (refine ⟨trivial, ?_⟩; gi_at_call 26; refine (CallsIn.inRound l (callsIn_wide.2 H1.out)).mono ?_; rintro e w' ⟨rfl, rfl⟩)
          | (refine ⟨trivial, ?_⟩; gi_at_call 28; refine (CallsIn.inRound l (callsIn_wide.2 H2.out)).mono ?_; rintro e w' ⟨rfl, rfl⟩))
        refine ⟨(KeepsOthers.setCell _ _ _).trans (KeepsOthers.setCell _ _ _), trivial, (hbox.out.far (p := ⟨p + 3, S, none⟩) (by dsimp only; omega) _).far (p := ⟨p + 2, 0, none⟩) (by dsimp only; omega) _,
          (c1.out.far (p := ⟨p + 3, S, none⟩) (by dsimp only; omega) _).far (p := ⟨p + 2, 0, none⟩) (by dsimp only; omega) _, (c2.out.far (p := ⟨p + 3, S, none⟩) (by dsimp only; omega) _).far (p := ⟨p + 2, 0, none⟩) (by dsimp only; omega) _,
          (b1.out.far (p := ⟨p + 3, S, none⟩) (by dsimp only; omega) _).far (p := ⟨p + 2, 0, none⟩) (by dsimp only; omega) _, ?_, ⟨_, n4.out.far (p := ⟨p + 2, 0, none⟩) (by dsimp only; omega) _, by have := HSn.out; exact this⟩,
          (b5.out.far (p := ⟨p + 3, S, none⟩) (by dsimp only; omega) _).far (p := ⟨p + 2, 0, none⟩) (by dsimp only; omega) _, ⟨inBytes_snoc hP.out rfl, by have := HK.out; simp; omega⟩,
          (HB.out.setCell (p := ⟨p + 3, S, none⟩) (by dsimp only; omega) _).setCell (p := ⟨p + 2, 0, none⟩) (by dsimp only; omega) _⟩
        have h := (b3.out.far (p := ⟨p + 3, S, none⟩) (by dsimp only; omega) (.bool true)).set_ 0 (.int .i64 ((pre.length : Int) + 1))
        have e : #[Value.int .i64 (pre.length : Int)].setIfInBounds 0 (.int .i64 ((pre.length : Int) + 1)) = #[.int .i64 ((pre ++ [(⟨pre.length, hx⟩ : Byte)]).length : Int)] := by simp
        rw [e] at h
        exact h
      · have hx' : ((x : Int) != (pre.length : Int)) = true := by rw [bne_iff_ne]; omega
        have HX := hide hxe
        clear hxe
        gi_wp2
        refine ⟨trivial, ?_⟩
        gi_wp2
        refine ⟨trivial, ?_⟩
        gi_wp2
        refine ⟨KeepsOthers.setCell _ _ _, .inl ⟨rfl, fun h => HX.out ?_⟩, HB.out.setCell (p := ⟨w.heap.size + 1, 0, none⟩) (by dsimp only; omega) _⟩
        unfold InBytes at h
        have hp := hP.out
        unfold InBytes at hp
        simp [List.range_succ, hp] at h
        exact h
  case stop =>
    clear b1 b2 b3 b4 b5 c1 c2 hbox hB0 hM
    rintro D c pre W hD hsp ⟨⟨rfl, hn⟩ | ⟨rfl, hq2, c1, c2, b3⟩, hB⟩ hK
    · exact absurd hsp hn
    · have hWp : p + 4 < D := by omega
      have hDs : D < W.heap.size := (Array.getElem?_eq_some_iff.1 hK).1
      have k1 := (c1.cell 0).trans rfl
      have k4 := (b3.cell 0).trans rfl
      replace c1 := hide c1
      replace c2 := hide c2
      replace b3 := hide b3
      replace hB := hide hB
      replace hK := hide hK
      gi_wp2
      go_wp2_with (go_at_call 32; with_reducible refine (alive05_any _).mono ?_; rintro e w3 ⟨rfl, hB3⟩; have c3 := c2.out.below hB3 (by omega); have k3 := (c3.cell 0).trans rfl; have f3 := c3.frozen 0; replace hB3 := hide hB3; replace c3 := hide c3)
      have e := (hB3.out.block D hDs).trans hK.out
      have hK' := (KeepsOthers.setCell w3 ⟨w.heap.size + 1, 0, none⟩ (.bool true)).same D _ e rfl
      have hput := grownBy_putObj' (w3.setCell ⟨w.heap.size + 1, 0, none⟩ (.bool true)) D (.deferred none)
      have hc5 := ((c3.out.set_ 0 (.bool true)).grown hput (by intro e; cases e; omega)).cell 0
      refine ⟨by simp, .inl ⟨_, _, rfl, run_takeDeferred hK', ?_⟩⟩
      have q2 : Below w.heap.size w w3 := hB.out.trans (hB3.out.mono hB.out.size)
      refine ⟨.bool true, ?_, rfl, (q2.setCell (p := ⟨w.heap.size + 1, 0, none⟩) (by dsimp only; omega) _).trans (belowK_b (w := w) (Nat.le_refl _) _ D _ _ (by omega) hK' rfl rfl)⟩
      simp [results, Try.f7, go_sem, hc5]
  case done =>
    clear b1 b2 b3 b4 b5 c1 c2 hbox hB0 hM
    rintro D xs W hD ⟨hrow, hl⟩ ⟨hbox, c1, c2, b1, b3, hss, b5, ⟨hP, hpq⟩, hB⟩ hK
    have hWp : p + 4 < D := by omega
    have hDs : D < W.heap.size := (Array.getElem?_eq_some_iff.1 hK).1
    rw [hl] at b3 hpq
    have k1 := (c1.cell 0).trans rfl
    have k4 : W.cell? ⟨p + 2, 0, none⟩ = some (.int .i64 256) := (b3.cell 0).trans rfl
    have hpq' : (256 : Int) ≤ (q : Int) := by omega
    replace c1 := hide c1
    replace c2 := hide c2
    replace hB := hide hB
    replace hK := hide hK
    clear hbox b1 b3 hss b5 hP hrow hl
    go_wp2_with (go_at_call 32; with_reducible refine (alive05_any _).mono ?_; rintro e w3 ⟨rfl, hB3⟩; have c3 := c2.out.below hB3 (by omega); have k3 := (c3.cell 0).trans rfl; have f3 := c3.frozen 0; replace hB3 := hide hB3; replace c3 := hide c3)
    have e := (hB3.out.block D hDs).trans hK.out
    have hK' := (KeepsOthers.setCell w3 ⟨w.heap.size + 1, 0, none⟩ (.bool true)).same D _ e rfl
    have hput := grownBy_putObj' (w3.setCell ⟨w.heap.size + 1, 0, none⟩ (.bool true)) D (.deferred none)
    have hc5 := ((c3.out.set_ 0 (.bool true)).grown hput (by intro e; cases e; omega)).cell 0
    refine ⟨by simp, .inl ⟨_, _, rfl, run_takeDeferred hK', ?_⟩⟩
    have q2 : Below w.heap.size w w3 := hB.out.trans (hB3.out.mono hB.out.size)
    refine ⟨.bool true, ?_, rfl, (q2.setCell (p := ⟨w.heap.size + 1, 0, none⟩) (by dsimp only; omega) _).trans (belowK_b (w := w) (Nat.le_refl _) _ D _ _ (by omega) hK' rfl rfl)⟩
    simp [results, Try.f7, go_sem, hc5]
theorem boxOnce_walk (w : World) (x0 : BitVec 16) :
    Calls Try.prog 7 #[.int .u16 (x0.toNat : Int)] w fun e w' => e = .returned (.bool true) ∧ Below w.heap.size w w' :=
  callsIn_wide.1 (boxOnce_in x0.toNat x0.isLt w)
end Go.Proofs.Ytdeljodfanfbmaa
