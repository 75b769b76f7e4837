/- Package box's New: the two tables. No condition. -/
import Derived.Test.YtdeljodfanfbmaaBoxAll
namespace Go.Proofs.Ytdeljodfanfbmaa
open Go.RowKit Go.Shelf
set_option linter.unusedVariables false
set_option linter.unusedSimpArgs false

attribute [local go_sem] Oper.semAt_some

theorem still_left {P : Program} {f : FuncId} {args : Array Value} {w : World} {v : Value}
    (h : Calls P f args w fun e w' => e = .returned v ∧ w = w') : Calls P f args w fun e w'' => e = .returned v ∧ w'' = w :=
  h.mono fun _ _ ⟨he, hm⟩ => ⟨he, hm.symm⟩
theorem zero_box : Try.zeroCells43 = #[.bool false] ++ Array.replicate 512 (.int .u8 0) := by kernel_rfl
/-- what the two tables hold when so many powers have been gone through -/
structure BoxAt (k : Nat) (cs : Array Value) : Prop where
  size : cs.size = 513
  made : cs[0]? = some (.bool true)
  to0 : cs[1]? = some (.int .u8 99)
  to_ : ∀ i, i < k → cs[1 + powN 3 i]? = some (.int .u8 (sub (powN 3 i) : Int))
  byte : ∀ i, i < 512 → ∃ b : Nat, b < 256 ∧ cs[1 + i]? = some (.int .u8 (b : Int))
theorem box_start : ∃ C, Try.zeroCells43.setIfInBounds 0 (.bool true) = C ∧ C.size = 513 ∧ C[0]? = some (.bool true) ∧ ∀ i, i < 512 → C[1 + i]? = some (.int .u8 0) := by
  refine ⟨_, rfl, ?_, ?_, ?_⟩
  · rw [zero_box]; simp
  · rw [zero_box]; simp
  · intro i h2
    rw [zero_box, Array.getElem?_setIfInBounds_ne (by omega), Array.getElem?_append_right (by simp)]
    simp [h2]
theorem boxAt_zero {C : Array Value} (h : C.size = 513 ∧ C[0]? = some (.bool true) ∧ ∀ i, i < 512 → C[1 + i]? = some (.int .u8 0)) : BoxAt 0 (C.setIfInBounds 1 (.int .u8 99)) := by
  obtain ⟨h1, h2, h3⟩ := h
  refine ⟨by simpa using h1, by rw [Array.getElem?_setIfInBounds_ne (by omega)]; exact h2, by simp [h1], fun i h => by omega, fun i hi => ?_⟩
  by_cases e : i = 0
  · subst e; exact ⟨99, by omega, by simp [h1]⟩
  · exact ⟨0, by omega, by rw [Array.getElem?_setIfInBounds_ne (by omega)]; exact h3 i hi⟩
theorem boxAt_next {k : Nat} {cs : Array Value} (h : BoxAt k cs) (hk : k < 255) : BoxAt (k + 1) (cs.setIfInBounds (1 + powN 3 k) (.int .u8 (sub (powN 3 k) : Int))) := by
  have hlt := powN_lt 3 k (by omega)
  have hne := gen_ne k
  refine ⟨by simpa using h.size, by rw [Array.getElem?_setIfInBounds_ne (by omega)]; exact h.made, by rw [Array.getElem?_setIfInBounds_ne (by omega)]; exact h.to0, fun i hi => ?_, fun i hi => ?_⟩
  · by_cases e : i = k
    · subst e; rw [Array.getElem?_setIfInBounds_self_of_lt (by have := h.size; omega)]
    · have : powN 3 i ≠ powN 3 k := fun h => e (gen_inj i k (by omega) hk h)
      rw [Array.getElem?_setIfInBounds_ne (by omega)]
      exact h.to_ i (by omega)
  · by_cases e : 1 + powN 3 k = 1 + i
    · exact ⟨sub (powN 3 k), sub_lt _ hlt, by rw [e, Array.getElem?_setIfInBounds_self_of_lt (by have := h.size; omega)]⟩
    · obtain ⟨b, hb, hc⟩ := h.byte i hi
      exact ⟨b, hb, by rw [Array.getElem?_setIfInBounds_ne e]; exact hc⟩
theorem boxAt_done {cs : Array Value} (h : BoxAt 255 cs) (x : Nat) (hx : x < 256) : cs[1 + x]? = some (.int .u8 (sub x : Int)) := by
  by_cases h0 : x = 0
  · subst h0
    rw [h.to0]
    have : sub 0 = 99 := by unfold sub; rw [inv_zero]; decide +kernel
    rw [this]; rfl
  · obtain ⟨k, hk, rfl⟩ := gen_onto x hx h0
    exact h.to_ k hk
theorem sub_pow (k : Nat) : mixN (powN 246 k) = sub (powN 3 k) := by
  unfold sub; rw [← inv_pow 3 k (by omega), inv3]
theorem mix_zero : mixN 0 = 99 := by decide +kernel
/-- a box, as it stands in its block -/
structure BoxCells (cs : Array Value) : Prop where
  size : cs.size = 513
  made : cs[0]? = some (.bool true)
  to_ : ∀ x, x < 256 → cs[1 + x]? = some (.int .u8 (sub x : Int))
  from_ : ∀ x, x < 256 → cs[257 + x]? = some (.int .u8 (back x : Int))
def IsBox (w : World) (g : Nat) : Prop := ∃ cs, Blk w g 43 cs ∧ BoxCells cs
/-- New's answer -/
def MadeBox (w : World) (e : Ending) (w' : World) : Prop := ∃ g, e = .returned (.pointer (some ⟨g, 0, none⟩)) ∧ w.heap.size ≤ g ∧ IsBox w' g ∧ Below w.heap.size w w'
/-- the second table, when so many have been gone through -/
structure BackAt (pre : List Byte) (cs : Array Value) : Prop where
  size : cs.size = 513
  made : cs[0]? = some (.bool true)
  to_ : ∀ x, x < 256 → cs[1 + x]? = some (.int .u8 (sub x : Int))
  from_ : ∀ x ∈ pre, cs[257 + sub x.1]? = some (.int .u8 (x.1 : Int))
  byte : ∀ i, i < 256 → ∃ b : Nat, b < 256 ∧ cs[257 + i]? = some (.int .u8 (b : Int))
theorem backAt_zero {cs : Array Value} (h : BoxAt 255 cs) : BackAt [] cs :=
  ⟨h.size, h.made, boxAt_done h, fun x hx => (by cases hx), fun i hi => by
    obtain ⟨b, hb, hc⟩ := h.byte (256 + i) (by omega)
    exact ⟨b, hb, by have e : 257 + i = 1 + (256 + i) := by omega
                     rw [e]; exact hc⟩⟩
theorem backAt_next {pre : List Byte} {cs : Array Value} (h : BackAt pre cs) (x : Byte) : BackAt (pre ++ [x]) (cs.setIfInBounds (257 + sub x.1) (.int .u8 (x.1 : Int))) := by
  have hs := h.size
  have hlt := sub_lt x.1 x.2
  refine ⟨by simpa using hs, by rw [Array.getElem?_setIfInBounds_ne (by omega)]; exact h.made, fun y hy => by rw [Array.getElem?_setIfInBounds_ne (by omega)]; exact h.to_ y hy, fun y hy => ?_, fun i hi => ?_⟩
  · by_cases e : y = x
    · subst e; rw [Array.getElem?_setIfInBounds_self_of_lt (by omega)]
    · have hne : sub y.1 ≠ sub x.1 := fun h => e (Subtype.ext (sub_inj _ _ y.2 x.2 h))
      rw [Array.getElem?_setIfInBounds_ne (by omega)]
      rcases List.mem_append.1 hy with hy | hy
      · exact h.from_ y hy
      · exact absurd (List.mem_singleton.1 hy) e
  · by_cases e : 257 + sub x.1 = 257 + i
    · exact ⟨x.1, x.2, by rw [e, Array.getElem?_setIfInBounds_self_of_lt (by omega)]⟩
    · obtain ⟨b, hb, hc⟩ := h.byte i hi
      exact ⟨b, hb, by rw [Array.getElem?_setIfInBounds_ne e]; exact hc⟩
theorem backAt_done {pre : List Byte} {cs : Array Value} (h : BackAt pre cs) (hp : InBytes pre) (hl : pre.length = 256) : BoxCells cs :=
  ⟨h.size, h.made, h.to_, fun x hx => by
    have hb := back_lt x hx
    have hm : back x ∈ pre.map (·.1) := by rw [hp, hl]; simpa using hb
    obtain ⟨y, hy, e⟩ := List.mem_map.1 hm
    have := h.from_ y hy
    rw [e, sub_back x hx] at this
    exact this⟩
set_option maxRecDepth 100000 in
set_option maxHeartbeats 1600000 in
theorem boxnew_in (w : World) : CallsIn Fence.wide 6 Try.prog 25 #[] w (MadeBox w) := by
  obtain ⟨C, hC, hsz, hc0, hcz⟩ := box_start
  have hM0 : ∀ w, Calls Try.prog 55 #[.int .u8 0] w fun e w' => e = .returned (.int .u8 99) ∧ w = w' := fun w => by
    have := mix_any 0 (by omega) w
    rw [mix_zero] at this
    exact this
  have hI3 : ∀ w, Calls Try.prog 18 #[.int .u8 3] w fun e w' => e = .returned (.int .u8 246) ∧ w = w' := fun w => by
    have := inverse_any 3 (by omega) w
    rw [inv3] at this
    exact this
  replace hM0 := hide hM0
  replace hI3 := hide hI3
  have HC := hide (boxAt_zero ⟨hsz, hc0, hcz⟩)
  replace hsz := hide hsz
  replace hc0 := hide hc0
  replace hcz := hide hcz
  refine callsIn_of_wp_marks Try.func25 rfl trivial ?_ rfl
  simp only [Try.ntmps25, List.size_toArray, List.length_cons, List.length_nil, Nat.reduceAdd, Nat.reduceSub, Array.replicate_succ, Array.replicate_zero, List.push_toArray, List.append_toArray, List.nil_append, List.cons_append]
  refine wpIn_wide.2 ?_
  go_wp2
  have hb0 : Blk ((w.alloc (.cells C 43)).alloc (.cells #[.pointer (some ⟨w.heap.size, 0, none⟩)] 31)) w.heap.size 43 C := (Blk.new w _ C).alloc _
  have hp0 : Blk ((w.alloc (.cells C 43)).alloc (.cells #[.pointer (some ⟨w.heap.size, 0, none⟩)] 31)) (w.heap.size + 1) 31 #[.pointer (some ⟨w.heap.size, 0, none⟩)] := by
    have := Blk.new (w.alloc (.cells C 43)) 31 #[.pointer (some ⟨w.heap.size, 0, none⟩)]
    rwa [World.size_alloc] at this
  have hB0 : Below w.heap.size w ((w.alloc (.cells C 43)).alloc (.cells #[.pointer (some ⟨w.heap.size, 0, none⟩)] 31)) := ((Below.refl _ w).alloc (Nat.le_refl _) _).alloc (by simp) _
  generalize (w.alloc (.cells C 43)).alloc (.cells #[.pointer (some ⟨w.heap.size, 0, none⟩)] 31) = W0 at *
  clear hC
  obtain ⟨g, hg⟩ : ∃ g, g = w.heap.size := ⟨_, rfl⟩
  rw [← hg] at hb0 hp0 hB0 ⊢
  have HG := hide hg
  clear hg
  have hp := (hp0.cell 0).trans rfl
  have hf := hp0.frozen 0
  have hc1 := (hb0.cell 1).trans (hcz.out 0 (by omega))
  have hf1 := hb0.frozen 1
  refine wp_region_still_tail 5 (by kernel_rfl) (by kernel_rfl) ?_
  simp only [List.take_succ_cons, List.take_zero, List.drop_succ_cons, List.drop_zero]
  repeat still_step
  still_call (still_left (hM0.out _))
  repeat still_step
  refine wpStill_nil ?_
  change wpList _ _ _ _ _ W0.drew
  go_wp2_with (go_at_call 18; with_reducible refine (hI3.out _).mono ?_; rintro e w' ⟨rfl, rfl⟩)
  have hb1 : Blk (W0.setCell ⟨g, 1, none⟩ (.int .u8 99)).drew g 43 (C.setIfInBounds 1 (.int .u8 99)) := (hb0.set_ 1 _).drew
  have hp1 : Blk (W0.setCell ⟨g, 1, none⟩ (.int .u8 99)).drew (g + 1) 31 #[.pointer (some ⟨g, 0, none⟩)] := (hp0.far (p := ⟨g, 1, none⟩) (by dsimp only; omega) _).drew
  have hB1 : Below g w (W0.setCell ⟨g, 1, none⟩ (.int .u8 99)).drew := (hB0.setCell (p := ⟨g, 1, none⟩) (Nat.le_refl _) _).drew
  generalize (W0.setCell ⟨g, 1, none⟩ (.int .u8 99)).drew = W1 at *
  generalize C.setIfInBounds 1 (.int .u8 99) = C1 at *
  clear hp hf hc1 hf1 hb0 hp0 hB0 hsz hc0 hcz
  go_loopw [3, 4, 15] (fun x y i wr => ∃ k : Nat, k ≤ 255 ∧ i = .int .i64 (k : Int) ∧ x = .int .u8 (powN 3 k : Int) ∧ y = .int .u8 (powN 246 k : Int) ∧ ∃ cs, Hid (Blk wr g 43 cs) ∧ Hid (BoxAt k cs) ∧ Hid (Blk wr (g + 1) 31 #[.pointer (some ⟨g, 0, none⟩)]) ∧ Hid (Below g w wr)) (fun _ _ i _ => 255 - (intOf i).toNat)
  case atStart => exact ⟨0, by omega, rfl, rfl, rfl, C1, hide hb1, HC, hide hp1, hide hB1⟩
  case round =>
    obtain ⟨k, hk, rfl, rfl, rfl, cs, Hb, HA, Hp, HB⟩ := hrel
    clear hb1 hp1 hB1 HC
    by_cases hlt : k < 255
    · have HS := hide (sub_pow k)
      have HT1 : ∀ w, Calls Try.prog 15 #[.int .u8 (powN 3 k : Int), .int .u8 3] w fun e w' => e = .returned (.int .u8 (powN 3 (k + 1) : Int)) ∧ w = w' := fun w => times_any _ 3 (powN_lt 3 k (by omega)) (by omega) w
      have HT2 : ∀ w, Calls Try.prog 15 #[.int .u8 (powN 246 k : Int), .int .u8 246] w fun e w' => e = .returned (.int .u8 (powN 246 (k + 1) : Int)) ∧ w = w' := fun w => times_any _ 246 (powN_lt 246 k (by omega)) (by omega) w
      have hX := powN_lt 3 k (by omega)
      have hY := powN_lt 246 k (by omega)
      have HM : ∀ w, Calls Try.prog 55 #[.int .u8 (powN 246 k : Int)] w fun e w' => e = .returned (.int .u8 (sub (powN 3 k) : Int)) ∧ w = w' := fun w => by
        have := mix_any (powN 246 k) hY w
        rw [HS.out] at this
        exact this
      have HN := hide (boxAt_next HA.out hlt)
      obtain ⟨b, hb, hc1⟩ := HA.out.byte (powN 3 k) (by omega)
      have hb2 := (Hb.out.set_ (1 + powN 3 k) (.int .u8 (sub (powN 3 k) : Int))).drew
      have hp2 := (Hp.out.far (p := ⟨g, 1 + powN 3 k, none⟩) (by dsimp only; omega) (.int .u8 (sub (powN 3 k) : Int))).drew
      have hB2 := (HB.out.setCell (p := ⟨g, 1 + powN 3 k, none⟩) (Nat.le_refl _) (.int .u8 (sub (powN 3 k) : Int))).drew
      replace HT1 := hide HT1
      replace HT2 := hide HT2
      replace HM := hide HM
      replace hb2 := hide hb2
      replace hp2 := hide hp2
      replace hB2 := hide hB2
      have hc := (Hb.out.cell (1 + powN 3 k)).trans hc1
      clear hc1
      have hf := Hb.out.frozen (1 + powN 3 k)
      have hp := (Hp.out.cell 0).trans rfl
      generalize sub (powN 3 k) = S at *
      generalize powN 3 k = X at *
      generalize powN 246 k = Y at *
      have hX0 : (0 : Int) ≤ (X : Int) := by omega
      have hX1 : (X : Int) < 256 := by omega
      go_wp2
      refine wp_region_still_tail 7 (by kernel_rfl) (by kernel_rfl) ?_
      simp only [List.take_succ_cons, List.take_zero, List.drop_succ_cons, List.drop_zero]
      repeat still_step
      still_call (still_left (HM.out _))
      repeat still_step
      refine wpStill_nil ?_
      change wpList _ _ _ _ _ wr.drew
      go_wp2_with (go_at_call 15; (first | with_reducible refine (HT1.out _).mono ?_ | with_reducible refine (HT2.out _).mono ?_); rintro e w' ⟨rfl, rfl⟩)
      go_roundw
      case rel => exact ⟨k + 1, by omega, by go_num, rfl, rfl, _, hb2, HN, hp2, hB2⟩
      case measure => simp [intOf]; omega
    · obtain rfl : k = 255 := by omega
      have hp := (Hp.out.cell 0).trans rfl
      have hgs : g + 1 < wr.heap.size := Hp.out.lt
      go_wp2_with (go_at_call 33; with_reducible refine (all_any _ _).mono ?_; rintro e w' ⟨rfl, rfl⟩)
      have hb2 := Hb.out.alloc (.cells #[.pointer (some ⟨g, 0, none⟩)] 31)
      have hp2 := Hp.out.alloc (.cells #[.pointer (some ⟨g, 0, none⟩)] 31)
      have hB2 := HB.out.alloc (by omega) (.cells #[.pointer (some ⟨g, 0, none⟩)] 31)
      have hq2 := Blk.new wr 31 #[.pointer (some ⟨g, 0, none⟩)]
      have hz2 := World.size_alloc wr (.cells #[.pointer (some ⟨g, 0, none⟩)] 31)
      generalize wr.alloc (.cells #[.pointer (some ⟨g, 0, none⟩)] 31) = W2 at *
      generalize wr.heap.size = q at *
      have HA' := backAt_zero HA.out
      have hbt := boxAt_done HA.out
      have hgw : g ≤ w.heap.size := by rw [HG.out]; exact Nat.le_refl _
      refine (wpIn_wide (n := 6)).1 ?_
      refine wpIn_rangeFunc_ownF rfl (by omega) (gf := 57) (lb := #[.pointer (some ⟨q, 0, none⟩)]) rfl trivial (enters_of Try.func57 (by kernel_rfl) rfl)
        (all_stops 5 (by omega) sub q g (fun _ _ => True) W2 (by omega) (by omega) ((hq2.cell 0).trans rfl) ((hb2.cell 0).trans HA.out.made) (fun i hi => (hb2.cell (1 + i)).trans (hbt i hi)))
        (fun _ _ => trivial) (fun _ _ _ _ _ _ _ _ => trivial) (Below.refl _ _) (fun _ => rfl)
        (fun pre W => (∃ cs, Blk W g 43 cs ∧ BackAt pre cs ∧ Blk W (g + 1) 31 #[.pointer (some ⟨g, 0, none⟩)]) ∧ Below g w W)
        (fun c pre W => False)
        ?hI ?hIx ?h0 ?a1 ?assign ?body ?done ?stop
      case hI =>
        refine OwnFrom.and (fun s A B row hs hg hr => ?_) (ownFrom_below hgw (by omega))
        obtain ⟨cs, h1, h2, h3⟩ := hs
        exact ⟨cs, h1.grown hg (fun e => by have := (hr _ e.symm).1; omega), h2, h3.grown hg (fun e => by have := (hr _ e.symm).1; omega)⟩
      case hIx => exact fun c s A B row hs hg hr => hs
      case h0 => exact ⟨⟨cs, hb2, HA', hp2⟩, hB2⟩
      case assign =>
        intro l x W K hK
        gi_wp2
        exact hK
      case body =>
        clear hb2 hp2 hB2 hq2 hp
        rintro l pre x W ⟨⟨cs1, h1, h2, h3⟩, hB⟩ hlen
        have hS := sub_lt x.1 x.2
        have HN := hide (backAt_next h2 x)
        obtain ⟨b, hb, hc1⟩ := h2.byte (sub x.1) hS
        have hb3 := hide (h1.set_ (257 + sub x.1) (.int .u8 (x.1 : Int)))
        have hp3 := hide (h3.far (p := ⟨g, 257 + sub x.1, none⟩) (by dsimp only; omega) (.int .u8 (x.1 : Int)))
        have hB3 := hide (hB.setCell (p := ⟨g, 257 + sub x.1, none⟩) (Nat.le_refl _) (.int .u8 (x.1 : Int)))
        have hc := (h1.cell (257 + sub x.1)).trans hc1
        have hf := h1.frozen (257 + sub x.1)
        have hp := (h3.cell 0).trans rfl
        clear hc1 h1 h2 h3 hB hbt HA'
        dsimp only [byteRow]
        generalize sub x.1 = S at *
        have hX0 : (0 : Int) ≤ (S : Int) := by omega
        have hX1 : (S : Int) < 256 := by omega
        gi_wp2
        exact ⟨KeepsOthers.setCell _ _ _, trivial, ⟨_, hb3.out, HN.out, hp3.out⟩, hB3.out⟩
      case stop =>
        rintro D c pre W hD hsp h hK
        exact h.elim
      case done =>
        clear hb2 hp2 hB2 hq2 hp hbt HA'
        rintro D xs W hD ⟨hrow, hl⟩ ⟨⟨cs1, h1, h2, h3⟩, hB⟩ hK
        have HD := hide (backAt_done h2 hrow hl)
        have hp := (h3.cell 0).trans rfl
        clear hrow hl h2
        go_wp2
        refine ⟨by simp, .inl ⟨_, _, rfl, run_takeDeferred hK, ?_⟩⟩
        have hput := grownBy_putObj' W D (.deferred none)
        refine ⟨_, results_tmp rfl _ _ _, g, rfl, by rw [HG.out]; exact Nat.le_refl _, ⟨cs1, h1.grown hput (by intro e; cases e; omega), HD.out⟩, ?_⟩
        rw [← HG.out]
        exact hB.trans (belowK_b (w := w) hgw W D _ _ (by have := HG.out; omega) hK rfl rfl)
theorem boxnew_any (w : World) : Calls Try.prog 25 #[] w (MadeBox w) := callsIn_wide.1 (boxnew_in w)
end Go.Proofs.Ytdeljodfanfbmaa
