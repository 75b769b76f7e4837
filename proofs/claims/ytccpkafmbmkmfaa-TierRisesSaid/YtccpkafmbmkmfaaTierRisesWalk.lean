/- The walk of miradorlaw28.TierRises. No condition. -/
import Derived.Test.YtccpkafmbmkmfaaTierWorld
namespace Go.Proofs.Ytccpkafmbmkmfaa
open Go.RowKit Go.Shelf
set_option linter.unusedVariables false
attribute [local go_sem] Oper.semAt_some

theorem seq_nil (f : Nat) (c : Array Value) (W : World) : Sem.run Try.prog (binOp BinOp.eql 31 (.func (.func f) #[] c) .nilFunc) W = .ok (.bool false) W := by kernel_rfl
theorem rise_height (b : Nat) (s : Int) (k : Nat) : ∃ V : Nat, (V : Int) = (b : Int) + farS s * (k : Int) := by
  have h : 0 ≤ farS s * (k : Int) := Int.mul_nonneg (by have := farS_pos s; omega) (by omega)
  exact ⟨((b : Int) + farS s * (k : Int)).toNat, Int.toNat_of_nonneg (by omega)⟩
theorem rise_due (b V k : Nat) (s m : Int) (hb : b ≤ 4294967295) (hx : (b : Int) + farS s * (k : Int) ≤ 4294967295) (hk : (k : Int) < m) (hV : (V : Int) = (b : Int) + farS s * (k : Int)) (s0 : -9223372036854775808 ≤ s) (s1 : s ≤ 9223372036854775807) (m0 : -9223372036854775808 ≤ m) (m1 : m ≤ 300) (w : World) :
    Calls Try.prog 14 #[.int .u32 (b : Int), .int .u32 (V : Int), .int .i64 s, .int .i64 m] w fun e w' => e = .returned (.int .i64 (k : Int)) ∧ w = w' := by
  have h := at_any b V s m hb (by omega) s0 s1 m0 (by omega) w
  have e : tierAt b V s m = (k : Int) := by
    have hf := farS_pos s
    unfold tierAt
    by_cases h0 : k = 0
    · subst h0
      rw [if_pos (.inl (by simp at hV; omega))]; rfl
    · have h1 : farS s * 1 ≤ farS s * (k : Int) := Int.mul_le_mul_of_nonneg_left (by omega) (by omega)
      rw [if_neg (by omega)]
      have e1 : (V : Int) - (b : Int) = farS s * (k : Int) := by omega
      rw [e1, Int.mul_ediv_cancel_left _ (by omega)]
      omega
  rw [e] at h
  exact h
theorem rise_first (b V k : Nat) (s : Int) (hb : b ≤ 4294967295) (hk : k < 256) (hx : (b : Int) + farS s * (k : Int) ≤ 4294967295) (hV : (V : Int) = (b : Int) + farS s * (k : Int)) (s0 : -9223372036854775808 ≤ s) (s1 : s ≤ 9223372036854775807) (w : World) :
    Calls Try.prog 18 #[.int .u32 (b : Int), .int .i64 s, .int .i64 (k : Int)] w fun e w' => e = .returned (.tuple #[.int .u32 (V : Int), .bool true]) ∧ w = w' := by
  refine (first_any b k s hb (by omega) s0 s1 w).mono ?_
  rintro e w' ⟨⟨_, rfl⟩ | ⟨h, rfl⟩, rfl⟩
  · exact ⟨by rw [hV], rfl⟩
  · omega
theorem cell_far {W : World} {p a : Addr} {v u : Value} (h : p.block ≠ a.block) (c : W.cell? a = some u) : (W.setCell p v).cell? a = some u := (World.cell?_setCell_far W p a v h).trans c
theorem len_snoc {α : Type} (pre : List α) (x : α) : some (Value.int .i64 ((pre.length : Int) + 1)) = some (Value.int .i64 ((pre ++ [x]).length : Int)) := by simp
theorem inRow_not {b : Nat} {s m : Int} {pre : List (Tier b s m)} {x : Tier b s m} (hx : ¬ x.1 = pre.length) : ¬ InRow (pre ++ [x]) := by
  intro h
  unfold InRow at h
  rw [List.map_append, List.length_append, List.length_singleton, List.range_succ] at h
  have h1 := List.append_inj_right h (by simp)
  simp at h1
  exact hx h1
theorem len_le {α : Type} {pre : List α} {x : α} {q : Nat} (h : pre.length < q) : (pre ++ [x]).length ≤ q := by simp; omega
theorem rise_due' (b k : Nat) (s m : Int) (hb : b ≤ 4294967295) (hx : (b : Int) + farS s * (k : Int) ≤ 4294967295) (hk : (k : Int) < m) (s0 : -9223372036854775808 ≤ s) (s1 : s ≤ 9223372036854775807) (m0 : -9223372036854775808 ≤ m) (m1 : m ≤ 300) (w : World) :
    Calls Try.prog 14 #[.int .u32 (b : Int), .int .u32 ((b : Int) + farS s * (k : Int)), .int .i64 s, .int .i64 m] w fun e w' => e = .returned (.int .i64 (k : Int)) ∧ w = w' := by
  obtain ⟨V, hV⟩ := rise_height b s k
  rw [← hV]
  exact rise_due b V k s m hb hx hk hV s0 s1 m0 m1 w
theorem rise_first' (b k : Nat) (s : Int) (hb : b ≤ 4294967295) (hk : k < 256) (hx : (b : Int) + farS s * (k : Int) ≤ 4294967295) (s0 : -9223372036854775808 ≤ s) (s1 : s ≤ 9223372036854775807) (w : World) :
    Calls Try.prog 18 #[.int .u32 (b : Int), .int .i64 s, .int .i64 (k : Int)] w fun e w' => e = .returned (.tuple #[.int .u32 ((b : Int) + farS s * (k : Int)), .bool true]) ∧ w = w' := by
  obtain ⟨V, hV⟩ := rise_height b s k
  rw [← hV]
  exact rise_first b V k s hb hk hx hV s0 s1 w
set_option maxRecDepth 100000 in
set_option maxHeartbeats 800000 in
theorem tierRises_few (b h : Nat) (s m : Int) (q : Nat) (hb : b ≤ 4294967295) (hq : q < 256) (s0 : -9223372036854775808 ≤ s) (s1 : s ≤ 9223372036854775807) (m0 : -9223372036854775808 ≤ m) (m1 : m ≤ 300) (w : World) :
    CallsIn Fence.wide 6 Try.prog 4 #[.agg #[.int .u32 (b : Int), .int .u32 (h : Int), .int .i64 s, .int .i64 m], .int .u8 (q : Int)] w fun e w' => e = .returned (.bool true) ∧ Below w.heap.size w w' := by
  refine callsIn_of_wp_marks Try.func4 rfl trivial ?_ rfl
  simp only [Try.ntmps4, List.size_toArray, List.length_cons, List.length_nil, Nat.reduceAdd, Nat.reduceSub, Array.replicate_succ, Array.replicate_zero, List.push_toArray, List.append_toArray, List.nil_append, List.cons_append]
  have SN := seq_nil
  gi_wp2_with (refine ⟨trivial, ?_⟩; gi_at_call 17; refine (callsIn_wide.2 (rise_any b s m _)).mono ?_; rintro e w' ⟨rfl, rfl⟩)
  change Code.wpIn _ _ _ _ _ _ (riseW w b h q s m)
  obtain ⟨h0, h1, h2, h3, h4, h5, h6⟩ := riseW_heap w b h q s m
  have sz := riseW_size w b h q s m
  have hB0 := riseW_below w b h q s m
  generalize riseW w b h q s m = W0 at h0 h1 h2 h3 h4 h5 h6 sz hB0 ⊢
  have cb := (cell_at (i := 0) h0 rfl).1
  have cs := (cell_at (i := 2) h0 rfl).1
  have cm := (cell_at (i := 3) h0 rfl).1
  have cq := (cell_at (i := 0) h1 rfl).1
  have cr := (cell_at (i := 0) h2 rfl)
  have bb := (cell_at (i := 0) h3 rfl).1
  have bs := (cell_at (i := 0) h4 rfl).1
  have bm := (cell_at (i := 0) h5 rfl).1
  have ck := (cell_at (i := 0) h6 rfl)
  clear h0 h1 h2 h3 h4 h5 h6
  refine wpIn_rangeFunc_ownF rfl (by omega) (gf := 70) (lb := #[.pointer (some ⟨w.heap.size + 4, 0, none⟩), .pointer (some ⟨w.heap.size + 3, 0, none⟩), .pointer (some ⟨w.heap.size + 5, 0, none⟩)]) rfl trivial (enters_of Try.func70 (by kernel_rfl) rfl)
    (rise_stops 5 (by omega) (w.heap.size + 4) (w.heap.size + 3) (w.heap.size + 5) b s m hb s0 s1 m1 W0 (by omega) (by omega) (by omega) bs bb bm) keepsCell_t (fun W l o o' hl ho hc hw => fun hx => ((belowK_b (n₀ := w.heap.size + 6) (w := W0) (by omega) W l o o' hl ho hc hw).cell (p := ⟨w.heap.size + 5, 0, none⟩) (by simp)).trans hx) (Below.refl _ _) (fun _ => rfl)
    (fun pre W => (W.cell? ⟨w.heap.size, 0, none⟩ = some (.int .u32 (b : Int)) ∧ W.cell? ⟨w.heap.size, 2, none⟩ = some (.int .i64 s) ∧ W.cell? ⟨w.heap.size, 3, none⟩ = some (.int .i64 m) ∧ W.cell? ⟨w.heap.size + 1, 0, none⟩ = some (.int .u8 (q : Int)) ∧
      (W.cell? ⟨w.heap.size + 1 + 1, 0, none⟩ = some (.bool false) ∧ W.frozen? ⟨w.heap.size + 1 + 1, 0, none⟩ = false) ∧ W.cell? ⟨w.heap.size + 5, 0, none⟩ = some (.int .i64 m) ∧
      (W.cell? ⟨w.heap.size + 1 + 1 + 1 + 1 + 1 + 1, 0, none⟩ = some (.int .i64 (pre.length : Int)) ∧ W.frozen? ⟨w.heap.size + 1 + 1 + 1 + 1 + 1 + 1, 0, none⟩ = false) ∧ Hid (InRow pre) ∧ pre.length ≤ q) ∧ Below w.heap.size w W)
    (fun c pre W => (c = .ret ∧ ¬ InRow pre ∨ c = .exit 0 ∧ W.cell? ⟨w.heap.size + 1, 0, none⟩ = some (.int .u8 (q : Int)) ∧ (W.cell? ⟨w.heap.size + 1 + 1, 0, none⟩ = some (.bool false) ∧ W.frozen? ⟨w.heap.size + 1 + 1, 0, none⟩ = false) ∧
      W.cell? ⟨w.heap.size + 1 + 1 + 1 + 1 + 1 + 1, 0, none⟩ = some (.int .i64 (q : Int))) ∧ Below w.heap.size w W)
    ?hI ?hIx ?h0 ?a1 ?assign ?body ?done ?stop
  case hI =>
    exact OwnFrom.and (Own.from (fun sx A B row hs hg hr => ⟨cell_kept hs.1 hg hr, cell_kept hs.2.1 hg hr, cell_kept hs.2.2.1 hg hr, cell_kept hs.2.2.2.1 hg hr, ⟨cell_kept hs.2.2.2.2.1.1 hg hr, (frozen_kept hs.2.2.2.2.1.1 hg hr).trans hs.2.2.2.2.1.2⟩, cell_kept hs.2.2.2.2.2.1 hg hr,
      ⟨cell_kept hs.2.2.2.2.2.2.1.1 hg hr, (frozen_kept hs.2.2.2.2.2.2.1.1 hg hr).trans hs.2.2.2.2.2.2.1.2⟩, hs.2.2.2.2.2.2.2.1, hs.2.2.2.2.2.2.2.2⟩) _) (ownFrom_below (Nat.le_refl _) (by omega))
  case hIx =>
    exact fun c => OwnFrom.and (Own.from (fun sx A B row hs hg hr => hs.imp id (fun hs => ⟨hs.1, cell_kept hs.2.1 hg hr, ⟨cell_kept hs.2.2.1.1 hg hr, (frozen_kept hs.2.2.1.1 hg hr).trans hs.2.2.1.2⟩, cell_kept hs.2.2.2 hg hr⟩)) _) (ownFrom_below (Nat.le_refl _) (by omega))
  case h0 => exact ⟨⟨cb, cs, cm, cq, cr, bm, ck, hide inRow_nil, Nat.zero_le _⟩, hB0⟩
  case assign =>
    intro l x W K hK
    gi_wp2
    exact hK
  case body =>
    clear cb cs cm cq cr bb bs bm ck hB0 sz SN
    rintro l pre ⟨x, hxm, hxb⟩ W ⟨⟨cb, cs, cm, cq, cr, bm, ⟨ck, fk⟩, HR, hpq⟩, hB⟩ hlen
    dsimp only [tierRow]
    by_cases hk : pre.length = q
    · have hk' : (q : Int) ≤ (pre.length : Int) := by omega
      have HQ := hide hk
      clear hk
      gi_wp2
      exact ⟨KeepsOthers.refl _, .inr ⟨rfl, cq, cr, by rw [← HQ.out]; exact ck⟩, hB⟩
    · have hk' : (pre.length : Int) < (q : Int) := by omega
      have HK := hide (show pre.length < q by omega)
      clear hk
      have hp : pre.length < 256 := by omega
      have HF := hide (fun W => first_any b pre.length s hb (by omega) s0 s1 W)
      by_cases hx : x = pre.length
      · subst hx
        have HA := hide (rise_due' b pre.length s m hb hxb hxm s0 s1 m0 m1)
        have HF := hide (rise_first' b pre.length s hb hp hxb s0 s1)
        gi_wp2_with (first
          | (refine ⟨trivial, ?_⟩; gi_at_call 18; refine (CallsIn.inRound l (callsIn_wide.2 (HF.out _))).mono ?_; rintro e w' ⟨rfl, rfl⟩)
          | (refine ⟨trivial, ?_⟩; gi_at_call 14; refine (CallsIn.inRound l (callsIn_wide.2 (HA.out _))).mono ?_; rintro e w' ⟨rfl, rfl⟩))
        exact ⟨KeepsOthers.setCell _ _ _, fun hx => cell_far (by dsimp only; omega) hx, ⟨cell_far (by dsimp only; omega) cb, cell_far (by dsimp only; omega) cs, cell_far (by dsimp only; omega) cm, cell_far (by dsimp only; omega) cq,
          ⟨cell_far (by dsimp only; omega) cr.1, by rw [World.frozen?_setCell]; exact cr.2⟩, cell_far (by dsimp only; omega) bm,
          ⟨(World.cell?_setCell_same' _ _ _ (by rw [ck]; rfl)).trans (by rw [len_snoc]), by rw [World.frozen?_setCell]; exact fk⟩, hide (inRow_snoc HR.out rfl), len_le HK.out⟩, hB.setCell (p := ⟨w.heap.size + 1 + 1 + 1 + 1 + 1 + 1, 0, none⟩) (by dsimp only; omega) _⟩
      · have hx' : ((x : Int) != (pre.length : Int)) = true := by rw [bne_iff_ne]; omega
        have HX := hide hx
        clear hx
        gi_wp2_with (refine ⟨trivial, ?_⟩; gi_at_call 18; refine (CallsIn.inRound l (callsIn_wide.2 (HF.out _))).mono ?_; rintro e w' ⟨⟨_, rfl⟩ | ⟨_, rfl⟩, rfl⟩)
        all_goals
          refine ⟨trivial, ?_⟩
          gi_wp2
        all_goals exact ⟨KeepsOthers.setCell _ _ _, .inl ⟨rfl, inRow_not HX.out⟩, hB.setCell (p := ⟨w.heap.size + 1 + 1, 0, none⟩) (by dsimp only; omega) _⟩
  case stop =>
    clear cb cs cm cq cr bb bs bm ck hB0 SN
    rintro D c pre W hD hsp ⟨⟨rfl, hn⟩ | ⟨rfl, cq, ⟨cr, fr⟩, ck⟩, hB⟩ hK
    · exact absurd hsp hn
    · gi_wp2_with (refine ⟨trivial, ?_⟩; gi_at_call 13; refine (callsIn_wide.2 (alive28_any _)).mono ?_; rintro e w' ⟨rfl, rfl⟩)
      have hK' := (KeepsOthers.setCell W ⟨w.heap.size + 1 + 1, 0, none⟩ (.bool true)).same D _ hK rfl
      refine ⟨by simp, .inl ⟨_, _, rfl, run_takeDeferred hK', ?_⟩⟩
      have hc5 := cell_kept (World.cell?_setCell_same' W ⟨w.heap.size + 1 + 1, 0, none⟩ (.bool true) (by rw [cr]; rfl)) (grownBy_putObj' _ D (.deferred none)) (fun r e => by cases e; exact ⟨_, hK', rfl⟩)
      refine ⟨.bool true, ?_, rfl, (hB.setCell (p := ⟨w.heap.size + 1 + 1, 0, none⟩) (by dsimp only; omega) _).trans (belowK_b (w := w) (Nat.le_refl _) _ D _ _ (by omega) hK' rfl rfl)⟩
      simp [results, Try.f4, go_sem, hc5]
  case done =>
    clear cb cs cm cq cr bb bs bm ck hB0 SN
    rintro D xs W hD ⟨hrow, hfin⟩ ⟨⟨cb, cs, cm, cq, ⟨cr, fr⟩, bm, ⟨ck, fk⟩, HR, hpq⟩, hB⟩ hK
    have hp : xs.length < 256 := by omega
    have HF := hide (fun W => first_any b xs.length s hb (by omega) s0 s1 W)
    have hcase : ((xs.length : Int) == (q : Int)) = true ∨ ((xs.length : Int) == (q : Int)) = false ∧ (m ≤ (xs.length : Int) ∨ ¬ m ≤ (xs.length : Int)) := by
      by_cases h1 : xs.length = q
      · exact .inl (by rw [h1]; simp)
      · exact .inr ⟨by simp; omega, by omega⟩
    have HFIN := hide hfin
    clear hfin hrow HR
    generalize xs.length = k at *
    rcases hcase with e1 | ⟨e1, e2 | e2⟩
    · gi_wp2_with (refine ⟨trivial, ?_⟩; gi_at_call 13; refine (callsIn_wide.2 (alive28_any _)).mono ?_; rintro e w' ⟨rfl, rfl⟩)
      have hK' := (KeepsOthers.setCell W ⟨w.heap.size + 1 + 1, 0, none⟩ (.bool true)).same D _ hK rfl
      refine ⟨by simp, .inl ⟨_, _, rfl, run_takeDeferred hK', ?_⟩⟩
      have hc5 := cell_kept (World.cell?_setCell_same' W ⟨w.heap.size + 1 + 1, 0, none⟩ (.bool true) (by rw [cr]; rfl)) (grownBy_putObj' _ D (.deferred none)) (fun r e => by cases e; exact ⟨_, hK', rfl⟩)
      refine ⟨.bool true, ?_, rfl, (hB.setCell (p := ⟨w.heap.size + 1 + 1, 0, none⟩) (by dsimp only; omega) _).trans (belowK_b (w := w) (Nat.le_refl _) _ D _ _ (by omega) hK' rfl rfl)⟩
      simp [results, Try.f4, go_sem, hc5]
    · gi_wp2_with (refine ⟨trivial, ?_⟩; gi_at_call 13; refine (callsIn_wide.2 (alive28_any _)).mono ?_; rintro e w' ⟨rfl, rfl⟩)
      have hK' := (KeepsOthers.setCell W ⟨w.heap.size + 1 + 1, 0, none⟩ (.bool true)).same D _ hK rfl
      refine ⟨by simp, .inl ⟨_, _, rfl, run_takeDeferred hK', ?_⟩⟩
      have hc5 := cell_kept (World.cell?_setCell_same' W ⟨w.heap.size + 1 + 1, 0, none⟩ (.bool true) (by rw [cr]; rfl)) (grownBy_putObj' _ D (.deferred none)) (fun r e => by cases e; exact ⟨_, hK', rfl⟩)
      refine ⟨.bool true, ?_, rfl, (hB.setCell (p := ⟨w.heap.size + 1 + 1, 0, none⟩) (by dsimp only; omega) _).trans (belowK_b (w := w) (Nat.le_refl _) _ D _ _ (by omega) hK' rfl rfl)⟩
      simp [results, Try.f4, go_sem, hc5]
    · have hfar : 4294967295 < (b : Int) + farS s * (k : Int) := HFIN.out.resolve_left e2
      have HG : Hid (∀ W, Calls Try.prog 18 #[.int .u32 (b : Int), .int .i64 s, .int .i64 (k : Int)] W fun e w' => e = .returned (.tuple #[.int .u32 0, .bool false]) ∧ W = w') := hide (fun W => (HF.out W).mono (by
        rintro e w' ⟨⟨h, _⟩ | ⟨_, rfl⟩, rfl⟩
        · omega
        · exact ⟨rfl, rfl⟩))
      clear hfar HF
      gi_wp2_with (first
        | (refine ⟨trivial, ?_⟩; gi_at_call 18; refine (callsIn_wide.2 (HG.out _)).mono ?_; rintro e w' ⟨rfl, rfl⟩)
        | (refine ⟨trivial, ?_⟩; gi_at_call 13; refine (callsIn_wide.2 (alive28_any _)).mono ?_; rintro e w' ⟨rfl, rfl⟩))
      have hK' := (KeepsOthers.setCell W ⟨w.heap.size + 1 + 1, 0, none⟩ (.bool true)).same D _ hK rfl
      refine ⟨by simp, .inl ⟨_, _, rfl, run_takeDeferred hK', ?_⟩⟩
      have hc5 := cell_kept (World.cell?_setCell_same' W ⟨w.heap.size + 1 + 1, 0, none⟩ (.bool true) (by rw [cr]; rfl)) (grownBy_putObj' _ D (.deferred none)) (fun r e => by cases e; exact ⟨_, hK', rfl⟩)
      refine ⟨.bool true, ?_, rfl, (hB.setCell (p := ⟨w.heap.size + 1 + 1, 0, none⟩) (by dsimp only; omega) _).trans (belowK_b (w := w) (Nat.le_refl _) _ D _ _ (by omega) hK' rfl rfl)⟩
      simp [results, Try.f4, go_sem, hc5]
set_option maxRecDepth 100000 in
theorem tierRises_big (b h : Nat) (s m : Int) (q : Nat) (m1 : 300 < m) (w : World) :
    Calls Try.prog 4 #[.agg #[.int .u32 (b : Int), .int .u32 (h : Int), .int .i64 s, .int .i64 m], .int .u8 (q : Int)] w fun e w' => e = .returned (.bool true) ∧ Below w.heap.size w w' := by
  go_enter Try.func4, Try.ntmps4
  go_wp2_with (go_at_call 13; refine (alive28_any _).mono ?_; rintro e w' ⟨rfl, rfl⟩)
  refine ⟨rfl, .bool true, ?_, rfl, ((((Below.refl _ w).alloc (Nat.le_refl _) _).alloc (by simp) _).alloc (by simp; omega) _)⟩
  simp [results, Try.f4, go_sem]
theorem tierRises_walk (w : World) (b h : Nat) (s m : Int) (hb : b ≤ 4294967295) (s0 : -9223372036854775808 ≤ s) (s1 : s ≤ 9223372036854775807) (m0 : -9223372036854775808 ≤ m) (x1 : BitVec 8) :
    Calls Try.prog 4 #[.agg #[.int .u32 (b : Int), .int .u32 (h : Int), .int .i64 s, .int .i64 m], .int .u8 (x1.toNat : Int)] w fun e w' => e = .returned (.bool true) ∧ Below w.heap.size w w' := by
  by_cases h3 : m ≤ 300
  · exact callsIn_wide.1 (tierRises_few b h s m x1.toNat hb x1.isLt s0 s1 m0 h3 w)
  · exact tierRises_big b h s m x1.toNat (by omega) w
end Go.Proofs.Ytccpkafmbmkmfaa
