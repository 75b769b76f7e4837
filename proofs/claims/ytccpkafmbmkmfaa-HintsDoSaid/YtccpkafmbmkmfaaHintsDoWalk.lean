/- The walk of miradorlaw24.HintsDo. No condition. -/
import Derived.Test.YtccpkafmbmkmfaaHintsDoPlain
import Derived.Test.YtccpkafmbmkmfaaHintsAlive
import Derived.Test.YtccpkafmbmkmfaaOpenPairs
namespace Go.Proofs.Ytccpkafmbmkmfaa
open Go.RowKit
set_option linter.unusedVariables false
set_option linter.unusedSimpArgs false
attribute [local go_sem] Gives givesUpon
attribute [local irreducible] Gives

abbrev IsRow (n : Nat) (u : Value) : Prop := hInt.IsRow n u
/-- a value is a slice that reads as these numbers -/
def SliceOfI (l : List Int) : Value → World → Prop
  | .slice A m _, W => m = l.length ∧ Reads W W.heap.size 1 A m (l.map ci)
  | _, _ => False
theorem SliceOfI.later {l : List Int} : ∀ (v : Value) (w w' : World), Below w.heap.size w w' → SliceOfI l v w → SliceOfI l v w' := by
  intro v w w' hb h
  cases v <;> simp only [SliceOfI] at h ⊢
  exact ⟨h.1, (h.2.below hb).more hb.size⟩
theorem SliceOfI.mk {l : List Int} {w : World} {base c : Nat} {A : Option Addr} (h : w.ownsRow base 3 1 (.slice A l.length c) l.length (l.map ci)) : SliceOfI l (.slice A l.length c) w := ⟨rfl, Reads.of_own h⟩
theorem SliceOfI.reads {l : List Int} {w : World} {c : Nat} {A : Option Addr} (h : SliceOfI l (.slice A l.length c) w) : Reads w w.heap.size 1 A l.length (l.map ci) := h.2
/-- no block is named -/
theorem there0' (W : World) : hInt.There W (fun _ => False) := fun _ h => h.elim
/-- between two calls -/
structure DoI (w W : World) (v : Value) (g b : Nat) (C : Noted Int) (L : PairL) : Prop where
  live : hInt.Live w W (fun i => v.ownBlock = some i) g b C
  own : W.ownsRow w.heap.size 49 2 v L.length (pc L)
  rel : DoR C L
theorem oc_get (L : List OpT) (k : Nat) (h : k < L.length) : (oc L)[k * 3]? = some (ci L[k].1) ∧ (oc L)[k * 3 + 1]? = some (ci L[k].2.1) ∧ (oc L)[k * 3 + 2]? = some (ci L[k].2.2) := by
  induction L generalizing k with
  | nil => simp at h
  | cons p L ih =>
    have e : oc (p :: L) = [ci p.1, ci p.2.1, ci p.2.2] ++ oc L := by simp [oc]
    rw [e]
    cases k with
    | zero => exact ⟨rfl, rfl, rfl⟩
    | succ k =>
      have := ih k (by simpa using h)
      rw [List.getElem?_append_right (by simp; omega), List.getElem?_append_right (by simp; omega), List.getElem?_append_right (by simp; omega)]
      have e1 : (k + 1) * 3 - [ci p.1, ci p.2.1, ci p.2.2].length = k * 3 := by simp; omega
      have e2 : (k + 1) * 3 + 1 - [ci p.1, ci p.2.1, ci p.2.2].length = k * 3 + 1 := by simp; omega
      have e3 : (k + 1) * 3 + 2 - [ci p.1, ci p.2.1, ci p.2.2].length = k * 3 + 2 := by simp; omega
      rw [e1, e2, e3]
      simpa using this
theorem oc_length (L : List OpT) : (oc L).length = L.length * 3 := by
  induction L with
  | nil => rfl
  | cons p L ih => simp only [oc, List.flatMap_cons, List.length_append, List.length_cons, List.length_nil] at ih ⊢; omega
theorem reads_op {w : World} {B n k : Nat} {A : Option Addr} {L : List OpT} (h : Reads w B 3 A n (oc L)) (hk : k < L.length) :
    ∃ g o, A = some ⟨g, o, none⟩ ∧ g < B ∧ w.cell? ⟨g, o + k * 3, none⟩ = some (ci L[k].1) ∧ w.cell? ⟨g, o + k * 3 + 1, none⟩ = some (ci L[k].2.1) ∧ w.cell? ⟨g, o + k * 3 + 2, none⟩ = some (ci L[k].2.2) := by
  have hn : L.length = n := by have := h.1; rw [oc_length] at this; omega
  obtain ⟨⟨g, o, sp⟩, rfl, hb, hc⟩ := h.2 (by omega)
  have hs : sp = none := by
    have h0 := hc 0 ((oc L)[0]'(by rw [oc_length]; omega)) (by simp)
    have := World.cell?_spot h0
    simpa [Addr.add] using this
  subst hs
  obtain ⟨g1, g2, g3⟩ := oc_get L k hk
  have c1 := hc _ _ g1
  have c2 := hc _ _ g2
  have c3 := hc _ _ g3
  rw [Addr.add_lit] at c1 c2 c3
  exact ⟨g, o, rfl, hb, c1, by rw [Nat.add_assoc]; exact c2, by rw [Nat.add_assoc]; exact c3⟩
theorem wrap_in (v : Int) : -9223372036854775808 ≤ wrap64 v ∧ wrap64 v ≤ 9223372036854775807 := by
  unfold wrap64; omega
theorem live_spared {w0 W W' : World} {K K3 : Nat → Prop} {a g b : Nat} {C : Noted Int} (h : hInt.Is W (fun i => a ≤ i ∧ i < W.heap.size) g b C) (hs : hInt.Spared K3 W W') (hk : ∀ i, a ≤ i → i < W.heap.size → K3 i) (hK : ∀ i, K i → i < a)
    (h0 : w0.heap.size ≤ a) (hb : Below w0.heap.size w0 W') : hInt.Live w0 W' K g b C :=
  ⟨_, fun i hi => ⟨Nat.le_trans h0 hi.1, fun k => by have := hK i k; have := hi.1; omega⟩, h.keep fun j hj hj' => hs.2 j hj (hk j hj'.1 hj'.2), hb⟩
set_option maxRecDepth 100000 in
set_option maxHeartbeats 6400000 in
theorem hintsDo_few (A : Option Addr) (n c : Nat) (l : List OpT) (hn : n ≤ 300) (w : World) (hr : Reads w w.heap.size 3 A n (oc l)) (hl : l.length = n) (hO : ∀ o ∈ l, InO o) :
    Calls Try.prog 7 #[.slice A n c] w fun e w' => e = .returned (.bool true) ∧ Below w.heap.size w w' := by
  have HL := hide hl
  have HR := hide hr
  have HO := hide hO
  clear hl hr hO
  have hd : decide ((300 : Int) < (n : Int)) = false := by simp; omega
  have HNew := hide (hInt.live_new' (w0 := w) (W := w) (K := fun _ => False) (Below.refl _ _) (there0' _))
  go_enter Try.func7, Try.ntmps7
  go_wp2_with (first
    | (go_at_call 26; (with_reducible refine HNew.out.mono ?_); rintro e w1 ⟨g0, b0, rfl, hl1, hb1, hn1, hn2⟩; replace hl1 := hide hl1; clear hb1 hn1 hn2)
    | fail)
  go_loopw [3, 4, 27] (fun x v i wr => ∃ (k g b : Nat) (C : Noted Int) (L : PairL), k ≤ n ∧ i = .int .i64 (k : Int) ∧ x = .pointer (some ⟨g, 0, none⟩) ∧ Hid (DoI w wr v g b C L) ∧ L.length ≤ k) (fun _ _ i _ => n - (intOf i).toNat)
  case atStart => exact ⟨0, g0, b0, [], [], Nat.zero_le _, rfl, rfl, hide ⟨hl1.out.more fun i hi _ => by simp [Value.ownBlock] at hi, World.ownsRow_nil _ _ _ _, DoR.nil⟩, Nat.zero_le _⟩
  case round =>
    clear hl1 HNew
    obtain ⟨wz, rfl⟩ : ∃ wz : World, wz = wr := ⟨_, rfl⟩
    obtain ⟨k, g, b, C, L, hk, rfl, rfl, HD, hLk⟩ := hrel
    by_cases hlt : k < n
    · have hd1 : decide ((k : Int) < (n : Int)) = true := by simpa using hlt
      obtain ⟨ga, oa, rfl, hga, c1, c2, c3⟩ := reads_op HR.out (k := k) (by rw [HL.out]; exact hlt)
      replace c1 := (HD.out.live.below.cell (p := ⟨ga, oa + k * 3, none⟩) hga).trans c1
      replace c2 := (HD.out.live.below.cell (p := ⟨ga, oa + k * 3 + 1, none⟩) hga).trans c2
      replace c3 := (HD.out.live.below.cell (p := ⟨ga, oa + k * 3 + 2, none⟩) hga).trans c3
      have hb := HO.out _ (List.getElem_mem (show k < l.length by rw [HL.out]; exact hlt))
      generalize (l[k]'(by rw [HL.out]; exact hlt)) = p at *
      obtain ⟨z, x, y⟩ := p
      obtain ⟨hz, hx, hy⟩ := hb
      dsimp only at c1 c2 c3 hz hx hy
      obtain ⟨A4, c4, rfl⟩ := own_slice HD.out.own
      obtain ⟨ob, hob⟩ : ∃ ob, ob = wz.heap.size := ⟨_, rfl⟩
      obtain ⟨W1, hW1⟩ : ∃ W1, W1 = wz.alloc (.cells #[.int .i64 z, .int .i64 x, .int .i64 y] 55) := ⟨_, rfl⟩
      have hbl : Below wz.heap.size wz W1 := by rw [hW1]; exact (Below.refl _ _).alloc (Nat.le_refl _) _
      have HLv := hide ((HD.out.live.more (K' := fun i => (Value.slice A4 L.length c4).ownBlock = some i ∨ i = ob) (fun i hi hn => by rw [hob] at hi; rcases hi with hi | hi; exact absurd hi hn; omega)).later hbl)
      have HOw := hide (own_block HD.out.own fun r hr => hbl.block r (own_lt HD.out.own hr).2)
      have HDo := hide HD.out.rel
      have HBx := hide (show Blk W1 ob 55 #[.int .i64 z, .int .i64 x, .int .i64 y] by rw [hW1, hob]; exact Blk.new wz _ _)
      have lb : ob < W1.heap.size := HBx.out.lt
      have hk0 : (0 : Int) ≤ (k : Int) := by omega
      clear HD hbl
      go_upto_region 9 with (fail)
      rename_i K2 a2 K1 a1 K0 a0
      rw [← hW1, ← hob]
      clear hW1 hob
      have k1 : W1.cell? ⟨ob, 1, none⟩ = some (.int .i64 x) := (HBx.out.cell 1).trans rfl
      have k2 : W1.cell? ⟨ob, 2, none⟩ = some (.int .i64 y) := (HBx.out.cell 2).trans rfl
      have HJ := hide (show ∀ (t7 t8 t9 t10 t11 t29 t30 t31 t32 t33 t34 t35 t36 t37 t38 t39 t40 t41 t42 t43 t44 t45 t46 t47 t48 t49 t50 t51 t52 t53 t54 t55 t56 t57 t58 t59 t60 t61 t62 t63 t64 t65 t66 t67 t68 t69 t70 t71 t72 t73 t74 t75 t76 t77 t78 t79 t80 t81 t82 t83 t84 t85 t86 t87 t88 t89 t90 t91 t92 t93 t94 t95 t96 t97 t98 t99 t100 t101 t102 t103 t104 t105 t106 t107 t108 t109 t110 t111 t112 t113 t114 t115 t116 t117 t118 t119 t120 t121 t122 t123 t124 t125 t126 t127 t128 t129 t130 t131 t132 t133 t134 : Value) (W : World) (g b : Nat) (C : Noted Int) (L : PairL) (A4 : Option Addr) (c4 : Nat), Hid (hInt.Live w W (fun i => (Value.slice A4 L.length c4).ownBlock = some i ∨ i = ob) g b C) → Hid (W.ownsRow w.heap.size 49 2 (.slice A4 L.length c4) L.length (pc L)) → Hid (DoR C L) → Hid (Blk W ob 55 #[.int .i64 z, .int .i64 x, .int .i64 y]) → L.length ≤ k + 1 → K1 { tmps := #[.slice (some ⟨ga, oa, none⟩) n c, undef, u2, .pointer (some ⟨g, 0, none⟩), .slice A4 L.length c4, undef, .pointer (some ⟨ob, 0, none⟩), t7, t8, t9, t10, t11, .pointer (some ⟨g0, 0, none⟩), .slice (some ⟨ga, oa, none⟩) n c, .int .i64 (n : Int), .bool false, .bool false, .pointer (some ⟨g0, 0, none⟩), .bool false, .bool false, undef, undef, undef, undef, undef, .slice (some ⟨ga, oa, none⟩) n c, .int .i64 (n : Int), .int .i64 (k : Int), .bool true, t29, t30, t31, t32, t33, t34, t35, t36, t37, t38, t39, t40, t41, t42, t43, t44, t45, t46, t47, t48, t49, t50, t51, t52, t53, t54, t55, t56, t57, t58, t59, t60, t61, t62, t63, t64, t65, t66, t67, t68, t69, t70, t71, t72, t73, t74, t75, t76, t77, t78, t79, t80, t81, t82, t83, t84, t85, t86, t87, t88, t89, t90, t91, t92, t93, t94, t95, t96, t97, t98, t99, t100, t101, t102, t103, t104, t105, t106, t107, t108, t109, t110, t111, t112, t113, t114, t115, t116, t117, t118, t119, t120, t121, t122, t123, t124, t125, t126, t127, t128, t129, t130, t131, t132, t133, t134, undef], defers := [] } W from by
        clear a0 HLv HOw HDo HBx lb k1 k2 hLk
        intro t7 t8 t9 t10 t11 t29 t30 t31 t32 t33 t34 t35 t36 t37 t38 t39 t40 t41 t42 t43 t44 t45 t46 t47 t48 t49 t50 t51 t52 t53 t54 t55 t56 t57 t58 t59 t60 t61 t62 t63 t64 t65 t66 t67 t68 t69 t70 t71 t72 t73 t74 t75 t76 t77 t78 t79 t80 t81 t82 t83 t84 t85 t86 t87 t88 t89 t90 t91 t92 t93 t94 t95 t96 t97 t98 t99 t100 t101 t102 t103 t104 t105 t106 t107 t108 t109 t110 t111 t112 t113 t114 t115 t116 t117 t118 t119 t120 t121 t122 t123 t124 t125 t126 t127 t128 t129 t130 t131 t132 t133 t134 W g b C L A4 c4 HLv HOw HDo HBx hLk
        have lb : ob < W.heap.size := HBx.out.lt
        apply a1
        clear a1
        have hkl : L.length ≤ 301 := by omega
        have k1 : W.cell? ⟨ob, 1, none⟩ = some (.int .i64 x) := (HBx.out.cell 1).trans rfl
        have k2 : W.cell? ⟨ob, 2, none⟩ = some (.int .i64 y) := (HBx.out.cell 2).trans rfl
        have htot : totalOf C ≤ 301 := by rw [HDo.out.tot]; exact hkl
        obtain ⟨xs, hxs⟩ : ∃ xs, xs = valsP L x := ⟨_, rfl⟩
        have HXs := hide hxs
        have hxl : xs.length ≤ 301 := by rw [hxs]; exact Nat.le_trans (valsP_len _ _) hkl
        have HPs : Hid (∀ W', Below W.heap.size W W' → PairsAt W' (.slice A4 L.length c4) L) := hide fun W' hb => PairsAt.own (base := w.heap.size) (own_block HOw.out fun r hr => hb.block r (own_lt HOw.out hr).2)
        have HAt : Hid (∀ W', Below W.heap.size W W' → Calls Try.prog 28 #[.pointer (some ⟨g, 0, none⟩), .int .i64 x] W' fun e w' => ∃ v, e = .returned v ∧ w'.ownsRow W'.heap.size 3 1 v xs.length (xs.map ci) ∧ Below W'.heap.size W' w') := hide fun W' hb => by
          have := hInt.live_at x hx (HLv.out.later hb) (by omega)
          rw [HDo.out.vals, ← HXs.out] at this; exact this
        have HRAt : Hid (∀ W', Below W.heap.size W W' → Calls Try.prog 37 #[.slice A4 L.length c4, .int .i64 x] W' fun e w' => ∃ v, e = .returned v ∧ w'.ownsRow W'.heap.size 3 1 v xs.length (xs.map ci) ∧ Below W'.heap.size W' w') := hide fun W' hb => by
          have := refat_any _ L x W' (HPs.out W' hb) (by omega)
          rw [← HXs.out] at this; exact this
        obtain ⟨bb, hbb⟩ : ∃ bb, bb = decide ((x, y) ∈ L) := ⟨_, rfl⟩
        have HHas : Hid (∀ W', Below W.heap.size W W' → Calls Try.prog 31 #[.pointer (some ⟨g, 0, none⟩), .int .i64 x, .int .i64 y] W' fun e w' => e = .returned (.bool bb) ∧ Below W'.heap.size W' w') := hide fun W' hb => by
          have := hInt.live_has x hx y (HLv.out.later hb) (by omega)
          rw [show decide (y ∈ valsOf C x) = bb by rw [hbb]; exact decide_eq_decide.2 (HDo.out.mem x y)] at this; exact this
        have HRHas : Hid (∀ W', Below W.heap.size W W' → Calls Try.prog 38 #[.slice A4 L.length c4, .int .i64 x, .int .i64 y] W' fun e w' => e = .returned (.bool bb) ∧ W' = w') := hide fun W' hb => by
          obtain ⟨A, c, e, h1, h2⟩ := HPs.out W' hb
          cases e
          rw [hbb]; exact refhas_any A4 L.length c4 L x y W' h1 (by omega)
        obtain ⟨nk, hnk⟩ : ∃ nk, nk = (keysP (L.map (·.1))).length := ⟨_, rfl⟩
        have HKy : Hid (∀ W', Below W.heap.size W W' → Calls Try.prog 32 #[.pointer (some ⟨g, 0, none⟩)] W' fun e w' => e = .returned (.int .i64 (nk : Int)) ∧ W' = w') := hide fun W' hb => by
          obtain ⟨S, _, h2, _⟩ := HLv.out.later hb
          rw [hnk, ← HDo.out.keys HLv.out.keys HLv.out.nonempty]; exact hInt.keys_live W' S g b C h2
        have HRKy : Hid (∀ W', Below W.heap.size W W' → Calls Try.prog 39 #[.slice A4 L.length c4] W' fun e w' => e = .returned (.int .i64 (nk : Int)) ∧ Below W'.heap.size W' w') := hide fun W' hb => by
          rw [hnk]; exact refkeys_any _ L W' (HPs.out W' hb) (by omega)
        have HLn : Hid (∀ W', Below W.heap.size W W' → Calls Try.prog 29 #[.pointer (some ⟨g, 0, none⟩)] W' fun e w' => e = .returned (.int .i64 (L.length : Int)) ∧ W' = w') := hide fun W' hb => by
          obtain ⟨S, _, h2, _⟩ := HLv.out.later hb
          rw [← HDo.out.tot]; exact hInt.len_live W' S g b C h2
        have nb1 : (bb != bb) = false := by simp
        have nb2 : ((nk : Int) != (nk : Int)) = false := by simp
        have nb3 : ((L.length : Int) != (L.length : Int)) = false := by simp
        clear hxs hbb hnk htot
        go_wp2_with fail
        apply wp_region_rel (C := fun W' => Below W.heap.size W W') (M := fun W W' => Below W.heap.size W W') (ss := [_, _, _, _, _, _, _, _, _, _, _, _, _, _, _, _, _, _, _, _, _, _, _, _, _, _, _, _, _, _, _, _, _, _, _, _, _, _, _, _, _, _, _]) (by kernel_rfl) (by kernel_rfl) (by kernel_rfl) (Below.refl _ _).drew
        iterate 6 (first
          | (apply relWalk_const (fun W => Below.refl _ _)
             · (intro W9 hC hF
                clear hF
                have q1 := ((hC.cell (p := ⟨ob, 1, none⟩) lb).trans k1)
                have q2 := ((hC.cell (p := ⟨ob, 2, none⟩) lb).trans k2)
                clear hC
                go_simp
                with_reducible exact rfl)
             (try simp only [Act.put, List.setIfInBounds_toArray, List.set_cons_zero, List.set_cons_succ])))
        apply relWalk_rel (IsRow xs.length) (SliceOfI xs) ⟨_, none, 0, rfl⟩ SliceOfI.later
        · go_simp
        · intro W9 hC hF
          refine gives_call rfl [.pointer (some ⟨g, 0, none⟩), .int .i64 x] rfl (enters_of Try.func28 (by kernel_rfl) rfl) ?_
          refine (HAt.out W9 hC).mono ?_
          rintro e w' ⟨v9, rfl, ho, hb⟩
          obtain ⟨A9, c9, rfl⟩ := own_slice ho
          exact ⟨_, rfl, ⟨A9, c9, rfl⟩, SliceOfI.mk ho, below_next hC hb, hb⟩
        rintro v9 ⟨A7, c7, rfl⟩
        (try simp only [Act.put, List.setIfInBounds_toArray, List.set_cons_zero, List.set_cons_succ])
        iterate 3 (first
          | (apply relWalk_const (fun W => Below.refl _ _)
             · (intro W9 hC hF
                clear hF
                have q1 := ((hC.cell (p := ⟨ob, 1, none⟩) lb).trans k1)
                have q2 := ((hC.cell (p := ⟨ob, 2, none⟩) lb).trans k2)
                clear hC
                go_simp
                with_reducible exact rfl)
             (try simp only [Act.put, List.setIfInBounds_toArray, List.set_cons_zero, List.set_cons_succ])))
        apply relWalk_rel (IsRow xs.length) (SliceOfI xs) ⟨_, none, 0, rfl⟩ SliceOfI.later
        · go_simp
        · intro W9 hC hF
          refine gives_call rfl [.slice A4 L.length c4, .int .i64 x] rfl (enters_of Try.func37 (by kernel_rfl) rfl) ?_
          refine (HRAt.out W9 hC).mono ?_
          rintro e w' ⟨v9, rfl, ho, hb⟩
          obtain ⟨A9, c9, rfl⟩ := own_slice ho
          exact ⟨_, rfl, ⟨A9, c9, rfl⟩, SliceOfI.mk ho, below_next hC hb, hb⟩
        rintro v9 ⟨A8, c8', rfl⟩
        (try simp only [Act.put, List.setIfInBounds_toArray, List.set_cons_zero, List.set_cons_succ])
        apply relWalk_constW (c := .bool true)
        · go_simp
        · intro W9 hC hF
          refine gives_call rfl [.slice A7 xs.length c7, .slice A8 xs.length c8'] rfl (enters_of Try.func36 (by kernel_rfl) rfl) ?_
          have h8 := hF.1 (by kernel_rfl)
          have h7 := hF.2.1 (by kernel_rfl)
          refine (ints_any A7 A8 xs.length c7 xs.length c8' xs xs W9 (SliceOfI.reads (c := c7) h7) (SliceOfI.reads (c := c8') h8) (by omega) (by omega)).mono ?_
          rintro e w' ⟨rfl, hb⟩
          exact ⟨_, rfl, by simp, below_next hC hb, hb⟩
        (try simp only [Act.put, List.setIfInBounds_toArray, List.set_cons_zero, List.set_cons_succ])
        iterate 8 (first
          | (apply relWalk_const (fun W => Below.refl _ _)
             · (intro W9 hC hF
                clear hF
                have q1 := ((hC.cell (p := ⟨ob, 1, none⟩) lb).trans k1)
                have q2 := ((hC.cell (p := ⟨ob, 2, none⟩) lb).trans k2)
                clear hC
                go_simp
                with_reducible exact rfl)
             (try simp only [Act.put, List.setIfInBounds_toArray, List.set_cons_zero, List.set_cons_succ])))
        apply relWalk_constW (c := .bool bb)
        · go_simp
        · intro W9 hC hF
          refine gives_call rfl [.pointer (some ⟨g, 0, none⟩), .int .i64 x, .int .i64 y] rfl (enters_of Try.func31 (by kernel_rfl) rfl) ?_
          refine (HHas.out W9 hC).mono ?_
          rintro e w' ⟨rfl, hb⟩
          exact ⟨_, rfl, rfl, below_next hC hb, hb⟩
        (try simp only [Act.put, List.setIfInBounds_toArray, List.set_cons_zero, List.set_cons_succ])
        iterate 5 (first
          | (apply relWalk_const (fun W => Below.refl _ _)
             · (intro W9 hC hF
                clear hF
                have q1 := ((hC.cell (p := ⟨ob, 1, none⟩) lb).trans k1)
                have q2 := ((hC.cell (p := ⟨ob, 2, none⟩) lb).trans k2)
                clear hC
                go_simp
                with_reducible exact rfl)
             (try simp only [Act.put, List.setIfInBounds_toArray, List.set_cons_zero, List.set_cons_succ])))
        apply relWalk_constW (c := .bool bb)
        · go_simp
        · intro W9 hC hF
          refine gives_call rfl [.slice A4 L.length c4, .int .i64 x, .int .i64 y] rfl (enters_of Try.func38 (by kernel_rfl) rfl) ?_
          refine (HRHas.out W9 hC).mono ?_
          rintro e w' ⟨rfl, rfl⟩
          exact ⟨_, rfl, rfl, hC, Below.refl _ _⟩
        (try simp only [Act.put, List.setIfInBounds_toArray, List.set_cons_zero, List.set_cons_succ])
        iterate 4 (first
          | (apply relWalk_const (fun W => Below.refl _ _)
             · (intro W9 hC hF
                clear hF
                have q1 := ((hC.cell (p := ⟨ob, 1, none⟩) lb).trans k1)
                have q2 := ((hC.cell (p := ⟨ob, 2, none⟩) lb).trans k2)
                clear hC
                go_simp
                with_reducible exact rfl)
             (try simp only [Act.put, List.setIfInBounds_toArray, List.set_cons_zero, List.set_cons_succ])))
        apply relWalk_constW (c := .int .i64 (nk : Int))
        · go_simp
        · intro W9 hC hF
          refine gives_call rfl [.pointer (some ⟨g, 0, none⟩)] rfl (enters_of Try.func32 (by kernel_rfl) rfl) ?_
          refine (HKy.out W9 hC).mono ?_
          rintro e w' ⟨rfl, rfl⟩
          exact ⟨_, rfl, rfl, hC, Below.refl _ _⟩
        (try simp only [Act.put, List.setIfInBounds_toArray, List.set_cons_zero, List.set_cons_succ])
        iterate 1 (first
          | (apply relWalk_const (fun W => Below.refl _ _)
             · (intro W9 hC hF
                clear hF
                have q1 := ((hC.cell (p := ⟨ob, 1, none⟩) lb).trans k1)
                have q2 := ((hC.cell (p := ⟨ob, 2, none⟩) lb).trans k2)
                clear hC
                go_simp
                with_reducible exact rfl)
             (try simp only [Act.put, List.setIfInBounds_toArray, List.set_cons_zero, List.set_cons_succ])))
        apply relWalk_constW (c := .int .i64 (nk : Int))
        · go_simp
        · intro W9 hC hF
          refine gives_call rfl [.slice A4 L.length c4] rfl (enters_of Try.func39 (by kernel_rfl) rfl) ?_
          refine (HRKy.out W9 hC).mono ?_
          rintro e w' ⟨rfl, hb⟩
          exact ⟨_, rfl, rfl, below_next hC hb, hb⟩
        (try simp only [Act.put, List.setIfInBounds_toArray, List.set_cons_zero, List.set_cons_succ])
        iterate 4 (first
          | (apply relWalk_const (fun W => Below.refl _ _)
             · (intro W9 hC hF
                clear hF
                have q1 := ((hC.cell (p := ⟨ob, 1, none⟩) lb).trans k1)
                have q2 := ((hC.cell (p := ⟨ob, 2, none⟩) lb).trans k2)
                clear hC
                go_simp
                with_reducible exact rfl)
             (try simp only [Act.put, List.setIfInBounds_toArray, List.set_cons_zero, List.set_cons_succ])))
        apply relWalk_constW (c := .int .i64 (L.length : Int))
        · go_simp
        · intro W9 hC hF
          refine gives_call rfl [.pointer (some ⟨g, 0, none⟩)] rfl (enters_of Try.func29 (by kernel_rfl) rfl) ?_
          refine (HLn.out W9 hC).mono ?_
          rintro e w' ⟨rfl, rfl⟩
          exact ⟨_, rfl, rfl, hC, Below.refl _ _⟩
        (try simp only [Act.put, List.setIfInBounds_toArray, List.set_cons_zero, List.set_cons_succ])
        iterate 4 (first
          | (apply relWalk_const (fun W => Below.refl _ _)
             · (intro W9 hC hF
                clear hF
                have q1 := ((hC.cell (p := ⟨ob, 1, none⟩) lb).trans k1)
                have q2 := ((hC.cell (p := ⟨ob, 2, none⟩) lb).trans k2)
                clear hC
                go_simp
                with_reducible exact rfl)
             (try simp only [Act.put, List.setIfInBounds_toArray, List.set_cons_zero, List.set_cons_succ])))
        refine relWalk_nil fun W9 hC hF => ?_
        have HD9 := hide (show DoI w W9 (.slice A4 L.length c4) g b C L from ⟨(HLv.out.later hC).more fun i hi hn => absurd (.inl hi) hn, own_block HOw.out fun r hr => hC.block r (own_lt HOw.out hr).2, HDo.out⟩)
        clear hC hF HAt HRAt HHas HRHas HKy HRKy HLn HPs
        go_wp2
        go_roundw
        case rel => exact ⟨k + 1, g, b, C, L, by omega, by go_num, rfl, HD9, by omega⟩
        case measure => simp [intOf]; omega)
      clear a1
      have hTh : hInt.There W1 (fun i => (Value.slice A4 L.length c4).ownBlock = some i ∨ i = ob) := by
        rintro i (hi | rfl)
        · exact (own_lt HOw.out hi).2
        · exact lb
      by_cases hz0 : z = 0
      · subst hz0
        have HRN := hide (refnote_any _ L x y W1 (PairsAt.own HOw.out) (by omega))
        by_cases hm : (x, y) ∈ L
        · rw [decide_eq_false (by simpa using hm)] at HRN
          have HNt := hide (hInt.live_note x hx y hy HLv.out (by rw [HDo.out.tot]; omega) hTh)
          rw [decide_eq_false (by simpa using (HDo.out.mem x y).2 hm)] at HNt
          replace HDo := hide (HDo.out.same hm)
          obtain ⟨C', hC'⟩ : ∃ C', C' = hInt.noteC C x y := ⟨_, rfl⟩
          rw [← hC'] at HNt HDo
          clear hC' hTh
          have HM := hide hm
          clear hm
          go_wp2_with (first
            | (go_at_call 33; (with_reducible refine HRN.out.mono ?_); rintro e w2 ⟨u, rfl, hu, hb2⟩; obtain ⟨rfl, rfl⟩ : u = _ ∧ W1 = w2 := (by rcases hu with ⟨_, h1, h2⟩ | ⟨h1, _⟩; exact ⟨h1, h2⟩; exact absurd HM.out h1); clear hu hb2)
            | (go_at_call 27; (with_reducible refine HNt.out.mono ?_); rintro e w3 ⟨rfl, hl3, hs3⟩; replace HLv := hide hl3; replace HOw := hide (own_block HOw.out fun r hr => hs3.2 r (own_lt HOw.out hr).2 (.inl hr)); replace HBx := hide (hs3.blk HBx.out (.inr rfl)); clear hl3 hs3)
            | fail)
          with_reducible exact HJ.out _ _ _ _ _ _ _ _ _ _ _ _ _ _ _ _ _ _ _ _ _ _ _ _ _ _ _ _ _ _ _ _ _ _ _ _ _ _ _ _ _ _ _ _ _ _ _ _ _ _ _ _ _ _ _ _ _ _ _ _ _ _ _ _ _ _ _ _ _ _ _ _ _ _ _ _ _ _ _ _ _ _ _ _ _ _ _ _ _ _ _ _ _ _ _ _ _ _ _ _ _ _ _ _ _ _ _ _ _ _ _ _ _ _ _ _ _ _ HLv HOw HDo HBx (by omega)
        · rw [decide_eq_true hm] at HRN
          have hdn := decide_eq_true (show y ∉ valsOf C x from fun h => hm ((HDo.out.mem x y).1 h))
          have htot : totalOf C ≤ 549755813888 := by rw [HDo.out.tot]; omega
          replace HDo := hide (HDo.out.note HLv.out.keys hm)
          obtain ⟨C', hC'⟩ : ∃ C', C' = hInt.noteC C x y := ⟨_, rfl⟩
          obtain ⟨L', hL'⟩ : ∃ L', L' = L ++ [(x, y)] := ⟨_, rfl⟩
          rw [← hC', ← hL'] at HDo
          rw [← hL'] at HRN
          have hLk' : L'.length ≤ k + 1 := by rw [hL', List.length_append]; simp; omega
          have HM := hide hm
          have HDn := hide hdn
          have HC' := hide hC'
          clear hC' hL' hTh hm hdn
          go_wp2_with (first
            | (go_at_call 33; (with_reducible refine HRN.out.mono ?_); rintro e w2 ⟨u, rfl, hu, hb2⟩; replace hu := (hu.resolve_left fun h => HM.out h.1).2; obtain ⟨A5, c5, rfl⟩ := own_slice hu; have HLw := hide ((HLv.out.more (K' := fun i => (Value.slice A5 L'.length c5).ownBlock = some i ∨ i = ob) (fun i hi hn => by rcases hi with hi | hi; exact (own_lt hu hi).1; exact absurd (.inr hi) hn)).later hb2); have hTw : hInt.There w2 (fun i => (Value.slice A5 L'.length c5).ownBlock = some i ∨ i = ob) := (by rintro i (hi | rfl); exact (own_lt hu hi).2; exact Nat.lt_of_lt_of_le lb hb2.size); replace HOw := hide (own_less hu HLv.out.below.size); replace HBx := hide (show Blk w2 ob 55 #[.int .i64 0, .int .i64 x, .int .i64 y] from (hb2.block _ lb).trans HBx.out); replace k1 : w2.cell? ⟨ob, 1, none⟩ = some (.int .i64 x) := (HBx.out.cell 1).trans rfl; replace k2 : w2.cell? ⟨ob, 2, none⟩ = some (.int .i64 y) := (HBx.out.cell 2).trans rfl; have HNt := hide (hInt.live_note x hx y hy HLw.out htot hTw); rw [HDn.out, ← HC'.out] at HNt; clear hu hb2 HLv HLw hTw lb)
            | (go_at_call 27; (with_reducible refine HNt.out.mono ?_); rintro e w3 ⟨rfl, hl3, hs3⟩; have HLv := hide hl3; replace HOw := hide (own_block HOw.out fun r hr => hs3.2 r (own_lt HOw.out hr).2 (.inl hr)); replace HBx := hide (hs3.blk HBx.out (.inr rfl)); clear hl3 hs3)
            | fail)
          with_reducible exact HJ.out _ _ _ _ _ _ _ _ _ _ _ _ _ _ _ _ _ _ _ _ _ _ _ _ _ _ _ _ _ _ _ _ _ _ _ _ _ _ _ _ _ _ _ _ _ _ _ _ _ _ _ _ _ _ _ _ _ _ _ _ _ _ _ _ _ _ _ _ _ _ _ _ _ _ _ _ _ _ _ _ _ _ _ _ _ _ _ _ _ _ _ _ _ _ _ _ _ _ _ _ _ _ _ _ _ _ _ _ _ _ _ _ _ _ _ _ _ _ HLv HOw HDo HBx hLk'
      · have hz0b : (z == 0) = false := by simpa using hz0
        by_cases hz1 : z = 1
        · subst hz1
          have HRN := hide (refstrike_any _ L x y W1 (PairsAt.own HOw.out) (by omega))
          have htot : totalOf C ≤ 549755813888 := by rw [HDo.out.tot]; omega
          obtain ⟨bb, hbb⟩ : ∃ bb, bb = decide ((x, y) ∈ L) := ⟨_, rfl⟩
          have hdn : decide (y ∈ valsOf C x) = bb := by rw [hbb]; exact decide_eq_decide.2 (HDo.out.mem x y)
          replace HDo := hide (HDo.out.strike HLv.out.keys x y)
          obtain ⟨C', hC'⟩ : ∃ C', C' = hInt.strikeC C x y := ⟨_, rfl⟩
          obtain ⟨L', hL'⟩ : ∃ L', L' = without L (x, y) := ⟨_, rfl⟩
          rw [← hC', ← hL'] at HDo
          rw [← hL', ← hbb] at HRN
          have hLk' : L'.length ≤ k + 1 := by rw [hL']; have := without_len L (x, y); omega
          have HDn := hide hdn
          have HC' := hide hC'
          have nbb : (bb != bb) = false := by simp
          clear hC' hL' hTh hbb hdn
          go_wp2_with (first
            | (go_at_call 34; (with_reducible refine HRN.out.mono ?_); rintro e w2 ⟨u, rfl, hu, hb2⟩; obtain ⟨A5, c5, rfl⟩ := own_slice hu; have HLw := hide ((HLv.out.more (K' := fun i => (Value.slice A5 L'.length c5).ownBlock = some i ∨ i = ob) (fun i hi hn => by rcases hi with hi | hi; exact (own_lt hu hi).1; exact absurd (.inr hi) hn)).later hb2); have hTw : hInt.There w2 (fun i => (Value.slice A5 L'.length c5).ownBlock = some i ∨ i = ob) := (by rintro i (hi | rfl); exact (own_lt hu hi).2; exact Nat.lt_of_lt_of_le lb hb2.size); replace HOw := hide (own_less hu HLv.out.below.size); replace HBx := hide (show Blk w2 ob 55 #[.int .i64 1, .int .i64 x, .int .i64 y] from (hb2.block _ lb).trans HBx.out); replace k1 : w2.cell? ⟨ob, 1, none⟩ = some (.int .i64 x) := (HBx.out.cell 1).trans rfl; replace k2 : w2.cell? ⟨ob, 2, none⟩ = some (.int .i64 y) := (HBx.out.cell 2).trans rfl; have HNt := hide (hInt.live_strike x hx y hy HLw.out htot hTw); rw [HDn.out, ← HC'.out] at HNt; clear hu hb2 HLv HLw hTw lb)
            | (go_at_call 30; (with_reducible refine HNt.out.mono ?_); rintro e w3 ⟨rfl, hl3, hs3, _⟩; have HLv := hide hl3; replace HOw := hide (own_block HOw.out fun r hr => hs3.2 r (own_lt HOw.out hr).2 (.inl hr)); replace HBx := hide (hs3.blk HBx.out (.inr rfl)); clear hl3 hs3)
            | fail)
          with_reducible exact HJ.out _ _ _ _ _ _ _ _ _ _ _ _ _ _ _ _ _ _ _ _ _ _ _ _ _ _ _ _ _ _ _ _ _ _ _ _ _ _ _ _ _ _ _ _ _ _ _ _ _ _ _ _ _ _ _ _ _ _ _ _ _ _ _ _ _ _ _ _ _ _ _ _ _ _ _ _ _ _ _ _ _ _ _ _ _ _ _ _ _ _ _ _ _ _ _ _ _ _ _ _ _ _ _ _ _ _ _ _ _ _ _ _ _ _ _ _ _ _ HLv HOw HDo HBx hLk'
        · have hz1b : (z == 1) = false := by simpa using hz1
          by_cases hz2 : z = 2
          · subst hz2
            have HCl := hide (live_clone HLv.out (by rw [HDo.out.tot]; omega) hTh)
            have htot : totalOf C ≤ 301 := by rw [HDo.out.tot]; omega
            have hks := HLv.out.keys
            have HTh := hide hTh
            clear hTh
            go_wp2_with (first
              | (go_at_call 35; (with_reducible refine HCl.out.mono ?_); rintro e w2 ⟨g2, b2, C2, rfl, hp, hb2, hl2, hl2', hi2⟩; have hTw : hInt.There w2 (fun i => ((Value.slice A4 L.length c4).ownBlock = some i ∨ i = ob) ∨ (W1.heap.size ≤ i ∧ i < w2.heap.size)) := (by rintro i (hi | hi); exact Nat.lt_of_lt_of_le (HTh.out i hi) hb2.size; exact hi.2); have HI2 := hide hi2; have HNt := hide (hInt.live_note x hx (wrap64 (y + 1)) (wrap_in _) hl2' (by omega) hTw); replace HDo := hide (HDo.out.perm hks hp); have HTw := hide hTw; have HB2 := hide hb2; have HOw2 := hide (own_block HOw.out fun r hr => hb2.block r (own_lt HOw.out hr).2); have HBx2 := hide (show Blk w2 ob 55 #[.int .i64 2, .int .i64 x, .int .i64 y] from (hb2.block _ lb).trans HBx.out); replace k1 : w2.cell? ⟨ob, 1, none⟩ = some (.int .i64 x) := (HBx2.out.cell 1).trans rfl; replace k2 : w2.cell? ⟨ob, 2, none⟩ = some (.int .i64 y) := (HBx2.out.cell 2).trans rfl; clear hp hb2 hl2 hl2' hi2 hTw)
              | (go_at_call 27; (with_reducible refine HNt.out.mono ?_); rintro e w3 ⟨rfl, hl3, hs3⟩; have HSt := hide (hInt.live_strike x hx y hy hl3 (by rw [hInt.total_note hks]; split <;> omega) (HTw.out.later hs3.1)); have HS3 := hide hs3; replace k1 : w3.cell? ⟨ob, 1, none⟩ = some (.int .i64 x) := ((hs3.blk HBx2.out (.inl (.inr rfl))).cell 1).trans rfl; replace k2 : w3.cell? ⟨ob, 2, none⟩ = some (.int .i64 y) := ((hs3.blk HBx2.out (.inl (.inr rfl))).cell 2).trans rfl; clear hl3 hs3)
              | (go_at_call 30; (with_reducible refine HSt.out.mono ?_); rintro e w4 ⟨rfl, hl4, hs4, _⟩; have hs := HS3.out.trans hs4; replace HLv := hide (live_spared (K := fun i => (Value.slice A4 L.length c4).ownBlock = some i ∨ i = ob) HI2.out hs (fun i h1 h2 => .inr ⟨h1, h2⟩) HTh.out HLv.out.below.size hl4.below); replace HOw := hide (own_block HOw2.out fun r hr => hs.2 r (own_lt HOw2.out hr).2 (.inl (.inl hr))); replace HBx := hide (hs.blk HBx2.out (.inl (.inr rfl))); clear hl4 hs4 hs)
              | fail)
            with_reducible exact HJ.out _ _ _ _ _ _ _ _ _ _ _ _ _ _ _ _ _ _ _ _ _ _ _ _ _ _ _ _ _ _ _ _ _ _ _ _ _ _ _ _ _ _ _ _ _ _ _ _ _ _ _ _ _ _ _ _ _ _ _ _ _ _ _ _ _ _ _ _ _ _ _ _ _ _ _ _ _ _ _ _ _ _ _ _ _ _ _ _ _ _ _ _ _ _ _ _ _ _ _ _ _ _ _ _ _ _ _ _ _ _ _ _ _ _ _ _ _ _ HLv HOw HDo HBx (by omega)
          · have hz2b : (z == 2) = false := by simpa using hz2
            go_wp2
            with_reducible exact HJ.out _ _ _ _ _ _ _ _ _ _ _ _ _ _ _ _ _ _ _ _ _ _ _ _ _ _ _ _ _ _ _ _ _ _ _ _ _ _ _ _ _ _ _ _ _ _ _ _ _ _ _ _ _ _ _ _ _ _ _ _ _ _ _ _ _ _ _ _ _ _ _ _ _ _ _ _ _ _ _ _ _ _ _ _ _ _ _ _ _ _ _ _ _ _ _ _ _ _ _ _ _ _ _ _ _ _ _ _ _ _ _ _ _ _ _ _ _ _ HLv HOw HDo HBx (by omega)
    · obtain rfl : k = n := by omega
      go_wp2_with (first
        | (go_at_call 19; with_reducible refine (alive24_any _).mono ?_; rintro e w5 ⟨rfl, hb5⟩; have B5 := hide (below_then HD.out.live.below HD.out.live.below.size hb5); clear hb5)
        | fail)
      go_ret
      exact ⟨rfl, B5.out⟩
set_option maxRecDepth 100000 in
theorem hintsDo_big (A : Option Addr) (n c : Nat) (hn : 300 < n) (w : World) :
    Calls Try.prog 7 #[.slice A n c] w fun e w' => e = .returned (.bool true) ∧ Below w.heap.size w w' := by
  have hd : decide ((300 : Int) < (n : Int)) = true := by simp; omega
  have HNew := hide (hInt.live_new' (w0 := w) (W := w) (K := fun _ => False) (Below.refl _ _) (there0' _))
  go_enter Try.func7, Try.ntmps7
  go_wp2_with (first
    | (go_at_call 26; (with_reducible refine HNew.out.mono ?_); rintro e w1 ⟨g0, b0, rfl, hl1, hb1, hn1, hn2⟩; have hL := hide hl1; clear hl1 hb1 hn1 hn2)
    | (go_at_call 19; with_reducible refine (alive24_any _).mono ?_; rintro e w5 ⟨rfl, hb5⟩; have B5 := hide (below_then hL.out.below hL.out.below.size hb5); clear hb5)
    | fail)
  go_ret
  exact ⟨rfl, B5.out⟩
theorem hintsDo_walk (w : World) (A0 : Option Addr) (n0 c0 : Nat) (L0 : List OpT) (r0 : Reads w w.heap.size 3 A0 n0 (oc L0)) (e0 : L0.length = n0) (p0 : ∀ o ∈ L0, InO o) :
    Calls Try.prog 7 #[.slice A0 n0 c0] w fun e w' => e = .returned (.bool true) ∧ Below w.heap.size w w' := by
  by_cases h : n0 ≤ 300
  · exact hintsDo_few A0 n0 c0 L0 h w r0 e0 p0
  · exact hintsDo_big A0 n0 c0 (by omega) w
end Go.Proofs.Ytccpkafmbmkmfaa
