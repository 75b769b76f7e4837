/- The walk of CipherMixes. No condition. -/
import Derived.Test.YtdeljodfanfbmaaCipherAlive
import Derived.Test.YtdeljodfanfbmaaColEq
import Derived.Test.YtdeljodfanfbmaaTwoNew
namespace Go.Proofs.Ytdeljodfanfbmaa
open Go.RowKit Go.Shelf
set_option linter.unusedVariables false
set_option linter.unusedSimpArgs false
attribute [local go_sem] Gives givesUpon
attribute [local irreducible] Gives

theorem Blk.col8 {w : World} {g : Nat} {l : List (BitVec 8)} {R : Array Value} (h : Blk w g 63 R) (hR : CVal l R) : Reads w w.heap.size 1 (some ⟨g, 0, none⟩) 4 (l.map c8) :=
  ⟨by simp [hR.len], fun _ => ⟨_, rfl, h.lt, fun j v hv => by rw [Addr.add_lit, Nat.zero_add, h.cell, hR.val, List.getElem?_toArray]; exact hv⟩⟩
theorem mix_xorL (a b : List (BitVec 8)) (ha : a.length = 4) (hb : b.length = 4) : byC mixRow (xorL a b) = xorL (byC mixRow a) (byC mixRow b) := by
  obtain ⟨a0, a1, a2, a3, rfl⟩ := four a ha
  obtain ⟨b0, b1, b2, b3, rfl⟩ := four b hb
  exact mix_xor a0 a1 a2 a3 b0 b1 b2 b3
theorem unmix_mixL (a : List (BitVec 8)) (ha : a.length = 4) : byC unRow (byC mixRow a) = a := by
  obtain ⟨a0, a1, a2, a3, rfl⟩ := four a ha
  exact unmix_mix a0 a1 a2 a3
theorem mix_unmixL (a : List (BitVec 8)) (ha : a.length = 4) : byC mixRow (byC unRow a) = a := by
  obtain ⟨a0, a1, a2, a3, rfl⟩ := four a ha
  exact mix_unmix a0 a1 a2 a3
/-- two columns, and what lies on -/
def MixI (w : World) (g0 g1 : Nat) (Va Vb : Array Value) (W : World) : Prop := Below w.heap.size w W ∧ Blk W g0 63 Va ∧ Blk W g1 63 Vb
theorem MixI.later {w W W' : World} {g0 g1 : Nat} {Va Vb : Array Value} (h : MixI w g0 g1 Va Vb W) (hb : Below W.heap.size W W') : MixI w g0 g1 Va Vb W' := ⟨below_next h.1 hb, h.2.1.below hb h.2.1.lt, h.2.2.below hb h.2.2.lt⟩
set_option maxRecDepth 100000 in
set_option maxHeartbeats 3200000 in
theorem cipherMixes_core (w : World) (a b : List (BitVec 8)) (Va Vb : Array Value) (hva : CVal a Va) (hvb : CVal b Vb) :
    Calls Try.prog 11 #[.agg Va, .agg Vb] w fun e w' => e = .returned (.bool true) ∧ Below w.heap.size w w' := by
  obtain ⟨Z, hZ, hZv⟩ := zeroC
  obtain ⟨W0, hW0, sz, b0, b1, hB⟩ := blks2 w 63 63 Va Vb
  obtain ⟨x, hx⟩ : ∃ x, x = byC mixRow a := ⟨_, rfl⟩
  obtain ⟨y, hy⟩ : ∃ y, y = byC mixRow b := ⟨_, rfl⟩
  obtain ⟨u, hu⟩ : ∃ u, u = byC unRow b := ⟨_, rfl⟩
  have xl : x.length = 4 := by rw [hx]; exact byC_len _ _
  have yl : y.length = 4 := by rw [hy]; exact byC_len _ _
  have ul : u.length = 4 := by rw [hu]; exact byC_len _ _
  obtain ⟨X, hX⟩ := cVal x xl
  obtain ⟨Y, hY⟩ := cVal y yl
  obtain ⟨U, hU⟩ := cVal u ul
  obtain ⟨s, hs⟩ : ∃ s, s = xorL a b := ⟨_, rfl⟩
  obtain ⟨t, ht⟩ : ∃ t, t = xorL x y := ⟨_, rfl⟩
  have al : a.length = 4 := hva.len
  have bl : b.length = 4 := hvb.len
  have sl : s.length = 4 := by rw [hs]; exact xorL_len _ _ 4 al bl
  have tl : t.length = 4 := by rw [ht]; exact xorL_len _ _ 4 xl yl
  obtain ⟨SV, hSV⟩ := cVal s sl
  obtain ⟨TV, hTV⟩ := cVal t tl
  have HMA : Hid (∀ W : World, Calls Try.prog 40 #[.agg Va] W fun e w' => e = .returned (.agg X) ∧ Below W.heap.size W w') := hide fun W => by rw [hX.val, hx]; exact cmix_any a Va hva W
  have HMB : Hid (∀ W : World, Calls Try.prog 40 #[.agg Vb] W fun e w' => e = .returned (.agg Y) ∧ Below W.heap.size W w') := hide fun W => by rw [hY.val, hy]; exact cmix_any b Vb hvb W
  have HUX : Hid (∀ W : World, Calls Try.prog 42 #[.agg X] W fun e w' => e = .returned (.agg Va) ∧ Below W.heap.size W w') := hide fun W => by
    have h := cunmix_any x X hX W
    rw [hx, unmix_mixL a al, ← hva.val] at h; exact h
  have HUB : Hid (∀ W : World, Calls Try.prog 42 #[.agg Vb] W fun e w' => e = .returned (.agg U) ∧ Below W.heap.size W w') := hide fun W => by rw [hU.val, hu]; exact cunmix_any b Vb hvb W
  have HMU : Hid (∀ W : World, Calls Try.prog 40 #[.agg U] W fun e w' => e = .returned (.agg Vb) ∧ Below W.heap.size W w') := hide fun W => by
    have h := cmix_any u U hU W
    rw [hu, mix_unmixL b bl, ← hvb.val] at h; exact h
  have HMS : Hid (∀ W : World, Calls Try.prog 40 #[.agg SV] W fun e w' => e = .returned (.agg TV) ∧ Below W.heap.size W w') := hide fun W => by
    have h := cmix_any s SV hSV W
    rw [hs, mix_xorL a b al bl, ← hx, ← hy, ← ht, ← hTV.val] at h; exact h
  have hqa : ∀ W : World, (Op.equalIn 10000 63 (.agg Va) (.agg Va)).run Try.prog W = .ok true W := fun W => by
    have h := eq_col a a al al W
    rw [← hva.val] at h; rw [h]; simp
  have hqb : ∀ W : World, (Op.equalIn 10000 63 (.agg Vb) (.agg Vb)).run Try.prog W = .ok true W := fun W => by
    have h := eq_col b b bl bl W
    rw [← hvb.val] at h; rw [h]; simp
  have hqt : ∀ W : World, (Op.equalIn 10000 63 (.agg TV) (.agg TV)).run Try.prog W = .ok true W := fun W => by
    have h := eq_col t t tl tl W
    rw [← hTV.val] at h; rw [h]; simp
  have Hqa := hide hqa
  have Hqb := hide hqb
  have Hqt := hide hqt
  have HSG : Hid (∀ (n : Nat) (p q : BitVec 8), a[n]? = some p → b[n]? = some q → s[n]? = some (p ^^^ q)) := hide fun n p q h1 h2 => by rw [hs, xorL, List.getElem?_zipWith, h1, h2]
  have HTG : Hid (∀ (n : Nat) (p q : BitVec 8), x[n]? = some p → y[n]? = some q → t[n]? = some (p ^^^ q)) := hide fun n p q h1 h2 => by rw [ht, xorL, List.getElem?_zipWith, h1, h2]
  have HRA : Hid (byC mixRow a = x) := hide hx.symm
  have HB := hide hB
  have HI0 : Hid (MixI w w.heap.size (w.heap.size + 1) Va Vb W0) := hide ⟨hB, b0, b1⟩
  replace hva := hide hva
  replace hvb := hide hvb
  replace hX := hide hX
  replace hY := hide hY
  replace hSV := hide hSV
  replace hTV := hide hTV
  replace hZ := hide hZ
  replace hZv := hide hZv
  replace hW0 := hide hW0
  replace xl := hide xl
  replace yl := hide yl
  replace al := hide al
  replace bl := hide bl
  replace sl := hide sl
  replace tl := hide tl
  replace sz := hide sz
  clear hx hy hu ul hU hs ht hqa hqb hqt hB b0 b1
  go_enter Try.func11, Try.ntmps11
  go_wp2
  rw [hW0.out]
  have hIc := HI0.out
  refine wp_region_joint (twoS Va X Vb Y) (TwoJ W0 63 Z X Y) (by kernel_rfl) (by kernel_rfl) (by kernel_rfl) ?ne ?start ?step ?fin
  case ne =>
    intro k hk
    unfold twoS
    match k with
    | 0 => exact ⟨_, rfl⟩
    | 1 => exact ⟨_, rfl⟩
    | 2 => exact ⟨_, rfl⟩
    | 3 => exact ⟨_, rfl⟩
    | 4 => exact ⟨_, 0, rfl⟩
    | 5 => exact ⟨_, 0, rfl⟩
    | _ + 6 => exact ⟨_, rfl⟩
  case start => exact fun vs => twoJ_start (Below.refl _ _).drew vs
  case step =>
    intro i o ho L vs W hL hd hS hJ
    have hi : i < 8 := (List.getElem?_eq_some_iff.1 ho).1
    have s0 : vs 0 = .agg Va := hS 0 (by simp)
    have s1 : vs 1 = .agg X := hS 1 (by simp)
    have s2 : vs 2 = .agg Vb := hS 2 (by simp)
    have s3 : vs 3 = .agg Y := hS 3 (by simp)
    have hIW := hIc.later hJ.1
    rcases (by omega : i = 0 ∨ i = 1 ∨ i = 2 ∨ i = 3 ∨ i = 4 ∨ i = 5 ∨ i = 6 ∨ i = 7) with rfl | rfl | rfl | rfl | rfl | rfl | rfl | rfl
    all_goals
      simp only [List.getElem?_cons_zero, List.getElem?_cons_succ, Option.some.injEq] at ho
      subst ho
      rw [if_pos (wanted_none _ rfl)]
      (try simp only [lay, Act.put, List.setIfInBounds_toArray, List.set_cons_zero, List.set_cons_succ, Nat.reduceAdd])
    · exact gives_load_row 63 _ rfl w.heap.size rfl 63 Va (0, 0) _ hIW.2.1 Try.underlying63 rfl hva.out.info ⟨rfl, twoJ_keep (by omega) hJ (Below.refl _ _)⟩
    · refine gives_call rfl [vs 0] rfl (enters_of Try.func40 (by kernel_rfl) rfl) ?_
      rw [s0]
      refine (HMA.out W).mono ?_
      rintro e w' ⟨rfl, hb⟩
      exact ⟨_, rfl, rfl, twoJ_keep (by omega) hJ hb⟩
    · exact gives_load_row 63 _ rfl (w.heap.size + 1) rfl 63 Vb (0, 0) _ hIW.2.2 Try.underlying63 rfl hvb.out.info ⟨rfl, twoJ_keep (by omega) hJ (Below.refl _ _)⟩
    · refine gives_call rfl [vs 2] rfl (enters_of Try.func40 (by kernel_rfl) rfl) ?_
      rw [s2]
      refine (HMB.out W).mono ?_
      rintro e w' ⟨rfl, hb⟩
      exact ⟨_, rfl, rfl, twoJ_keep (by omega) hJ hb⟩
    · exact gives_alloc _ rfl Z hZ.out ⟨⟨_, rfl⟩, twoJ_alloc4 hL hJ⟩
    · exact gives_alloc _ rfl Z hZ.out ⟨⟨_, rfl⟩, twoJ_alloc5 hL hJ⟩
    · obtain ⟨g, e, hb, hk⟩ := twoJ_store6 hL (hd 4 (by kernel_rfl)) hJ
      exact gives_store_row 63 _ _ rfl g (show vs 4 = _ from e) X (show vs 1 = _ from s1) 63 Z hb hX.out.info (by rw [hZv.out.size, hX.out.size]) hX.out.one ⟨rfl, hk _⟩
    · obtain ⟨g, e, hb, hk⟩ := twoJ_store7 hL (hd 5 (by kernel_rfl)) hJ
      exact gives_store_row 63 _ _ rfl g (show vs 5 = _ from e) Y (show vs 3 = _ from s3) 63 Z hb hY.out.info (by rw [hZv.out.size, hY.out.size]) hY.out.one ⟨rfl, hk _⟩
  intro L vs W1 hL hS hJ
  obtain ⟨gx, gy, e4, e5, hgx, hgy, h1, h2, hB1, hxy⟩ := twoJ_end hJ (fun k hk => hL k (by simpa using hk))
  have s0 : vs 0 = .agg Va := hS 0 (by simp)
  have s1 : vs 1 = .agg X := hS 1 (by simp)
  have s2 : vs 2 = .agg Vb := hS 2 (by simp)
  have s3 : vs 3 = .agg Y := hS 3 (by simp)
  have hI := hIc.later hB1
  simp only [List.length_cons, List.length_nil, Nat.zero_add, Nat.reduceAdd]
  simp only [lay, Act.put, List.setIfInBounds_toArray, List.set_cons_zero, List.set_cons_succ, Nat.reduceAdd, s0, s1, s2, s3, e4, e5, ptr2]
  clear hL hS hJ s0 s1 s2 s3 e4 e5 hIc hB1 hgx hgy hxy
  obtain ⟨W2, hW2, sz2, q5, q6, hB2⟩ := blks2 W1 63 63 Z Z
  have hb0 := hI.2.1.lt
  have hb1 := hI.2.2.lt
  have hbx := h1.lt
  have hby := h2.lt
  obtain ⟨ZL, hZL⟩ : ∃ ZL, ZL = List.replicate 4 0#8 := ⟨_, rfl⟩
  have zl : ZL.length = 4 := by rw [hZL]; rfl
  have HA1 := hide hI
  have HX1 := hide h1
  have HY1 := hide h2
  have G5 : Hid (Blk W2 W1.heap.size 63 ((half s ZL 0).map c8).toArray) := hide (by rw [half_zero, hZL, ← hZv.out.val]; exact q5)
  have G6 : Hid (Blk W2 (W1.heap.size + 1) 63 ((half t ZL 0).map c8).toArray) := hide (by rw [half_zero, hZL, ← hZv.out.val]; exact q6)
  have BW := hide hB2
  replace hW2 := hide hW2
  replace sz2 := hide sz2
  replace hZL := hide hZL
  replace zl := hide zl
  clear hI h1 h2 q5 q6 hB2
  go_wp2_with (refine wpList_alloc_is rfl 63 rfl Z hZ.out ?_)
  rw [hW2.out]
  go_loopw [14, 9] (fun v v9 wr => ∃ n : Nat, n ≤ 4 ∧ v = .int .i64 (n : Int) ∧ Hid (Blk wr W1.heap.size 63 ((half s ZL n).map c8).toArray) ∧ Hid (Blk wr (W1.heap.size + 1) 63 ((half t ZL n).map c8).toArray) ∧ Hid (Below W1.heap.size W1 wr)) (fun v _ _ => 4 - (intOf v).toNat)
  case atStart => exact ⟨0, by omega, rfl, G5, G6, BW⟩
  case round =>
    obtain ⟨n, hn, rfl, P5, P6, HP⟩ := hrel
    clear G5 G6 BW hW2 sz2
    by_cases hlt : n < 4
    · have hd : decide ((n : Int) < 4) = true := by simp; omega
      have hk0 : (0 : Int) ≤ (n : Int) := by omega
      have hk1 : (n : Int) < 4 := by omega
      obtain ⟨p, hp⟩ : ∃ p, a[n]? = some p := ⟨_, List.getElem?_eq_getElem (by rw [al.out]; exact hlt)⟩
      obtain ⟨q, hq⟩ : ∃ q, b[n]? = some q := ⟨_, List.getElem?_eq_getElem (by rw [bl.out]; exact hlt)⟩
      obtain ⟨p2, hp2⟩ : ∃ p, x[n]? = some p := ⟨_, List.getElem?_eq_getElem (by rw [xl.out]; exact hlt)⟩
      obtain ⟨q2, hq2⟩ : ∃ q, y[n]? = some q := ⟨_, List.getElem?_eq_getElem (by rw [yl.out]; exact hlt)⟩
      have IA := HA1.out.later HP.out
      have IX := HX1.out.below HP.out hbx
      have IY := HY1.out.below HP.out hby
      have c0 : Hid (wr.cell? ⟨w.heap.size, n, none⟩ = some (c8 p)) := hide (blk_get (by rw [← hva.out.val]; exact IA.2.1) n hp)
      have c1 : Hid (wr.cell? ⟨w.heap.size + 1, n, none⟩ = some (c8 q)) := hide (blk_get (by rw [← hvb.out.val]; exact IA.2.2) n hq)
      have c2 : Hid (wr.cell? ⟨gx, n, none⟩ = some (c8 p2)) := hide (blk_get (by rw [← hX.out.val]; exact IX) n hp2)
      have c3 : Hid (wr.cell? ⟨gy, n, none⟩ = some (c8 q2)) := hide (blk_get (by rw [← hY.out.val]; exact IY) n hq2)
      have hz := xor_u8 p q
      have hz2 := xor_u8 p2 q2
      obtain ⟨r, hr⟩ : ∃ r, r = p ^^^ q := ⟨_, rfl⟩
      obtain ⟨r2, hr2⟩ : ∃ r, r = p2 ^^^ q2 := ⟨_, rfl⟩
      rw [← hr] at hz
      rw [← hr2] at hz2
      have HS : Hid ((half s ZL n).set n r = half s ZL (n + 1)) := hide (half_set s ZL n _ (by rw [hr]; exact HSG.out n p q hp hq) (by rw [zl.out]; exact hlt))
      have HT : Hid ((half t ZL n).set n r2 = half t ZL (n + 1)) := hide (half_set t ZL n _ (by rw [hr2]; exact HTG.out n p2 q2 hp2 hq2) (by rw [zl.out]; exact hlt))
      have lw := HP.out.size
      have l5 := P5.out.lt
      have l6 := P6.out.lt
      obtain ⟨o5, d5⟩ : ∃ o, wr.cell? ⟨W1.heap.size, n, none⟩ = some o := ⟨_, (P5.out.cell n).trans (by rw [List.getElem?_toArray]; exact List.getElem?_eq_getElem (by rw [List.length_map, half_len s ZL n 4 sl.out zl.out hn]; exact hlt))⟩
      obtain ⟨o6, d6⟩ : ∃ o, wr.cell? ⟨W1.heap.size + 1, n, none⟩ = some o := ⟨_, (P6.out.cell n).trans (by rw [List.getElem?_toArray]; exact List.getElem?_eq_getElem (by rw [List.length_map, half_len t ZL n 4 tl.out zl.out hn]; exact hlt))⟩
      replace d5 := hide d5
      replace d6 := hide d6
      clear hp hq hp2 hq2 hr hr2 IA IX IY
      go_wp2
      apply wp_region_relT 9 (C := fun W => Below wr.heap.size wr W) (M := fun W W' => Below W.heap.size W W') (ss := [_, _, _, _, _, _, _, _, _]) (by kernel_rfl) (by kernel_rfl) (by kernel_rfl) (by kernel_rfl) (Below.refl _ _).drew
      simp only [List.take_succ_cons, List.take_zero, List.drop_succ_cons, List.drop_zero]
      repeat (first
        | (apply relWalk_const (fun W => Below.refl _ _)
           · (intro W hC hF
              clear hF
              have d0 := ((hC.cell (p := ⟨w.heap.size, n, none⟩) (show w.heap.size < _ by omega)).trans c0.out)
              have d1 := ((hC.cell (p := ⟨w.heap.size + 1, n, none⟩) (show w.heap.size + 1 < _ by omega)).trans c1.out)
              go_simp
              with_reducible exact rfl)
           (try simp only [Act.put, List.setIfInBounds_toArray, List.set_cons_zero, List.set_cons_succ])))
      apply relWalk_nil
      intro W hC hF
      clear hF
      have lw2 := hC.size
      have e5 := P5.out.below hC (by omega)
      have e6 := P6.out.below hC (by omega)
      have dc := ((hC.cell (p := ⟨W1.heap.size, n, none⟩) (show W1.heap.size < _ by omega)).trans d5.out)
      have df := e5.frozen n
      have e7 := e5.set8 (p := n) r
      rw [HS.out] at e7
      have e8 := e6.far (p := ⟨W1.heap.size, n, none⟩) (show W1.heap.size + 1 ≠ W1.heap.size by omega) (c8 r)
      have HB2 := hide ((HP.out.trans (hC.mono lw)).setCell (p := ⟨W1.heap.size, n, none⟩) (Nat.le_refl _) (c8 r))
      have f2 := (World.cell?_setCell_other W ⟨W1.heap.size, n, none⟩ ⟨gx, n, none⟩ (c8 r) (fun e => by injection e with e; omega)).trans ((hC.cell (p := ⟨gx, n, none⟩) (show gx < _ by omega)).trans c2.out)
      have f3 := (World.cell?_setCell_other W ⟨W1.heap.size, n, none⟩ ⟨gy, n, none⟩ (c8 r) (fun e => by injection e with e; omega)).trans ((hC.cell (p := ⟨gy, n, none⟩) (show gy < _ by omega)).trans c3.out)
      have f6 := (World.cell?_setCell_other W ⟨W1.heap.size, n, none⟩ ⟨W1.heap.size + 1, n, none⟩ (c8 r) (fun e => by injection e with e; omega)).trans ((hC.cell (p := ⟨W1.heap.size + 1, n, none⟩) (show W1.heap.size + 1 < _ by omega)).trans d6.out)
      have E7 := hide e7
      have E8 := hide e8
      have F2 := hide f2
      have F3 := hide f3
      have F6 := hide f6
      have hs5 : (W.setCell ⟨W1.heap.size, n, none⟩ (c8 r)).heap.size = W.heap.size := by simp
      obtain ⟨V, hV⟩ : ∃ V, V = W.setCell ⟨W1.heap.size, n, none⟩ (c8 r) := ⟨_, rfl⟩
      rw [← hV] at E7 E8 F2 F3 F6 HB2 hs5
      have HV := hide hV.symm
      clear hz e5 e6 e7 e8 f2 f3 f6 hC P5 P6 HP c0 c1 c2 c3 d5 d6 HS hV
      go_wp2_with fail
      rw [show (.int .u8 (r.toNat : Int) : Value) = c8 r from rfl, HV.out]
      clear dc df
      apply wp_region_relT 9 (C := fun W => Below V.heap.size V W) (M := fun W W' => Below W.heap.size W W') (ss := [_, _, _, _, _, _, _, _, _]) (by kernel_rfl) (by kernel_rfl) (by kernel_rfl) (by kernel_rfl) (Below.refl _ _).drew
      simp only [List.take_succ_cons, List.take_zero, List.drop_succ_cons, List.drop_zero]
      repeat (first
        | (apply relWalk_const (fun W => Below.refl _ _)
           · (intro W hC hF
              clear hF
              have d0 := ((hC.cell (p := ⟨gx, n, none⟩) (show gx < _ by omega)).trans F2.out)
              have d1 := ((hC.cell (p := ⟨gy, n, none⟩) (show gy < _ by omega)).trans F3.out)
              go_simp
              with_reducible exact rfl)
           (try simp only [Act.put, List.setIfInBounds_toArray, List.set_cons_zero, List.set_cons_succ])))
      apply relWalk_nil
      intro W3 hC hF
      clear hF
      have lw3 := hC.size
      have e5 := E7.out.below hC (by omega)
      have e6 := E8.out.below hC (by omega)
      have dc := ((hC.cell (p := ⟨W1.heap.size + 1, n, none⟩) (show W1.heap.size + 1 < _ by omega)).trans F6.out)
      have df := e6.frozen n
      have e7 := e6.set8 (p := n) r2
      rw [HT.out] at e7
      have E9 := hide e7
      have E10 := hide (e5.far (p := ⟨W1.heap.size + 1, n, none⟩) (show W1.heap.size ≠ W1.heap.size + 1 by omega) (c8 r2))
      have HB3 := hide ((HB2.out.trans (hC.mono (by omega))).setCell (p := ⟨W1.heap.size + 1, n, none⟩) (by show W1.heap.size ≤ W1.heap.size + 1; omega) (c8 r2))
      clear hz2 e5 e6 e7 hC E7 E8 F2 F3 F6 HB2 HT
      go_wp2_with fail
      go_roundw
      case rel => exact ⟨n + 1, hlt, int_succ n, E10, E9, HB3⟩
      case measure => simp [intOf]; omega
    · obtain rfl : n = 4 := by omega
      have hd : decide ((4 : Int) < 4) = false := by decide
      rw [half_all s ZL 4 sl.out zl.out, ← hSV.out.val] at P5
      rw [half_all t ZL 4 tl.out zl.out, ← hTV.out.val] at P6
      have IA := HA1.out.later HP.out
      have Q0 := hide IA.2.1
      have Q1 := hide IA.2.2
      have Qx := hide (HX1.out.below HP.out hbx)
      have HVai := hide hva.out.info
      have HVbi := hide hvb.out.info
      have HXi := hide hX.out.info
      have HSi := hide hSV.out.info
      have HTi := hide hTV.out.info
      have HB9 := hide IA.1
      have s1 : ∀ W, Below wr.heap.size wr W → Sem.run Try.prog (convert 51 9 (.slice (some ⟨gx, 0, none⟩) 4 4)) W = .ok (.string (strOf x)) W := fun W h =>
        run_str W _ _ _ Try.underlying51 Try.underlying5 Try.underlying9 _ _ _ _ _ ((Qx.out.below h Qx.out.lt).col8 hX.out)
      have S1 := hide s1
      have HRM : Hid (∀ W, Below wr.heap.size wr W → Calls Try.prog 41 #[.slice (some ⟨w.heap.size, 0, none⟩) 4 4] W fun e w' => ∃ A c, e = .returned (.slice A 4 c) ∧ Reads w' w'.heap.size 1 A 4 (x.map c8) ∧ Below W.heap.size W w') := hide fun W h => by
        refine (refmix_any _ 4 a W ((Q0.out.below h Q0.out.lt).col8 hva.out)).mono ?_
        rintro e w' ⟨A', c', rfl, own, hb⟩
        rw [HRA.out] at own
        exact ⟨A', c', rfl, Reads.of_own own, hb⟩
      have GUX : Hid (∀ W, Below wr.heap.size wr W → Calls Try.prog 42 #[.agg X] W fun e w' => e = .returned (.agg Va) ∧ Below W.heap.size W w') := hide fun W _ => HUX.out W
      have GUB : Hid (∀ W, Below wr.heap.size wr W → Calls Try.prog 42 #[.agg Vb] W fun e w' => e = .returned (.agg U) ∧ Below W.heap.size W w') := hide fun W _ => HUB.out W
      have GMU : Hid (∀ W, Below wr.heap.size wr W → Calls Try.prog 40 #[.agg U] W fun e w' => e = .returned (.agg Vb) ∧ Below W.heap.size W w') := hide fun W _ => HMU.out W
      have GMS : Hid (∀ W, Below wr.heap.size wr W → Calls Try.prog 40 #[.agg SV] W fun e w' => e = .returned (.agg TV) ∧ Below W.heap.size W w') := hide fun W _ => HMS.out W
      have GAL : Hid (∀ W, Below wr.heap.size wr W → Calls Try.prog 39 #[] W fun e w' => e = .returned (.bool true) ∧ Below W.heap.size W w') := hide fun W _ => alive06_any W
      clear s1 IA HP HUX HUB HMU HMS HMA HMB
      go_wp2
      apply wp_region_relT 28 (C := fun W => Below wr.heap.size wr W) (M := fun W W' => Below W.heap.size W W') (ss := [_, _, _, _, _, _, _, _, _, _, _, _, _, _, _, _, _, _, _, _, _, _, _, _, _, _, _, _]) (by kernel_rfl) (by kernel_rfl) (by kernel_rfl) (by kernel_rfl) (Below.refl _ _).drew
      simp only [List.take_succ_cons, List.take_zero, List.drop_succ_cons, List.drop_zero]
      repeat (first
        | (apply relWalk_const (fun W => Below.refl _ _)
           · (intro W hC hF
              clear hF
              have s9 := S1.out W hC
              go_simp
              with_reducible exact rfl)
           (try simp only [Act.put, List.setIfInBounds_toArray, List.set_cons_zero, List.set_cons_succ])))
      refine relWalk_rel (fun v => ∃ A c, v = .slice A 4 c) (SliceOf8 4 x) ⟨_, none, 0, rfl⟩ (fun v w w' hb h => SliceOf8.later v w w' hb h) (by rfl) ?_ ?_
      · intro W hC hF
        refine gives_call rfl [.slice (some ⟨w.heap.size, 0, none⟩) 4 4] rfl (enters_of Try.func41 (by kernel_rfl) rfl) ?_
        refine (HRM.out W hC).mono ?_
        rintro e w' ⟨A4, c4, rfl, hr4, hb⟩
        exact ⟨_, rfl, ⟨A4, c4, rfl⟩, ⟨rfl, hr4⟩, below_next hC hb, hb⟩
      rintro v ⟨A4, c4, rfl⟩
      (try simp only [Act.put, List.setIfInBounds_toArray, List.set_cons_zero, List.set_cons_succ])
      apply relWalk_const (fun W => Below.refl _ _)
      · intro W hC hF
        have h4 := run_str (P := Try.prog) W _ _ _ Try.underlying51 Try.underlying5 Try.underlying9 _ _ _ c4 _ (hF.1 (by kernel_rfl)).2
        clear hF
        go_simp
        exact rfl
      (try simp only [Act.put, List.setIfInBounds_toArray, List.set_cons_zero, List.set_cons_succ])
      repeat (first
        | (apply relWalk_const (fun W => Below.refl _ _)
           · (intro W hC hF
              clear hF
              go_simp
              with_reducible exact rfl)
           (try simp only [Act.put, List.setIfInBounds_toArray, List.set_cons_zero, List.set_cons_succ])))
      apply relWalk_const (fun W => Below.refl _ _)
      · intro W hC hF
        rw [if_pos]
        · exact gives_load_row 63 _ rfl gx rfl 63 X (0, 0) _ (Qx.out.below hC Qx.out.lt) Try.underlying63 rfl HXi.out ⟨rfl, rfl⟩
        · rfl
      (try simp only [Act.put, List.setIfInBounds_toArray, List.set_cons_zero, List.set_cons_succ])
      refine relWalk_rel (fun v => v = .agg Va) (fun _ _ => True) ⟨_, rfl⟩ (fun _ _ _ _ _ => trivial) (by rfl) ?_ ?_
      · intro W hC hF
        refine gives_call rfl [.agg X] rfl (enters_of Try.func42 (by kernel_rfl) rfl) ?_
        refine (GUX.out W hC).mono ?_
        rintro e w' ⟨rfl, hb⟩
        exact ⟨_, rfl, rfl, trivial, below_next hC hb, hb⟩
      rintro v rfl
      (try simp only [Act.put, List.setIfInBounds_toArray, List.set_cons_zero, List.set_cons_succ])
      apply relWalk_const (fun W => Below.refl _ _)
      · intro W hC hF
        rw [if_pos]
        · exact gives_load_row 63 _ rfl w.heap.size rfl 63 Va (0, 0) _ (Q0.out.below hC Q0.out.lt) Try.underlying63 rfl HVai.out ⟨rfl, rfl⟩
        · rfl
      (try simp only [Act.put, List.setIfInBounds_toArray, List.set_cons_zero, List.set_cons_succ])
      repeat (first
        | (apply relWalk_const (fun W => Below.refl _ _)
           · (intro W hC hF
              clear hF
              have q9 := Hqa.out W
              go_simp
              with_reducible exact rfl)
           (try simp only [Act.put, List.setIfInBounds_toArray, List.set_cons_zero, List.set_cons_succ])))
      apply relWalk_const (fun W => Below.refl _ _)
      · intro W hC hF
        rw [if_pos]
        · exact gives_load_row 63 _ rfl (w.heap.size + 1) rfl 63 Vb (0, 0) _ (Q1.out.below hC Q1.out.lt) Try.underlying63 rfl HVbi.out ⟨rfl, rfl⟩
        · rfl
      (try simp only [Act.put, List.setIfInBounds_toArray, List.set_cons_zero, List.set_cons_succ])
      refine relWalk_rel (fun v => v = .agg U) (fun _ _ => True) ⟨_, rfl⟩ (fun _ _ _ _ _ => trivial) (by rfl) ?_ ?_
      · intro W hC hF
        refine gives_call rfl [.agg Vb] rfl (enters_of Try.func42 (by kernel_rfl) rfl) ?_
        refine (GUB.out W hC).mono ?_
        rintro e w' ⟨rfl, hb⟩
        exact ⟨_, rfl, rfl, trivial, below_next hC hb, hb⟩
      rintro v rfl
      (try simp only [Act.put, List.setIfInBounds_toArray, List.set_cons_zero, List.set_cons_succ])
      refine relWalk_rel (fun v => v = .agg Vb) (fun _ _ => True) ⟨_, rfl⟩ (fun _ _ _ _ _ => trivial) (by rfl) ?_ ?_
      · intro W hC hF
        refine gives_call rfl [.agg U] rfl (enters_of Try.func40 (by kernel_rfl) rfl) ?_
        refine (GMU.out W hC).mono ?_
        rintro e w' ⟨rfl, hb⟩
        exact ⟨_, rfl, rfl, trivial, below_next hC hb, hb⟩
      rintro v rfl
      (try simp only [Act.put, List.setIfInBounds_toArray, List.set_cons_zero, List.set_cons_succ])
      apply relWalk_const (fun W => Below.refl _ _)
      · intro W hC hF
        rw [if_pos]
        · exact gives_load_row 63 _ rfl (w.heap.size + 1) rfl 63 Vb (0, 0) _ (Q1.out.below hC Q1.out.lt) Try.underlying63 rfl HVbi.out ⟨rfl, rfl⟩
        · rfl
      (try simp only [Act.put, List.setIfInBounds_toArray, List.set_cons_zero, List.set_cons_succ])
      repeat (first
        | (apply relWalk_const (fun W => Below.refl _ _)
           · (intro W hC hF
              clear hF
              have q9 := Hqb.out W
              go_simp
              with_reducible exact rfl)
           (try simp only [Act.put, List.setIfInBounds_toArray, List.set_cons_zero, List.set_cons_succ])))
      apply relWalk_const (fun W => Below.refl _ _)
      · intro W hC hF
        rw [if_pos]
        · exact gives_load_row 63 _ rfl W1.heap.size rfl 63 SV (0, 0) _ (P5.out.below hC P5.out.lt) Try.underlying63 rfl HSi.out ⟨rfl, rfl⟩
        · rfl
      (try simp only [Act.put, List.setIfInBounds_toArray, List.set_cons_zero, List.set_cons_succ])
      refine relWalk_rel (fun v => v = .agg TV) (fun _ _ => True) ⟨_, rfl⟩ (fun _ _ _ _ _ => trivial) (by rfl) ?_ ?_
      · intro W hC hF
        refine gives_call rfl [.agg SV] rfl (enters_of Try.func40 (by kernel_rfl) rfl) ?_
        refine (GMS.out W hC).mono ?_
        rintro e w' ⟨rfl, hb⟩
        exact ⟨_, rfl, rfl, trivial, below_next hC hb, hb⟩
      rintro v rfl
      (try simp only [Act.put, List.setIfInBounds_toArray, List.set_cons_zero, List.set_cons_succ])
      apply relWalk_const (fun W => Below.refl _ _)
      · intro W hC hF
        rw [if_pos]
        · exact gives_load_row 63 _ rfl (W1.heap.size + 1) rfl 63 TV (0, 0) _ (P6.out.below hC P6.out.lt) Try.underlying63 rfl HTi.out ⟨rfl, rfl⟩
        · rfl
      (try simp only [Act.put, List.setIfInBounds_toArray, List.set_cons_zero, List.set_cons_succ])
      repeat (first
        | (apply relWalk_const (fun W => Below.refl _ _)
           · (intro W hC hF
              clear hF
              have q9 := Hqt.out W
              go_simp
              with_reducible exact rfl)
           (try simp only [Act.put, List.setIfInBounds_toArray, List.set_cons_zero, List.set_cons_succ])))
      refine relWalk_rel (fun v => v = .bool true) (fun _ _ => True) ⟨_, rfl⟩ (fun _ _ _ _ _ => trivial) (by rfl) ?_ ?_
      · intro W hC hF
        refine gives_call rfl [] rfl (enters_of Try.func39 (by kernel_rfl) rfl) ?_
        refine (GAL.out W hC).mono ?_
        rintro e w' ⟨rfl, hb⟩
        exact ⟨_, rfl, rfl, trivial, below_next hC hb, hb⟩
      rintro v rfl
      (try simp only [Act.put, List.setIfInBounds_toArray, List.set_cons_zero, List.set_cons_succ])
      repeat (first
        | (apply relWalk_const (fun W => Below.refl _ _)
           · (intro W hC hF
              clear hF
              go_simp
              with_reducible exact rfl)
           (try simp only [Act.put, List.setIfInBounds_toArray, List.set_cons_zero, List.set_cons_succ])))
      apply relWalk_nil
      intro W hC hF
      clear hF
      have hend := hide (HB9.out.trans (hC.mono HB9.out.size))
      go_wp2
      go_ret
      exact ⟨rfl, hend.out⟩
theorem cipherMixes_walk (w : World) (b0 : List (BitVec 8)) (l0 : b0.length = 4) (b1 : List (BitVec 8)) (l1 : b1.length = 4) :
    Calls Try.prog 11 #[.agg (b0.map c8).toArray, .agg (b1.map c8).toArray] w fun e w' => e = .returned (.bool true) ∧ Below w.heap.size w w' := by
  obtain ⟨V0, h0⟩ := cVal b0 l0
  obtain ⟨V1, h1⟩ := cVal b1 l1
  rw [← h0.val, ← h1.val]
  exact cipherMixes_core w b0 b1 V0 V1 h0 h1
end Go.Proofs.Ytdeljodfanfbmaa
