/- The walk of the law MacTurned: a tag with any byte turned does not fit. No condition. -/
import Derived.Test.YtdikknfdgpdenaaMacAlive
namespace Go.Proofs.Ytdikknfdgpdenaa
open Go.RowKit
set_option linter.unusedVariables false
set_option linter.unusedSimpArgs false
attribute [local go_sem] Gives givesUpon
attribute [local irreducible] Gives

theorem own_empty (W : World) : (W.alloc (.cells #[] 5)).ownsRow W.heap.size 5 1 (.slice (some ⟨W.heap.size, 0, none⟩) 0 0) 0 [] :=
  ⟨rfl, .inr ⟨W.heap.size, 0, #[], rfl, Nat.le_refl _, heap_alloc_last _ _, Nat.le_refl _, by simp [maxLen], rfl, rfl⟩⟩
/-- a byte of a row of one's own is stored into -/
theorem own_store {w : World} {base n c : Nat} {A : Option Addr} {l : List (BitVec 8)} (h : w.ownsRow base 5 1 (.slice A n c) n (l.map c8)) {i : Nat} (hi : i < n) :
    ∃ g, A = some ⟨g, 0, none⟩ ∧ base ≤ g ∧ g < w.heap.size ∧ w.cell? ⟨g, i, none⟩ = some (c8 (l.getD i 0)) ∧ w.frozen? ⟨g, i, none⟩ = false ∧
      ∀ x, Reads (w.setCell ⟨g, i, none⟩ (c8 x)) w.heap.size 1 (some ⟨g, 0, none⟩) n ((l.set i x).map c8) := by
  have hl : l.length = n := by simpa using h.1
  rcases h.2 with ⟨_, h0⟩ | ⟨g, cap, cur, hv, hb, hh, hnc, _, hcs, htake⟩
  · omega
  injection hv with hA _ _
  subst hA
  have hB : Blk w g 5 cur := hh
  have hget : ∀ j, j < n → cur[j]? = some (c8 (l.getD j 0)) := by
    intro j hj
    have h1 : (cur.toList.take (n * 1))[j]? = (l.map c8)[j]? := by rw [htake]
    rw [Nat.mul_one, List.getElem?_take_of_lt hj] at h1
    rw [← Array.getElem?_toList, h1]
    simp [List.getD, hl, hj]
  refine ⟨g, rfl, hb, hB.lt, (hB.cell i).trans (hget i hi), hB.frozen i, fun x => ⟨by simp [hl], fun _ => ⟨_, rfl, hB.lt, fun j u hu => ?_⟩⟩⟩
  have hj : j < n := by
    have := (List.getElem?_eq_some_iff.1 hu).1
    simpa [hl] using this
  rw [Addr.add_lit, Nat.zero_add, (hB.set_ i (c8 x)).cell j]
  by_cases hij : i = j
  · subst hij
    rw [Array.getElem?_setIfInBounds_self_of_lt (by rw [hcs]; omega)]
    rw [List.getElem?_map, List.getElem?_set_self (by rw [hl]; exact hi)] at hu
    simpa using hu
  · rw [Array.getElem?_setIfInBounds_ne hij, hget j hj]
    rw [List.getElem?_map, List.getElem?_set_ne hij] at hu
    rw [List.getElem?_eq_getElem (by rw [hl]; exact hj)] at hu
    simp [List.getD, hl, hj] at hu ⊢
    exact hu
/-- a tag is checked, of one part, built in place -/
theorem check1_any {W : World} {A : Option Addr} {n c : Nat} {bs : List (BitVec 8)} {A2 : Option Addr} {n2 c2 : Nat} {tag : List (BitVec 8)} {A1 : Option Addr} {n1 c1 : Nat} {b : List (BitVec 8)} (hr : Reads W W.heap.size 1 A n (bs.map c8)) (hc : n ≤ c) (hn : n ≤ 1000)
    (hr2 : Reads W W.heap.size 1 A2 n2 (tag.map c8)) (hn2 : n2 ≤ 1000) (hr1 : Reads W W.heap.size 1 A1 n1 (b.map c8)) (hc1 : n1 ≤ c1) (hn1 : n1 ≤ 1000) (cc : Nat) :
    Calls Try.prog 48 #[.slice A n c, .slice A2 n2 c2, .slice (some ⟨W.heap.size, 0, none⟩) 1 cc] (W.alloc (.cells #[.slice A1 n1 c1] 29)) fun e w' => e = .returned (.bool (decide (macOf bs b = tag))) ∧ Below W.heap.size W w' := by
  obtain ⟨q1, q2⟩ := rows1 hr1 hc1 29
  have hb := (Below.refl W.heap.size W).alloc (Nat.le_refl _) (.cells #[.slice A1 n1 c1] 29)
  have l1 : b.length = n1 := hr1.len
  have h := check_any A n c bs A2 n2 c2 tag _ 1 cc _ _ _ (hr.later hb) hc (by omega) (hr2.later hb) (by omega) q1 q2 (by omega) (by simp; omega)
  rw [show ([b] : List (List (BitVec 8))).flatten = b by simp] at h
  exact h.mono (fun e w' ⟨h1, h2⟩ => ⟨h1, hb.trans (h2.mono (by simp))⟩)
theorem of1_any {W : World} {A : Option Addr} {n c : Nat} {bs : List (BitVec 8)} {A1 : Option Addr} {n1 c1 : Nat} {b : List (BitVec 8)} (hr : Reads W W.heap.size 1 A n (bs.map c8)) (hc : n ≤ c) (hn : n ≤ 1000)
    (hr1 : Reads W W.heap.size 1 A1 n1 (b.map c8)) (hc1 : n1 ≤ c1) (hn1 : n1 ≤ 1000) (cc : Nat) :
    Calls Try.prog 46 #[.slice A n c, .slice (some ⟨W.heap.size, 0, none⟩) 1 cc] (W.alloc (.cells #[.slice A1 n1 c1] 29)) fun e w' => e = .returned (.agg ((macOf bs b).map c8).toArray) ∧ Below W.heap.size W w' := by
  obtain ⟨q1, q2⟩ := rows1 hr1 hc1 29
  have hb := (Below.refl W.heap.size W).alloc (Nat.le_refl _) (.cells #[.slice A1 n1 c1] 29)
  have l1 : b.length = n1 := hr1.len
  have h := macof_any A n c bs _ 1 cc _ _ _ (hr.later hb) hc (by omega) q1 q2 (by omega) (by simp; omega)
  rw [show ([b] : List (List (BitVec 8))).flatten = b by simp] at h
  exact h.mono (fun e w' ⟨h1, h2⟩ => ⟨h1, hb.trans (h2.mono (by simp))⟩)
theorem set_ne (M : List (BitVec 8)) (i : Nat) (by_ : BitVec 8) (hi : i < M.length) (hb : by_ ≠ 0) : ¬ M = M.set i (M.getD i 0 ^^^ by_) := by
  intro h
  have h1 := congrArg (fun l => l[i]?) h
  simp only [List.getElem?_set_self hi] at h1
  rw [List.getElem?_eq_getElem hi] at h1
  injection h1 with h1
  simp only [List.getD, List.getElem?_eq_getElem hi, Option.getD_some] at h1
  have h2 := congrArg (M[i] ^^^ ·) h1
  simp only [BitVec.xor_self, ← BitVec.xor_assoc, BitVec.zero_xor] at h2
  exact hb h2.symm
/-- what holds all along a region in which a row of 32 bytes, and other bytes, are read -/
def IdRowI (w : World) (g : Nat) (R : Array Value) (A : Option Addr) (n : Nat) (l : List (BitVec 8)) (W : World) : Prop := Below w.heap.size w W ∧ Blk W g 44 R ∧ Reads W W.heap.size 1 A n (l.map c8)
theorem IdRowI.below {w W W' : World} {g n : Nat} {R : Array Value} {A : Option Addr} {l : List (BitVec 8)} (h : IdRowI w g R A n l W) (hb : Below W.heap.size W W') : IdRowI w g R A n l W' := ⟨below_next h.1 hb, h.2.1.below hb h.2.1.lt, h.2.2.later hb⟩
set_option maxRecDepth 100000 in
set_option maxHeartbeats 1600000 in
theorem macTurned_walk (w : World) (A0 : Option Addr) (n0 c0 : Nat) (bs0 : List (BitVec 8)) (r0 : Reads w w.heap.size 1 A0 n0 (bs0.map c8)) (m0 : n0 ≤ 9223372036854775807) (k0 : n0 ≤ c0) (A1 : Option Addr) (n1 c1 : Nat) (bs1 : List (BitVec 8)) (r1 : Reads w w.heap.size 1 A1 n1 (bs1.map c8)) (m1 : n1 ≤ 9223372036854775807) (k1 : n1 ≤ c1) (x2 : BitVec 16) :
    Calls Try.prog 10 #[.slice A0 n0 c0, .slice A1 n1 c1, .int .u16 (x2.toNat : Int)] w fun e w' => e = .returned (.bool true) ∧ Below w.heap.size w w' := by
  have hx := x2.isLt
  have HA := hide (alive03_any w)
  obtain ⟨T, hT⟩ : ∃ T, T = x2.toNat := ⟨_, rfl⟩
  rw [← hT] at hx ⊢
  clear hT
  obtain ⟨by_, hby_⟩ : ∃ b : BitVec 8, (b.toNat : Int) = (T : Int) / 256 := ⟨BitVec.ofNat 8 (T / 256), by rw [BitVec.toNat_ofNat]; omega⟩
  obtain ⟨at_, hat_⟩ : ∃ a : Nat, (a : Int) = (T : Int) % 256 := ⟨T % 256, by omega⟩
  obtain ⟨i, hi_⟩ : ∃ i : Nat, (i : Int) = (at_ : Int) % 32 := ⟨at_ % 32, by omega⟩
  have e1 := hat_.symm
  have e2 := hby_.symm
  have e3 := hi_.symm
  have hat0 : (0 : Int) ≤ (at_ : Int) := by omega
  have hat1 : (at_ : Int) < 256 := by omega
  have hi0 : (0 : Int) ≤ (i : Int) := by omega
  have hi1 : (i : Int) < 32 := by omega
  have hb1 : (by_.toNat : Int) ≤ 255 := by omega
  have hz8 := zero_u8 by_
  clear hat_ hby_ hi_
  by_cases h0 : n0 ≤ 100
  · by_cases h1 : n1 ≤ 100
    · by_cases hb0 : by_ = 0#8
      · rw [decide_eq_true hb0] at hz8
        clear r0 r1
        go_enter Try.func10, Try.ntmps10
        go_wp2_with (go_at_call 45; (with_reducible refine HA.out.mono ?_); rintro e w7 ⟨rfl, hb7⟩)
        go_ret
        exact ⟨rfl, hb7⟩
      · rw [decide_eq_false hb0] at hz8
        obtain ⟨i0, hi0', hz0, hz1, hz2⟩ := info_parts info_u8
        obtain ⟨Z, hZ, hZs⟩ := zeroId
        obtain ⟨M, hM⟩ : ∃ M, M = macOf bs0 bs1 := ⟨_, rfl⟩
        have hMl : M.length = 32 := by rw [hM]; exact macOf_len _ _
        obtain ⟨R, hR⟩ := idVal M hMl
        have HR0 := hide r0
        have HR1 := hide r1
        have HOF : Hid (Calls Try.prog 46 #[.slice A0 n0 c0, .slice (some ⟨w.heap.size, 0, none⟩) 1 1] (w.alloc (.cells #[.slice A1 n1 c1] 29)) fun e w' => e = .returned (.agg R) ∧ Below w.heap.size w w') := hide (by rw [hR.val, hM]; exact of1_any r0 k0 (by omega) r1 k1 (by omega) 1)
        have HCK : Hid (∀ A' m c' tag W, Below w.heap.size w W → Reads W W.heap.size 1 A' m (tag.map c8) → m ≤ 1000 → Calls Try.prog 48 #[.slice A0 n0 c0, .slice A' m c', .slice (some ⟨W.heap.size, 0, none⟩) 1 1] (W.alloc (.cells #[.slice A1 n1 c1] 29)) fun e w' => e = .returned (.bool (decide (M = tag))) ∧ Below W.heap.size W w') := hide (fun A' m c' tag W hb h hm => by
          rw [hM]; exact check1_any ((r0.below hb).more hb.size) k0 (by omega) h hm ((r1.below hb).more hb.size) k1 (by omega) 1)
        obtain ⟨x, hxi⟩ : ∃ x, x = M.getD i 0 := ⟨_, rfl⟩
        obtain ⟨z, hzz⟩ : ∃ z, z = x ^^^ by_ := ⟨_, rfl⟩
        have hxz := xor_u8 x by_
        rw [← hzz] at hxz
        have HNE : Hid (decide (M = M.set i z) = false) := hide (decide_eq_false (by rw [hzz, hxi]; exact set_ne M i by_ (by rw [hMl]; omega) hb0))
        replace hR := hide hR
        replace hZ := hide hZ
        replace hZs := hide hZs
        replace hM := hide hM
        replace hMl := hide hMl
        replace hxi := hide hxi
        replace hzz := hide hzz
        replace hb0 := hide hb0
        clear r0 r1
        go_enter Try.func10, Try.ntmps10
        go_upto_region 5 with (first
          | (go_at_call 46; (with_reducible refine HOF.out.mono ?_); rintro e w2 ⟨rfl, hb2⟩; have B2 := hide hb2; clear hb2)
          | ((with_reducible show wpList _ _ _ (⟨_, .alloc 44, _, _, _, _⟩ :: _) _ _); refine wpList_alloc_is rfl 44 rfl Z hZ.out ?_; have K1 := hide (Blk.new w2 44 Z); have B3 := hide (B2.out.alloc B2.out.size (.cells Z 44)))
          | ((with_reducible show wpList _ _ _ (⟨_, .store _ _ _, _, _, _, _⟩ :: _) _ _); refine wpList_store_row rfl 44 _ _ rfl w2.heap.size rfl R rfl 44 _ K1.out hR.out.info (hZs.out.trans hR.out.size.symm) hR.out.one ?_))
        have K3 := hide (K1.out.setRow_ R)
        have B4 := hide (below_setRow B3.out B2.out.size R)
        generalize (w2.alloc (.cells Z 44)).setRow w2.heap.size R = w3 at *
        have O3 := hide (own_empty w3)
        have K4 := hide (K3.out.alloc (.cells #[] 5))
        have B5 := hide (B4.out.alloc B4.out.size (.cells #[] 5))
        have R4 := hide (K4.out.id8 hR.out)
        clear K1 B3 HOF
        go_upto_region 6 with (at_builtin; refine wpList_append_any _ rfl (.tmp 35) (.tmp 36) 29 rfl w3.heap.size 5 i0 _ 1 1 Try.underlying29 hi0' hz0 hz1 hz2 rfl (by omega) _ 0 [] rfl O3.out _ (some ⟨w2.heap.size, 0, none⟩) 32 32 _ rfl R4.out (oneCell_c8 _) (by simp only [maxLen]; omega) (by omega) (by simp) ?_; intro v4 w4 own4 grow4 hob; clear hob; have b4 := hide (below_appended B5.out B5.out.size O3.out B4.out.size grow4); have k4 := hide (K4.out.grown grow4 (own_ne O3.out K3.out.lt)); obtain ⟨A4, c4, rfl⟩ := own_slice own4; rw [List.nil_append] at own4; obtain ⟨gy, rfl, hgy, hgl, hyc, hyf, hyr⟩ := own_store own4 (i := i) (by omega); have HYR := hide hyr; clear own4 grow4 hyr)
        have hgy2 : w2.heap.size < gy := by have := K3.out.lt; omega
        rw [← hxi.out] at hyc
        go_upto_region 7 with fail
        have Y5 := hide (HYR.out z)
        have hwy : w.heap.size ≤ gy := by have := B2.out.size; omega
        have B6 := hide (b4.out.setCell (p := ⟨gy, i, none⟩) hwy (c8 z))
        have K6 := hide (k4.out.far (p := ⟨gy, i, none⟩) (by show w2.heap.size ≠ gy; omega) (c8 z))
        have sz6 : w4.heap.size = (w4.setCell ⟨gy, i, none⟩ (c8 z)).heap.size := by simp
        have Y6 := hide (Y5.out.more (Nat.le_of_eq sz6))
        generalize w4.setCell ⟨gy, i, none⟩ (c8 z) = w5 at *
        have HC1 := hide (HCK.out _ 32 c4 _ w5 B6.out Y6.out (by omega))
        rw [HNE.out] at HC1
        have HC2 : Hid (∀ W, Below w.heap.size w W → Blk W w2.heap.size 44 R → Calls Try.prog 48 #[.slice A0 n0 c0, .slice (some ⟨w2.heap.size, 0, none⟩) 32 32, .slice (some ⟨W.heap.size, 0, none⟩) 1 1] (W.alloc (.cells #[.slice A1 n1 c1] 29)) fun e w' => e = .returned (.bool true) ∧ Below W.heap.size W w') := hide (fun W hb h => by
          have := HCK.out _ 32 32 M W hb (h.id8 hR.out) (by omega)
          rw [decide_eq_true rfl] at this; exact this)
        clear Y5 sz6 Y6 HYR HNE b4 k4 hyc hyf R4 B5 K4 O3
        go_upto_region 9 with (first
          | (go_at_call 48; (with_reducible refine HC1.out.mono ?_); rintro e w6 ⟨rfl, hb6⟩; have B7 := hide (below_next B6.out hb6); have K7 := hide (K6.out.below hb6 K6.out.lt); clear hb6)
          | (go_at_call 48; (with_reducible refine (HC2.out w6 B7.out K7.out).mono ?_); rintro e w7 ⟨rfl, hb7⟩; have B8 := hide (below_next B7.out hb7); have K8 := hide (K7.out.below hb7 K7.out.lt); clear hb7))
        clear HC1 B6 K6 B7 K7 HC2
        by_cases hn0 : n1 = 0
        · have hzn : ((n1 : Int) == 0) = true := by rw [beq_iff_eq]; omega
          go_wp2_with (go_at_call 45; (with_reducible refine (alive03_any w7).mono ?_); rintro e w8 ⟨rfl, hb8⟩; have B9 := hide (below_next B8.out hb8); clear hb8)
          go_ret
          exact ⟨rfl, B9.out⟩
        · have hzn : ((n1 : Int) == 0) = false := by rw [beq_eq_false_iff_ne]; omega
          have hnn : 0 < n1 := by omega
          obtain ⟨j, hj_⟩ : ∃ j : Nat, (j : Int) = (at_ : Int) % (n1 : Int) := ⟨at_ % n1, by omega⟩
          have e4 := hj_.symm
          have e5 : Int.tmod (at_ : Int) (n1 : Int) = (j : Int) := by rw [Int.tmod_eq_emod_of_nonneg hat0, e4]
          have hj0 : (0 : Int) ≤ (j : Int) := by omega
          have hj1 : (j : Int) < (n1 : Int) := by rw [hj_]; exact Int.emod_lt_of_pos _ (by omega)
          clear hj_
          have O8 := hide (own_empty w7)
          have K9 := hide (K8.out.alloc (.cells #[] 5))
          have B9 := hide (B8.out.alloc B8.out.size (.cells #[] 5))
          have R9 := hide ((HR1.out.below B9.out).more B9.out.size)
          go_upto_region 12 with (at_builtin; refine wpList_append_any _ rfl (.tmp 63) (.tmp 64) 29 rfl w7.heap.size 5 i0 _ 1 1 Try.underlying29 hi0' hz0 hz1 hz2 rfl (by omega) _ 0 [] rfl O8.out _ A1 n1 c1 _ rfl R9.out (oneCell_c8 _) (by simp only [maxLen]; omega) (by omega) (by simp) ?_; intro v4 w9 own4 grow4 hob; clear hob; have b9 := hide (below_appended B9.out B9.out.size O8.out B8.out.size grow4); have k9 := hide (K9.out.grown grow4 (own_ne O8.out K8.out.lt)); obtain ⟨A4, c4, rfl⟩ := own_slice own4; rw [List.nil_append] at own4; rw [Nat.zero_add] at own4; obtain ⟨gc, rfl, hgc, hgl2, hcc, hcf, hcr⟩ := own_store own4 (i := j) (by omega); have HCR := hide hcr; have hcap := own_cap own4; clear own4 grow4 hcr)
          obtain ⟨y, hyi⟩ : ∃ y, y = bs1.getD j 0 := ⟨_, rfl⟩
          obtain ⟨z2, hz2'⟩ : ∃ z, z = y ^^^ by_ := ⟨_, rfl⟩
          have hyz := xor_u8 y by_
          rw [← hz2'] at hyz
          rw [← hyi] at hcc
          clear hyi hz2'
          have hgc2 : w2.heap.size < gc := by have := K8.out.lt; omega
          have hwc : w.heap.size ≤ gc := by have := B2.out.size; omega
          go_upto_region 13 with fail
          have Y5 := hide (HCR.out z2)
          have B6 := hide (b9.out.setCell (p := ⟨gc, j, none⟩) hwc (c8 z2))
          have K6 := hide (k9.out.far (p := ⟨gc, j, none⟩) (by show w2.heap.size ≠ gc; omega) (c8 z2))
          have sz6 : w9.heap.size = (w9.setCell ⟨gc, j, none⟩ (c8 z2)).heap.size := by simp
          have Y6 := hide (Y5.out.more (Nat.le_of_eq sz6))
          generalize w9.setCell ⟨gc, j, none⟩ (c8 z2) = w10 at *
          obtain ⟨cs, hcs⟩ : ∃ cs, cs = bs1.set j z2 := ⟨_, rfl⟩
          rw [← hcs] at Y6
          obtain ⟨M2, hM2⟩ : ∃ M2, M2 = macOf bs0 cs := ⟨_, rfl⟩
          have hM2l : M2.length = 32 := by rw [hM2]; exact macOf_len _ _
          obtain ⟨R2, hR2⟩ := idVal M2 hM2l
          obtain ⟨d, hd⟩ : ∃ d, d = decide (M2 = M) := ⟨_, rfl⟩
          have heq : ∀ w : World, (Op.equalIn 10000 44 (.agg R2) (.agg R)).run Try.prog w = .ok d w := fun w => by
            have h := eq_id M2 M hM2l hMl.out w
            rw [hR2.val, hR.out.val, h, hd]
          have HRO : Hid (∀ W, IdRowI w w2.heap.size R (some ⟨gc, 0, none⟩) n1 cs W → Calls Try.prog 47 #[.slice A0 n0 c0, .slice (some ⟨gc, 0, none⟩) n1 c4] W fun e w' => e = .returned (.agg R2) ∧ IdRowI w w2.heap.size R (some ⟨gc, 0, none⟩) n1 cs w') := hide (fun W h => by
            rw [hR2.val, hM2]
            exact (refof_any A0 n0 c0 bs0 (some ⟨gc, 0, none⟩) n1 c4 cs W ((HR0.out.below h.1).more h.1.size) (by omega) h.2.2 (by omega)).mono (fun e w' q => ⟨q.1, h.below q.2⟩))
          have HCC : Hid (∀ W, IdRowI w w2.heap.size R (some ⟨gc, 0, none⟩) n1 cs W → Calls Try.prog 48 #[.slice A0 n0 c0, .slice (some ⟨w2.heap.size, 0, none⟩) 32 32, .slice (some ⟨W.heap.size, 0, none⟩) 1 1] (W.alloc (.cells #[.slice (some ⟨gc, 0, none⟩) n1 c4] 29)) fun e w' => e = .returned (.bool d) ∧ IdRowI w w2.heap.size R (some ⟨gc, 0, none⟩) n1 cs w') := hide (fun W h => by
            rw [hd, hM2]
            exact (check1_any ((HR0.out.below h.1).more h.1.size) k0 (by omega) (h.2.1.id8 hR.out) (by omega) h.2.2 hcap (by omega) 1).mono (fun e w' q => ⟨q.1, h.below q.2⟩))
          replace hM2 := hide hM2
          replace hcs := hide hcs
          replace hd := hide hd
          clear hR2 hM2l HCR Y5 sz6 b9 k9 hcc hcf B9 K9 R9 O8 B8 K8 HCK
          apply wp_region_stage (hv := [3, 4, 7, 12]) (I := IdRowI w w2.heap.size R (some ⟨gc, 0, none⟩) n1 cs) (C := fun W => True) (ss := [_, _, _, _, _, _, _, _, _, _, _, _, _, _, _]) (by kernel_rfl) (by kernel_rfl) (by kernel_rfl) (by kernel_rfl) ⟨B6.out.drew, K6.out.drew, Y6.out.drew⟩ trivial
          repeat (first
            | (apply stWalk_light
               · rfl
               · (intro W hI
                  go_simp
                  with_reducible exact rfl)
               (try simp only [Act.put, List.setIfInBounds_toArray, List.set_cons_zero, List.set_cons_succ])))
          refine stWalk_turn (fun v => ∃ p, v = .slice (some ⟨p, 0, none⟩) 1 1) (fun v W => Calls Try.prog 48 #[.slice A0 n0 c0, .slice (some ⟨w2.heap.size, 0, none⟩) 32 32, v] W fun e w' => e = .returned (.bool d) ∧ IdRowI w w2.heap.size R (some ⟨gc, 0, none⟩) n1 cs w') (by rfl) ⟨_, 0, rfl⟩ (by go_simp) ?_ ?_
          · intro W hI hC
            have q1 := hide (HCC.out W hI)
            have q2 := hide (hI.below (((Below.refl W.heap.size W).alloc (Nat.le_refl _)) (.cells #[.slice (some ⟨gc, 0, none⟩) n1 c4] 29)))
            go_simp
            exact ⟨q2.out, q1.out⟩
          rintro v ⟨p, rfl⟩
          (try simp only [Act.put, List.setIfInBounds_toArray, List.set_cons_zero, List.set_cons_succ])
          apply stWalk_turnc (fun W => True)
          · rfl
          · go_simp
          · intro W hI hC
            go_simp
            refine hC.mono ?_
            rintro e w3 ⟨rfl, hI3⟩
            exact ⟨_, rfl, rfl, hI3⟩
          (try simp only [Act.put, List.setIfInBounds_toArray, List.set_cons_zero, List.set_cons_succ])
          repeat (first
            | (apply stWalk_light
               · rfl
               · (intro W hI
                  go_simp
                  with_reducible exact rfl)
               (try simp only [Act.put, List.setIfInBounds_toArray, List.set_cons_zero, List.set_cons_succ])))
          apply stWalk_turnc (fun W => True)
          · rfl
          · go_simp
          · intro W hI hC
            go_simp
            refine (HRO.out W hI).mono ?_
            rintro e w3 ⟨rfl, hI3⟩
            exact ⟨_, rfl, rfl, hI3⟩
          (try simp only [Act.put, List.setIfInBounds_toArray, List.set_cons_zero, List.set_cons_succ])
          apply stWalk_light
          · rfl
          · intro W hI
            rw [if_pos (wanted_none _ rfl)]
            refine gives_load_row 44 _ rfl w2.heap.size rfl 44 R (0, 0) _ hI.2.1 Try.underlying44 rfl hR.out.info ⟨rfl, rfl⟩
          (try simp only [Act.put, List.setIfInBounds_toArray, List.set_cons_zero, List.set_cons_succ])
          repeat (first
            | (apply stWalk_light
               · rfl
               · (intro W hI
                  go_simp
                  with_reducible exact rfl)
               (try simp only [Act.put, List.setIfInBounds_toArray, List.set_cons_zero, List.set_cons_succ])))
          apply stWalk_turnc (fun W => True)
          · rfl
          · go_simp
          · intro W hI hC
            go_simp
            refine (alive03_any W).mono ?_
            rintro e w3 ⟨rfl, hb3⟩
            exact ⟨_, rfl, rfl, hI.below hb3⟩
          (try simp only [Act.put, List.setIfInBounds_toArray, List.set_cons_zero, List.set_cons_succ])
          repeat (first
            | (apply stWalk_light
               · rfl
               · (intro W hI
                  go_simp
                  with_reducible exact rfl)
               (try simp only [Act.put, List.setIfInBounds_toArray, List.set_cons_zero, List.set_cons_succ])))
          refine stWalk_nil ?_
          intro W2 hI hC
          have S5 : Hid (Below w.heap.size w W2) := hide hI.1
          clear hI hC
          go_wp2_with fail
          go_ret
          exact ⟨rfl, S5.out⟩
    · clear r0 r1
      go_enter Try.func10, Try.ntmps10
      go_wp2_with (go_at_call 45; (with_reducible refine HA.out.mono ?_); rintro e w7 ⟨rfl, hb7⟩)
      go_ret
      exact ⟨rfl, hb7⟩
  · clear r0 r1
    go_enter Try.func10, Try.ntmps10
    go_wp2_with (go_at_call 45; (with_reducible refine HA.out.mono ?_); rintro e w7 ⟨rfl, hb7⟩)
    go_ret
    exact ⟨rfl, hb7⟩
end Go.Proofs.Ytdikknfdgpdenaa
