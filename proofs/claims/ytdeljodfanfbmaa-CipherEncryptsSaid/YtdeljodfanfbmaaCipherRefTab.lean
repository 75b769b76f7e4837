/- Chapter 05's reference: the table of substitutes, plain, and its walk. No condition. -/
import Derived.Test.YtdeljodfanfbmaaCipherRefWord
import Derived.Test.YtdeljodfanfbmaaCipherAlive
namespace Go.Proofs.Ytdeljodfanfbmaa
open Go.RowKit
set_option linter.unusedVariables false
set_option linter.unusedSimpArgs false
attribute [local go_sem] Gives givesUpon
attribute [local irreducible] Gives

def p3 (k : Nat) : BitVec 8 := BitVec.ofNat 8 (powN 3 k)
theorem p3_nat (k : Nat) : (p3 k).toNat = powN 3 k := toNat8 (powN_lt 3 k (by omega))
theorem p3_succ (k : Nat) : mul8 (p3 k) 3#8 = p3 (k + 1) := by
  apply BitVec.eq_of_toNat_eq; rw [mul8_nat, p3_nat, p3_nat]; rfl
def pows (k : Nat) : List (BitVec 8) := (List.range k).map p3
theorem pows_succ (k : Nat) : pows (k + 1) = pows k ++ [p3 k] := by simp [pows, List.range_succ]
theorem pows_get (n k : Nat) (h : k < n) : (pows n)[k]? = some (p3 k) := by rw [pows, List.getElem?_map, List.getElem?_range h]; rfl
def m8 (b : BitVec 8) : BitVec 8 := BitVec.ofNat 8 (mixN b.toNat)
theorem m8_nat (b : BitVec 8) : (m8 b).toNat = mixN b.toNat := toNat8 (mixN_lt _ b.isLt)
def tabN : Nat → List (BitVec 8)
  | 0 => (List.replicate 256 0#8).set 0 (m8 0#8)
  | k + 1 => (tabN k).set (p3 k).toNat (m8 (p3 ((255 - k) % 255)))
theorem tabN_len (k : Nat) : (tabN k).length = 256 := by
  induction k with
  | zero => rw [tabN, List.length_set, List.length_replicate]
  | succ k ih => rw [tabN, List.length_set, ih]
theorem tabN_zero (n : Nat) : (tabN n)[0]? = some (m8 0#8) := by
  induction n with
  | zero => rw [tabN, List.getElem?_set_self (by rw [List.length_replicate]; omega)]
  | succ n ih =>
    rw [tabN, List.getElem?_set_ne (by rw [p3_nat]; exact gen_ne n), ih]
theorem tabN_get (n k : Nat) (hn : n ≤ 255) (hk : k < n) : (tabN n)[(p3 k).toNat]? = some (m8 (p3 ((255 - k) % 255))) := by
  induction n with
  | zero => omega
  | succ n ih =>
    rw [tabN]
    by_cases e : k = n
    · subst e
      rw [List.getElem?_set_self (by rw [tabN_len]; exact (p3 k).isLt)]
    · rw [List.getElem?_set_ne (fun h => e (by rw [p3_nat, p3_nat] at h; exact (gen_inj n k (by omega) (by omega) h).symm)), ih (by omega) (by omega)]
theorem inv_p3 (k : Nat) (hk : k < 255) : powN 3 ((255 - k) % 255) = inv (powN 3 k) := by
  refine inv_unique _ _ (powN_lt 3 k (by omega)) (powN_lt 3 _ (by omega)) (gen_ne k) ?_
  rw [← powN_add 3 _ _ (by omega)]
  by_cases h : k = 0
  · subst h; rfl
  · rw [show k + (255 - k) % 255 = 255 by omega, gen_one]
theorem tabN_all : tabN 255 = tabL := by
  apply List.ext_getElem?
  intro x
  by_cases hx : x < 256
  · rw [tabL_get x hx]
    by_cases h0 : x = 0
    · subst h0
      rw [tabN_zero]
      have e : m8 0#8 = BitVec.ofNat 8 (sub 0) := by rw [m8, sub, inv_zero, show (0#8 : BitVec 8).toNat = 0 from rfl]
      rw [e]
    · obtain ⟨k, hk, rfl⟩ := gen_onto x hx h0
      have h := tabN_get 255 k (by omega) hk
      rw [p3_nat] at h
      rw [h, m8, p3_nat, inv_p3 k hk, sub]
  · rw [List.getElem?_eq_none (by rw [tabN_len]; omega), List.getElem?_eq_none (by rw [tabL_len]; omega)]
theorem idx255 (k : Nat) (h : k < 255) : (255 - (k : Int)).tmod 255 = (((255 - k) % 255 : Nat) : Int) ∧ (255 - (k : Int)) % 255 = (((255 - k) % 255 : Nat) : Int) := by
  refine ⟨?_, by omega⟩
  rw [Int.tmod_eq_emod_of_nonneg (by omega)]; omega
theorem shifted_8 (b : BitVec 8) (w : World) : Calls Try.prog 56 #[.int .i64 (b.toNat : Int)] w fun e w' => e = .returned (c8 (m8 b)) ∧ Below w.heap.size w w' := by
  refine (shifted_any b.toNat b.isLt w).mono ?_
  rintro e w' ⟨rfl, n, rfl⟩
  exact ⟨by rw [← m8_nat], below_drewN (Below.refl _ _) n⟩
set_option maxRecDepth 100000 in
set_option maxHeartbeats 3200000 in
theorem reftable_any (w : World) : Calls Try.prog 66 #[] w fun e w' => ∃ g, e = .returned (.slice (some ⟨g, 0, none⟩) 256 256) ∧ w.heap.size ≤ g ∧ Blk w' g 5 (tabL.map c8).toArray ∧ Below w.heap.size w w' := by
  obtain ⟨i0, hi0, hz0, hz1, hz2⟩ := info_parts info_u8
  have HM : Hid (∀ (k : Nat) (W : World), Calls Try.prog 16 #[c8 (p3 k), .int .u8 3] W fun e w' => e = .returned (c8 (p3 (k + 1))) ∧ W = w') := hide fun k W => by rw [← p3_succ]; exact reftimes_8 (p3 k) 3#8 W
  obtain ⟨b0, hv0⟩ : ∃ b, b = m8 0#8 := ⟨_, rfl⟩
  have HS0 : Hid (∀ W : World, Calls Try.prog 56 #[.int .i64 0] W fun e w' => e = .returned (c8 b0) ∧ Below W.heap.size W w') := hide fun W => by rw [hv0]; exact shifted_8 0#8 W
  replace hv0 := hide hv0
  have h1 : (.int .u8 1 : Value) = c8 (p3 0) := rfl
  obtain ⟨C0, hC0⟩ : ∃ C0, C0 = (List.replicate 256 (c8 0)).toArray := ⟨_, rfl⟩
  have hmk : ∀ w, (Instr.makeSlice 51 (.int .i64 256) (.int .i64 256)).run Try.prog w = .ok (.slice (some ⟨w.heap.size, 0, none⟩) 256 256) (w.alloc (.cells C0 5)) := fun w => by rw [hC0]; exact made8 256 (by omega) w
  have HC0 := hide hC0
  have H1 := hide h1
  clear hC0 h1
  go_enter Try.func66, Try.ntmps66
  go_wp2
  go_loopw [1, 2, 3] (fun v p i wr => ∃ (k : Nat) (A : Option Addr) (c : Nat), k ≤ 255 ∧ v = .slice A k c ∧ i = .int .i64 (k : Int) ∧ p = c8 (p3 k) ∧ Hid (wr.ownsRow w.heap.size 5 1 (.slice A k c) k ((pows k).map c8)) ∧ Hid (Below w.heap.size w wr)) (fun _ _ i _ => 255 - (intOf i).toNat)
  case atStart => exact ⟨0, none, 0, by omega, rfl, rfl, H1.out, hide (World.ownsRow_nil _ _ _ _), hide (Below.refl _ _)⟩
  case round =>
    obtain ⟨k, A3, c3, hk, rfl, rfl, rfl, ho, hB⟩ := hrel
    by_cases hlt : k < 255
    · have hd : decide ((k : Int) < 255) = true := by simp; omega
      have hgr := hB.out.size
      obtain ⟨z, hz⟩ : ∃ z, z = p3 k := ⟨_, rfl⟩
      obtain ⟨z1, hz1'⟩ : ∃ z, z = p3 (k + 1) := ⟨_, rfl⟩
      have HMk : Hid (∀ W : World, Calls Try.prog 16 #[c8 z, .int .u8 3] W fun e w' => e = .returned (c8 z1) ∧ W = w') := hide fun W => by rw [hz, hz1']; exact HM.out k W
      have HXS : Hid (pows (k + 1) = pows k ++ [z]) := hide (by rw [hz]; exact pows_succ k)
      rw [← hz]
      have HZ1 := hide hz1'
      have HR4 := hide (one8 wr z)
      have HOA := hide (ho.out.alloc (.cells #[.int .u8 (z.toNat : Int)] 5))
      have HBA := hide (hB.out.alloc hgr (.cells #[.int .u8 (z.toNat : Int)] 5))
      have HGR : Hid (w.heap.size ≤ (wr.alloc (.cells #[.int .u8 (z.toNat : Int)] 5)).heap.size) := hide (by simp; omega)
      clear hz hz1' HM
      go_wp2_with (first
        | (at_builtin; refine wpList_append_any _ rfl (.tmp 10) (.tmp 12) 51 rfl w.heap.size 5 i0 _ 1 1 Try.underlying51 hi0 hz0 hz1 hz2 rfl (by omega) _ k _ rfl HOA.out _ _ 1 1 _ rfl HR4.out (oneCell_c8 _) (by simp only [maxLen]; omega) (by omega) HGR.out ?_; intro v5 W5 own5 grow5 _; have b5 := below_appended HBA.out HGR.out HOA.out (Nat.le_refl _) grow5; obtain ⟨A5, c5, rfl⟩ := own_slice own5; rw [← List.map_append, ← HXS.out] at own5; replace own5 := hide own5; replace b5 := hide b5; clear grow5)
        | (go_at_call 16; (with_reducible refine (HMk.out _).mono ?_); rintro e w1 ⟨rfl, rfl⟩))
      go_roundw
      case rel => exact ⟨k + 1, A5, c5, hlt, rfl, int_succ _, by rw [HZ1.out], own5, b5⟩
      case measure => simp [intOf]; omega
    · obtain rfl : k = 255 := by omega
      have hd : decide ((255 : Int) < 255) = false := by decide
      have hgr := hB.out.size
      have HP := hide (Reads.of_own ho.out)
      obtain ⟨gp, op_, hA3, hgp⟩ := reads_at HP.out (by omega)
      subst hA3
      have T0 := hide (Blk.new wr 5 C0)
      have BA := hide (hB.out.alloc hgr (.cells C0 5))
      replace HC0 := HC0
      obtain ⟨wz, rfl⟩ : ∃ wz : World, wz = wr := ⟨_, rfl⟩
      have HAl := hide ((Below.refl wz.heap.size wz).alloc (Nat.le_refl _) (.cells C0 5))
      clear HM
      go_wp2_with (go_at_call 56; (with_reducible refine (HS0.out _).mono ?_); rintro e w1 ⟨rfl, hb1⟩; have HB1 := hide hb1; clear hb1; have lt0 : wz.heap.size < w1.heap.size := (by have := HB1.out.size; have := T0.out.lt; omega); have T1 := hide (T0.out.below HB1.out T0.out.lt); have dc0 : w1.cell? ⟨wz.heap.size, 0, none⟩ = some (c8 0) := (T1.out.cell 0).trans (by rw [HC0.out]; rfl); have df0 := T1.out.frozen 0)
      have T2 : Hid (Blk (w1.setCell ⟨wz.heap.size, 0, none⟩ (c8 b0)) wz.heap.size 5 ((tabN 0).map c8).toArray) := hide (by
        have h := T1.out.set_ 0 (c8 b0)
        rw [HC0.out] at h
        rw [hv0.out] at h ⊢
        exact h)
      have BZ := hide ((HAl.out.trans (HB1.out.mono HAl.out.size)).setCell (p := ⟨wz.heap.size, 0, none⟩) (Nat.le_refl _) (c8 b0))
      clear T1 HS0
      go_wp2
      go_loopw [5] (fun i wy => ∃ k : Nat, k ≤ 255 ∧ i = .int .i64 (k : Int) ∧ Hid (Blk wy wz.heap.size 5 ((tabN k).map c8).toArray) ∧ Hid (Below wz.heap.size wz wy)) (fun i _ => 255 - (intOf i).toNat)
      case atStart => exact ⟨0, by omega, rfl, T2, BZ⟩
      case round =>
        obtain ⟨k, hk, rfl, P0, HP0⟩ := hrel
        clear T2 BZ dc0 df0 T0 BA HAl HB1
        by_cases hlt : k < 255
        · have hd : decide ((k : Int) < 255) = true := by simp; omega
          obtain ⟨m, hm⟩ : ∃ m, m = (255 - k) % 255 := ⟨_, rfl⟩
          have hm5 : m < 255 := by omega
          obtain ⟨hi1, hi2⟩ := idx255 k hlt
          rw [← hm] at hi1 hi2
          obtain ⟨z, hz⟩ : ∃ z, z = p3 k := ⟨_, rfl⟩
          obtain ⟨y, hy⟩ : ∃ y, y = p3 m := ⟨_, rfl⟩
          obtain ⟨x, hx⟩ : ∃ x, x = m8 y := ⟨_, rfl⟩
          have HS : Hid ((tabN k).set z.toNat x = tabN (k + 1)) := hide (by rw [hx, hy, hz, hm]; rfl)
          have hrd := HP.out.below HP0.out
          have q0 := hide (reads_cell8 hrd (pows_get 255 k hlt))
          have q1 := hide (reads_cell8 hrd (pows_get 255 m hm5))
          rw [← hz] at q0
          rw [← hy] at q1
          have HSH : Hid (∀ W, Below wr.heap.size wr W → Calls Try.prog 56 #[.int .i64 (y.toNat : Int)] W fun e w' => e = .returned (c8 x) ∧ Below W.heap.size W w') := hide fun W _ => by rw [hx]; exact shifted_8 y W
          have hzl := z.isLt
          have lw := HP0.out.size
          have lp := P0.out.lt
          have hgp2 : gp < wr.heap.size := by omega
          obtain ⟨o5, d5⟩ : ∃ o, wr.cell? ⟨wz.heap.size, z.toNat, none⟩ = some o := ⟨_, (P0.out.cell z.toNat).trans (by rw [List.getElem?_toArray]; exact List.getElem?_eq_getElem (by rw [List.length_map, tabN_len]; omega))⟩
          replace d5 := hide d5
          have f0 : (0 : Int) ≤ (k : Int) := by omega
          have f1 : (0 : Int) ≤ (m : Int) := by omega
          have f2 : (m : Int) < 255 := by omega
          have f3 : (k : Int) < 255 := by omega
          have f4 : (0 : Int) ≤ (z.toNat : Int) := by omega
          have f5 : (z.toNat : Int) < 256 := by omega
          have fw : IntKind.i64.wrap (255 - (k : Int)) = 255 - (k : Int) := IntWalk.i64_in _ (by omega)
          have H1 := hide hi1
          have H2 := hide hi2
          have HFW := hide fw
          have HFY : Hid (IntKind.i64.wrap (y.toNat : Int) = (y.toNat : Int)) := hide (IntWalk.i64_in _ (by have := y.isLt; omega))
          clear hm hz hy hx hrd hi1 hi2 fw
          go_wp2
          apply wp_region_relT 14 (C := fun W => Below wr.heap.size wr W) (M := fun W W' => Below W.heap.size W W') (ss := [_, _, _, _, _, _, _, _, _, _, _, _, _, _]) (by kernel_rfl) (by kernel_rfl) (by kernel_rfl) (by kernel_rfl) (Below.refl _ _).drew
          simp only [List.take_succ_cons, List.take_zero, List.drop_succ_cons, List.drop_zero]
          repeat (first
            | (apply relWalk_const (fun W => Below.refl _ _)
               · (intro W hC hF
                  clear hF
                  have d0 := ((hC.cell (p := ⟨gp, op_ + k, none⟩) hgp2).trans q0.out)
                  have d1 := ((hC.cell (p := ⟨gp, op_ + m, none⟩) hgp2).trans q1.out)
                  have e1 := H1.out
                  have e2 := H2.out
                  have e3 := HFW.out
                  have e4 := HFY.out
                  go_simp
                  with_reducible exact rfl)
               (try simp only [Act.put, List.setIfInBounds_toArray, List.set_cons_zero, List.set_cons_succ])))
          refine relWalk_rel (fun v => v = c8 x) (fun _ _ => True) ⟨_, rfl⟩ (fun _ _ _ _ _ => trivial) (by rfl) ?_ ?_
          · intro W hC hF
            refine gives_call rfl [.int .i64 (y.toNat : Int)] rfl (enters_of Try.func56 (by kernel_rfl) rfl) ?_
            refine (HSH.out W hC).mono ?_
            rintro e w' ⟨rfl, hb⟩
            exact ⟨_, rfl, rfl, trivial, below_next hC hb, hb⟩
          rintro v rfl
          (try simp only [Act.put, List.setIfInBounds_toArray, List.set_cons_zero, List.set_cons_succ])
          repeat (first
            | (apply relWalk_const (fun W => Below.refl _ _)
               · (intro W hC hF
                  clear hF
                  have d0 := ((hC.cell (p := ⟨gp, op_ + k, none⟩) hgp2).trans q0.out)
                  have d1 := ((hC.cell (p := ⟨gp, op_ + m, none⟩) hgp2).trans q1.out)
                  have e1 := H1.out
                  have e2 := H2.out
                  have e3 := HFW.out
                  have e4 := HFY.out
                  go_simp
                  with_reducible exact rfl)
               (try simp only [Act.put, List.setIfInBounds_toArray, List.set_cons_zero, List.set_cons_succ])))
          apply relWalk_nil
          intro W hC hF
          clear hF
          have e5 := P0.out.below hC lp
          have dc := ((hC.cell (p := ⟨wz.heap.size, z.toNat, none⟩) lp).trans d5.out)
          have df := e5.frozen z.toNat
          have e7 := e5.set8 (p := z.toNat) x
          rw [HS.out] at e7
          have HE := hide e7
          have HB2 := hide ((HP0.out.trans (hC.mono lw)).setCell (p := ⟨wz.heap.size, z.toNat, none⟩) (Nat.le_refl _) (c8 x))
          clear e5 e7 hC P0 HP0 q0 q1 d5 HS HSH
          go_wp2_with fail
          go_roundw
          case rel => exact ⟨k + 1, hlt, int_succ k, HE, HB2⟩
          case measure => simp [intOf]; omega
        · obtain rfl : k = 255 := by omega
          have hd : decide ((255 : Int) < 255) = false := by decide
          rw [tabN_all] at P0
          go_wp2
          go_ret
          exact ⟨wz.heap.size, rfl, hB.out.size, P0.out, hB.out.trans (HP0.out.mono hB.out.size)⟩
end Go.Proofs.Ytdeljodfanfbmaa
