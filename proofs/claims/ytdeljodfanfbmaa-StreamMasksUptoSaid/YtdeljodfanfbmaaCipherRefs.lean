/- Chapter 06's reference: a word substituted by the table. No condition. Chapter 05's reference: the table of substitutes, plain, and its walk. No condition. Chapter 06's reference: xor with a round key. No condition. Chapter 06's reference: New. No condition. Chapter 06's reference: Encrypt. No condition. -/
import Derived.Test.YtdeljodfanfbmaaCipherRefMix
import Derived.Test.YtdeljodfanfbmaaCipherAlive
import Derived.Test.YtdeljodfanfbmaaWRefBytes
import Derived.Test.YtdeljodfanfbmaaWRefWords
namespace Go.Proofs.Ytdeljodfanfbmaa
open Go.RowKit
set_option linter.unusedVariables false
set_option linter.unusedSimpArgs false

/-- all substitutes -/
def tabL : List (BitVec 8) := (List.range 256).map fun x => sub8 (BitVec.ofNat 8 x)
theorem tabL_len : tabL.length = 256 := by simp [tabL]
theorem tabL_get (n : Nat) (h : n < 256) : tabL[n]? = some (BitVec.ofNat 8 (sub n)) := by
  rw [tabL, List.getElem?_map, List.getElem?_range h, Option.map_some, sub8, BitVec.toNat_ofNat, Nat.mod_eq_of_lt (by omega)]
theorem c8_nat (s : Nat) (h : s < 256) : c8 (BitVec.ofNat 8 s) = .int .u8 (s : Int) := by
  show Value.int .u8 ((BitVec.ofNat 8 s).toNat : Int) = _
  rw [BitVec.toNat_ofNat, Nat.mod_eq_of_lt (by omega)]
set_option maxRecDepth 100000 in
set_option maxHeartbeats 1600000 in
theorem refword06_any (A : Option Addr) (c : Nat) (x : BitVec 32) (w : World) (hr : Reads w w.heap.size 1 A 256 (tabL.map c8)) :
    Calls Try.prog 68 #[.slice A 256 c, c32 x] w fun e w' => e = .returned (c32 (subX sub8 x)) ∧ w = w' := by
  have hv : c32 (subX sub8 x) = .int .u32 (subW x.toNat : Int) := by show Value.int .u32 ((subX sub8 x).toNat : Int) = _; rw [subX_nat]
  rw [hv]
  obtain ⟨n, hn⟩ : ∃ n, n = x.toNat := ⟨_, rfl⟩
  have hx := x.isLt
  rw [← hn] at hx ⊢
  rw [show c32 x = .int .u32 (n : Int) by rw [hn]]
  clear hn hv
  obtain ⟨ga, oa, rfl, hga⟩ := reads_at hr (by omega)
  have HG : Hid (∀ j s, j < 256 → sub j = s → w.cell? ⟨ga, oa + j, none⟩ = some (.int .u8 (s : Int))) := hide fun j s hj hs => by
    subst hs
    rw [← c8_nat (sub j) (sub_lt j hj)]
    exact reads_cell8 hr (tabL_get j hj)
  obtain ⟨j3, h3⟩ : ∃ j, j = n / 16777216 := ⟨_, rfl⟩
  obtain ⟨j2, h2⟩ : ∃ j, j = n / 65536 % 256 := ⟨_, rfl⟩
  obtain ⟨j1, h1⟩ : ∃ j, j = n / 256 % 256 := ⟨_, rfl⟩
  obtain ⟨j0, h0⟩ : ∃ j, j = n % 256 := ⟨_, rfl⟩
  have HE : Hid (subW n = sub j3 * 16777216 + sub j2 * 65536 + sub j1 * 256 + sub j0) := hide (by rw [h3, h2, h1, h0]; rfl)
  have g3 : j3 < 256 := by omega
  have g2 : j2 < 256 := by omega
  have g1 : j1 < 256 := by omega
  have g0 : j0 < 256 := by omega
  have b3 := sub_lt j3 g3
  have b2 := sub_lt j2 g2
  have b1 := sub_lt j1 g1
  have b0 := sub_lt j0 g0
  obtain ⟨s3, hs3⟩ : ∃ s, s = sub j3 := ⟨_, rfl⟩
  obtain ⟨s2, hs2⟩ : ∃ s, s = sub j2 := ⟨_, rfl⟩
  obtain ⟨s1, hs1⟩ : ∃ s, s = sub j1 := ⟨_, rfl⟩
  obtain ⟨s0, hs0⟩ : ∃ s, s = sub j0 := ⟨_, rfl⟩
  rw [← hs3] at b3 HE
  rw [← hs2] at b2 HE
  rw [← hs1] at b1 HE
  rw [← hs0] at b0 HE
  have q3 := hide (HG.out j3 s3 g3 hs3.symm)
  have q2 := hide (HG.out j2 s2 g2 hs2.symm)
  have q1 := hide (HG.out j1 s1 g1 hs1.symm)
  have q0 := hide (HG.out j0 s0 g0 hs0.symm)
  have e3 : (n : Int) / 16777216 = (j3 : Int) := by omega
  have e3' : (j3 : Int) % 256 = (j3 : Int) := by omega
  have e2 : (n : Int) / 65536 % 256 = (j2 : Int) := by omega
  have e1 : (n : Int) / 256 % 256 = (j1 : Int) := by omega
  have e0 : (n : Int) % 256 = (j0 : Int) := by omega
  have i3 : (j3 : Int) < 256 := by omega
  have i2 : (j2 : Int) < 256 := by omega
  have i1 : (j1 : Int) < 256 := by omega
  have i0 : (j0 : Int) < 256 := by omega
  have k3 : (0 : Int) ≤ (j3 : Int) := by omega
  have k2 : (0 : Int) ≤ (j2 : Int) := by omega
  have k1 : (0 : Int) ≤ (j1 : Int) := by omega
  have k0 : (0 : Int) ≤ (j0 : Int) := by omega
  replace e3 := hide e3
  replace e3' := hide e3'
  replace e2 := hide e2
  replace e1 := hide e1
  replace e0 := hide e0
  generalize subW n = S at *
  clear hr h3 h2 h1 h0 hs3 hs2 hs1 hs0
  go_enter Try.func68, Try.ntmps68
  go_wp2
  go_loop [5, 6] (fun o i => ∃ k : Nat, k ≤ 4 ∧ i = .int .i64 (3 - (k : Int)) ∧ o = .int .u32 (if k = 0 then (0 : Int) else if k = 1 then (s3 : Int) else if k = 2 then (256 * s3 + s2 : Int) else if k = 3 then 256 * (256 * s3 + s2) + s1 else S)) (fun _ i => (intOf i + 1).toNat)
  case atStart => exact ⟨0, by omega, rfl, rfl⟩
  case round =>
    obtain ⟨k, hk, rfl, rfl⟩ := hrel
    rcases (by omega : k = 0 ∨ k = 1 ∨ k = 2 ∨ k = 3 ∨ k = 4) with rfl | rfl | rfl | rfl | rfl
    · have d := e3.out
      have d' := e3'.out
      have q := q3.out
      go_wp2
      go_round
      case rel => exact ⟨1, by omega, rfl, by first | rfl | simp⟩
      case measure => simp [intOf]
    · have d := e2.out
      have q := q2.out
      go_wp2
      go_round
      case rel => exact ⟨2, by omega, rfl, by first | rfl | simp⟩
      case measure => simp [intOf]
    · have d := e1.out
      have q := q1.out
      go_wp2
      go_round
      case rel => exact ⟨3, by omega, rfl, by first | rfl | simp⟩
      case measure => simp [intOf]
    · have d := e0.out
      have q := q0.out
      go_wp2
      go_round
      case rel => exact ⟨4, by omega, rfl, by rw [HE.out]; simp; omega⟩
      case measure => simp [intOf]
    · go_wp2
      go_ret
      exact ⟨rfl, rfl⟩
end Go.Proofs.Ytdeljodfanfbmaa
namespace Go.Proofs.Ytdeljodfanfbmaa
open Go.RowKit
set_option linter.unusedVariables false
set_option linter.unusedSimpArgs false
attribute [local go_sem] Gives givesUpon
attribute [local irreducible] Gives

def p3 (k : Nat) : BitVec 8 := BitVec.ofNat 8 (powN 3 k)
theorem p3_nat (k : Nat) : (p3 k).toNat = powN 3 k := toNat8 (powN_lt 3 k (by omega))
theorem p3_succ (k : Nat) : mul8 (p3 k) 3#8 = p3 (k + 1) := by
  apply BitVec.eq_of_toNat_eq; rw [mul8_nat, p3_nat, p3_nat]; rfl
def pows (k : Nat) : List (BitVec 8) := (List.range k).map p3
theorem pows_succ (k : Nat) : pows (k + 1) = pows k ++ [p3 k] := by simp [pows, List.range_succ]
theorem pows_get (n k : Nat) (h : k < n) : (pows n)[k]? = some (p3 k) := by rw [pows, List.getElem?_map, List.getElem?_range h]; rfl
def m8 (b : BitVec 8) : BitVec 8 := BitVec.ofNat 8 (mixN b.toNat)
theorem m8_nat (b : BitVec 8) : (m8 b).toNat = mixN b.toNat := toNat8 (mixN_lt _ b.isLt)
def tabN : Nat → List (BitVec 8)
  | 0 => (List.replicate 256 0#8).set 0 (m8 0#8)
  | k + 1 => (tabN k).set (p3 k).toNat (m8 (p3 ((255 - k) % 255)))
theorem tabN_len (k : Nat) : (tabN k).length = 256 := by
  induction k with
  | zero => rw [tabN, List.length_set, List.length_replicate]
  | succ k ih => rw [tabN, List.length_set, ih]
theorem tabN_zero (n : Nat) : (tabN n)[0]? = some (m8 0#8) := by
  induction n with
  | zero => rw [tabN, List.getElem?_set_self (by rw [List.length_replicate]; omega)]
  | succ n ih =>
    rw [tabN, List.getElem?_set_ne (by rw [p3_nat]; exact gen_ne n), ih]
theorem tabN_get (n k : Nat) (hn : n ≤ 255) (hk : k < n) : (tabN n)[(p3 k).toNat]? = some (m8 (p3 ((255 - k) % 255))) := by
  induction n with
  | zero => omega
  | succ n ih =>
    rw [tabN]
    by_cases e : k = n
    · subst e
      rw [List.getElem?_set_self (by rw [tabN_len]; exact (p3 k).isLt)]
    · rw [List.getElem?_set_ne (fun h => e (by rw [p3_nat, p3_nat] at h; exact (gen_inj n k (by omega) (by omega) h).symm)), ih (by omega) (by omega)]
theorem inv_p3 (k : Nat) (hk : k < 255) : powN 3 ((255 - k) % 255) = inv (powN 3 k) := by
  refine inv_unique _ _ (powN_lt 3 k (by omega)) (powN_lt 3 _ (by omega)) (gen_ne k) ?_
  rw [← powN_add 3 _ _ (by omega)]
  by_cases h : k = 0
  · subst h; rfl
  · rw [show k + (255 - k) % 255 = 255 by omega, gen_one]
theorem tabN_all : tabN 255 = tabL := by
  apply List.ext_getElem?
  intro x
  by_cases hx : x < 256
  · rw [tabL_get x hx]
    by_cases h0 : x = 0
    · subst h0
      rw [tabN_zero]
      have e : m8 0#8 = BitVec.ofNat 8 (sub 0) := by rw [m8, sub, inv_zero, show (0#8 : BitVec 8).toNat = 0 from rfl]
      rw [e]
    · obtain ⟨k, hk, rfl⟩ := gen_onto x hx h0
      have h := tabN_get 255 k (by omega) hk
      rw [p3_nat] at h
      rw [h, m8, p3_nat, inv_p3 k hk, sub]
  · rw [List.getElem?_eq_none (by rw [tabN_len]; omega), List.getElem?_eq_none (by rw [tabL_len]; omega)]
theorem idx255 (k : Nat) (h : k < 255) : (255 - (k : Int)).tmod 255 = (((255 - k) % 255 : Nat) : Int) ∧ (255 - (k : Int)) % 255 = (((255 - k) % 255 : Nat) : Int) := by
  refine ⟨?_, by omega⟩
  rw [Int.tmod_eq_emod_of_nonneg (by omega)]; omega
theorem shifted_8 (b : BitVec 8) (w : World) : Calls Try.prog 56 #[.int .i64 (b.toNat : Int)] w fun e w' => e = .returned (c8 (m8 b)) ∧ Below w.heap.size w w' := by
  refine (shifted_any b.toNat b.isLt w).mono ?_
  rintro e w' ⟨rfl, n, rfl⟩
  exact ⟨by rw [← m8_nat], below_drewN (Below.refl _ _) n⟩
set_option maxRecDepth 100000 in
set_option maxHeartbeats 3200000 in
theorem reftable_any (w : World) : Calls Try.prog 66 #[] w fun e w' => ∃ g, e = .returned (.slice (some ⟨g, 0, none⟩) 256 256) ∧ w.heap.size ≤ g ∧ Blk w' g 5 (tabL.map c8).toArray ∧ Below w.heap.size w w' := by
  obtain ⟨i0, hi0, hz0, hz1, hz2⟩ := info_parts info_u8
  have HM : Hid (∀ (k : Nat) (W : World), Calls Try.prog 16 #[c8 (p3 k), .int .u8 3] W fun e w' => e = .returned (c8 (p3 (k + 1))) ∧ W = w') := hide fun k W => by rw [← p3_succ]; exact reftimes_8 (p3 k) 3#8 W
  obtain ⟨b0, hv0⟩ : ∃ b, b = m8 0#8 := ⟨_, rfl⟩
  have HS0 : Hid (∀ W : World, Calls Try.prog 56 #[.int .i64 0] W fun e w' => e = .returned (c8 b0) ∧ Below W.heap.size W w') := hide fun W => by rw [hv0]; exact shifted_8 0#8 W
  replace hv0 := hide hv0
  have h1 : (.int .u8 1 : Value) = c8 (p3 0) := rfl
  obtain ⟨C0, hC0⟩ : ∃ C0, C0 = (List.replicate 256 (c8 0)).toArray := ⟨_, rfl⟩
  have hmk : ∀ w, (Instr.makeSlice 51 (.int .i64 256) (.int .i64 256)).run Try.prog w = .ok (.slice (some ⟨w.heap.size, 0, none⟩) 256 256) (w.alloc (.cells C0 5)) := fun w => by rw [hC0]; exact made8 256 (by omega) w
  have HC0 := hide hC0
  have H1 := hide h1
  clear hC0 h1
  go_enter Try.func66, Try.ntmps66
  go_wp2
  go_loopw [1, 2, 3] (fun v p i wr => ∃ (k : Nat) (A : Option Addr) (c : Nat), k ≤ 255 ∧ v = .slice A k c ∧ i = .int .i64 (k : Int) ∧ p = c8 (p3 k) ∧ Hid (wr.ownsRow w.heap.size 5 1 (.slice A k c) k ((pows k).map c8)) ∧ Hid (Below w.heap.size w wr)) (fun _ _ i _ => 255 - (intOf i).toNat)
  case atStart => exact ⟨0, none, 0, by omega, rfl, rfl, H1.out, hide (World.ownsRow_nil _ _ _ _), hide (Below.refl _ _)⟩
  case round =>
    obtain ⟨k, A3, c3, hk, rfl, rfl, rfl, ho, hB⟩ := hrel
    by_cases hlt : k < 255
    · have hd : decide ((k : Int) < 255) = true := by simp; omega
      have hgr := hB.out.size
      obtain ⟨z, hz⟩ : ∃ z, z = p3 k := ⟨_, rfl⟩
      obtain ⟨z1, hz1'⟩ : ∃ z, z = p3 (k + 1) := ⟨_, rfl⟩
      have HMk : Hid (∀ W : World, Calls Try.prog 16 #[c8 z, .int .u8 3] W fun e w' => e = .returned (c8 z1) ∧ W = w') := hide fun W => by rw [hz, hz1']; exact HM.out k W
      have HXS : Hid (pows (k + 1) = pows k ++ [z]) := hide (by rw [hz]; exact pows_succ k)
      rw [← hz]
      have HZ1 := hide hz1'
      have HR4 := hide (one8 wr z)
      have HOA := hide (ho.out.alloc (.cells #[.int .u8 (z.toNat : Int)] 5))
      have HBA := hide (hB.out.alloc hgr (.cells #[.int .u8 (z.toNat : Int)] 5))
      have HGR : Hid (w.heap.size ≤ (wr.alloc (.cells #[.int .u8 (z.toNat : Int)] 5)).heap.size) := hide (by simp; omega)
      clear hz hz1' HM
      go_wp2_with (first
        | (at_builtin; refine wpList_append_any _ rfl (.tmp 10) (.tmp 12) 51 rfl w.heap.size 5 i0 _ 1 1 Try.underlying51 hi0 hz0 hz1 hz2 rfl (by omega) _ k _ rfl HOA.out _ _ 1 1 _ rfl HR4.out (oneCell_c8 _) (by simp only [maxLen]; omega) (by omega) HGR.out ?_; intro v5 W5 own5 grow5 _; have b5 := below_appended HBA.out HGR.out HOA.out (Nat.le_refl _) grow5; obtain ⟨A5, c5, rfl⟩ := own_slice own5; rw [← List.map_append, ← HXS.out] at own5; replace own5 := hide own5; replace b5 := hide b5; clear grow5)
        | (go_at_call 16; (with_reducible refine (HMk.out _).mono ?_); rintro e w1 ⟨rfl, rfl⟩))
      go_roundw
      case rel => exact ⟨k + 1, A5, c5, hlt, rfl, int_succ _, by rw [HZ1.out], own5, b5⟩
      case measure => simp [intOf]; omega
    · obtain rfl : k = 255 := by omega
      have hd : decide ((255 : Int) < 255) = false := by decide
      have hgr := hB.out.size
      have HP := hide (Reads.of_own ho.out)
      obtain ⟨gp, op_, hA3, hgp⟩ := reads_at HP.out (by omega)
      subst hA3
      have T0 := hide (Blk.new wr 5 C0)
      have BA := hide (hB.out.alloc hgr (.cells C0 5))
      replace HC0 := HC0
      obtain ⟨wz, rfl⟩ : ∃ wz : World, wz = wr := ⟨_, rfl⟩
      have HAl := hide ((Below.refl wz.heap.size wz).alloc (Nat.le_refl _) (.cells C0 5))
      clear HM
      go_wp2_with (go_at_call 56; (with_reducible refine (HS0.out _).mono ?_); rintro e w1 ⟨rfl, hb1⟩; have HB1 := hide hb1; clear hb1; have lt0 : wz.heap.size < w1.heap.size := (by have := HB1.out.size; have := T0.out.lt; omega); have T1 := hide (T0.out.below HB1.out T0.out.lt); have dc0 : w1.cell? ⟨wz.heap.size, 0, none⟩ = some (c8 0) := (T1.out.cell 0).trans (by rw [HC0.out]; rfl); have df0 := T1.out.frozen 0)
      have T2 : Hid (Blk (w1.setCell ⟨wz.heap.size, 0, none⟩ (c8 b0)) wz.heap.size 5 ((tabN 0).map c8).toArray) := hide (by
        have h := T1.out.set_ 0 (c8 b0)
        rw [HC0.out] at h
        rw [hv0.out] at h ⊢
        exact h)
      have BZ := hide ((HAl.out.trans (HB1.out.mono HAl.out.size)).setCell (p := ⟨wz.heap.size, 0, none⟩) (Nat.le_refl _) (c8 b0))
      clear T1 HS0
      go_wp2
      go_loopw [5] (fun i wy => ∃ k : Nat, k ≤ 255 ∧ i = .int .i64 (k : Int) ∧ Hid (Blk wy wz.heap.size 5 ((tabN k).map c8).toArray) ∧ Hid (Below wz.heap.size wz wy)) (fun i _ => 255 - (intOf i).toNat)
      case atStart => exact ⟨0, by omega, rfl, T2, BZ⟩
      case round =>
        obtain ⟨k, hk, rfl, P0, HP0⟩ := hrel
        clear T2 BZ dc0 df0 T0 BA HAl HB1
        by_cases hlt : k < 255
        · have hd : decide ((k : Int) < 255) = true := by simp; omega
          obtain ⟨m, hm⟩ : ∃ m, m = (255 - k) % 255 := ⟨_, rfl⟩
          have hm5 : m < 255 := by omega
          obtain ⟨hi1, hi2⟩ := idx255 k hlt
          rw [← hm] at hi1 hi2
          obtain ⟨z, hz⟩ : ∃ z, z = p3 k := ⟨_, rfl⟩
          obtain ⟨y, hy⟩ : ∃ y, y = p3 m := ⟨_, rfl⟩
          obtain ⟨x, hx⟩ : ∃ x, x = m8 y := ⟨_, rfl⟩
          have HS : Hid ((tabN k).set z.toNat x = tabN (k + 1)) := hide (by rw [hx, hy, hz, hm]; rfl)
          have hrd := HP.out.below HP0.out
          have q0 := hide (reads_cell8 hrd (pows_get 255 k hlt))
          have q1 := hide (reads_cell8 hrd (pows_get 255 m hm5))
          rw [← hz] at q0
          rw [← hy] at q1
          have HSH : Hid (∀ W, Below wr.heap.size wr W → Calls Try.prog 56 #[.int .i64 (y.toNat : Int)] W fun e w' => e = .returned (c8 x) ∧ Below W.heap.size W w') := hide fun W _ => by rw [hx]; exact shifted_8 y W
          have hzl := z.isLt
          have lw := HP0.out.size
          have lp := P0.out.lt
          have hgp2 : gp < wr.heap.size := by omega
          obtain ⟨o5, d5⟩ : ∃ o, wr.cell? ⟨wz.heap.size, z.toNat, none⟩ = some o := ⟨_, (P0.out.cell z.toNat).trans (by rw [List.getElem?_toArray]; exact List.getElem?_eq_getElem (by rw [List.length_map, tabN_len]; omega))⟩
          replace d5 := hide d5
          have f0 : (0 : Int) ≤ (k : Int) := by omega
          have f1 : (0 : Int) ≤ (m : Int) := by omega
          have f2 : (m : Int) < 255 := by omega
          have f3 : (k : Int) < 255 := by omega
          have f4 : (0 : Int) ≤ (z.toNat : Int) := by omega
          have f5 : (z.toNat : Int) < 256 := by omega
          have fw : IntKind.i64.wrap (255 - (k : Int)) = 255 - (k : Int) := IntWalk.i64_in _ (by omega)
          have H1 := hide hi1
          have H2 := hide hi2
          have HFW := hide fw
          have HFY : Hid (IntKind.i64.wrap (y.toNat : Int) = (y.toNat : Int)) := hide (IntWalk.i64_in _ (by have := y.isLt; omega))
          clear hm hz hy hx hrd hi1 hi2 fw
          go_wp2
          apply wp_region_relT 14 (C := fun W => Below wr.heap.size wr W) (M := fun W W' => Below W.heap.size W W') (ss := [_, _, _, _, _, _, _, _, _, _, _, _, _, _]) (by kernel_rfl) (by kernel_rfl) (by kernel_rfl) (by kernel_rfl) (Below.refl _ _).drew
          simp only [List.take_succ_cons, List.take_zero, List.drop_succ_cons, List.drop_zero]
          repeat (first
            | (apply relWalk_const (fun W => Below.refl _ _)
               · (intro W hC hF
                  clear hF
                  have d0 := ((hC.cell (p := ⟨gp, op_ + k, none⟩) hgp2).trans q0.out)
                  have d1 := ((hC.cell (p := ⟨gp, op_ + m, none⟩) hgp2).trans q1.out)
                  have e1 := H1.out
                  have e2 := H2.out
                  have e3 := HFW.out
                  have e4 := HFY.out
                  go_simp
                  with_reducible exact rfl)
               (try simp only [Act.put, List.setIfInBounds_toArray, List.set_cons_zero, List.set_cons_succ])))
          refine relWalk_rel (fun v => v = c8 x) (fun _ _ => True) ⟨_, rfl⟩ (fun _ _ _ _ _ => trivial) (by rfl) ?_ ?_
          · intro W hC hF
            refine gives_call rfl [.int .i64 (y.toNat : Int)] rfl (enters_of Try.func56 (by kernel_rfl) rfl) ?_
            refine (HSH.out W hC).mono ?_
            rintro e w' ⟨rfl, hb⟩
            exact ⟨_, rfl, rfl, trivial, below_next hC hb, hb⟩
          rintro v rfl
          (try simp only [Act.put, List.setIfInBounds_toArray, List.set_cons_zero, List.set_cons_succ])
          repeat (first
            | (apply relWalk_const (fun W => Below.refl _ _)
               · (intro W hC hF
                  clear hF
                  have d0 := ((hC.cell (p := ⟨gp, op_ + k, none⟩) hgp2).trans q0.out)
                  have d1 := ((hC.cell (p := ⟨gp, op_ + m, none⟩) hgp2).trans q1.out)
                  have e1 := H1.out
                  have e2 := H2.out
                  have e3 := HFW.out
                  have e4 := HFY.out
                  go_simp
                  with_reducible exact rfl)
               (try simp only [Act.put, List.setIfInBounds_toArray, List.set_cons_zero, List.set_cons_succ])))
          apply relWalk_nil
          intro W hC hF
          clear hF
          have e5 := P0.out.below hC lp
          have dc := ((hC.cell (p := ⟨wz.heap.size, z.toNat, none⟩) lp).trans d5.out)
          have df := e5.frozen z.toNat
          have e7 := e5.set8 (p := z.toNat) x
          rw [HS.out] at e7
          have HE := hide e7
          have HB2 := hide ((HP0.out.trans (hC.mono lw)).setCell (p := ⟨wz.heap.size, z.toNat, none⟩) (Nat.le_refl _) (c8 x))
          clear e5 e7 hC P0 HP0 q0 q1 d5 HS HSH
          go_wp2_with fail
          go_roundw
          case rel => exact ⟨k + 1, hlt, int_succ k, HE, HB2⟩
          case measure => simp [intOf]; omega
        · obtain rfl : k = 255 := by omega
          have hd : decide ((255 : Int) < 255) = false := by decide
          rw [tabN_all] at P0
          go_wp2
          go_ret
          exact ⟨wz.heap.size, rfl, hB.out.size, P0.out, hB.out.trans (HP0.out.mono hB.out.size)⟩
end Go.Proofs.Ytdeljodfanfbmaa
namespace Go.Proofs.Ytdeljodfanfbmaa
open Go.RowKit
set_option linter.unusedVariables false
set_option linter.unusedSimpArgs false
attribute [local go_sem] Gives givesUpon
attribute [local irreducible] Gives

theorem xorL_get (a b : List (BitVec 8)) (n : Nat) (p q : BitVec 8) (h1 : a[n]? = some p) (h2 : b[n]? = some q) : (xorL a b)[n]? = some (p ^^^ q) := by rw [xorL, List.getElem?_zipWith, h1, h2]
theorem take_next {α : Type} (l : List α) (n : Nat) (x : α) (h : l[n]? = some x) : l.take (n + 1) = l.take n ++ [x] := by
  have hn : n < l.length := (List.getElem?_eq_some_iff.1 h).1
  rw [List.take_succ_eq_append_getElem hn, (List.getElem?_eq_some_iff.1 h).2]
/-- a row of one's own from a later block on is one from an earlier on -/
theorem own_more {w : World} {b1 b0 : Nat} {e : TypeId} {n : Nat} {v : Value} {xs : List Value} (h : w.ownsRow b1 e 1 v n xs) (hb : b0 ≤ b1) : w.ownsRow b0 e 1 v n xs := by
  refine ⟨h.1, ?_⟩
  rcases h.2 with h | ⟨g, cap, cur, h1, h2, h3⟩
  · exact .inl h
  · exact .inr ⟨g, cap, cur, h1, Nat.le_trans hb h2, h3⟩
set_option maxRecDepth 100000 in
set_option maxHeartbeats 3200000 in
theorem refxor06_any (AW AT AB : Option Addr) (cw ct cb : Nat) (ws : List (BitVec 32)) (b : List (BitVec 8)) (r : Nat) (hr14 : r ≤ 14) (w : World) (hw : Reads w w.heap.size 1 AW 60 (ws.map c32)) (hcw : 60 ≤ cw) (hb : Reads w w.heap.size 1 AB 16 (b.map c8)) :
    Calls Try.prog 65 #[.agg #[.slice AW 60 cw, .slice AT 256 ct], .int .i64 (r : Int), .slice AB 16 cb] w fun e w' => ∃ A' c', e = .returned (.slice A' 16 c') ∧ w'.ownsRow w.heap.size 5 1 (.slice A' 16 c') 16 ((xorL b (keyAt (bytesOf ws) r)).map c8) ∧ Below w.heap.size w w' := by
  obtain ⟨i0, hi0, hz0, hz1, hz2⟩ := info_parts info_u8
  have hwl : ws.length = 60 := hw.len
  have hbl : b.length = 16 := hb.len
  obtain ⟨gw, ow, rfl, hgw⟩ := reads_at hw (by omega)
  obtain ⟨gb, ob, rfl, hgb⟩ := reads_at hb (by omega)
  obtain ⟨kb, hkb⟩ : ∃ kb, kb = keyAt (bytesOf ws) r := ⟨_, rfl⟩
  have hkl : kb.length = 16 := by rw [hkb]; exact keyAt_len _ _ (by rw [bytesOf_length, hwl]) hr14
  obtain ⟨X, hX⟩ : ∃ X, X = xorL b kb := ⟨_, rfl⟩
  have hXl : X.length = 16 := by rw [hX]; exact xorL_len _ _ 16 hbl hkl
  have HXG : Hid (∀ n p q, b[n]? = some p → kb[n]? = some q → X[n]? = some (p ^^^ q)) := hide fun n p q h1 h2 => by rw [hX]; exact xorL_get b kb n p q h1 h2
  have HBA := hide ((Below.refl w.heap.size w).alloc (Nat.le_refl _) (.cells #[.slice (some ⟨gw, ow, none⟩) 60 cw, .slice AT 256 ct] 56))
  obtain ⟨W0, hW0⟩ : ∃ W0, W0 = w.alloc (.cells #[.slice (some ⟨gw, ow, none⟩) 60 cw, .slice AT 256 ct] 56) := ⟨_, rfl⟩
  have hcell : W0.cell? ⟨w.heap.size, 0, none⟩ = some (.slice (some ⟨gw, ow, none⟩) 60 cw) := by rw [hW0]; exact (Blk.new w _ _).cell 0
  rw [← hW0] at HBA
  have HC : Hid (∀ cc, Calls Try.prog 74 #[.slice (some ⟨gw, ow + 4 * r, none⟩) 4 cc] W0 fun e w' => ∃ A' c', e = .returned (.slice A' 16 c') ∧ Reads w' w'.heap.size 1 A' 16 (kb.map c8) ∧ Below W0.heap.size W0 w') := hide fun cc => by
    have h1 : WordsAt W0 gw ow ws := ⟨Nat.lt_of_lt_of_le hgw HBA.out.size, fun j x hx => reads_cell (hw.below HBA.out) hx⟩
    have h2 := refbytes_any (some ⟨gw, ow + 4 * r, none⟩) 4 cc ((ws.drop (4 * r)).take 4) W0 (h1.part (4 * r) (by omega)) (by omega)
    rw [key_part] at h2
    refine h2.mono ?_
    rintro e w' ⟨A', c', rfl, own, hb⟩
    exact ⟨A', c', rfl, by rw [hkb]; exact Reads.of_own own, hb⟩
  have HRB := hide hb
  rw [← hkb, ← hX]
  have r0 : (0 : Int) ≤ (r : Int) := by omega
  have r1 : (r : Int) ≤ 14 := by omega
  have f1 : 4 * (r : Int) + 4 ≤ (cw : Int) := by omega
  have f2 : ¬ cw = 4 * r := by omega
  have HW0 := hide hW0.symm
  replace hwl := hide hwl
  replace hbl := hide hbl
  replace hkl := hide hkl
  replace hXl := hide hXl
  replace hkb := hide hkb
  replace hX := hide hX
  clear hw hb hW0
  go_enter Try.func65, Try.ntmps65
  go_wp2_with fail
  rw [HW0.out]
  go_wp2_with fail
  refine (HC.out _).mono ?_
  rintro e w1 ⟨A1, c1, rfl, hk1, hb1⟩
  have HK1 := hide hk1
  have B1 := hide (HBA.out.trans (hb1.mono HBA.out.size))
  obtain ⟨gk, ok, rfl, hgk⟩ := reads_at HK1.out (by omega)
  clear hk1 hb1 hcell
  go_wp2_with fail
  go_loopw [8, 9] (fun v u wr => ∃ (i : Nat) (A : Option Addr) (c : Nat), i ≤ 16 ∧ v = .slice A i c ∧ u = .int .i64 (i : Int) ∧ Hid (wr.ownsRow w1.heap.size 5 1 (.slice A i c) i ((X.take i).map c8)) ∧ Hid (Below w1.heap.size w1 wr)) (fun _ u _ => 16 - (intOf u).toNat)
  case atStart => exact ⟨0, none, 0, by omega, rfl, rfl, hide (World.ownsRow_nil _ _ _ _), hide (Below.refl _ _)⟩
  case round =>
    obtain ⟨i, A3, c3, hi, rfl, rfl, ho, hB⟩ := hrel
    by_cases hlt : i < 16
    · have hd : decide ((i : Int) < 16) = true := by simp; omega
      have i0_ : (0 : Int) ≤ (i : Int) := by omega
      have i1_ : (i : Int) < 16 := by omega
      have hgr := hB.out.size
      have hgr1 := B1.out.size
      obtain ⟨p, hp⟩ : ∃ x, b[i]? = some x := ⟨_, List.getElem?_eq_getElem (by rw [hbl.out]; omega)⟩
      obtain ⟨q, hq⟩ : ∃ x, kb[i]? = some x := ⟨_, List.getElem?_eq_getElem (by rw [hkl.out]; omega)⟩
      have q0 := hide (reads_cell8 ((HRB.out.below B1.out).below (hB.out.mono hgr1)) hp)
      have q1 := hide (reads_cell8 (HK1.out.below hB.out) hq)
      obtain ⟨z, hz⟩ : ∃ z, z = p ^^^ q := ⟨_, rfl⟩
      have hval := xor_u8 p q
      rw [← hz] at hval
      have HXS : Hid (X.take (i + 1) = X.take i ++ [z]) := hide (take_next X i z (by rw [hz]; exact HXG.out i p q hp hq))
      have gb1 : gb < wr.heap.size := by omega
      have gk1 : gk < wr.heap.size := by omega
      clear hp hq hz
      go_wp2_with fail
      apply wp_region_relT 11 (C := fun W => Below wr.heap.size wr W) (M := fun W W' => Below W.heap.size W W') (ss := [_, _, _, _, _, _, _, _, _, _, _]) (by kernel_rfl) (by kernel_rfl) (by kernel_rfl) (by kernel_rfl) (Below.refl _ _).drew
      simp only [List.take_succ_cons, List.take_zero, List.drop_succ_cons, List.drop_zero]
      repeat (first
        | (apply relWalk_const (fun W => Below.refl _ _)
           · (intro W hC hF
              clear hF
              have f0 := ((hC.cell (p := ⟨gb, _, none⟩) gb1).trans q0.out)
              have f1 := ((hC.cell (p := ⟨gk, _, none⟩) gk1).trans q1.out)
              go_simp
              with_reducible exact rfl)
           (try simp only [Act.put, List.setIfInBounds_toArray, List.set_cons_zero, List.set_cons_succ])))
      refine relWalk_rel (fun v => ∃ p, v = .slice (some ⟨p, 0, none⟩) 1 1) (SliceOf8 1 [z]) ⟨_, 0, rfl⟩ (fun v w w' hb h => SliceOf8.later v w w' hb h) (wanted_none _ rfl) ?_ ?_
      · intro W hC hF
        go_simp
        exact ⟨⟨rfl, one8 W z⟩, hC.alloc hC.size _, (Below.refl _ _).alloc (Nat.le_refl _) _⟩
      rintro v' ⟨p', rfl⟩
      (try simp only [Act.put, List.setIfInBounds_toArray, List.set_cons_zero, List.set_cons_succ])
      apply relWalk_nil
      intro W hC hF
      have r4 := hF.1.2
      clear hF
      have HO2 := hide (own_under ho.out hC)
      have HB2 := hide (hB.out.trans (hC.mono hgr))
      have HGR : Hid (w1.heap.size ≤ W.heap.size) := hide HB2.out.size
      have HR4 := hide r4
      clear r4 ho hB hC q0 q1
      go_wp2_with (at_builtin; refine wpList_append_any _ rfl (.tmp 23) (.tmp 33) 51 rfl w1.heap.size 5 i0 _ 1 1 Try.underlying51 hi0 hz0 hz1 hz2 rfl (by omega) _ _ _ rfl HO2.out _ _ 1 1 _ rfl HR4.out (oneCell_c8 _) (by simp only [maxLen]; omega) (by omega) HGR.out ?_; intro v5 W5 own5 grow5 _; have b5 := below_appended HB2.out HGR.out HO2.out (Nat.le_refl _) grow5; obtain ⟨A5, c5, rfl⟩ := own_slice own5; rw [← List.map_append, ← HXS.out] at own5; replace own5 := hide own5; replace b5 := hide b5; clear grow5)
      go_roundw
      case rel => exact ⟨_, A5, c5, hlt, rfl, int_succ _, own5, b5⟩
      case measure => simp [intOf]; omega
    · obtain rfl : i = 16 := by omega
      have hd : decide ((16 : Int) < 16) = false := by decide
      rw [List.take_of_length_le (Nat.le_of_eq hXl.out)] at ho
      have HE := hide (B1.out.trans (hB.out.mono B1.out.size))
      have hww := B1.out.size
      go_wp2
      go_ret
      exact ⟨A3, c3, rfl, own_more ho.out hww, HE.out⟩
end Go.Proofs.Ytdeljodfanfbmaa
namespace Go.Proofs.Ytdeljodfanfbmaa
open Go.RowKit
set_option linter.unusedVariables false
set_option linter.unusedSimpArgs false

theorem own_setRow {w : World} {base n g : Nat} {e : TypeId} {v : Value} {xs : List Value} (h : w.ownsRow base e 1 v n xs) (hg : g < base) (cs : Array Value) : (w.setRow g cs).ownsRow base e 1 v n xs := by
  refine ⟨h.1, ?_⟩
  rcases h.2 with h | ⟨k, cap, cur, h1, h2, h3⟩
  · exact .inl h
  · refine .inr ⟨k, cap, cur, h1, h2, ?_⟩
    have hne : k ≠ g := by omega
    first
      | exact ⟨(setRow_other w g k cs hne).trans h3.1, h3.2⟩
      | exact (setRow_other w g k cs hne).trans h3
theorem zero_ref06 : (Try.prog.info? 56).map (·.zero) = some (some (.agg #[.slice none 0 0, .slice none 0 0])) := by kernel_rfl
theorem info_ref06 : (Try.prog.info? 56).map (·.size) = some 2 := by kernel_rfl
theorem refpower_2 (n : Nat) (hn : n ≤ 1000) (w : World) : Calls Try.prog 24 #[.int .u8 2, .int .i64 (n : Int)] w fun e w' => e = .returned (.int .u8 (powN 2 n : Int)) ∧ w = w' := by
  refine (refpower_any 2 n (by decide) (by omega) (by omega) w).mono ?_
  rintro e w' ⟨rfl, rfl⟩
  exact ⟨by rw [powI_nat 2 n (by decide)], rfl⟩
set_option maxRecDepth 100000 in
set_option maxHeartbeats 6400000 in
theorem refnew06_any (A : Option Addr) (c : Nat) (key : List (BitVec 8)) (w : World) (hr : Reads w w.heap.size 1 A 32 (key.map c8)) :
    Calls Try.prog 38 #[.slice A 32 c] w fun e w' => ∃ AW AT cw ct, e = .returned (.agg #[.slice AW 60 cw, .slice AT 256 ct]) ∧ 60 ≤ cw ∧ Reads w' w'.heap.size 1 AW 60 ((expandN sub8 (wordsOf key) 52).map c32) ∧
      Reads w' w'.heap.size 1 AT 256 (tabL.map c8) ∧ Below w.heap.size w w' := by
  obtain ⟨i0, hi0, hz0, hz1, hz2⟩ := info_parts info_u32
  have kl : key.length = 32 := hr.len
  obtain ⟨ws, hws⟩ : ∃ ws, ws = wordsOf key := ⟨_, rfl⟩
  have HWS : Hid (ws.length = 8) := hide (by rw [hws]; exact wordsOf_length key 8 (by omega))
  have HWE := hide hws
  rw [← hws]
  obtain ⟨ZC, hZC⟩ : ∃ ZC : Array Value, ZC = #[.slice none 0 0, .slice none 0 0] := ⟨_, rfl⟩
  have HZ : Hid ((Try.prog.info? 56).map (·.zero) = some (some (.agg ZC))) := hide (by rw [hZC]; exact zero_ref06)
  have HZs : Hid (ZC.size = 2) := hide (by rw [hZC]; rfl)
  have HR := hide hr
  have BA := hide ((Below.refl w.heap.size w).alloc (Nat.le_refl _) (.cells ZC 56))
  have KA := hide (Blk.new w 56 ZC)
  clear hr hws kl hZC
  go_enter Try.func38, Try.ntmps38
  go_wp2_with (first
    | (refine wpList_alloc_is rfl 56 rfl ZC HZ.out ?_)
    | (go_at_call 66; (with_reducible refine (reftable_any _).mono ?_); rintro e w1 ⟨gt, rfl, hgt, hT, hb1⟩; have HT1 := hide hT; have B1 := hide (BA.out.trans (hb1.mono BA.out.size)); have K1 := hide (KA.out.below hb1 KA.out.lt); clear hT hb1)
    | (go_at_call 67; (with_reducible refine (refwords_any A 32 8 c key w1 ((HR.out.below B1.out).more B1.out.size) (by omega) (by omega)).mono ?_); rintro e w2 ⟨A2, c2, rfl, own2, hb2⟩; rw [← HWE.out] at own2; have HO := hide own2; have B2 := hide hb2; clear own2 hb2))
  have hz9 : (w.alloc (.cells ZC 56)).heap.size = w.heap.size + 1 := by simp
  have hgne : gt ≠ w.heap.size := by omega
  clear hz9
  have lk := K1.out.lt
  have lt1 := HT1.out.lt
  go_loopw [4, 6] (fun v i wr => ∃ (k : Nat) (A : Option Addr) (c : Nat), k ≤ 52 ∧ v = .slice A (8 + k) c ∧ i = .int .i64 ((8 + k : Nat) : Int) ∧ Hid (wr.ownsRow w1.heap.size 30 1 (.slice A (8 + k) c) (8 + k) ((expandN sub8 ws k).map c32)) ∧ Hid (Below w1.heap.size w1 wr)) (fun _ i _ => 60 - (intOf i).toNat)
  case atStart => exact ⟨0, A2, c2, by omega, rfl, rfl, HO, B2⟩
  case round =>
    obtain ⟨k, A3, c3, hk, rfl, rfl, ho, hBW⟩ := hrel
    clear HO B2
    obtain ⟨n, hn⟩ : ∃ n, n = 8 + k := ⟨_, rfl⟩
    obtain ⟨L, hL⟩ : ∃ L, L = expandN sub8 ws k := ⟨_, rfl⟩
    have hLl : L.length = n := by rw [hL, expandN_len, HWS.out, hn]
    have hNx : expandN sub8 ws (k + 1) = L ++ [nextK sub8 L] := by rw [hL]; rfl
    rw [← hn, ← hL] at ho
    rw [← hn]
    by_cases hlt : k < 52
    · have hd : decide ((n : Int) < 60) = true := by simp; omega
      have hn0 : (0 : Int) ≤ (n : Int) := by omega
      obtain ⟨p, hp⟩ : ∃ p, n = p + 1 := ⟨n - 1, by omega⟩
      obtain ⟨q, hq⟩ : ∃ q, n = q + 8 := ⟨n - 8, by omega⟩
      obtain ⟨x, hx⟩ : ∃ x, L[p]? = some x := ⟨_, List.getElem?_eq_getElem (by rw [hLl]; omega)⟩
      obtain ⟨y, hy⟩ : ∃ y, L[q]? = some y := ⟨_, List.getElem?_eq_getElem (by rw [hLl]; omega)⟩
      obtain ⟨hN0, hN4, hN1⟩ := next_eq L n hLl x y (by rw [show n - 1 = p by omega]; exact hx) (by rw [show n - 8 = q by omega]; exact hy)
      have HR := Reads.of_own ho.out
      obtain ⟨ga, oa, rfl, hga⟩ := reads_at HR (by omega)
      have hcx := reads_cell HR hx
      have hcy := reads_cell HR hy
      have e1 : (n : Int) - 1 = (p : Int) := by omega
      have wf1 : IntKind.i64.wrap (p : Int) = (p : Int) := IntWalk.i64_in _ (by omega)
      have e8 : (n : Int) - 8 = (q : Int) := by omega
      have wf8 : IntKind.i64.wrap (q : Int) = (q : Int) := IntWalk.i64_in _ (by omega)
      have p0 : (0 : Int) ≤ (p : Int) := by omega
      have p1 : (p : Int) < (n : Int) := by omega
      have q0 : (0 : Int) ≤ (q : Int) := by omega
      have q1 : (q : Int) < (n : Int) := by omega
      have hcap := own_cap ho.out
      have hbx : Hid (Reads wr wr.heap.size 1 (some ⟨gt, 0, none⟩) 256 (tabL.map c8)) := hide (by
        have hq := HT1.out.below hBW.out lt1
        exact ⟨by rw [List.length_map, tabL_len], fun _ => ⟨_, rfl, hq.lt, fun j v hv => by rw [Addr.add_lit, Nat.zero_add, hq.cell, List.getElem?_toArray]; exact hv⟩⟩)
      have hgr : w1.heap.size ≤ wr.heap.size := hBW.out.size
      have hn8 : 8 ≤ n := by omega
      have hn60 : n < 60 := by omega
      replace hn := hide hn
      replace hp := hide hp
      replace hq := hide hq
      replace hL := hide hL
      replace hLl := hide hLl
      replace hNx := hide hNx
      obtain ⟨z, hz⟩ : ∃ z, z = nextK sub8 L := ⟨_, rfl⟩
      have HXS : Hid (expandN sub8 ws (k + 1) = L ++ [z]) := by rw [hz]; exact hNx
      have HR1 := hide (one_word wr z)
      have HOA := hide (ho.out.alloc (.cells #[.int .u32 (z.toNat : Int)] 30))
      have HBA := hide (hBW.out.alloc hgr (.cells #[.int .u32 (z.toNat : Int)] 30))
      have HBs : Hid (w1.heap.size ≤ (wr.alloc (.cells #[.int .u32 (z.toNat : Int)] 30)).heap.size) := hide (by simp; omega)
      rw [← hz] at hN0 hN4 hN1
      replace hz := hide hz
      clear hx hy HR
      by_cases h0 : n % 8 = 0
      · have m0 : (n : Int) % 8 = 0 := by omega
        obtain ⟨r, hr⟩ : ∃ r, n / 8 = r + 1 := ⟨n / 8 - 1, by omega⟩
        have d1 : (n : Int) / 8 - 1 = (r : Int) := by omega
        have wr1 : IntKind.i64.wrap (r : Int) = (r : Int) := IntWalk.i64_in _ (by omega)
        have HBW := hide (refword06_any _ 256 (rotl x 8) wr hbx.out)
        have hrot : bits .or .u32 ((x.toNat : Int) * 256 % 4294967296) ((x.toNat : Int) / 16777216) = ((rotl x 8).toNat : Int) := left_u32 x 8
        have HPW := hide (refpower_2 r (by omega) wr)
        have m4 : ((n : Int) % 8 == 4) = false := by simp; omega
        have hpl := powN_lt 2 r (by decide)
        have hval : bits .xor .u32 (y.toNat : Int) (bits .xor .u32 ((subX sub8 (rotl x 8)).toNat : Int) ((powN 2 r : Int) * 16777216)) = (z.toNat : Int) := by
          rw [hN0 h0, show n / 8 - 1 = r by omega, show ((powN 2 r : Int) * 16777216) = ((rcon r).toNat : Int) by rw [rcon_nat]; omega, xor_u32, xor_u32]
        clear hN0 hN4 hN1 h0
        replace hn := hide hn
        replace hp := hide hp
        replace hq := hide hq
        replace hL := hide hL
        replace hLl := hide hLl
        replace hNx := hide hNx
        replace hr := hide hr
        go_wp2_with (first
          | (go_at_call 68; (with_reducible refine HBW.out.mono ?_); rintro e w5 ⟨rfl, rfl⟩)
          | (go_at_call 24; (with_reducible refine HPW.out.mono ?_); rintro e w5 ⟨rfl, rfl⟩)
          | (at_builtin; refine wpList_append_any _ rfl (.tmp 46) (.tmp 54) 54 rfl w1.heap.size 30 i0 _ 1 4 Try.underlying54 hi0 hz0 hz1 hz2 rfl (by omega) _ n _ rfl HOA.out _ _ 1 1 _ rfl HR1.out (oneCell_c32 _) (by simp only [maxLen]; omega) (by omega) HBs.out ?_; intro v5 W5 own5 grow5 _; have b5 := below_appended HBA.out HBs.out HOA.out (Nat.le_refl _) grow5; obtain ⟨A5, c5, rfl⟩ := own_slice own5; rw [← List.map_append, ← HXS.out] at own5; replace own5 := hide own5; replace b5 := hide b5; clear grow5))
        go_roundw
        case rel => exact ⟨k + 1, A5, c5, hlt, by rw [show 8 + (k + 1) = n + 1 by rw [hn.out]; omega], by rw [show 8 + (k + 1) = n + 1 by rw [hn.out]; omega]; exact int_succ n, by rw [show 8 + (k + 1) = n + 1 by rw [hn.out]; omega]; exact own5, b5⟩
        case measure => simp [intOf]; omega
      · have m0 : ((n : Int) % 8 == 0) = false := by simp; omega
        by_cases h4 : n % 8 = 4
        · have m4 : (n : Int) % 8 = 4 := by omega
          have HBW := hide (refword06_any _ 256 x wr hbx.out)
          have hval : bits .xor .u32 (y.toNat : Int) ((subX sub8 x).toNat : Int) = (z.toNat : Int) := by
            rw [hN4 h4, xor_u32]
          clear hN0 hN4 hN1 h0 h4
          clear m0
          replace hn := hide hn
          replace hp := hide hp
          replace hq := hide hq
          replace hL := hide hL
          replace hLl := hide hLl
          replace hNx := hide hNx
          go_wp2_with (first
            | (go_at_call 68; (with_reducible refine HBW.out.mono ?_); rintro e w5 ⟨rfl, rfl⟩)
            | (at_builtin; refine wpList_append_any _ rfl (.tmp 46) (.tmp 54) 54 rfl w1.heap.size 30 i0 _ 1 4 Try.underlying54 hi0 hz0 hz1 hz2 rfl (by omega) _ n _ rfl HOA.out _ _ 1 1 _ rfl HR1.out (oneCell_c32 _) (by simp only [maxLen]; omega) (by omega) HBs.out ?_; intro v5 W5 own5 grow5 _; have b5 := below_appended HBA.out HBs.out HOA.out (Nat.le_refl _) grow5; obtain ⟨A5, c5, rfl⟩ := own_slice own5; rw [← List.map_append, ← HXS.out] at own5; replace own5 := hide own5; replace b5 := hide b5; clear grow5))
          go_roundw
          case rel => exact ⟨k + 1, A5, c5, hlt, by rw [show 8 + (k + 1) = n + 1 by rw [hn.out]; omega], by rw [show 8 + (k + 1) = n + 1 by rw [hn.out]; omega]; exact int_succ n, by rw [show 8 + (k + 1) = n + 1 by rw [hn.out]; omega]; exact own5, b5⟩
          case measure => simp [intOf]; omega
        · have m4 : ((n : Int) % 8 == 4) = false := by simp; omega
          have hval : bits .xor .u32 (y.toNat : Int) (x.toNat : Int) = (z.toNat : Int) := by
            rw [hN1 h0 h4, xor_u32]
          clear hN0 hN4 hN1 h0 h4
          replace hn := hide hn
          replace hp := hide hp
          replace hq := hide hq
          replace hL := hide hL
          replace hLl := hide hLl
          replace hNx := hide hNx
          go_wp2_with (at_builtin; refine wpList_append_any _ rfl (.tmp 46) (.tmp 54) 54 rfl w1.heap.size 30 i0 _ 1 4 Try.underlying54 hi0 hz0 hz1 hz2 rfl (by omega) _ n _ rfl HOA.out _ _ 1 1 _ rfl HR1.out (oneCell_c32 _) (by simp only [maxLen]; omega) (by omega) HBs.out ?_; intro v5 W5 own5 grow5 _; have b5 := below_appended HBA.out HBs.out HOA.out (Nat.le_refl _) grow5; obtain ⟨A5, c5, rfl⟩ := own_slice own5; rw [← List.map_append, ← HXS.out] at own5; replace own5 := hide own5; replace b5 := hide b5; clear grow5)
          go_roundw
          case rel => exact ⟨k + 1, A5, c5, hlt, by rw [show 8 + (k + 1) = n + 1 by rw [hn.out]; omega], by rw [show 8 + (k + 1) = n + 1 by rw [hn.out]; omega]; exact int_succ n, by rw [show 8 + (k + 1) = n + 1 by rw [hn.out]; omega]; exact own5, b5⟩
          case measure => simp [intOf]; omega
    · obtain rfl : k = 52 := by omega
      obtain rfl : n = 60 := by omega
      have hd : decide (((60 : Nat) : Int) < 60) = false := by decide
      have HRw := ho
      rw [hL] at HRw
      have hcap := own_cap ho.out
      have K2 := hide (K1.out.below hBW.out lk)
      have T2 := hide (HT1.out.below hBW.out lt1)
      have BW := hide (B1.out.trans (hBW.out.mono B1.out.size))
      obtain ⟨CV, hCV⟩ : ∃ CV : Array Value, CV = #[.slice A3 60 c3, .slice (some ⟨gt, 0, none⟩) 256 256] := ⟨_, rfl⟩
      have HBu : Hid (Try.prog.built 56 [(0, .slice A3 60 c3), (1, .slice (some ⟨gt, 0, none⟩) 256 256)] = some CV) := hide (by rw [hCV]; kernel_rfl)
      have HCi : Hid ((Try.prog.info? 56).map (·.size) = some CV.size) := hide (by rw [hCV]; exact info_ref06)
      have HCs : Hid (ZC.size = CV.size) := hide (by rw [HZs.out, hCV]; rfl)
      have HCo : Hid (CV.all (·.oneCell') = true) := hide (by rw [hCV]; simp [Value.oneCell'])
      have HCV := hide hCV
      clear hn hLl hNx hL hCV
      go_wp2_with (first
        | ((with_reducible show wpList _ _ _ (⟨_, .build _ _, _, _, _, _⟩ :: _) _ _); refine wpList_build_is rfl 56 _ rfl CV (by exact HBu.out) ?_)
        | ((with_reducible show wpList _ _ _ (⟨_, .store _ _ _, _, _, _, _⟩ :: _) _ _); refine wpList_store_row rfl 56 _ _ rfl w.heap.size rfl CV rfl 56 _ K2.out HCi.out HCs.out HCo.out ?_))
      refine bodyPost_ret (v := .agg CV) ?_ rfl ⟨A3, some ⟨gt, 0, none⟩, c3, 256, by rw [HCV.out], hcap, ?_, ?_, ?_⟩
      · exact results_cell_row rfl _ _ w.heap.size 56 CV (0, 0) _ rfl (setRow_heap _ _ _ _ _ _ K2.out) Try.underlying56 rfl HCi.out
      · exact Reads.of_own (own_setRow HRw.out lk CV)
      · have hq := T2.out.setRow_far CV hgne
        exact ⟨by rw [List.length_map, tabL_len], fun _ => ⟨_, rfl, hq.lt, fun j v hv => by rw [Addr.add_lit, Nat.zero_add, hq.cell, List.getElem?_toArray]; exact hv⟩⟩
      · exact below_setRow BW.out (Nat.le_refl _) _
end Go.Proofs.Ytdeljodfanfbmaa
namespace Go.Proofs.Ytdeljodfanfbmaa
open Go.RowKit
set_option linter.unusedVariables false
set_option linter.unusedSimpArgs false
attribute [local go_sem] Gives givesUpon
attribute [local irreducible] Gives

theorem turn1_get (b : List (BitVec 8)) (col i : Nat) (hc : col < 4) (hi : i < 4) (x : BitVec 8) (hx : b[4 * ((col + i) % 4) + i]? = some x) : (turnB 1 (b.map sub8))[4 * col + i]? = some (sub8 x) := by
  rw [turnB, List.getElem?_map, List.getElem?_range (by omega), Option.map_some]
  rw [show (4 * col + i) / 4 = col by omega, show (4 * col + i) % 4 = i by omega, Nat.one_mul]
  simp [List.getD, hx]
theorem mixcol_next (S : List (BitVec 8)) (h : S.length = 16) (j : Nat) (hj : j < 4) : (colB mixRow S).take (4 * (j + 1)) = (colB mixRow S).take (4 * j) ++ byC mixRow ((S.drop (4 * j)).take 4) := by
  obtain ⟨x0, x1, x2, x3, x4, x5, x6, x7, x8, x9, x10, x11, x12, x13, x14, x15, rfl⟩ := sixteen S h
  rw [colB_four]
  rcases (by omega : j = 0 ∨ j = 1 ∨ j = 2 ∨ j = 3) with rfl | rfl | rfl | rfl <;> rfl
theorem Blk.bytes {w : World} {g n : Nat} {l : List (BitVec 8)} (h : Blk w g 5 (l.map c8).toArray) (hl : l.length = n) : Reads w w.heap.size 1 (some ⟨g, 0, none⟩) n (l.map c8) :=
  ⟨by rw [List.length_map, hl, Nat.mul_one], fun _ => ⟨_, rfl, h.lt, fun j v hv => by rw [Addr.add_lit, Nat.zero_add, h.cell, List.getElem?_toArray]; exact hv⟩⟩
theorem reads_part {w : World} {B n g o : Nat} {l : List (BitVec 8)} (h : Reads w B 1 (some ⟨g, o, none⟩) n (l.map c8)) (k m : Nat) (hk : k + m ≤ n) (hm : 0 < m) : Reads w B 1 (some ⟨g, o + k, none⟩) m (((l.drop k).take m).map c8) := by
  have hl : l.length = n := h.len
  refine ⟨by rw [List.length_map, List.length_take, List.length_drop]; omega, fun _ => ⟨_, rfl, ?_, fun j u hu => ?_⟩⟩
  · obtain ⟨ad, e, hb, _⟩ := h.2 (by omega)
    cases e; exact hb
  · obtain ⟨x, hx, rfl⟩ : ∃ x, ((l.drop k).take m)[j]? = some x ∧ c8 x = u := by
      rw [List.getElem?_map] at hu
      cases hv : ((l.drop k).take m)[j]? with
      | none => rw [hv] at hu; cases hu
      | some x => rw [hv] at hu; exact ⟨x, rfl, by injection hu⟩
    have hj : j < m := by have := (List.getElem?_eq_some_iff.1 hx).1; rw [List.length_take] at this; omega
    rw [List.getElem?_take_of_lt hj, List.getElem?_drop] at hx
    rw [Addr.add_lit, Nat.add_assoc]
    exact reads_cell8 h hx
set_option maxRecDepth 100000 in
set_option maxHeartbeats 6400000 in
theorem refenc06_any (AW AT AB : Option Addr) (cw ct cb : Nat) (ws : List (BitVec 32)) (b : List (BitVec 8)) (w : World) (hw : Reads w w.heap.size 1 AW 60 (ws.map c32)) (hcw : 60 ≤ cw) (ht : Reads w w.heap.size 1 AT 256 (tabL.map c8)) (hb : Reads w w.heap.size 1 AB 16 (b.map c8)) :
    Calls Try.prog 37 #[.agg #[.slice AW 60 cw, .slice AT 256 ct], .slice AB 16 cb] w fun e w' => ∃ A' c', e = .returned (.slice A' 16 c') ∧ w'.ownsRow w.heap.size 5 1 (.slice A' 16 c') 16 ((encN sub8 (bytesOf ws) b 14).map c8) ∧ Below w.heap.size w w' := by
  obtain ⟨i0, hi0, hz0, hz1, hz2⟩ := info_parts info_u8
  have hwl : ws.length = 60 := hw.len
  have hbl : b.length = 16 := hb.len
  obtain ⟨ks, hks⟩ : ∃ ks, ks = bytesOf ws := ⟨_, rfl⟩
  have hkl : ks.length = 240 := by rw [hks, bytesOf_length, hwl]
  rw [← hks]
  obtain ⟨gt, ot, rfl, hgt⟩ := reads_at ht (by omega)
  obtain ⟨CV, hCV⟩ : ∃ CV : Array Value, CV = #[.slice AW 60 cw, .slice (some ⟨gt, ot, none⟩) 256 ct] := ⟨_, rfl⟩
  rw [← hCV]
  have HCi : Hid ((Try.prog.info? 56).map (·.size) = some CV.size) := hide (by rw [hCV]; exact info_ref06)
  have HBA := hide ((Below.refl w.heap.size w).alloc (Nat.le_refl _) (.cells CV 56))
  have KA := hide (Blk.new w 56 CV)
  have HX : Hid (∀ (A : Option Addr) (c : Nat) (l : List (BitVec 8)) (r : Nat) (W : World), r ≤ 14 → Below w.heap.size w W → Reads W W.heap.size 1 A 16 (l.map c8) → Calls Try.prog 65 #[.agg CV, .int .i64 (r : Int), .slice A 16 c] W fun e w' => ∃ A' c', e = .returned (.slice A' 16 c') ∧ w'.ownsRow w.heap.size 5 1 (.slice A' 16 c') 16 ((xorL l (keyAt ks r)).map c8) ∧ Below W.heap.size W w') := hide fun A c l r W hr hB hl => by
    rw [hCV, hks]
    refine (refxor06_any AW _ A cw ct c ws l r hr W ((hw.below hB).more hB.size) hcw hl).mono ?_
    rintro e w' ⟨A', c', rfl, own, hb⟩
    exact ⟨A', c', rfl, own_more own hB.size, hb⟩
  have HTB : Hid (∀ (x : BitVec 8) (W : World), Below w.heap.size w W → W.cell? ⟨gt, ot + x.toNat, none⟩ = some (c8 (sub8 x))) := hide fun x W hB => by
    have h := reads_cell8 (ht.below hB) (tabL_get x.toNat x.isLt)
    exact h
  have hc0 : CV[1]? = some (.slice (some ⟨gt, ot, none⟩) 256 ct) := by rw [hCV]; rfl
  have HRB := hide hb
  obtain ⟨C16, hC16⟩ : ∃ C16, C16 = (List.replicate 16 (c8 0)).toArray := ⟨_, rfl⟩
  have hmk : ∀ w, (Instr.makeSlice 51 (.int .i64 16) (.int .i64 16)).run Try.prog w = .ok (.slice (some ⟨w.heap.size, 0, none⟩) 16 16) (w.alloc (.cells C16 5)) := fun w => by rw [hC16]; exact made8 16 (by omega) w
  obtain ⟨Z, hZ⟩ : ∃ Z : List (BitVec 8), Z = List.replicate 16 0#8 := ⟨_, rfl⟩
  have hZl : Z.length = 16 := by rw [hZ]; rfl
  have HZC : Hid (C16 = (Z.map c8).toArray) := hide (by rw [hC16, hZ]; rfl)
  have HC0 := hide hc0
  replace hwl := hide hwl
  replace hbl := hide hbl
  replace hks := hide hks
  replace hkl := hide hkl
  replace hCV := hide hCV
  replace hC16 := hide hC16
  replace hZ := hide hZ
  replace hZl := hide hZl
  obtain ⟨W0, hW0⟩ : ∃ W0, W0 = w.alloc (.cells CV 56) := ⟨_, rfl⟩
  rw [← hW0] at HBA KA
  have HW0 := hide hW0.symm
  clear hw ht hb hc0 hW0
  have hX0 := HX.out AB cb b 0 W0 (by omega) HBA.out (HRB.out.below HBA.out |>.more HBA.out.size)
  rw [show ((0 : Nat) : Int) = 0 from rfl] at hX0
  have HX0 := hide hX0
  clear hX0
  go_enter Try.func37, Try.ntmps37
  go_wp2_with (first
    | (rw [HW0.out]; (with_reducible show wpList _ _ _ (⟨_, .load _ _, _, _, _, _⟩ :: _) _ _); refine wpList_load_row rfl 56 _ rfl w.heap.size rfl 56 CV (0, 0) _ KA.out Try.underlying56 rfl HCi.out ?_)
    | (go_at_call 65; (with_reducible refine HX0.out.mono ?_); rintro e w1 ⟨A1, c1, rfl, hr1, hb1⟩; have HR1 := hide hr1; have B1 := hide (HBA.out.trans (hb1.mono HBA.out.size)); have K1 := hide (KA.out.below hb1 KA.out.lt); clear hr1 hb1))
  go_loopw [1, 5] (fun v u wr => ∃ (n : Nat) (A : Option Addr) (c : Nat), n ≤ 14 ∧ v = .slice A 16 c ∧ u = .int .i64 ((n + 1 : Nat) : Int) ∧ Hid (wr.ownsRow w.heap.size 5 1 (.slice A 16 c) 16 ((encN sub8 ks b n).map c8)) ∧ Hid (Blk wr w.heap.size 56 CV) ∧ Hid (Below w.heap.size w wr)) (fun _ u _ => 15 - (intOf u).toNat)
  case atStart => exact ⟨0, A1, c1, by omega, rfl, rfl, HR1, K1, B1⟩
  case round =>
    obtain ⟨n, A3, c3, hn, rfl, rfl, hRo, hK, hB⟩ := hrel
    have hR := hide (Reads.of_own hRo.out)
    obtain ⟨wo, rfl⟩ : ∃ wo : World, wo = wr := ⟨_, rfl⟩
    clear HR1 K1 B1
    obtain ⟨l, hl⟩ : ∃ l, l = encN sub8 ks b n := ⟨_, rfl⟩
    have hll : l.length = 16 := by rw [hl]; exact encN_len _ _ _ _ hbl.out hkl.out hn
    obtain ⟨r, hr⟩ : ∃ r, r = n + 1 := ⟨_, rfl⟩
    have HNX : Hid (r ≤ 14 → encN sub8 ks b r = xorL (encS sub8 r l) (keyAt ks r)) := hide (fun _ => by rw [hr, hl]; rfl)
    rw [← hl] at hR hRo
    rw [← hr]
    by_cases hlt : r ≤ 14
    · have hd : decide ((r : Int) ≤ 14) = true := by simp; omega
      have r0 : (0 : Int) ≤ (r : Int) := by omega
      have r1 : (r : Int) ≤ 14 := by omega
      obtain ⟨gb, ob, rfl, hgb⟩ := reads_at hR.out (by omega)
      obtain ⟨S, hS⟩ : ∃ S, S = turnB 1 (l.map sub8) := ⟨_, rfl⟩
      have hSl : S.length = 16 := by rw [hS]; exact turnB_len _ _
      have HSG : Hid (∀ col i x, col < 4 → i < 4 → l[4 * ((col + i) % 4) + i]? = some x → S[4 * col + i]? = some (sub8 x)) := hide fun col i x h1 h2 h3 => by rw [hS]; exact turn1_get l col i h1 h2 x h3
      have T0 : Hid (Blk (wo.alloc (.cells C16 5)) wo.heap.size 5 ((half S Z (4 * 0)).map c8).toArray) := hide (by rw [Nat.mul_zero, half_zero, ← HZC.out]; exact Blk.new wo 5 C16)
      have BA := hide ((Below.refl wo.heap.size wo).alloc (Nat.le_refl _) (.cells C16 5))
      have HS := hide hS
      have HSL := hide hSl
      have HLL := hide hll
      have HL := hide hl
      have HRr := hide hr
      clear hS hSl hll hl hr
      go_wp2
      go_loopw [7] (fun v wr => ∃ col : Nat, col ≤ 4 ∧ v = .int .i64 (col : Int) ∧ Hid (Blk wr wo.heap.size 5 ((half S Z (4 * col)).map c8).toArray) ∧ Hid (Below wo.heap.size wo wr)) (fun v _ => 4 - (intOf v).toNat)
      case atStart => exact ⟨0, by omega, rfl, T0, BA⟩
      case round =>
        obtain ⟨col, hcol, rfl, P0, HP0⟩ := hrel
        obtain ⟨wc, rfl⟩ : ∃ wc : World, wc = wr := ⟨_, rfl⟩
        clear T0 BA
        by_cases hct : col < 4
        · have hd2 : decide ((col : Int) < 4) = true := by simp; omega
          go_wp2
          go_loopw [8] (fun v wr => ∃ i : Nat, i ≤ 4 ∧ v = .int .i64 (i : Int) ∧ Hid (Blk wr wo.heap.size 5 ((half S Z (4 * col + i)).map c8).toArray) ∧ Hid (Below wo.heap.size wo wr)) (fun v _ => 4 - (intOf v).toNat)
          case atStart => exact ⟨0, by omega, rfl, P0, HP0⟩
          case round =>
            obtain ⟨i, hi, rfl, P, HP⟩ := hrel
            clear P0 HP0
            by_cases hit : i < 4
            · have hd3 : decide ((i : Int) < 4) = true := by simp; omega
              obtain ⟨m, hm⟩ : ∃ m, m = (col + i) % 4 := ⟨_, rfl⟩
              obtain ⟨t, ht⟩ : ∃ t, t = col + i := ⟨_, rfl⟩
              obtain ⟨p, hp⟩ : ∃ p, p = 4 * col + i := ⟨_, rfl⟩
              obtain ⟨q, hq⟩ : ∃ q, q = 4 * m + i := ⟨_, rfl⟩
              have hp16 : p < 16 := by omega
              have hq16 : q < 16 := by omega
              obtain ⟨x, hx⟩ : ∃ x, l[q]? = some x := ⟨_, List.getElem?_eq_getElem (by rw [HLL.out]; exact hq16)⟩
              obtain ⟨z, hz⟩ : ∃ z, z = sub8 x := ⟨_, rfl⟩
              have HSet : Hid ((half S Z p).set p z = half S Z (p + 1)) := hide (half_set S Z p _ (by rw [hz, hp]; exact HSG.out col i x hct hit (by rw [← hm, ← hq]; exact hx)) (by rw [hZl.out]; exact hp16))
              have lw := HP.out.size
              have lo := hB.out.size
              have q0 := hide (reads_cell8 (hR.out.below HP.out) hx)
              have q1 := hide (HTB.out x wr (hB.out.trans (HP.out.mono lo)))
              rw [← hz] at q1
              have hK2 := hK.out.lt
              have q2 := hide ((hK.out.below HP.out hK2).cell 1 |>.trans HC0.out)
              have lp := P.out.lt
              have gb1 : gb < wr.heap.size := by omega
              have gt1 : gt < wr.heap.size := by omega
              have gw1 : w.heap.size < wr.heap.size := by omega
              rw [← hp] at P
              obtain ⟨o5, d5⟩ : ∃ o, wr.cell? ⟨wo.heap.size, p, none⟩ = some o := ⟨_, (P.out.cell p).trans (by rw [List.getElem?_toArray]; exact List.getElem?_eq_getElem (by rw [List.length_map, half_len S Z p 16 HSL.out hZl.out (by omega)]; exact hp16))⟩
              replace d5 := hide d5
              have xl := x.isLt
              have F : Hid (IntKind.i64.wrap (4 * (col : Int)) = 4 * (col : Int) ∧ 4 * (col : Int) + (i : Int) = (p : Int) ∧ IntKind.i64.wrap (p : Int) = (p : Int) ∧ (col : Int) + (i : Int) = (t : Int) ∧ IntKind.i64.wrap (t : Int) = (t : Int) ∧ Int.tmod (t : Int) 4 = (m : Int) ∧ (t : Int) % 4 = (m : Int) ∧
                  IntKind.i64.wrap (4 * (m : Int)) = 4 * (m : Int) ∧ 4 * (m : Int) + (i : Int) = (q : Int) ∧ IntKind.i64.wrap (q : Int) = (q : Int)) := hide
                ⟨IntWalk.i64_in _ (by omega), by omega, IntWalk.i64_in _ (by omega), by omega, IntWalk.i64_in _ (by omega), by rw [Int.tmod_eq_emod_of_nonneg (by omega)]; omega, by omega, IntWalk.i64_in _ (by omega), by omega, IntWalk.i64_in _ (by omega)⟩
              have G : (0 : Int) ≤ (p : Int) ∧ (p : Int) < 16 ∧ (0 : Int) ≤ (q : Int) ∧ (q : Int) < 16 ∧ (0 : Int) ≤ (x.toNat : Int) ∧ (x.toNat : Int) < 256 := by omega
              have HPE : Hid (4 * col + (i + 1) = p + 1) := hide (by omega)
              obtain ⟨G1, G2, G3, G4, G5, G6⟩ := G
              clear hm ht hp hq hx hz
              go_wp2
              apply wp_region_relT 20 (C := fun W => Below wr.heap.size wr W) (M := fun W W' => Below W.heap.size W W') (ss := [_, _, _, _, _, _, _, _, _, _, _, _, _, _, _, _, _, _, _, _]) (by kernel_rfl) (by kernel_rfl) (by kernel_rfl) (by kernel_rfl) (Below.refl _ _).drew
              simp only [List.take_succ_cons, List.take_zero, List.drop_succ_cons, List.drop_zero]
              repeat (first
                | (apply relWalk_const (fun W => Below.refl _ _)
                   · (intro W hC hF
                      clear hF
                      have d0 := ((hC.cell (p := ⟨gb, ob + q, none⟩) gb1).trans q0.out)
                      have d1 := ((hC.cell (p := ⟨gt, ot + x.toNat, none⟩) gt1).trans q1.out)
                      have d2 := ((hC.cell (p := ⟨w.heap.size, 1, none⟩) gw1).trans q2.out)
                      obtain ⟨e1, e2, e3, e4, e5, e6, e7, e8, e9, e10⟩ := F.out
                      go_simp
                      with_reducible exact rfl)
                   (try simp only [Act.put, List.setIfInBounds_toArray, List.set_cons_zero, List.set_cons_succ])))
              apply relWalk_nil
              intro W hC hF
              clear hF
              have e5 := P.out.below hC lp
              have dc := ((hC.cell (p := ⟨wo.heap.size, p, none⟩) lp).trans d5.out)
              have df := e5.frozen p
              have e7 := e5.set8 (p := p) z
              rw [HSet.out] at e7
              have HE := hide e7
              have HB2 := hide ((HP.out.trans (hC.mono lw)).setCell (p := ⟨wo.heap.size, p, none⟩) (Nat.le_refl _) (c8 z))
              clear e5 e7 hC P HP q0 q1 q2 d5 HSet F
              go_wp2_with fail
              go_roundw
              case rel => exact ⟨i + 1, hit, int_succ i, by rw [HPE.out]; exact HE, HB2⟩
              case measure => simp [intOf]; omega
            · obtain rfl : i = 4 := by omega
              have hd3 : decide ((4 : Int) < 4) = false := by decide
              go_wp2
              go_roundw
              case rel => exact ⟨col + 1, hct, int_succ col, by rw [show 4 * (col + 1) = 4 * col + 4 by omega]; exact P, HP⟩
              case measure => simp [intOf]; omega
        · obtain rfl : col = 4 := by omega
          have hd2 : decide ((4 : Int) < 4) = false := by decide
          rw [half_all S Z (4 * 4) HSL.out hZl.out] at P0
          have hK2 := hK.out.lt
          have lo := hB.out.size
          have K2 := hide (hK.out.below HP0.out hK2)
          have B2 := hide (hB.out.trans (HP0.out.mono lo))
          have RS := hide (P0.out.bytes HSL.out)
          by_cases h14 : r < 14
          · have hd4 : decide ((r : Int) < 14) = true := by simp; omega
            obtain ⟨M, hM⟩ : ∃ M, M = colB mixRow S := ⟨_, rfl⟩
            have HMl : Hid (M.length = 16) := hide (by rw [hM]; exact colB_len _ _)
            have HMn : Hid (∀ j, j < 4 → M.take (4 * (j + 1)) = M.take (4 * j) ++ byC mixRow ((S.drop (4 * j)).take 4)) := hide fun j hj => by rw [hM]; exact mixcol_next S HSL.out j hj
            have HE : Hid (encN sub8 ks b r = xorL M (keyAt ks r)) := hide (by rw [HNX.out hlt, encS, if_pos h14, hM, HS.out])
            clear hM h14
            rw [show ((4 : Nat) : Int) = 4 from rfl]
            go_wp2
            go_loopw [9, 10] (fun v u wr => ∃ (j : Nat) (A : Option Addr) (c : Nat), j ≤ 4 ∧ v = .slice A (4 * j) c ∧ u = .int .i64 (j : Int) ∧ Hid (wr.ownsRow wc.heap.size 5 1 (.slice A (4 * j) c) (4 * j) ((M.take (4 * j)).map c8)) ∧ Hid (Below wc.heap.size wc wr)) (fun _ u _ => 4 - (intOf u).toNat)
            case atStart => exact ⟨0, none, 0, by omega, rfl, rfl, hide (World.ownsRow_nil _ _ _ _), hide (Below.refl _ _)⟩
            case round =>
              obtain ⟨j, A5, c5, hj, rfl, rfl, ho, hBj⟩ := hrel
              by_cases hjt : j < 4
              · have hd5 : decide ((j : Int) < 4) = true := by simp; omega
                have j0 : (0 : Int) ≤ (j : Int) := by omega
                have j1 : (j : Int) < 4 := by omega
                have f2 : ¬ 16 = 4 * j := by omega
                have f1 : 4 * (j : Int) + 4 ≤ 16 := by omega
                have f3 : 4 * j + 4 - 4 * j = 4 := by omega
                have hsz := hBj.out.size
                obtain ⟨cl, hcl⟩ : ∃ cl, cl = (S.drop (4 * j)).take 4 := ⟨_, rfl⟩
                have HRM : Hid (∀ cc, Calls Try.prog 41 #[.slice (some ⟨wo.heap.size, 4 * j, none⟩) 4 cc] wr fun e w' => ∃ A' c', e = .returned (.slice A' 4 c') ∧ w'.ownsRow wr.heap.size 5 1 (.slice A' 4 c') 4 ((byC mixRow cl).map c8) ∧ Below wr.heap.size wr w') := hide fun cc => by
                  have h := reads_part (RS.out.later hBj.out) (4 * j) 4 (by omega) (by omega)
                  rw [Nat.zero_add, ← hcl] at h
                  exact refmix_any _ cc cl wr h
                have HXS : Hid (M.take (4 * (j + 1)) = M.take (4 * j) ++ byC mixRow cl) := hide (by rw [hcl]; exact HMn.out j hjt)
                have HJ : Hid (4 * j + 4 = 4 * (j + 1)) := hide (by omega)
                clear hcl
                go_wp2_with (first
                  | (go_at_call 41; (refine (HRM.out _).mono ?_); rintro e w6 ⟨A6, c6, rfl, own6, hb6⟩; have HR6 := hide (Reads.of_own own6); have HO6 := hide (own_under ho.out hb6); have B6 := hide (hBj.out.trans (hb6.mono hsz)); have HGR : Hid (wc.heap.size ≤ w6.heap.size) := hide B6.out.size; clear own6 hb6)
                  | (at_builtin; refine wpList_append_any _ rfl (.tmp 53) (.tmp 61) 51 rfl wc.heap.size 5 i0 _ 1 1 Try.underlying51 hi0 hz0 hz1 hz2 rfl (by omega) _ (4 * j) _ rfl HO6.out _ A6 4 c6 _ rfl HR6.out (oneCell_c8 _) (by simp only [maxLen]; omega) (by omega) HGR.out ?_; intro v7 W7 own7 grow7 _; have b7 := below_appended B6.out HGR.out HO6.out (Nat.le_refl _) grow7; obtain ⟨A7, c7, rfl⟩ := own_slice own7; rw [← List.map_append, ← HXS.out, HJ.out] at own7; replace own7 := hide own7; replace b7 := hide b7; clear grow7))
                go_roundw
                case rel => exact ⟨j + 1, A7, c7, hjt, by rw [HJ.out], int_succ j, own7, b7⟩
                case measure => simp [intOf]; omega
              · obtain rfl : j = 4 := by omega
                have hd5 : decide ((4 : Int) < 4) = false := by decide
                rw [show 4 * 4 = 16 from rfl, List.take_of_length_le (Nat.le_of_eq HMl.out)] at ho
                have K3 := hide (K2.out.below hBj.out K2.out.lt)
                have B3 := hide (B2.out.trans (hBj.out.mono B2.out.size))
                have HC := hide (HX.out A5 c5 M r wr hlt B3.out (Reads.of_own ho.out))
                rw [← HE.out] at HC
                go_wp2_with (first
                  | ((with_reducible show wpList _ _ _ (⟨_, .load 56 _, _, _, _, _⟩ :: _) _ _); refine wpList_load_row rfl 56 _ rfl w.heap.size rfl 56 CV (0, 0) _ K3.out Try.underlying56 rfl HCi.out ?_)
                  | (go_at_call 65; (with_reducible refine HC.out.mono ?_); rintro e w8 ⟨A8, c8_, rfl, hr8, hb8⟩; have HR8 := hide hr8; have B8 := hide (B3.out.trans (hb8.mono B3.out.size)); have K8 := hide (K3.out.below hb8 K3.out.lt); clear hr8 hb8))
                go_roundw
                case rel => exact ⟨r, A8, c8_, hlt, rfl, int_succ r, HR8, K8, B8⟩
                case measure => simp [intOf]; omega
          · obtain rfl : r = 14 := by omega
            have hd4 : decide ((14 : Int) < 14) = false := by decide
            have HE : Hid (encN sub8 ks b 14 = xorL S (keyAt ks 14)) := hide (by rw [HNX.out hlt, encS, if_neg (by omega), HS.out])
            have hC := HX.out (some ⟨wo.heap.size, 0, none⟩) 16 S 14 wc hlt B2.out RS.out
            rw [← HE.out, show ((14 : Nat) : Int) = 14 from rfl] at hC
            have HC := hide hC
            clear hC
            clear h14
            go_wp2_with (first
              | ((with_reducible show wpList _ _ _ (⟨_, .load 56 _, _, _, _, _⟩ :: _) _ _); refine wpList_load_row rfl 56 _ rfl w.heap.size rfl 56 CV (0, 0) _ K2.out Try.underlying56 rfl HCi.out ?_)
              | (go_at_call 65; (with_reducible refine HC.out.mono ?_); rintro e w8 ⟨A8, c8_, rfl, hr8, hb8⟩; have HR8 := hide hr8; have B8 := hide (B2.out.trans (hb8.mono B2.out.size)); have K8 := hide (K2.out.below hb8 K2.out.lt); clear hr8 hb8))
            go_roundw
            case rel => exact ⟨14, A8, c8_, by omega, rfl, rfl, HR8, K8, B8⟩
            case measure => simp [intOf]
    · obtain rfl : n = 14 := by omega
      have hd : decide ((r : Int) ≤ 14) = false := by rw [hr]; decide
      rw [hl] at hRo
      clear HNX hl hll hr
      go_wp2
      go_ret
      exact ⟨A3, c3, rfl, hRo.out, hB.out⟩
end Go.Proofs.Ytdeljodfanfbmaa
