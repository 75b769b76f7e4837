/- The walk of the law ShaRoots: each constant is what stands behind the point of a prime's cube root, each start of a square root. No condition. -/
import Derived.Test.YtdikknfdgpdenaaRootsRoot
namespace Go.Proofs.Ytdikknfdgpdenaa
open Go.RowKit
set_option linter.unusedVariables false
set_option linter.unusedSimpArgs false

theorem info_u32w : ∃ i, Try.prog.info? 22 = some i ∧ i.size = 1 := by
  obtain ⟨i, hi, _, h1, _⟩ := info_parts info_u32
  exact ⟨i, hi, h1⟩
set_option maxRecDepth 100000 in
theorem constant_in (k : Nat) (hk : k < 64) (w : World) : Calls Try.prog 41 #[.int .i64 (k : Int)] w fun e w' => e = .returned (.tuple #[c32 (shaK.getD k 0), .bool true]) ∧ Below w.heap.size w w' := by
  obtain ⟨i0, hi0, h1⟩ := info_u32w
  obtain ⟨K, hK⟩ : ∃ K, K = (shaK.map c32).toArray := ⟨_, rfl⟩
  have hx : ∀ w, (Instr.index 90 (.agg K) (.int .i64 (k : Int))).run Try.prog w = .ok (c32 (shaK.getD k 0)) w := fun w => by
    rw [hK]
    refine run_index_agg w _ _ _ k _ _ i0 _ Try.underlying90 hi0 h1 Try.underlying22 hk ?_
    rw [List.getElem?_toArray, List.getElem?_map, List.getElem?_eq_getElem (by rw [shaK_len]; exact hk)]
    simp [List.getD, List.getElem?_eq_getElem (show k < shaK.length by rw [shaK_len]; exact hk)]
  have HC := hide (constants_any w)
  rw [← hK] at HC
  obtain ⟨c, hc⟩ : ∃ c, c = shaK.getD k 0 := ⟨_, rfl⟩
  rw [← hc] at hx ⊢
  have hk0 : decide ((k : Int) < 0) = false := by simp
  have hk1 : decide ((64 : Int) ≤ (k : Int)) = false := by simp; omega
  clear hK hc
  go_enter Try.func41, Try.ntmps41
  go_wp2_with (go_at_call 69; (with_reducible refine HC.out.mono ?_); rintro e w1 ⟨rfl, hb1⟩)
  go_ret2
  exact ⟨rfl, hb1⟩
set_option maxRecDepth 100000 in
theorem constant_out (x : Int) (h : x < 0 ∨ 64 ≤ x) (w : World) : Calls Try.prog 41 #[.int .i64 x] w fun e w' => e = .returned (.tuple #[.int .u32 0, .bool false]) ∧ Below w.heap.size w w' := by
  rcases h with h | h
  · have hk0 : decide (x < 0) = true := by simp; omega
    go_enter Try.func41, Try.ntmps41
    go_wp2
    go_ret2
    exact ⟨rfl, Below.refl _ _⟩
  · have hk0 : decide (x < 0) = false := by simp; omega
    have hk1 : decide ((64 : Int) ≤ x) = true := by simp; omega
    go_enter Try.func41, Try.ntmps41
    go_wp2
    go_ret2
    exact ⟨rfl, Below.refl _ _⟩
theorem state_vals : ∃ S : Array Value, S = (shaH.list.map c32).toArray ∧ (Try.prog.info? 81).map (·.size) = some S.size ∧ S.all (·.oneCell') = true := ⟨_, rfl, by kernel_rfl, oneCell_words _⟩
theorem zero_state : ∃ Z : Array Value, (Try.prog.info? 81).map (·.zero) = some (some (.agg Z)) ∧ Z.size = 8 := ⟨(List.replicate 8 (c32 0)).toArray, by kernel_rfl, rfl⟩
set_option maxRecDepth 100000 in
theorem start_any (x : Int) (v : Value) (b : Bool) (h : (∃ k : Nat, k < 8 ∧ x = (k : Int) ∧ v = c32 (shaH.list.getD k 0) ∧ b = true) ∨ ((x < 0 ∨ 8 ≤ x) ∧ v = .int .u32 0 ∧ b = false)) (w : World) :
    Calls Try.prog 42 #[.int .i64 x] w fun e w' => e = .returned (.tuple #[v, .bool b]) ∧ Below w.heap.size w w' := by
  obtain ⟨S, hS, hSi, hSo⟩ := state_vals
  obtain ⟨Z, hZ, hZs⟩ := zero_state
  have HC := hide (starts_any w)
  rw [← hS] at HC
  have hSz : S.size = 8 := by rw [hS]; rfl
  replace hZ := hide hZ
  rcases h with ⟨k, hk, rfl, rfl, rfl⟩ | ⟨h, rfl, rfl⟩
  · have hk0 : decide ((k : Int) < 0) = false := by simp
    have hk1 : decide ((8 : Int) ≤ (k : Int)) = false := by simp; omega
    have hk2 : (0 : Int) ≤ (k : Int) := by omega
    have hk3 : (k : Int) < 8 := by omega
    have HG : Hid (∀ g W, Blk W g 81 S → W.cell? ⟨g, k, none⟩ = some (c32 (shaH.list.getD k 0))) := hide (fun g W h => by
      rw [hS] at h
      refine (h.cell k).trans ?_
      rw [List.getElem?_toArray, List.getElem?_map, List.getElem?_eq_getElem (by rw [V8.list_len]; exact hk)]
      simp [List.getD, List.getElem?_eq_getElem (show k < shaH.list.length by rw [V8.list_len]; exact hk)])
    obtain ⟨c, hc⟩ : ∃ c, c = shaH.list.getD k 0 := ⟨_, rfl⟩
    rw [← hc] at HG ⊢
    clear hS hc
    go_enter Try.func42, Try.ntmps42
    go_wp2_with (first
      | (go_at_call 63; (with_reducible refine HC.out.mono ?_); rintro e w1 ⟨rfl, hb1⟩; have B0 := hide hb1; clear hb1)
      | ((with_reducible show wpList _ _ _ (⟨_, .alloc 81, _, _, _, _⟩ :: _) _ _); refine wpList_alloc_is rfl 81 rfl Z hZ.out ?_; have K1 := hide (Blk.new w1 81 Z); have B1 := hide (B0.out.alloc B0.out.size (.cells Z 81)))
      | ((with_reducible show wpList _ _ _ (⟨_, .store 81 _ _, _, _, _, _⟩ :: _) _ _); refine wpList_store_row rfl 81 _ _ rfl w1.heap.size rfl S rfl 81 _ K1.out hSi (hZs.trans hSz.symm) hSo ?_; have K2 := hide (K1.out.setRow_ S); have B2 := hide (below_setRow B1.out B0.out.size S); have x1 := HG.out w1.heap.size _ K2.out))
    go_ret2
    exact ⟨rfl, B2.out⟩
  · clear hS
    rcases h with h | h
    · have hk0 : decide (x < 0) = true := by simp; omega
      go_enter Try.func42, Try.ntmps42
      go_wp2_with (first
        | (go_at_call 63; (with_reducible refine HC.out.mono ?_); rintro e w1 ⟨rfl, hb1⟩; have B0 := hide hb1; clear hb1)
        | ((with_reducible show wpList _ _ _ (⟨_, .alloc 81, _, _, _, _⟩ :: _) _ _); refine wpList_alloc_is rfl 81 rfl Z hZ.out ?_; have K1 := hide (Blk.new w1 81 Z); have B1 := hide (B0.out.alloc B0.out.size (.cells Z 81)))
        | ((with_reducible show wpList _ _ _ (⟨_, .store 81 _ _, _, _, _, _⟩ :: _) _ _); refine wpList_store_row rfl 81 _ _ rfl w1.heap.size rfl S rfl 81 _ K1.out hSi (hZs.trans hSz.symm) hSo ?_; have B2 := hide (below_setRow B1.out B0.out.size S)))
      go_ret2
      exact ⟨rfl, B2.out⟩
    · have hk0 : decide (x < 0) = false := by simp; omega
      have hk1 : decide ((8 : Int) ≤ x) = true := by simp; omega
      go_enter Try.func42, Try.ntmps42
      go_wp2_with (first
        | (go_at_call 63; (with_reducible refine HC.out.mono ?_); rintro e w1 ⟨rfl, hb1⟩; have B0 := hide hb1; clear hb1)
        | ((with_reducible show wpList _ _ _ (⟨_, .alloc 81, _, _, _, _⟩ :: _) _ _); refine wpList_alloc_is rfl 81 rfl Z hZ.out ?_; have K1 := hide (Blk.new w1 81 Z); have B1 := hide (B0.out.alloc B0.out.size (.cells Z 81)))
        | ((with_reducible show wpList _ _ _ (⟨_, .store 81 _ _, _, _, _, _⟩ :: _) _ _); refine wpList_store_row rfl 81 _ _ rfl w1.heap.size rfl S rfl 81 _ K1.out hSi (hZs.trans hSz.symm) hSo ?_; have B2 := hide (below_setRow B1.out B0.out.size S)))
      go_ret2
      exact ⟨rfl, B2.out⟩
theorem goodOf_le (i v : Nat) : goodOf i v ≤ 101 * v := by
  induction v with
  | zero => simp [goodOf]
  | succ v ih => simp only [goodOf]; split <;> split <;> omega
set_option maxRecDepth 100000 in
set_option maxHeartbeats 1600000 in
theorem shaRoots_walk (w : World) (x0 : Int) (l0 : -9223372036854775808 ≤ x0) (u0 : x0 ≤ 9223372036854775807) :
    Calls Try.prog 8 #[.int .i64 x0] w fun e w' => e = .returned (.bool true) ∧ Below w.heap.size w w' := by
  by_cases hin : 0 ≤ x0 ∧ x0 < 64
  · obtain ⟨k, hk_⟩ : ∃ k : Nat, x0 = (k : Int) := ⟨x0.toNat, by omega⟩
    subst hk_
    have hk : k < 64 := by omega
    -- from here by gen-sharoots.py
    obtain ⟨cN, hcN⟩ : ∃ cN, cN = (shaK.getD k 0).toNat := ⟨_, rfl⟩
    have hcN32 : cN < 4294967296 := by rw [hcN]; exact (shaK.getD k 0).isLt
    obtain ⟨p, hp⟩ : ∃ p, p = primeP (k + 1) := ⟨_, rfl⟩
    have hp311 : p ≤ 311 := by rw [hp]; exact (prime_up hk).2
    have HC : Hid (Calls Try.prog 41 #[.int .i64 (k : Int)] w fun e w' => e = .returned (.tuple #[.int .u32 (cN : Int), .bool true]) ∧ Below w.heap.size w w') := hide (by rw [hcN]; exact constant_in k hk w)
    have HPR : Hid (∀ W, Calls Try.prog 43 #[.int .i64 (k : Int)] W fun e w' => e = .returned (.int .u64 (p : Int)) ∧ W = w') := hide (fun W => by rw [hp]; exact prime_any k hk W)
    have hd0 : decide ((0 : Int) ≤ (k : Int)) = true := by simp
    have hd64 : decide ((k : Int) < 64) = true := by simp; omega
    by_cases h8 : k < 8
    · have hk8 : k < 8 := h8
      obtain ⟨sN, hsN⟩ : ∃ sN, sN = (shaH.list.getD k 0).toNat := ⟨_, rfl⟩
      have hsN32 : sN < 4294967296 := by rw [hsN]; exact (shaH.list.getD k 0).isLt
      have HS : Hid (∀ W, Calls Try.prog 42 #[.int .i64 (k : Int)] W fun e w' => e = .returned (.tuple #[.int .u32 (sN : Int), .bool true]) ∧ Below W.heap.size W w') := hide (fun W => by rw [hsN]; exact start_any (k : Int) _ _ (.inl ⟨k, hk8, rfl, rfl, rfl⟩) W)
      have hd8 : decide ((k : Int) < 8) = true := by simp; omega
      have HGA : Hid (goodOf k 19 = 101) := hide (by rw [good_is hk, if_pos (by omega)])
      have HST : Hid (∀ v, goodOf k (v + 1) = goodOf k v + (if rootB ((v + 1) * 4294967296 + cN) p 3 then 1 else 0) + (if rootB ((v + 1) * 4294967296 + sN) p 2 then 100 else 0)) := hide (fun v => by rw [hcN, hp, hsN]; simp only [goodOf]; congr 1; simp [hk8])
      replace hcN := hide hcN
      replace hp := hide hp
      replace hsN := hide hsN
      clear hin
      go_enter Try.func8, Try.ntmps8
      go_wp2_with (first
        | (go_at_call 41; (with_reducible refine HC.out.mono ?_); rintro e w1 ⟨rfl, hb1⟩; have B1 := hide hb1; clear hb1)
        | (go_at_call 42; (with_reducible refine (HS.out w1).mono ?_); rintro e w2 ⟨rfl, hb2⟩; have B2 := hide (below_next B1.out hb2); clear hb2)
        | (go_at_call 43; (with_reducible refine (HPR.out w2).mono ?_); rintro e w3 ⟨rfl, rfl⟩))
      go_loopw [8, 9] (fun x y wr => ∃ v u : Nat, v ≤ 19 ∧ (u ≤ v + 1 ∧ v + 1 ≤ u) ∧ x = .int .i64 (goodOf k v : Int) ∧ y = .int .u64 (u : Int) ∧ Hid (Below w.heap.size w wr)) (fun _ y _ => 20 - (intOf y).toNat)
      case atStart => exact ⟨0, 1, by omega, ⟨by omega, by omega⟩, rfl, rfl, B2⟩
      case round =>
        obtain ⟨v, u, hv, ⟨hu1, hu2⟩, rfl, rfl, HB⟩ := hrel
        by_cases hlt : v < 19
        · have hd : decide ((u : Int) < 20) = true := by simp; omega
          have hu20 : (u : Int) < 20 := by omega
          have hu0 : (0 : Int) ≤ (u : Int) := by omega
          obtain ⟨a, ha⟩ : ∃ a, a = u * 4294967296 := ⟨_, rfl⟩
          have ea : (u : Int) * 4294967296 = (a : Int) := by omega
          have eaw := u64_in (a : Int) (by omega)
          obtain ⟨b, hb⟩ : ∃ b, b = a + cN := ⟨_, rfl⟩
          have eb : (a : Int) + (cN : Int) = (b : Int) := by omega
          have ebw := u64_in (b : Int) (by omega)
          have ecw := u64_in (cN : Int) (by omega)
          obtain ⟨gd, hgd⟩ : ∃ gd, gd = goodOf k v := ⟨_, rfl⟩
          have hgl : gd ≤ 2000 := by have := goodOf_le k v; omega
          obtain ⟨b3, hb3⟩ : ∃ b3, b3 = rootB b p 3 := ⟨_, rfl⟩
          have HR3 : Hid (∀ W, Calls Try.prog 44 #[.int .u64 (b : Int), .int .u64 (p : Int), .int .i64 3] W fun e w' => e = .returned (.bool b3) ∧ Below W.heap.size W w') := hide (fun W => by rw [hb3]; exact root3_any b p (by omega) (by omega) W)
          obtain ⟨d, hd'⟩ : ∃ d, d = a + sN := ⟨_, rfl⟩
          have ed : (a : Int) + (sN : Int) = (d : Int) := by omega
          have edw := u64_in (d : Int) (by omega)
          have esw := u64_in (sN : Int) (by omega)
          obtain ⟨b2, hb2⟩ : ∃ b2, b2 = rootB d p 2 := ⟨_, rfl⟩
          have HR2 : Hid (∀ W, Calls Try.prog 44 #[.int .u64 (d : Int), .int .u64 (p : Int), .int .i64 2] W fun e w' => e = .returned (.bool b2) ∧ Below W.heap.size W w') := hide (fun W => by rw [hb2]; exact root2_any d p (by omega) (by omega) W)
          have hu : u = v + 1 := by omega
          have HNX : Hid (goodOf k (v + 1) = gd + (if b3 = true then 1 else 0) + (if b2 = true then 100 else 0)) := hide (by rw [HST.out v, hb3, hb2, hb, hd', ha, hu, hgd])
          clear ha hb hb3 hd' hb2 hu
          rw [← hgd]
          replace hgd := hide hgd
          cases b3
          · cases b2
            · have HGG : Hid (goodOf k (v + 1) = gd + 0) := hide (by have := HNX.out; simpa using this)
              clear HNX
              go_wp2_with (first
                  | (go_at_call 44; (with_reducible refine (HR3.out wr).mono ?_); rintro e w4 ⟨rfl, hb4⟩; have B4 := hide (below_next HB.out hb4); clear hb4)
                  | (go_at_call 44; (with_reducible refine (HR2.out w4).mono ?_); rintro e w5 ⟨rfl, hb5⟩; have B5 := hide (below_next B4.out hb5); clear hb5))
              go_roundw
              case rel => exact ⟨v + 1, u + 1, by omega, ⟨by omega, by omega⟩, int_i64 (by have := HGG.out; omega), int_u64 (by omega), B5⟩
              case measure => (simp [intOf]; try omega)
            · have HGG : Hid (goodOf k (v + 1) = gd + 100) := hide (by have := HNX.out; simpa using this)
              clear HNX
              go_wp2_with (first
                  | (go_at_call 44; (with_reducible refine (HR3.out wr).mono ?_); rintro e w4 ⟨rfl, hb4⟩; have B4 := hide (below_next HB.out hb4); clear hb4)
                  | (go_at_call 44; (with_reducible refine (HR2.out w4).mono ?_); rintro e w5 ⟨rfl, hb5⟩; have B5 := hide (below_next B4.out hb5); clear hb5))
              go_roundw
              case rel => exact ⟨v + 1, u + 1, by omega, ⟨by omega, by omega⟩, int_i64 (by have := HGG.out; omega), int_u64 (by omega), B5⟩
              case measure => (simp [intOf]; try omega)
          · cases b2
            · have HGG : Hid (goodOf k (v + 1) = gd + 1) := hide (by have := HNX.out; simpa using this)
              clear HNX
              go_wp2_with (first
                  | (go_at_call 44; (with_reducible refine (HR3.out wr).mono ?_); rintro e w4 ⟨rfl, hb4⟩; have B4 := hide (below_next HB.out hb4); clear hb4)
                  | (go_at_call 44; (with_reducible refine (HR2.out w4).mono ?_); rintro e w5 ⟨rfl, hb5⟩; have B5 := hide (below_next B4.out hb5); clear hb5))
              go_roundw
              case rel => exact ⟨v + 1, u + 1, by omega, ⟨by omega, by omega⟩, int_i64 (by have := HGG.out; omega), int_u64 (by omega), B5⟩
              case measure => (simp [intOf]; try omega)
            · have HGG : Hid (goodOf k (v + 1) = gd + 101) := hide (by have := HNX.out; simpa using this)
              clear HNX
              go_wp2_with (first
                  | (go_at_call 44; (with_reducible refine (HR3.out wr).mono ?_); rintro e w4 ⟨rfl, hb4⟩; have B4 := hide (below_next HB.out hb4); clear hb4)
                  | (go_at_call 44; (with_reducible refine (HR2.out w4).mono ?_); rintro e w5 ⟨rfl, hb5⟩; have B5 := hide (below_next B4.out hb5); clear hb5))
              go_roundw
              case rel => exact ⟨v + 1, u + 1, by omega, ⟨by omega, by omega⟩, int_i64 (by have := HGG.out; omega), int_u64 (by omega), B5⟩
              case measure => (simp [intOf]; try omega)
        · obtain rfl : v = 19 := by omega
          obtain rfl : u = 20 := by omega
          have hd : decide (((20 : Nat) : Int) < 20) = false := by decide
          rw [HGA.out]
          go_wp2_with (go_at_call 32; (with_reducible refine (alive02_any wr).mono ?_); rintro e w6 ⟨rfl, hb6⟩; have B6 := hide (below_next HB.out hb6); clear hb6)
          go_ret
          exact ⟨rfl, B6.out⟩
    · have HS : Hid (∀ W, Calls Try.prog 42 #[.int .i64 (k : Int)] W fun e w' => e = .returned (.tuple #[.int .u32 0, .bool false]) ∧ Below W.heap.size W w') := hide (fun W => start_any (k : Int) _ _ (.inr ⟨by omega, rfl, rfl⟩) W)
      have hd8 : decide ((k : Int) < 8) = false := by simp; omega
      have HGA : Hid (goodOf k 19 = 1) := hide (by rw [good_is hk, if_neg (by omega)])
      have HST : Hid (∀ v, goodOf k (v + 1) = goodOf k v + (if rootB ((v + 1) * 4294967296 + cN) p 3 then 1 else 0) + 0) := hide (fun v => by rw [hcN, hp]; simp only [goodOf]; congr 1; simp [show ¬ k < 8 by omega])
      replace hcN := hide hcN
      replace hp := hide hp
      clear hin
      go_enter Try.func8, Try.ntmps8
      go_wp2_with (first
        | (go_at_call 41; (with_reducible refine HC.out.mono ?_); rintro e w1 ⟨rfl, hb1⟩; have B1 := hide hb1; clear hb1)
        | (go_at_call 42; (with_reducible refine (HS.out w1).mono ?_); rintro e w2 ⟨rfl, hb2⟩; have B2 := hide (below_next B1.out hb2); clear hb2)
        | (go_at_call 43; (with_reducible refine (HPR.out w2).mono ?_); rintro e w3 ⟨rfl, rfl⟩))
      go_loopw [8, 9] (fun x y wr => ∃ v u : Nat, v ≤ 19 ∧ (u ≤ v + 1 ∧ v + 1 ≤ u) ∧ x = .int .i64 (goodOf k v : Int) ∧ y = .int .u64 (u : Int) ∧ Hid (Below w.heap.size w wr)) (fun _ y _ => 20 - (intOf y).toNat)
      case atStart => exact ⟨0, 1, by omega, ⟨by omega, by omega⟩, rfl, rfl, B2⟩
      case round =>
        obtain ⟨v, u, hv, ⟨hu1, hu2⟩, rfl, rfl, HB⟩ := hrel
        by_cases hlt : v < 19
        · have hd : decide ((u : Int) < 20) = true := by simp; omega
          have hu20 : (u : Int) < 20 := by omega
          have hu0 : (0 : Int) ≤ (u : Int) := by omega
          obtain ⟨a, ha⟩ : ∃ a, a = u * 4294967296 := ⟨_, rfl⟩
          have ea : (u : Int) * 4294967296 = (a : Int) := by omega
          have eaw := u64_in (a : Int) (by omega)
          obtain ⟨b, hb⟩ : ∃ b, b = a + cN := ⟨_, rfl⟩
          have eb : (a : Int) + (cN : Int) = (b : Int) := by omega
          have ebw := u64_in (b : Int) (by omega)
          have ecw := u64_in (cN : Int) (by omega)
          obtain ⟨gd, hgd⟩ : ∃ gd, gd = goodOf k v := ⟨_, rfl⟩
          have hgl : gd ≤ 2000 := by have := goodOf_le k v; omega
          obtain ⟨b3, hb3⟩ : ∃ b3, b3 = rootB b p 3 := ⟨_, rfl⟩
          have HR3 : Hid (∀ W, Calls Try.prog 44 #[.int .u64 (b : Int), .int .u64 (p : Int), .int .i64 3] W fun e w' => e = .returned (.bool b3) ∧ Below W.heap.size W w') := hide (fun W => by rw [hb3]; exact root3_any b p (by omega) (by omega) W)
          have hu : u = v + 1 := by omega
          have HNX : Hid (goodOf k (v + 1) = gd + (if b3 = true then 1 else 0)) := hide (by rw [HST.out v, hb3, hb, ha, hu, hgd, Nat.add_zero])
          clear ha hb hb3 hu
          rw [← hgd]
          replace hgd := hide hgd
          cases b3
          · have HGG : Hid (goodOf k (v + 1) = gd + 0) := hide (by have := HNX.out; simpa using this)
            clear HNX
            go_wp2_with (go_at_call 44; (with_reducible refine (HR3.out wr).mono ?_); rintro e w4 ⟨rfl, hb4⟩; have B4 := hide (below_next HB.out hb4); clear hb4)
            go_roundw
            case rel => exact ⟨v + 1, u + 1, by omega, ⟨by omega, by omega⟩, int_i64 (by have := HGG.out; omega), int_u64 (by omega), B4⟩
            case measure => (simp [intOf]; try omega)
          · have HGG : Hid (goodOf k (v + 1) = gd + 1) := hide (by have := HNX.out; simpa using this)
            clear HNX
            go_wp2_with (go_at_call 44; (with_reducible refine (HR3.out wr).mono ?_); rintro e w4 ⟨rfl, hb4⟩; have B4 := hide (below_next HB.out hb4); clear hb4)
            go_roundw
            case rel => exact ⟨v + 1, u + 1, by omega, ⟨by omega, by omega⟩, int_i64 (by have := HGG.out; omega), int_u64 (by omega), B4⟩
            case measure => (simp [intOf]; try omega)
        · obtain rfl : v = 19 := by omega
          obtain rfl : u = 20 := by omega
          have hd : decide (((20 : Nat) : Int) < 20) = false := by decide
          rw [HGA.out]
          go_wp2_with (go_at_call 32; (with_reducible refine (alive02_any wr).mono ?_); rintro e w6 ⟨rfl, hb6⟩; have B6 := hide (below_next HB.out hb6); clear hb6)
          go_ret
          exact ⟨rfl, B6.out⟩
    -- to here
  · have HC := hide (constant_out x0 (by omega) w)
    have HS : Hid (∀ W, Calls Try.prog 42 #[.int .i64 x0] W fun e w' => e = .returned (.tuple #[.int .u32 0, .bool false]) ∧ Below W.heap.size W w') := hide (fun W => start_any x0 _ _ (.inr ⟨by omega, rfl, rfl⟩) W)
    by_cases hneg : x0 < 0
    · have hd0 : decide ((0 : Int) ≤ x0) = false := by simp; omega
      clear hin
      go_enter Try.func8, Try.ntmps8
      go_wp2_with (first
        | (go_at_call 41; (with_reducible refine HC.out.mono ?_); rintro e w1 ⟨rfl, hb1⟩; have B1 := hide hb1; clear hb1)
        | (go_at_call 42; (with_reducible refine (HS.out w1).mono ?_); rintro e w2 ⟨rfl, hb2⟩; have B2 := hide (below_next B1.out hb2); clear hb2)
        | (go_at_call 32; (with_reducible refine (alive02_any w2).mono ?_); rintro e w3 ⟨rfl, hb3⟩; have B3 := hide (below_next B2.out hb3); clear hb3))
      go_ret
      exact ⟨rfl, B3.out⟩
    · have hd0 : decide ((0 : Int) ≤ x0) = true := by simp; omega
      have hd1 : decide (x0 < 64) = false := by simp; omega
      have hd2 : decide (x0 < 8) = false := by simp; omega
      clear hin
      go_enter Try.func8, Try.ntmps8
      go_wp2_with (first
        | (go_at_call 41; (with_reducible refine HC.out.mono ?_); rintro e w1 ⟨rfl, hb1⟩; have B1 := hide hb1; clear hb1)
        | (go_at_call 42; (with_reducible refine (HS.out w1).mono ?_); rintro e w2 ⟨rfl, hb2⟩; have B2 := hide (below_next B1.out hb2); clear hb2)
        | (go_at_call 32; (with_reducible refine (alive02_any w2).mono ?_); rintro e w3 ⟨rfl, hb3⟩; have B3 := hide (below_next B2.out hb3); clear hb3))
      go_ret
      exact ⟨rfl, B3.out⟩
end Go.Proofs.Ytdikknfdgpdenaa
