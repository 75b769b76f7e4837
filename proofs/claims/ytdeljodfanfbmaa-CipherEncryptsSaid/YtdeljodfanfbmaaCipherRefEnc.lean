/- Chapter 06's reference: Encrypt. No condition. -/
import Derived.Test.YtdeljodfanfbmaaCipherRefNew
namespace Go.Proofs.Ytdeljodfanfbmaa
open Go.RowKit
set_option linter.unusedVariables false
set_option linter.unusedSimpArgs false
attribute [local go_sem] Gives givesUpon
attribute [local irreducible] Gives

theorem turn1_get (b : List (BitVec 8)) (col i : Nat) (hc : col < 4) (hi : i < 4) (x : BitVec 8) (hx : b[4 * ((col + i) % 4) + i]? = some x) : (turnB 1 (b.map sub8))[4 * col + i]? = some (sub8 x) := by
  rw [turnB, List.getElem?_map, List.getElem?_range (by omega), Option.map_some]
  rw [show (4 * col + i) / 4 = col by omega, show (4 * col + i) % 4 = i by omega, Nat.one_mul]
  simp [List.getD, hx]
theorem mixcol_next (S : List (BitVec 8)) (h : S.length = 16) (j : Nat) (hj : j < 4) : (colB mixRow S).take (4 * (j + 1)) = (colB mixRow S).take (4 * j) ++ byC mixRow ((S.drop (4 * j)).take 4) := by
  obtain ⟨x0, x1, x2, x3, x4, x5, x6, x7, x8, x9, x10, x11, x12, x13, x14, x15, rfl⟩ := sixteen S h
  rw [colB_four]
  rcases (by omega : j = 0 ∨ j = 1 ∨ j = 2 ∨ j = 3) with rfl | rfl | rfl | rfl <;> rfl
theorem Blk.bytes {w : World} {g n : Nat} {l : List (BitVec 8)} (h : Blk w g 5 (l.map c8).toArray) (hl : l.length = n) : Reads w w.heap.size 1 (some ⟨g, 0, none⟩) n (l.map c8) :=
  ⟨by rw [List.length_map, hl, Nat.mul_one], fun _ => ⟨_, rfl, h.lt, fun j v hv => by rw [Addr.add_lit, Nat.zero_add, h.cell, List.getElem?_toArray]; exact hv⟩⟩
theorem reads_part {w : World} {B n g o : Nat} {l : List (BitVec 8)} (h : Reads w B 1 (some ⟨g, o, none⟩) n (l.map c8)) (k m : Nat) (hk : k + m ≤ n) (hm : 0 < m) : Reads w B 1 (some ⟨g, o + k, none⟩) m (((l.drop k).take m).map c8) := by
  have hl : l.length = n := h.len
  refine ⟨by rw [List.length_map, List.length_take, List.length_drop]; omega, fun _ => ⟨_, rfl, ?_, fun j u hu => ?_⟩⟩
  · obtain ⟨ad, e, hb, _⟩ := h.2 (by omega)
    cases e; exact hb
  · obtain ⟨x, hx, rfl⟩ : ∃ x, ((l.drop k).take m)[j]? = some x ∧ c8 x = u := by
      rw [List.getElem?_map] at hu
      cases hv : ((l.drop k).take m)[j]? with
      | none => rw [hv] at hu; cases hu
      | some x => rw [hv] at hu; exact ⟨x, rfl, by injection hu⟩
    have hj : j < m := by have := (List.getElem?_eq_some_iff.1 hx).1; rw [List.length_take] at this; omega
    rw [List.getElem?_take_of_lt hj, List.getElem?_drop] at hx
    rw [Addr.add_lit, Nat.add_assoc]
    exact reads_cell8 h hx
set_option maxRecDepth 100000 in
set_option maxHeartbeats 6400000 in
theorem refenc06_any (AW AT AB : Option Addr) (cw ct cb : Nat) (ws : List (BitVec 32)) (b : List (BitVec 8)) (w : World) (hw : Reads w w.heap.size 1 AW 60 (ws.map c32)) (hcw : 60 ≤ cw) (ht : Reads w w.heap.size 1 AT 256 (tabL.map c8)) (hb : Reads w w.heap.size 1 AB 16 (b.map c8)) :
    Calls Try.prog 37 #[.agg #[.slice AW 60 cw, .slice AT 256 ct], .slice AB 16 cb] w fun e w' => ∃ A' c', e = .returned (.slice A' 16 c') ∧ Reads w' w'.heap.size 1 A' 16 ((encN sub8 (bytesOf ws) b 14).map c8) ∧ Below w.heap.size w w' := by
  obtain ⟨i0, hi0, hz0, hz1, hz2⟩ := info_parts info_u8
  have hwl : ws.length = 60 := hw.len
  have hbl : b.length = 16 := hb.len
  obtain ⟨ks, hks⟩ : ∃ ks, ks = bytesOf ws := ⟨_, rfl⟩
  have hkl : ks.length = 240 := by rw [hks, bytesOf_length, hwl]
  rw [← hks]
  obtain ⟨gt, ot, rfl, hgt⟩ := reads_at ht (by omega)
  obtain ⟨CV, hCV⟩ : ∃ CV : Array Value, CV = #[.slice AW 60 cw, .slice (some ⟨gt, ot, none⟩) 256 ct] := ⟨_, rfl⟩
  rw [← hCV]
  have HCi : Hid ((Try.prog.info? 56).map (·.size) = some CV.size) := hide (by rw [hCV]; exact info_ref06)
  have HBA := hide ((Below.refl w.heap.size w).alloc (Nat.le_refl _) (.cells CV 56))
  have KA := hide (Blk.new w 56 CV)
  have HX : Hid (∀ (A : Option Addr) (c : Nat) (l : List (BitVec 8)) (r : Nat) (W : World), r ≤ 14 → Below w.heap.size w W → Reads W W.heap.size 1 A 16 (l.map c8) → Calls Try.prog 65 #[.agg CV, .int .i64 (r : Int), .slice A 16 c] W fun e w' => ∃ A' c', e = .returned (.slice A' 16 c') ∧ Reads w' w'.heap.size 1 A' 16 ((xorL l (keyAt ks r)).map c8) ∧ Below W.heap.size W w') := hide fun A c l r W hr hB hl => by
    rw [hCV, hks]
    refine (refxor06_any AW _ A cw ct c ws l r hr W ((hw.below hB).more hB.size) hcw hl).mono ?_
    rintro e w' ⟨A', c', rfl, own, hb⟩
    exact ⟨A', c', rfl, Reads.of_own own, hb⟩
  have HTB : Hid (∀ (x : BitVec 8) (W : World), Below w.heap.size w W → W.cell? ⟨gt, ot + x.toNat, none⟩ = some (c8 (sub8 x))) := hide fun x W hB => by
    have h := reads_cell8 (ht.below hB) (tabL_get x.toNat x.isLt)
    exact h
  have hc0 : CV[1]? = some (.slice (some ⟨gt, ot, none⟩) 256 ct) := by rw [hCV]; rfl
  have HRB := hide hb
  obtain ⟨C16, hC16⟩ : ∃ C16, C16 = (List.replicate 16 (c8 0)).toArray := ⟨_, rfl⟩
  have hmk : ∀ w, (Instr.makeSlice 51 (.int .i64 16) (.int .i64 16)).run Try.prog w = .ok (.slice (some ⟨w.heap.size, 0, none⟩) 16 16) (w.alloc (.cells C16 5)) := fun w => by rw [hC16]; exact made8 16 (by omega) w
  obtain ⟨Z, hZ⟩ : ∃ Z : List (BitVec 8), Z = List.replicate 16 0#8 := ⟨_, rfl⟩
  have hZl : Z.length = 16 := by rw [hZ]; rfl
  have HZC : Hid (C16 = (Z.map c8).toArray) := hide (by rw [hC16, hZ]; rfl)
  have HC0 := hide hc0
  replace hwl := hide hwl
  replace hbl := hide hbl
  replace hks := hide hks
  replace hkl := hide hkl
  replace hCV := hide hCV
  replace hC16 := hide hC16
  replace hZ := hide hZ
  replace hZl := hide hZl
  obtain ⟨W0, hW0⟩ : ∃ W0, W0 = w.alloc (.cells CV 56) := ⟨_, rfl⟩
  rw [← hW0] at HBA KA
  have HW0 := hide hW0.symm
  clear hw ht hb hc0 hW0
  have hX0 := HX.out AB cb b 0 W0 (by omega) HBA.out (HRB.out.below HBA.out |>.more HBA.out.size)
  rw [show ((0 : Nat) : Int) = 0 from rfl] at hX0
  have HX0 := hide hX0
  clear hX0
  go_enter Try.func37, Try.ntmps37
  go_wp2_with (first
    | (rw [HW0.out]; (with_reducible show wpList _ _ _ (⟨_, .load _ _, _, _, _, _⟩ :: _) _ _); refine wpList_load_row rfl 56 _ rfl w.heap.size rfl 56 CV (0, 0) _ KA.out Try.underlying56 rfl HCi.out ?_)
    | (go_at_call 65; (with_reducible refine HX0.out.mono ?_); rintro e w1 ⟨A1, c1, rfl, hr1, hb1⟩; have HR1 := hide hr1; have B1 := hide (HBA.out.trans (hb1.mono HBA.out.size)); have K1 := hide (KA.out.below hb1 KA.out.lt); clear hr1 hb1))
  go_loopw [1, 5] (fun v u wr => ∃ (n : Nat) (A : Option Addr) (c : Nat), n ≤ 14 ∧ v = .slice A 16 c ∧ u = .int .i64 ((n + 1 : Nat) : Int) ∧ Hid (Reads wr wr.heap.size 1 A 16 ((encN sub8 ks b n).map c8)) ∧ Hid (Blk wr w.heap.size 56 CV) ∧ Hid (Below w.heap.size w wr)) (fun _ u _ => 15 - (intOf u).toNat)
  case atStart => exact ⟨0, A1, c1, by omega, rfl, rfl, HR1, K1, B1⟩
  case round =>
    obtain ⟨n, A3, c3, hn, rfl, rfl, hR, hK, hB⟩ := hrel
    obtain ⟨wo, rfl⟩ : ∃ wo : World, wo = wr := ⟨_, rfl⟩
    clear HR1 K1 B1
    obtain ⟨l, hl⟩ : ∃ l, l = encN sub8 ks b n := ⟨_, rfl⟩
    have hll : l.length = 16 := by rw [hl]; exact encN_len _ _ _ _ hbl.out hkl.out hn
    obtain ⟨r, hr⟩ : ∃ r, r = n + 1 := ⟨_, rfl⟩
    have HNX : Hid (r ≤ 14 → encN sub8 ks b r = xorL (encS sub8 r l) (keyAt ks r)) := hide (fun _ => by rw [hr, hl]; rfl)
    rw [← hl] at hR
    rw [← hr]
    by_cases hlt : r ≤ 14
    · have hd : decide ((r : Int) ≤ 14) = true := by simp; omega
      have r0 : (0 : Int) ≤ (r : Int) := by omega
      have r1 : (r : Int) ≤ 14 := by omega
      obtain ⟨gb, ob, rfl, hgb⟩ := reads_at hR.out (by omega)
      obtain ⟨S, hS⟩ : ∃ S, S = turnB 1 (l.map sub8) := ⟨_, rfl⟩
      have hSl : S.length = 16 := by rw [hS]; exact turnB_len _ _
      have HSG : Hid (∀ col i x, col < 4 → i < 4 → l[4 * ((col + i) % 4) + i]? = some x → S[4 * col + i]? = some (sub8 x)) := hide fun col i x h1 h2 h3 => by rw [hS]; exact turn1_get l col i h1 h2 x h3
      have T0 : Hid (Blk (wo.alloc (.cells C16 5)) wo.heap.size 5 ((half S Z (4 * 0)).map c8).toArray) := hide (by rw [Nat.mul_zero, half_zero, ← HZC.out]; exact Blk.new wo 5 C16)
      have BA := hide ((Below.refl wo.heap.size wo).alloc (Nat.le_refl _) (.cells C16 5))
      have HS := hide hS
      have HSL := hide hSl
      have HLL := hide hll
      have HL := hide hl
      have HRr := hide hr
      clear hS hSl hll hl hr
      go_wp2
      go_loopw [7] (fun v wr => ∃ col : Nat, col ≤ 4 ∧ v = .int .i64 (col : Int) ∧ Hid (Blk wr wo.heap.size 5 ((half S Z (4 * col)).map c8).toArray) ∧ Hid (Below wo.heap.size wo wr)) (fun v _ => 4 - (intOf v).toNat)
      case atStart => exact ⟨0, by omega, rfl, T0, BA⟩
      case round =>
        obtain ⟨col, hcol, rfl, P0, HP0⟩ := hrel
        obtain ⟨wc, rfl⟩ : ∃ wc : World, wc = wr := ⟨_, rfl⟩
        clear T0 BA
        by_cases hct : col < 4
        · have hd2 : decide ((col : Int) < 4) = true := by simp; omega
          go_wp2
          go_loopw [8] (fun v wr => ∃ i : Nat, i ≤ 4 ∧ v = .int .i64 (i : Int) ∧ Hid (Blk wr wo.heap.size 5 ((half S Z (4 * col + i)).map c8).toArray) ∧ Hid (Below wo.heap.size wo wr)) (fun v _ => 4 - (intOf v).toNat)
          case atStart => exact ⟨0, by omega, rfl, P0, HP0⟩
          case round =>
            obtain ⟨i, hi, rfl, P, HP⟩ := hrel
            clear P0 HP0
            by_cases hit : i < 4
            · have hd3 : decide ((i : Int) < 4) = true := by simp; omega
              obtain ⟨m, hm⟩ : ∃ m, m = (col + i) % 4 := ⟨_, rfl⟩
              obtain ⟨t, ht⟩ : ∃ t, t = col + i := ⟨_, rfl⟩
              obtain ⟨p, hp⟩ : ∃ p, p = 4 * col + i := ⟨_, rfl⟩
              obtain ⟨q, hq⟩ : ∃ q, q = 4 * m + i := ⟨_, rfl⟩
              have hp16 : p < 16 := by omega
              have hq16 : q < 16 := by omega
              obtain ⟨x, hx⟩ : ∃ x, l[q]? = some x := ⟨_, List.getElem?_eq_getElem (by rw [HLL.out]; exact hq16)⟩
              obtain ⟨z, hz⟩ : ∃ z, z = sub8 x := ⟨_, rfl⟩
              have HSet : Hid ((half S Z p).set p z = half S Z (p + 1)) := hide (half_set S Z p _ (by rw [hz, hp]; exact HSG.out col i x hct hit (by rw [← hm, ← hq]; exact hx)) (by rw [hZl.out]; exact hp16))
              have lw := HP.out.size
              have lo := hB.out.size
              have q0 := hide (reads_cell8 (hR.out.below HP.out) hx)
              have q1 := hide (HTB.out x wr (hB.out.trans (HP.out.mono lo)))
              rw [← hz] at q1
              have hK2 := hK.out.lt
              have q2 := hide ((hK.out.below HP.out hK2).cell 1 |>.trans HC0.out)
              have lp := P.out.lt
              have gb1 : gb < wr.heap.size := by omega
              have gt1 : gt < wr.heap.size := by omega
              have gw1 : w.heap.size < wr.heap.size := by omega
              rw [← hp] at P
              obtain ⟨o5, d5⟩ : ∃ o, wr.cell? ⟨wo.heap.size, p, none⟩ = some o := ⟨_, (P.out.cell p).trans (by rw [List.getElem?_toArray]; exact List.getElem?_eq_getElem (by rw [List.length_map, half_len S Z p 16 HSL.out hZl.out (by omega)]; exact hp16))⟩
              replace d5 := hide d5
              have xl := x.isLt
              have F : Hid (IntKind.i64.wrap (4 * (col : Int)) = 4 * (col : Int) ∧ 4 * (col : Int) + (i : Int) = (p : Int) ∧ IntKind.i64.wrap (p : Int) = (p : Int) ∧ (col : Int) + (i : Int) = (t : Int) ∧ IntKind.i64.wrap (t : Int) = (t : Int) ∧ Int.tmod (t : Int) 4 = (m : Int) ∧ (t : Int) % 4 = (m : Int) ∧
                  IntKind.i64.wrap (4 * (m : Int)) = 4 * (m : Int) ∧ 4 * (m : Int) + (i : Int) = (q : Int) ∧ IntKind.i64.wrap (q : Int) = (q : Int)) := hide
                ⟨IntWalk.i64_in _ (by omega), by omega, IntWalk.i64_in _ (by omega), by omega, IntWalk.i64_in _ (by omega), by rw [Int.tmod_eq_emod_of_nonneg (by omega)]; omega, by omega, IntWalk.i64_in _ (by omega), by omega, IntWalk.i64_in _ (by omega)⟩
              have G : (0 : Int) ≤ (p : Int) ∧ (p : Int) < 16 ∧ (0 : Int) ≤ (q : Int) ∧ (q : Int) < 16 ∧ (0 : Int) ≤ (x.toNat : Int) ∧ (x.toNat : Int) < 256 := by omega
              have HPE : Hid (4 * col + (i + 1) = p + 1) := hide (by omega)
              obtain ⟨G1, G2, G3, G4, G5, G6⟩ := G
              clear hm ht hp hq hx hz
              go_wp2
              apply wp_region_relT 20 (C := fun W => Below wr.heap.size wr W) (M := fun W W' => Below W.heap.size W W') (ss := [_, _, _, _, _, _, _, _, _, _, _, _, _, _, _, _, _, _, _, _]) (by kernel_rfl) (by kernel_rfl) (by kernel_rfl) (by kernel_rfl) (Below.refl _ _).drew
              simp only [List.take_succ_cons, List.take_zero, List.drop_succ_cons, List.drop_zero]
              repeat (first
                | (apply relWalk_const (fun W => Below.refl _ _)
                   · (intro W hC hF
                      clear hF
                      have d0 := ((hC.cell (p := ⟨gb, ob + q, none⟩) gb1).trans q0.out)
                      have d1 := ((hC.cell (p := ⟨gt, ot + x.toNat, none⟩) gt1).trans q1.out)
                      have d2 := ((hC.cell (p := ⟨w.heap.size, 1, none⟩) gw1).trans q2.out)
                      obtain ⟨e1, e2, e3, e4, e5, e6, e7, e8, e9, e10⟩ := F.out
                      go_simp
                      with_reducible exact rfl)
                   (try simp only [Act.put, List.setIfInBounds_toArray, List.set_cons_zero, List.set_cons_succ])))
              apply relWalk_nil
              intro W hC hF
              clear hF
              have e5 := P.out.below hC lp
              have dc := ((hC.cell (p := ⟨wo.heap.size, p, none⟩) lp).trans d5.out)
              have df := e5.frozen p
              have e7 := e5.set8 (p := p) z
              rw [HSet.out] at e7
              have HE := hide e7
              have HB2 := hide ((HP.out.trans (hC.mono lw)).setCell (p := ⟨wo.heap.size, p, none⟩) (Nat.le_refl _) (c8 z))
              clear e5 e7 hC P HP q0 q1 q2 d5 HSet F
              go_wp2_with fail
              go_roundw
              case rel => exact ⟨i + 1, hit, int_succ i, by rw [HPE.out]; exact HE, HB2⟩
              case measure => simp [intOf]; omega
            · obtain rfl : i = 4 := by omega
              have hd3 : decide ((4 : Int) < 4) = false := by decide
              go_wp2
              go_roundw
              case rel => exact ⟨col + 1, hct, int_succ col, by rw [show 4 * (col + 1) = 4 * col + 4 by omega]; exact P, HP⟩
              case measure => simp [intOf]; omega
        · obtain rfl : col = 4 := by omega
          have hd2 : decide ((4 : Int) < 4) = false := by decide
          rw [half_all S Z (4 * 4) HSL.out hZl.out] at P0
          have hK2 := hK.out.lt
          have lo := hB.out.size
          have K2 := hide (hK.out.below HP0.out hK2)
          have B2 := hide (hB.out.trans (HP0.out.mono lo))
          have RS := hide (P0.out.bytes HSL.out)
          by_cases h14 : r < 14
          · have hd4 : decide ((r : Int) < 14) = true := by simp; omega
            obtain ⟨M, hM⟩ : ∃ M, M = colB mixRow S := ⟨_, rfl⟩
            have HMl : Hid (M.length = 16) := hide (by rw [hM]; exact colB_len _ _)
            have HMn : Hid (∀ j, j < 4 → M.take (4 * (j + 1)) = M.take (4 * j) ++ byC mixRow ((S.drop (4 * j)).take 4)) := hide fun j hj => by rw [hM]; exact mixcol_next S HSL.out j hj
            have HE : Hid (encN sub8 ks b r = xorL M (keyAt ks r)) := hide (by rw [HNX.out hlt, encS, if_pos h14, hM, HS.out])
            clear hM h14
            rw [show ((4 : Nat) : Int) = 4 from rfl]
            go_wp2
            go_loopw [9, 10] (fun v u wr => ∃ (j : Nat) (A : Option Addr) (c : Nat), j ≤ 4 ∧ v = .slice A (4 * j) c ∧ u = .int .i64 (j : Int) ∧ Hid (wr.ownsRow wc.heap.size 5 1 (.slice A (4 * j) c) (4 * j) ((M.take (4 * j)).map c8)) ∧ Hid (Below wc.heap.size wc wr)) (fun _ u _ => 4 - (intOf u).toNat)
            case atStart => exact ⟨0, none, 0, by omega, rfl, rfl, hide (World.ownsRow_nil _ _ _ _), hide (Below.refl _ _)⟩
            case round =>
              obtain ⟨j, A5, c5, hj, rfl, rfl, ho, hBj⟩ := hrel
              by_cases hjt : j < 4
              · have hd5 : decide ((j : Int) < 4) = true := by simp; omega
                have j0 : (0 : Int) ≤ (j : Int) := by omega
                have j1 : (j : Int) < 4 := by omega
                have f2 : ¬ 16 = 4 * j := by omega
                have f1 : 4 * (j : Int) + 4 ≤ 16 := by omega
                have f3 : 4 * j + 4 - 4 * j = 4 := by omega
                have hsz := hBj.out.size
                obtain ⟨cl, hcl⟩ : ∃ cl, cl = (S.drop (4 * j)).take 4 := ⟨_, rfl⟩
                have HRM : Hid (∀ cc, Calls Try.prog 41 #[.slice (some ⟨wo.heap.size, 4 * j, none⟩) 4 cc] wr fun e w' => ∃ A' c', e = .returned (.slice A' 4 c') ∧ w'.ownsRow wr.heap.size 5 1 (.slice A' 4 c') 4 ((byC mixRow cl).map c8) ∧ Below wr.heap.size wr w') := hide fun cc => by
                  have h := reads_part (RS.out.later hBj.out) (4 * j) 4 (by omega) (by omega)
                  rw [Nat.zero_add, ← hcl] at h
                  exact refmix_any _ cc cl wr h
                have HXS : Hid (M.take (4 * (j + 1)) = M.take (4 * j) ++ byC mixRow cl) := hide (by rw [hcl]; exact HMn.out j hjt)
                have HJ : Hid (4 * j + 4 = 4 * (j + 1)) := hide (by omega)
                clear hcl
                go_wp2_with (first
                  | (go_at_call 41; (refine (HRM.out _).mono ?_); rintro e w6 ⟨A6, c6, rfl, own6, hb6⟩; have HR6 := hide (Reads.of_own own6); have HO6 := hide (own_under ho.out hb6); have B6 := hide (hBj.out.trans (hb6.mono hsz)); have HGR : Hid (wc.heap.size ≤ w6.heap.size) := hide B6.out.size; clear own6 hb6)
                  | (at_builtin; refine wpList_append_any _ rfl (.tmp 53) (.tmp 61) 51 rfl wc.heap.size 5 i0 _ 1 1 Try.underlying51 hi0 hz0 hz1 hz2 rfl (by omega) _ (4 * j) _ rfl HO6.out _ A6 4 c6 _ rfl HR6.out (oneCell_c8 _) (by simp only [maxLen]; omega) (by omega) HGR.out ?_; intro v7 W7 own7 grow7 _; have b7 := below_appended B6.out HGR.out HO6.out (Nat.le_refl _) grow7; obtain ⟨A7, c7, rfl⟩ := own_slice own7; rw [← List.map_append, ← HXS.out, HJ.out] at own7; replace own7 := hide own7; replace b7 := hide b7; clear grow7))
                go_roundw
                case rel => exact ⟨j + 1, A7, c7, hjt, by rw [HJ.out], int_succ j, own7, b7⟩
                case measure => simp [intOf]; omega
              · obtain rfl : j = 4 := by omega
                have hd5 : decide ((4 : Int) < 4) = false := by decide
                rw [show 4 * 4 = 16 from rfl, List.take_of_length_le (Nat.le_of_eq HMl.out)] at ho
                have K3 := hide (K2.out.below hBj.out K2.out.lt)
                have B3 := hide (B2.out.trans (hBj.out.mono B2.out.size))
                have HC := hide (HX.out A5 c5 M r wr hlt B3.out (Reads.of_own ho.out))
                rw [← HE.out] at HC
                go_wp2_with (first
                  | ((with_reducible show wpList _ _ _ (⟨_, .load 56 _, _, _, _, _⟩ :: _) _ _); refine wpList_load_row rfl 56 _ rfl w.heap.size rfl 56 CV (0, 0) _ K3.out Try.underlying56 rfl HCi.out ?_)
                  | (go_at_call 65; (with_reducible refine HC.out.mono ?_); rintro e w8 ⟨A8, c8_, rfl, hr8, hb8⟩; have HR8 := hide hr8; have B8 := hide (B3.out.trans (hb8.mono B3.out.size)); have K8 := hide (K3.out.below hb8 K3.out.lt); clear hr8 hb8))
                go_roundw
                case rel => exact ⟨r, A8, c8_, hlt, rfl, int_succ r, HR8, K8, B8⟩
                case measure => simp [intOf]; omega
          · obtain rfl : r = 14 := by omega
            have hd4 : decide ((14 : Int) < 14) = false := by decide
            have HE : Hid (encN sub8 ks b 14 = xorL S (keyAt ks 14)) := hide (by rw [HNX.out hlt, encS, if_neg (by omega), HS.out])
            have hC := HX.out (some ⟨wo.heap.size, 0, none⟩) 16 S 14 wc hlt B2.out RS.out
            rw [← HE.out, show ((14 : Nat) : Int) = 14 from rfl] at hC
            have HC := hide hC
            clear hC
            clear h14
            go_wp2_with (first
              | ((with_reducible show wpList _ _ _ (⟨_, .load 56 _, _, _, _, _⟩ :: _) _ _); refine wpList_load_row rfl 56 _ rfl w.heap.size rfl 56 CV (0, 0) _ K2.out Try.underlying56 rfl HCi.out ?_)
              | (go_at_call 65; (with_reducible refine HC.out.mono ?_); rintro e w8 ⟨A8, c8_, rfl, hr8, hb8⟩; have HR8 := hide hr8; have B8 := hide (B2.out.trans (hb8.mono B2.out.size)); have K8 := hide (K2.out.below hb8 K2.out.lt); clear hr8 hb8))
            go_roundw
            case rel => exact ⟨14, A8, c8_, by omega, rfl, rfl, HR8, K8, B8⟩
            case measure => simp [intOf]
    · obtain rfl : n = 14 := by omega
      have hd : decide ((r : Int) ≤ 14) = false := by rw [hr]; decide
      rw [hl] at hR
      clear HNX hl hll hr
      go_wp2
      go_ret
      exact ⟨A3, c3, rfl, hR.out, hB.out⟩
end Go.Proofs.Ytdeljodfanfbmaa
