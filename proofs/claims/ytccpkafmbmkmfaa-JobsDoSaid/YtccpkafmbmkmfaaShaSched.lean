/- Package sha's schedule: the words of a piece. No condition. -/
import Derived.Test.YtccpkafmbmkmfaaShaConst
import Derived.Test.YtccpkafmbmkmfaaWWords
import Derived.Test.YtccpkafmbmkmfaaWAdd
import Derived.Test.YtccpkafmbmkmfaaWordMost
import Derived.Laws.CopyOwn
import Derived.Test.YtccpkafmbmkmfaaRelTail
namespace Go.Proofs.Ytccpkafmbmkmfaa
open Go.RowKit
set_option linter.unusedVariables false
set_option linter.unusedSimpArgs false
attribute [local go_sem] Gives givesUpon

theorem still_left {P : Program} {f : FuncId} {args : Array Value} {w : World} {v : Value}
    (h : Calls P f args w fun e w' => e = .returned v ∧ w = w') : Calls P f args w fun e w'' => e = .returned v ∧ w'' = w :=
  h.mono fun _ _ ⟨he, hm⟩ => ⟨he, hm.symm⟩
/-- the words so far, and noughts -/
def schedRow (l : List (BitVec 32)) (k : Nat) : List (BitVec 32) := sched l k ++ List.replicate (48 - k) 0#32
theorem schedRow_len (l : List (BitVec 32)) (k : Nat) (h : l.length = 16) (hk : k ≤ 48) : (schedRow l k).length = 64 := by
  simp [schedRow, sched_len, h]; omega
theorem schedRow_get (l : List (BitVec 32)) (k i : Nat) (h : l.length = 16) (hi : i < 16 + k) : ((schedRow l k).map c32).toArray[i]? = some (c32 ((sched l k).getD i 0)) := by
  have hl := sched_len l k
  rw [h] at hl
  unfold schedRow
  have hi' : i < (sched l k).length := by omega
  rw [List.getElem?_toArray, List.map_append, List.getElem?_append_left (by simpa using hi')]
  simp [List.getD, hi']
theorem schedRow_next (l : List (BitVec 32)) (k : Nat) (h : l.length = 16) (hk : k < 48) : ((schedRow l k).map c32).toArray.setIfInBounds (16 + k) (c32 (nextW (sched l k))) = ((schedRow l (k + 1)).map c32).toArray := by
  have hl := sched_len l k
  rw [h] at hl
  obtain ⟨m, hm⟩ : ∃ m, 48 - k = m + 1 := ⟨47 - k, by omega⟩
  have hm2 : 48 - (k + 1) = m := by omega
  unfold schedRow
  rw [hm, hm2]
  simp only [sched, List.replicate_succ]
  have e : 16 + k = (sched l k).length := by omega
  rw [e]
  simp
theorem schedRow_here (l : List (BitVec 32)) (k : Nat) (h : l.length = 16) (hk : k < 48) : ((schedRow l k).map c32).toArray[k + 16]? = some (c32 0) := by
  have hl := sched_len l k
  rw [h] at hl
  obtain ⟨m, hm⟩ : ∃ m, 48 - k = m + 1 := ⟨47 - k, by omega⟩
  have e : k + 16 = (sched l k).length := by omega
  unfold schedRow
  rw [hm, List.replicate_succ, e]
  simp
theorem schedRow_zero (l : List (BitVec 32)) (h : l.length = 16) : splice (List.replicate 64 (c32 0)) 0 (l.map c32) = (schedRow l 0).map c32 := by
  simp [splice, schedRow, sched, h]
theorem schedRow_all (l : List (BitVec 32)) : schedRow l 48 = sched l 48 := by simp [schedRow]
/-- a word that is turned by a literal -/
abbrev Turns (x : BitVec 32) (k : Int) (n : Nat) : Prop := ∀ w : World, Calls Try.prog 138 #[.int .u32 (x.toNat : Int), .int .i64 k] w fun e w' => e = .returned (.int .u32 ((rotr x n).toNat : Int)) ∧ w = w'
theorem turns_any (x : BitVec 32) (k : Int) (n : Nat) (h : turnN k = n) : Turns x k n := fun w => by subst h; exact right_any x k w
theorem xor_shr (x y z : BitVec 32) (k : Nat) (q : Int) (hq : (z.toNat : Int) / 2 ^ k = q) (w : World) :
    Calls Try.prog 137 #[.int .u32 (x.toNat : Int), .int .u32 (y.toNat : Int), .int .u32 q] w fun e w' => e = .returned (.int .u32 ((x ^^^ y ^^^ (z >>> k)).toNat : Int)) ∧ w = w' := by
  rw [← hq, shr_u32]; exact xor_any _ _ _ w
/-- four words are added up -/
theorem add_four (A : Option Addr) (c : Nat) (a b d e S : BitVec 32) (hS : a + b + d + e = S) (W : World) (h : Reads W W.heap.size 1 A 4 ([a, b, d, e].map c32)) :
    Calls Try.prog 136 #[.slice A 4 c] W fun e' w' => e' = .returned (.int .u32 (S.toNat : Int)) ∧ W = w' := by
  subst hS
  have h := add_any A 4 c [a, b, d, e] W h (by omega)
  have e : sumW [a, b, d, e] = a + b + d + e := by simp [sumW]
  rw [e] at h
  exact h
set_option maxRecDepth 100000 in
set_option maxHeartbeats 400000 in
theorem schedule_any (A : Option Addr) (c : Nat) (bs : List (BitVec 8)) (w : World) (hr : Reads w w.heap.size 1 A 64 (bs.map c8)) (hc : 64 ≤ c) :
    Calls Try.prog 134 #[.slice A 64 c] w fun e w' => e = .returned (.agg ((words64 bs).map c32).toArray) ∧ Below w.heap.size w w' := by
  obtain ⟨Z, hZ, hs, hZr⟩ := zero_k
  have hlen : bs.length = 64 := hr.len
  have HL := hide (wordsOf_length bs 16 (by omega))
  replace hs := hide hs
  replace hZ := hide hZ
  replace hZr := hide hZr
  replace hlen := hide hlen
  obtain ⟨V, hV, hVs, v1, v2, hVB⟩ := blks2 w 179 179 Z Z
  have rV := (hr.below hVB).more (B' := V.heap.size) (by omega)
  replace hV := hide hV
  obtain ⟨ZL, hZL⟩ : ∃ ZL, ZL = List.replicate 64 (c32 0) := ⟨_, rfl⟩
  replace hZL := hide hZL
  obtain ⟨WL, hWL⟩ : ∃ WL, WL = (wordsOf bs).map c32 := ⟨_, rfl⟩
  replace hWL := hide hWL
  go_enter Try.func134, Try.ntmps134
  go_wp2_with (first
    | (refine wpList_alloc_is rfl 179 rfl Z hZ.out ?_)
    | (rw [hV.out]; go_at_call 141; refine (words_any _ _ 16 _ bs _ rV rfl (by omega) hc).mono ?_; rintro e w1 ⟨A1, c1, rfl, own1, hb1⟩)
    | (refine wpList_copy_splice rfl (.tmp 16) (.tmp 17) 154 154 rfl 22 Try.underlying154 (by kernel_rfl) (some ⟨w.heap.size + 1, 0, none⟩) A1 64 64 16 c1 rfl rfl (w.heap.size + 1) 0 ZL 179 ?g1 WL ?g2 ?g3 ?g4 ?g5 (w.heap.size + 1) w1 (Below.refl _ _) (Nat.le_refl _) ?_))
  case g1 =>
    have := v2.below hb1 (by omega)
    rw [hZL.out, ← hZr.out]
    exact this
  case g2 => rw [hWL.out]; simp [HL.out]
  case g3 =>
    intro _
    have r1 := Reads.of_own own1
    obtain ⟨ad, e, _, hc⟩ := r1.2 (by omega)
    exact ⟨ad, e, fun j v hv => hc j v (by rw [hWL.out] at hv; exact hv)⟩
  case g4 => rw [hWL.out, hZL.out]; simp [HL.out]
  case g5 =>
    intro v hv
    rw [hWL.out] at hv
    obtain ⟨x, _, rfl⟩ := List.mem_map.1 hv
    rfl
  intro w2 hg2 hB2
  have v3 : Blk w2 (w.heap.size + 1) 179 ((schedRow (wordsOf bs) 0).map c32).toArray := by
    have := hg2.out
    rw [hZL.out, hWL.out, schedRow_zero _ HL.out] at this
    exact this
  have v4 : Blk w2 w.heap.size 179 Z := (v1.below hb1 (by omega)).below hB2 (by omega)
  have hB3 : Below w.heap.size w w2 := (hVB.trans (hb1.mono (by omega))).trans (hB2.mono (by omega))
  have hsz : w.heap.size + 1 < w2.heap.size := v3.lt
  clear own1 hb1 hg2 hB2 v1 v2 rV hVB
  obtain ⟨l, hl⟩ : ∃ l, l = wordsOf bs := ⟨_, rfl⟩
  have HR : Hid (words64 bs = sched l 48) := hide (by rw [hl]; rfl)
  have HLL : Hid (l.length = 16) := hide (by rw [hl]; exact HL.out)
  rw [← hl] at v3
  clear hl HL
  replace v3 := hide v3
  replace v4 := hide v4
  replace hB3 := hide hB3
  go_wp2
  go_loopw [6] (fun i wr => ∃ m : Nat, m ≤ 48 ∧ i = .int .i64 ((m : Int) + 16) ∧ Hid (Blk wr (w.heap.size + 1) 179 ((schedRow l m).map c32).toArray) ∧ Hid (Blk wr w.heap.size 179 Z) ∧ Hid (Below w.heap.size w wr)) (fun i _ => 64 - (intOf i).toNat)
  case atStart => exact ⟨0, by omega, rfl, v3, v4, hB3⟩
  case round =>
    obtain ⟨m, hm, rfl, B1, B2, B3⟩ := hrel
    clear v3 v4 hB3 hsz
    by_cases hlt : m < 48
    · have hgs : w.heap.size + 1 < wr.heap.size := B1.out.lt
      have hget : ∀ i, i < 16 + m → wr.cell? ⟨w.heap.size + 1, i, none⟩ = some (c32 ((sched l m).getD i 0)) := fun i hi => (B1.out.cell i).trans (schedRow_get l m i HLL.out hi)
      have hnx : nextW (sched l m) = sg1 ((sched l m).getD (m + 14) 0) + (sched l m).getD (m + 9) 0 + sg0 ((sched l m).getD (m + 1) 0) + (sched l m).getD m 0 := by
        have e : (sched l m).length = m + 16 := by rw [sched_len, HLL.out]; omega
        unfold nextW; rw [e]; rfl
      have hst := schedRow_next l m HLL.out hlt
      rw [hnx, Nat.add_comm 16 m] at hst
      have c15 := hget (m + 1) (by omega)
      have c2 := hget (m + 14) (by omega)
      have c7 := hget (m + 9) (by omega)
      have c16 := hget m (by omega)
      have ct := (B1.out.cell (m + 16)).trans (schedRow_here l m HLL.out hlt)
      have ft := B1.out.frozen (m + 16)
      have HW := hide (fun v => B1.out.set_ (m + 16) v)
      clear hget hnx
      generalize (sched l m).getD (m + 1) 0 = x at *
      generalize (sched l m).getD (m + 14) 0 = y at *
      generalize (sched l m).getD (m + 9) 0 = u at *
      generalize (sched l m).getD m 0 = v at *
      obtain ⟨S, hS⟩ : ∃ S, sg1 y + u + sg0 x + v = S := ⟨_, rfl⟩
      rw [hS] at hst
      replace hS := hide hS
      replace hst := hide hst
      have hd : decide ((m : Int) + 16 < 64) = true := by simp; omega
      go_wp2
      clear hd
      have a1 : IntKind.i64.wrap ((m : Int) + 16 - 15) = (m : Int) + 1 := by rw [IntWalk.i64_in _ (by omega)]; omega
      have a2 : IntKind.i64.wrap ((m : Int) + 16 - 2) = (m : Int) + 14 := by rw [IntWalk.i64_in _ (by omega)]; omega
      have a5 : (0 : Int) ≤ (m : Int) + 1 := by omega
      have a6 : (m : Int) + 1 < 64 := by omega
      have a7 : (0 : Int) ≤ (m : Int) + 14 := by omega
      have a8 : (m : Int) + 14 < 64 := by omega
      go_quiet (fail)
      clear a1 a2 a5 a6 a7 a8
      have R1 := hide (turns_any x 7 7 rfl)
      have R2 := hide (turns_any x 18 18 rfl)
      have R3 := hide (turns_any y 17 17 rfl)
      have R4 := hide (turns_any y 19 19 rfl)
      have R5 : Hid (∀ w : World, Calls Try.prog 137 #[.int .u32 ((rotr x 7).toNat : Int), .int .u32 ((rotr x 18).toNat : Int), .int .u32 ((x.toNat : Int) / 8)] w fun e w' => e = .returned (.int .u32 ((sg0 x).toNat : Int)) ∧ w = w') := hide (fun w => xor_shr _ _ x 3 _ rfl w)
      have R6 : Hid (∀ w : World, Calls Try.prog 137 #[.int .u32 ((rotr y 17).toNat : Int), .int .u32 ((rotr y 19).toNat : Int), .int .u32 ((y.toNat : Int) / 1024)] w fun e w' => e = .returned (.int .u32 ((sg1 y).toNat : Int)) ∧ w = w') := hide (fun w => xor_shr _ _ y 10 _ rfl w)
      go_wp2_with (first
        | (go_at_call 138; (first | with_reducible refine (R1.out _).mono ?_ | with_reducible refine (R2.out _).mono ?_ | with_reducible refine (R3.out _).mono ?_ | with_reducible refine (R4.out _).mono ?_); rintro e w' ⟨rfl, rfl⟩)
        | (go_at_call 137; (first | with_reducible refine (R5.out _).mono ?_ | with_reducible refine (R6.out _).mono ?_); rintro e w' ⟨rfl, rfl⟩))
      clear R1 R2 R3 R4 R5 R6
      replace c7 : (wr.drewN nq).cell? ⟨w.heap.size + 1, m + 9, none⟩ = some (c32 u) := c7
      replace c16 : (wr.drewN nq).cell? ⟨w.heap.size + 1, m, none⟩ = some (c32 v) := c16
      replace ct : (wr.drewN nq).cell? ⟨w.heap.size + 1, m + 16, none⟩ = some (c32 0) := ct
      replace ft : (wr.drewN nq).frozen? ⟨w.heap.size + 1, m + 16, none⟩ = false := ft
      replace B1 : Hid (Blk (wr.drewN nq) (w.heap.size + 1) 179 ((schedRow l m).map c32).toArray) := B1
      replace B2 : Hid (Blk (wr.drewN nq) w.heap.size 179 Z) := B2
      replace B3 : Hid (Below w.heap.size w (wr.drewN nq)) := hide (below_drewN B3.out nq)
      replace hgs : w.heap.size + 1 < (wr.drewN nq).heap.size := hgs
      clear c15 c2 HW
      generalize wr.drewN nq = W3 at *
      have a1 : IntKind.i64.wrap ((m : Int) + 16 - 7) = (m : Int) + 9 := by rw [IntWalk.i64_in _ (by omega)]; omega
      have a2 : IntKind.i64.wrap ((m : Int) + 16 - 16) = (m : Int) := by rw [IntWalk.i64_in _ (by omega)]; omega
      have a5 : (0 : Int) ≤ (m : Int) + 9 := by omega
      have a6 : (m : Int) + 9 < 64 := by omega
      have a7 : (0 : Int) ≤ (m : Int) := by omega
      have a8 : (m : Int) < 64 := by omega
      have a3 : IntKind.i64.wrap (m : Int) = (m : Int) := IntWalk.i64_in _ (by omega)
      have b1 : ((m : Int) + 9).toNat = m + 9 := by omega
      have b2 : ((m : Int) + 16).toNat = m + 16 := by omega
      have a9 : (0 : Int) ≤ (m : Int) + 16 := by omega
      have a10 : (m : Int) + 16 < 64 := by omega
      have K7 : Hid (∀ W, Below W3.heap.size W3 W → W.cell? ⟨w.heap.size + 1, m + 9, none⟩ = some (c32 u)) := hide (fun W h => (h.cell (p := ⟨w.heap.size + 1, m + 9, none⟩) hgs).trans c7)
      have K16 : Hid (∀ W, Below W3.heap.size W3 W → W.cell? ⟨w.heap.size + 1, m, none⟩ = some (c32 v)) := hide (fun W h => (h.cell (p := ⟨w.heap.size + 1, m, none⟩) hgs).trans c16)
      clear c7 c16
      apply wp_region_relT 13 (C := fun W => Below W3.heap.size W3 W) (M := fun W W' => Below W.heap.size W W') (ss := [_, _, _, _, _, _, _, _, _, _, _, _, _]) (by kernel_rfl) (by kernel_rfl) (by kernel_rfl) (by kernel_rfl) (Below.refl _ _).drew
      simp only [List.take_succ_cons, List.take_zero, List.drop_succ_cons, List.drop_zero]
      iterate 11
        apply relWalk_const (fun W => Below.refl _ _)
        · intro W hC hF
          clear hF
          have c7 := K7.out W hC
          have c16 := K16.out W hC
          go_simp
          with_reducible exact rfl
        (try simp only [Act.put, List.setIfInBounds_toArray, List.set_cons_zero, List.set_cons_succ])
      apply relWalk_rel (fun v => ∃ A c, v = .slice A 4 c) (SliceOf32 4 [sg1 y, u, sg0 x, v]) ⟨_, none, 0, rfl⟩ (fun v w w' hb h => SliceOf32.later v w w' hb h)
      · go_simp
      · intro W hC hF
        clear hF
        go_simp
        exact ⟨⟨rfl, (Reads.new W 22 #[c32 (sg1 y), c32 u, c32 (sg0 x), c32 v]).more (by simp)⟩, hC.alloc hC.size _, (Below.refl _ W).alloc (Nat.le_refl _) _⟩
      rintro v' ⟨A', c', rfl⟩
      (try simp only [Act.put, List.setIfInBounds_toArray, List.set_cons_zero, List.set_cons_succ])
      apply relWalk_const (fun W => Below.refl _ _)
      · intro W hC hF
        have r4 := (hF.1 (by kernel_rfl)).2
        clear hF
        go_simp
        refine (add_four A' c' _ _ _ _ S hS.out W r4).mono ?_
        rintro e w' ⟨rfl, rfl⟩
        exact ⟨_, rfl, rfl, rfl⟩
      (try simp only [Act.put, List.setIfInBounds_toArray, List.set_cons_zero, List.set_cons_succ])
      apply relWalk_nil
      intro W hC _
      have ct4 := (hC.cell (p := ⟨w.heap.size + 1, m + 16, none⟩) hgs).trans ct
      have ft4 := (hC.frozen (p := ⟨w.heap.size + 1, m + 16, none⟩) hgs).trans ft
      have B4 := B1.out.below hC hgs
      have B5 := B2.out.below hC (by omega)
      have B6 := B3.out.trans (hC.mono (by omega))
      have n4 := hide (B4.set_ (m + 16) (c32 S))
      rw [hst.out] at n4
      have n5 := hide (B5.far (p := ⟨w.heap.size + 1, m + 16, none⟩) (by dsimp only; omega) (c32 S))
      have n6 := hide (B6.setCell (p := ⟨w.heap.size + 1, m + 16, none⟩) (by dsimp only; omega) (c32 S))
      clear hC ct ft B4 B5 B6 K7 K16 hst
      go_wp2
      go_roundw
      case rel => exact ⟨m + 1, by omega, by go_num, n4, n5, n6⟩
      case measure => simp [intOf]; omega
    · obtain rfl : m = 48 := by omega
      have hd : decide (((48 : Nat) : Int) + 16 < 64) = false := rfl
      have HI : Hid ((Try.prog.info? 179).map (·.size) = some ((schedRow l 48).map c32).toArray.size) := hide (by
        have := schedRow_len l 48 HLL.out (by omega)
        simp only [List.size_toArray, List.length_map, this]
        exact info_k)
      rw [schedRow_all] at B1 HI
      have h64 := hide (show Z.size = ((sched l 48).map c32).toArray.size by rw [hs.out]; simp [sched_len, HLL.out])
      have h1 := hide (oneCell_words (sched l 48))
      generalize hH : ((sched l 48).map c32).toArray = H at *
      replace hH := hide hH
      clear hm hlt
      go_wp2_with (first
        | (refine wpList_load_row rfl 179 _ rfl (w.heap.size + 1) rfl 179 H (0, 0) _ B1.out Try.underlying179 rfl HI.out ?_)
        | (refine wpList_store_row rfl 179 _ _ rfl w.heap.size rfl H rfl 179 Z B2.out HI.out h64.out h1.out ?_))
      refine bodyPost_ret (v := .agg H) ?_ rfl ⟨by rw [HR.out, hH.out], ?_⟩
      · exact results_cell_row rfl _ _ w.heap.size 179 H (0, 0) _ rfl (setRow_heap _ _ _ _ _ _ B2.out) Try.underlying179 rfl HI.out
      · exact below_setRow B3.out (Nat.le_refl _) _
end Go.Proofs.Ytccpkafmbmkmfaa
