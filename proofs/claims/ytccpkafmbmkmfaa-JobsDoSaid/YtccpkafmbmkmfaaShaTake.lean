/- Package sha's take: a piece is taken in. No condition. -/
import Derived.Test.YtccpkafmbmkmfaaShaTakeRegion
import Derived.Test.YtccpkafmbmkmfaaGives
namespace Go.Proofs.Ytccpkafmbmkmfaa
open Go.RowKit Go.Shelf
set_option linter.unusedVariables false
set_option linter.unusedSimpArgs false
attribute [local go_sem] Gives givesUpon
attribute [local irreducible] Gives

/-- the sums of so many words, and the other words -/
def addRow (a b : List (BitVec 32)) (k : Nat) : List (BitVec 32) := (List.range 8).map fun i => if i < k then a.getD i 0 + b.getD i 0 else a.getD i 0
theorem addRow_zero (s v : V8) : addRow s.list v.list 0 = s.list := rfl
theorem addRow_all (s v : V8) : addRow s.list v.list 8 = (addV s v).list := rfl
theorem addRow_next (a b : List (BitVec 32)) (k : Nat) (hk : k < 8) : ((addRow a b k).map c32).toArray.setIfInBounds k (c32 (a.getD k 0 + b.getD k 0)) = ((addRow a b (k + 1)).map c32).toArray := by
  apply Array.ext_getElem?
  intro i
  by_cases h : k = i
  · subst h
    rw [Array.getElem?_setIfInBounds_self_of_lt (by simp [addRow, hk])]
    simp [addRow, hk]
  · rw [Array.getElem?_setIfInBounds_ne h]
    simp only [addRow, List.map_map, List.getElem?_toArray, List.getElem?_map]
    by_cases hi : i < 8
    · rw [List.getElem?_range hi]
      simp only [Option.map_some, Function.comp]
      by_cases h1 : i < k
      · rw [if_pos h1, if_pos (by omega)]
      · rw [if_neg h1, if_neg (by omega)]
    · rw [List.getElem?_eq_none (by simp; omega)]; rfl
/-- words are added up -/
theorem add_is (A : Option Addr) (n c : Nat) (l : List (BitVec 32)) (S : BitVec 32) (hS : sumW l = S) (hn : n ≤ 1099511627776) (W : World) (h : Reads W W.heap.size 1 A n (l.map c32)) :
    Calls Try.prog 136 #[.slice A n c] W fun e w' => e = .returned (.int .u32 (S.toNat : Int)) ∧ W = w' := by
  subst hS; exact add_any A n c l W h hn
theorem v8_get {w : World} {g : Nat} {t : TypeId} {v : V8} (h : Blk w g t (v.list.map c32).toArray) :
    w.cell? ⟨g, 0, none⟩ = some (c32 v.a) ∧ w.cell? ⟨g, 1, none⟩ = some (c32 v.b) ∧ w.cell? ⟨g, 2, none⟩ = some (c32 v.c) ∧ w.cell? ⟨g, 3, none⟩ = some (c32 v.d) ∧
    w.cell? ⟨g, 4, none⟩ = some (c32 v.e) ∧ w.cell? ⟨g, 5, none⟩ = some (c32 v.f) ∧ w.cell? ⟨g, 6, none⟩ = some (c32 v.g) ∧ w.cell? ⟨g, 7, none⟩ = some (c32 v.h) :=
  ⟨h.cell 0, h.cell 1, h.cell 2, h.cell 3, h.cell 4, h.cell 5, h.cell 6, h.cell 7⟩
theorem row_get {w : World} {g : Nat} {t : TypeId} {l : List (BitVec 32)} (h : Blk w g t (l.map c32).toArray) (k : Nat) (hk : k < l.length) : w.cell? ⟨g, k, none⟩ = some (c32 (l.getD k 0)) := by
  refine (h.cell k).trans ?_
  rw [List.getElem?_toArray, List.getElem?_map, List.getElem?_eq_getElem hk]
  simp [List.getD, hk]
/-- what each operation of the first region yields -/
def takeS (A : Option Addr) (c : Nat) (C4 C5 C6 : Array Value) (k : Nat) (v : Value) : Prop :=
  match k with
  | 0 => v = .slice A 64 c
  | 1 => v = .agg C4
  | 2 => v = .agg C5
  | 3 => v = .agg C6
  | 4 => ∃ g, v = ptr g
  | 5 => ∃ g, v = ptr g
  | 6 => ∃ g, v = ptr g
  | _ => v = undef
theorem zero_s' : (Try.prog.info? 172).map (·.zero) = some (some (.agg #[.int .u32 0, .int .u32 0, .int .u32 0, .int .u32 0, .int .u32 0, .int .u32 0, .int .u32 0, .int .u32 0])) := by kernel_rfl
set_option maxRecDepth 100000 in
set_option maxHeartbeats 800000 in
theorem take_any (s : V8) (A : Option Addr) (c : Nat) (bs : List (BitVec 8)) (w : World) (hr : Reads w w.heap.size 1 A 64 (bs.map c8)) (hc : 64 ≤ c) :
    Calls Try.prog 130 #[.agg (s.list.map c32).toArray, .slice A 64 c] w fun e w' => e = .returned (.agg ((takeV s bs).list.map c32).toArray) ∧ Below w.heap.size w w' := by
  obtain ⟨Z, hZ, hZs, -⟩ := zero_k
  obtain ⟨SC, hSC⟩ : ∃ SC, SC = ((words64 bs).map c32).toArray := ⟨_, rfl⟩
  obtain ⟨KC, hKC⟩ : ∃ KC, KC = (shaK.map c32).toArray := ⟨_, rfl⟩
  obtain ⟨C6, hC6⟩ : ∃ C6, C6 = (s.list.map c32).toArray := ⟨_, rfl⟩
  have hlen : bs.length = 64 := hr.len
  have h64 : (words64 bs).length = 64 := by unfold words64; rw [sched_len, wordsOf_length bs 16 (by omega)]
  have i4 : (Try.prog.info? 179).map (·.size) = some SC.size := by rw [hSC]; simp only [List.size_toArray, List.length_map, h64]; exact info_k
  have i5 : (Try.prog.info? 179).map (·.size) = some KC.size := by rw [hKC]; exact info_k
  have i6 : (Try.prog.info? 172).map (·.size) = some C6.size := by rw [hC6]; exact info_s
  have z4 : Z.size = SC.size := by rw [hSC, hZs]; simp [h64]
  have z5 : Z.size = KC.size := by rw [hKC, hZs]; rfl
  have o4 : SC.all (·.oneCell') = true := by rw [hSC]; exact oneCell_words _
  have o5 : KC.all (·.oneCell') = true := by rw [hKC]; exact oneCell_words _
  have o6 : C6.all (·.oneCell') = true := by rw [hC6]; exact oneCell_words _
  have e6 : C6.size = 8 := by rw [hC6]; rfl
  rw [← hC6]
  have hsc : ∀ W, Below w.heap.size w W → Calls Try.prog 134 #[.slice A 64 c] W fun e w' => ∃ v, e = .returned v ∧ v = .agg SC ∧ Below W.heap.size W w' := fun W h => by
    refine (schedule_any A c bs W ((hr.below h).more h.size) hc).mono ?_
    rintro e w' ⟨rfl, hb⟩
    exact ⟨_, rfl, by rw [hSC], hb⟩
  have hkc : ∀ W, Calls Try.prog 135 #[] W fun e w' => ∃ v, e = .returned v ∧ v = .agg KC ∧ Below W.heap.size W w' := fun W => by
    refine (constants_any W).mono ?_
    rintro e w' ⟨rfl, hb⟩
    exact ⟨_, rfl, by rw [hKC], hb⟩
  replace hsc := hide hsc
  replace hkc := hide hkc
  replace i4 := hide i4
  replace i5 := hide i5
  replace i6 := hide i6
  replace z4 := hide z4
  replace z5 := hide z5
  replace o4 := hide o4
  replace o5 := hide o5
  replace o6 := hide o6
  replace e6 := hide e6
  replace hZ := hide hZ
  replace hSC := hide hSC
  replace hKC := hide hKC
  replace hC6 := hide hC6
  clear hZs hlen
  replace h64 := hide h64
  go_enter Try.func130, Try.ntmps130
  go_wp2
  obtain ⟨W0, hW0, sz0, q1, q2, hB0⟩ := blks2 w 172 172 C6 #[.int .u32 0, .int .u32 0, .int .u32 0, .int .u32 0, .int .u32 0, .int .u32 0, .int .u32 0, .int .u32 0]
  rw [hW0]
  clear hW0
  refine wp_region_joint (takeS A c SC KC C6) (TakeJ W0 179 172 Z SC Z KC #[.int .u32 0, .int .u32 0, .int .u32 0, .int .u32 0, .int .u32 0, .int .u32 0, .int .u32 0, .int .u32 0] C6) (by kernel_rfl) (by kernel_rfl) (by kernel_rfl) ?ne ?start ?step ?fin
  case ne =>
    intro k hk
    unfold takeS
    match k with
    | 0 => exact ⟨_, rfl⟩
    | 1 => exact ⟨_, rfl⟩
    | 2 => exact ⟨_, rfl⟩
    | 3 => exact ⟨_, rfl⟩
    | 4 => exact ⟨_, 0, rfl⟩
    | 5 => exact ⟨_, 0, rfl⟩
    | 6 => exact ⟨_, 0, rfl⟩
    | _ + 7 => exact ⟨_, rfl⟩
  case start => exact fun vs => takeJ_start (Below.refl _ _).drew vs
  case step =>
    intro i o ho L vs W hL hd hS hJ
    have hi : i < 10 := (List.getElem?_eq_some_iff.1 ho).1
    have s0 : vs 0 = .slice A 64 c := hS 0 (by simp)
    have s1 : vs 1 = .agg SC := hS 1 (by simp)
    have s2 : vs 2 = .agg KC := hS 2 (by simp)
    have s3 : vs 3 = .agg C6 := hS 3 (by simp)
    rcases (by omega : i = 0 ∨ i = 1 ∨ i = 2 ∨ i = 3 ∨ i = 4 ∨ i = 5 ∨ i = 6 ∨ i = 7 ∨ i = 8 ∨ i = 9) with rfl | rfl | rfl | rfl | rfl | rfl | rfl | rfl | rfl | rfl
    all_goals
      simp only [List.getElem?_cons_zero, List.getElem?_cons_succ, Option.some.injEq] at ho
      subst ho
      rw [if_pos (wanted_none _ rfl)]
      (try simp only [lay, Act.put, List.setIfInBounds_toArray, List.set_cons_zero, List.set_cons_succ, Nat.reduceAdd])
    · exact gives_move _ rfl _ rfl ⟨rfl, takeJ_keep (by omega) hJ (Below.refl _ _)⟩
    · refine gives_call rfl [vs 0] rfl (enters_of Try.func134 (by kernel_rfl) rfl) ?_
      rw [s0]
      refine (hsc.out W (hB0.trans (hJ.1.mono (by omega)))).mono ?_
      rintro e w' ⟨v, rfl, rfl, hb⟩
      exact ⟨_, rfl, rfl, takeJ_keep (by omega) hJ hb⟩
    · refine gives_call rfl [] rfl (enters_of Try.func135 (by kernel_rfl) rfl) ?_
      refine (hkc.out W).mono ?_
      rintro e w' ⟨v, rfl, rfl, hb⟩
      exact ⟨_, rfl, rfl, takeJ_keep (by omega) hJ hb⟩
    · exact gives_load_row 172 _ rfl w.heap.size rfl 172 C6 (0, 0) _ (q1.below hJ.1 (by omega)) Try.underlying172 rfl i6.out ⟨rfl, takeJ_keep (by omega) hJ (Below.refl _ _)⟩
    · exact gives_alloc _ rfl Z hZ.out ⟨⟨_, rfl⟩, takeJ_alloc4 hL hJ⟩
    · exact gives_alloc _ rfl Z hZ.out ⟨⟨_, rfl⟩, takeJ_alloc5 hL hJ⟩
    · exact gives_alloc _ rfl _ zero_s' ⟨⟨_, rfl⟩, takeJ_alloc6 hL hJ⟩
    · obtain ⟨g, e, hb, hk⟩ := takeJ_store7 hL (hd 4 (by kernel_rfl)) (by decide) hJ
      exact gives_store_row 179 _ _ rfl g (show vs 4 = _ from e) SC (show vs 1 = _ from s1) 179 Z hb i4.out z4.out o4.out ⟨rfl, hk _⟩
    · obtain ⟨g, e, hb, hk⟩ := takeJ_store8 hL (hd 5 (by kernel_rfl)) (by decide) hJ
      exact gives_store_row 179 _ _ rfl g (show vs 5 = _ from e) KC (show vs 2 = _ from s2) 179 Z hb i5.out z5.out o5.out ⟨rfl, hk _⟩
    · obtain ⟨g, e, hb, hk⟩ := takeJ_store9 hL (hd 6 (by kernel_rfl)) (by decide) hJ
      exact gives_store_row 172 _ _ rfl g (show vs 6 = _ from e) C6 (show vs 3 = _ from s3) 172 _ hb i6.out (by rw [e6.out]; rfl) o6.out ⟨rfl, hk _⟩
  case fin =>
    intro L vs W hL hS hJ
    obtain ⟨g4, g5, g6, e4, e5, e6', b4, b5, b6, k4, k5, k6, hB1, n46, n56⟩ := takeJ_end hJ (fun k hk => hL k (by simpa using hk)) (by decide)
    have s0 : vs 0 = .slice A 64 c := hS 0 (by simp)
    have s1 : vs 1 = .agg SC := hS 1 (by simp)
    have s2 : vs 2 = .agg KC := hS 2 (by simp)
    have s3 : vs 3 = .agg C6 := hS 3 (by simp)
    have q3 := q1.below hB1 (by omega)
    have q4 := q2.below hB1 (by omega)
    have hB2 := hB0.trans (hB1.mono (by omega))
    simp only [List.length_cons, List.length_nil, Nat.zero_add, Nat.reduceAdd]
    simp only [lay, Act.put, List.setIfInBounds_toArray, List.set_cons_zero, List.set_cons_succ, Nat.reduceAdd, s0, s1, s2, s3, e4, e5, e6', ptr]
    have hg4 : w.heap.size + 2 ≤ g4 := by omega
    have hg5 : w.heap.size + 2 ≤ g5 := by omega
    have hg6 : w.heap.size + 2 ≤ g6 := by omega
    clear hJ hS hL s0 s1 s2 s3 e4 e5 e6' hsc hkc i4 i5 z4 z5 o4 o5 hZ q1 q2 hB1 hB0 b4 b5 b6
    obtain ⟨ws, hws⟩ : ∃ ws, ws = words64 bs := ⟨_, rfl⟩
    have hRV : Hid (takeV s bs = addV s (rnds ws s 64)) := hide (by rw [hws]; rfl)
    have hW64 : Hid (ws.length = 64) := hide (by rw [hws]; exact h64.out)
    have K4 : Hid (Blk W g4 179 (ws.map c32).toArray) := hide (by rw [hws, ← hSC.out]; exact k4)
    have K5 : Hid (Blk W g5 179 (shaK.map c32).toArray) := hide (by rw [← hKC.out]; exact k5)
    have K6 : Hid (Blk W g6 172 (s.list.map c32).toArray) := hide (by rw [← hC6.out]; exact k6)
    have K3 : Hid (Blk W w.heap.size 172 (s.list.map c32).toArray) := hide (by rw [← hC6.out]; exact q3)
    replace q4 := hide q4
    replace hB2 := hide hB2
    clear k4 k5 k6 q3 hws hSC hKC h64 sz0
    go_wp2
    go_loopw [19] (fun i wr => ∃ k : Nat, k ≤ 64 ∧ i = .int .i64 (k : Int) ∧ Hid (Blk wr g6 172 ((rnds ws s k).list.map c32).toArray) ∧ Hid (Blk wr g4 179 (ws.map c32).toArray) ∧ Hid (Blk wr g5 179 (shaK.map c32).toArray) ∧
      Hid (Blk wr w.heap.size 172 (s.list.map c32).toArray) ∧ Hid (Blk wr (w.heap.size + 1) 172 #[.int .u32 0, .int .u32 0, .int .u32 0, .int .u32 0, .int .u32 0, .int .u32 0, .int .u32 0, .int .u32 0]) ∧ Hid (Below w.heap.size w wr)) (fun i _ => 64 - (intOf i).toNat)
    case atStart => exact ⟨0, by omega, rfl, K6, K4, K5, K3, q4, hB2⟩
    case round =>
      obtain ⟨k, hk, rfl, B6, B4, B5, B3, B1, B0⟩ := hrel
      clear K6 K4 K5 K3 q4 hB2
      by_cases hlt : k < 64
      · have hd : decide ((k : Int) < 64) = true := by simp; omega
        obtain ⟨c0, c1, c2, c3, c4, c5, c6, c7⟩ := v8_get B6.out
        have ck := row_get B5.out k (by rw [shaK_len]; exact hlt)
        have cw := row_get B4.out k (by rw [hW64.out]; exact hlt)
        have HN : Hid (rnds ws s (k + 1) = rnd (rnds ws s k) (shaK.getD k 0) (ws.getD k 0)) := hide rfl
        have l6 := B6.out.lt
        have l4 := B4.out.lt
        have l5 := B5.out.lt
        obtain ⟨KK, hKK⟩ : ∃ KK, KK = shaK.getD k 0 := ⟨_, rfl⟩
        obtain ⟨WW, hWW⟩ : ∃ WW, WW = ws.getD k 0 := ⟨_, rfl⟩
        rw [← hKK, ← hWW] at HN
        rw [← hKK] at ck
        rw [← hWW] at cw
        clear hKK hWW
        generalize rnds ws s k = v at *
        obtain ⟨va, vb, vc, vd, ve, vf, vg, vh⟩ := v
        dsimp only at c0 c1 c2 c3 c4 c5 c6 c7
        go_wp2
        clear hd
        have hd0 : (0 : Int) ≤ (k : Int) := by omega
        have hd1 : (k : Int) < 64 := by omega
        go_quiet (fail)
        go_wp2_with fail
        replace c0 : (wr.drewN nq).cell? ⟨g6, 0, none⟩ = some (c32 va) := c0
        replace c1 : (wr.drewN nq).cell? ⟨g6, 1, none⟩ = some (c32 vb) := c1
        replace c2 : (wr.drewN nq).cell? ⟨g6, 2, none⟩ = some (c32 vc) := c2
        replace c3 : (wr.drewN nq).cell? ⟨g6, 3, none⟩ = some (c32 vd) := c3
        replace c4 : (wr.drewN nq).cell? ⟨g6, 4, none⟩ = some (c32 ve) := c4
        replace c5 : (wr.drewN nq).cell? ⟨g6, 5, none⟩ = some (c32 vf) := c5
        replace c6 : (wr.drewN nq).cell? ⟨g6, 6, none⟩ = some (c32 vg) := c6
        replace c7 : (wr.drewN nq).cell? ⟨g6, 7, none⟩ = some (c32 vh) := c7
        replace ck : (wr.drewN nq).cell? ⟨g5, k, none⟩ = some (c32 KK) := ck
        replace cw : (wr.drewN nq).cell? ⟨g4, k, none⟩ = some (c32 WW) := cw
        replace l6 : g6 < (wr.drewN nq).heap.size := l6
        replace l5 : g5 < (wr.drewN nq).heap.size := l5
        replace l4 : g4 < (wr.drewN nq).heap.size := l4
        replace B6 : Hid (Blk (wr.drewN nq) g6 172 ((V8.mk va vb vc vd ve vf vg vh).list.map c32).toArray) := B6
        replace B4 : Hid (Blk (wr.drewN nq) g4 179 (ws.map c32).toArray) := B4
        replace B5 : Hid (Blk (wr.drewN nq) g5 179 (shaK.map c32).toArray) := B5
        replace B3 : Hid (Blk (wr.drewN nq) w.heap.size 172 (s.list.map c32).toArray) := B3
        replace B1 : Hid (Blk (wr.drewN nq) (w.heap.size + 1) 172 #[.int .u32 0, .int .u32 0, .int .u32 0, .int .u32 0, .int .u32 0, .int .u32 0, .int .u32 0, .int .u32 0]) := B1
        replace B0 : Hid (Below w.heap.size w (wr.drewN nq)) := hide (below_drewN B0.out nq)
        generalize wr.drewN nq = W3 at *
        have l3 := B3.out.lt
        have l1 := B1.out.lt
        have Kc0 : Hid (∀ W, Below W3.heap.size W3 W → W.cell? ⟨g6, 0, none⟩ = some (c32 va)) := hide (fun W h => (h.cell (p := ⟨g6, 0, none⟩) l6).trans c0)
        have Kc1 : Hid (∀ W, Below W3.heap.size W3 W → W.cell? ⟨g6, 1, none⟩ = some (c32 vb)) := hide (fun W h => (h.cell (p := ⟨g6, 1, none⟩) l6).trans c1)
        have Kc2 : Hid (∀ W, Below W3.heap.size W3 W → W.cell? ⟨g6, 2, none⟩ = some (c32 vc)) := hide (fun W h => (h.cell (p := ⟨g6, 2, none⟩) l6).trans c2)
        have Kc3 : Hid (∀ W, Below W3.heap.size W3 W → W.cell? ⟨g6, 3, none⟩ = some (c32 vd)) := hide (fun W h => (h.cell (p := ⟨g6, 3, none⟩) l6).trans c3)
        have Kc4 : Hid (∀ W, Below W3.heap.size W3 W → W.cell? ⟨g6, 4, none⟩ = some (c32 ve)) := hide (fun W h => (h.cell (p := ⟨g6, 4, none⟩) l6).trans c4)
        have Kc5 : Hid (∀ W, Below W3.heap.size W3 W → W.cell? ⟨g6, 5, none⟩ = some (c32 vf)) := hide (fun W h => (h.cell (p := ⟨g6, 5, none⟩) l6).trans c5)
        have Kc6 : Hid (∀ W, Below W3.heap.size W3 W → W.cell? ⟨g6, 6, none⟩ = some (c32 vg)) := hide (fun W h => (h.cell (p := ⟨g6, 6, none⟩) l6).trans c6)
        have Kc7 : Hid (∀ W, Below W3.heap.size W3 W → W.cell? ⟨g6, 7, none⟩ = some (c32 vh)) := hide (fun W h => (h.cell (p := ⟨g6, 7, none⟩) l6).trans c7)
        have Kck : Hid (∀ W, Below W3.heap.size W3 W → W.cell? ⟨g5, k, none⟩ = some (c32 KK)) := hide (fun W h => (h.cell (p := ⟨g5, k, none⟩) l5).trans ck)
        have Kcw : Hid (∀ W, Below W3.heap.size W3 W → W.cell? ⟨g4, k, none⟩ = some (c32 WW)) := hide (fun W h => (h.cell (p := ⟨g4, k, none⟩) l4).trans cw)
        clear c0 c1 c2 c3 c4 c5 c6 c7 ck cw
        obtain ⟨U1, hU1⟩ : ∃ U1, U1 = t1Of ⟨va, vb, vc, vd, ve, vf, vg, vh⟩ KK WW := ⟨_, rfl⟩
        obtain ⟨U2, hU2⟩ : ∃ U2, U2 = t2Of ⟨va, vb, vc, vd, ve, vf, vg, vh⟩ := ⟨_, rfl⟩
        have HU1 : Hid (sumW [vh, bg1 ve, choose ve vf vg, KK, WW] = U1) := hide (by rw [hU1]; simp [sumW, t1Of])
        have HU2 : Hid (sumW [bg0 va, majority va vb vc] = U2) := hide (by rw [hU2]; simp [sumW, t2Of])
        replace HN : Hid (rnds ws s (k + 1) = ⟨U1 + U2, va, vb, vc, vd + U1, ve, vf, vg⟩) := hide (by rw [HN.out, hU1, hU2]; rfl)
        clear hU1 hU2
        have T1 := hide (turns_any ve 6 6 rfl)
        have T2 := hide (turns_any ve 11 11 rfl)
        have T3 := hide (turns_any ve 25 25 rfl)
        have T4 := hide (turns_any va 2 2 rfl)
        have T5 := hide (turns_any va 13 13 rfl)
        have T6 := hide (turns_any va 22 22 rfl)
        have X1 : Hid (∀ w : World, Calls Try.prog 137 #[.int .u32 ((rotr ve 6).toNat : Int), .int .u32 ((rotr ve 11).toNat : Int), .int .u32 ((rotr ve 25).toNat : Int)] w fun e w' => e = .returned (.int .u32 ((bg1 ve).toNat : Int)) ∧ w = w') := hide (fun w => xor_any _ _ _ w)
        have X2 : Hid (∀ w : World, Calls Try.prog 137 #[.int .u32 ((rotr va 2).toNat : Int), .int .u32 ((rotr va 13).toNat : Int), .int .u32 ((rotr va 22).toNat : Int)] w fun e w' => e = .returned (.int .u32 ((bg0 va).toNat : Int)) ∧ w = w') := hide (fun w => xor_any _ _ _ w)
        have Y1 := hide (fun w => choose_any ve vf vg w)
        have Y2 := hide (fun w => majority_any va vb vc w)
        apply wp_region_rel (C := fun W => Below W3.heap.size W3 W) (M := fun W W' => Below W.heap.size W W') (ss := [_, _, _, _, _, _, _, _, _, _, _, _, _, _, _, _, _, _, _, _, _, _, _, _]) (by kernel_rfl) (by kernel_rfl) (by kernel_rfl) (Below.refl _ _).drew
        iterate 21
          apply relWalk_const (fun W => Below.refl _ _)
          · intro W hC hF
            clear hF
            have c0 := Kc0.out W hC
            have c5 := Kc5.out W hC
            have c6 := Kc6.out W hC
            have c7 := Kc7.out W hC
            have ck := Kck.out W hC
            have cw := Kcw.out W hC
            go_simp
            first
              | with_reducible exact rfl
              | (go_at_call 138; (first | with_reducible refine (T1.out _).mono ?_ | with_reducible refine (T2.out _).mono ?_ | with_reducible refine (T3.out _).mono ?_); rintro e w' ⟨rfl, rfl⟩; exact ⟨_, rfl, rfl, rfl⟩)
              | (go_at_call 137; with_reducible refine (X1.out _).mono ?_; rintro e w' ⟨rfl, rfl⟩; exact ⟨_, rfl, rfl, rfl⟩)
              | (go_at_call 139; with_reducible refine (Y1.out _).mono ?_; rintro e w' ⟨rfl, rfl⟩; exact ⟨_, rfl, rfl, rfl⟩)
          (try simp only [Act.put, List.setIfInBounds_toArray, List.set_cons_zero, List.set_cons_succ])
        apply relWalk_rel (fun v => ∃ A c, v = .slice A 5 c) (SliceOf32 5 [vh, bg1 ve, choose ve vf vg, KK, WW]) ⟨_, none, 0, rfl⟩ (fun v w w' hb h => SliceOf32.later v w w' hb h)
        · go_simp
        · intro W hC hF
          clear hF
          go_simp
          exact ⟨⟨rfl, (Reads.new W 22 #[c32 vh, c32 (bg1 ve), c32 (choose ve vf vg), c32 KK, c32 WW]).more (by simp)⟩, hC.alloc hC.size _, (Below.refl _ W).alloc (Nat.le_refl _) _⟩
        rintro v' ⟨A', c', rfl⟩
        (try simp only [Act.put, List.setIfInBounds_toArray, List.set_cons_zero, List.set_cons_succ])
        apply relWalk_const (fun W => Below.refl _ _)
        · intro W hC hF
          have r4 := (hF.1 (by kernel_rfl)).2
          clear hF
          go_simp
          refine (add_is A' 5 c' _ U1 HU1.out (by omega) W r4).mono ?_
          rintro e w' ⟨rfl, rfl⟩
          exact ⟨_, rfl, rfl, rfl⟩
        (try simp only [Act.put, List.setIfInBounds_toArray, List.set_cons_zero, List.set_cons_succ])
        apply relWalk_const (fun W => Below.refl _ _)
        · intro W hC hF
          clear hF
          go_simp
          with_reducible exact rfl
        (try simp only [Act.put, List.setIfInBounds_toArray, List.set_cons_zero, List.set_cons_succ])
        apply relWalk_nil
        intro W hC _
        go_wp2_with fail
        apply wp_region_rel (C := fun W => Below W3.heap.size W3 W) (M := fun W W' => Below W.heap.size W W') (ss := [_, _, _, _, _, _, _, _, _, _, _, _, _, _, _, _]) (by kernel_rfl) (by kernel_rfl) (by kernel_rfl) hC.drew
        iterate 13
          apply relWalk_const (fun W => Below.refl _ _)
          · intro W hC hF
            clear hF
            have c1 := Kc1.out W hC
            have c2 := Kc2.out W hC
            go_simp
            first
              | with_reducible exact rfl
              | (go_at_call 138; (first | with_reducible refine (T4.out _).mono ?_ | with_reducible refine (T5.out _).mono ?_ | with_reducible refine (T6.out _).mono ?_); rintro e w' ⟨rfl, rfl⟩; exact ⟨_, rfl, rfl, rfl⟩)
              | (go_at_call 137; with_reducible refine (X2.out _).mono ?_; rintro e w' ⟨rfl, rfl⟩; exact ⟨_, rfl, rfl, rfl⟩)
              | (go_at_call 140; with_reducible refine (Y2.out _).mono ?_; rintro e w' ⟨rfl, rfl⟩; exact ⟨_, rfl, rfl, rfl⟩)
          (try simp only [Act.put, List.setIfInBounds_toArray, List.set_cons_zero, List.set_cons_succ])
        apply relWalk_rel (fun v => ∃ A c, v = .slice A 2 c) (SliceOf32 2 [bg0 va, majority va vb vc]) ⟨_, none, 0, rfl⟩ (fun v w w' hb h => SliceOf32.later v w w' hb h)
        · go_simp
        · intro W hC hF
          clear hF
          go_simp
          exact ⟨⟨rfl, (Reads.new W 22 #[c32 (bg0 va), c32 (majority va vb vc)]).more (by simp)⟩, hC.alloc hC.size _, (Below.refl _ W).alloc (Nat.le_refl _) _⟩
        rintro v' ⟨A2, c2, rfl⟩
        (try simp only [Act.put, List.setIfInBounds_toArray, List.set_cons_zero, List.set_cons_succ])
        apply relWalk_const (fun W => Below.refl _ _)
        · intro W hC hF
          have r4 := (hF.1 (by kernel_rfl)).2
          clear hF
          go_simp
          refine (add_is A2 2 c2 _ U2 HU2.out (by omega) W r4).mono ?_
          rintro e w' ⟨rfl, rfl⟩
          exact ⟨_, rfl, rfl, rfl⟩
        (try simp only [Act.put, List.setIfInBounds_toArray, List.set_cons_zero, List.set_cons_succ])
        apply relWalk_const (fun W => Below.refl _ _)
        · intro W hC hF
          clear hF
          go_simp
          with_reducible exact rfl
        (try simp only [Act.put, List.setIfInBounds_toArray, List.set_cons_zero, List.set_cons_succ])
        apply relWalk_nil
        intro W hC _
        have c1 := Kc1.out W hC
        have c2 := Kc2.out W hC
        have c3 := Kc3.out W hC
        have c5 := Kc5.out W hC
        have c6 := Kc6.out W hC
        have D6 := B6.out.below hC l6
        have D4 := B4.out.below hC l4
        have D5 := B5.out.below hC l5
        have D3 := B3.out.below hC l3
        have D1 := B1.out.below hC l1
        have D0 := B0.out.trans (hC.mono (by omega))
        obtain ⟨R, hR⟩ : ∃ R, R = ((V8.mk (U1 + U2) va vb vc (vd + U1) ve vf vg).list.map c32).toArray := ⟨_, rfl⟩
        have HRz : Hid (R.size = 8) := hide (by rw [hR]; rfl)
        have HRi : Hid ((Try.prog.info? 172).map (·.size) = some R.size) := hide (by rw [HRz.out]; exact info_s)
        have HRo : Hid (R.all (·.oneCell') = true) := hide (by rw [hR]; exact oneCell_words _)
        have n6 : Hid (Blk (W.setRow g6 R) g6 172 R) := hide (D6.setRow_ R)
        have n4 := hide (D4.setRow_far (k := g6) R n46)
        have n5 := hide (D5.setRow_far (k := g6) R n56)
        have n3 := hide (D3.setRow_far (k := g6) R (by omega))
        have n1 := hide (D1.setRow_far (k := g6) R (by omega))
        have n0 := hide (below_setRow D0 (by omega : w.heap.size ≤ g6) R)
        have HB : Hid (Try.prog.built 172 [(0, .int .u32 (((U1.toNat : Int) + (U2.toNat : Int)) % 4294967296)), (1, c32 va), (2, c32 vb), (3, c32 vc), (4, .int .u32 (((vd.toNat : Int) + (U1.toNat : Int)) % 4294967296)), (5, c32 ve), (6, c32 vf), (7, c32 vg)] = some R) := hide (by rw [add_u32, add_u32, hR]; kernel_rfl)
        replace hR := hide hR
        replace D6 := hide D6
        clear hC D4 D5 D3 D1 D0 Kc0 Kc1 Kc2 Kc3 Kc4 Kc5 Kc6 Kc7 Kck Kcw T1 T2 T3 T4 T5 T6 X1 X2 Y1 Y2 HU1 HU2 B6 B4 B5 B3 B1 B0 l6 l5 l4 l3 l1
        go_wp2_with (first
          | ((with_reducible show wpList _ _ _ (⟨_, .build _ _, _, _, _, _⟩ :: _) _ _); refine wpList_build_is rfl _ _ rfl R (by exact HB.out) ?_)
          | ((with_reducible show wpList _ _ _ (⟨_, .store _ _ _, _, _, _, _⟩ :: _) _ _); refine wpList_store_row rfl 172 (.tmp 7) (.tmp 81) rfl g6 rfl R rfl 172 _ D6.out HRi.out HRz.out.symm HRo.out ?_))
        go_roundw
        case rel => exact ⟨k + 1, hlt, int_succ k, by rw [HN.out, ← hR.out]; exact n6, n4, n5, n3, n1, n0⟩
        case measure => simp [intOf]; omega
      · obtain rfl : k = 64 := by omega
        have hd : decide (((64 : Nat) : Int) < 64) = false := rfl
        obtain ⟨v, hv⟩ : ∃ v, v = rnds ws s 64 := ⟨_, rfl⟩
        have HR : Hid (takeV s bs = addV s v) := hide (by rw [hv]; exact hRV.out)
        rw [← hv] at B6
        obtain ⟨H, hH⟩ : ∃ H, H = (v.list.map c32).toArray := ⟨_, rfl⟩
        have HX : Hid (∀ (k : Nat) (w : World), k < 8 → (Instr.index 172 (.agg H) (.int .i64 (k : Int))).run Try.prog w = .ok (c32 (v.list.getD k 0)) w) := hide fun k w hk => by
          obtain ⟨i0, hi, _, hz1, _⟩ := info_parts info_u32
          refine run_index_agg w _ _ 8 k _ _ i0 .u32 Try.underlying172 hi hz1 Try.underlying22 hk ?_
          rw [hH]
          have hl : k < v.list.length := hk
          rw [List.getElem?_toArray, List.getElem?_map, List.getElem?_eq_getElem hl]
          simp [List.getD, hl]
        have HHi : Hid ((Try.prog.info? 172).map (·.size) = some H.size) := hide (by rw [hH]; exact info_s)
        have D6 : Hid (Blk wr g6 172 H) := hide (by rw [hH]; exact B6.out)
        have D3 : Hid (Blk wr w.heap.size 172 ((addRow s.list v.list 0).map c32).toArray) := B3
        clear hv hH hRV B6 B4 B5 B3 hk hlt
        go_wp2_with ((with_reducible show wpList _ _ _ (⟨_, .load _ _, _, _, _, _⟩ :: _) _ _); refine wpList_load_row rfl 172 _ rfl g6 rfl 172 H (0, 0) _ D6.out Try.underlying172 rfl HHi.out ?_)
        clear hd
        go_loopw [84] (fun i wr => ∃ k : Nat, k ≤ 8 ∧ i = .int .i64 (k : Int) ∧ Hid (Blk wr w.heap.size 172 ((addRow s.list v.list k).map c32).toArray) ∧ Hid (Blk wr (w.heap.size + 1) 172 #[.int .u32 0, .int .u32 0, .int .u32 0, .int .u32 0, .int .u32 0, .int .u32 0, .int .u32 0, .int .u32 0]) ∧ Hid (Below w.heap.size w wr)) (fun i _ => 8 - (intOf i).toNat)
        case atStart => exact ⟨0, by omega, rfl, D3, B1, B0⟩
        case round =>
          obtain ⟨k, hk, rfl, E3, E1, E0⟩ := hrel
          clear D3 B1 B0 D6
          by_cases hlt : k < 8
          · have hd : decide ((k : Int) < 8) = true := by simp; omega
            have hidx := fun w => HX.out k w hlt
            have hcell : wr.cell? ⟨w.heap.size, k, none⟩ = some (c32 (s.list.getD k 0)) := by
              refine (E3.out.cell k).trans ?_
              simp [addRow, hlt]
            have hfr := E3.out.frozen k
            have hnx := addRow_next s.list v.list k hlt
            generalize s.list.getD k 0 = x at *
            generalize v.list.getD k 0 = y at *
            have e : ((addRow s.list v.list k).map c32).toArray.setIfInBounds k (.int .u32 (((x.toNat : Int) + (y.toNat : Int)) % 4294967296)) = ((addRow s.list v.list (k + 1)).map c32).toArray := by
              rw [show (Value.int .u32 (((x.toNat : Int) + (y.toNat : Int)) % 4294967296)) = c32 (x + y) from int_u32 (add_u32 _ _)]; exact hnx
            have n3 := E3.out.set_ k (.int .u32 (((x.toNat : Int) + (y.toNat : Int)) % 4294967296))
            rw [e] at n3
            have n1 := hide (E1.out.far (p := ⟨w.heap.size, k, none⟩) (by dsimp only; omega) (.int .u32 (((x.toNat : Int) + (y.toNat : Int)) % 4294967296)))
            have n0 := hide (E0.out.setCell (p := ⟨w.heap.size, k, none⟩) (Nat.le_refl _) (.int .u32 (((x.toNat : Int) + (y.toNat : Int)) % 4294967296)))
            replace n3 := hide n3
            clear hnx e E3 E1 E0
            have hk0 : (0 : Int) ≤ (k : Int) := by omega
            have hk1 : (k : Int) < 8 := by omega
            go_wp2
            go_roundw
            case rel => exact ⟨k + 1, hlt, int_succ k, n3, n1, n0⟩
            case measure => simp [intOf]; omega
          · obtain rfl : k = 8 := by omega
            have hd : decide (((8 : Nat) : Int) < 8) = false := rfl
            obtain ⟨R, hR⟩ : ∃ R, R = ((addV s v).list.map c32).toArray := ⟨_, rfl⟩
            have HRz : Hid (R.size = 8) := hide (by rw [hR]; rfl)
            have HRi : Hid ((Try.prog.info? 172).map (·.size) = some R.size) := hide (by rw [HRz.out]; exact info_s)
            have HRo : Hid (R.all (·.oneCell') = true) := hide (by rw [hR]; exact oneCell_words _)
            rw [addRow_all, ← hR] at E3
            have HE : Hid ((takeV s bs).list = (addV s v).list) := hide (by rw [HR.out])
            replace hR := hide hR
            clear hk hlt
            go_wp2_with (first
              | ((with_reducible show wpList _ _ _ (⟨_, .load _ _, _, _, _, _⟩ :: _) _ _); refine wpList_load_row rfl 172 _ rfl w.heap.size rfl 172 R (0, 0) _ E3.out Try.underlying172 rfl HRi.out ?_)
              | ((with_reducible show wpList _ _ _ (⟨_, .store _ _ _, _, _, _, _⟩ :: _) _ _); refine wpList_store_row rfl 172 _ _ rfl (w.heap.size + 1) rfl R rfl 172 _ E1.out HRi.out HRz.out.symm HRo.out ?_))
            refine bodyPost_ret (v := .agg R) ?_ rfl ⟨by rw [HE.out, hR.out], ?_⟩
            · exact results_cell_row rfl _ _ (w.heap.size + 1) 172 R (0, 0) _ rfl (setRow_heap _ _ _ _ _ _ E1.out) Try.underlying172 rfl HRi.out
            · exact below_setRow E0.out (Nat.le_succ _) _
end Go.Proofs.Ytccpkafmbmkmfaa
