/- Chapter 02's reference: a piece is taken in. No condition. -/
import Derived.Test.YtccpkafmbmkmfaaShaRefs
import Derived.Test.YtccpkafmbmkmfaaWRefWords
import Derived.Test.YtccpkafmbmkmfaaShaSum
import Derived.BigQuiet
namespace Go.Proofs.Ytccpkafmbmkmfaa
open Go.RowKit
set_option linter.unusedVariables false
set_option linter.unusedSimpArgs false
attribute [local go_sem] Gives givesUpon
attribute [local irreducible] Gives

/-- a word that is turned by the reference -/
abbrev RefTurns (x : BitVec 32) (k : Int) (n : Nat) : Prop := ∀ w : World, Calls Try.prog 123 #[.int .u32 (x.toNat : Int), .int .i64 k] w fun e w' => e = .returned (.int .u32 ((rotr x n).toNat : Int)) ∧ Below w.heap.size w w'
theorem turns_quiet {x : BitVec 32} {k : Int} {n : Nat} (h : ∀ w : World, Calls Try.prog 123 #[.int .u32 (x.toNat : Int), .int .i64 k] w fun e w' => e = .returned (.int .u32 ((rotr x n).toNat : Int)) ∧ ∃ n, w' = w.drewN n) : RefTurns x k n :=
  fun w => (h w).mono fun e w' ⟨he, n, hn⟩ => ⟨he, hn ▸ below_drewN (Below.refl _ _) n⟩
theorem oneCell_c32 (l : List (BitVec 32)) : ∀ u ∈ l.map c32, u.oneCell' = true := fun u hu => by obtain ⟨x, _, rfl⟩ := List.mem_map.1 hu; rfl
theorem int_succ16 (k : Nat) : Value.int .i64 ((k : Int) + 16 + 1) = Value.int .i64 (((k + 1 : Nat) : Int) + 16) := by congr 1
theorem wrap_add (x y : BitVec 32) : IntKind.u32.wrap ((x.toNat : Int) + (y.toNat : Int)) = ((x + y).toNat : Int) := (show IntKind.u32.wrap ((x.toNat : Int) + (y.toNat : Int)) = ((x.toNat : Int) + (y.toNat : Int)) % 4294967296 from rfl).trans (add_u32 x y)
theorem Blk.reads {w : World} {g : Nat} {t : TypeId} {cs : Array Value} (h : Blk w g t cs) : Reads w w.heap.size 1 (some ⟨g, 0, none⟩) cs.size cs.toList :=
  ⟨by simp, fun _ => ⟨_, rfl, h.lt, fun j u hu => by
    rw [Addr.add_lit, Nat.zero_add, h.cell j]
    simpa using hu⟩⟩
theorem Reads.word {w : World} {B n k g o : Nat} {l : List (BitVec 32)} (h : Reads w B 1 (some ⟨g, o, none⟩) n (l.map c32)) (hk : k < n) : w.cell? ⟨g, o + k, none⟩ = some (c32 (l.getD k 0)) := by
  have hl := h.len
  obtain ⟨ad', e, h1, h2⟩ := h.get (k := k) (by omega)
  cases e
  have h3 : w.cell? ⟨g, o + k, none⟩ = some (c32 (l[k]'(by omega))) := by
    by_cases h0 : k = 0
    · subst h0; simpa [Addr.add] using h2
    · simpa [Addr.add, h0] using h2
  rw [h3]; simp [List.getD, hl, hk]
theorem t1_ref (va vb vc vd ve vf vg vh K W : BitVec 32) : (((vh.toNat : Int) + ((bg1 ve).toNat : Int) + bits .xor .u32 (bits .and .u32 (ve.toNat : Int) (vf.toNat : Int)) (bits .and .u32 (bits .xor .u32 4294967295 (ve.toNat : Int)) (vg.toNat : Int)) + (K.toNat : Int)) % 4294967296 + (W.toNat : Int)) % 4294967296 = ((t1Of ⟨va, vb, vc, vd, ve, vf, vg, vh⟩ K W).toNat : Int) := by
  have e : bits .xor .u32 4294967295 (ve.toNat : Int) = ((4294967295#32 ^^^ ve).toNat : Int) := xor_u32 4294967295#32 ve
  rw [e, and_u32, and_u32, xor_u32, choose_ref]
  simp only [t1Of, BitVec.toNat_add]
  omega
theorem t2_ref (va vb vc vd ve vf vg vh : BitVec 32) : (((bg0 va).toNat : Int) + bits .xor .u32 (bits .xor .u32 (bits .and .u32 (va.toNat : Int) (vb.toNat : Int)) (bits .and .u32 (va.toNat : Int) (vc.toNat : Int))) (bits .and .u32 (vb.toNat : Int) (vc.toNat : Int))) % 4294967296 = ((t2Of ⟨va, vb, vc, vd, ve, vf, vg, vh⟩).toNat : Int) := by
  rw [and_u32, and_u32, and_u32, xor_u32, xor_u32, majority_ref, add_u32]
  rfl
set_option maxRecDepth 100000 in
set_option maxHeartbeats 1600000 in
theorem reftake_any (s : V8) (A0 : Option Addr) (c0 : Nat) (A : Option Addr) (c : Nat) (bs : List (BitVec 8)) (w : World) (hs : Reads w w.heap.size 1 A0 8 (s.list.map c32)) (hr : Reads w w.heap.size 1 A 64 (bs.map c8)) :
    Calls Try.prog 116 #[.slice A0 8 c0, .slice A 64 c] w fun e w' => ∃ A' c', e = .returned (.slice A' 8 c') ∧ Reads w' w'.heap.size 1 A' 8 ((takeV s bs).list.map c32) ∧ Below w.heap.size w w' := by
  obtain ⟨i0, hi0, hz0, hz1, hz2⟩ := info_parts info_u32
  have hlen : bs.length = 64 := hr.len
  have HL := hide (wordsOf_length bs 16 (by omega))
  clear hlen
  replace hr := hide hr
  replace hs := hide hs
  go_enter Try.func116, Try.ntmps116
  go_wp2_with (go_at_call 122; refine (refwords_any A 64 16 c bs _ hr.out rfl (by omega)).mono ?_; rintro e w1 ⟨A1, c1, rfl, own1, hb1⟩; replace own1 := hide own1; replace hb1 := hide hb1)
  obtain ⟨l, hl⟩ : ∃ l, l = wordsOf bs := ⟨_, rfl⟩
  have HR : Hid (∀ k, k = 48 → words64 bs = sched l k) := hide (fun k hk => by rw [hl, hk]; rfl)
  have HLL : Hid (l.length = 16) := hide (by rw [hl]; exact HL.out)
  rw [← hl] at own1
  clear hl HL
  go_loopw [5, 7] (fun v i wr => ∃ (m : Nat) (A : Option Addr) (q c : Nat), m ≤ 48 ∧ i = .int .i64 ((m : Int) + 16) ∧ v = .slice A q c ∧ (q ≤ m + 16 ∧ m + 16 ≤ q) ∧ Hid (wr.ownsRow w.heap.size 22 1 (.slice A q c) q ((sched l m).map c32)) ∧ Hid (Below w.heap.size w wr)) (fun _ i _ => 64 - (intOf i).toNat)
  case atStart => exact ⟨0, A1, 16, c1, by omega, rfl, rfl, ⟨by omega, by omega⟩, own1, hb1⟩
  case round =>
    obtain ⟨m, A2, q, c2, hm, rfl, rfl, ⟨hq1, hq2⟩, ho, hB⟩ := hrel
    clear own1 hb1
    have hg := hB.out.size
    by_cases hlt : m < 48
    · have hd : decide ((m : Int) + 16 < 64) = true := by simp; omega
      have hsl : (sched l m).length = q := by rw [sched_len, HLL.out]; omega
      have hrd := Reads.of_own ho.out
      have hnx : nextW (sched l m) = sg1 ((sched l m).getD (m + 14) 0) + (sched l m).getD (m + 9) 0 + sg0 ((sched l m).getD (m + 1) 0) + (sched l m).getD m 0 := by
        have e : (sched l m).length = m + 16 := by omega
        unfold nextW; rw [e]; rfl
      obtain ⟨g, o, rfl, hgl⟩ := Reads.addr' hrd (by omega)
      have hget : ∀ i, i < q → wr.cell? ⟨g, o + i, none⟩ = some (c32 ((sched l m).getD i 0)) := fun i hi => by
        obtain ⟨ad', e, h1, h2⟩ := hrd.get (k := i) (by omega)
        cases e
        have h3 : wr.cell? ⟨g, o + i, none⟩ = some (c32 ((sched l m)[i]'(by omega))) := by
          by_cases h0 : i = 0
          · subst h0; simpa [Addr.add] using h2
          · simpa [Addr.add, h0] using h2
        rw [h3]; simp [List.getD, hsl, hi]
      have c16 := hget m (by omega)
      have c15 := hget (m + 1) (by omega)
      have c2' := hget (m + 14) (by omega)
      have c7 := hget (m + 9) (by omega)
      have hnext : sched l (m + 1) = sched l m ++ [nextW (sched l m)] := rfl
      rw [hnx] at hnext
      have HX := hide hnext
      clear hget hnx hrd hsl hnext
      generalize (sched l m).getD (m + 1) 0 = x at *
      generalize (sched l m).getD (m + 14) 0 = y at *
      generalize (sched l m).getD (m + 9) 0 = u at *
      generalize (sched l m).getD m 0 = v at *
      have a1 : IntKind.i64.wrap ((m : Int) + 16 - 15) = (m : Int) + 1 := by rw [IntWalk.i64_in _ (by omega)]; omega
      have a2 : IntKind.i64.wrap ((m : Int) + 16 - 2) = (m : Int) + 14 := by rw [IntWalk.i64_in _ (by omega)]; omega
      have a5 : (0 : Int) ≤ (m : Int) + 1 := by omega
      have a6 : (m : Int) + 1 < q := by omega
      have a7 : (0 : Int) ≤ (m : Int) + 14 := by omega
      have a8 : (m : Int) + 14 < q := by omega
      have b1 : ((m : Int) + 1).toNat = m + 1 := by omega
      have b2 : ((m : Int) + 14).toNat = m + 14 := by omega
      have R1 : Hid (RefTurns x 7 7) := hide (turns_quiet (refright_7 x))
      have R2 : Hid (RefTurns x 18 18) := hide (turns_quiet (refright_18 x))
      have R3 : Hid (RefTurns y 17 17) := hide (turns_quiet (refright_17 y))
      have R4 : Hid (RefTurns y 19 19) := hide (turns_quiet (refright_19 y))
      replace c7 := hide c7
      replace c16 := hide c16
      have KB : Hid (Below wr.heap.size wr wr) := hide (Below.refl _ _)
      go_wp2_with (go_at_call 123; (first | with_reducible refine (R1.out _).mono ?_ | with_reducible refine (R2.out _).mono ?_ | with_reducible refine (R3.out _).mono ?_ | with_reducible refine (R4.out _).mono ?_); rintro e W3 ⟨rfl, hbq⟩; replace KB := hide (below_next KB.out hbq); clear hbq)
      clear a1 a2 a5 a6 a7 a8 b1 b2 R1 R2 R3 R4 c15 c2' hd
      have X7 : Hid (bits .xor .u32 (bits .xor .u32 ((rotr x 7).toNat : Int) ((rotr x 18).toNat : Int)) ((x.toNat : Int) / 8) = ((sg0 x).toNat : Int)) := hide (by have e := shr_u32 x 3; rw [show (2 : Int) ^ 3 = 8 from rfl] at e; rw [e, xor_u32, xor_u32]; rfl)
      have X8 : Hid (bits .xor .u32 (bits .xor .u32 ((rotr y 17).toNat : Int) ((rotr y 19).toNat : Int)) ((y.toNat : Int) / 1024) = ((sg1 y).toNat : Int)) := hide (by have e := shr_u32 y 10; rw [show (2 : Int) ^ 10 = 1024 from rfl] at e; rw [e, xor_u32, xor_u32]; rfl)
      simp only [X7.out, X8.out]
      clear X7 X8
      obtain ⟨S, hS⟩ : ∃ S, S = sg1 y + u + sg0 x + v := ⟨_, rfl⟩
      have HS : Hid (Value.int .u32 (IntKind.u32.wrap (IntKind.u32.wrap (IntKind.u32.wrap (((sg1 y).toNat : Int) + (u.toNat : Int)) + ((sg0 x).toNat : Int)) + (v.toNat : Int))) = c32 S) := hide (by rw [wrap_add, wrap_add, wrap_add, hS])
      have hX : sched l (m + 1) = sched l m ++ [S] := by rw [HX.out, hS]
      replace hX := hide hX
      clear hS HX
      have a1 : IntKind.i64.wrap ((m : Int) + 16 - 7) = (m : Int) + 9 := by rw [IntWalk.i64_in _ (by omega)]; omega
      have a2 : IntKind.i64.wrap ((m : Int) + 16 - 16) = (m : Int) := by rw [IntWalk.i64_in _ (by omega)]; omega
      have a3 : IntKind.i64.wrap (m : Int) = (m : Int) := IntWalk.i64_in _ (by omega)
      have a5 : (0 : Int) ≤ (m : Int) + 9 := by omega
      have a6 : (m : Int) + 9 < q := by omega
      have a7 : (0 : Int) ≤ (m : Int) := by omega
      have a8 : (m : Int) < q := by omega
      have b1 : ((m : Int) + 9).toNat = m + 9 := by omega
      have K7 : Hid (∀ W, Below W3.heap.size W3 W → W.cell? ⟨g, o + (m + 9), none⟩ = some (c32 u)) := hide (fun W h => ((below_next KB.out h).cell (p := ⟨g, o + (m + 9), none⟩) hgl).trans c7.out)
      have K16 : Hid (∀ W, Below W3.heap.size W3 W → W.cell? ⟨g, o + m, none⟩ = some (c32 v)) := hide (fun W h => ((below_next KB.out h).cell (p := ⟨g, o + m, none⟩) hgl).trans c16.out)
      apply wp_region_relT 17 (C := fun W => Below W3.heap.size W3 W) (M := fun W W' => Below W.heap.size W W') (ss := [_, _, _, _, _, _, _, _, _, _, _, _, _, _, _, _, _]) (by kernel_rfl) (by kernel_rfl) (by kernel_rfl) (by kernel_rfl) (Below.refl _ _).drew
      simp only [List.take_succ_cons, List.take_zero, List.drop_succ_cons, List.drop_zero]
      iterate 16
        apply relWalk_const (fun W => Below.refl _ _)
        · intro W hC hF
          clear hF
          have c7 := K7.out W hC
          have c16 := K16.out W hC
          go_simp
          with_reducible exact rfl
        (try simp only [Act.put, List.setIfInBounds_toArray, List.set_cons_zero, List.set_cons_succ])
      apply relWalk_rel (fun v => ∃ A c, v = .slice A 1 c) (SliceOf32 1 [S]) ⟨_, none, 0, rfl⟩ (fun v w w' hb h => SliceOf32.later v w w' hb h)
      · go_simp
      · intro W hC hF
        clear hF
        go_simp
        rw [HS.out]
        exact ⟨⟨rfl, (Reads.new W 22 #[c32 S]).more (by simp)⟩, hC.alloc hC.size _, (Below.refl _ W).alloc (Nat.le_refl _) _⟩
      rintro v' ⟨A', c', rfl⟩
      (try simp only [Act.put, List.setIfInBounds_toArray, List.set_cons_zero, List.set_cons_succ])
      apply relWalk_nil
      intro W hC hF
      have r1 := hF.1.2
      clear hF
      have KW := below_next KB.out hC
      have oW := own_below ho.out KW
      have bW := below_next hB.out KW
      clear K7 K16 a1 a2 a3 a5 a6 a7 a8 b1 c7 c16 KB hC KW HS
      go_wp2_with (at_builtin; refine wpList_append_any _ rfl (.tmp 57) (.tmp 73) 154 rfl w.heap.size 22 i0 _ 1 4 Try.underlying154 hi0 hz0 hz1 hz2 rfl (by omega) _ q _ rfl oW _ A' 1 c' _ rfl r1 (oneCell_c32 _) (by simp only [maxLen]; omega) (by omega) bW.size ?_; intro v5 W5 own5 grow5 _; have b5 := below_appended bW bW.size oW (Nat.le_refl _) grow5; obtain ⟨A5, c5, rfl⟩ := own_slice own5; rw [← List.map_append, ← hX.out] at own5; replace own5 := hide own5; replace b5 := hide b5; clear grow5)
      go_roundw
      case rel => exact ⟨m + 1, A5, q + 1, c5, by omega, int_succ16 m, rfl, ⟨by omega, by omega⟩, own5, b5⟩
      case measure => simp [intOf]; omega
    · obtain rfl : m = 48 := by omega
      obtain rfl : q = 64 := by omega
      have hd : decide (((48 : Nat) : Int) + 16 < 64) = false := rfl
      obtain ⟨ws, hws⟩ : ∃ ws, ws = sched l 48 := ⟨_, rfl⟩
      have HW : Hid (takeV s bs = addV s (rnds ws s 64)) := hide (by rw [hws, ← HR.out 48 rfl]; rfl)
      rw [← hws] at ho
      have h64 : ws.length = 64 := (Reads.of_own ho.out).len
      clear hws HLL hlt hm hq1 hq2
      have RW := Reads.of_own ho.out
      clear ho
      have BA := hB.out.alloc hg (.cells (shaK.map c32).toArray 22)
      have RK : Reads (wr.alloc (.cells (shaK.map c32).toArray 22)) (wr.alloc (.cells (shaK.map c32).toArray 22)).heap.size 1 (some ⟨wr.heap.size, 0, none⟩) 64 (shaK.map c32) := (Reads.new wr 22 (shaK.map c32).toArray).more (by simp)
      replace RW := RW.alloc (Nat.le_refl _) (.cells (shaK.map c32).toArray 22)
      replace RW := RW.more (B' := (wr.alloc (.cells (shaK.map c32).toArray 22)).heap.size) (by simp)
      obtain ⟨W4, hW4⟩ : ∃ W4, W4 = wr.alloc (.cells (shaK.map c32).toArray 22) := ⟨_, rfl⟩
      rw [← hW4] at BA RK RW
      replace hW4 := hide hW4
      have o1 : (W4.alloc (.cells #[] 22)).ownsRow W4.heap.size 22 1 (.slice (some ⟨W4.heap.size, 0, none⟩) 0 0) 0 [] :=
        ⟨rfl, .inr ⟨W4.heap.size, 0, #[], rfl, Nat.le_refl _, heap_alloc_last _ _, Nat.le_refl _, by simp [maxLen], rfl, rfl⟩⟩
      have B1 := (Below.refl W4.heap.size W4).alloc (Nat.le_refl _) (.cells #[] 22)
      have R1 := ((hs.out.below BA).more (B' := W4.heap.size) BA.size).later B1
      have R0 := (hs.out.below BA).more (B' := W4.heap.size) BA.size
      replace o1 := hide o1
      replace B1 := hide B1
      replace R1 := hide R1
      replace R0 := hide R0
      replace RW := hide RW
      replace RK := hide RK
      replace BA := hide BA
      have HG := hide hg
      clear hg hB
      go_wp2_with (first
        | (go_at_call 124; refine (refconstants_any _).mono ?_; rintro e w4 ⟨rfl, rfl⟩; rw [← hW4.out])
        | (at_builtin; refine wpList_append_any _ rfl (.tmp 76) (.tmp 77) 154 rfl W4.heap.size 22 i0 _ 1 4 Try.underlying154 hi0 hz0 hz1 hz2 rfl (by omega) _ 0 [] rfl o1.out _ A0 8 c0 _ rfl R1.out (oneCell_c32 _) (by simp only [maxLen]; omega) (by omega) B1.out.size ?_; intro v5 W5 own5 grow5 _; have q5 := below_appended B1.out B1.out.size o1.out (Nat.le_refl _) grow5; obtain ⟨A5, c5, rfl⟩ := own_slice own5; simp only [Nat.zero_add, List.nil_append] at own5; replace own5 := hide own5; replace q5 := hide q5; clear grow5))
      obtain ⟨gw, ow, rfl, hgw⟩ := Reads.addr' RW.out (by omega)
      have CW : Hid (∀ W k, Below W4.heap.size W4 W → k < 64 → W.cell? ⟨gw, ow + k, none⟩ = some (c32 (ws.getD k 0))) := hide (fun W k h hk => (RW.out.below h).word hk)
      have CK : Hid (∀ W k, Below W4.heap.size W4 W → k < 64 → W.cell? ⟨wr.heap.size, k, none⟩ = some (c32 (shaK.getD k 0))) := hide (fun W k h hk => by have := (RK.out.below h).word hk; rwa [Nat.zero_add] at this)
      have S5 := hide (Reads.of_own own5.out)
      clear RW RK R1 o1 B1 own5 hd HR
      obtain ⟨wz, rfl⟩ : ∃ wz : World, wz = wr := ⟨_, rfl⟩
      go_loopw [13, 14] (fun v i wr => ∃ (k : Nat) (A : Option Addr) (c : Nat), k ≤ 64 ∧ i = .int .i64 (k : Int) ∧ v = .slice A 8 c ∧ Hid (Reads wr wr.heap.size 1 A 8 ((rnds ws s k).list.map c32)) ∧
        Hid (0 < k → ∃ g, A = some ⟨g, 0, none⟩ ∧ W4.heap.size ≤ g ∧ Blk wr g 22 ((rnds ws s k).list.map c32).toArray) ∧ Hid (Below W4.heap.size W4 wr)) (fun _ i _ => 64 - (intOf i).toNat)
      case atStart => exact ⟨0, A5, c5, by omega, rfl, rfl, S5, hide (fun h => absurd h (by omega)), q5⟩
      case round =>
        obtain ⟨k, A6, c6, hk, rfl, rfl, hrd, hbk, hB6⟩ := hrel
        clear S5 q5
        by_cases hlt : k < 64
        · have hd : decide ((k : Int) < 64) = true := by simp; omega
          obtain ⟨g, o, rfl, hgl⟩ := Reads.addr' hrd.out (by omega)
          have HN : Hid (rnds ws s (k + 1) = rnd (rnds ws s k) (shaK.getD k 0) (ws.getD k 0)) := hide rfl
          have Kk : Hid (∀ W, Below wr.heap.size wr W → W.cell? ⟨wz.heap.size, k, none⟩ = some (c32 (shaK.getD k 0))) := hide (fun W h => CK.out W k (below_next hB6.out h) hlt)
          have Kw : Hid (∀ W, Below wr.heap.size wr W → W.cell? ⟨gw, ow + k, none⟩ = some (c32 (ws.getD k 0))) := hide (fun W h => CW.out W k (below_next hB6.out h) hlt)
          have Kv : ∀ i W, i < 8 → Below wr.heap.size wr W → W.cell? ⟨g, o + i, none⟩ = some (c32 ((rnds ws s k).list.getD i 0)) := fun i W hi h => (hrd.out.below h).word hi
          generalize shaK.getD k 0 = KK at *
          generalize ws.getD k 0 = WW at *
          generalize rnds ws s k = v at *
          obtain ⟨va, vb, vc, vd, ve, vf, vg, vh⟩ := v
          have K0 : Hid (∀ W, Below wr.heap.size wr W → W.cell? ⟨g, o, none⟩ = some (c32 va)) := hide (fun W h => Kv 0 W (by omega) h)
          have K1 : Hid (∀ W, Below wr.heap.size wr W → W.cell? ⟨g, o + 1, none⟩ = some (c32 vb)) := hide (fun W h => Kv 1 W (by omega) h)
          have K2 : Hid (∀ W, Below wr.heap.size wr W → W.cell? ⟨g, o + 2, none⟩ = some (c32 vc)) := hide (fun W h => Kv 2 W (by omega) h)
          have K3 : Hid (∀ W, Below wr.heap.size wr W → W.cell? ⟨g, o + 3, none⟩ = some (c32 vd)) := hide (fun W h => Kv 3 W (by omega) h)
          have K4 : Hid (∀ W, Below wr.heap.size wr W → W.cell? ⟨g, o + 4, none⟩ = some (c32 ve)) := hide (fun W h => Kv 4 W (by omega) h)
          have K5 : Hid (∀ W, Below wr.heap.size wr W → W.cell? ⟨g, o + 5, none⟩ = some (c32 vf)) := hide (fun W h => Kv 5 W (by omega) h)
          have K6 : Hid (∀ W, Below wr.heap.size wr W → W.cell? ⟨g, o + 6, none⟩ = some (c32 vg)) := hide (fun W h => Kv 6 W (by omega) h)
          have K7 : Hid (∀ W, Below wr.heap.size wr W → W.cell? ⟨g, o + 7, none⟩ = some (c32 vh)) := hide (fun W h => Kv 7 W (by omega) h)
          have c0 := K0.out wr (Below.refl _ _)
          have c4 := K4.out wr (Below.refl _ _)
          have T1 : Hid (RefTurns ve 6 6) := hide (turns_quiet (refright_6 ve))
          have T2 : Hid (RefTurns ve 11 11) := hide (turns_quiet (refright_11 ve))
          have T3 : Hid (RefTurns ve 25 25) := hide (turns_quiet (refright_25 ve))
          have T4 : Hid (RefTurns va 2 2) := hide (turns_quiet (refright_2 va))
          have T5 : Hid (RefTurns va 13 13) := hide (turns_quiet (refright_13 va))
          have T6 : Hid (RefTurns va 22 22) := hide (turns_quiet (refright_22 va))
          have KB : Hid (Below wr.heap.size wr wr) := hide (Below.refl _ _)
          clear Kv hrd hbk CW CK
          go_wp2_with (go_at_call 123; (first | with_reducible refine (T1.out _).mono ?_ | with_reducible refine (T2.out _).mono ?_ | with_reducible refine (T3.out _).mono ?_ | with_reducible refine (T4.out _).mono ?_ | with_reducible refine (T5.out _).mono ?_ | with_reducible refine (T6.out _).mono ?_); rintro e W3 ⟨rfl, hbq⟩; replace KB := hide (below_next KB.out hbq); clear hbq)
          clear T1 T2 T3 T4 T5 T6 c0 c4 hd
          have X1 : Hid (bits .xor .u32 (bits .xor .u32 ((rotr ve 6).toNat : Int) ((rotr ve 11).toNat : Int)) ((rotr ve 25).toNat : Int) = ((bg1 ve).toNat : Int)) := hide (by rw [xor_u32, xor_u32]; rfl)
          have X0 : Hid (bits .xor .u32 (bits .xor .u32 ((rotr va 2).toNat : Int) ((rotr va 13).toNat : Int)) ((rotr va 22).toNat : Int) = ((bg0 va).toNat : Int)) := hide (by rw [xor_u32, xor_u32]; rfl)
          simp only [X1.out, X0.out]
          clear X1 X0
          have c1 := K1.out W3 KB.out
          have c2 := K2.out W3 KB.out
          have c5 := K5.out W3 KB.out
          have c6 := K6.out W3 KB.out
          have c7 := K7.out W3 KB.out
          have ck := Kk.out W3 KB.out
          have cw := Kw.out W3 KB.out
          have hd0 : (0 : Int) ≤ (k : Int) := by omega
          have hd1 : (k : Int) < 64 := by omega
          go_quiet (fail)
          go_wp2_with fail
          have E1 : Hid ((((vh.toNat : Int) + ((bg1 ve).toNat : Int) + bits .xor .u32 (bits .and .u32 (ve.toNat : Int) (vf.toNat : Int)) (bits .and .u32 (bits .xor .u32 4294967295 (ve.toNat : Int)) (vg.toNat : Int)) + (KK.toNat : Int)) % 4294967296 + (WW.toNat : Int)) % 4294967296 = ((t1Of ⟨va, vb, vc, vd, ve, vf, vg, vh⟩ KK WW).toNat : Int)) := hide (t1_ref va vb vc vd ve vf vg vh KK WW)
          simp only [E1.out]
          clear E1 c1 c2 c5 c6 c7 ck cw hd0 hd1
          replace KB : Hid (Below wr.heap.size wr (W3.drewN nq)) := hide (below_drewN KB.out nq)
          generalize W3.drewN nq = W6 at *
          have c1 := K1.out W6 KB.out
          have c2 := K2.out W6 KB.out
          go_quiet (fail)
          go_wp2_with fail
          have E2 : Hid ((((bg0 va).toNat : Int) + bits .xor .u32 (bits .xor .u32 (bits .and .u32 (va.toNat : Int) (vb.toNat : Int)) (bits .and .u32 (va.toNat : Int) (vc.toNat : Int))) (bits .and .u32 (vb.toNat : Int) (vc.toNat : Int))) % 4294967296 = ((t2Of ⟨va, vb, vc, vd, ve, vf, vg, vh⟩).toNat : Int)) := hide (t2_ref va vb vc vd ve vf vg vh)
          simp only [E2.out]
          clear E2 c1 c2
          replace KB : Hid (Below wr.heap.size wr (W6.drewN nq)) := hide (below_drewN KB.out nq)
          generalize W6.drewN nq = W7 at *
          have HN2 : Hid (rnds ws s (k + 1) = ⟨t1Of ⟨va, vb, vc, vd, ve, vf, vg, vh⟩ KK WW + t2Of ⟨va, vb, vc, vd, ve, vf, vg, vh⟩, va, vb, vc, vd + t1Of ⟨va, vb, vc, vd, ve, vf, vg, vh⟩ KK WW, ve, vf, vg⟩) := hide (HN.out.trans rfl)
          clear HN
          generalize t1Of ⟨va, vb, vc, vd, ve, vf, vg, vh⟩ KK WW = U1 at *
          generalize t2Of ⟨va, vb, vc, vd, ve, vf, vg, vh⟩ = U2 at *
          apply wp_region_relT 22 (C := fun W => Below W7.heap.size W7 W) (M := fun W W' => Below W.heap.size W W') (ss := [_, _, _, _, _, _, _, _, _, _, _, _, _, _, _, _, _, _, _, _, _, _]) (by kernel_rfl) (by kernel_rfl) (by kernel_rfl) (by kernel_rfl) (Below.refl _ _).drew
          simp only [List.take_succ_cons, List.take_zero, List.drop_succ_cons, List.drop_zero]
          iterate 22
            apply relWalk_const (fun W => Below.refl _ _)
            · intro W hC hF
              clear hF
              have c1 := K1.out W (below_next KB.out hC)
              have c2 := K2.out W (below_next KB.out hC)
              have c3 := K3.out W (below_next KB.out hC)
              have c5 := K5.out W (below_next KB.out hC)
              have c6 := K6.out W (below_next KB.out hC)
              go_simp
              with_reducible exact rfl
            (try simp only [Act.put, List.setIfInBounds_toArray, List.set_cons_zero, List.set_cons_succ])
          apply relWalk_nil
          intro W hC hF
          simp only [wrap_add]
          have BW := below_next hB6.out (below_next KB.out hC)
          clear hF hC KB K0 K1 K2 K3 K4 K5 K6 K7 Kk Kw hB6 hgl
          have n1 : Hid (Reads (W.alloc (.cells ((V8.mk (U1 + U2) va vb vc (vd + U1) ve vf vg).list.map c32).toArray 22)) (W.alloc (.cells ((V8.mk (U1 + U2) va vb vc (vd + U1) ve vf vg).list.map c32).toArray 22)).heap.size 1 (some ⟨W.heap.size, 0, none⟩) 8 ((V8.mk (U1 + U2) va vb vc (vd + U1) ve vf vg).list.map c32)) := hide ((Reads.new W 22 ((V8.mk (U1 + U2) va vb vc (vd + U1) ve vf vg).list.map c32).toArray).more (by simp))
          have n2 : Hid (Blk (W.alloc (.cells ((V8.mk (U1 + U2) va vb vc (vd + U1) ve vf vg).list.map c32).toArray 22)) W.heap.size 22 ((V8.mk (U1 + U2) va vb vc (vd + U1) ve vf vg).list.map c32).toArray) := hide (Blk.new W _ _)
          have n3 := hide (BW.alloc BW.size (.cells ((V8.mk (U1 + U2) va vb vc (vd + U1) ve vf vg).list.map c32).toArray 22))
          have HS := BW.size
          clear BW
          go_wp2
          go_roundw
          case rel => exact ⟨k + 1, some ⟨W.heap.size, 0, none⟩, 8, hlt, int_succ k, rfl, hide (by rw [HN2.out]; exact n1.out), hide (fun _ => ⟨W.heap.size, rfl, HS, by rw [HN2.out]; exact n2.out⟩), n3⟩
          case measure => simp [intOf]; omega
        · obtain rfl : k = 64 := by omega
          have hd : decide (((64 : Nat) : Int) < 64) = false := rfl
          obtain ⟨g, rfl, hgg, D⟩ := hbk.out (by omega)
          obtain ⟨v, hv⟩ : ∃ v, v = rnds ws s 64 := ⟨_, rfl⟩
          have HV : Hid (takeV s bs = addV v s) := hide (by
            rw [hv]
            refine HW.out.trans ?_
            simp only [addV, BitVec.add_comm])
          rw [← hv] at D
          have B0 := hide (BA.out.trans (hB6.out.mono BA.out.size))
          have hgw0 : w.heap.size ≤ g := Nat.le_trans BA.out.size hgg
          obtain ⟨g0, o0, rfl, hg0⟩ := Reads.addr' hs.out (by omega)
          have CS : Hid (∀ W k, Below w.heap.size w W → k < 8 → W.cell? ⟨g0, o0 + k, none⟩ = some (c32 (s.list.getD k 0))) := hide (fun W k h hk => (hs.out.below h).word hk)
          have D0 : Hid (Blk wr g 22 ((addRow v.list s.list 0).map c32).toArray) := hide D
          clear hv D hrd hbk hB6 CW CK BA HW hk hlt hgw R0 hs hr
          go_wp2
          clear hd
          go_loopw [21] (fun i wr => ∃ k : Nat, k ≤ 8 ∧ i = .int .i64 (k : Int) ∧ Hid (Blk wr g 22 ((addRow v.list s.list k).map c32).toArray) ∧ Hid (Below w.heap.size w wr)) (fun i _ => 8 - (intOf i).toNat)
          case atStart => exact ⟨0, by omega, rfl, D0, B0⟩
          case round =>
            obtain ⟨k, hk, rfl, E3, E0⟩ := hrel
            clear D0 B0
            by_cases hlt : k < 8
            · have hd : decide ((k : Int) < 8) = true := by simp; omega
              go_wp2_with fail
              clear hd
              have gl := E3.out.lt
              have cx : wr.cell? ⟨g, k, none⟩ = some (c32 (v.list.getD k 0)) := by
                refine (E3.out.cell k).trans ?_
                simp [addRow, hlt]
              have hnx := hide (addRow_next v.list s.list k hlt)
              have Kx : Hid (∀ W, Below wr.heap.size wr W → W.cell? ⟨g, k, none⟩ = some (c32 (v.list.getD k 0))) := hide (fun W h => (h.cell (p := ⟨g, k, none⟩) gl).trans cx)
              have Ky : Hid (∀ W, Below wr.heap.size wr W → W.cell? ⟨g0, o0 + k, none⟩ = some (c32 (s.list.getD k 0))) := hide (fun W h => CS.out W k (below_next E0.out h) hlt)
              generalize v.list.getD k 0 = x at *
              generalize s.list.getD k 0 = y at *
              clear cx
              have hk0 : (0 : Int) ≤ (k : Int) := by omega
              have hk1 : (k : Int) < 8 := by omega
              apply wp_region_relT 12 (C := fun W => Below wr.heap.size wr W) (M := fun W W' => Below W.heap.size W W') (ss := [_, _, _, _, _, _, _, _, _, _, _, _]) (by kernel_rfl) (by kernel_rfl) (by kernel_rfl) (by kernel_rfl) (Below.refl _ _).drew
              simp only [List.take_succ_cons, List.take_zero, List.drop_succ_cons, List.drop_zero]
              iterate 12
                apply relWalk_const (fun W => Below.refl _ _)
                · intro W hC hF
                  clear hF
                  have cx := Kx.out W hC
                  have cy := Ky.out W hC
                  go_simp
                  with_reducible exact rfl
                (try simp only [Act.put, List.setIfInBounds_toArray, List.set_cons_zero, List.set_cons_succ])
              apply relWalk_nil
              intro W hC hF
              simp only [wrap_add]
              have D3 := E3.out.below hC gl
              have D0 := below_next E0.out hC
              have hcell := Kx.out W hC
              have hfr := D3.frozen k
              have n3 := D3.set_ k (c32 (x + y))
              rw [hnx.out] at n3
              have n0 := hide (D0.setCell (p := ⟨g, k, none⟩) hgw0 (c32 (x + y)))
              replace n3 := hide n3
              clear hF hC hnx E3 E0 Kx Ky D3 D0
              go_wp2
              go_roundw
              case rel => exact ⟨k + 1, hlt, int_succ k, n3, n0⟩
              case measure => simp [intOf]; omega
            · obtain rfl : k = 8 := by omega
              have hd : decide (((8 : Nat) : Int) < 8) = false := rfl
              have hE := E3.out
              rw [addRow_all] at hE
              go_wp2
              go_ret
              refine ⟨_, _, rfl, ?_, E0.out⟩
              rw [HV.out]
              exact hE.reads
end Go.Proofs.Ytccpkafmbmkmfaa
