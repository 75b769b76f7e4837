/- Package sha's Write: bytes are told. Condition: at most 2^40 bytes in all. -/
import Derived.Test.YtccpkafmbmkmfaaHash
namespace Go.Proofs.Ytccpkafmbmkmfaa
open Go.RowKit Go.Shelf
set_option linter.unusedVariables false
set_option linter.unusedSimpArgs false
attribute [local go_sem] Gives givesUpon
attribute [local irreducible] Gives

theorem Reads.apart {w w' : World} {n g : Nat} {A : Option Addr} {xs : List Value} (h : Reads w w.heap.size 1 A n xs) (hg : w.grownBy w' (some g)) (hA : 0 < n → ∀ ad, A = some ad → ad.block ≠ g) : Reads w' w'.heap.size 1 A n xs := by
  refine ⟨h.1, fun hn => ?_⟩
  obtain ⟨ad, e, hb, hc⟩ := h.2 hn
  refine ⟨ad, e, Nat.lt_of_lt_of_le hb hg.size, fun j u hu => ?_⟩
  exact (World.cell?_of_block (hg.block (ad.add j).block (by rw [block_of_add]; exact hb) (by rw [block_of_add]; intro e'; injection e' with e'; exact hA hn ad e e'))).trans (hc j u hu)
theorem gb_cell (w : World) (g i : Nat) (v : Value) : w.grownBy (w.setCell ⟨g, i, none⟩ v) (some g) :=
  ⟨rfl, rfl, rfl, by simp, fun k hk hne => heap_setCell_other w ⟨g, i, none⟩ k v (fun e => hne (by rw [e]))⟩
theorem gb_row (w : World) (g : Nat) (c : Array Value) : w.grownBy (w.setRow g c) (some g) :=
  ⟨rfl, rfl, rfl, by simp, fun k hk hne => setRow_other w g k c (fun e => hne (by rw [e]))⟩
theorem gb_trans {a b c : World} {row : Option Nat} (h : a.grownBy b row) (k : b.grownBy c row) : a.grownBy c row :=
  ⟨k.os.trans h.os, k.tape.trans h.tape, k.output.trans h.output, Nat.le_trans h.size k.size, fun i hi hne => (k.block i (Nat.lt_of_lt_of_le hi h.size) hne).trans (h.block i hi hne)⟩
theorem gb_below {a b c : World} {row : Option Nat} (h : a.grownBy b row) (k : Below b.heap.size b c) : a.grownBy c row :=
  ⟨k.os.trans h.os, k.tape.trans h.tape, k.output.trans h.output, Nat.le_trans h.size k.size, fun i hi hne => (k.block i (Nat.lt_of_lt_of_le hi h.size)).trans (h.block i hi hne)⟩
/-- a slice that reads as something stands in a row -/
theorem Reads.addr {w : World} {B n : Nat} {A : Option Addr} {l : List (BitVec 8)} (h : Reads w B 1 A n (l.map c8)) (hn : 0 < n) : ∃ g o, A = some ⟨g, o, none⟩ ∧ g < B := by
  obtain ⟨⟨g, o, sp⟩, rfl, hb, h0⟩ := h.get (k := 0) (by have := h.len; omega)
  have hs : sp = none := by
    have := World.cell?_spot h0
    simpa [Addr.add] using this
  subst hs
  exact ⟨g, o, rfl, hb⟩
theorem Reads.take_ {w : World} {B n k : Nat} {A : Option Addr} {l : List (BitVec 8)} (h : Reads w B 1 A n (l.map c8)) (hk : k ≤ n) : Reads w B 1 A k ((l.take k).map c8) := by
  refine ⟨by have := h.len; simp; omega, fun hn => ?_⟩
  obtain ⟨ad, e, hb, hc⟩ := h.2 (by omega)
  refine ⟨ad, e, hb, fun j u hu => hc j u ?_⟩
  have hj : j < k := by
    have := (List.getElem?_eq_some_iff.1 hu).1
    simp at this; omega
  rw [← hu, List.map_take, List.getElem?_take_of_lt hj]
theorem own_ge {w : World} {base n c : Nat} {e : TypeId} {A : Option Addr} {xs : List Value} (h : w.ownsRow base e 1 (.slice A n c) n xs) : ∀ ad, A = some ad → base ≤ ad.block ∧ ∃ cs, Blk w ad.block e cs := by
  intro ad he
  subst he
  rcases h.2 with ⟨h1, _⟩ | ⟨g, cap, cur, h1, h2, h3, _⟩
  · cases h1
  · cases h1; exact ⟨h2, cur, h3⟩
theorem oneCell_c8 (l : List (BitVec 8)) : ∀ u ∈ l.map c8, u.oneCell' = true := by
  intro v hv
  obtain ⟨x, _, rfl⟩ := List.mem_map.1 hv
  rfl
theorem gb_own {w W W' : World} {g base n : Nat} {e : TypeId} {v : Value} {xs : List Value} (h : w.grownBy W (some g)) (hown : W.ownsRow base e 1 v n xs) (hb : w.heap.size ≤ base) (hg : W.grownBy W' v.ownBlock) : w.grownBy W' (some g) :=
  ⟨hg.os.trans h.os, hg.tape.trans h.tape, hg.output.trans h.output, Nat.le_trans h.size hg.size, fun k hk hne => (hg.block k (Nat.lt_of_lt_of_le hk h.size) (own_ne hown (by omega))).trans (h.block k hk hne)⟩
set_option maxRecDepth 100000 in
set_option maxHeartbeats 800000 in
theorem write_any (g : Nat) (A : Option Addr) (n c : Nat) (bs b : List (BitVec 8)) (w : World) (hh : HashIs w g bs) (hr : Reads w w.heap.size 1 A n (b.map c8)) (hA : 0 < n → ∀ ad, A = some ad → ad.block ≠ g) (hb : bs.length + n ≤ 1099511627776) :
    Calls Try.prog 127 #[.pointer (some ⟨g, 0, none⟩), .slice A n c] w fun e w' => e = .returned (.int .i64 (n : Int)) ∧ HashIs w' g (bs ++ b) ∧ w.grownBy w' (some g) := by
  obtain ⟨i0, hi0, hz0, hz1, hz2⟩ := info_parts info_u8
  obtain ⟨A0, n0, c0, h1, h2, h3, h4⟩ := hh
  have hn0 : n0 = bs.length % 64 := by have := h2.len; rw [restOf_len] at this; omega
  have hnb : b.length = n := hr.len
  have hgs := h1.lt
  have x9 : w.cell? ⟨g, 9, none⟩ = some (.int .u64 (bs.length : Int)) := h1.cell 9
  have f9 := h1.frozen 9
  have x8 : (w.setCell ⟨g, 9, none⟩ (.int .u64 ((bs.length : Int) + (n : Int)))).cell? ⟨g, 8, none⟩ = some (.slice A0 n0 c0) := (h1.set_ 9 _).cell 8
  have hA0 : ∀ ad, A0 = some ad → ad.block ≠ g := fun ad e => by obtain ⟨cs, hcs⟩ := h4 ad e; exact Blk.ne_ hcs h1 (by decide)
  have h1' := h1.set_ 9 (.int .u64 ((bs.length + n : Nat) : Int))
  rw [hashCells_many] at h1'
  have hgb := gb_cell w g 9 (.int .u64 ((bs.length + n : Nat) : Int))
  have r0 := h2.apart hgb (fun _ => hA0)
  have r1 := hr.apart hgb hA
  have hn0' := hide hn0
  have hnb' := hide hnb
  have hl0 : n0 ≤ 63 := by omega
  clear hn0 hnb h1 h2 h4 hr hA hA0
  have ev : (Value.int .u64 ((bs.length : Int) + (n : Int))) = .int .u64 ((bs.length + n : Nat) : Int) := int_u64 (by omega)
  obtain ⟨W1, hW1⟩ : ∃ W1, w.setCell ⟨g, 9, none⟩ (.int .u64 ((bs.length : Int) + (n : Int))) = W1 := ⟨_, rfl⟩
  rw [← ev, hW1] at h1' hgb r0 r1
  replace hW1 := hide hW1
  replace h1' := hide h1'
  replace hgb := hide hgb
  clear ev
  go_enter Try.func127, Try.ntmps127
  go_wp2_with (first
    | (at_builtin; rw [hW1.out]; refine wpList_append_any W1 rfl (.const (.slice none 0 0)) (.tmp 21) 78 rfl w.heap.size 5 i0 _ 1 1 Try.underlying78 hi0 hz0 hz1 hz2 rfl (by omega) (.slice none 0 0) 0 [] rfl (World.ownsRow_nil _ _ _ _) _ A0 n0 c0 _ rfl r0 (oneCell_c8 _) (by simp only [maxLen]; omega) (by omega) hgb.out.size ?_; intro v2 W2 own2 grow2 _; have r2 := r1.grown grow2 (Nat.le_refl _) (by intro g' e; cases e); have r2' := r2.more (by simpa using grow2.size : W1.heap.size ≤ W2.heap.size); have gb2 := gb_own hgb.out (World.ownsRow_nil W1 w.heap.size 5 1) (Nat.le_refl _) grow2; have b2 := h1'.out.grown grow2 (by intro e; cases e); simp only [Nat.zero_add, List.nil_append] at own2; clear r1 r2 grow2 x8)
    | (at_builtin; refine wpList_append_any _ rfl (.tmp 22) (.tmp 23) 78 rfl w.heap.size 5 i0 _ 1 1 Try.underlying78 hi0 hz0 hz1 hz2 rfl (by omega) _ n0 _ rfl own2 _ A n c _ rfl r2' (oneCell_c8 _) (by simp only [maxLen]; omega) (by omega) gb2.size ?_; intro v3 W3 own3 grow3 _; have gb3 := gb_own gb2 own2 (Nat.le_refl _) grow3; have b3 := b2.grown grow3 (own_ne own2 (by omega)); clear own2 grow3 r2' b2))
  obtain ⟨A3, c3, rfl⟩ := own_slice own3
  have nc3 := own_cap own3
  have ge3 := own_ge own3
  have R3 := Reads.of_own own3
  rw [← List.map_append] at R3
  have R4 : Hid (Reads W3 W3.heap.size 1 A3 (n0 + n) (((toldOf bs b).drop (64 * 0)).map c8)) := hide R3
  have B4 : Hid (Blk W3 g 175 (hashCells (runV (stateV bs) (toldOf bs b) 0) (.slice A0 n0 c0) (bs.length + n))) := hide b3
  replace gb3 := hide gb3
  have ge4 : Hid (∀ ad, A3 = some ad → w.heap.size ≤ ad.block) := hide (fun ad e => (ge3 ad e).1)
  have HT : Hid ((toldOf bs b).length = n0 + n) := hide (by rw [toldOf_len, hn0'.out, hnb'.out])
  clear own3 R3 b3 ge3 r0 hW1 h1' hgb x9 f9
  go_loopw [5] (fun v wr => ∃ j A' m c', v = .slice A' m c' ∧ 64 * j + m = n0 + n ∧ m ≤ c' ∧ Hid (∀ ad, A' = some ad → w.heap.size ≤ ad.block) ∧ Hid (Reads wr wr.heap.size 1 A' m (((toldOf bs b).drop (64 * j)).map c8)) ∧
    Hid (Blk wr g 175 (hashCells (runV (stateV bs) (toldOf bs b) j) (.slice A0 n0 c0) (bs.length + n))) ∧ Hid (w.grownBy wr (some g))) (fun v _ => lenOf v)
  case atStart => exact ⟨0, A3, n0 + n, c3, rfl, by omega, nc3, ge4, R4, B4, gb3⟩
  case round =>
    obtain ⟨j, A', m, c', rfl, hjm, hmc, HG, HR, HBk, HGB⟩ := hrel
    clear R4 B4 gb3 ge4 nc3
    by_cases hge : 64 ≤ m
    · obtain ⟨bk, o, rfl, hbk⟩ := HR.out.addr (by omega)
      have hbg : w.heap.size ≤ bk := HG.out _ rfl
      have hd : decide ((64 : Int) ≤ (m : Int)) = true := by simp; omega
      have hb1 := HBk.out.lt
      have HN : Hid (runV (stateV bs) (toldOf bs b) (j + 1) = takeV (runV (stateV bs) (toldOf bs b) j) (((toldOf bs b).drop (64 * j)).take 64)) := hide rfl
      have hl64 : Hid ((((toldOf bs b).drop (64 * j)).take 64).length = 64) := hide (by simp; have := HT.out; omega)
      have HC := hide (HR.out.cut (k := 64) hge hmc)
      have HK := hide (HR.out.take_ hge)
      generalize hv : runV (stateV bs) (toldOf bs b) j = v at *
      replace hv := hide hv
      have HL : Hid (∀ W, Below wr.heap.size wr W → ∀ i u, (v.list.map c32)[i]? = some u → W.cell? ((⟨g, 0, none⟩ : Addr).add i) = some u) := hide (fun W h i u hu => by
        have hi : i < 8 := by have := (List.getElem?_eq_some_iff.1 hu).1; simpa [V8.list] using this
        rw [Addr.add_lit, h.cell (p := ⟨g, 0 + i, none⟩) hb1, HBk.out.cell (0 + i)]
        simp only [hashCells, Nat.zero_add, List.getElem?_toArray]
        rw [List.getElem?_append_left (by simpa [V8.list] using hi)]
        exact hu)
      by_cases hcap : c' = 64
      · subst hcap
        obtain rfl : m = 64 := by omega
        replace HC : Hid (Reads wr wr.heap.size 1 (some ⟨bk, o, none⟩) 0 (((toldOf bs b).drop (64 * (j + 1))).map c8)) := hide (by
          have h := HC.out
          rw [if_pos rfl, ← List.map_drop, List.drop_drop] at h
          exact h)
        go_wp2
        apply wp_region_relT 10 (C := fun W => Below wr.heap.size wr W) (M := fun W W' => Below W.heap.size W W') (ss := [_, _, _, _, _, _, _, _, _, _]) (by kernel_rfl) (by kernel_rfl) (by kernel_rfl) (by kernel_rfl) (Below.refl _ _).drew
        simp only [List.take_succ_cons, List.take_zero, List.drop_succ_cons, List.drop_zero]
        iterate 4
          apply relWalk_const (fun W => Below.refl _ _)
          · intro W hC hF
            clear hF
            go_simp
            with_reducible exact rfl
          (try simp only [Act.put, List.setIfInBounds_toArray, List.set_cons_zero, List.set_cons_succ])
        apply relWalk_const (c := .agg (v.list.map c32).toArray) (fun W => Below.refl _ _)
        · intro W hC hF
          clear hF
          rw [if_pos (wanted_none _ rfl)]
          exact gives_load_at 172 _ rfl ⟨g, 0, none⟩ rfl (v.list.map c32) _ Try.underlying172 rfl info_s (HL.out W hC) ⟨rfl, rfl⟩
        (try simp only [Act.put, List.setIfInBounds_toArray, List.set_cons_zero, List.set_cons_succ])
        iterate 2
          apply relWalk_const (fun W => Below.refl _ _)
          · intro W hC hF
            clear hF
            go_simp
            with_reducible exact rfl
          (try simp only [Act.put, List.setIfInBounds_toArray, List.set_cons_zero, List.set_cons_succ])
        apply relWalk_constW (c := .agg ((takeV v (((toldOf bs b).drop (64 * j)).take 64)).list.map c32).toArray)
        · exact wanted_none _ rfl
        · intro W hC hF
          clear hF
          refine gives_call rfl [.agg (v.list.map c32).toArray, .slice (some ⟨bk, o, none⟩) 64 64] rfl (enters_of Try.func130 (by kernel_rfl) rfl) ?_
          refine (take_any v _ 64 _ W (HK.out.later hC) (by omega)).mono ?_
          rintro e w' ⟨rfl, hb'⟩
          exact ⟨_, rfl, rfl, below_next hC hb', hb'⟩
        (try simp only [Act.put, List.setIfInBounds_toArray, List.set_cons_zero, List.set_cons_succ])
        iterate 2
          apply relWalk_const (fun W => Below.refl _ _)
          · intro W hC hF
            clear hF
            go_simp
            with_reducible exact rfl
          (try simp only [Act.put, List.setIfInBounds_toArray, List.set_cons_zero, List.set_cons_succ])
        apply relWalk_nil
        intro W hC _
        have D1 := HBk.out.below hC hb1
        have D2 := gb_below HGB.out hC
        have D3 := (HC.out.later hC)
        refine wpList_store_at rfl 172 _ _ rfl g 0 rfl ((takeV v (((toldOf bs b).drop (64 * j)).take 64)).list.map c32) rfl 175 _ D1 info_s (by simp [hashCells_size, V8.list]) (fun u hu => by obtain ⟨x, _, rfl⟩ := List.mem_map.1 hu; rfl) ?_
        rw [hashCells_state]
        have E1 := D1.setRow_ (hashCells (takeV v (((toldOf bs b).drop (64 * j)).take 64)) (.slice A0 n0 c0) (bs.length + n))
        have E2 := gb_trans D2 (gb_row W g (hashCells (takeV v (((toldOf bs b).drop (64 * j)).take 64)) (.slice A0 n0 c0) (bs.length + n)))
        have E3 := D3.apart (gb_row W g (hashCells (takeV v (((toldOf bs b).drop (64 * j)).take 64)) (.slice A0 n0 c0) (bs.length + n))) (by intro _ ad e; injection e with e; subst e; dsimp only; omega)
        generalize W.setRow g (hashCells (takeV v (((toldOf bs b).drop (64 * j)).take 64)) (.slice A0 n0 c0) (bs.length + n)) = W4 at *
        rw [← HN.out] at E1
        replace E1 := hide E1
        replace E2 := hide E2
        replace E3 := hide E3
        clear D1 D2 D3 hC HC HK HL HBk HGB HR hd
        go_wp2
        go_roundw
        case rel => exact ⟨j + 1, some ⟨bk, o, none⟩, 0, 0, rfl, by omega, by omega, hide (fun ad e => by injection e with e; subst e; exact hbg), E3, E1, E2⟩
        case measure => simp [lenOf]
      · have h64c : 64 < c' := by omega
        have i64 : (64 : Int) ≤ (c' : Int) := by omega
        have i64m : (64 : Int) ≤ (m : Int) := by omega
        replace HC : Hid (Reads wr wr.heap.size 1 (some ⟨bk, o + 64, none⟩) (m - 64) (((toldOf bs b).drop (64 * (j + 1))).map c8)) := hide (by
          have h := HC.out
          rw [if_neg hcap, ← List.map_drop, List.drop_drop] at h
          simp only [Option.map_some, Addr.add_lit] at h
          exact h)
        go_wp2
        apply wp_region_relT 10 (C := fun W => Below wr.heap.size wr W) (M := fun W W' => Below W.heap.size W W') (ss := [_, _, _, _, _, _, _, _, _, _]) (by kernel_rfl) (by kernel_rfl) (by kernel_rfl) (by kernel_rfl) (Below.refl _ _).drew
        simp only [List.take_succ_cons, List.take_zero, List.drop_succ_cons, List.drop_zero]
        iterate 4
          apply relWalk_const (fun W => Below.refl _ _)
          · intro W hC hF
            clear hF
            go_simp
            with_reducible exact rfl
          (try simp only [Act.put, List.setIfInBounds_toArray, List.set_cons_zero, List.set_cons_succ])
        apply relWalk_const (c := .agg (v.list.map c32).toArray) (fun W => Below.refl _ _)
        · intro W hC hF
          clear hF
          rw [if_pos (wanted_none _ rfl)]
          exact gives_load_at 172 _ rfl ⟨g, 0, none⟩ rfl (v.list.map c32) _ Try.underlying172 rfl info_s (HL.out W hC) ⟨rfl, rfl⟩
        (try simp only [Act.put, List.setIfInBounds_toArray, List.set_cons_zero, List.set_cons_succ])
        iterate 2
          apply relWalk_const (fun W => Below.refl _ _)
          · intro W hC hF
            clear hF
            go_simp
            with_reducible exact rfl
          (try simp only [Act.put, List.setIfInBounds_toArray, List.set_cons_zero, List.set_cons_succ])
        apply relWalk_constW (c := .agg ((takeV v (((toldOf bs b).drop (64 * j)).take 64)).list.map c32).toArray)
        · exact wanted_none _ rfl
        · intro W hC hF
          clear hF
          refine gives_call rfl [.agg (v.list.map c32).toArray, .slice (some ⟨bk, o, none⟩) 64 c'] rfl (enters_of Try.func130 (by kernel_rfl) rfl) ?_
          refine (take_any v _ c' _ W (HK.out.later hC) (by omega)).mono ?_
          rintro e w' ⟨rfl, hb'⟩
          exact ⟨_, rfl, rfl, below_next hC hb', hb'⟩
        (try simp only [Act.put, List.setIfInBounds_toArray, List.set_cons_zero, List.set_cons_succ])
        iterate 2
          apply relWalk_const (fun W => Below.refl _ _)
          · intro W hC hF
            clear hF
            go_simp
            with_reducible exact rfl
          (try simp only [Act.put, List.setIfInBounds_toArray, List.set_cons_zero, List.set_cons_succ])
        apply relWalk_nil
        intro W hC _
        have D1 := HBk.out.below hC hb1
        have D2 := gb_below HGB.out hC
        have D3 := (HC.out.later hC)
        refine wpList_store_at rfl 172 _ _ rfl g 0 rfl ((takeV v (((toldOf bs b).drop (64 * j)).take 64)).list.map c32) rfl 175 _ D1 info_s (by simp [hashCells_size, V8.list]) (fun u hu => by obtain ⟨x, _, rfl⟩ := List.mem_map.1 hu; rfl) ?_
        rw [hashCells_state]
        have E1 := D1.setRow_ (hashCells (takeV v (((toldOf bs b).drop (64 * j)).take 64)) (.slice A0 n0 c0) (bs.length + n))
        have E2 := gb_trans D2 (gb_row W g (hashCells (takeV v (((toldOf bs b).drop (64 * j)).take 64)) (.slice A0 n0 c0) (bs.length + n)))
        have E3 := D3.apart (gb_row W g (hashCells (takeV v (((toldOf bs b).drop (64 * j)).take 64)) (.slice A0 n0 c0) (bs.length + n))) (by intro _ ad e; injection e with e; subst e; dsimp only; omega)
        generalize W.setRow g (hashCells (takeV v (((toldOf bs b).drop (64 * j)).take 64)) (.slice A0 n0 c0) (bs.length + n)) = W4 at *
        rw [← HN.out] at E1
        replace E1 := hide E1
        replace E2 := hide E2
        replace E3 := hide E3
        clear D1 D2 D3 hC HC HK HL HBk HGB HR hd
        go_wp2
        go_roundw
        case rel => exact ⟨j + 1, some ⟨bk, o + 64, none⟩, m - 64, c' - 64, rfl, by omega, by omega, hide (fun ad e => by injection e with e; subst e; exact hbg), E3, E1, E2⟩
        case measure => simp [lenOf]; omega
    · have hd : decide ((64 : Int) ≤ (m : Int)) = false := by simp; omega
      have hj : (toldOf bs b).length / 64 = j := by have := HT.out; omega
      have HS : Hid (stateV (bs ++ b) = runV (stateV bs) (toldOf bs b) j) := hide (by rw [state_told, hj])
      have HQ : Hid (restOf (bs ++ b) = (toldOf bs b).drop (64 * j)) := hide (by rw [rest_told, hj])
      have HLn : Hid ((bs ++ b).length = bs.length + n) := hide (by rw [List.length_append, hnb'.out])
      clear hj HG
      go_wp2_with (at_builtin; refine wpList_append_any _ rfl (.const (.slice none 0 0)) (.tmp 41) 78 rfl w.heap.size 5 i0 _ 1 1 Try.underlying78 hi0 hz0 hz1 hz2 rfl (by omega) (.slice none 0 0) 0 [] rfl (World.ownsRow_nil _ _ _ _) _ A' m c' _ rfl HR.out (oneCell_c8 _) (by simp only [maxLen]; omega) (by omega) HGB.out.size ?_; intro v5 W5 own5 grow5 _; have gb5 := gb_own HGB.out (World.ownsRow_nil wr w.heap.size 5 1) (Nat.le_refl _) grow5; have b5 := HBk.out.grown grow5 (by intro e; cases e); simp only [Nat.zero_add, List.nil_append] at own5; obtain ⟨A5, c5, rfl⟩ := own_slice own5; have x8 : W5.cell? ⟨g, 8, none⟩ = some (.slice A0 n0 c0) := b5.cell 8; have f8 := b5.frozen 8; have q5 := hide own5; replace gb5 := hide gb5; replace b5 := hide b5; clear own5 grow5)
      go_ret
      have R5 := Reads.of_own q5.out
      have nc5 := own_cap q5.out
      have ge5 := own_ge q5.out
      have B6 := b5.out.set_ 8 (.slice A5 m c5)
      rw [hashCells_rest] at B6
      have hA5 : ∀ ad, A5 = some ad → ad.block ≠ g := fun ad e => by obtain ⟨_, cs, hcs⟩ := ge5 ad e; exact Blk.ne_ hcs b5.out (by decide)
      refine ⟨rfl, ⟨A5, m, c5, ?_, ?_, nc5, fun ad e => ?_⟩, gb_trans gb5.out (gb_cell _ _ _ _)⟩
      · rw [HS.out, HLn.out]; exact B6
      · rw [HQ.out]; exact R5.apart (gb_cell _ _ _ _) (fun _ => hA5)
      · obtain ⟨_, cs, hcs⟩ := ge5 ad e
        exact ⟨cs, hcs.far (fun e' => hA5 ad e e') _⟩
end Go.Proofs.Ytccpkafmbmkmfaa
