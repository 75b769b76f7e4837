/- The walk of CipherEncrypts. No condition. -/
import Derived.Test.YtdeljodfanfbmaaCipherRefs
import Derived.Test.YtdeljodfanfbmaaCipherAlive
namespace Go.Proofs.Ytdeljodfanfbmaa
open Go.RowKit Go.Shelf
set_option linter.unusedVariables false
set_option linter.unusedSimpArgs false
attribute [local go_sem] Gives givesUpon
attribute [local irreducible] Gives

/-- the document's cipher, as a value -/
def RefC (ws : List (BitVec 32)) (v : Value) (W : World) : Prop := ∃ AW AT cw ct, v = .agg #[.slice AW 60 cw, .slice AT 256 ct] ∧ 60 ≤ cw ∧ Reads W W.heap.size 1 AW 60 (ws.map c32) ∧ Reads W W.heap.size 1 AT 256 (tabL.map c8)
theorem RefC.later {ws : List (BitVec 32)} (v : Value) (w w' : World) (hb : Below w.heap.size w w') (h : RefC ws v w) : RefC ws v w' := by
  obtain ⟨AW, AT, cw, ct, h1, h2, h3, h4⟩ := h
  exact ⟨AW, AT, cw, ct, h1, h2, h3.later hb, h4.later hb⟩
theorem Blk.block8 {w : World} {g : Nat} {l : List (BitVec 8)} {R : Array Value} (h : Blk w g 46 R) (hR : BVal l R) : Reads w w.heap.size 1 (some ⟨g, 0, none⟩) 16 (l.map c8) :=
  ⟨by simp [hR.len], fun _ => ⟨_, rfl, h.lt, fun j v hv => by rw [Addr.add_lit, Nat.zero_add, h.cell, hR.val, List.getElem?_toArray]; exact hv⟩⟩
theorem Blk.key8 {w : World} {g : Nat} {t : TypeId} {l : List (BitVec 8)} (h : Blk w g t (l.map c8).toArray) (hl : l.length = 32) : Reads w w.heap.size 1 (some ⟨g, 0, none⟩) 32 (l.map c8) :=
  ⟨by simp [hl], fun _ => ⟨_, rfl, h.lt, fun j v hv => by rw [Addr.add_lit, Nat.zero_add, h.cell, List.getElem?_toArray]; exact hv⟩⟩
set_option maxRecDepth 100000 in
set_option maxHeartbeats 3200000 in
theorem cipherEncrypts_core (w : World) (key b : List (BitVec 8)) (KV V : Array Value) (hkl : key.length = 32) (hKV : KV = (key.map c8).toArray) (hV : BVal b V) :
    Calls Try.prog 9 #[.agg KV, .agg V] w fun e w' => e = .returned (.bool true) ∧ Below w.heap.size w w' := by
  obtain ⟨Z, hZ, hZv⟩ := zeroB
  have bl := hV.len
  obtain ⟨ks, hks⟩ : ∃ ks, ks = keysOf sub8 key := ⟨_, rfl⟩
  have ksl : ks.length = 240 := by rw [hks]; exact keysOf_len sub8 key hkl
  obtain ⟨x, hx⟩ : ∃ x, x = encN sub8 ks b 14 := ⟨_, rfl⟩
  obtain ⟨y, hy⟩ : ∃ y, y = decN ks b 14 := ⟨_, rfl⟩
  have xl : x.length = 16 := by rw [hx]; exact encN_len _ _ _ _ bl ksl (by omega)
  have yl : y.length = 16 := by rw [hy]; exact decN_len _ _ _ bl ksl (by omega)
  obtain ⟨X, hX⟩ := bVal x xl
  obtain ⟨Y, hY⟩ := bVal y yl
  obtain ⟨W0, hW0, sz, p0, p1, hB⟩ := blks2 w 44 46 KV V
  have HR0 : Hid (Reads W0 W0.heap.size 1 (some ⟨w.heap.size, 0, none⟩) 32 (key.map c8)) := hide ((hKV ▸ p0).key8 hkl)
  have HEb : Hid (∀ (g : Nat) (W : World), CipherIs W g ks → Calls Try.prog 35 #[.pointer (some ⟨g, 0, none⟩), .agg V] W fun e w' => e = .returned (.agg X) ∧ Below W.heap.size W w') := hide fun g W h => by rw [hX.val, hx]; exact encrypt_any g ks b V hV W h
  have HDb : Hid (∀ (g : Nat) (W : World), CipherIs W g ks → Calls Try.prog 36 #[.pointer (some ⟨g, 0, none⟩), .agg V] W fun e w' => e = .returned (.agg Y) ∧ Below W.heap.size W w') := hide fun g W h => by rw [hY.val, hy]; exact decrypt_any g ks b V hV W h
  have HDx : Hid (∀ (g : Nat) (W : World), CipherIs W g ks → Calls Try.prog 36 #[.pointer (some ⟨g, 0, none⟩), .agg X] W fun e w' => e = .returned (.agg V) ∧ Below W.heap.size W w') := hide fun g W h => by
    have h2 := decrypt_any g ks x X hX W h
    rw [hx, dec_enc _ _ 14 bl ksl (by omega), ← hV.val] at h2; exact h2
  have HEy : Hid (∀ (g : Nat) (W : World), CipherIs W g ks → Calls Try.prog 35 #[.pointer (some ⟨g, 0, none⟩), .agg Y] W fun e w' => e = .returned (.agg V) ∧ Below W.heap.size W w') := hide fun g W h => by
    have h2 := encrypt_any g ks y Y hY W h
    rw [hy, enc_dec _ _ 14 bl ksl (by omega), ← hV.val] at h2; exact h2
  have HN : Hid (Calls Try.prog 34 #[.slice (some ⟨w.heap.size, 0, none⟩) 32 32] W0 fun e w' => ∃ g, e = .returned (.tuple #[.pointer (some ⟨g, 0, none⟩), .int .i64 0]) ∧ CipherIs w' g ks ∧ Below W0.heap.size W0 w') := hide (by
    refine (ciphernew_any _ 32 key W0 HR0.out (by omega)).mono ?_
    rintro e w' ⟨g, rfl, _, h1, h2⟩
    exact ⟨g, rfl, by rw [hks]; exact h1, h2⟩)
  have heq : ∀ W : World, (Op.equalIn 10000 46 (.agg V) (.agg V)).run Try.prog W = .ok true W := fun W => by
    have h := eq_block b b bl bl W
    rw [← hV.val] at h
    rw [h]; simp
  have HEQ := hide heq
  obtain ⟨ws, hws⟩ : ∃ ws, ws = expandN sub8 (wordsOf key) 52 := ⟨_, rfl⟩
  have HRN : Hid (∀ W : World, Below W0.heap.size W0 W → Calls Try.prog 38 #[.slice (some ⟨w.heap.size, 0, none⟩) 32 32] W fun e w' => ∃ v, e = .returned v ∧ (∃ AW AT cw ct, v = .agg #[.slice AW 60 cw, .slice AT 256 ct]) ∧ RefC ws v w' ∧ Below W.heap.size W w') := hide fun W h => by
    refine (refnew06_any _ 32 key W ((HR0.out.below h).more h.size)).mono ?_
    rintro e w' ⟨AW, AT, cw, ct, rfl, h1, h2, h3, h4⟩
    exact ⟨_, rfl, ⟨AW, AT, cw, ct, rfl⟩, ⟨AW, AT, cw, ct, rfl, h1, by rw [hws]; exact h2, h3⟩, h4⟩
  have HRE : Hid (∀ (v : Value) (W : World), Below W0.heap.size W0 W → RefC ws v W → Calls Try.prog 37 #[v, .slice (some ⟨w.heap.size + 1, 0, none⟩) 16 16] W fun e w' => ∃ A c, e = .returned (.slice A 16 c) ∧ Reads w' w'.heap.size 1 A 16 (x.map c8) ∧ Below W.heap.size W w') := hide fun v W h hr => by
    obtain ⟨AW, AT, cw, ct, rfl, h1, h2, h3⟩ := hr
    have hq := refenc06_any AW AT _ cw ct 16 ws b W h2 h1 h3 ((p1.below h (by omega)).block8 hV)
    have e : bytesOf ws = ks := by rw [hws, hks]; rfl
    rw [e, ← hx] at hq
    refine hq.mono ?_
    rintro e w' ⟨A', c', rfl, own, hb⟩
    exact ⟨A', c', rfl, Reads.of_own own, hb⟩
  have Q1 := hide p1
  have HB := hide hB
  replace hV := hide hV
  replace hX := hide hX
  replace hY := hide hY
  replace hZ := hide hZ
  replace hZv := hide hZv
  replace hW0 := hide hW0
  replace sz := hide sz
  clear hkl hKV bl hks ksl hx hy xl yl p0 p1 hB heq hws
  go_enter Try.func9, Try.ntmps9
  go_upto_region 5 with (first
    | (rw [hW0.out]; go_at_call 34; (with_reducible refine HN.out.mono ?_); rintro e w1 ⟨g, rfl, hc1, hb1⟩; have C1 := hide hc1; have B1 := hide hb1; have V1 := hide (Q1.out.below hb1 Q1.out.lt); clear hc1 hb1)
    | ((with_reducible show wpList _ _ _ (⟨some 21, .load 46 _, _, _, _, _⟩ :: _) _ _); refine wpList_load_row rfl 46 _ rfl (w.heap.size + 1) rfl 46 V (0, 0) _ V1.out Try.underlying46 rfl hV.out.info ?_)
    | (go_at_call 35; (with_reducible refine (HEb.out g w1 C1.out).mono ?_); rintro e w2 ⟨rfl, hb2⟩; have B2 := hide (B1.out.trans (hb2.mono B1.out.size)); have C2 := hide (C1.out.below hb2); have V2 := hide (V1.out.below hb2 V1.out.lt); have L2 := hide hb2.size; clear hb2)
    | ((with_reducible show wpList _ _ _ (⟨some 7, .alloc _, _, _, _, _⟩ :: _) _ _); refine wpList_alloc_is rfl 46 rfl Z hZ.out ?_; have K7 := hide (Blk.new w2 46 Z); have B7 := hide (B2.out.alloc B2.out.size (.cells Z 46)); have C7 := hide (C2.out.below ((Below.refl _ _).alloc (Nat.le_refl _) (.cells Z 46))); have V7 := hide (V2.out.alloc (.cells Z 46)))
    | ((with_reducible show wpList _ _ _ (⟨_, .store _ (.tmp 7) _, _, _, _, _⟩ :: _) _ _); refine wpList_store_row rfl 46 _ _ rfl w2.heap.size rfl X rfl 46 _ K7.out hX.out.info (by rw [hZv.out.size, hX.out.size]) hX.out.one ?_)
    | fail)
  have l2 : W0.heap.size ≤ w2.heap.size := B2.out.size
  have k2 := C2.out.lt
  have v2 := V2.out.lt
  have HX8 := hide (K7.out.setRow_ X)
  have B8 := hide (below_setRow B7.out l2 X)
  have hrow : Below w2.heap.size w2 ((w2.alloc (.cells Z 46)).setRow w2.heap.size X) := below_setRow ((Below.refl w2.heap.size w2).alloc (Nat.le_refl _) (.cells Z 46)) (Nat.le_refl _) X
  have C8 : Hid (CipherIs ((w2.alloc (.cells Z 46)).setRow w2.heap.size X) g ks) := hide (C2.out.below hrow)
  have V8 := hide (V2.out.below hrow v2)
  clear hrow
  (try simp only [Act.put, List.setIfInBounds_toArray, List.set_cons_zero, List.set_cons_succ])
  obtain ⟨W3, hW3⟩ : ∃ W3, W3 = (w2.alloc (.cells Z 46)).setRow w2.heap.size X := ⟨_, rfl⟩
  rw [← hW3] at HX8 B8 C8 V8 ⊢
  clear hW3 K7 B7 C7 V7 C2 V2 C1 V1
  go_wp2_with (first
    | ((with_reducible show wpList _ _ _ (⟨some 24, .load 46 _, _, _, _, _⟩ :: _) _ _); refine wpList_load_row rfl 46 _ rfl (w.heap.size + 1) rfl 46 V (0, 0) _ V8.out Try.underlying46 rfl hV.out.info ?_)
    | (go_at_call 36; (with_reducible refine (HDb.out g W3 C8.out).mono ?_); rintro e w4 ⟨rfl, hb4⟩; have B4 := hide (B8.out.trans (hb4.mono B8.out.size)); have C4 := hide (C8.out.below hb4); have V4 := hide (V8.out.below hb4 V8.out.lt); have X4 := hide (HX8.out.below hb4 HX8.out.lt); clear hb4)
    | ((with_reducible show wpList _ _ _ (⟨some 8, .alloc _, _, _, _, _⟩ :: _) _ _); refine wpList_alloc_is rfl 46 rfl Z hZ.out ?_; have K7 := hide (Blk.new w4 46 Z); have B7 := hide (B4.out.alloc B4.out.size (.cells Z 46)))
    | ((with_reducible show wpList _ _ _ (⟨_, .store _ (.tmp 8) _, _, _, _, _⟩ :: _) _ _); refine wpList_store_row rfl 46 _ _ rfl w4.heap.size rfl Y rfl 46 _ K7.out hY.out.info (by rw [hZv.out.size, hY.out.size]) hY.out.one ?_)
    | fail)
  have l4 : W0.heap.size ≤ w4.heap.size := B4.out.size
  have v4 := V4.out.lt
  have HY9 := hide (K7.out.setRow_ Y)
  have B9 := hide (below_setRow B7.out l4 Y)
  have hrow : Below w4.heap.size w4 ((w4.alloc (.cells Z 46)).setRow w4.heap.size Y) := below_setRow ((Below.refl w4.heap.size w4).alloc (Nat.le_refl _) (.cells Z 46)) (Nat.le_refl _) Y
  have hall := hrow
  have C9 : Hid (CipherIs ((w4.alloc (.cells Z 46)).setRow w4.heap.size Y) g ks) := hide (C4.out.below hall)
  have V9 := hide (V4.out.below hall v4)
  have X9 := hide (X4.out.below hall X4.out.lt)
  clear hrow hall
  (try simp only [Act.put, List.setIfInBounds_toArray, List.set_cons_zero, List.set_cons_succ])
  obtain ⟨W5, hW5⟩ : ∃ W5, W5 = (w4.alloc (.cells Z 46)).setRow w4.heap.size Y := ⟨_, rfl⟩
  rw [← hW5] at HY9 B9 C9 V9 X9 ⊢
  clear hW5 K7 B7 C4 V4 X4 C8 V8 HX8
  have HVi := hide hV.out.info
  have HXi := hide hX.out.info
  have HYi := hide hY.out.info
  have l5 := B9.out.size
  have HB9 := hide (HB.out.trans (B9.out.mono HB.out.size))
  have S1 : Hid (∀ W, Below W5.heap.size W5 W → Sem.run Try.prog (convert 51 9 (.slice (some ⟨w2.heap.size, 0, none⟩) 16 16)) W = .ok (.string (strOf x)) W) := hide fun W h =>
    run_str W _ _ _ Try.underlying51 Try.underlying5 Try.underlying9 _ _ _ _ _ ((X9.out.below h X9.out.lt).block8 hX.out)
  have GDX : Hid (∀ W, Below W5.heap.size W5 W → Calls Try.prog 36 #[.pointer (some ⟨g, 0, none⟩), .agg X] W fun e w' => e = .returned (.agg V) ∧ Below W.heap.size W w') := hide fun W h => HDx.out g W (C9.out.below h)
  have GEY : Hid (∀ W, Below W5.heap.size W5 W → Calls Try.prog 35 #[.pointer (some ⟨g, 0, none⟩), .agg Y] W fun e w' => e = .returned (.agg V) ∧ Below W.heap.size W w') := hide fun W h => HEy.out g W (C9.out.below h)
  have GAL : Hid (∀ W, Below W5.heap.size W5 W → Calls Try.prog 39 #[] W fun e w' => e = .returned (.bool true) ∧ Below W.heap.size W w') := hide fun W _ => alive06_any W
  have HBW : Hid (∀ W, Below W5.heap.size W5 W → Below W0.heap.size W0 W) := hide fun W h => B9.out.trans (h.mono l5)
  apply wp_region_relT 25 (C := fun W => Below W5.heap.size W5 W) (M := fun W W' => Below W.heap.size W W') (ss := [_, _, _, _, _, _, _, _, _, _, _, _, _, _, _, _, _, _, _, _, _, _, _, _, _]) (by kernel_rfl) (by kernel_rfl) (by kernel_rfl) (by kernel_rfl) (Below.refl _ _).drew
  simp only [List.take_succ_cons, List.take_zero, List.drop_succ_cons, List.drop_zero]
  repeat (first
    | (apply relWalk_const (fun W => Below.refl _ _)
       · (intro W hC hF
          clear hF
          have s9 := S1.out W hC
          go_simp
          with_reducible exact rfl)
       (try simp only [Act.put, List.setIfInBounds_toArray, List.set_cons_zero, List.set_cons_succ])))
  refine relWalk_rel (fun v => ∃ AW AT cw ct, v = .agg #[.slice AW 60 cw, .slice AT 256 ct]) (RefC ws) ⟨_, none, none, 0, 0, rfl⟩ (fun v w w' hb h => RefC.later v w w' hb h) (wanted_none _ rfl) ?_ ?_
  · intro W hC hF
    refine gives_call rfl [.slice (some ⟨w.heap.size, 0, none⟩) 32 32] rfl (enters_of Try.func38 (by kernel_rfl) rfl) ?_
    refine (HRN.out W (HBW.out W hC)).mono ?_
    rintro e w' ⟨v, rfl, h1, h2, hb⟩
    exact ⟨_, rfl, h1, h2, below_next hC hb, hb⟩
  rintro v ⟨AW, AT, cw, ct, rfl⟩
  (try simp only [Act.put, List.setIfInBounds_toArray, List.set_cons_zero, List.set_cons_succ])
  repeat (first
    | (apply relWalk_const (fun W => Below.refl _ _)
       · (intro W hC hF
          clear hF
          go_simp
          with_reducible exact rfl)
       (try simp only [Act.put, List.setIfInBounds_toArray, List.set_cons_zero, List.set_cons_succ])))
  refine relWalk_rel (fun v => ∃ A c, v = .slice A 16 c) (SliceOf8 16 x) ⟨_, none, 0, rfl⟩ (fun v w w' hb h => SliceOf8.later v w w' hb h) (wanted_none _ rfl) ?_ ?_
  · intro W hC hF
    have hq := hF.1 (by kernel_rfl)
    refine gives_call rfl [.agg #[.slice AW 60 cw, .slice AT 256 ct], .slice (some ⟨w.heap.size + 1, 0, none⟩) 16 16] rfl (enters_of Try.func37 (by kernel_rfl) rfl) ?_
    refine (HRE.out _ W (HBW.out W hC) hq).mono ?_
    rintro e w' ⟨A4, c4, rfl, hr4, hb⟩
    exact ⟨_, rfl, ⟨A4, c4, rfl⟩, ⟨rfl, hr4⟩, below_next hC hb, hb⟩
  rintro v ⟨A4, c4, rfl⟩
  (try simp only [Act.put, List.setIfInBounds_toArray, List.set_cons_zero, List.set_cons_succ])
  apply relWalk_const (fun W => Below.refl _ _)
  · intro W hC hF
    have h4 := run_str (P := Try.prog) W _ _ _ Try.underlying51 Try.underlying5 Try.underlying9 _ _ _ c4 _ (hF.1 (by kernel_rfl)).2
    clear hF
    go_simp
    exact rfl
  (try simp only [Act.put, List.setIfInBounds_toArray, List.set_cons_zero, List.set_cons_succ])
  repeat (first
    | (apply relWalk_const (fun W => Below.refl _ _)
       · (intro W hC hF
          clear hF
          go_simp
          with_reducible exact rfl)
       (try simp only [Act.put, List.setIfInBounds_toArray, List.set_cons_zero, List.set_cons_succ])))
  apply relWalk_const (fun W => Below.refl _ _)
  · intro W hC hF
    rw [if_pos]
    · exact gives_load_row 46 _ rfl w2.heap.size rfl 46 X (0, 0) _ (X9.out.below hC X9.out.lt) Try.underlying46 rfl HXi.out ⟨rfl, rfl⟩
    · rfl
  (try simp only [Act.put, List.setIfInBounds_toArray, List.set_cons_zero, List.set_cons_succ])
  refine relWalk_rel (fun v => v = .agg V) (fun _ _ => True) ⟨_, rfl⟩ (fun _ _ _ _ _ => trivial) (by rfl) ?_ ?_
  · intro W hC hF
    refine gives_call rfl [.pointer (some ⟨g, 0, none⟩), .agg X] rfl (enters_of Try.func36 (by kernel_rfl) rfl) ?_
    refine (GDX.out W hC).mono ?_
    rintro e w' ⟨rfl, hb⟩
    exact ⟨_, rfl, rfl, trivial, below_next hC hb, hb⟩
  rintro v rfl
  (try simp only [Act.put, List.setIfInBounds_toArray, List.set_cons_zero, List.set_cons_succ])
  apply relWalk_const (fun W => Below.refl _ _)
  · intro W hC hF
    rw [if_pos]
    · exact gives_load_row 46 _ rfl (w.heap.size + 1) rfl 46 V (0, 0) _ (V9.out.below hC V9.out.lt) Try.underlying46 rfl HVi.out ⟨rfl, rfl⟩
    · rfl
  (try simp only [Act.put, List.setIfInBounds_toArray, List.set_cons_zero, List.set_cons_succ])
  repeat (first
    | (apply relWalk_const (fun W => Below.refl _ _)
       · (intro W hC hF
          clear hF
          have q9 := HEQ.out W
          go_simp
          with_reducible exact rfl)
       (try simp only [Act.put, List.setIfInBounds_toArray, List.set_cons_zero, List.set_cons_succ])))
  apply relWalk_const (fun W => Below.refl _ _)
  · intro W hC hF
    rw [if_pos]
    · exact gives_load_row 46 _ rfl w4.heap.size rfl 46 Y (0, 0) _ (HY9.out.below hC HY9.out.lt) Try.underlying46 rfl HYi.out ⟨rfl, rfl⟩
    · rfl
  (try simp only [Act.put, List.setIfInBounds_toArray, List.set_cons_zero, List.set_cons_succ])
  refine relWalk_rel (fun v => v = .agg V) (fun _ _ => True) ⟨_, rfl⟩ (fun _ _ _ _ _ => trivial) (by rfl) ?_ ?_
  · intro W hC hF
    refine gives_call rfl [.pointer (some ⟨g, 0, none⟩), .agg Y] rfl (enters_of Try.func35 (by kernel_rfl) rfl) ?_
    refine (GEY.out W hC).mono ?_
    rintro e w' ⟨rfl, hb⟩
    exact ⟨_, rfl, rfl, trivial, below_next hC hb, hb⟩
  rintro v rfl
  (try simp only [Act.put, List.setIfInBounds_toArray, List.set_cons_zero, List.set_cons_succ])
  apply relWalk_const (fun W => Below.refl _ _)
  · intro W hC hF
    rw [if_pos]
    · exact gives_load_row 46 _ rfl (w.heap.size + 1) rfl 46 V (0, 0) _ (V9.out.below hC V9.out.lt) Try.underlying46 rfl HVi.out ⟨rfl, rfl⟩
    · rfl
  (try simp only [Act.put, List.setIfInBounds_toArray, List.set_cons_zero, List.set_cons_succ])
  repeat (first
    | (apply relWalk_const (fun W => Below.refl _ _)
       · (intro W hC hF
          clear hF
          have q9 := HEQ.out W
          go_simp
          with_reducible exact rfl)
       (try simp only [Act.put, List.setIfInBounds_toArray, List.set_cons_zero, List.set_cons_succ])))
  refine relWalk_rel (fun v => v = .bool true) (fun _ _ => True) ⟨_, rfl⟩ (fun _ _ _ _ _ => trivial) (by rfl) ?_ ?_
  · intro W hC hF
    refine gives_call rfl [] rfl (enters_of Try.func39 (by kernel_rfl) rfl) ?_
    refine (GAL.out W hC).mono ?_
    rintro e w' ⟨rfl, hb⟩
    exact ⟨_, rfl, rfl, trivial, below_next hC hb, hb⟩
  rintro v rfl
  (try simp only [Act.put, List.setIfInBounds_toArray, List.set_cons_zero, List.set_cons_succ])
  repeat (first
    | (apply relWalk_const (fun W => Below.refl _ _)
       · (intro W hC hF
          clear hF
          go_simp
          with_reducible exact rfl)
       (try simp only [Act.put, List.setIfInBounds_toArray, List.set_cons_zero, List.set_cons_succ])))
  apply relWalk_nil
  intro W hC hF
  clear hF
  have hend := hide (HB9.out.trans (hC.mono HB9.out.size))
  go_wp2
  go_ret
  exact ⟨rfl, hend.out⟩
theorem cipherEncrypts_walk (w : World) (b0 : List (BitVec 8)) (l0 : b0.length = 32) (b1 : List (BitVec 8)) (l1 : b1.length = 16) :
    Calls Try.prog 9 #[.agg (b0.map c8).toArray, .agg (b1.map c8).toArray] w fun e w' => e = .returned (.bool true) ∧ Below w.heap.size w w' := by
  obtain ⟨V1, h1⟩ := bVal b1 l1
  rw [← h1.val]
  exact cipherEncrypts_core w b0 b1 _ V1 l0 rfl h1
end Go.Proofs.Ytdeljodfanfbmaa
