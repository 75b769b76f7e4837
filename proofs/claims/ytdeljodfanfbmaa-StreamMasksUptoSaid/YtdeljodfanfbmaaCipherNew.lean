/- Package cipher's New. No condition. -/
import Derived.Test.YtdeljodfanfbmaaCipherExpand
namespace Go.Proofs.Ytdeljodfanfbmaa
open Go.RowKit Go.Shelf
set_option linter.unusedVariables false
set_option linter.unusedSimpArgs false
attribute [local go_sem] Gives givesUpon
attribute [local irreducible] Gives

def cipherCells (ks : List (BitVec 8)) (p : Value) : List Value := ks.map c8 ++ [p]
/-- at a block stands a cipher of these round keys -/
def CipherIs (w : World) (g : Nat) (ks : List (BitVec 8)) : Prop := ks.length = 240 ∧ ∃ gb, Blk w g 61 (cipherCells ks (.pointer (some ⟨gb, 0, none⟩))).toArray ∧ IsBox w gb
theorem CipherIs.below {w w' : World} {g : Nat} {ks : List (BitVec 8)} (h : CipherIs w g ks) (hb : Below w.heap.size w w') : CipherIs w' g ks := by
  obtain ⟨h0, gb, h1, h2⟩ := h
  exact ⟨h0, gb, h1.below hb h1.lt, h2.below hb h2.lt⟩
theorem bytesOf_dropN : ∀ (k : Nat) (l : List (BitVec 32)), bytesOf (l.drop k) = (bytesOf l).drop (4 * k)
  | 0, l => rfl
  | k + 1, [] => by simp [bytesOf]
  | k + 1, x :: l => by rw [List.drop_succ_cons, bytesOf_dropN k l]; rfl
theorem bytesOf_takeN : ∀ (k : Nat) (l : List (BitVec 32)), bytesOf (l.take k) = (bytesOf l).take (4 * k)
  | 0, l => by simp [bytesOf]
  | k + 1, [] => by simp [bytesOf]
  | k + 1, x :: l => by
    rw [List.take_succ_cons]
    show bytes4 x ++ bytesOf (l.take k) = (bytes4 x ++ bytesOf l).take (4 * (k + 1))
    rw [bytesOf_takeN k l]; rfl
theorem key_part (L : List (BitVec 32)) (r : Nat) : bytesOf ((L.drop (4 * r)).take 4) = ((bytesOf L).drop (16 * r)).take 16 := by
  rw [bytesOf_takeN, bytesOf_dropN, ← Nat.mul_assoc]
theorem splice_mid {α : Type} (A D cs : List α) : splice (A ++ D) A.length cs = A ++ (cs ++ D.drop cs.length) := by
  rw [splice, List.take_left, ← List.drop_drop, List.drop_left]
theorem keys_next (X Z : List (BitVec 8)) (p : Value) (n : Nat) (hX : X.length = 240) (hZ : Z.length = 240) (hn : n + 16 ≤ 240) :
    splice (cipherCells (half X Z n) p) n (((X.drop n).take 16).map c8) = cipherCells (half X Z (n + 16)) p := by
  have e1 : ((X.take n).map c8).length = n := by rw [List.length_map, List.length_take]; omega
  have e2 : (((X.drop n).take 16).map c8).length = 16 := by rw [List.length_map, List.length_take, List.length_drop]; omega
  have e3 : X.take (n + 16) = X.take n ++ (X.drop n).take 16 := List.take_add
  have h := splice_mid ((X.take n).map c8) ((Z.drop n).map c8 ++ [p]) (((X.drop n).take 16).map c8)
  rw [e1, e2, List.drop_append_of_le_length (by rw [List.length_map, List.length_drop]; omega), ← List.map_drop, List.drop_drop] at h
  rw [cipherCells, cipherCells, half, half, e3, List.map_append, List.append_assoc, h]
  simp only [List.map_append, List.append_assoc]
theorem built_cipher (gb : Nat) : Try.prog.built 61 [(1, .pointer (some ⟨gb, 0, none⟩))] = some (cipherCells (List.replicate 240 0#8) (.pointer (some ⟨gb, 0, none⟩))).toArray := by kernel_rfl
theorem wrapsK : IntKind.i64.wrap 8 = 8 ∧ IntKind.i64.wrap 9 = 9 ∧ IntKind.i64.wrap 10 = 10 ∧ IntKind.i64.wrap 11 = 11 ∧ IntKind.i64.wrap 12 = 12 ∧ IntKind.i64.wrap 13 = 13 ∧ IntKind.i64.wrap 14 = 14 ∧ IntKind.i64.wrap 15 = 15 ∧ IntKind.i64.wrap 16 = 16 ∧ IntKind.i64.wrap 20 = 20 ∧ IntKind.i64.wrap 24 = 24 ∧ IntKind.i64.wrap 28 = 28 ∧ IntKind.i64.wrap 32 = 32 ∧ IntKind.i64.wrap 36 = 36 ∧ IntKind.i64.wrap 40 = 40 ∧ IntKind.i64.wrap 44 = 44 ∧ IntKind.i64.wrap 48 = 48 ∧ IntKind.i64.wrap 52 = 52 ∧ IntKind.i64.wrap 56 = 56 ∧ IntKind.i64.wrap 60 = 60 := by decide
/-- words stand one behind the other -/
def WordsAt (w : World) (g o : Nat) (L : List (BitVec 32)) : Prop := g < w.heap.size ∧ ∀ (j : Nat) (x : BitVec 32), L[j]? = some x → w.cell? ⟨g, o + j, none⟩ = some (c32 x)
theorem WordsAt.below {w w' : World} {g o : Nat} {L : List (BitVec 32)} (h : WordsAt w g o L) (hb : Below w.heap.size w w') : WordsAt w' g o L :=
  ⟨Nat.lt_of_lt_of_le h.1 hb.size, fun j x hx => (hb.cell (p := ⟨g, o + j, none⟩) h.1).trans (h.2 j x hx)⟩
theorem WordsAt.setRow {w : World} {g o k : Nat} {L : List (BitVec 32)} (h : WordsAt w g o L) (hk : g ≠ k) (cs : Array Value) : WordsAt (w.setRow k cs) g o L :=
  ⟨by simp [World.setRow]; exact h.1, fun j x hx => (World.cell?_of_block (setRow_other w k g cs hk)).trans (h.2 j x hx)⟩
theorem WordsAt.part {w : World} {g o : Nat} {L : List (BitVec 32)} (h : WordsAt w g o L) (k : Nat) (hk : k + 4 ≤ L.length) : Reads w w.heap.size 1 (some ⟨g, o + k, none⟩) 4 (((L.drop k).take 4).map c32) := by
  refine ⟨by rw [List.length_map, List.length_take, List.length_drop]; omega, fun _ => ⟨_, rfl, h.1, fun j u hu => ?_⟩⟩
  obtain ⟨x, hx, rfl⟩ : ∃ x, ((L.drop k).take 4)[j]? = some x ∧ c32 x = u := by
    rw [List.getElem?_map] at hu
    cases hv : ((L.drop k).take 4)[j]? with
    | none => rw [hv] at hu; cases hu
    | some x => rw [hv] at hu; exact ⟨x, rfl, by injection hu⟩
  have hj : j < 4 := by have := (List.getElem?_eq_some_iff.1 hx).1; rw [List.length_take] at this; omega
  rw [List.getElem?_take_of_lt hj, List.getElem?_drop] at hx
  rw [Addr.add_lit, Nat.add_assoc]
  exact h.2 _ _ hx
theorem IsBox.setRow {w : World} {g k : Nat} (h : IsBox w g) (hk : g ≠ k) (cs : Array Value) : IsBox (w.setRow k cs) g := by
  obtain ⟨c0, h1, h2⟩ := h
  exact ⟨c0, h1.setRow_far _ hk, h2⟩
set_option maxRecDepth 100000 in
set_option maxHeartbeats 400000 in
theorem ciphernew_no (A : Option Addr) (n c : Nat) (hn : n ≠ 32) (w : World) :
    Calls Try.prog 34 #[.slice A n c] w fun e w' => e = .returned (.tuple #[.pointer none, .int .i64 1]) ∧ w = w' := by
  have h1 : ((n : Int) == 32) = false := by simp; omega
  have h2 : ((n : Int) != 32) = true := by simp; omega
  go_enter Try.func34, Try.ntmps34
  go_wp2
  go_ret2
  exact ⟨rfl, rfl⟩
set_option maxRecDepth 100000 in
set_option maxHeartbeats 12800000 in
theorem ciphernew_any (A : Option Addr) (c : Nat) (key : List (BitVec 8)) (w : World) (hr : Reads w w.heap.size 1 A 32 (key.map c8)) (hc : 32 ≤ c) :
    Calls Try.prog 34 #[.slice A 32 c] w fun e w' => ∃ g, e = .returned (.tuple #[.pointer (some ⟨g, 0, none⟩), .int .i64 0]) ∧ w.heap.size ≤ g ∧ CipherIs w' g (keysOf sub8 key) ∧ Below w.heap.size w w' := by
  have kl : key.length = 32 := hr.len
  obtain ⟨X, hX⟩ : ∃ X, X = keysOf sub8 key := ⟨_, rfl⟩
  obtain ⟨L, hL⟩ : ∃ L, L = expandN sub8 (wordsOf key) 52 := ⟨_, rfl⟩
  have hXl : X.length = 240 := by rw [hX]; exact keysOf_len sub8 key kl
  have hwl : (wordsOf key).length = 8 := wordsOf_length key 8 (by omega)
  have hLl : L.length = 60 := by rw [hL, expandN_len, hwl]
  have HXL : Hid (X = bytesOf L) := hide (by rw [hX, hL]; rfl)
  obtain ⟨Z, hZ⟩ : ∃ Z : List (BitVec 8), Z = List.replicate 240 0#8 := ⟨_, rfl⟩
  have hZl : Z.length = 240 := by rw [hZ]; simp
  have HBu : Hid (∀ gb, Try.prog.built 61 [(1, .pointer (some ⟨gb, 0, none⟩))] = some (cipherCells (half X Z 0) (.pointer (some ⟨gb, 0, none⟩))).toArray) := hide (fun gb => by rw [half_zero, hZ]; exact built_cipher gb)
  have HR := hide hr
  rw [← hX]
  replace hX := hide hX
  replace hL := hide hL
  replace hZ := hide hZ
  replace hXl := hide hXl
  replace hLl := hide hLl
  replace hZl := hide hZl
  replace hwl := hide hwl
  replace kl := hide kl
  clear hr
  go_enter Try.func34, Try.ntmps34
  go_wp2_with (first
    | (go_at_call 25; (with_reducible refine (boxnew_any w).mono ?_); rintro e w1 ⟨gb, rfl, hgb, hbx, hb1⟩; obtain ⟨C, hC⟩ : ∃ C, C = (cipherCells (half X Z 0) (.pointer (some ⟨gb, 0, none⟩))).toArray := ⟨_, rfl⟩; have HBU := hide (HBu.out gb); rw [← hC] at HBU; have HC := hide hC; have HBX := hide hbx; have B1 := hide hb1; have HGB := hide hgb; clear hC hbx hb1 hgb)
    | ((with_reducible show wpList _ _ _ (⟨_, .build _ _, _, _, _, _⟩ :: _) _ _); refine wpList_build_is rfl _ _ rfl C (by exact HBU.out) ?_)
    | (go_at_call 58; have BA := B1.out.alloc B1.out.size (.cells C 61); (with_reducible refine (words_any A 32 8 c key _ (HR.out.later BA) (by omega) (by omega) hc).mono ?_); rintro e w2 ⟨A2, c2, rfl, own2, hb2⟩; have HO2 := hide own2; have B2 := hide (below_next BA hb2); have HB2 := hide hb2; have K1 := hide ((Blk.new w1 61 C).below hb2 (by simp)); have hcell : w2.cell? ⟨w1.heap.size, 240, none⟩ = some (.pointer (some ⟨gb, 0, none⟩)) := (by refine (K1.out.cell 240).trans ?_; rw [HC.out]; simp only [cipherCells, List.getElem?_toArray]; rw [List.getElem?_append_right (by rw [List.length_map, half_len X Z 0 240 hXl.out hZl.out (by omega)]; omega), List.length_map, half_len X Z 0 240 hXl.out hZl.out (by omega)]; rfl); have HX2 := hide ((HBX.out.below (Below.refl _ _ |>.alloc (Nat.le_refl _) (.cells C 61)) HBX.out.lt).below hb2 (by have := HBX.out.lt; simp; omega)); clear BA own2 hb2)
    | (go_at_call 59; (with_reducible refine (expand_any (w1.alloc (.cells C 61)).heap.size gb (wordsOf key) hwl.out A2 c2 w2 HB2.out.size (by have := HBX.out.lt; simp; omega) HX2.out HO2.out).mono ?_); rintro e w3 ⟨A3, c3, rfl, own3, hb3⟩; have HO3 := hide own3; have HB3 := hide hb3; clear own3 hb3 hcell)
    | fail)
  have lb := HBX.out.lt
  have la : (w1.alloc (.cells C 61)).heap.size = w1.heap.size + 1 := by simp
  have hgw : w.heap.size ≤ w1.heap.size := B1.out.size
  rw [la] at HO3 HB3
  have l2 : w1.heap.size + 1 ≤ w2.heap.size := by have := HB2.out.size; rw [la] at this; exact this
  have K3 := K1.out.below HB3.out (by omega)
  rw [HC.out] at K3
  have HX3 := HX2.out.below HB3.out (by omega)
  have B3 := B2.out.trans (HB3.out.mono (by omega))
  rw [← hL.out] at HO3
  have HR3 := Reads.of_own HO3.out
  have hcap := own_cap HO3.out
  obtain ⟨ga, oa, rfl, hga⟩ := reads_at HR3 (by omega)
  have hne : ga ≠ w1.heap.size := fun e => own_ne HO3.out (g := w1.heap.size) (by omega) (by rw [← e]; rfl)
  have HWA : Hid (WordsAt w3 ga oa L) := hide ⟨hga, fun j x hx => reads_cell HR3 hx⟩
  have hgb : gb ≠ w1.heap.size := by omega
  replace K3 := hide K3
  replace HX3 := hide HX3
  replace B3 := hide B3
  replace hne := hide hne
  replace hgb := hide hgb
  clear HO3 HB3 HB2 B2 K1 HX2 HO2 HR3 HC HBU HBX B1 HGB la HBu HR
  go_loopw [25] (fun v wr => ∃ r : Nat, r ≤ 15 ∧ v = .int .i64 (r : Int) ∧ Hid (Blk wr w1.heap.size 61 (cipherCells (half X Z (16 * r)) (.pointer (some ⟨gb, 0, none⟩))).toArray) ∧ Hid (WordsAt wr ga oa L) ∧ Hid (IsBox wr gb) ∧ Hid (Below w.heap.size w wr)) (fun v _ => 15 - (intOf v).toNat)
  case atStart => exact ⟨0, by omega, rfl, K3, HWA, HX3, B3⟩
  case round =>
    obtain ⟨r, hr, rfl, P0, P1, P2, HP⟩ := hrel
    clear K3 HWA HX3 B3
    by_cases hlt : r < 15
    · have hd : decide ((r : Int) < 15) = true := by simp; omega
      obtain ⟨kb, hkb⟩ : ∃ kb, kb = (X.drop (16 * r)).take 16 := ⟨_, rfl⟩
      have hkl : kb.length = 16 := by rw [hkb, List.length_take, List.length_drop, hXl.out]; omega
      have HN1 := hide (keys_next X Z (.pointer (some ⟨gb, 0, none⟩)) (16 * r) hXl.out hZl.out (by omega))
      rw [← hkb] at HN1
      have HT : Hid (∀ W, Blk W w1.heap.size 61 (cipherCells (half X Z (16 * r)) (.pointer (some ⟨gb, 0, none⟩))).toArray → WordsAt W ga oa L → IsBox W gb → Below w.heap.size w W →
          Blk (W.setRow w1.heap.size (cipherCells (half X Z (16 * r + 16)) (.pointer (some ⟨gb, 0, none⟩))).toArray) w1.heap.size 61 (cipherCells (half X Z (16 * (r + 1))) (.pointer (some ⟨gb, 0, none⟩))).toArray ∧
          WordsAt (W.setRow w1.heap.size (cipherCells (half X Z (16 * r + 16)) (.pointer (some ⟨gb, 0, none⟩))).toArray) ga oa L ∧ IsBox (W.setRow w1.heap.size (cipherCells (half X Z (16 * r + 16)) (.pointer (some ⟨gb, 0, none⟩))).toArray) gb ∧
          Below w.heap.size w (W.setRow w1.heap.size (cipherCells (half X Z (16 * r + 16)) (.pointer (some ⟨gb, 0, none⟩))).toArray)) := hide fun W h1 h2 h3 h4 =>
        ⟨h1.setRow_ _, h2.setRow hne.out _, h3.setRow hgb.out _, below_setRow h4 hgw _⟩
      have HCall : Hid (∀ W, Below wr.heap.size wr W → ∀ cc, Calls Try.prog 60 #[.slice (some ⟨ga, oa + 4 * r, none⟩) 4 cc] W fun e w' => ∃ A' c', e = .returned (.slice A' 16 c') ∧ w'.ownsRow W.heap.size 5 1 (.slice A' 16 c') 16 (kb.map c8) ∧ Below W.heap.size W w') := hide fun W h cc => by
        have h2 := bytes_any (some ⟨ga, oa + 4 * r, none⟩) 4 cc ((L.drop (4 * r)).take 4) W ((P1.out.below h).part (4 * r) (by rw [hLl.out]; omega)) (by omega)
        rw [key_part, ← HXL.out, ← hkb] at h2
        exact h2
      have hcl : (cipherCells (half X Z (16 * r)) (.pointer (some ⟨gb, 0, none⟩))).length = 241 := by rw [cipherCells, List.length_append, List.length_map, half_len X Z _ 240 hXl.out hZl.out (by omega)]; rfl
      have HFit : Hid (16 * r + (kb.map c8).length ≤ (cipherCells (half X Z (16 * r)) (.pointer (some ⟨gb, 0, none⟩))).length) := hide (by rw [hcl, List.length_map, hkl]; omega)
      have HKL := hide hkl
      have lw := P0.out.lt
      clear hcl hkb hkl
      have hq1 : ((4 * (r + 1) : Nat) : Int) ≤ (c3 : Int) := by omega
      have ww := wraps64
      have wk := wrapsK
      have hcs : (4 : Int) ≤ (c3 : Int) ∧ (8 : Int) ≤ (c3 : Int) ∧ (12 : Int) ≤ (c3 : Int) ∧ (16 : Int) ≤ (c3 : Int) ∧ (20 : Int) ≤ (c3 : Int) ∧ (24 : Int) ≤ (c3 : Int) ∧ (28 : Int) ≤ (c3 : Int) ∧ (32 : Int) ≤ (c3 : Int) ∧ (36 : Int) ≤ (c3 : Int) ∧ (40 : Int) ≤ (c3 : Int) ∧ (44 : Int) ≤ (c3 : Int) ∧ (48 : Int) ≤ (c3 : Int) ∧ (52 : Int) ≤ (c3 : Int) ∧ (56 : Int) ≤ (c3 : Int) ∧ (60 : Int) ≤ (c3 : Int) := by omega
      have hcn : ¬ c3 = 0 ∧ ¬ c3 = 4 ∧ ¬ c3 = 8 ∧ ¬ c3 = 12 ∧ ¬ c3 = 16 ∧ ¬ c3 = 20 ∧ ¬ c3 = 24 ∧ ¬ c3 = 28 ∧ ¬ c3 = 32 ∧ ¬ c3 = 36 ∧ ¬ c3 = 40 ∧ ¬ c3 = 44 ∧ ¬ c3 = 48 ∧ ¬ c3 = 52 ∧ ¬ c3 = 56 := by omega
      rcases (by omega : r = 0 ∨ r = 1 ∨ r = 2 ∨ r = 3 ∨ r = 4 ∨ r = 5 ∨ r = 6 ∨ r = 7 ∨ r = 8 ∨ r = 9 ∨ r = 10 ∨ r = 11 ∨ r = 12 ∨ r = 13 ∨ r = 14) with rfl | rfl | rfl | rfl | rfl | rfl | rfl | rfl | rfl | rfl | rfl | rfl | rfl | rfl | rfl
      all_goals
        go_wp2_with (apply wp_region_relT 14 (C := fun W => Below wr.heap.size wr W) (M := fun W W' => Below W.heap.size W W') (ss := [_, _, _, _, _, _, _, _, _, _, _, _, _, _]) (by kernel_rfl) (by kernel_rfl) (by kernel_rfl) (by kernel_rfl) (Below.refl _ _).drew)
        simp only [List.take_succ_cons, List.take_zero, List.drop_succ_cons, List.drop_zero]
        repeat (first
          | (apply relWalk_const (fun W => Below.refl _ _)
             · (intro W hC hF
                clear hF
                go_simp
                with_reducible exact rfl)
             (try simp only [Act.put, List.setIfInBounds_toArray, List.set_cons_zero, List.set_cons_succ])))
        apply relWalk_rel (fun v => ∃ A c, v = .slice A 16 c) (SliceOf8 16 kb) ⟨_, none, 0, rfl⟩ (fun v w w' hb h => SliceOf8.later v w w' hb h)
        · exact wanted_none _ rfl
        · intro W hC hF
          clear hF
          refine gives_call rfl [.slice (some ⟨ga, _, none⟩) 4 _] rfl (enters_of Try.func60 (by kernel_rfl) rfl) ?_
          refine (HCall.out W hC _).mono ?_
          rintro e w' ⟨A4, c4, rfl, own4, hb4⟩
          exact ⟨_, rfl, ⟨A4, c4, rfl⟩, ⟨rfl, Reads.of_own own4⟩, below_next hC hb4, hb4⟩
        rintro v' ⟨A4, c4, rfl⟩
        (try simp only [Act.put, List.setIfInBounds_toArray, List.set_cons_zero, List.set_cons_succ])
        apply relWalk_nil
        intro W hC hF
        have r4 := hF.1.2
        clear hF
        have s0 := P0.out.below hC lw
        have s1 := P1.out.below hC
        have s2 := P2.out.below hC P2.out.lt
        have s3 := HP.out.trans (hC.mono (by omega))
        obtain ⟨ad, rfl, _, hcells⟩ := r4.2 (by omega)
        refine wpList_copy_to HN1.out rfl (.tmp 33) (.tmp 41) 51 51 rfl 5 Try.underlying51 (by kernel_rfl) w1.heap.size 16 16 ad 16 c4 rfl rfl 61 s0 (by rw [List.length_map, HKL.out]; rfl) (fun j v hv => hcells j v hv) HFit.out (oneCell_c8 kb) ?_
        obtain ⟨G0, G1, G2, G3⟩ := HT.out W s0 s1 s2 s3
        replace G0 := hide G0
        replace G1 := hide G1
        replace G2 := hide G2
        replace G3 := hide G3
        clear s0 s1 s2 s3 r4 hcells hC HT HN1 HFit P0 P1 P2 HP
        go_wp2
        go_roundw
        case rel => exact ⟨_, hlt, int_succ _, G0, G1, G2, G3⟩
        case measure => decide
    · obtain rfl : r = 15 := by omega
      have hd : decide ((15 : Int) < 15) = false := by decide
      rw [show 16 * 15 = 240 from rfl, half_all X Z 240 hXl.out hZl.out] at P0
      clear P1
      go_wp2
      go_ret2
      exact ⟨w1.heap.size, rfl, hgw, ⟨hXl.out, gb, P0.out, P2.out⟩, HP.out⟩
end Go.Proofs.Ytdeljodfanfbmaa
