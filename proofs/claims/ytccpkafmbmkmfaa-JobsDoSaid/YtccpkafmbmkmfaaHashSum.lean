/- Package sha's (*Hash).Sum. Condition: at most 1099511627000 bytes were told. -/
import Derived.Test.YtccpkafmbmkmfaaHashEnd
namespace Go.Proofs.Ytccpkafmbmkmfaa
open Go.RowKit Go.Shelf
set_option linter.unusedVariables false
set_option linter.unusedSimpArgs false
attribute [local go_sem] Gives givesUpon
attribute [local irreducible] Gives

theorem stateV_padded (bs : List (BitVec 8)) : stateV (bs ++ tailOf bs.length) = shaV bs := rfl
theorem zero_id : ∃ Z : Array Value, (Try.prog.info? 70).map (·.zero) = some (some (.agg Z)) ∧ Z = (List.replicate 32 (c8 0)).toArray := ⟨(List.replicate 32 (c8 0)).toArray, by kernel_rfl, rfl⟩
theorem info_id : (Try.prog.info? 70).map (·.size) = some 32 := by kernel_rfl
theorem HashIs.state {w : World} {g : Nat} {bs : List (BitVec 8)} (h : HashIs w g bs) : Reads w w.heap.size 1 (some ⟨g, 0, none⟩) 8 ((stateV bs).list.map c32) := by
  obtain ⟨A, n, c, h1, _⟩ := h
  refine ⟨rfl, fun _ => ⟨_, rfl, h1.lt, fun j u hu => ?_⟩⟩
  have hj : j < 8 := by have := (List.getElem?_eq_some_iff.1 hu).1; simpa [V8.list] using this
  rw [Addr.add_lit, Nat.zero_add, h1.cell j]
  simp only [hashCells, List.getElem?_toArray]
  rw [List.getElem?_append_left (by simpa [V8.list] using hj)]
  exact hu
theorem splice_all {α : Type} (L cs : List α) (h : cs.length = L.length) : splice L 0 cs = cs := by simp [splice, h]
set_option maxRecDepth 100000 in
set_option maxHeartbeats 800000 in
theorem hashsum_core (p : Option Addr) (bs : List (BitVec 8)) (w : World) (hb : bs.length ≤ 1099511627000)
    (HC : Hid (∀ W, Below w.heap.size w W → (Calls Try.prog 131 #[.pointer p] W (MadeHash bs W)) ∨ ((Calls Try.prog 131 #[.pointer p] W fun e w' => e = .returned (.pointer none) ∧ W = w') ∧ bs = []))) :
    Calls Try.prog 128 #[.pointer p] w fun e w' => e = .returned (.agg ((shaOf bs).map c8).toArray) ∧ Below w.heap.size w w' := by
  obtain ⟨Z, hZ, hZr⟩ := zero_id
  obtain ⟨W0, hW0, sz0, q1, q2, hB0⟩ := blks2 w 70 70 Z Z
  obtain ⟨ZL, hZL⟩ : ∃ ZL, ZL = List.replicate 32 (c8 0) := ⟨_, rfl⟩
  obtain ⟨WL, hWL⟩ : ∃ WL, WL = (shaOf bs).map c8 := ⟨_, rfl⟩
  have hWLl : WL.length = 32 := by rw [hWL, List.length_map, shaOf_len]
  have HWL1 : Hid (∀ u ∈ WL, u.oneCell' = true) := hide (by rw [hWL]; exact oneCell_c8 _)
  have HI : Hid ((Try.prog.info? 70).map (·.size) = some WL.toArray.size) := hide (by simp only [List.size_toArray, hWLl]; exact info_id)
  have HWO : Hid (WL.toArray.all (·.oneCell') = true) := hide (by rw [hWL]; exact oneCell_bytes _)
  have htl : (tailOf bs.length).length ≤ 72 := by rw [tailOf_len]; omega
  rw [hZr, ← hZL] at q1 q2
  replace hZL := hide hZL
  replace hWL := hide hWL
  replace hWLl := hide hWLl
  replace hZ : Hid ((Try.prog.info? 70).map (·.zero) = some (some (.agg ZL.toArray))) := hide (by rw [hZL.out, ← hZr]; exact hZ)
  rw [hZr, ← hZL.out] at hW0
  replace hW0 := hide hW0
  clear hZr Z
  have key : ∀ (Q : Exit → Act → World → Prop) (rest : Code) (a : Act), True := fun _ _ _ => trivial
  clear key
  rcases HC.out W0 hB0 with hC | ⟨hC, rfl⟩
  · have HCl := hide hC
    clear hC HC
    go_enter Try.func128, Try.ntmps128
    go_wp2_with (first
      | (refine wpList_alloc_is rfl 70 rfl ZL.toArray hZ.out ?_)
      | (rw [hW0.out]; go_at_call 131; refine HCl.out.mono ?_; rintro e w1 ⟨g', rfl, hg', hh1, hb1⟩; have HH1 := hide hh1; have HB1 := hide hb1; have HG := hide hg'; clear hh1 hb1 hg')
      | (go_at_call 132; refine (end_any _ bs _ HH1.out (by omega)).mono ?_; rintro e w2 ⟨A2, m2, c2, rfl, own2, hb2⟩; have HH2 := hide (HH1.out.below hb2); have HB2 := hide (below_next HB1.out hb2); have HO2 := hide own2; have hm2 : m2 ≤ 72 := (by have h := own2.1; rw [List.length_map, tailOf_len] at h; omega); clear own2 hb2)
      | (go_at_call 127; refine (write_any g' A2 m2 c2 bs (tailOf bs.length) w2 HH2.out (Reads.of_own HO2.out) (fun _ ad e => by obtain ⟨_, cs, hcs⟩ := own_ge HO2.out ad e; obtain ⟨_, _, _, hk, _⟩ := HH2.out; exact Blk.ne_ hcs hk (by decide)) (by omega)).mono ?_; rintro e w3 ⟨rfl, hh3, gb3⟩; have HH3 := hide hh3; have GB3 := hide gb3; clear hh3 gb3))
    have hg' := HG.out
    rw [sz0] at hg'
    have hw2 := HB2.out.size
    have B3 : Below w.heap.size w w3 := (hB0.trans (HB2.out.mono (by omega))).grown GB3.out (by omega) (fun k e => by cases e; omega)
    have k1 := ((q1.below HB2.out (by omega)).grown GB3.out (by intro e; cases e; omega))
    have k2 := ((q2.below HB2.out (by omega)).grown GB3.out (by intro e; cases e; omega))
    have HS := HH3.out.state
    rw [stateV_padded] at HS
    replace B3 := hide B3
    replace k1 := hide k1
    replace k2 := hide k2
    replace HS := hide HS
    have hw3 : w.heap.size + 1 < w3.heap.size := k2.out.lt
    clear HH1 HB1 HG HH2 HB2 HO2 HH3 GB3 HCl q1 q2 hB0 hg' hm2 hw2 hW0 sz0
    apply wp_region_relT 6 (C := fun W => Below w3.heap.size w3 W) (M := fun W W' => Below W.heap.size W W') (ss := [_, _, _, _, _, _]) (by kernel_rfl) (by kernel_rfl) (by kernel_rfl) (by kernel_rfl) (Below.refl _ _).drew
    simp only [List.take_succ_cons, List.take_zero, List.drop_succ_cons, List.drop_zero]
    iterate 5
      apply relWalk_const (fun W => Below.refl _ _)
      · intro W hC hF
        clear hF
        go_simp
        with_reducible exact rfl
      (try simp only [Act.put, List.setIfInBounds_toArray, List.set_cons_zero, List.set_cons_succ])
    apply relWalk_rel (fun v => ∃ A c, v = .slice A 32 c) (SliceOf8 32 (shaOf bs)) ⟨_, none, 0, rfl⟩ (fun v w w' hb h => SliceOf8.later v w w' hb h)
    · exact wanted_none _ rfl
    · intro W hC hF
      clear hF
      refine gives_call rfl [.slice (some ⟨g', 0, none⟩) 8 8] rfl (enters_of Try.func133 (by kernel_rfl) rfl) ?_
      refine (bytes_any _ 8 8 _ W (HS.out.later hC) (by omega)).mono ?_
      rintro e w' ⟨A4, c4, rfl, own4, hb4⟩
      exact ⟨_, rfl, ⟨A4, c4, rfl⟩, ⟨rfl, Reads.of_own own4⟩, below_next hC hb4, hb4⟩
    rintro v' ⟨A4, c4, rfl⟩
    (try simp only [Act.put, List.setIfInBounds_toArray, List.set_cons_zero, List.set_cons_succ])
    apply relWalk_nil
    intro W hC hF
    have r4 := hF.1.2
    clear hF
    have j1 := k1.out.below hC (by omega)
    have j2 := k2.out.below hC (by omega)
    have B4 := B3.out.trans (hC.mono (by omega))
    refine wpList_copy_splice rfl (.tmp 14) (.tmp 19) 78 78 rfl 5 Try.underlying78 (by kernel_rfl) (some ⟨w.heap.size + 1, 0, none⟩) A4 32 32 32 c4 rfl rfl (w.heap.size + 1) 0 ZL 70 j2 WL (by rw [hWLl.out]; rfl) ?p1 (by rw [hWLl.out, hZL.out]; simp) HWL1.out (w.heap.size + 1) W (Below.refl _ _) (Nat.le_refl _) ?_
    case p1 =>
      intro _
      obtain ⟨ad, e, _, hc⟩ := r4.2 (by omega)
      exact ⟨rfl, ad, e, fun j v hv => hc j v (by rw [hWL.out] at hv; exact hv)⟩
    intro w4 hg4 hB4
    have HG4 : Hid (Blk w4 (w.heap.size + 1) 70 WL.toArray) := hide (by
      have := hg4.out
      rw [splice_all _ _ (by rw [hWLl.out, hZL.out]; simp)] at this
      exact this)
    have J1 := hide (j1.below hB4 (by omega))
    have B5 := hide (B4.trans (hB4.mono (by omega)))
    have HZs : Hid (ZL.toArray.size = WL.toArray.size) := hide (by rw [List.size_toArray, List.size_toArray, hWLl.out, hZL.out]; simp)
    clear hg4 hB4 j1 j2 B4 r4 hC k1 k2 B3 HS
    go_wp2_with (first
      | ((with_reducible show wpList _ _ _ (⟨_, .load _ _, _, _, _, _⟩ :: _) _ _); refine wpList_load_row rfl 70 _ rfl (w.heap.size + 1) rfl 70 WL.toArray (0, 0) _ HG4.out Try.underlying70 rfl HI.out ?_)
      | ((with_reducible show wpList _ _ _ (⟨_, .store _ _ _, _, _, _, _⟩ :: _) _ _); refine wpList_store_row rfl 70 _ _ rfl w.heap.size rfl WL.toArray rfl 70 _ J1.out HI.out HZs.out HWO.out ?_))
    refine bodyPost_ret (v := .agg WL.toArray) ?_ rfl ⟨by rw [hWL.out], ?_⟩
    · exact results_cell_row rfl _ _ w.heap.size 70 WL.toArray (0, 0) _ rfl (setRow_heap _ _ _ _ _ _ J1.out) Try.underlying70 rfl HI.out
    · exact below_setRow B5.out (Nat.le_refl _) _
  · have HCl := hide hC
    have hnb : ([] : List (BitVec 8)).length ≤ 1099511627000 := by simp
    clear hC HC
    go_enter Try.func128, Try.ntmps128
    go_wp2_with (first
      | (refine wpList_alloc_is rfl 70 rfl ZL.toArray hZ.out ?_)
      | (rw [hW0.out]; go_at_call 131; refine HCl.out.mono ?_; rintro e w' ⟨rfl, rfl⟩)
      | (go_at_call 126; refine (newhash_any _).mono ?_; rintro e w1 ⟨g', rfl, hg', hh1, hb1⟩; have HH1 := hide hh1; have HB1 := hide hb1; have HG := hide hg'; clear hh1 hb1 hg')
      | (go_at_call 132; refine (end_any _ [] _ HH1.out (by simp)).mono ?_; rintro e w2 ⟨A2, m2, c2, rfl, own2, hb2⟩; have HH2 := hide (HH1.out.below hb2); have HB2 := hide (below_next HB1.out hb2); have HO2 := hide own2; have hm2 : m2 ≤ 72 := (by have h := own2.1; rw [List.length_map, tailOf_len] at h; omega); clear own2 hb2)
      | (go_at_call 127; refine (write_any g' A2 m2 c2 [] (tailOf 0) w2 HH2.out (Reads.of_own HO2.out) (fun _ ad e => by obtain ⟨_, cs, hcs⟩ := own_ge HO2.out ad e; obtain ⟨_, _, _, hk, _⟩ := HH2.out; exact Blk.ne_ hcs hk (by decide)) (by simp; omega)).mono ?_; rintro e w3 ⟨rfl, hh3, gb3⟩; have HH3 := hide hh3; have GB3 := hide gb3; clear hh3 gb3))
    have hg' := HG.out
    rw [sz0] at hg'
    have hw2 := HB2.out.size
    have B3 : Below w.heap.size w w3 := (hB0.trans (HB2.out.mono (by omega))).grown GB3.out (by omega) (fun k e => by cases e; omega)
    have k1 := ((q1.below HB2.out (by omega)).grown GB3.out (by intro e; cases e; omega))
    have k2 := ((q2.below HB2.out (by omega)).grown GB3.out (by intro e; cases e; omega))
    have HS := HH3.out.state
    rw [show stateV ([] ++ tailOf 0) = shaV [] from rfl] at HS
    replace B3 := hide B3
    replace k1 := hide k1
    replace k2 := hide k2
    replace HS := hide HS
    have hw3 : w.heap.size + 1 < w3.heap.size := k2.out.lt
    clear HH1 HB1 HG HH2 HB2 HO2 HH3 GB3 HCl q1 q2 hB0 hg' hm2 hw2 hW0 sz0
    apply wp_region_relT 6 (C := fun W => Below w3.heap.size w3 W) (M := fun W W' => Below W.heap.size W W') (ss := [_, _, _, _, _, _]) (by kernel_rfl) (by kernel_rfl) (by kernel_rfl) (by kernel_rfl) (Below.refl _ _).drew
    simp only [List.take_succ_cons, List.take_zero, List.drop_succ_cons, List.drop_zero]
    iterate 5
      apply relWalk_const (fun W => Below.refl _ _)
      · intro W hC hF
        clear hF
        go_simp
        with_reducible exact rfl
      (try simp only [Act.put, List.setIfInBounds_toArray, List.set_cons_zero, List.set_cons_succ])
    apply relWalk_rel (fun v => ∃ A c, v = .slice A 32 c) (SliceOf8 32 (shaOf [])) ⟨_, none, 0, rfl⟩ (fun v w w' hb h => SliceOf8.later v w w' hb h)
    · exact wanted_none _ rfl
    · intro W hC hF
      clear hF
      refine gives_call rfl [.slice (some ⟨g', 0, none⟩) 8 8] rfl (enters_of Try.func133 (by kernel_rfl) rfl) ?_
      refine (bytes_any _ 8 8 _ W (HS.out.later hC) (by omega)).mono ?_
      rintro e w' ⟨A4, c4, rfl, own4, hb4⟩
      exact ⟨_, rfl, ⟨A4, c4, rfl⟩, ⟨rfl, Reads.of_own own4⟩, below_next hC hb4, hb4⟩
    rintro v' ⟨A4, c4, rfl⟩
    (try simp only [Act.put, List.setIfInBounds_toArray, List.set_cons_zero, List.set_cons_succ])
    apply relWalk_nil
    intro W hC hF
    have r4 := hF.1.2
    clear hF
    have j1 := k1.out.below hC (by omega)
    have j2 := k2.out.below hC (by omega)
    have B4 := B3.out.trans (hC.mono (by omega))
    refine wpList_copy_splice rfl (.tmp 14) (.tmp 19) 78 78 rfl 5 Try.underlying78 (by kernel_rfl) (some ⟨w.heap.size + 1, 0, none⟩) A4 32 32 32 c4 rfl rfl (w.heap.size + 1) 0 ZL 70 j2 WL (by rw [hWLl.out]; rfl) ?p1 (by rw [hWLl.out, hZL.out]; simp) HWL1.out (w.heap.size + 1) W (Below.refl _ _) (Nat.le_refl _) ?_
    case p1 =>
      intro _
      obtain ⟨ad, e, _, hc⟩ := r4.2 (by omega)
      exact ⟨rfl, ad, e, fun j v hv => hc j v (by rw [hWL.out] at hv; exact hv)⟩
    intro w4 hg4 hB4
    have HG4 : Hid (Blk w4 (w.heap.size + 1) 70 WL.toArray) := hide (by
      have := hg4.out
      rw [splice_all _ _ (by rw [hWLl.out, hZL.out]; simp)] at this
      exact this)
    have J1 := hide (j1.below hB4 (by omega))
    have B5 := hide (B4.trans (hB4.mono (by omega)))
    have HZs : Hid (ZL.toArray.size = WL.toArray.size) := hide (by rw [List.size_toArray, List.size_toArray, hWLl.out, hZL.out]; simp)
    clear hg4 hB4 j1 j2 B4 r4 hC k1 k2 B3 HS
    go_wp2_with (first
      | ((with_reducible show wpList _ _ _ (⟨_, .load _ _, _, _, _, _⟩ :: _) _ _); refine wpList_load_row rfl 70 _ rfl (w.heap.size + 1) rfl 70 WL.toArray (0, 0) _ HG4.out Try.underlying70 rfl HI.out ?_)
      | ((with_reducible show wpList _ _ _ (⟨_, .store _ _ _, _, _, _, _⟩ :: _) _ _); refine wpList_store_row rfl 70 _ _ rfl w.heap.size rfl WL.toArray rfl 70 _ J1.out HI.out HZs.out HWO.out ?_))
    refine bodyPost_ret (v := .agg WL.toArray) ?_ rfl ⟨by rw [hWL.out], ?_⟩
    · exact results_cell_row rfl _ _ w.heap.size 70 WL.toArray (0, 0) _ rfl (setRow_heap _ _ _ _ _ _ J1.out) Try.underlying70 rfl HI.out
    · exact below_setRow B5.out (Nat.le_refl _) _
theorem hashsum_any (g : Nat) (bs : List (BitVec 8)) (w : World) (hh : HashIs w g bs) (hb : bs.length ≤ 1099511627000) :
    Calls Try.prog 128 #[.pointer (some ⟨g, 0, none⟩)] w fun e w' => e = .returned (.agg ((shaOf bs).map c8).toArray) ∧ Below w.heap.size w w' :=
  hashsum_core _ bs w hb (hide (fun W h => .inl (clone_any g bs W (hh.below h) (by omega))))
theorem hashsum_nil (w : World) : Calls Try.prog 128 #[.pointer none] w fun e w' => e = .returned (.agg ((shaOf []).map c8).toArray) ∧ Below w.heap.size w w' :=
  hashsum_core _ [] w (by simp) (hide (fun W h => .inr ⟨clone_nil W, rfl⟩))
end Go.Proofs.Ytccpkafmbmkmfaa
