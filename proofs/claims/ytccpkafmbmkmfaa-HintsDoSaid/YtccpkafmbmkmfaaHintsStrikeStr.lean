/- Package hints at string keys: Strike. No condition but that arguments fit their kinds. -/
import Derived.Test.YtccpkafmbmkmfaaHintsNoteStr
namespace Go.Proofs.Ytccpkafmbmkmfaa.hStr
open Go.RowKit
set_option linter.unusedVariables false
set_option linter.unusedSimpArgs false
attribute [local go_sem] Gives givesUpon
attribute [local irreducible] Gives

/-- what is noted behind a Strike -/
def strikeC (C : Noted ByteArray) (k : ByteArray) (v : Int) : Noted ByteArray := if v ∈ valsOf C k then (if (valsOf C k).erase v = [] then mdel C k else mput C k ((valsOf C k).erase v)) else C
theorem erase_split (xs : List Int) (v : Int) : xs.erase v = xs.take (xs.idxOf v) ++ xs.drop (xs.idxOf v + 1) := by
  rw [List.erase_eq_eraseIdx_of_idxOf rfl, List.eraseIdx_eq_take_drop_succ]
theorem get_of_take {α : Type} {l : List α} {n i : Nat} {u : α} (h : (l.take n)[i]? = some u) : l[i]? = some u := by
  rw [List.getElem?_take] at h
  split at h
  · exact h
  · cases h
def Cut (w0 : World) (xs : List Int) (u : Value) (W : World) : Prop := W.ownsRow w0.heap.size 3 1 u xs.length (xs.map ci)
theorem Cut.at_ {w0 W : World} {xs : List Int} {u : Value} (h : Cut w0 xs u W) : u.ownBlock = none ∨ ∃ r, u.ownBlock = some r ∧ w0.heap.size ≤ r := by
  cases hu : u.ownBlock with
  | none => exact .inl rfl
  | some r => exact .inr ⟨r, rfl, (own_lt h hu).1⟩
set_option maxRecDepth 100000 in
set_option maxHeartbeats 1600000 in
theorem strike_any (w : World) (S : Nat → Prop) (g b : Nat) (E : Kept ByteArray) (k : ByteArray) (hk : ok k) (v : Int) (hv : -9223372036854775808 ≤ v ∧ v ≤ 9223372036854775807) (h : IdxIs w S fk ok TI g b (totalOf (notedOf E) : Int) E) (ht : totalOf (notedOf E) ≤ 549755813888) :
    Calls Try.prog 73 #[.pointer (some ⟨g, 0, none⟩), fk k, .int .i64 v] w fun e w' => e = .returned (.bool (decide (v ∈ valsOf (notedOf E) k))) ∧ Idx w' (fun i => S i ∨ w.heap.size ≤ i) fk ok TI g b (strikeC (notedOf E) k v) ∧ Touch (fun i => i = g ∨ i = b) w w' := by
  have hkE := noted_keys h.keysE
  have hxl : (valsOf (notedOf E) k).length ≤ 549755813888 := Nat.le_trans (vals_le _ hkE k) ht
  have HH := hide (has_any (some ⟨g, 0, none⟩) k v (valsOf (notedOf E) k) (h.inI k) (by omega) w (tells_live hk h (by omega)))
  by_cases hm : v ∈ valsOf (notedOf E) k
  rotate_left
  · rw [decide_eq_false hm] at HH
    have e1 : strikeC (notedOf E) k v = notedOf E := by rw [strikeC, if_neg hm]
    rw [e1, decide_eq_false hm]
    have H := hide h
    clear h hm e1 hxl hkE
    go_enter Try.func73, Try.ntmps73
    go_wp2_with (first
      | (go_at_call 111; (with_reducible refine HH.out.mono ?_); rintro e w1 ⟨rfl, hb1⟩; have B1 := hide hb1; clear hb1)
      | fail)
    go_ret
    exact ⟨rfl, ⟨E, rfl, (H.out.below B1.out).mono fun i _ hs => .inl hs⟩, Touch.of_below B1.out⟩
  rw [decide_eq_true hm] at HH
  rw [decide_eq_true hm]
  have hpos : 0 < (valsOf (notedOf E) k).length := List.length_pos_of_mem hm
  have hel := List.length_erase_of_mem hm
  have hown := h.own k
  obtain ⟨r, c, hs, _, hrlt⟩ := hown.form hpos
  rw [hs] at hown
  have hcap := own_cap hown
  have HR : Hid (∀ W, Below w.heap.size w W → Reads W W.heap.size 1 (some ⟨r, 0, none⟩) (valsOf (notedOf E) k).length ((valsOf (notedOf E) k).map ci)) := hide fun W hW => ((Reads.of_own hown).below hW).more hW.size
  have FL : Hid (∀ W, Below w.heap.size w W → (Instr.lookup 150 (.map (some b)) (fk k) false).run Try.prog W = .ok (.slice (some ⟨r, 0, none⟩) (valsOf (notedOf E) k).length c) W) := hide fun W hW => by
    have := (h.below hW).map.lookup key Try.underlying150 hk false (zero_ints W)
    rw [sliceAt_eq, hs] at this; exact this
  have H := hide h
  have HS := hide hs
  have HM := hide hm
  by_cases h1 : (valsOf (notedOf E) k).length = 1
  · -- the last one
    have e0 : (valsOf (notedOf E) k).erase v = [] := List.eq_nil_of_length_eq_zero (by omega)
    have e1 : strikeC (notedOf E) k v = mdel (notedOf E) k := by rw [strikeC, if_pos hm, if_pos e0]
    have e2 := sum_del (notedOf E) hkE k
    have E3 : Hid (((totalOf (mdel (notedOf E) k) : Nat) : Int) = (totalOf (notedOf E) : Int) - 1) := hide (by omega)
    rw [e1]
    have ht1 : 1 ≤ totalOf (notedOf E) := by omega
    obtain ⟨t, htt⟩ : ∃ t, t = totalOf (notedOf E) := ⟨_, rfl⟩
    rw [← htt] at H ht e2 E3 ht1
    obtain ⟨xs, hxs⟩ : ∃ xs, xs = valsOf (notedOf E) k := ⟨_, rfl⟩
    rw [← hxs] at HR FL HM h1
    have HL := hide h1
    rw [h1] at FL
    clear h hm e1 hkE e2 htt hxs hown hs e0 hel hpos hxl h1
    go_enter Try.func73, Try.ntmps73
    go_wp2_with (first
      | (go_at_call 111; (with_reducible refine HH.out.mono ?_); rintro e w1 ⟨rfl, hb1⟩; have B1 := hide hb1; clear hb1; have H1 := hide (H.out.below B1.out); have fl := FL.out w1 B1.out; have c0 : w1.cell? ⟨g, 0, none⟩ = some (.map (some b)) := (H1.out.head.cell 0).trans rfl; have c1 : w1.cell? ⟨g, 1, none⟩ = some (.int .i64 (t : Int)) := (H1.out.head.cell 1).trans rfl; have f1 := H1.out.head.frozen 1)
      | (go_at_call 78; (with_reducible refine (index_any _ _ _ xs v _ (HL.out ▸ HR.out _ B1.out) HM.out (by omega)).mono ?_); rintro e w2 ⟨rfl, rfl⟩)
      | (at_delete
         refine wpList_delete_is key Try.underlying150 rfl _ _ rfl rfl k rfl hk (H1.out.map.setCell (a := ⟨g, 1, none⟩) H1.out.ne (.int .i64 ((t : Int) - 1))) ?_
         intro w3 hm3 hg3)
      | fail)
    go_ret
    refine ⟨rfl, ⟨mdel E k, (noted_del E k).symm, ?_⟩, (((Touch.of_below B1.out).setCell (p := ⟨g, 1, none⟩) (.inl rfl) _).trans (S' := fun i => i = g ∨ i = b) (Touch.of_grown hg3 fun r hr => by injection hr with hr; exact .inr hr.symm) fun i _ hi => hi)⟩
    have := (H1.out.setN ((t : Int) - 1)).drop hm3 hg3
    rw [E3.out]
    exact this.mono fun i _ hi => .inl hi
  · -- others are left
    have e0 : (valsOf (notedOf E) k).erase v ≠ [] := fun e => by rw [e] at hel; simp at hel; omega
    have e1 : strikeC (notedOf E) k v = mput (notedOf E) k ((valsOf (notedOf E) k).erase v) := by rw [strikeC, if_pos hm, if_neg e0]
    have e2 := sum_put (notedOf E) hkE k ((valsOf (notedOf E) k).erase v)
    have E3 : Hid (((totalOf (mput (notedOf E) k ((valsOf (notedOf E) k).erase v)) : Nat) : Int) = (totalOf (notedOf E) : Int) - 1) := hide (by omega)
    rw [e1]
    have ht1 : 1 ≤ totalOf (notedOf E) := by have := vals_le _ hkE k; omega
    have hin := hide (show InI ((valsOf (notedOf E) k).erase v) from fun x hx => h.inI k x (List.mem_of_mem_erase hx))
    obtain ⟨t, htt⟩ : ∃ t, t = totalOf (notedOf E) := ⟨_, rfl⟩
    rw [← htt] at H ht e2 E3 ht1
    obtain ⟨xs, hxs⟩ : ∃ xs, xs = valsOf (notedOf E) k := ⟨_, rfl⟩
    rw [← hxs] at HR FL HM h1 hxl e0 E3 hcap hpos hin
    have HXs := hide hxs
    obtain ⟨j, hj⟩ : ∃ j, j = xs.idxOf v := ⟨_, rfl⟩
    have hjl : j < xs.length := by rw [hj]; exact List.idxOf_lt_length_of_mem HM.out
    have HJ := hide hj
    have HE := hide e0
    have HSp := hide (show xs.erase v = xs.take j ++ xs.drop (j + 1) from by rw [hj]; exact erase_split xs v)
    have hd1 : ((xs.length : Int) == 1) = false := by rw [beq_eq_false_iff_ne]; omega
    have hw1 : IntKind.i64.wrap ((j : Int) + 1) = ((j + 1 : Nat) : Int) := by rw [IntWalk.i64_in _ (by omega)]; omega
    have HW1 := hide hw1
    have hc0 : 0 < c := by omega
    have hjc : j ≤ c := by omega
    clear h hm e1 hkE e2 htt hxs hown hs e0 hel h1 hw1 hj
    go_enter Try.func73, Try.ntmps73
    go_upto_region 9 with (first
      | (go_at_call 111; (with_reducible refine HH.out.mono ?_); rintro e w1 ⟨rfl, hb1⟩; have B1 := hide hb1; clear hb1; have H1 := hide (H.out.below B1.out); have fl := FL.out w1 B1.out; have c0 : w1.cell? ⟨g, 0, none⟩ = some (.map (some b)) := (H1.out.head.cell 0).trans rfl; have c1 : w1.cell? ⟨g, 1, none⟩ = some (.int .i64 (t : Int)) := (H1.out.head.cell 1).trans rfl; have f1 := H1.out.head.frozen 1)
      | (go_at_call 78; (with_reducible refine (index_any _ _ _ xs v _ (HR.out _ B1.out) HM.out (by omega)).mono ?_); rintro e w2 ⟨rfl, rfl⟩)
      | fail)
    rw [← HJ.out]
    have H2 := hide (H1.out.setN ((t : Int) - 1))
    have T2 := hide (show Touch (fun i => i = g ∨ i = b) w (w1.setCell ⟨g, 1, none⟩ (.int .i64 ((t : Int) - 1))) from (Touch.of_below B1.out).setCell (p := ⟨g, 1, none⟩) (.inl rfl) _)
    have hrg : r ≠ g := fun e => (H1.out.footAt k (r := r) (by rw [HS.out]; rfl)).2.1 e
    have HR2 : Hid (∀ W, (w1.setCell ⟨g, 1, none⟩ (.int .i64 ((t : Int) - 1))).grownBy W none → Reads W W.heap.size 1 (some ⟨r, 0, none⟩) xs.length (xs.map ci)) := hide fun W hW => by
      have h0 := HR.out w1 B1.out
      have h1 : Reads (w1.setCell ⟨g, 1, none⟩ (.int .i64 ((t : Int) - 1))) (w1.setCell ⟨g, 1, none⟩ (.int .i64 ((t : Int) - 1))).heap.size 1 (some ⟨r, 0, none⟩) xs.length (xs.map ci) :=
        ⟨h0.1, fun hn => by
          obtain ⟨ad, e, hb, hc⟩ := h0.2 hn
          cases e
          exact ⟨_, rfl, by simpa using hb, fun i u hu => (World.cell?_setCell_other w1 _ _ _ (fun e => by rw [Addr.add_lit] at e; exact hrg (congrArg Addr.block e).symm)).trans (hc i u hu)⟩⟩
      exact h1.grown hW (Nat.le_refl _) (by simp) |>.more hW.size
    generalize w1.setCell ⟨g, 1, none⟩ (.int .i64 ((t : Int) - 1)) = w2 at *
    clear fl c0 c1 f1 H1 HR FL HH hrg
    have FC : Hid (∀ W, w2.grownBy W none → W.cell? ⟨g, 0, none⟩ = some (.map (some b))) := hide fun W hW =>
      (World.cell?_of_block (a := ⟨g, 0, none⟩) (hW.block g H2.out.lt (by simp))).trans ((H2.out.head.cell 0).trans rfl)
    obtain ⟨A2, hA2⟩ : ∃ A2, A2 = (if c = j + 1 then some (⟨r, 0, none⟩ : Addr) else (some (⟨r, 0, none⟩ : Addr)).map (·.add ((j + 1) * 1))) := ⟨_, rfl⟩
    have FS : Hid (∀ W : World, (Instr.sliceAt 35 (.slice (some ⟨r, 0, none⟩) xs.length c) (some (.int .i64 ((j + 1 : Nat) : Int))) none none).run Try.prog W = .ok (.slice A2 (xs.length - (j + 1)) (c - (j + 1))) W) := hide fun W => by
      rw [hA2]; exact run_slice_lo W r xs.length c (j + 1) hjl
    have HR3 : Hid (∀ W, w2.grownBy W none → Reads W W.heap.size 1 A2 (xs.length - (j + 1)) ((xs.drop (j + 1)).map ci)) := hide fun W hW => by
      have := (HR2.out W hW).cut (k := j + 1) (cap := c) hjl hcap
      rw [hA2, List.map_drop]
      simpa using this
    clear hA2
    have hLE : (xs.take j ++ xs.drop (j + 1)).length = xs.length - 1 := by rw [List.length_append, List.length_take, List.length_drop]; omega
    apply wp_region_last 14 _ (hv := [8, 13]) (I := fun W => w2.grownBy W none) (C := fun W => True) (ss := [_, _, _, _, _, _, _, _, _, _, _, _, _, _]) rfl (by kernel_rfl) (by kernel_rfl) (by kernel_rfl) (by kernel_rfl) (by kernel_rfl) (by kernel_rfl) (grown_drew w2 none) trivial
    simp only [List.take_succ_cons, List.take_zero]
    iterate 7 (first
      | (apply stWalk_light
         · rfl
         · (intro W hI
            have c0 := FC.out W hI
            clear hI
            go_simp
            with_reducible exact rfl)
         (try simp only [Act.put, List.setIfInBounds_toArray, List.set_cons_zero, List.set_cons_succ])))
    apply stWalk_light (c := .slice (some ⟨r, 0, none⟩) j c)
    · rfl
    · intro W hI
      rw [if_pos (wanted_none _ rfl)]
      exact gives_slice _ _ _ _ _ rfl _ (run_slice_hi W r xs.length c j hjc hc0) ⟨rfl, rfl⟩
    (try simp only [Act.put, List.setIfInBounds_toArray, List.set_cons_zero, List.set_cons_succ])
    apply stWalk_turn (IsRow (xs.take j).length) (Cut w2 (xs.take j))
    · rfl
    · exact ⟨_, none, 0, rfl⟩
    · rfl
    · intro W hI hC
      have hr := HR2.out W hI
      refine gives_append_ints _ _ rfl w2.heap.size (.slice none 0 0) [] rfl (World.ownsRow_nil _ _ _ _) (some ⟨r, 0, none⟩) j c (xs.take j) rfl (by rw [List.length_take]; omega) W.heap.size ⟨by simp; omega, fun _ => ?_⟩ (by simp; omega) hI.size ?_
      · obtain ⟨ad, e, hb, hc⟩ := hr.2 hpos
        cases e
        exact ⟨_, rfl, hb, fun i u hu => hc i u (get_of_take (by rw [← List.map_take]; exact hu))⟩
      · intro v' w' hown' hg' _
        obtain ⟨A', c', rfl⟩ := own_slice hown'
        exact ⟨⟨A', c', rfl⟩, grown_trans hI hg' (by simp [Value.ownBlock]), hown'⟩
    rintro u ⟨A3, c3, rfl⟩
    (try simp only [Act.put, List.setIfInBounds_toArray, List.set_cons_zero, List.set_cons_succ])
    iterate 3 (first
      | (apply stWalk_light
         · rfl
         · (intro W hI
            have c0 := FC.out W hI
            clear hI
            have hw1 := HW1.out
            go_simp
            with_reducible exact rfl)
         (try simp only [Act.put, List.setIfInBounds_toArray, List.set_cons_zero, List.set_cons_succ])))
    apply stWalk_light (c := .slice A2 (xs.length - (j + 1)) (c - (j + 1)))
    · rfl
    · intro W hI
      rw [if_pos (wanted_none _ rfl)]
      exact gives_slice _ _ _ _ _ rfl _ (FS.out W) ⟨rfl, rfl⟩
    (try simp only [Act.put, List.setIfInBounds_toArray, List.set_cons_zero, List.set_cons_succ])
    apply stWalk_turn (IsRow (xs.take j ++ xs.drop (j + 1)).length) (Cut w2 (xs.take j ++ xs.drop (j + 1)))
    · rfl
    · exact ⟨_, none, 0, rfl⟩
    · rfl
    · intro W hI hC
      refine gives_append_ints _ _ rfl w2.heap.size (.slice A3 (xs.take j).length c3) (xs.take j) rfl hC A2 (xs.length - (j + 1)) (c - (j + 1)) (xs.drop (j + 1)) rfl (by rw [List.length_drop]) W.heap.size (HR3.out W hI) (by rw [List.length_take]; omega) hI.size ?_
      intro v' w' hown' hg' _
      have hat := Cut.at_ (w0 := w2) (W := W) (xs := xs.take j) hC
      obtain ⟨A', c', rfl⟩ := own_slice hown'
      refine ⟨⟨A', c', rfl⟩, ?_, hown'⟩
      refine ⟨hg'.os.trans hI.os, hg'.tape.trans hI.tape, hg'.output.trans hI.output, Nat.le_trans hI.size hg'.size, fun i hi _ => (hg'.block i (Nat.lt_of_lt_of_le hi hI.size) (fun e => ?_)).trans (hI.block i hi (by simp))⟩
      rcases hat with e1 | ⟨q, e1, hq⟩
      · rw [e1] at e; cases e
      · rw [e1] at e; injection e with e; omega
    rintro u ⟨A', c', rfl⟩
    (try simp only [Act.put, List.setIfInBounds_toArray, List.set_cons_zero, List.set_cons_succ])
    refine stWalk_nil fun W hI hC => ⟨rfl, gives_mapUpdate key Try.underlying150 _ _ _ rfl rfl k rfl hk (.slice A' (xs.take j ++ xs.drop (j + 1)).length c') rfl (H2.out.map.kept hI (by simp)) fun w3 hm3 hg3 => ?_⟩
    have hat := hC.at_
    rw [← HSp.out] at hC hm3
    have H3 := hide (H2.out.put (⟨hI.os, hI.tape, hI.output, hI.size, fun i hi _ => hI.block i hi (by simp)⟩) (own_less hC (Nat.zero_le _)) HE.out hin.out (by
      rcases hat with e | ⟨q, e, hq⟩
      · exfalso
        have := own_some hC (List.length_pos_iff.2 HE.out)
        obtain ⟨q, hq, _⟩ := this
        rw [HSp.out] at hq
        rw [e] at hq; cases hq
      · exact .inr ⟨q, by rw [HSp.out]; exact e, hq⟩) hm3 hg3)
    have HT := hide (show Touch (fun i => i = g ∨ i = b) w w3 from (T2.out.trans (S' := fun i => i = g ∨ i = b) (Touch.of_grown hI (by simp)) (fun i _ hi => hi)).trans (S' := fun i => i = g ∨ i = b) (Touch.of_grown hg3 fun r hr => by injection hr with hr; exact .inr hr.symm) (fun i _ hi => hi))
    clear hI hC hat hm3 hg3 FC FS HR3 HR2
    (try simp only [Act.put, List.setIfInBounds_toArray, List.set_cons_zero, List.set_cons_succ])
    go_wp2
    go_ret
    refine ⟨rfl, ⟨mput E k (.slice A' (xs.erase v).length c', xs.erase v), ?_, ?_⟩, HT.out⟩
    · rw [noted_put, HXs.out]
    · rw [HXs.out] at E3
      rw [E3.out]
      exact H3.out.mono fun i _ hi => hi.imp id fun h => Nat.le_trans T2.out.size h
end Go.Proofs.Ytccpkafmbmkmfaa.hStr
