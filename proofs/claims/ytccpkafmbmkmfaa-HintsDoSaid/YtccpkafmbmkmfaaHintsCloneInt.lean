/- Package hints at int keys: Clone. No condition but sizes. -/
import Derived.Test.YtccpkafmbmkmfaaHintsNilInt
namespace Go.Proofs.Ytccpkafmbmkmfaa.hInt
open Go.RowKit
set_option linter.unusedVariables false
set_option linter.unusedSimpArgs false
attribute [local go_sem] Gives givesUpon
attribute [local irreducible] Gives

section plain0
variable {α β : Type}
theorem mkeys_perm {l m : List (α × β)} (h : MKeys l) (hp : l.Perm m) : MKeys m := by
  unfold MKeys at *
  exact (hp.map (·.1)).nodup_iff.1 h
theorem totalOf_perm {C D : Noted α} (hp : C.Perm D) : totalOf D = totalOf C := by
  unfold totalOf
  exact ((hp.map fun p => p.2.length).sum_nat).symm
end plain0
section plain
variable {α β : Type} [DecidableEq α]
theorem perm_mdel : ∀ {l : List (α × β)}, MKeys l → ∀ {p : α × β}, p ∈ l → l.Perm (p :: mdel l p.1)
  | [], _, _, hp => by cases hp
  | q :: l, h, p, hp => by
    have h' : MKeys l := by unfold MKeys at h ⊢; rw [List.map_cons, List.nodup_cons] at h; exact h.2
    have hn : q.1 ∉ l.map (·.1) := by unfold MKeys at h; rw [List.map_cons, List.nodup_cons] at h; exact h.1
    by_cases e : q.1 = p.1
    · have hq : q = p := by
        rcases List.mem_cons.1 hp with h1 | h1
        · exact h1.symm
        · exact absurd (List.mem_map.2 ⟨p, h1, e.symm⟩) hn
      subst hq
      have e2 : mdel (q :: l) q.1 = l := by
        unfold mdel
        rw [List.filter_cons_of_neg (by simp)]
        refine List.filter_eq_self.2 fun x hx => ?_
        have : x.1 ≠ q.1 := fun e => hn (List.mem_map.2 ⟨x, hx, e⟩)
        simpa using this
      rw [e2]
    · have hp' : p ∈ l := by
        rcases List.mem_cons.1 hp with h1 | h1
        · exact absurd (congrArg Prod.fst h1).symm e
        · exact h1
      have e2 : mdel (q :: l) p.1 = q :: mdel l p.1 := by unfold mdel; rw [List.filter_cons_of_pos (by simpa using e)]
      rw [e2]
      exact ((perm_mdel h' hp').cons q).trans (List.Perm.swap p q _)
theorem mget_perm {l m : List (α × β)} (h : MKeys l) (hp : l.Perm m) (a : α) : mget m a = mget l a := by
  cases hg : mget l a with
  | none => exact mget_none.2 fun p hm => mget_none.1 hg p (hp.mem_iff.2 hm)
  | some v => exact mget_mem (mkeys_perm h hp) (hp.mem_iff.1 (mget_some hg))
theorem valsOf_perm {C D : Noted α} (h : MKeys C) (hp : C.Perm D) (a : α) : valsOf D a = valsOf C a := by unfold valsOf; rw [mget_perm h hp]
theorem mput_absent {l : List (α × β)} {a : α} (h : mget l a = none) (v : β) : mput l a v = l ++ [(a, v)] := by unfold mput; rw [h]; rfl
end plain
variable {P : Program}
theorem wpList_range_is {α : Type} {k t e : TypeId} {f : α → Value} {okk : α → Prop} (ht : P.underlying t = some (.map k e)) {ops : Array Oper} {rest : List Oper} {o : Oper} {a : Act} {w : World} {Q : Exit → Act → World → Prop} {b : Nat} {l : List (α × Value)}
    (hgd : o.guard = none) (m : Operand) (ho : o.op = Op.range t m) (hm : a.eval m = .map (some b)) (h : MapIs w b f okk l)
    (hK : ∀ w', MapWalk w' b w.heap.size f okk l l → w.grownBy w' none → w'.heap.size = w.heap.size + 1 → wpList P ops Q rest (a.put o.dst (.pointer (some ⟨w.heap.size, 0, none⟩))) w') : wpList P ops Q (o :: rest) a w := by
  refine wpList_plain hgd fun K' hK' => ?_
  obtain ⟨w', hrun, h1, h2, h3⟩ := h.range ht
  unfold Oper.wp
  simp [execOp, ho, hm, hrun, Result.andThen]
  exact hK' _ _ (hK w' h1 h2 h3)
theorem wpList_next_is {α : Type} [DecidableEq α] {k : TypeId} {f : α → Value} {okk : α → Prop} (K : KeyFn P k f okk) {ops : Array Oper} {rest : List Oper} {o : Oper} {a : Act} {w : World} {Q : Exit → Act → World → Prop} {b r : Nat} {l left : List (α × Value)}
    (hgd : o.guard = none) (it : Operand) (ho : o.op = Op.next it false) (hit : a.eval it = .pointer (some ⟨r, 0, none⟩)) (h : MapWalk w b r f okk l left)
    (hD : left = [] → wpList P ops Q rest (a.put o.dst (.tuple #[.bool false])) w)
    (hM : ∀ p w', p ∈ left → p ∈ l → MapWalk w' b r f okk l (mdel left p.1) → w.grownBy w' (some r) → w'.heap.size = w.heap.size → (Instr.entry (.pointer (some ⟨r, 0, none⟩))).run P w' = .ok (.tuple #[f p.1, p.2]) w' → wpList P ops Q rest (a.put o.dst (.tuple #[.bool true, f p.1, p.2])) w') :
    wpList P ops Q (o :: rest) a w := by
  refine wpList_plain hgd fun K' hK' => ?_
  unfold Oper.wp
  rcases h.next K o.type with ⟨h0, hrun⟩ | ⟨p, w', hp, hpl, hrun, hw, hg, hs, hen⟩
  · simp [execOp, ho, hit, hrun, Result.andThen]
    exact hK' _ _ (hD h0)
  · simp [execOp, ho, hit, hrun, Result.andThen]
    exact hK' _ _ (hM p w' hp hpl hw hg hs hen)
/-- how far the copy has come -/
structure CloneR (w : World) (E : Kept Int) (b r g2 b2 : Nat) (E2 : Kept Int) (left : List (Int × Value)) (wr : World) : Prop where
  walk : MapWalk wr b r fk ok (slicesOf E) left
  out : IdxIs wr (fun i => w.heap.size ≤ i ∧ i ≠ r) fk ok TI g2 b2 0 E2
  perm : (notedOf E2 ++ left.map fun p => (p.1, valsOf (notedOf E) p.1)).Perm (notedOf E)
  below : Below w.heap.size w wr
theorem start_perm {E : Kept Int} (h : MKeys E) : ((slicesOf E).map fun p => (p.1, valsOf (notedOf E) p.1)) = notedOf E := by
  unfold slicesOf
  rw [List.map_map]
  refine List.map_congr_left fun p hp => ?_
  show ((p.1, valsOf (notedOf E) p.1) : Int × List Int) = (p.1, p.2.2)
  have : mget (notedOf E) p.1 = some p.2.2 := mget_mem (noted_keys h) (List.mem_map.2 ⟨p, hp, rfl⟩)
  rw [valsOf, this]; rfl
theorem CloneR.fresh {w : World} {E : Kept Int} {b r g2 b2 : Nat} {E2 : Kept Int} {left : List (Int × Value)} {wr : World} (h : CloneR w E b r g2 b2 E2 left wr) (hE : MKeys E) {p : Int × Value} (hp : p ∈ left) :
    MKeys left ∧ mget E2 p.1 = none := by
  have hk : MKeys (notedOf E2 ++ left.map fun p => (p.1, valsOf (notedOf E) p.1)) := mkeys_perm (noted_keys hE) h.perm.symm
  unfold MKeys at hk
  rw [List.map_append, List.nodup_append] at hk
  obtain ⟨h1, h2, h3⟩ := hk
  refine ⟨?_, mget_none.2 fun q hq e => ?_⟩
  · unfold MKeys
    rw [List.map_map] at h2
    exact h2
  · exact h3 q.1 (List.mem_map.2 ⟨(q.1, q.2.2), List.mem_map.2 ⟨q, hq, rfl⟩, rfl⟩) p.1 (List.mem_map.2 ⟨(p.1, valsOf (notedOf E) p.1), List.mem_map.2 ⟨p, hp, rfl⟩, rfl⟩) e
theorem CloneR.perm_next {w : World} {E : Kept Int} {b r g2 b2 : Nat} {E2 : Kept Int} {left : List (Int × Value)} {wr : World} (h : CloneR w E b r g2 b2 E2 left wr) (hE : MKeys E) {p : Int × Value} (hp : p ∈ left) (v : Value) :
    (notedOf (mput E2 p.1 (v, valsOf (notedOf E) p.1)) ++ (mdel left p.1).map fun p => (p.1, valsOf (notedOf E) p.1)).Perm (notedOf E) := by
  obtain ⟨hl, hn⟩ := h.fresh hE hp
  refine List.Perm.trans ?_ h.perm
  rw [mput_absent hn]
  have e : notedOf (E2 ++ [(p.1, (v, valsOf (notedOf E) p.1))]) = notedOf E2 ++ [(p.1, valsOf (notedOf E) p.1)] := by simp [notedOf]
  rw [e, List.append_assoc]
  refine List.Perm.append_left _ ?_
  have := ((perm_mdel hl hp).map fun p => (p.1, valsOf (notedOf E) p.1)).symm
  simpa using this
set_option maxRecDepth 100000 in
set_option maxHeartbeats 1600000 in
theorem clone_any (w : World) (S : Nat → Prop) (g b : Nat) (E : Kept Int) (h : IdxIs w S fk ok TI g b (totalOf (notedOf E) : Int) E) (ht : totalOf (notedOf E) ≤ 549755813888) :
    Calls Try.prog 35 #[.pointer (some ⟨g, 0, none⟩)] w fun e w' => ∃ g2 b2 C2, e = .returned (.pointer (some ⟨g2, 0, none⟩)) ∧ Is w' (fun i => w.heap.size ≤ i) g2 b2 C2 ∧ C2.Perm (notedOf E) ∧ Below w.heap.size w w' := by
  have hE := h.keysE
  have HN := hide (none_live g b (.int .i64 (totalOf (notedOf E) : Int)) w h.head)
  obtain ⟨t, htt⟩ : ∃ t, t = totalOf (notedOf E) := ⟨_, rfl⟩
  have HTT := hide htt
  rw [← htt] at h ht
  have H := hide h
  have HNew := hide (new_any w)
  have hbl := h.map.lt
  have hgl := h.lt
  have c0 : w.cell? ⟨g, 0, none⟩ = some (.map (some b)) := (h.head.cell 0).trans rfl
  have HE := hide hE
  clear h htt hE
  go_enter Try.func35, Try.ntmps35
  go_wp2_with (first
    | (go_at_call 79; (with_reducible refine HN.out.mono ?_); rintro e w0 ⟨rfl, rfl⟩)
    | (go_at_call 26; (with_reducible refine HNew.out.mono ?_); rintro e w1 ⟨rfl, hi1, hb1⟩; have I1 := hide hi1; have B1 := hide hb1; have c0' : w1.cell? ⟨g, 0, none⟩ = some (.map (some b)) := (hb1.cell (p := ⟨g, 0, none⟩) hgl).trans c0; clear hi1 hb1)
    | (at_range
       refine wpList_range_is Try.underlying63 rfl _ rfl rfl ((H.out.below B1.out).map) ?_
       intro w2 hw2 hg2 hs2)
    | fail)
  go_frame
  have R2 : CloneR w E b w1.heap.size (w.heap.size + 1) w.heap.size [] (slicesOf E) w2 := ⟨hw2,
    ((I1.out.mono (S' := fun i => w.heap.size ≤ i ∧ i ≠ w1.heap.size) fun i hi hs => ⟨hs, by omega⟩).keep fun i hi _ => hg2.block i hi (by simp)),
    by rw [show notedOf ([] : Kept Int) = [] from rfl, List.nil_append, start_perm HE.out], B1.out.grown hg2 B1.out.size (by simp)⟩
  have sz1 := B1.out.size
  have hbig : w.heap.size + 1 < w1.heap.size := I1.out.lt
  replace R2 := hide R2
  clear hw2 hg2 hs2 c0' HN HNew
  generalize w1.heap.size = r at *
  go_loopw [4, 5] (fun k l wr => ∃ (E2 : Kept Int) (left : List (Int × Value)), Hid (CloneR w E b r (w.heap.size + 1) w.heap.size E2 left wr)) (fun _ _ wr => wr.rangeLeft b r)
  case atStart => exact ⟨[], slicesOf E, R2⟩
  case round =>
    obtain ⟨wz, rfl⟩ : ∃ wz : World, wz = wr := ⟨_, rfl⟩
    obtain ⟨E2, left, HR⟩ := hrel
    go_wp2_with (first
      | (at_next; refine wpList_next_is key rfl _ rfl rfl HR.out.walk ?_ ?_)
      | fail)
    · intro hl0
      subst hl0
      have hp : (notedOf E2).Perm (notedOf E) := by have := HR.out.perm; simpa using this
      have ht2 : Hid (t = totalOf (notedOf E2)) := hide (by rw [HTT.out]; exact totalOf_perm hp)
      have HP := hide hp
      have c1 : wz.cell? ⟨g, 1, none⟩ = some (.int .i64 (t : Int)) := ((H.out.below HR.out.below).head.cell 1).trans rfl
      have c2 : wz.cell? ⟨w.heap.size + 1, 1, none⟩ = some (.int .i64 0) := (HR.out.out.head.cell 1).trans rfl
      have f2 := HR.out.out.head.frozen 1
      clear hp
      go_wp2
      go_ret
      refine ⟨w.heap.size + 1, w.heap.size, notedOf E2, rfl, ⟨E2, rfl, ?_⟩, HP.out, HR.out.below.setCell (p := ⟨w.heap.size + 1, 1, none⟩) (by dsimp only; omega) _⟩
      rw [← ht2.out]
      exact (HR.out.out.setN (t : Int)).mono fun i _ hi => hi.1
    · intro k pv w1' hp hpl hw1 hg1 hs1 hen
      obtain ⟨p, ep⟩ : ∃ p : Int × Value, p = (k, pv) := ⟨_, rfl⟩
      rw [← ep] at hp hpl
      obtain ⟨hkl, hab⟩ := HR.out.fresh HE.out hp
      have hpv : p.2 = sliceAt E p.1 := by
        have h1 : mget (slicesOf E) p.1 = some p.2 := mget_mem H.out.map.1 hpl
        have h2 := sliceAt_eq E p.1
        rw [h1] at h2; exact h2
      have hok : ok p.1 := H.out.map.2.1 p hpl
      have hmem : ∃ q, mget E p.1 = some q := by
        obtain ⟨e, he, e2⟩ := List.mem_map.1 hpl
        exact ⟨e.2, by rw [← e2]; exact mget_mem HE.out he⟩
      have HNe := hide (show valsOf (notedOf E) p.1 ≠ [] by
        obtain ⟨q, hq⟩ := hmem
        rw [valsOf_noted, hq]
        exact (H.out.rows _ (mget_some hq)).2.1)
      have HInI := hide (H.out.inI p.1)
      have HPn := hide (fun v => HR.out.perm_next HE.out hp v)
      have hown := H.out.own p.1
      rw [← hpv] at hown
      have hxl := vals_le _ (noted_keys HE.out) p.1
      rw [← HTT.out] at hxl
      subst ep
      dsimp only at hpv hok hown hxl hen HNe HInI HPn hab hw1
      obtain ⟨xs, hxs⟩ : ∃ xs, xs = valsOf (notedOf E) k := ⟨_, rfl⟩
      rw [← hxs] at hown hxl HNe HInI HPn
      obtain ⟨A, c, rfl⟩ := own_slice hown
      have hrn : r < wz.heap.size := HR.out.walk.lt
      have B2 := hide (HR.out.below.grown hg1 HR.out.below.size (fun k e => by injection e with e; omega))
      have HRd : Hid (∀ W, w1'.grownBy W none → Reads W W.heap.size 1 A xs.length (xs.map ci)) := hide fun W hW => by
        have h1 := (own_reads hown).2
        exact ((h1.below (B2.out.grown hW B2.out.size (by simp))).more (Nat.le_trans B2.out.size hW.size))
      have O1 := hide (HR.out.out.keep (w' := w1') fun i hi hs => hg1.block i hi (fun e => by injection e with e; exact hs.2 e))
      have HAb := hide hab
      have HW1 := hide hw1
      have HS1 := hide (show w1'.heap.size = wz.heap.size from hs1)
      have HLt : Hid ((mdel left k).length < left.length) := hide (by
        have := (perm_mdel hkl hp).length_eq
        simp at this
        omega)
      have HLq := hide HR.out.walk.left_eq
      have hbr : b ≠ r := fun e => HR.out.walk.ne e.symm
      clear hpl hg1 hs1 hkl hpv hmem hp hxs hown hab hw1
      go_wp2_with fail
      have FC : Hid (∀ W, w1'.grownBy W none → W.cell? ⟨w.heap.size + 1, 0, none⟩ = some (.map (some w.heap.size))) := hide fun W hW =>
        (World.cell?_of_block (a := ⟨w.heap.size + 1, 0, none⟩) (hW.block (w.heap.size + 1) O1.out.lt (by simp))).trans ((O1.out.head.cell 0).trans rfl)
      apply wp_region_last 7 _ (hv := [6]) (I := fun W => w1'.grownBy W none) (C := fun W => True) (ss := [_, _, _, _, _, _, _]) rfl (by kernel_rfl) (by kernel_rfl) (by kernel_rfl) (by kernel_rfl) (by kernel_rfl) (by kernel_rfl) (grown_drew w1' none) trivial
      simp only [List.take_succ_cons, List.take_zero]
      iterate 6 (first
        | (apply stWalk_light
           · rfl
           · (intro W hI
              have c0 := FC.out W hI
              clear hI
              go_simp
              with_reducible exact rfl)
           (try simp only [Act.put, List.setIfInBounds_toArray, List.set_cons_zero, List.set_cons_succ])))
      apply stWalk_turn (IsRow xs.length) (Cut w1' xs)
      · rfl
      · exact ⟨_, none, 0, rfl⟩
      · rfl
      · intro W hI hC
        refine gives_append_ints _ _ rfl w1'.heap.size (.slice none 0 0) [] rfl (World.ownsRow_nil _ _ _ _) A xs.length c xs rfl rfl W.heap.size (HRd.out W hI) (by simp; omega) hI.size ?_
        intro v' w' hown' hg' _
        obtain ⟨A', c', rfl⟩ := own_slice hown'
        exact ⟨⟨A', c', rfl⟩, grown_trans hI hg' (by simp [Value.ownBlock]), hown'⟩
      rintro u ⟨A', c', rfl⟩
      (try simp only [Act.put, List.setIfInBounds_toArray, List.set_cons_zero, List.set_cons_succ])
      refine stWalk_nil fun W hI hC => ⟨rfl, gives_mapUpdate key Try.underlying63 _ _ _ rfl rfl k rfl hok (.slice A' xs.length c') rfl (O1.out.map.kept hI (by simp)) fun w3 hm3 hg3 => ?_⟩
      have hsl : sliceAt E2 k = .slice none 0 0 := by unfold sliceAt; rw [HAb.out]; rfl
      have hat := hC.at_
      have O3 := O1.out.put (by rw [hsl]; exact hI) (own_less hC (Nat.zero_le _)) HNe.out HInI.out (by
        rcases hat with e | ⟨q, e, hq⟩
        · exact .inl (by rw [hsl]; exact e)
        · exact .inr ⟨q, e, hq⟩) hm3 hg3
      have hw13 := HS1.out
      have R3 := hide (show CloneR w E b r (w.heap.size + 1) w.heap.size _ (mdel left k) w3 from ⟨(HW1.out.kept hI (by simp) (by simp)).kept hg3 (by simp; omega) (by simp; omega),
        O3.mono fun i hi hs => by
          rcases hs with hs | hs
          · exact hs
          · exact ⟨by have := B2.out.size; omega, by omega⟩, HPn.out _, (B2.out.grown hI B2.out.size (by simp)).grown hg3 (Nat.le_trans B2.out.size hI.size) (fun q e => by injection e with e; omega)⟩)
      clear hI hC hat hm3 hg3 O3 hsl
      (try simp only [Act.put, List.setIfInBounds_toArray, List.set_cons_zero, List.set_cons_succ])
      go_wp2
      go_roundw
      case rel => exact ⟨_, _, R3⟩
      case measure => rw [R3.out.walk.left_eq, HLq.out]; exact HLt.out
end Go.Proofs.Ytccpkafmbmkmfaa.hInt
