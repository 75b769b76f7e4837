/- Package hints at int keys: Note. No condition but that arguments fit their kinds. -/
import Derived.Test.YtccpkafmbmkmfaaHintsHasInt
import Derived.Test.YtccpkafmbmkmfaaHintsOps
import Derived.Deep.Cut
namespace Go.Proofs.Ytccpkafmbmkmfaa.hInt
open Go.RowKit
set_option linter.unusedVariables false
set_option linter.unusedSimpArgs false
attribute [local go_sem] Gives givesUpon
attribute [local irreducible] Gives

/-- what is noted behind a Note -/
def noteC (C : Noted Int) (k : Int) (v : Int) : Noted Int := if v ∈ valsOf C k then C else mput C k (valsOf C k ++ [v])
def IsRow1 (u : Value) : Prop := ∃ r, u = .slice (some ⟨r, 0, none⟩) 1 1
def Built (w0 : World) (v : Int) (u : Value) (W : World) : Prop := ∃ r, u = .slice (some ⟨r, 0, none⟩) 1 1 ∧ w0.heap.size ≤ r ∧ Blk W r 3 #[.int .i64 v] ∧ w0.grownBy W none
def IsRow (n : Nat) (u : Value) : Prop := ∃ A c, u = .slice A n c
def Grew (w0 : World) (rb : Option Nat) (xs : List Int) (u : Value) (W : World) : Prop := W.ownsRow 0 3 1 u xs.length (xs.map ci) ∧ (u.ownBlock = rb ∨ ∃ r, u.ownBlock = some r ∧ w0.heap.size ≤ r)
theorem grown_drew (w : World) (row : Option Nat) : w.grownBy w.drew row := ⟨rfl, rfl, rfl, Nat.le_refl _, fun _ _ _ => rfl⟩
theorem grown_trans {a b c : World} {row row' : Option Nat} (h : a.grownBy b row) (k : b.grownBy c row') (hr : ∀ j, row' = some j → a.heap.size ≤ j ∨ row = some j) : a.grownBy c row := h.andThen k hr
theorem hkk (k : Int) : (k != k) = false := by simp
set_option maxRecDepth 100000 in
set_option maxHeartbeats 1600000 in
theorem note_any (w : World) (S : Nat → Prop) (g b : Nat) (E : Kept Int) (k : Int) (hk : ok k) (v : Int) (hv : -9223372036854775808 ≤ v ∧ v ≤ 9223372036854775807) (h : IdxIs w S fk ok TI g b (totalOf (notedOf E) : Int) E) (ht : totalOf (notedOf E) ≤ 549755813888) :
    Calls Try.prog 27 #[.pointer (some ⟨g, 0, none⟩), fk k, .int .i64 v] w fun e w' => e = .returned (.bool (decide (v ∉ valsOf (notedOf E) k))) ∧ Idx w' (fun i => S i ∨ w.heap.size ≤ i) fk ok TI g b (noteC (notedOf E) k v) ∧ Touch S w w' := by
  have hkE := noted_keys h.keysE
  have hxl : (valsOf (notedOf E) k).length ≤ 549755813888 := Nat.le_trans (vals_le _ hkE k) ht
  have HN := hide (none_live g b (.int .i64 (totalOf (notedOf E) : Int)) w h.head)
  have HH := hide (has_any (some ⟨g, 0, none⟩) k v (valsOf (notedOf E) k) (h.inI k) (by omega) w (tells_live hk h (by omega)))
  have kk := hkk k
  by_cases hm : v ∈ valsOf (notedOf E) k
  · rw [decide_eq_true hm] at HH
    have e1 : noteC (notedOf E) k v = notedOf E := by rw [noteC, if_pos hm]
    rw [e1, decide_eq_false (by simpa using hm)]
    have H := hide h
    clear h hm e1 hxl hkE
    go_enter Try.func27, Try.ntmps27
    go_wp2_with (first
      | (go_at_call 79; (with_reducible refine HN.out.mono ?_); rintro e w0 ⟨rfl, rfl⟩)
      | (go_at_call 31; (with_reducible refine HH.out.mono ?_); rintro e w1 ⟨rfl, hb1⟩; have B1 := hide hb1; clear hb1)
      | fail)
    go_ret
    exact ⟨rfl, ⟨E, rfl, (H.out.below B1.out).mono fun i _ hs => .inl hs⟩, Touch.of_below B1.out⟩
  · rw [decide_eq_false hm] at HH
    have e1 : noteC (notedOf E) k v = mput (notedOf E) k (valsOf (notedOf E) k ++ [v]) := by rw [noteC, if_neg hm]
    rw [e1, decide_eq_true (by simpa using hm)]
    have H := hide h
    have e2 := sum_put (notedOf E) hkE k (valsOf (notedOf E) k ++ [v])
    have e3 : totalOf (mput (notedOf E) k (valsOf (notedOf E) k ++ [v])) = totalOf (notedOf E) + 1 := by
      rw [List.length_append, List.length_singleton] at e2; omega
    have E3 := hide e3
    obtain ⟨t, htt⟩ : ∃ t, t = totalOf (notedOf E) := ⟨_, rfl⟩
    rw [← htt] at H ht e3 E3
    obtain ⟨xs, hxs⟩ : ∃ xs, xs = valsOf (notedOf E) k := ⟨_, rfl⟩
    have HO := hide (h.own k)
    rw [← hxs] at hxl HO E3
    have HXs := hide hxs
    clear h hm e1 hkE e2 e3 htt hxs
    go_enter Try.func27, Try.ntmps27
    go_upto_region 3 with (first
      | (go_at_call 79; (with_reducible refine HN.out.mono ?_); rintro e w0 ⟨rfl, rfl⟩)
      | (go_at_call 31; (with_reducible refine HH.out.mono ?_); rintro e w1 ⟨rfl, hb1⟩; have B1 := hide hb1; clear hb1)
      | fail)
    obtain ⟨A, c, hs⟩ := own_slice HO.out
    have HS := hide hs
    have H1 := hide (H.out.below B1.out)
    obtain ⟨rb, hrb⟩ : ∃ r, r = (sliceAt E k).ownBlock := ⟨_, rfl⟩
    have HRB := hide hrb
    have HO1 := hide (H1.out.own k)
    rw [← HXs.out, hs] at HO1
    have HF := hide (fun r (hr : (sliceAt E k).ownBlock = some r) => H1.out.footAt k hr)
    have NB : Hid (some b ≠ rb) := hide fun e => (HF.out b (by rw [← HRB.out]; exact e.symm)).2.2.1 rfl
    have FC : Hid (∀ W, w1.grownBy W rb → W.cell? ⟨g, 0, none⟩ = some (.map (some b))) := hide fun W hW =>
      (World.cell?_of_block (a := ⟨g, 0, none⟩) (hW.block g H1.out.lt (fun e => (HF.out g (by rw [← HRB.out]; exact e.symm)).2.1 rfl))).trans ((H1.out.head.cell 0).trans rfl)
    have FL : Hid (∀ W, w1.grownBy W rb → (Instr.lookup 63 (.map (some b)) (fk k) false).run Try.prog W = .ok (.slice A xs.length c) W) := hide fun W hW => by
      have := (H1.out.map.kept hW NB.out).lookup key Try.underlying63 hk false (zero_ints W)
      rw [sliceAt_eq, HS.out] at this; exact this
    clear hs hrb HN HH kk
    apply wp_region_last 14 _ (hv := [12, 13]) (I := fun W => w1.grownBy W rb) (C := fun W => w1.grownBy W none) (ss := [_, _, _, _, _, _, _, _, _, _, _, _, _, _]) rfl (by kernel_rfl) (by kernel_rfl) (by kernel_rfl) (by kernel_rfl) (by kernel_rfl) (by kernel_rfl) (grown_drew w1 rb) (grown_drew w1 none)
    simp only [List.take_succ_cons, List.take_zero]
    repeat (first
      | (apply stWalk_light
         · rfl
         · (intro W hI
            have c0 := FC.out W hI
            have fl := FL.out W hI
            clear hI
            go_simp
            with_reducible exact rfl)
         (try simp only [Act.put, List.setIfInBounds_toArray, List.set_cons_zero, List.set_cons_succ])))
    apply stWalk_turn IsRow1 (Built w1 v)
    · rfl
    · exact ⟨_, 0, rfl⟩
    · rfl
    · intro W hI hC
      refine gives_build_int _ rfl v rfl ⟨⟨_, rfl⟩, grown_trans hI (World.grownBy_alloc W _ none) (by simp), _, rfl, hI.size, Blk.new W _ _, grown_trans hC (World.grownBy_alloc W _ none) (by simp)⟩
    rintro u ⟨r, rfl⟩
    (try simp only [Act.put, List.setIfInBounds_toArray, List.set_cons_zero, List.set_cons_succ])
    apply stWalk_turn (IsRow (xs ++ [v]).length) (Grew w1 rb (xs ++ [v]))
    · rfl
    · exact ⟨_, none, 0, rfl⟩
    · rfl
    · intro W hI hC
      obtain ⟨r', e, hr, hB, hg0⟩ := hC
      cases e
      have hown : W.ownsRow 0 3 1 (.slice A xs.length c) xs.length (xs.map ci) := own_block HO1.out fun q hq => hg0.block q (own_lt HO1.out hq).2 (by simp)
      refine gives_append_ints _ _ rfl 0 (.slice A xs.length c) xs rfl hown (some ⟨r, 0, none⟩) 1 1 [v] rfl rfl (r + 1) ⟨rfl, fun _ => ⟨_, rfl, by simp, fun j x hx => ?_⟩⟩ (by omega) (Nat.zero_le _) ?_
      · rw [Addr.add_lit, Nat.zero_add, hB.cell]
        simpa using hx
      · intro v' w' hown' hg' hat
        obtain ⟨A', c', rfl⟩ := own_slice hown'
        refine ⟨⟨A', c', rfl⟩, grown_trans hI hg' ?_, hown', ?_⟩
        · intro j e; exact .inr (by rw [HRB.out, HS.out]; exact e)
        · rcases hat with e | e
          · exact .inl (by rw [HRB.out, HS.out]; exact e)
          · exact .inr ⟨_, e, hI.size⟩
    rintro u ⟨A', c', rfl⟩
    (try simp only [Act.put, List.setIfInBounds_toArray, List.set_cons_zero, List.set_cons_succ])
    refine stWalk_nil fun W hI hC => ⟨rfl, gives_mapUpdate key Try.underlying63 _ _ _ rfl rfl k rfl hk (.slice A' (xs ++ [v]).length c') rfl (H1.out.map.kept hI NB.out) fun w2 hm2 hg2 => ?_⟩
    have hin : InI (xs ++ [v]) := fun x hx => by
      rcases List.mem_append.1 hx with hx | hx
      · have := H1.out.inI k; rw [← HXs.out] at this; exact this x hx
      · simp at hx; subst hx; exact hv
    have H2 := hide (H1.out.put (by rw [← HRB.out]; exact hI) hC.1 (by simp) hin (by rw [← HRB.out]; exact hC.2) hm2 hg2)
    have HT := hide (show Touch S w w2 from ((Touch.of_below B1.out).trans (S' := S) (Touch.of_grown hI fun r hr => (HF.out r (by rw [← HRB.out]; exact hr)).1) (fun i _ hi => hi)).trans (S' := S) (Touch.of_grown hg2 fun r hr => by injection hr with hr; exact hr ▸ H1.out.sb) (fun i _ hi => hi))
    have c1 : w2.cell? ⟨g, 1, none⟩ = some (.int .i64 (t : Int)) := (H2.out.head.cell 1).trans rfl
    have f1 := H2.out.head.frozen 1
    clear hI hC hm2 hg2 hin FC FL HO1 HO HF NB
    (try simp only [Act.put, List.setIfInBounds_toArray, List.set_cons_zero, List.set_cons_succ])
    go_wp2
    go_ret
    refine ⟨rfl, ⟨mput E k (.slice A' (xs ++ [v]).length c', xs ++ [v]), ?_, ?_⟩, HT.out.setCell (p := ⟨g, 1, none⟩) H1.out.sg _⟩
    · rw [noted_put, HXs.out]
    · have := H2.out.setN ((t : Int) + 1)
      rw [HXs.out] at E3
      have e4 : ((totalOf (mput (notedOf E) k (valsOf (notedOf E) k ++ [v])) : Nat) : Int) = (t : Int) + 1 := by rw [E3.out]; omega
      rw [e4]
      exact this.mono fun i _ hi => hi.imp id fun h => Nat.le_trans B1.out.size h
end Go.Proofs.Ytccpkafmbmkmfaa.hInt
