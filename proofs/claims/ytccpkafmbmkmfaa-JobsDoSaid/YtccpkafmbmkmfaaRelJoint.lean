/- A region that draws its order, by a word that is kept between its operations, whichever of them have come. No condition. -/
import Derived.Test.YtccpkafmbmkmfaaRel
namespace Go.Proofs.Ytccpkafmbmkmfaa
open Go
set_option linter.unusedVariables false
set_option linter.unusedSimpArgs false

/-- one more is listed -/
def more (L : Nat → Bool) (i : Nat) : Nat → Bool := fun k => k == i || L k
def upd (vs : Nat → Value) (i : Nat) (v : Value) : Nat → Value := fun k => if k = i then v else vs k
structure InvJ (ops : Array Oper) (ds : List Nat) (S : Nat → Value → Prop) (J : (Nat → Bool) → (Nat → Value) → World → Prop) (a0 : Act) (listed : Array Bool) (vs : Nat → Value) (a : Act) (w : World) : Prop where
  size : listed.size = ops.size
  closed : ∀ k j, k < ops.size → listed.getD k false = true → depB ds k j = true → listed.getD j false = true
  agree : Agree ops a0 vs (fun k => listed.getD k false = true) a
  sat : ∀ k, k < ops.size → S k (vs k)
  joint : J (fun k => listed.getD k false) vs w

section main
variable {P : Program} {ops : Array Oper} {ds : List Nat} {S : Nat → Value → Prop} {J : (Nat → Bool) → (Nat → Value) → World → Prop} {Q' : Exit → Act → World → Prop} {a0 : Act}
theorem wpAny_joint (hds : ds = depsL [] ops.toList) (hst : staticB ops ds = true) (hsel : ∀ (j : Nat) (o : Oper) cs b, ops[j]? = some o → o.op ≠ .select cs b)
    (hstep0 : ∀ i o, ops[i]? = some o → ∀ L vs w, L i = false → (∀ j, depB ds i j = true → L j = true) → (∀ k, k < ops.size → S k (vs k)) → J L vs w →
      if Region.wanted o (yielded ops (lay ops.toList vs 0 i a0).tmps) = true then Gives P o (lay ops.toList vs 0 i a0) w (fun v w' => S i v ∧ J (more L i) (upd vs i v) w') else S i undef ∧ J (more L i) (upd vs i undef) w)
    (hend0 : ∀ L vs w, (∀ k, k < ops.size → L k = true) → (∀ k, k < ops.size → S k (vs k)) → J L vs w → Q' .normal (lay ops.toList vs 0 ops.size a0) w) :
    ∀ (fuel : Nat) (listed : Array Bool) (vs : Nat → Value) (a : Act) (w : World), InvJ ops ds S J a0 listed vs a w → cnt listed ops.size ≤ fuel → wpAny P .any ops Q' fuel listed a w := by
  -- all are listed: the end
  have hend : ∀ (listed : Array Bool) (vs : Nat → Value) (a : Act) (w : World), InvJ ops ds S J a0 listed vs a w → (∀ k, k < ops.size → listed.getD k false = true) → Q' .normal a w := by
    intro listed vs a w hi hall
    have hx := hend0 _ vs w hall hi.sat hi.joint
    have hag := Agree.lay ops a0 vs ops.size (Nat.le_refl _)
    have e : a = lay ops.toList vs 0 ops.size a0 := by
      refine act_ext (by rw [hi.agree.defers, hag.defers]) (Array.ext_getElem? fun t => ?_)
      exact hi.agree.tmp_eq hag t (fun k o ho _ => ⟨fun _ => (Array.getElem?_eq_some_iff.1 ho).1, fun h => hall k h⟩) (fun _ _ => rfl)
    rw [e]; exact hx
  -- some operation may come up, if not all are listed
  have hsome : ∀ (listed : Array Bool), listed.size = ops.size → Region.ready .any ops listed = [] → ∀ k, k < ops.size → listed.getD k false = true := by
    intro listed hsz hr k
    induction k using Nat.strongRecOn with
    | ind k ih =>
      intro hk
      by_cases hb : listed.getD k false = true
      · exact hb
      · exfalso
        have hko : ops[k]? = some ops[k] := by simp [hk]
        have hmem : k ∈ Region.ready .any ops listed := by
          refine mem_ready.2 ⟨?_, ops[k], hko, fun e he hbd => ?_⟩
          · simp only [Array.getD_eq_getD_getElem?] at hb ⊢
            rw [Array.getElem?_eq_getElem (by omega)] at hb ⊢
            simpa using hb
          · have hlt := staticB_edge hst hko he hbd
            have := ih e.on hlt (by omega)
            simpa using this
        rw [hr] at hmem; cases hmem
  intro fuel
  induction fuel with
  | zero =>
    intro listed vs a w hi hc
    have hall := cnt_zero listed ops.size (by omega)
    refine ⟨?_, hend listed vs a w hi hall⟩
    rw [List.eq_nil_iff_forall_not_mem]
    intro k hk
    obtain ⟨h1, o, ho, _⟩ := mem_ready.1 hk
    have := hall k (Array.getElem?_eq_some_iff.1 ho).1
    simp only [Array.getD_eq_getD_getElem?] at h1 this
    rw [Array.getElem?_eq_getElem (by have := (Array.getElem?_eq_some_iff.1 ho).1; have := hi.size; omega)] at h1 this
    simp at h1 this
    rw [h1] at this; cases this
  | succ fuel ih =>
    intro listed vs a w hi hc
    refine ⟨fun hr => hend listed vs a w hi (hsome listed hi.size hr), fun i hir => ?_⟩
    obtain ⟨hun, oi, hoi, hedge⟩ := mem_ready.1 hir
    have hisz : i < ops.size := (Array.getElem?_eq_some_iff.1 hoi).1
    have hun' : listed.getD i false = false := by
      simp only [Array.getD_eq_getD_getElem?] at hun ⊢
      rw [Array.getElem?_eq_getElem (by have := hi.size; omega)] at hun ⊢
      simpa using hun
    -- what it waits for is listed
    have hdeps : ∀ j, depB ds i j = true → listed.getD j false = true := by
      intro j hj
      unfold depB at hj
      rw [hds] at hj
      obtain ⟨o, ho, e, he, hb, hor⟩ := depsL_spec ops.toList [] [] rfl (by intro i j h; simp at h) i j hj
      simp only [List.nil_append] at ho
      have ho' : ops[i]? = some o := by simpa using ho
      rw [hoi] at ho'; cases ho'
      have hl := hedge e he hb
      rcases hor with h1 | h1
      · rw [← h1]; exact hl
      · have hlt := staticB_edge hst hoi he hb
        exact hi.closed e.on j (by omega) hl (by unfold depB; rw [hds]; exact h1)
    -- the frame at hand and the lexical one look alike to it
    have hag := Agree.lay ops a0 vs i (by omega)
    have hlook : ∀ t, t ∈ oi.looksAt ops → a.tmps[t]? = (lay ops.toList vs 0 i a0).tmps[t]? := by
      intro t ht
      refine hi.agree.tmp_eq hag t (fun k o ho hd => ?_) (fun _ _ => rfl)
      by_cases hki : k = i
      · subst hki; rw [hun']; simp
      · have hx := staticB_dst hst hoi ho (fun h => hki h.symm) hd (.inl ht)
        by_cases hlt : k < i
        · rw [if_pos hlt] at hx
          exact ⟨fun _ => hlt, fun _ => hdeps k hx⟩
        · rw [if_neg hlt] at hx
          refine ⟨fun hl => ?_, fun h => absurd h hlt⟩
          have := hi.closed k i (Array.getElem?_eq_some_iff.1 ho).1 hl hx
          rw [hun'] at this; cases this
    have hexec : execOp a.eval oi = execOp (lay ops.toList vs 0 i a0).eval oi := execOp_congr oi (fun cs b => hsel i oi cs b hoi) (fun x hx => by
      cases x with
      | tmp t =>
        have := hlook t (List.mem_append_left _ (List.mem_filterMap.2 ⟨.tmp t, by simpa using hx, rfl⟩))
        simp only [Act.eval, Array.getD_eq_getD_getElem?, this]
      | _ => rfl)
    have hwant : Region.wanted oi (yielded ops a.tmps) = Region.wanted oi (yielded ops (lay ops.toList vs 0 i a0).tmps) := by
      unfold Region.wanted
      cases hg : oi.guard with
      | none => rfl
      | some gw =>
        obtain ⟨g, want⟩ := gw
        have hy : yielded ops a.tmps g = yielded ops (lay ops.toList vs 0 i a0).tmps g := by
          unfold yielded
          cases ht : (ops[g]?).bind (·.dst) with
          | none => rfl
          | some t =>
            have := hlook t (by simp [Oper.looksAt, hg, ht])
            simp [this]
        simp only [hy]
    have hstep := hstep0 i oi hoi (fun k => listed.getD k false) vs w hun' hdeps hi.sat hi.joint
    -- what is kept behind it
    have hnext : ∀ v w', S i v → J (more (fun k => listed.getD k false) i) (upd vs i v) w' → wpAny P .any ops Q' fuel (listed.setIfInBounds i true) (a.put oi.dst v) w' := by
      intro v w' hS hJ
      have hset : ∀ k, (listed.setIfInBounds i true).getD k false = true ↔ k = i ∨ listed.getD k false = true := by
        intro k
        by_cases hki : k = i
        · subst hki
          have : (listed.setIfInBounds k true).getD k false = true := by
            simp only [Array.getD_eq_getD_getElem?]
            simp [hi.size, hisz]
          simp [this]
        · simp only [Array.getD_eq_getD_getElem?]
          rw [Array.getElem?_setIfInBounds_ne (Ne.symm hki)]
          simp [hki]
      let vs' : Nat → Value := upd vs i v
      refine ih (listed.setIfInBounds i true) vs' (a.put oi.dst v) w' ?_ ?_
      · refine ⟨by simp [hi.size], ?_, ?_, ?_, ?_⟩
        · intro k j hk hl hd
          rw [hset] at hl ⊢
          rcases hl with h1 | h1
          · subst h1; exact .inr (hdeps j hd)
          · exact .inr (hi.closed k j hk h1 hd)
        · refine ⟨by rw [put_defers]; exact hi.agree.defers, by rw [put_size]; exact hi.agree.size, ?_, ?_⟩
          · intro t k o hl ho hd hmax ht
            rw [put_tmps]
            by_cases hit : oi.dst = some t
            · rw [if_pos ⟨hit, by rw [hi.agree.size]; exact ht⟩]
              by_cases hki : k = i
              · subst hki; simp only [vs', upd, if_true]
              · exfalso
                have hlk : listed.getD k false = true := ((hset k).1 hl).resolve_left hki
                have hx := staticB_dst hst hoi ho (fun h => hki h.symm) hd (.inr hit)
                by_cases hlt : k < i
                · exact hmax i oi ((hset i).2 (.inl rfl)) hlt hoi hit
                · rw [if_neg hlt] at hx
                  have := hi.closed k i (Array.getElem?_eq_some_iff.1 ho).1 hlk hx
                  rw [hun'] at this; cases this
            · rw [if_neg (fun h => hit h.1)]
              have hki : k ≠ i := fun h => by subst h; rw [hoi] at ho; cases ho; exact hit hd
              have hlk : listed.getD k false = true := ((hset k).1 hl).resolve_left hki
              have := hi.agree.last t k o hlk ho hd (fun k' o' h1 h2 h3 => hmax k' o' ((hset k').2 (.inr h1)) h2 h3) ht
              rw [this]; simp only [vs', upd, hki, if_false]
          · intro t h
            have hit : oi.dst ≠ some t := h i oi ((hset i).2 (.inl rfl)) hoi
            rw [put_tmps, if_neg (fun h => hit h.1)]
            exact hi.agree.none_ t (fun k o h1 h2 => h k o ((hset k).2 (.inr h1)) h2)
        · intro k hk
          by_cases hki : k = i
          · subst hki; simp only [vs', upd, if_true]; exact hS
          · simp only [vs', upd, hki, if_false]; exact hi.sat k hk
        · have e : (fun k => (listed.setIfInBounds i true).getD k false) = more (fun k => listed.getD k false) i := by
            funext k
            rw [Bool.eq_iff_iff, hset k]
            simp [more]
          rw [e]; exact hJ
      · have := cnt_set listed i (by rw [hi.size]; exact hisz) hun' ops.size
        rw [if_pos hisz] at this
        omega
    unfold wpOp
    simp only [hoi]
    rw [hwant]
    by_cases hwt : Region.wanted oi (yielded ops (lay ops.toList vs 0 i a0).tmps) = true
    · rw [if_pos hwt] at hstep ⊢
      refine .inl (wp_of_gives (X := fun v w' => S i v ∧ J (more (fun k => listed.getD k false) i) (upd vs i v) w') ?_ (fun v w' ⟨h1, h2⟩ => hnext v w' h1 h2))
      unfold Gives at hstep ⊢
      rw [hexec]
      exact hstep
    · rw [if_neg hwt] at hstep ⊢
      exact hnext undef w hstep.1 hstep.2
end main
/-- A REGION THAT DRAWS ITS ORDER, by a word that is kept between its operations, whichever have come: each is shown to keep it. -/
theorem wp_region_joint {P : Program} {l : List Oper} {id : Nat} {Q : Exit → Act → World → Prop} {a : Act} {w : World} (S : Nat → Value → Prop) (J : (Nat → Bool) → (Nat → Value) → World → Prop)
    (hm : P.follows .mixedOrders = true) (hst : staticB l.toArray (depsL [] l) = true) (hsel : Region.noSelect l.toArray = true) (hne : ∀ k, k < l.length → ∃ v, S k v)
    (hJ : ∀ vs, J (fun _ => false) vs w.drew)
    (hstep : ∀ i o, l[i]? = some o → ∀ L vs w, L i = false → (∀ j, depB (depsL [] l) i j = true → L j = true) → (∀ k, k < l.length → S k (vs k)) → J L vs w →
      if Region.wanted o (yielded l.toArray (lay l vs 0 i a).tmps) = true then Gives P o (lay l vs 0 i a) w (fun v w' => S i v ∧ J (more L i) (upd vs i v) w') else S i undef ∧ J (more L i) (upd vs i undef) w)
    (hend : ∀ L vs w, (∀ k, k < l.length → L k = true) → (∀ k, k < l.length → S k (vs k)) → J L vs w → Q .normal (lay l vs 0 l.length a) w) : (Code.region id l.toArray true).wp P Q a w := by
  refine wp_region_any hm ?_
  let vs : Nat → Value := fun k => @dite _ (∃ v, S k v) (Classical.propDecidable _) (fun h => h.choose) (fun _ => undef)
  have hvs : ∀ k, k < l.length → S k (vs k) := by
    intro k hk
    have h := hne k hk
    have : vs k = h.choose := by simp only [vs]; rw [dif_pos h]
    rw [this]
    exact h.choose_spec
  have hf : ∀ k, (Array.replicate l.toArray.size false).getD k false = false := by
    intro k
    simp only [Array.getD_eq_getD_getElem?, Array.getElem?_replicate]
    split <;> rfl
  refine wpAny_joint (ops := l.toArray) (ds := depsL [] l) (S := S) (J := J) (a0 := a) (by simp) hst (Region.noSelect_spec hsel) (by simpa using hstep) (by simpa using hend) l.toArray.size (Array.replicate l.toArray.size false) vs a w.drew ?_ ?_
  · refine ⟨by simp, (fun k j _ h => absurd ((hf k).symm.trans h) (by simp)), ⟨rfl, rfl, (fun t k o h => absurd ((hf k).symm.trans h) (by simp)), fun t _ => rfl⟩, by simpa using hvs, ?_⟩
    have e : (fun k => (Array.replicate l.toArray.size false).getD k false) = fun _ => false := funext hf
    rw [e]; exact hJ vs
  · rw [cnt_init]; exact Nat.le_refl _
end Go.Proofs.Ytccpkafmbmkmfaa
