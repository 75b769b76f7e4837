/- A region that draws its order, but for its last operations: the first by one lexical walk, in which each operation is shown at whatever world of a class, the last one behind the other. No condition. -/
import Derived.Test.YtccpkafmbmkmfaaRel
import Derived.StillTail
namespace Go.Proofs.Ytccpkafmbmkmfaa
open Go
set_option linter.unusedVariables false
set_option linter.unusedSimpArgs false

structure InvT (ops : Array Oper) (ds : List Nat) (C : World → Prop) (a0 : Act) (ss : List RSpec) (n : Nat) (listed : Array Bool) (vs : Nat → Value) (a : Act) (w : World) : Prop where
  size : listed.size = ops.size
  closed : ∀ k j, k < ops.size → listed.getD k false = true → depB ds k j = true → listed.getD j false = true
  agree : Agree ops a0 vs (fun k => listed.getD k false = true) a
  sat : ∀ k s, ss[k]? = some s → k < n → s.S (vs k)
  rel : ∀ k s, ss[k]? = some s → k < n → listed.getD k false = true → s.R (vs k) w
  cls : C w
  tail : ∀ t, n ≤ t → listed.getD t false = false

theorem lay_take (vs : Nat → Value) : ∀ (os : List Oper) (k n i : Nat) (a : Act), i ≤ n → lay (os.take n) vs k i a = lay os vs k i a := by
  intro os
  induction os with
  | nil => intro k n i a h; simp
  | cons o os ih =>
    intro k n i a h
    cases i with
    | zero => simp [lay]
    | succ i =>
      cases n with
      | zero => omega
      | succ n => simp only [List.take_succ_cons, lay]; exact ih (k + 1) n i _ (by omega)
/-- the first n are listed, and no others -/
def canon (m n : Nat) : Array Bool := ((List.range m).map fun k => decide (k < n)).toArray
/-- each of the last waits for each of the first, and they come one behind the other -/
def tailB (ops : Array Oper) (ds : List Nat) (n : Nat) : Bool :=
  decide (n ≤ ops.size) && ((List.range ops.size).all fun j => decide (j < n) || (List.range n).all fun i => depB ds j i) && Region.seqB .any ops (ops.size - n) n (canon ops.size n)
theorem canon_eq {listed : Array Bool} {m n : Nat} (hs : listed.size = m) (h1 : ∀ k, k < n → listed.getD k false = true) (h2 : ∀ t, n ≤ t → listed.getD t false = false) : listed = canon m n := by
  apply Array.ext_getElem?
  intro k
  by_cases hk : k < m
  · have e : (canon m n)[k]? = some (decide (k < n)) := by simp [canon, hk]
    rw [e, Array.getElem?_eq_getElem (by omega)]
    by_cases hn : k < n
    · have := h1 k hn
      simp only [Array.getD_eq_getD_getElem?] at this
      rw [Array.getElem?_eq_getElem (by omega)] at this
      simpa [hn] using this
    · have := h2 k (by omega)
      simp only [Array.getD_eq_getD_getElem?] at this
      rw [Array.getElem?_eq_getElem (by omega)] at this
      simpa [hn] using this
  · rw [Array.getElem?_eq_none (by omega), Array.getElem?_eq_none (by simp [canon]; omega)]

section main
variable {P : Program} {ops : Array Oper} {ds : List Nat} {C : World → Prop} {M : World → World → Prop} {Q' : Exit → Act → World → Prop} {a0 : Act} {ss : List RSpec}
theorem wpAny_relT {n : Nat} (hT : tailB ops ds n = true) (hds : ds = depsL [] ops.toList) (hst : staticB ops ds = true) (hsel : ∀ (j : Nat) (o : Oper) cs b, ops[j]? = some o → o.op ≠ .select cs b)
    (hw : relWalk P ops ds C M (fun a w => wpList P ops Q' (ops.toList.drop n) a w) 0 (ops.toList.take n) ss [] a0) :
    ∀ (fuel : Nat) (listed : Array Bool) (vs : Nat → Value) (a : Act) (w : World), InvT ops ds C a0 ss n listed vs a w → cnt listed n = fuel → wpAny P .any ops Q' (fuel + (ops.size - n)) listed a w := by
  simp only [tailB, Bool.and_eq_true, decide_eq_true_eq] at hT
  obtain ⟨⟨hnsz, hTd⟩, hTs⟩ := hT
  have hlen : (ops.toList.take n).length = n := by simp; omega
  have htail : ∀ j i, j < ops.size → n ≤ j → i < n → depB ds j i = true := fun j i hj hn hi => by
    have h1 := List.all_eq_true.1 hTd j (by simpa using hj)
    simp only [Bool.or_eq_true, decide_eq_true_eq] at h1
    rcases h1 with h1 | h1
    · omega
    · exact List.all_eq_true.1 h1 i (by simpa using hi)
  have hgetk : ∀ k, k < n → (ops.toList.take n)[k]? = ops[k]? := fun k hk => by simp [hk]
  obtain ⟨hget, hspec⟩ := relWalk_get (ops.toList.take n) ss 0 [] a0 hw
  -- all of the first are listed
  have hend : ∀ (listed : Array Bool) (vs : Nat → Value) (a : Act) (w : World), InvT ops ds C a0 ss n listed vs a w → (∀ k, k < n → listed.getD k false = true) → wpAny P .any ops Q' (ops.size - n) listed a w := by
    intro listed vs a w hi hall
    have hx := (hget vs (fun m s h1 h2 => by rw [Nat.zero_add]; exact hi.sat m s h1 (by omega))).2 w hi.cls trivial (fun m t h1 h2 => by
      have h1' : m < n := by omega
      rw [Nat.zero_add]; exact hi.rel m t h2 h1' (hall m h1'))
    rw [hlen, lay_take vs ops.toList 0 n n a0 (Nat.le_refl _)] at hx
    have hag := Agree.lay ops a0 vs n hnsz
    have e : a = lay ops.toList vs 0 n a0 := by
      refine act_ext (by rw [hi.agree.defers, hag.defers]) (Array.ext_getElem? fun t => ?_)
      refine hi.agree.tmp_eq hag t (fun k o ho _ => ⟨fun h => ?_, fun h => hall k h⟩) (fun _ _ => rfl)
      rcases Nat.lt_or_ge k n with h1 | h1
      · exact h1
      · rw [hi.tail k h1] at h; cases h
    rw [← e] at hx
    have hc := canon_eq hi.size hall hi.tail
    have hd : (ops.toList.drop n).length = ops.size - n := by simp
    have := wpAny_of_seq (md := .any) (Q' := Q') (ops.toList.drop n) n listed a w (fun j => by simp [List.getElem?_drop]) (by rw [hd, hc]; exact hTs) hx
    rwa [hd] at this
  -- some operation may come up, if not all are listed
  have hsome : ∀ (listed : Array Bool), listed.size = ops.size → Region.ready .any ops listed = [] → ∀ k, k < ops.size → listed.getD k false = true := by
    intro listed hsz hr k
    induction k using Nat.strongRecOn with
    | ind k ih =>
      intro hk
      by_cases hb : listed.getD k false = true
      · exact hb
      · exfalso
        have hko : ops[k]? = some ops[k] := by simp [hk]
        have hmem : k ∈ Region.ready .any ops listed := by
          refine mem_ready.2 ⟨?_, ops[k], hko, fun e he hbd => ?_⟩
          · simp only [Array.getD_eq_getD_getElem?] at hb ⊢
            rw [Array.getElem?_eq_getElem (by omega)] at hb ⊢
            simpa using hb
          · have hlt := staticB_edge hst hko he hbd
            have := ih e.on hlt (by omega)
            simpa using this
        rw [hr] at hmem; cases hmem
  intro fuel
  induction fuel with
  | zero =>
    intro listed vs a w hi hc
    rw [Nat.zero_add]
    exact hend listed vs a w hi (cnt_zero listed n hc)
  | succ fuel ih =>
    intro listed vs a w hi hc
    have hnot : ¬ ∀ k, k < n → listed.getD k false = true := fun hall => by
      have : ∀ m, m ≤ n → cnt listed m = 0 := by
        intro m
        induction m with
        | zero => intro _; rfl
        | succ m ihm => intro hm; simp [cnt, ihm (by omega), hall m (by omega)]
      have := this n (Nat.le_refl _)
      omega
    rw [show fuel + 1 + (ops.size - n) = (fuel + (ops.size - n)) + 1 by omega]
    refine ⟨fun hr => absurd (fun k hk => hsome listed hi.size hr k (by omega)) hnot, fun i hir => ?_⟩
    obtain ⟨hun, oi, hoi, hedge⟩ := mem_ready.1 hir
    have hisz : i < ops.size := (Array.getElem?_eq_some_iff.1 hoi).1
    have hun' : listed.getD i false = false := by
      simp only [Array.getD_eq_getD_getElem?] at hun ⊢
      rw [Array.getElem?_eq_getElem (by have := hi.size; omega)] at hun ⊢
      simpa using hun
    -- what it waits for is listed
    have hdeps : ∀ j, depB ds i j = true → listed.getD j false = true := by
      intro j hj
      unfold depB at hj
      rw [hds] at hj
      obtain ⟨o, ho, e, he, hb, hor⟩ := depsL_spec ops.toList [] [] rfl (by intro i j h; simp at h) i j hj
      simp only [List.nil_append] at ho
      have ho' : ops[i]? = some o := by simpa using ho
      rw [hoi] at ho'; cases ho'
      have hl := hedge e he hb
      rcases hor with h1 | h1
      · rw [← h1]; exact hl
      · have hlt := staticB_edge hst hoi he hb
        exact hi.closed e.on j (by omega) hl (by unfold depB; rw [hds]; exact h1)
    have hin : i < n := by
      rcases Nat.lt_or_ge i n with h1 | h1
      · exact h1
      · exact absurd (fun k hk => hdeps k (htail i k hisz h1 hk)) hnot
    obtain ⟨s, hs, hne, hstab⟩ := hspec i (by omega)
    -- the frame at hand and the lexical one look alike to it
    have hag := Agree.lay ops a0 vs i (by omega)
    have hlook : ∀ t, t ∈ oi.looksAt ops → a.tmps[t]? = (lay ops.toList vs 0 i a0).tmps[t]? := by
      intro t ht
      refine hi.agree.tmp_eq hag t (fun k o ho hd => ?_) (fun _ _ => rfl)
      by_cases hki : k = i
      · subst hki; rw [hun']; simp
      · have hx := staticB_dst hst hoi ho (fun h => hki h.symm) hd (.inl ht)
        by_cases hlt : k < i
        · rw [if_pos hlt] at hx
          exact ⟨fun _ => hlt, fun _ => hdeps k hx⟩
        · rw [if_neg hlt] at hx
          refine ⟨fun hl => ?_, fun h => absurd h hlt⟩
          have := hi.closed k i (Array.getElem?_eq_some_iff.1 ho).1 hl hx
          rw [hun'] at this; cases this
    have hexec : execOp a.eval oi = execOp (lay ops.toList vs 0 i a0).eval oi := execOp_congr oi (fun cs b => hsel i oi cs b hoi) (fun x hx => by
      cases x with
      | tmp t =>
        have := hlook t (List.mem_append_left _ (List.mem_filterMap.2 ⟨.tmp t, by simpa using hx, rfl⟩))
        simp only [Act.eval, Array.getD_eq_getD_getElem?, this]
      | _ => rfl)
    have hwant : Region.wanted oi (yielded ops a.tmps) = Region.wanted oi (yielded ops (lay ops.toList vs 0 i a0).tmps) := by
      unfold Region.wanted
      cases hg : oi.guard with
      | none => rfl
      | some gw =>
        obtain ⟨g, want⟩ := gw
        have hy : yielded ops a.tmps g = yielded ops (lay ops.toList vs 0 i a0).tmps g := by
          unfold yielded
          cases ht : (ops[g]?).bind (·.dst) with
          | none => rfl
          | some t =>
            have := hlook t (by simp [Oper.looksAt, hg, ht])
            simp [this]
        simp only [hy]
    have hstep := (hget vs (fun m s h1 h2 => by rw [Nat.zero_add]; exact hi.sat m s h1 (by omega))).1 i oi s (by rw [hgetk i hin]; exact hoi) hs w hi.cls trivial (fun m t h1 h2 h3 => by
      simp only [Nat.zero_add] at h3 ⊢
      exact hi.rel m t h2 (by omega) (hdeps m h3))
    rw [lay_take vs ops.toList 0 n i a0 (by omega)] at hstep
    -- what is kept behind it
    have hnext : ∀ v w', s.S v → s.R v w' → C w' → M w w' → wpAny P .any ops Q' (fuel + (ops.size - n)) (listed.setIfInBounds i true) (a.put oi.dst v) w' := by
      intro v w' hS hR hC hM
      have hset : ∀ k, (listed.setIfInBounds i true).getD k false = true ↔ k = i ∨ listed.getD k false = true := by
        intro k
        by_cases hki : k = i
        · subst hki
          have : (listed.setIfInBounds k true).getD k false = true := by
            simp only [Array.getD_eq_getD_getElem?]
            simp [hi.size, hisz]
          simp [this]
        · simp only [Array.getD_eq_getD_getElem?]
          rw [Array.getElem?_setIfInBounds_ne (Ne.symm hki)]
          simp [hki]
      let vs' : Nat → Value := fun k => if k = i then v else vs k
      refine ih (listed.setIfInBounds i true) vs' (a.put oi.dst v) w' ?_ ?_
      · refine ⟨by simp [hi.size], ?_, ?_, ?_, ?_, hC, ?_⟩
        · intro k j hk hl hd
          rw [hset] at hl ⊢
          rcases hl with h1 | h1
          · subst h1; exact .inr (hdeps j hd)
          · exact .inr (hi.closed k j hk h1 hd)
        · refine ⟨by rw [put_defers]; exact hi.agree.defers, by rw [put_size]; exact hi.agree.size, ?_, ?_⟩
          · intro t k o hl ho hd hmax ht
            rw [put_tmps]
            by_cases hit : oi.dst = some t
            · rw [if_pos ⟨hit, by rw [hi.agree.size]; exact ht⟩]
              by_cases hki : k = i
              · subst hki; simp only [vs', if_true]
              · exfalso
                have hlk : listed.getD k false = true := ((hset k).1 hl).resolve_left hki
                have hx := staticB_dst hst hoi ho (fun h => hki h.symm) hd (.inr hit)
                by_cases hlt : k < i
                · exact hmax i oi ((hset i).2 (.inl rfl)) hlt hoi hit
                · rw [if_neg hlt] at hx
                  have := hi.closed k i (Array.getElem?_eq_some_iff.1 ho).1 hlk hx
                  rw [hun'] at this; cases this
            · rw [if_neg (fun h => hit h.1)]
              have hki : k ≠ i := fun h => by subst h; rw [hoi] at ho; cases ho; exact hit hd
              have hlk : listed.getD k false = true := ((hset k).1 hl).resolve_left hki
              have := hi.agree.last t k o hlk ho hd (fun k' o' h1 h2 h3 => hmax k' o' ((hset k').2 (.inr h1)) h2 h3) ht
              rw [this]; simp only [vs', hki, if_false]
          · intro t h
            have hit : oi.dst ≠ some t := h i oi ((hset i).2 (.inl rfl)) hoi
            rw [put_tmps, if_neg (fun h => hit h.1)]
            exact hi.agree.none_ t (fun k o h1 h2 => h k o ((hset k).2 (.inr h1)) h2)
        · intro k t ht hk
          by_cases hki : k = i
          · subst hki; rw [hs] at ht; cases ht; simp only [vs', if_true]; exact hS
          · simp only [vs', hki, if_false]; exact hi.sat k t ht hk
        · intro k t ht hk hl
          by_cases hki : k = i
          · subst hki; rw [hs] at ht; cases ht; simp only [vs', if_true]; exact hR
          · simp only [vs', hki, if_false]
            obtain ⟨t', ht', _, hst'⟩ := hspec k (by omega)
            rw [ht] at ht'; cases ht'
            exact hst' _ _ _ hM (hi.rel k t ht hk (((hset k).1 hl).resolve_left hki))
        · intro t ht
          have hti : t ≠ i := by omega
          cases hb : (listed.setIfInBounds i true).getD t false with
          | false => rfl
          | true => rw [(((hset t).1 hb).resolve_left hti).symm.trans (hi.tail t ht)]
      · have := cnt_set listed i (by rw [hi.size]; exact hisz) hun' n
        rw [if_pos hin] at this
        omega
    unfold wpOp
    simp only [hoi]
    rw [hwant]
    by_cases hwt : Region.wanted oi (yielded ops (lay ops.toList vs 0 i a0).tmps) = true
    · rw [if_pos hwt] at hstep ⊢
      refine .inl (wp_of_gives (X := fun v w' => s.S v ∧ s.R v w' ∧ C w' ∧ M w w') ?_ (fun v w' ⟨h1, h2, h3, h4⟩ => hnext v w' h1 h2 h3 h4))
      unfold Gives at hstep ⊢
      rw [hexec]
      exact hstep
    · rw [if_neg hwt] at hstep ⊢
      exact hnext undef w hstep.1 hstep.2.1 hi.cls hstep.2.2
end main
/-- A REGION THAT DRAWS ITS ORDER, BUT FOR ITS LAST OPERATIONS, WHICH WAIT FOR ALL OTHERS: the first by one lexical walk, the last one behind the other. -/
theorem wp_region_relT {P : Program} {l : List Oper} {id : Nat} {Q : Exit → Act → World → Prop} {a : Act} {w : World} (n : Nat) (C : World → Prop) (M : World → World → Prop) (ss : List RSpec)
    (hm : P.follows .mixedOrders = true) (hst : staticB l.toArray (depsL [] l) = true) (hsel : Region.noSelect l.toArray = true) (hT : tailB l.toArray (depsL [] l) n = true) (hC : C w.drew)
    (hw : relWalk P l.toArray (depsL [] l) C M (fun a w => wpList P l.toArray Q (l.drop n) a w) 0 (l.take n) ss [] a) : (Code.region id l.toArray true).wp P Q a w := by
  refine wp_region_any hm ?_
  have hnl : n ≤ l.length := by
    simp only [tailB, Bool.and_eq_true, decide_eq_true_eq] at hT
    simpa using hT.1.1
  have hsp := (relWalk_get (l.take n) ss 0 [] a hw).2
  let vs : Nat → Value := fun k => @dite _ (∃ v, ∃ s, ss[k]? = some s ∧ s.S v) (Classical.propDecidable _) (fun h => h.choose) (fun _ => undef)
  have hvs : ∀ k s, ss[k]? = some s → k < n → s.S (vs k) := by
    intro k s hs hk
    obtain ⟨s', hs', hne, _⟩ := hsp k (by simp; omega)
    rw [hs] at hs'; cases hs'
    obtain ⟨v, hv⟩ := hne
    have h : ∃ v, ∃ s, ss[k]? = some s ∧ s.S v := ⟨v, s, hs, hv⟩
    have : vs k = h.choose := by simp only [vs]; rw [dif_pos h]
    rw [this]
    obtain ⟨s'', h1, h2⟩ := h.choose_spec
    rw [hs] at h1; cases h1; exact h2
  have hf : ∀ k, (Array.replicate l.toArray.size false).getD k false = false := by
    intro k
    simp only [Array.getD_eq_getD_getElem?, Array.getElem?_replicate]
    split <;> rfl
  have := wpAny_relT (P := P) (ops := l.toArray) (ds := depsL [] l) (C := C) (M := M) (Q' := Q) (a0 := a) (ss := ss) hT (by simp) hst (Region.noSelect_spec hsel) (by simpa using hw) n (Array.replicate l.toArray.size false) vs a w.drew
    ⟨by simp, (fun k j _ h => absurd ((hf k).symm.trans h) (by simp)), ⟨rfl, rfl, (fun t k o h => absurd ((hf k).symm.trans h) (by simp)), fun t _ => rfl⟩, hvs, (fun k s _ _ h => absurd ((hf k).symm.trans h) (by simp)), hC, fun t _ => hf t⟩ (cnt_init _ _)
  rw [show n + (l.toArray.size - n) = l.toArray.size by simp; omega] at this
  exact this
end Go.Proofs.Ytccpkafmbmkmfaa
