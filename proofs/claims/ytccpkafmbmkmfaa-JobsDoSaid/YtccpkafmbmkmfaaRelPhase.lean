/- A region that draws its order: one lexical walk, at worlds of a class that may hang on which operations have come. No condition. -/
import Derived.Test.YtccpkafmbmkmfaaRelJoint
namespace Go.Proofs.Ytccpkafmbmkmfaa
open Go
set_option linter.unusedVariables false
set_option linter.unusedSimpArgs false

/-- operation i may come up: it has not come, all that it waits for has; what has come has all that it waited for -/
structure Lok (ds : List Nat) (L : Nat → Bool) (i : Nat) : Prop where
  no : L i = false
  deps : ∀ j, depB ds i j = true → L j = true
  closed : ∀ k j, L k = true → depB ds k j = true → L j = true
/-- what waits for i has not come -/
theorem Lok.later {ds : List Nat} {L : Nat → Bool} {i k : Nat} (h : Lok ds L i) (hk : depB ds k i = true) : L k = false := by
  cases e : L k with
  | false => rfl
  | true => have := h.closed k i e hk; rw [h.no] at this; cases this
theorem more_ne {L : Nat → Bool} {i k : Nat} (h : k ≠ i) : more L i k = L k := by simp [more, h]
theorem more_eq {L : Nat → Bool} {i : Nat} : more L i i = true := by simp [more]
def phWalk (P : Program) (ops : Array Oper) (ds : List Nat) (C : (Nat → Bool) → World → Prop) (M : World → World → Prop) (Q : Act → World → Prop) : Nat → List Oper → List RSpec → List (Nat × (World → Prop)) → Act → Prop
  | i, [], _, fs, a => ∀ L w, (∀ k, k < i → L k = true) → C L w → factsAll fs w → Q a w
  | _, _ :: _, [], _, _ => False
  | i, o :: os, s :: ss, fs, a =>
    (∃ v, s.S v) ∧ (∀ v w w', M w w' → s.R v w → s.R v w') ∧
    (∀ L w, Lok ds L i → C L w → facts ds i fs w → if Region.wanted o (yielded ops a.tmps) then Gives P o a w (fun v w' => s.S v ∧ s.R v w' ∧ C (more L i) w' ∧ M w w') else s.S undef ∧ s.R undef w ∧ C (more L i) w ∧ M w w) ∧
    ∀ v, s.S v → phWalk P ops ds C M Q (i + 1) os ss (if s.keep then (i, s.R v) :: fs else fs) (a.put o.dst v)
theorem phWalk_get {P : Program} {ops : Array Oper} {ds : List Nat} {C : (Nat → Bool) → World → Prop} {M : World → World → Prop} {Q : Act → World → Prop} :
    ∀ (os : List Oper) (ss : List RSpec) (k : Nat) (fs : List (Nat × (World → Prop))) (a : Act), phWalk P ops ds C M Q k os ss fs a →
    (∀ vs : Nat → Value, (∀ n s, ss[n]? = some s → n < os.length → s.S (vs (k + n))) →
      (∀ n o s, os[n]? = some o → ss[n]? = some s → ∀ L w, Lok ds L (k + n) → C L w → facts ds (k + n) fs w → (∀ m t, m < n → ss[m]? = some t → depB ds (k + n) (k + m) = true → t.R (vs (k + m)) w) →
        if Region.wanted o (yielded ops (lay os vs k n a).tmps) then Gives P o (lay os vs k n a) w (fun v w' => s.S v ∧ s.R v w' ∧ C (more L (k + n)) w' ∧ M w w') else s.S undef ∧ s.R undef w ∧ C (more L (k + n)) w ∧ M w w) ∧
      (∀ L w, (∀ m, m < k + os.length → L m = true) → C L w → factsAll fs w → (∀ m t, m < os.length → ss[m]? = some t → t.R (vs (k + m)) w) → Q (lay os vs k os.length a) w)) ∧
    (∀ n, n < os.length → ∃ s, ss[n]? = some s ∧ (∃ v, s.S v) ∧ (∀ v w w', M w w' → s.R v w → s.R v w')) := by
  intro os
  induction os with
  | nil =>
    intro ss k fs a h
    refine ⟨fun vs _ => ⟨fun n o s ho => by simp at ho, fun L w hL hC hF _ => ?_⟩, fun n hn => by simp at hn⟩
    cases ss <;> exact h L w (by simpa using hL) hC hF
  | cons x xs ih =>
    intro ss k fs a h
    cases ss with
    | nil => exact h.elim
    | cons s ss =>
      obtain ⟨hne, hst, hob, hnx⟩ := h
      refine ⟨fun vs hS => ?_, fun n hn => ?_⟩
      · have hs0 : s.S (vs k) := by simpa using hS 0 s rfl (by simp)
        have hx := (ih ss (k + 1) _ _ (hnx (vs k) hs0)).1 vs (fun n t ht hn => by
          have := hS (n + 1) t (by simpa using ht) (by simpa using hn)
          have e : k + 1 + n = k + (n + 1) := by omega
          rw [e]; exact this)
        constructor
        · intro n o t ho ht L w hL hC hF hR
          cases n with
          | zero =>
            simp at ho ht
            subst ho ht
            exact hob L w hL hC hF
          | succ n =>
            simp at ho ht
            have e : k + 1 + n = k + (n + 1) := by omega
            have := hx.1 n o t ho ht L w (by rw [e]; exact hL) hC ?_ ?_
            · rw [e] at this; exact this
            · rw [e]
              split
              · exact ⟨fun hd => by have := hR 0 s (by omega) rfl; simpa using this hd, hF⟩
              · exact hF
            · intro m u hm hu hd
              have e1 : k + 1 + m = k + (m + 1) := by omega
              rw [e1, e] at hd
              rw [e1]
              exact hR (m + 1) u (by omega) (by simpa using hu) hd
        · intro L w hL hC hF hR
          have := hx.2 L w (fun m hm => hL m (by simp; omega)) hC ?_ ?_
          · exact this
          · split
            · exact ⟨by have := hR 0 s (by simp) rfl; simpa using this, hF⟩
            · exact hF
          · intro m u hm hu
            have e1 : k + 1 + m = k + (m + 1) := by omega
            rw [e1]
            exact hR (m + 1) u (by simpa using hm) (by simpa using hu)
      · cases n with
        | zero => exact ⟨s, rfl, hne, hst⟩
        | succ n =>
          obtain ⟨v, hv⟩ := hne
          obtain ⟨t, ht, h1⟩ := (ih ss (k + 1) _ _ (hnx v hv)).2 n (by simpa using hn)
          exact ⟨t, by simpa using ht, h1⟩
/-- A REGION THAT DRAWS ITS ORDER, walked once; the class of worlds hangs on what has come -/
theorem wp_region_phase {P : Program} {l : List Oper} {id : Nat} {Q : Exit → Act → World → Prop} {a : Act} {w : World} (C : (Nat → Bool) → World → Prop) (M : World → World → Prop) (ss : List RSpec)
    (hm : P.follows .mixedOrders = true) (hst : staticB l.toArray (depsL [] l) = true) (hsel : Region.noSelect l.toArray = true) (hC : C (fun _ => false) w.drew)
    (hw : phWalk P l.toArray (depsL [] l) C M (Q .normal) 0 l ss [] a) : (Code.region id l.toArray true).wp P Q a w := by
  have hg := phWalk_get l ss 0 [] a hw
  refine wp_region_joint (fun k v => ∀ s, ss[k]? = some s → s.S v) (fun L vs w => C L w ∧ (∀ k j, L k = true → depB (depsL [] l) k j = true → L j = true) ∧ ∀ k s, k < l.length → ss[k]? = some s → L k = true → s.R (vs k) w) hm hst hsel ?_ ?_ ?_ ?_
  · intro k hk
    obtain ⟨s, hs, ⟨v, hv⟩, _⟩ := hg.2 k hk
    exact ⟨v, fun t ht => by rw [hs] at ht; cases ht; exact hv⟩
  · exact fun vs => ⟨hC, (fun k j h _ => absurd h (by simp)), (fun k s _ _ h => absurd h (by simp))⟩
  · intro i o ho L vs w hL hd hS ⟨hC, hcl, hR⟩
    have hi : i < l.length := (List.getElem?_eq_some_iff.1 ho).1
    obtain ⟨s, hs, _, hstb⟩ := hg.2 i hi
    have h1 := (hg.1 vs (fun n t ht hn => by rw [Nat.zero_add]; exact hS n hn t ht)).1 i o s ho hs L w (by rw [Nat.zero_add]; exact ⟨hL, hd, hcl⟩) hC trivial (fun m t hm ht hdep => by
      rw [Nat.zero_add, Nat.zero_add] at hdep
      rw [Nat.zero_add]
      exact hR m t (by omega) ht (hd m hdep))
    rw [Nat.zero_add] at h1
    have hJ : ∀ v w', s.R v w' → C (more L i) w' → M w w' → (C (more L i) w' ∧ (∀ k j, more L i k = true → depB (depsL [] l) k j = true → more L i j = true) ∧ ∀ k s, k < l.length → ss[k]? = some s → more L i k = true → s.R (upd vs i v k) w') := by
      intro v w' hRv hCw hMw
      refine ⟨hCw, fun k j hk hdep => ?_, fun k t hk ht hmk => ?_⟩
      · have : L j = true := by
          by_cases e : k = i
          · subst e; exact hd j hdep
          · rw [more_ne e] at hk; exact hcl k j hk hdep
        simp [more, this]
      · by_cases e : k = i
        · subst e
          rw [hs] at ht; cases ht
          simpa [upd] using hRv
        · rw [more_ne e] at hmk
          obtain ⟨t', ht', _, hstb'⟩ := hg.2 k hk
          rw [ht] at ht'; cases ht'
          have := hstb' _ _ _ hMw (hR k t hk ht hmk)
          simpa [upd, e] using this
    split
    · rename_i hwt
      rw [if_pos hwt] at h1
      unfold Gives at h1 ⊢
      generalize (execOp (lay l vs 0 i a).eval o).run P w = r at *
      have hS' : ∀ v, s.S v → ∀ t, ss[i]? = some t → t.S v := fun v hv t ht => by rw [hs] at ht; cases ht; exact hv
      cases r with
      | ok n w' =>
        cases n <;> simp only [givesUpon] at h1 ⊢
        case value u => exact ⟨hS' _ h1.1, hJ _ _ h1.2.1 h1.2.2.1 h1.2.2.2⟩
        case skip => exact ⟨hS' _ h1.1, hJ _ _ h1.2.1 h1.2.2.1 h1.2.2.2⟩
        case enter f args => exact h1.mono fun e w'' ⟨v, he, h⟩ => ⟨v, he, hS' _ h.1, hJ _ _ h.2.1 h.2.2.1 h.2.2.2⟩
      | halt x w' => simp only [givesUpon] at h1
    · rename_i hwt
      rw [if_neg hwt] at h1
      exact ⟨fun t ht => by rw [hs] at ht; cases ht; exact h1.1, hJ _ _ h1.2.1 h1.2.2.1 h1.2.2.2⟩
  · intro L vs w hall hS ⟨hC, _, hR⟩
    exact (hg.1 vs (fun n t ht hn => by rw [Nat.zero_add]; exact hS n hn t ht)).2 L w (fun m hm => hall m (by simpa using hm)) hC trivial (fun m t hm ht => by rw [Nat.zero_add]; exact hR m t hm ht (hall m hm))

section steps
variable {P : Program} {ops : Array Oper} {ds : List Nat} {C : (Nat → Bool) → World → Prop} {M : World → World → Prop} {Q : Act → World → Prop} {i : Nat} {o : Oper} {os : List Oper} {ss : List RSpec} {fs : List (Nat × (World → Prop))} {a : Act}
/-- it yields c, and leaves the world as it is -/
theorem phWalk_const {c : Value} (hM : ∀ w, M w w) (hC : ∀ L w, C L w → C (more L i) w) (h : ∀ L w, Lok ds L i → C L w → facts ds i fs w → if Region.wanted o (yielded ops a.tmps) = true then Gives P o a w (fun v w' => v = c ∧ w' = w) else undef = c)
    (hn : phWalk P ops ds C M Q (i + 1) os ss fs (a.put o.dst c)) : phWalk P ops ds C M Q i (o :: os) (constSpec c :: ss) fs a := by
  refine ⟨⟨c, rfl⟩, fun _ _ _ _ _ => trivial, fun L w hL hCw hF => ?_, fun v hv => ?_⟩
  · have := h L w hL hCw hF
    split
    · rename_i hw
      rw [if_pos hw] at this
      unfold Gives at this ⊢
      generalize (execOp a.eval o).run P w = r at *
      cases r with
      | ok n w' =>
        cases n <;> simp only [givesUpon] at this ⊢
        case value u => obtain ⟨h1, h2⟩ := this; subst h1; subst h2; exact ⟨rfl, trivial, hC _ _ hCw, hM _⟩
        case skip => obtain ⟨h1, h2⟩ := this; subst h2; exact ⟨h1, trivial, hC _ _ hCw, hM _⟩
        case enter f args => exact this.mono fun e w'' ⟨v, he, h1, h2⟩ => ⟨v, he, h1, trivial, h2 ▸ hC _ _ hCw, h2 ▸ hM _⟩
      | halt x w' => simp only [givesUpon] at this
    · rename_i hw
      rw [if_neg hw] at this
      exact ⟨this, trivial, hC _ _ hCw, hM _⟩
  · have hv : v = c := hv
    subst hv; exact hn
/-- it yields c; the world may turn -/
theorem phWalk_constW {c : Value} (hw : Region.wanted o (yielded ops a.tmps) = true) (h : ∀ L w, Lok ds L i → C L w → facts ds i fs w → Gives P o a w (fun v w' => v = c ∧ C (more L i) w' ∧ M w w'))
    (hn : phWalk P ops ds C M Q (i + 1) os ss fs (a.put o.dst c)) : phWalk P ops ds C M Q i (o :: os) (constSpec c :: ss) fs a := by
  refine ⟨⟨c, rfl⟩, fun _ _ _ _ _ => trivial, fun L w hL hCw hF => ?_, fun v hv => ?_⟩
  · rw [if_pos hw]
    have := h L w hL hCw hF
    unfold Gives at this ⊢
    generalize (execOp a.eval o).run P w = r at *
    cases r with
    | ok n w' =>
      cases n <;> simp only [givesUpon] at this ⊢
      case value u => exact ⟨this.1, trivial, this.2⟩
      case skip => exact ⟨this.1, trivial, this.2⟩
      case enter f args => exact this.mono fun e w'' ⟨v, he, h1, h2⟩ => ⟨v, he, h1, trivial, h2⟩
    | halt x w' => simp only [givesUpon] at this
  · have hv : v = c := hv
    subst hv; exact hn
/-- it yields some value of the set S, of which R is known from then on -/
theorem phWalk_rel (S : Value → Prop) (R : Value → World → Prop) (hne : ∃ v, S v) (hst : ∀ v w w', M w w' → R v w → R v w') (hw : Region.wanted o (yielded ops a.tmps) = true)
    (h : ∀ L w, Lok ds L i → C L w → facts ds i fs w → Gives P o a w (fun v w' => S v ∧ R v w' ∧ C (more L i) w' ∧ M w w'))
    (hn : ∀ v, S v → phWalk P ops ds C M Q (i + 1) os ss ((i, R v) :: fs) (a.put o.dst v)) : phWalk P ops ds C M Q i (o :: os) (relSpec S R :: ss) fs a := by
  refine ⟨hne, hst, fun L w hL hC hF => ?_, fun v hv => hn v hv⟩
  rw [if_pos hw]
  exact h L w hL hC hF
theorem phWalk_nil (h : ∀ L w, (∀ k, k < i → L k = true) → C L w → factsAll fs w → Q a w) : phWalk P ops ds C M Q i [] [] fs a := h
end steps
end Go.Proofs.Ytccpkafmbmkmfaa
