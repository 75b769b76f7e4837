/- A region that draws its order, whose last operation waits for all others: the others by one lexical walk (wp_region_stage's), with a word that holds until the last one. No condition. -/
import Derived.Test.YtccpkafmbmkmfaaRelStage
namespace Go.Proofs.Ytccpkafmbmkmfaa
open Go
set_option linter.unusedVariables false
set_option linter.unusedSimpArgs false

def lastB (ds : List Nat) (n : Nat) : Bool := (List.range n).all fun i => depB ds n i
theorem lastB_dep {ds : List Nat} {n i : Nat} (h : lastB ds n = true) (hi : i < n) : depB ds n i = true := List.all_eq_true.1 h i (by simpa using hi)
theorem lay_take' (vs : Nat → Value) : ∀ (os : List Oper) (k n i : Nat) (a : Act), i ≤ n → lay (os.take n) vs k i a = lay os vs k i a := by
  intro os
  induction os with
  | nil => intro k n i a h; simp
  | cons o os ih =>
    intro k n i a h
    cases i with
    | zero => simp [lay]
    | succ i =>
      cases n with
      | zero => omega
      | succ n => simp only [List.take_succ_cons, lay]; exact ih (k + 1) n i _ (by omega)
/-- THE LAST OPERATION WAITS FOR ALL OTHERS; 'I' holds ahead of it, 'C' is the word ahead of the first turning one. -/
theorem wp_region_last {P : Program} {l : List Oper} {id : Nat} {Q : Exit → Act → World → Prop} {a : Act} {w : World} (n : Nat) (o : Oper) (hv : List Nat) (I : World → Prop) (C : World → Prop) (ss : List SSpec)
    (hl : l.drop n = [o]) (hm : P.follows .mixedOrders = true) (hst : staticB l.toArray (depsL [] l) = true) (hsel : Region.noSelect l.toArray = true) (hch : chainB (depsL [] l) hv = true) (hlt : (hv.all fun k => decide (k < n)) = true)
    (hla : lastB (depsL [] l) n = true) (hI : I w.drew) (hC : C w.drew)
    (hw : stWalk P l.toArray hv I (fun a w => Region.wanted o (yielded l.toArray a.tmps) = true ∧ Gives P o a w (fun v w' => Q .normal (a.put o.dst v) w')) C 0 (l.take n) ss a) : (Code.region id l.toArray true).wp P Q a w := by
  have hlen : l.length = n + 1 := by
    have h1 := congrArg List.length hl
    simp at h1; omega
  have hno : l[n]? = some o := by
    have h1 := congrArg (fun x => x[0]?) hl
    simpa using h1
  have htl : (l.take n).length = n := by simp; omega
  have hget : ∀ k, k < n → (l.take n)[k]? = l[k]? := fun k hk => by simp [hk]
  have hltn : ∀ k ∈ hv, k < n := fun k hk => by simpa using List.all_eq_true.1 hlt k hk
  have hg := stWalk_get (l.take n) ss C 0 a hw
  have hsat : ∀ vs : Nat → Value, (∀ k, k < l.length → ∀ s, k < n → ss[k]? = some s → s.S (vs k)) → (∀ m s, ss[m]? = some s → m < (l.take n).length → s.S (vs (0 + m))) := fun vs h m s hs hm => by
    rw [Nat.zero_add]; exact h m (by omega) s (by omega) hs
  refine wp_region_joint (fun k v => ∀ s, k < n → ss[k]? = some s → s.S v)
    (fun L vs w => (L n = false → I w ∧ ∃ m, m ≤ n ∧ (∀ k ∈ hv, k < m → L k = true) ∧ (∀ k ∈ hv, m ≤ k → L k = false) ∧ clsAt hv vs C 0 ss m w) ∧ (L n = true → (∀ k, k < n → L k = true) ∧ Q .normal (lay l vs 0 l.length a) w))
    hm hst hsel ?_ ?_ ?_ ?_
  · intro k hk
    by_cases hkn : k < n
    · obtain ⟨s, hs, v, hv'⟩ := hg.2 k (by omega)
      exact ⟨v, fun t _ ht => by rw [hs] at ht; cases ht; exact hv'⟩
    · exact ⟨undef, fun t h _ => absurd h hkn⟩
  · intro vs
    exact ⟨fun _ => ⟨hI, 0, Nat.zero_le _, fun k _ h => absurd h (Nat.not_lt_zero _), fun _ _ _ => rfl, by cases ss <;> exact hC⟩, fun h => by cases h⟩
  · intro i op hop L vs w hL hdep hS hJ
    have hil : i < l.length := (List.getElem?_eq_some_iff.1 hop).1
    by_cases hin : i < n
    · -- one of the first
      have hLn : L n = false := by
        cases hb : L n with
        | false => rfl
        | true => have := (hJ.2 hb).1 i hin; rw [hL] at this; cases this
      obtain ⟨hIw, m, hmn, h1, h2, hcl⟩ := hJ.1 hLn
      obtain ⟨s, hs, _⟩ := hg.2 i (by omega)
      have hob := (hg.1 vs (hsat vs hS)).1 i op s (by rw [hget i hin]; exact hop) hs
      simp only [Nat.zero_add] at hob
      rw [lay_take' vs l 0 n i a (by omega)] at hob
      have hni : n ≠ i := by omega
      by_cases hiv : i ∈ hv
      · rw [if_pos hiv] at hob
        have hmi : m ≤ i := by
          rcases Nat.lt_or_ge i m with hlt' | hge
          · have := h1 i hiv hlt'; rw [hL] at this; cases this
          · exact hge
        have hnone : ∀ j ∈ hv, 0 + m ≤ j → j < 0 + i → False := by
          intro j hj hj1 hj2
          have e1 := h2 j hj (by omega)
          have e2 := hdep j (chainB_dep hch hj hiv (by omega))
          rw [e1] at e2; cases e2
        rw [clsAt_same hv vs ss C 0 m i hmi hnone] at hcl
        obtain ⟨hwt, hgv⟩ := hob w hIw hcl
        rw [if_pos hwt]
        refine hgv.mono fun v w' ⟨hSv, hI', hR⟩ => ⟨fun t _ ht => by rw [hs] at ht; cases ht; exact hSv, fun _ => ⟨hI', i + 1, by omega, ?_, ?_, ?_⟩, fun h => ?_⟩
        · intro k hk hlt'
          by_cases hki : k = i
          · subst hki; simp [more]
          · have := hdep k (chainB_dep hch hk hiv (by omega))
            simp [more, this]
        · intro k hk hlt'
          have hki : k ≠ i := by omega
          simp [more, hki, h2 k hk (by omega)]
        · rw [clsAt_turn hv (upd vs i v) ss C 0 i s hs (by rw [Nat.zero_add]; exact hiv)]
          simpa [upd] using hR
        · simp [more, hni, hLn] at h
      · rw [if_neg hiv] at hob
        have hnx : ∀ v, s.S v → (∀ t, i < n → ss[i]? = some t → t.S v) ∧ ((more L i n = false → I w ∧ ∃ m, m ≤ n ∧ (∀ k ∈ hv, k < m → more L i k = true) ∧ (∀ k ∈ hv, m ≤ k → more L i k = false) ∧ clsAt hv (upd vs i v) C 0 ss m w) ∧
            (more L i n = true → (∀ k, k < n → more L i k = true) ∧ Q .normal (lay l (upd vs i v) 0 l.length a) w)) := by
          intro v hSv
          refine ⟨fun t _ ht => by rw [hs] at ht; cases ht; exact hSv, fun _ => ⟨hIw, m, hmn, ?_, ?_, ?_⟩, fun h => ?_⟩
          · intro k hk hlt'; simp [more, h1 k hk hlt']
          · intro k hk hlt'
            have hki : k ≠ i := fun e => hiv (e ▸ hk)
            simp [more, hki, h2 k hk hlt']
          · rw [clsAt_congr hv (upd vs i v) vs ss C 0 m (fun j hj _ => by
              have hji : j ≠ i := fun e => hiv (e ▸ hj)
              simp [upd, hji])]
            exact hcl
          · simp [more, hni, hLn] at h
        have hob := hob w hIw
        split
        · rename_i hwt
          rw [if_pos hwt] at hob
          refine hob.mono fun v w' ⟨hSv, e⟩ => ?_
          subst e
          exact hnx v hSv
        · rename_i hwt
          rw [if_neg hwt] at hob
          exact hnx undef hob
    · -- the last one
      obtain rfl : i = n := by omega
      rw [hno] at hop; cases hop
      have hall : ∀ k, k < i → L k = true := fun k hk => hdep k (lastB_dep hla hk)
      obtain ⟨hIw, m, hmn, h1, h2, hcl⟩ := hJ.1 hL
      have hend := (hg.1 vs (hsat vs hS)).2 w hIw
      rw [htl, ← clsAt_same hv vs ss C 0 m i hmn (fun j hj hj1 hj2 => by
        have e1 := h2 j hj (by omega)
        have e2 := hall j (hltn j hj)
        rw [e1] at e2; cases e2)] at hend
      obtain ⟨hwt, hgv⟩ := hend hcl
      rw [lay_take' vs l 0 i i a (Nat.le_refl _)] at hwt hgv
      rw [if_pos hwt]
      refine hgv.mono fun v w' hq => ⟨fun t h _ => absurd h (Nat.lt_irrefl _), fun h => by simp [more] at h, fun _ => ⟨fun k hk => by simp [more, hall k hk], ?_⟩⟩
      rw [hlen, lay_snoc (upd vs i v) l 0 i a o hno]
      have e : lay l (upd vs i v) 0 i a = lay l vs 0 i a := by
        have : ∀ (os : List Oper) (k m : Nat) (a : Act), k + m ≤ i → lay os (upd vs i v) k m a = lay os vs k m a := by
          intro os
          induction os with
          | nil => intro k m a _; cases m <;> rfl
          | cons o os ih =>
            intro k m a hkm
            cases m with
            | zero => rfl
            | succ m =>
              simp only [lay]
              have hne : k ≠ i := by omega
              rw [ih (k + 1) m _ (by omega)]
              simp [upd, hne]
        exact this l 0 i a (by omega)
      rw [e]
      simpa [upd] using hq
  · intro L vs w hL hS hJ
    exact (hJ.2 (hL n (by omega))).2
end Go.Proofs.Ytccpkafmbmkmfaa
