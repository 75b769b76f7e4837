/- A region that draws its order, whose turning operations stand in a chain (each waits for those ahead of it): one lexical walk with a word on the world that turns from one to the next. No condition. -/
import Derived.Test.YtccpkafmbmkmfaaRelJoint
namespace Go.Proofs.Ytccpkafmbmkmfaa
open Go
set_option linter.unusedVariables false
set_option linter.unusedSimpArgs false

structure SSpec where
  S : Value → Prop
  R : Value → World → Prop
def chainB (ds : List Nat) (hv : List Nat) : Bool := hv.all fun j => hv.all fun i => !decide (i < j) || depB ds j i
theorem chainB_dep {ds hv : List Nat} (h : chainB ds hv = true) {i j : Nat} (hi : i ∈ hv) (hj : j ∈ hv) (hlt : i < j) : depB ds j i = true := by
  have h1 := List.all_eq_true.1 (List.all_eq_true.1 h j hj) i hi
  simpa [hlt] using h1
def stWalk (P : Program) (ops : Array Oper) (hv : List Nat) (I : World → Prop) (Q : Act → World → Prop) : (World → Prop) → Nat → List Oper → List SSpec → Act → Prop
  | C, _, [], _, a => ∀ w, I w → C w → Q a w
  | _, _, _ :: _, [], _ => False
  | C, i, o :: os, s :: ss, a =>
    (∃ v, s.S v) ∧
    (if i ∈ hv then ∀ w, I w → C w → Region.wanted o (yielded ops a.tmps) = true ∧ Gives P o a w (fun v w' => s.S v ∧ I w' ∧ s.R v w')
     else ∀ w, I w → if Region.wanted o (yielded ops a.tmps) = true then Gives P o a w (fun v w' => s.S v ∧ w' = w) else s.S undef) ∧
    ∀ v, s.S v → stWalk P ops hv I Q (if i ∈ hv then s.R v else C) (i + 1) os ss (a.put o.dst v)
/-- the word at a place -/
def clsAt (hv : List Nat) (vs : Nat → Value) : (World → Prop) → Nat → List SSpec → Nat → World → Prop
  | C, _, _, 0 => C
  | C, _, [], _ + 1 => C
  | C, k, s :: ss, n + 1 => clsAt hv vs (if k ∈ hv then s.R (vs k) else C) (k + 1) ss n
theorem clsAt_same (hv : List Nat) (vs : Nat → Value) : ∀ (ss : List SSpec) (C : World → Prop) (k n m : Nat), n ≤ m → (∀ j ∈ hv, k + n ≤ j → j < k + m → False) → clsAt hv vs C k ss n = clsAt hv vs C k ss m := by
  intro ss
  induction ss with
  | nil => intro C k n m _ _; cases n <;> cases m <;> rfl
  | cons s ss ih =>
    intro C k n m hnm h
    cases n with
    | zero =>
      cases m with
      | zero => rfl
      | succ m =>
        have hk : k ∉ hv := fun hk => h k hk (by omega) (by omega)
        have e := ih C (k + 1) 0 m (by omega) (fun j hj h1 h2 => h j hj (by omega) (by omega))
        simp only [clsAt, if_neg hk] at e ⊢
        rw [← e]
    | succ n =>
      cases m with
      | zero => omega
      | succ m =>
        simp only [clsAt]
        exact ih _ (k + 1) n m (by omega) (fun j hj h1 h2 => h j hj (by omega) (by omega))
theorem clsAt_congr (hv : List Nat) (vs vs' : Nat → Value) : ∀ (ss : List SSpec) (C : World → Prop) (k n : Nat), (∀ j ∈ hv, j < k + n → vs j = vs' j) → clsAt hv vs C k ss n = clsAt hv vs' C k ss n := by
  intro ss
  induction ss with
  | nil => intro C k n _; cases n <;> rfl
  | cons s ss ih =>
    intro C k n h
    cases n with
    | zero => rfl
    | succ n =>
      simp only [clsAt]
      have e : (if k ∈ hv then s.R (vs k) else C) = (if k ∈ hv then s.R (vs' k) else C) := by
        split
        · rename_i hk; rw [h k hk (by omega)]
        · rfl
      rw [e]
      exact ih _ (k + 1) n (fun j hj hlt => h j hj (by omega))
theorem clsAt_turn (hv : List Nat) (vs : Nat → Value) : ∀ (ss : List SSpec) (C : World → Prop) (k n : Nat) (s : SSpec), ss[n]? = some s → k + n ∈ hv → clsAt hv vs C k ss (n + 1) = s.R (vs (k + n)) := by
  intro ss
  induction ss with
  | nil => intro C k n s h; simp at h
  | cons t ss ih =>
    intro C k n s h hk
    cases n with
    | zero =>
      simp at h; subst h
      simp only [Nat.add_zero] at hk ⊢
      simp only [clsAt, if_pos hk]
    | succ n =>
      simp at h
      have := ih (if k ∈ hv then t.R (vs k) else C) (k + 1) n s h (by rw [show k + 1 + n = k + (n + 1) by omega]; exact hk)
      simp only [clsAt] at this ⊢
      rw [this, show k + 1 + n = k + (n + 1) by omega]
theorem stWalk_get {P : Program} {ops : Array Oper} {hv : List Nat} {I : World → Prop} {Q : Act → World → Prop} :
    ∀ (os : List Oper) (ss : List SSpec) (C : World → Prop) (k : Nat) (a : Act), stWalk P ops hv I Q C k os ss a →
    (∀ vs : Nat → Value, (∀ n s, ss[n]? = some s → n < os.length → s.S (vs (k + n))) →
      (∀ n o s, os[n]? = some o → ss[n]? = some s →
        if k + n ∈ hv then ∀ w, I w → clsAt hv vs C k ss n w → Region.wanted o (yielded ops (lay os vs k n a).tmps) = true ∧ Gives P o (lay os vs k n a) w (fun v w' => s.S v ∧ I w' ∧ s.R v w')
        else ∀ w, I w → if Region.wanted o (yielded ops (lay os vs k n a).tmps) = true then Gives P o (lay os vs k n a) w (fun v w' => s.S v ∧ w' = w) else s.S undef) ∧
      (∀ w, I w → clsAt hv vs C k ss os.length w → Q (lay os vs k os.length a) w)) ∧
    (∀ n, n < os.length → ∃ s, ss[n]? = some s ∧ (∃ v, s.S v)) := by
  intro os
  induction os with
  | nil =>
    intro ss C k a h
    refine ⟨fun vs _ => ⟨fun n o s ho => by simp at ho, fun w hI hC => ?_⟩, fun n hn => by simp at hn⟩
    cases ss <;> exact h w hI hC
  | cons x xs ih =>
    intro ss C k a h
    cases ss with
    | nil => exact h.elim
    | cons s ss =>
      obtain ⟨hne, hob, hnx⟩ := h
      refine ⟨fun vs hS => ?_, fun n hn => ?_⟩
      · have hs0 : s.S (vs k) := by simpa using hS 0 s rfl (by simp)
        have hx := (ih ss _ (k + 1) _ (hnx (vs k) hs0)).1 vs (fun n t ht hn => by
          have := hS (n + 1) t (by simpa using ht) (by simpa using hn)
          have e : k + 1 + n = k + (n + 1) := by omega
          rw [e]; exact this)
        constructor
        · intro n o t ho ht
          cases n with
          | zero =>
            simp at ho ht
            subst ho ht
            exact hob
          | succ n =>
            simp at ho ht
            have := hx.1 n o t ho ht
            have e : k + 1 + n = k + (n + 1) := by omega
            rw [e] at this
            exact this
        · intro w hI hC
          exact hx.2 w hI hC
      · cases n with
        | zero => exact ⟨s, rfl, hne⟩
        | succ n =>
          obtain ⟨v, hv'⟩ := hne
          obtain ⟨t, ht, h1⟩ := (ih ss _ (k + 1) _ (hnx v hv')).2 n (by simpa using hn)
          exact ⟨t, by simpa using ht, h1⟩
theorem Gives.mono {P : Program} {o : Oper} {a : Act} {w : World} {X Y : Value → World → Prop} (h : Gives P o a w X) (hXY : ∀ v w', X v w' → Y v w') : Gives P o a w Y := by
  unfold Gives at h ⊢
  generalize (execOp a.eval o).run P w = r at *
  cases r with
  | ok n w' =>
    cases n <;> simp only [givesUpon] at h ⊢
    case value u => exact hXY _ _ h
    case skip => exact hXY _ _ h
    case enter f args => exact Calls.mono h fun e w'' ⟨v, he, hx⟩ => ⟨v, he, hXY _ _ hx⟩
  | halt x w' => simp only [givesUpon] at h
/-- A REGION THAT DRAWS ITS ORDER, WHOSE TURNING OPERATIONS (those of 'hv') STAND IN A CHAIN. 'I' holds throughout; 'C' is the word on the world ahead of the first one. -/
theorem wp_region_stage {P : Program} {l : List Oper} {id : Nat} {Q : Exit → Act → World → Prop} {a : Act} {w : World} (hv : List Nat) (I : World → Prop) (C : World → Prop) (ss : List SSpec)
    (hm : P.follows .mixedOrders = true) (hst : staticB l.toArray (depsL [] l) = true) (hsel : Region.noSelect l.toArray = true) (hch : chainB (depsL [] l) hv = true) (hI : I w.drew) (hC : C w.drew)
    (hw : stWalk P l.toArray hv I (Q .normal) C 0 l ss a) : (Code.region id l.toArray true).wp P Q a w := by
  have hg := stWalk_get l ss C 0 a hw
  have hsat : ∀ vs : Nat → Value, (∀ k, k < l.length → ∀ s, ss[k]? = some s → s.S (vs k)) → (∀ n s, ss[n]? = some s → n < l.length → s.S (vs (0 + n))) := fun vs h n s hs hn => by rw [Nat.zero_add]; exact h n hn s hs
  refine wp_region_joint (fun k v => ∀ s, ss[k]? = some s → s.S v)
    (fun L vs w => I w ∧ ∃ n, n ≤ l.length ∧ (∀ k ∈ hv, k < n → L k = true) ∧ (∀ k ∈ hv, n ≤ k → L k = false) ∧ clsAt hv vs C 0 ss n w)
    hm hst hsel ?_ ?_ ?_ ?_
  · intro k hk
    obtain ⟨s, hs, v, hv'⟩ := hg.2 k hk
    exact ⟨v, fun t ht => by rw [hs] at ht; cases ht; exact hv'⟩
  · intro vs
    exact ⟨hI, 0, Nat.zero_le _, fun k _ h => absurd h (Nat.not_lt_zero _), fun _ _ _ => rfl, by cases ss <;> exact hC⟩
  · intro i o ho L vs w hL hdep hS ⟨hIw, n, hn, h1, h2, hcl⟩
    have hil : i < l.length := (List.getElem?_eq_some_iff.1 ho).1
    obtain ⟨s, hs, _⟩ := hg.2 i hil
    have hob := (hg.1 vs (hsat vs hS)).1 i o s ho hs
    simp only [Nat.zero_add] at hob
    by_cases hiv : i ∈ hv
    · rw [if_pos hiv] at hob
      have hni : n ≤ i := by
        rcases Nat.lt_or_ge i n with hlt | hge
        · have := h1 i hiv hlt; rw [hL] at this; cases this
        · exact hge
      have hnone : ∀ j ∈ hv, 0 + n ≤ j → j < 0 + i → False := by
        intro j hj hj1 hj2
        have e1 := h2 j hj (by omega)
        have e2 := hdep j (chainB_dep hch hj hiv (by omega))
        rw [e1] at e2; cases e2
      rw [clsAt_same hv vs ss C 0 n i hni hnone] at hcl
      obtain ⟨hwt, hgv⟩ := hob w hIw hcl
      rw [if_pos hwt]
      refine hgv.mono fun v w' ⟨hSv, hI', hR⟩ => ⟨fun t ht => by rw [hs] at ht; cases ht; exact hSv, hI', i + 1, hil, ?_, ?_, ?_⟩
      · intro k hk hlt
        by_cases hki : k = i
        · subst hki; simp [more]
        · have := hdep k (chainB_dep hch hk hiv (by omega))
          simp [more, this]
      · intro k hk hlt
        have hki : k ≠ i := by omega
        simp [more, hki, h2 k hk (by omega)]
      · rw [clsAt_turn hv (upd vs i v) ss C 0 i s hs (by rw [Nat.zero_add]; exact hiv)]
        simpa [upd] using hR
    · rw [if_neg hiv] at hob
      have hnx : ∀ v, s.S v → (∀ t, ss[i]? = some t → t.S v) ∧ I w ∧ ∃ n, n ≤ l.length ∧ (∀ k ∈ hv, k < n → more L i k = true) ∧ (∀ k ∈ hv, n ≤ k → more L i k = false) ∧ clsAt hv (upd vs i v) C 0 ss n w := by
        intro v hSv
        refine ⟨fun t ht => by rw [hs] at ht; cases ht; exact hSv, hIw, n, hn, ?_, ?_, ?_⟩
        · intro k hk hlt; simp [more, h1 k hk hlt]
        · intro k hk hlt
          have hki : k ≠ i := fun e => hiv (e ▸ hk)
          simp [more, hki, h2 k hk hlt]
        · rw [clsAt_congr hv (upd vs i v) vs ss C 0 n (fun j hj _ => by
            have hji : j ≠ i := fun e => hiv (e ▸ hj)
            simp [upd, hji])]
          exact hcl
      have hob := hob w hIw
      split
      · rename_i hwt
        rw [if_pos hwt] at hob
        refine hob.mono fun v w' ⟨hSv, e⟩ => ?_
        subst e
        exact hnx v hSv
      · rename_i hwt
        rw [if_neg hwt] at hob
        exact hnx undef hob
  · intro L vs w hL hS ⟨hIw, n, hn, h1, h2, hcl⟩
    have hend := (hg.1 vs (hsat vs hS)).2 w hIw
    rw [← clsAt_same hv vs ss C 0 n l.length hn (fun j hj hj1 hj2 => by
      have e1 := h2 j hj (by omega)
      have e2 := hL j (by omega)
      rw [e1] at e2; cases e2)] at hend
    exact hend hcl

section steps
variable {P : Program} {ops : Array Oper} {hv : List Nat} {I C : World → Prop} {Q : Act → World → Prop} {i : Nat} {o : Oper} {os : List Oper} {ss : List SSpec} {a : Act}
/-- it yields c, wherever it comes, and leaves the world as it is -/
theorem stWalk_light {c : Value} (hi : (decide (i ∈ hv)) = false) (h : ∀ w, I w → if Region.wanted o (yielded ops a.tmps) = true then Gives P o a w (fun v w' => v = c ∧ w' = w) else undef = c)
    (hn : stWalk P ops hv I Q C (i + 1) os ss (a.put o.dst c)) : stWalk P ops hv I Q C i (o :: os) (⟨(· = c), fun _ _ => True⟩ :: ss) a := by
  have hi : i ∉ hv := of_decide_eq_false hi
  refine ⟨⟨c, rfl⟩, ?_, fun v hv' => ?_⟩
  · rw [if_neg hi]; exact h
  · have hv' : v = c := hv'
    subst hv'; rw [if_neg hi]; exact hn
/-- it turns the world, and yields some value of the set S -/
theorem stWalk_turn (S : Value → Prop) (R : Value → World → Prop) (hi : (decide (i ∈ hv)) = true) (hne : ∃ v, S v) (hw : Region.wanted o (yielded ops a.tmps) = true)
    (h : ∀ w, I w → C w → Gives P o a w (fun v w' => S v ∧ I w' ∧ R v w')) (hn : ∀ v, S v → stWalk P ops hv I Q (R v) (i + 1) os ss (a.put o.dst v)) : stWalk P ops hv I Q C i (o :: os) (⟨S, R⟩ :: ss) a := by
  have hi : i ∈ hv := of_decide_eq_true hi
  refine ⟨hne, ?_, fun v hv' => ?_⟩
  · rw [if_pos hi]; exact fun w h1 h2 => ⟨hw, h w h1 h2⟩
  · rw [if_pos hi]; exact hn v hv'
/-- it turns the world, and yields c -/
theorem stWalk_turnc {c : Value} (R : World → Prop) (hi : (decide (i ∈ hv)) = true) (hw : Region.wanted o (yielded ops a.tmps) = true)
    (h : ∀ w, I w → C w → Gives P o a w (fun v w' => v = c ∧ I w' ∧ R w')) (hn : stWalk P ops hv I Q R (i + 1) os ss (a.put o.dst c)) : stWalk P ops hv I Q C i (o :: os) (⟨(· = c), fun _ => R⟩ :: ss) a :=
  stWalk_turn (· = c) (fun _ => R) hi ⟨c, rfl⟩ hw h (fun v hv' => by have hv' : v = c := hv'; subst hv'; exact hn)
theorem stWalk_nil (h : ∀ w, I w → C w → Q a w) : stWalk P ops hv I Q C i [] [] a := h
end steps
end Go.Proofs.Ytccpkafmbmkmfaa
