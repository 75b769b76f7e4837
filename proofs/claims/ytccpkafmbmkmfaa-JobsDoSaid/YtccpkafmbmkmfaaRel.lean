/- A region that draws its order: one lexical walk, in which each operation is shown at whatever world of a class, serves every order. No condition. -/
import Derived.Orders
import Derived.Tactics
import Derived.KernelRfl
namespace Go.Proofs.Ytccpkafmbmkmfaa
open Go
set_option linter.unusedVariables false

/-! ### what an operation gives -/
def givesUpon (P : Program) (X : Value → World → Prop) : Result Next → Prop
  | .ok (.value v) w' => X v w'
  | .ok .skip w' => X undef w'
  | .ok (.enter f args) w' => Calls P f args w' fun e w'' => ∃ v, e = .returned v ∧ X v w''
  | _ => False
def Gives (P : Program) (o : Oper) (a : Act) (w : World) (X : Value → World → Prop) : Prop := givesUpon P X ((execOp a.eval o).run P w)

theorem wp_of_gives {P : Program} {o : Oper} {a : Act} {w : World} {X : Value → World → Prop} {K : Act → World → Prop} {Q : Exit → Act → World → Prop}
    (h : Gives P o a w X) (hk : ∀ v w', X v w' → K (a.put o.dst v) w') : o.wp P a w K Q := by
  unfold Gives at h
  unfold Oper.wp
  generalize (execOp a.eval o).run P w = r at *
  cases r with
  | ok n w' =>
    cases n <;> simp only [givesUpon] at h <;> simp only [Oper.upon]
    case value u => exact hk _ _ h
    case skip => exact hk _ _ h
    case enter f args => exact h.mono fun e w'' ⟨v, he, hx⟩ => by subst he; exact hk _ _ hx
  | halt x w' => simp only [givesUpon] at h

/-! ### which operation comes behind which -/
def deps1 (acc : List Nat) (o : Oper) : Nat := o.after.toList.foldl (fun s e => if Region.binds .any e then s ||| (2 ^ e.on ||| acc.getD e.on 0) else s) 0
def depsL : List Nat → List Oper → List Nat
  | acc, [] => acc
  | acc, o :: os => depsL (acc ++ [deps1 acc o]) os
def depB (ds : List Nat) (i j : Nat) : Bool := (ds.getD i 0).testBit j

theorem deps1_spec (acc : List Nat) (o : Oper) (j : Nat) (h : (deps1 acc o).testBit j = true) : ∃ e ∈ o.after, Region.binds .any e = true ∧ (e.on = j ∨ (acc.getD e.on 0).testBit j = true) := by
  have key : ∀ (l : List Edge) (s : Nat), (l.foldl (fun s e => if Region.binds .any e then s ||| (2 ^ e.on ||| acc.getD e.on 0) else s) s).testBit j = true →
      s.testBit j = true ∨ ∃ e ∈ l, Region.binds .any e = true ∧ (e.on = j ∨ (acc.getD e.on 0).testBit j = true) := by
    intro l
    induction l with
    | nil => intro s h; exact .inl h
    | cons e l ih =>
      intro s h
      simp only [List.foldl_cons] at h
      rcases ih _ h with h1 | ⟨e', he', hb⟩
      · by_cases hb : Region.binds .any e = true
        · rw [if_pos hb, Nat.testBit_or, Nat.testBit_or] at h1
          simp only [Bool.or_eq_true] at h1
          rcases h1 with h1 | h1 | h1
          · exact .inl h1
          · exact .inr ⟨e, by simp, hb, .inl (by rw [Nat.testBit_two_pow] at h1; simpa using h1)⟩
          · exact .inr ⟨e, by simp, hb, .inr h1⟩
        · rw [if_neg hb] at h1; exact .inl h1
      · exact .inr ⟨e', by simp [he'], hb⟩
  rcases key o.after.toList 0 h with h | ⟨e, he, hb⟩
  · simp at h
  · exact ⟨e, by simpa using he, hb⟩

theorem depsL_spec : ∀ (os : List Oper) (acc : List Nat) (pre : List Oper), acc.length = pre.length →
    (∀ i j, ((acc.getD i 0).testBit j = true) → ∃ o, pre[i]? = some o ∧ ∃ e ∈ o.after, Region.binds .any e = true ∧ (e.on = j ∨ (acc.getD e.on 0).testBit j = true)) →
    ∀ i j, (((depsL acc os).getD i 0).testBit j = true) → ∃ o, (pre ++ os)[i]? = some o ∧ ∃ e ∈ o.after, Region.binds .any e = true ∧ (e.on = j ∨ ((depsL acc os).getD e.on 0).testBit j = true) := by
  intro os
  induction os with
  | nil => intro acc pre _ h i j hij; simpa [depsL] using h i j hij
  | cons o os ih =>
    intro acc pre hl h i j hij
    have e : pre ++ o :: os = (pre ++ [o]) ++ os := by simp
    rw [e]
    simp only [depsL] at hij ⊢
    refine ih (acc ++ [deps1 acc o]) (pre ++ [o]) (by simp [hl]) ?_ i j hij
    intro i j hij
    have up : ∀ k, (acc.getD k 0).testBit j = true → ((acc ++ [deps1 acc o]).getD k 0).testBit j = true := by
      intro k hk
      by_cases hk' : k < acc.length
      · have e : (acc ++ [deps1 acc o]).getD k 0 = acc.getD k 0 := by simp [List.getD, List.getElem?_append_left hk']
        rw [e]; exact hk
      · have : acc.getD k 0 = 0 := by simp [List.getD, hk']
        rw [this] at hk; simp at hk
    by_cases hi : i < acc.length
    · have e0 : (acc ++ [deps1 acc o]).getD i 0 = acc.getD i 0 := by simp [List.getD, List.getElem?_append_left hi]
      rw [e0] at hij
      obtain ⟨o', ho', e', he', hb, hor⟩ := h i j hij
      refine ⟨o', ?_, e', he', hb, hor.imp id (up _)⟩
      rw [List.getElem?_append_left (by omega)]; exact ho'
    · by_cases hi2 : i = acc.length
      · subst hi2
        have : (acc ++ [deps1 acc o]).getD acc.length 0 = deps1 acc o := by simp [List.getD]
        rw [this] at hij
        obtain ⟨e', he', hb, hor⟩ := deps1_spec acc o j hij
        exact ⟨o, by rw [hl]; simp, e', he', hb, hor.imp id (up _)⟩
      · have : (acc ++ [deps1 acc o]).getD i 0 = 0 := by
          simp only [List.getD]
          rw [List.getElem?_eq_none (by simp; omega)]
          rfl
        rw [this] at hij; simp at hij

/-! ### the lexical walk -/
structure RSpec where
  S : Value → Prop
  R : Value → World → Prop
  keep : Bool
def constSpec (c : Value) : RSpec := ⟨(· = c), fun _ _ => True, false⟩
def relSpec (S : Value → Prop) (R : Value → World → Prop) : RSpec := ⟨S, R, true⟩

def facts (ds : List Nat) (i : Nat) : List (Nat × (World → Prop)) → World → Prop
  | [], _ => True
  | p :: fs, w => (depB ds i p.1 = true → p.2 w) ∧ facts ds i fs w
def factsAll : List (Nat × (World → Prop)) → World → Prop
  | [], _ => True
  | p :: fs, w => p.2 w ∧ factsAll fs w

def relWalk (P : Program) (ops : Array Oper) (ds : List Nat) (C : World → Prop) (M : World → World → Prop) (Q : Act → World → Prop) : Nat → List Oper → List RSpec → List (Nat × (World → Prop)) → Act → Prop
  | _, [], _, fs, a => ∀ w, C w → factsAll fs w → Q a w
  | _, _ :: _, [], _, _ => False
  | i, o :: os, s :: ss, fs, a =>
    (∃ v, s.S v) ∧ (∀ v w w', M w w' → s.R v w → s.R v w') ∧
    (∀ w, C w → facts ds i fs w → if Region.wanted o (yielded ops a.tmps) then Gives P o a w (fun v w' => s.S v ∧ s.R v w' ∧ C w' ∧ M w w') else s.S undef ∧ s.R undef w ∧ M w w) ∧
    ∀ v, s.S v → relWalk P ops ds C M Q (i + 1) os ss (if s.keep then (i, s.R v) :: fs else fs) (a.put o.dst v)

/-- the frame with the first i values laid -/
def lay (ops : List Oper) (vs : Nat → Value) : Nat → Nat → Act → Act
  | _, 0, a => a
  | k, n + 1, a => match ops with
    | [] => a
    | o :: os => lay os vs (k + 1) n (a.put o.dst (vs k))

theorem lay_snoc (vs : Nat → Value) : ∀ (ops : List Oper) (k n : Nat) (a : Act) (o : Oper), ops[n]? = some o → lay ops vs k (n + 1) a = (lay ops vs k n a).put o.dst (vs (k + n)) := by
  intro ops
  induction ops with
  | nil => intro k n a o h; simp at h
  | cons x xs ih =>
    intro k n a o h
    cases n with
    | zero => simp at h; subst h; simp [lay]
    | succ n =>
      simp at h
      have := ih (k + 1) n (a.put x.dst (vs k)) o h
      simp only [lay] at this ⊢
      rw [this]
      congr 2; omega

/-- what the walk says of each operation, and of the end -/
theorem relWalk_get {P : Program} {ops : Array Oper} {ds : List Nat} {C : World → Prop} {M : World → World → Prop} {Q : Act → World → Prop} :
    ∀ (os : List Oper) (ss : List RSpec) (k : Nat) (fs : List (Nat × (World → Prop))) (a : Act), relWalk P ops ds C M Q k os ss fs a →
    (∀ vs : Nat → Value, (∀ n s, ss[n]? = some s → n < os.length → s.S (vs (k + n))) →
      (∀ n o s, os[n]? = some o → ss[n]? = some s → ∀ w, C w → facts ds (k + n) fs w → (∀ m t, m < n → ss[m]? = some t → depB ds (k + n) (k + m) = true → t.R (vs (k + m)) w) →
        if Region.wanted o (yielded ops (lay os vs k n a).tmps) then Gives P o (lay os vs k n a) w (fun v w' => s.S v ∧ s.R v w' ∧ C w' ∧ M w w') else s.S undef ∧ s.R undef w ∧ M w w) ∧
      (∀ w, C w → factsAll fs w → (∀ m t, m < os.length → ss[m]? = some t → t.R (vs (k + m)) w) → Q (lay os vs k os.length a) w)) ∧
    (∀ n, n < os.length → ∃ s, ss[n]? = some s ∧ (∃ v, s.S v) ∧ (∀ v w w', M w w' → s.R v w → s.R v w')) := by
  intro os
  induction os with
  | nil =>
    intro ss k fs a h
    refine ⟨fun vs _ => ⟨fun n o s ho => by simp at ho, fun w hC hF _ => ?_⟩, fun n hn => by simp at hn⟩
    cases ss <;> exact h w hC hF
  | cons x xs ih =>
    intro ss k fs a h
    cases ss with
    | nil => exact h.elim
    | cons s ss =>
      obtain ⟨hne, hst, hob, hnx⟩ := h
      refine ⟨fun vs hS => ?_, fun n hn => ?_⟩
      · have hs0 : s.S (vs k) := by simpa using hS 0 s rfl (by simp)
        have hx := (ih ss (k + 1) _ _ (hnx (vs k) hs0)).1 vs (fun n t ht hn => by
          have := hS (n + 1) t (by simpa using ht) (by simpa using hn)
          have e : k + 1 + n = k + (n + 1) := by omega
          rw [e]; exact this)
        constructor
        · intro n o t ho ht w hC hF hR
          cases n with
          | zero =>
            simp at ho ht
            subst ho ht
            exact hob w hC hF
          | succ n =>
            simp at ho ht
            have := hx.1 n o t ho ht w hC ?_ ?_
            · exact this
            · have e : k + 1 + n = k + (n + 1) := by omega
              rw [e]
              split
              · exact ⟨fun hd => by have := hR 0 s (by omega) rfl; simpa using this hd, hF⟩
              · exact hF
            · intro m u hm hu hd
              have e1 : k + 1 + m = k + (m + 1) := by omega
              have e2 : k + 1 + n = k + (n + 1) := by omega
              rw [e1, e2] at hd
              rw [e1]
              exact hR (m + 1) u (by omega) (by simpa using hu) hd
        · intro w hC hF hR
          have := hx.2 w hC ?_ ?_
          · exact this
          · split
            · exact ⟨by have := hR 0 s (by simp) rfl; simpa using this, hF⟩
            · exact hF
          · intro m u hm hu
            have e1 : k + 1 + m = k + (m + 1) := by omega
            rw [e1]
            exact hR (m + 1) u (by simpa using hm) (by simpa using hu)
      · cases n with
        | zero => exact ⟨s, rfl, hne, hst⟩
        | succ n =>
          obtain ⟨v, hv⟩ := hne
          obtain ⟨t, ht, h1⟩ := (ih ss (k + 1) _ _ (hnx v hv)).2 n (by simpa using hn)
          exact ⟨t, by simpa using ht, h1⟩

/-! ### whatever order is drawn -/
def staticB (ops : Array Oper) (ds : List Nat) : Bool :=
  (List.range ops.size).all fun i => (match ops[i]? with
    | none => true
    | some o => o.after.toList.all fun e => !Region.binds .any e || decide (e.on < i)) &&
    (List.range ops.size).all fun j => i == j || match ops[i]?, (ops[j]?).bind (·.dst) with
      | some o, some d => !((o.looksAt ops).contains d || o.dst == some d) || (if j < i then depB ds i j else depB ds j i)
      | _, _ => true

theorem staticB_edge {ops : Array Oper} {ds : List Nat} (h : staticB ops ds = true) {i : Nat} {o : Oper} (ho : ops[i]? = some o) {e : Edge} (he : e ∈ o.after) (hb : Region.binds .any e = true) : e.on < i := by
  have hi : i < ops.size := (Array.getElem?_eq_some_iff.1 ho).1
  have h1 := List.all_eq_true.1 h i (by simpa using hi)
  simp only [Bool.and_eq_true, ho] at h1
  have := List.all_eq_true.1 h1.1 e (by simpa using he)
  simpa [hb] using this
theorem staticB_dst {ops : Array Oper} {ds : List Nat} (h : staticB ops ds = true) {i j : Nat} {o oj : Oper} (ho : ops[i]? = some o) (hj : ops[j]? = some oj) (hij : i ≠ j) {d : Tmp} (hd : oj.dst = some d)
    (hl : d ∈ o.looksAt ops ∨ o.dst = some d) : if j < i then depB ds i j = true else depB ds j i = true := by
  have hi : i < ops.size := (Array.getElem?_eq_some_iff.1 ho).1
  have hjs : j < ops.size := (Array.getElem?_eq_some_iff.1 hj).1
  have h1 := List.all_eq_true.1 h i (by simpa using hi)
  simp only [Bool.and_eq_true] at h1
  have h2 := List.all_eq_true.1 h1.2 j (by simpa using hjs)
  simp only [ho, hj, Option.bind_some, hd, Bool.or_eq_true, beq_iff_eq] at h2
  rcases h2 with h2 | h2 | h2
  · exact absurd h2 hij
  · exfalso
    simp at h2
    rcases hl with hl | hl
    · exact h2.1 hl
    · exact h2.2 hl
  · split
    · rename_i hlt; rw [if_pos hlt] at h2; exact h2
    · rename_i hlt; rw [if_neg hlt] at h2; exact h2

/-- the frame as far as the listed operations have come -/
structure Agree (ops : Array Oper) (a0 : Act) (vs : Nat → Value) (L : Nat → Prop) (a : Act) : Prop where
  defers : a.defers = a0.defers
  size : a.tmps.size = a0.tmps.size
  last : ∀ t k o, L k → ops[k]? = some o → o.dst = some t → (∀ k' o', L k' → k < k' → ops[k']? = some o' → o'.dst ≠ some t) → t < a0.tmps.size → a.tmps[t]? = some (vs k)
  none_ : ∀ t, (∀ k o, L k → ops[k]? = some o → o.dst ≠ some t) → a.tmps[t]? = a0.tmps[t]?

theorem exists_max (p : Nat → Prop) : ∀ n, (∃ k, k < n ∧ p k) → ∃ k, k < n ∧ p k ∧ ∀ k', k < k' → k' < n → ¬ p k' := by
  intro n
  induction n with
  | zero => rintro ⟨k, hk, _⟩; omega
  | succ n ih =>
    rintro ⟨k, hk, hp⟩
    by_cases h : p n
    · exact ⟨n, by omega, h, fun k' h1 h2 => by omega⟩
    · have hkn : k < n := by
        rcases Nat.lt_or_ge k n with h1 | h1
        · exact h1
        · have : k = n := by omega
          subst this; exact absurd hp h
      obtain ⟨m, hm, hpm, hmax⟩ := ih ⟨k, hkn, hp⟩
      refine ⟨m, by omega, hpm, fun k' h1 h2 => ?_⟩
      by_cases e : k' = n
      · subst e; exact h
      · exact hmax k' h1 (by omega)

theorem Agree.tmp_eq {ops : Array Oper} {a0 : Act} {vs vs' : Nat → Value} {L L' : Nat → Prop} {a b : Act} (ha : Agree ops a0 vs L a) (hb : Agree ops a0 vs' L' b) (t : Tmp)
    (h : ∀ k o, ops[k]? = some o → o.dst = some t → (L k ↔ L' k)) (hv : ∀ k, L k → vs k = vs' k) : a.tmps[t]? = b.tmps[t]? := by
  by_cases ht : t < a0.tmps.size
  · by_cases hex : ∃ k, k < ops.size ∧ (L k ∧ ∃ o, ops[k]? = some o ∧ o.dst = some t)
    · obtain ⟨k, hk, ⟨hL, o, ho, hd⟩, hmax⟩ := exists_max _ _ hex
      have m1 : ∀ k' o', L k' → k < k' → ops[k']? = some o' → o'.dst ≠ some t := fun k' o' h1 h2 h3 h4 => hmax k' h2 (Array.getElem?_eq_some_iff.1 h3).1 ⟨h1, o', h3, h4⟩
      have m2 : ∀ k' o', L' k' → k < k' → ops[k']? = some o' → o'.dst ≠ some t := fun k' o' h1 h2 h3 h4 => m1 k' o' ((h k' o' h3 h4).2 h1) h2 h3 h4
      rw [ha.last t k o hL ho hd m1 ht, hb.last t k o ((h k o ho hd).1 hL) ho hd m2 ht, hv k hL]
    · rw [ha.none_ t (fun k o h1 h2 h3 => hex ⟨k, (Array.getElem?_eq_some_iff.1 h2).1, h1, o, h2, h3⟩), hb.none_ t (fun k o h1 h2 h3 => hex ⟨k, (Array.getElem?_eq_some_iff.1 h2).1, (h k o h2 h3).2 h1, o, h2, h3⟩)]
  · have h1 : a.tmps.size ≤ t := by rw [ha.size]; exact Nat.le_of_not_lt ht
    have h2 : b.tmps.size ≤ t := by rw [hb.size]; exact Nat.le_of_not_lt ht
    rw [Array.getElem?_eq_none h1, Array.getElem?_eq_none h2]

theorem put_tmps (a : Act) (dst : Option Tmp) (v : Value) (t : Tmp) : (a.put dst v).tmps[t]? = if dst = some t ∧ t < a.tmps.size then some v else a.tmps[t]? := by
  cases dst with
  | none => simp [Act.put]
  | some d =>
    simp only [Act.put, Option.some.injEq]
    by_cases h : d = t
    · subst h
      by_cases h2 : d < a.tmps.size
      · simp [h2]
      · simp [h2]
    · simp [Array.getElem?_setIfInBounds_ne h, h]
theorem put_defers (a : Act) (dst : Option Tmp) (v : Value) : (a.put dst v).defers = a.defers := by cases dst <;> rfl
theorem put_size (a : Act) (dst : Option Tmp) (v : Value) : (a.put dst v).tmps.size = a.tmps.size := by cases dst <;> simp [Act.put]

theorem Agree.lay (ops : Array Oper) (a0 : Act) (vs : Nat → Value) : ∀ n, n ≤ ops.size → Agree ops a0 vs (fun k => k < n) (lay ops.toList vs 0 n a0) := by
  intro n
  induction n with
  | zero =>
    intro _
    have e : Go.Proofs.Ytccpkafmbmkmfaa.lay ops.toList vs 0 0 a0 = a0 := by simp [Go.Proofs.Ytccpkafmbmkmfaa.lay]
    rw [e]
    exact ⟨rfl, rfl, fun t k o h => by omega, fun t _ => rfl⟩
  | succ n ih =>
    intro hn
    have hg : ops.toList[n]? = some ops[n] := by simp
    have ih := ih (by omega)
    rw [lay_snoc vs ops.toList 0 n a0 _ hg]
    refine ⟨by rw [put_defers]; exact ih.defers, by rw [put_size]; exact ih.size, ?_, ?_⟩
    · intro t k o hk ho hd hmax ht
      rw [put_tmps]
      by_cases hkn : k = n
      · subst hkn
        have : ops[k]? = some ops[k] := by simp
        rw [ho] at this
        cases this
        rw [if_pos ⟨hd, by rw [ih.size]; exact ht⟩]
        simp
      · have hne : ops[n].dst ≠ some t := hmax n ops[n] (by omega) (by omega) (by simp)
        rw [if_neg (fun h => hne h.1)]
        exact ih.last t k o (by omega) ho hd (fun k' o' h1 h2 h3 => hmax k' o' (by omega) h2 h3) ht
    · intro t h
      have hne : ops[n].dst ≠ some t := h n ops[n] (by omega) (by simp)
      rw [put_tmps, if_neg (fun h => hne h.1)]
      exact ih.none_ t (fun k o h1 h2 => h k o (by omega) h2)

def cnt (listed : Array Bool) : Nat → Nat
  | 0 => 0
  | n + 1 => cnt listed n + if listed.getD n false then 0 else 1
theorem cnt_set (listed : Array Bool) (i : Nat) (hi : i < listed.size) (hu : listed.getD i false = false) : ∀ n, cnt (listed.setIfInBounds i true) n + (if i < n then 1 else 0) = cnt listed n := by
  intro n
  induction n with
  | zero => simp [cnt]
  | succ n ih =>
    simp only [cnt]
    by_cases e : n = i
    · subst e
      have h1 : (listed.setIfInBounds n true).getD n false = true := by simp [Array.getD, hi]
      rw [h1, hu]
      simp at ih ⊢
      omega
    · have h1 : (listed.setIfInBounds i true).getD n false = listed.getD n false := by
        simp only [Array.getD_eq_getD_getElem?]
        rw [Array.getElem?_setIfInBounds_ne (Ne.symm e)]
      rw [h1]
      have : (i < n + 1) ↔ (i < n) := by omega
      simp only [this]
      omega
theorem cnt_zero (listed : Array Bool) : ∀ n, cnt listed n = 0 → ∀ k, k < n → listed.getD k false = true := by
  intro n
  induction n with
  | zero => intro _ k hk; omega
  | succ n ih =>
    intro h k hk
    simp only [cnt] at h
    by_cases e : k = n
    · subst e
      by_cases hb : listed.getD k false = true
      · exact hb
      · simp [hb] at h
    · exact ih (by omega) k (by omega)
theorem cnt_init (m : Nat) : ∀ n, cnt (Array.replicate m false) n = n := by
  intro n
  induction n with
  | zero => rfl
  | succ n ih =>
    simp only [cnt, ih]
    have : (Array.replicate m false).getD n false = false := by
      simp only [Array.getD_eq_getD_getElem?, Array.getElem?_replicate]
      split <;> rfl
    rw [this]; simp

section main
variable {P : Program} {ops : Array Oper} {ds : List Nat} {C : World → Prop} {M : World → World → Prop} {Q' : Exit → Act → World → Prop} {a0 : Act} {ss : List RSpec}

structure Inv (ops : Array Oper) (ds : List Nat) (C : World → Prop) (a0 : Act) (ss : List RSpec) (listed : Array Bool) (vs : Nat → Value) (a : Act) (w : World) : Prop where
  size : listed.size = ops.size
  closed : ∀ k j, k < ops.size → listed.getD k false = true → depB ds k j = true → listed.getD j false = true
  agree : Agree ops a0 vs (fun k => listed.getD k false = true) a
  sat : ∀ k s, ss[k]? = some s → k < ops.size → s.S (vs k)
  rel : ∀ k s, ss[k]? = some s → k < ops.size → listed.getD k false = true → s.R (vs k) w
  cls : C w

theorem act_ext {a b : Act} (h1 : a.defers = b.defers) (h2 : a.tmps = b.tmps) : a = b := by cases a; cases b; simp_all

theorem wpAny_rel (hds : ds = depsL [] ops.toList) (hst : staticB ops ds = true) (hsel : ∀ (j : Nat) (o : Oper) cs b, ops[j]? = some o → o.op ≠ .select cs b)
    (hw : relWalk P ops ds C M (Q' .normal) 0 ops.toList ss [] a0) :
    ∀ (fuel : Nat) (listed : Array Bool) (vs : Nat → Value) (a : Act) (w : World), Inv ops ds C a0 ss listed vs a w → cnt listed ops.size ≤ fuel → wpAny P .any ops Q' fuel listed a w := by
  obtain ⟨hget, hspec⟩ := relWalk_get ops.toList ss 0 [] a0 hw
  -- all are listed: the end
  have hend : ∀ (listed : Array Bool) (vs : Nat → Value) (a : Act) (w : World), Inv ops ds C a0 ss listed vs a w → (∀ k, k < ops.size → listed.getD k false = true) → Q' .normal a w := by
    intro listed vs a w hi hall
    have hx := (hget vs (fun n s h1 h2 => by rw [Nat.zero_add]; exact hi.sat n s h1 (by simpa using h2))).2 w hi.cls trivial (fun m t h1 h2 => by
      have h1' : m < ops.size := by simpa using h1
      rw [Nat.zero_add]; exact hi.rel m t h2 h1' (hall m h1'))
    have hl : ops.toList.length = ops.size := by simp
    rw [hl] at hx
    have hag := Agree.lay ops a0 vs ops.size (Nat.le_refl _)
    have e : a = lay ops.toList vs 0 ops.size a0 := by
      refine act_ext (by rw [hi.agree.defers, hag.defers]) (Array.ext_getElem? fun t => ?_)
      exact hi.agree.tmp_eq hag t (fun k o ho _ => ⟨fun _ => (Array.getElem?_eq_some_iff.1 ho).1, fun h => hall k h⟩) (fun _ _ => rfl)
    rw [e]; exact hx
  -- some operation may come up, if not all are listed
  have hsome : ∀ (listed : Array Bool), listed.size = ops.size → Region.ready .any ops listed = [] → ∀ k, k < ops.size → listed.getD k false = true := by
    intro listed hsz hr k
    induction k using Nat.strongRecOn with
    | ind k ih =>
      intro hk
      by_cases hb : listed.getD k false = true
      · exact hb
      · exfalso
        have hko : ops[k]? = some ops[k] := by simp [hk]
        have hmem : k ∈ Region.ready .any ops listed := by
          refine mem_ready.2 ⟨?_, ops[k], hko, fun e he hbd => ?_⟩
          · simp only [Array.getD_eq_getD_getElem?] at hb ⊢
            rw [Array.getElem?_eq_getElem (by omega)] at hb ⊢
            simpa using hb
          · have hlt := staticB_edge hst hko he hbd
            have := ih e.on hlt (by omega)
            simpa using this
        rw [hr] at hmem; cases hmem
  intro fuel
  induction fuel with
  | zero =>
    intro listed vs a w hi hc
    have hall := cnt_zero listed ops.size (by omega)
    refine ⟨?_, hend listed vs a w hi hall⟩
    rw [List.eq_nil_iff_forall_not_mem]
    intro k hk
    obtain ⟨h1, o, ho, _⟩ := mem_ready.1 hk
    have := hall k (Array.getElem?_eq_some_iff.1 ho).1
    simp only [Array.getD_eq_getD_getElem?] at h1 this
    rw [Array.getElem?_eq_getElem (by have := (Array.getElem?_eq_some_iff.1 ho).1; have := hi.size; omega)] at h1 this
    simp at h1 this
    rw [h1] at this; cases this
  | succ fuel ih =>
    intro listed vs a w hi hc
    refine ⟨fun hr => hend listed vs a w hi (hsome listed hi.size hr), fun i hir => ?_⟩
    obtain ⟨hun, oi, hoi, hedge⟩ := mem_ready.1 hir
    have hisz : i < ops.size := (Array.getElem?_eq_some_iff.1 hoi).1
    have hun' : listed.getD i false = false := by
      simp only [Array.getD_eq_getD_getElem?] at hun ⊢
      rw [Array.getElem?_eq_getElem (by have := hi.size; omega)] at hun ⊢
      simpa using hun
    obtain ⟨s, hs, hne, hstab⟩ := hspec i (by simpa using hisz)
    -- what it waits for is listed
    have hdeps : ∀ j, depB ds i j = true → listed.getD j false = true := by
      intro j hj
      unfold depB at hj
      rw [hds] at hj
      obtain ⟨o, ho, e, he, hb, hor⟩ := depsL_spec ops.toList [] [] rfl (by intro i j h; simp at h) i j hj
      simp only [List.nil_append] at ho
      have ho' : ops[i]? = some o := by simpa using ho
      rw [hoi] at ho'; cases ho'
      have hl := hedge e he hb
      rcases hor with h1 | h1
      · rw [← h1]; exact hl
      · have hlt := staticB_edge hst hoi he hb
        exact hi.closed e.on j (by omega) hl (by unfold depB; rw [hds]; exact h1)
    -- the frame at hand and the lexical one look alike to it
    have hag := Agree.lay ops a0 vs i (by omega)
    have hlook : ∀ t, t ∈ oi.looksAt ops → a.tmps[t]? = (lay ops.toList vs 0 i a0).tmps[t]? := by
      intro t ht
      refine hi.agree.tmp_eq hag t (fun k o ho hd => ?_) (fun _ _ => rfl)
      by_cases hki : k = i
      · subst hki; rw [hun']; simp
      · have hx := staticB_dst hst hoi ho (fun h => hki h.symm) hd (.inl ht)
        by_cases hlt : k < i
        · rw [if_pos hlt] at hx
          exact ⟨fun _ => hlt, fun _ => hdeps k hx⟩
        · rw [if_neg hlt] at hx
          refine ⟨fun hl => ?_, fun h => absurd h hlt⟩
          have := hi.closed k i (Array.getElem?_eq_some_iff.1 ho).1 hl hx
          rw [hun'] at this; cases this
    have hexec : execOp a.eval oi = execOp (lay ops.toList vs 0 i a0).eval oi := execOp_congr oi (fun cs b => hsel i oi cs b hoi) (fun x hx => by
      cases x with
      | tmp t =>
        have := hlook t (List.mem_append_left _ (List.mem_filterMap.2 ⟨.tmp t, by simpa using hx, rfl⟩))
        simp only [Act.eval, Array.getD_eq_getD_getElem?, this]
      | _ => rfl)
    have hwant : Region.wanted oi (yielded ops a.tmps) = Region.wanted oi (yielded ops (lay ops.toList vs 0 i a0).tmps) := by
      unfold Region.wanted
      cases hg : oi.guard with
      | none => rfl
      | some gw =>
        obtain ⟨g, want⟩ := gw
        have hy : yielded ops a.tmps g = yielded ops (lay ops.toList vs 0 i a0).tmps g := by
          unfold yielded
          cases ht : (ops[g]?).bind (·.dst) with
          | none => rfl
          | some t =>
            have := hlook t (by simp [Oper.looksAt, hg, ht])
            simp [this]
        simp only [hy]
    have hstep := (hget vs (fun n s h1 h2 => by rw [Nat.zero_add]; exact hi.sat n s h1 (by simpa using h2))).1 i oi s (by simpa using hoi) hs w hi.cls trivial (fun m t h1 h2 h3 => by
      simp only [Nat.zero_add] at h3 ⊢
      exact hi.rel m t h2 (by omega) (hdeps m h3))
    -- what is kept behind it
    have hnext : ∀ v w', s.S v → s.R v w' → C w' → M w w' → wpAny P .any ops Q' fuel (listed.setIfInBounds i true) (a.put oi.dst v) w' := by
      intro v w' hS hR hC hM
      have hset : ∀ k, (listed.setIfInBounds i true).getD k false = true ↔ k = i ∨ listed.getD k false = true := by
        intro k
        by_cases hki : k = i
        · subst hki
          have : (listed.setIfInBounds k true).getD k false = true := by
            simp only [Array.getD_eq_getD_getElem?]
            simp [hi.size, hisz]
          simp [this]
        · simp only [Array.getD_eq_getD_getElem?]
          rw [Array.getElem?_setIfInBounds_ne (Ne.symm hki)]
          simp [hki]
      let vs' : Nat → Value := fun k => if k = i then v else vs k
      refine ih (listed.setIfInBounds i true) vs' (a.put oi.dst v) w' ?_ ?_
      · refine ⟨by simp [hi.size], ?_, ?_, ?_, ?_, hC⟩
        · intro k j hk hl hd
          rw [hset] at hl ⊢
          rcases hl with h1 | h1
          · subst h1; exact .inr (hdeps j hd)
          · exact .inr (hi.closed k j hk h1 hd)
        · refine ⟨by rw [put_defers]; exact hi.agree.defers, by rw [put_size]; exact hi.agree.size, ?_, ?_⟩
          · intro t k o hl ho hd hmax ht
            rw [put_tmps]
            by_cases hit : oi.dst = some t
            · rw [if_pos ⟨hit, by rw [hi.agree.size]; exact ht⟩]
              by_cases hki : k = i
              · subst hki; simp only [vs', if_true]
              · exfalso
                have hlk : listed.getD k false = true := ((hset k).1 hl).resolve_left hki
                have hx := staticB_dst hst hoi ho (fun h => hki h.symm) hd (.inr hit)
                by_cases hlt : k < i
                · exact hmax i oi ((hset i).2 (.inl rfl)) hlt hoi hit
                · rw [if_neg hlt] at hx
                  have := hi.closed k i (Array.getElem?_eq_some_iff.1 ho).1 hlk hx
                  rw [hun'] at this; cases this
            · rw [if_neg (fun h => hit h.1)]
              have hki : k ≠ i := fun h => by subst h; rw [hoi] at ho; cases ho; exact hit hd
              have hlk : listed.getD k false = true := ((hset k).1 hl).resolve_left hki
              have := hi.agree.last t k o hlk ho hd (fun k' o' h1 h2 h3 => hmax k' o' ((hset k').2 (.inr h1)) h2 h3) ht
              rw [this]; simp only [vs', hki, if_false]
          · intro t h
            have hit : oi.dst ≠ some t := h i oi ((hset i).2 (.inl rfl)) hoi
            rw [put_tmps, if_neg (fun h => hit h.1)]
            exact hi.agree.none_ t (fun k o h1 h2 => h k o ((hset k).2 (.inr h1)) h2)
        · intro k t ht hk
          by_cases hki : k = i
          · subst hki; rw [hs] at ht; cases ht; simp only [vs', if_true]; exact hS
          · simp only [vs', hki, if_false]; exact hi.sat k t ht hk
        · intro k t ht hk hl
          by_cases hki : k = i
          · subst hki; rw [hs] at ht; cases ht; simp only [vs', if_true]; exact hR
          · simp only [vs', hki, if_false]
            obtain ⟨t', ht', _, hst'⟩ := hspec k (by simpa using hk)
            rw [ht] at ht'; cases ht'
            exact hst' _ _ _ hM (hi.rel k t ht hk (((hset k).1 hl).resolve_left hki))
      · have := cnt_set listed i (by rw [hi.size]; exact hisz) hun' ops.size
        rw [if_pos hisz] at this
        omega
    unfold wpOp
    simp only [hoi]
    rw [hwant]
    by_cases hwt : Region.wanted oi (yielded ops (lay ops.toList vs 0 i a0).tmps) = true
    · rw [if_pos hwt] at hstep ⊢
      refine .inl (wp_of_gives (X := fun v w' => s.S v ∧ s.R v w' ∧ C w' ∧ M w w') ?_ (fun v w' ⟨h1, h2, h3, h4⟩ => hnext v w' h1 h2 h3 h4))
      unfold Gives at hstep ⊢
      rw [hexec]
      exact hstep
    · rw [if_neg hwt] at hstep ⊢
      exact hnext undef w hstep.1 hstep.2.1 hi.cls hstep.2.2
end main

/-- A REGION THAT DRAWS ITS ORDER: one lexical walk in which each operation is shown at whatever world of the class serves every order. -/
theorem wp_region_rel {P : Program} {l : List Oper} {id : Nat} {Q : Exit → Act → World → Prop} {a : Act} {w : World} (C : World → Prop) (M : World → World → Prop) (ss : List RSpec)
    (hm : P.follows .mixedOrders = true) (hst : staticB l.toArray (depsL [] l) = true) (hsel : Region.noSelect l.toArray = true) (hC : C w.drew)
    (hw : relWalk P l.toArray (depsL [] l) C M (Q .normal) 0 l ss [] a) : (Code.region id l.toArray true).wp P Q a w := by
  refine wp_region_any hm ?_
  have hsp := (relWalk_get l ss 0 [] a hw).2
  let vs : Nat → Value := fun k => @dite _ (∃ v, ∃ s, ss[k]? = some s ∧ s.S v) (Classical.propDecidable _) (fun h => h.choose) (fun _ => undef)
  have hvs : ∀ k s, ss[k]? = some s → k < l.length → s.S (vs k) := by
    intro k s hs hk
    obtain ⟨s', hs', hne, _⟩ := hsp k hk
    rw [hs] at hs'; cases hs'
    obtain ⟨v, hv⟩ := hne
    have h : ∃ v, ∃ s, ss[k]? = some s ∧ s.S v := ⟨v, s, hs, hv⟩
    have : vs k = h.choose := by simp only [vs]; rw [dif_pos h]
    rw [this]
    obtain ⟨s'', h1, h2⟩ := h.choose_spec
    rw [hs] at h1; cases h1; exact h2
  have hf : ∀ k, (Array.replicate l.toArray.size false).getD k false = false := by
    intro k
    simp only [Array.getD_eq_getD_getElem?, Array.getElem?_replicate]
    split <;> rfl
  refine wpAny_rel (ds := depsL [] l) (C := C) (M := M) (a0 := a) (ss := ss) (by simp) hst (Region.noSelect_spec hsel) (by simpa using hw) l.toArray.size _ vs a _ ?_ ?_
  · refine ⟨by simp, ?_, ⟨rfl, rfl, ?_, fun t _ => rfl⟩, fun k s h1 h2 => hvs k s h1 (by simpa using h2), ?_, hC⟩
    · intro k j _ h; rw [hf k] at h; cases h
    · intro t k o h; rw [hf k] at h; cases h
    · intro k s _ _ h; rw [hf k] at h; cases h
  · rw [cnt_init]; exact Nat.le_refl _

section steps
variable {P : Program} {ops : Array Oper} {ds : List Nat} {C : World → Prop} {M : World → World → Prop} {Q : Act → World → Prop} {i : Nat} {o : Oper} {os : List Oper} {ss : List RSpec} {fs : List (Nat × (World → Prop))} {a : Act}
/-- it yields c, and leaves the world as it is -/
theorem relWalk_const {c : Value} (hM : ∀ w, M w w) (h : ∀ w, C w → facts ds i fs w → if Region.wanted o (yielded ops a.tmps) = true then Gives P o a w (fun v w' => v = c ∧ w' = w) else undef = c)
    (hn : relWalk P ops ds C M Q (i + 1) os ss fs (a.put o.dst c)) : relWalk P ops ds C M Q i (o :: os) (constSpec c :: ss) fs a := by
  refine ⟨⟨c, rfl⟩, fun _ _ _ _ _ => trivial, fun w hC hF => ?_, fun v hv => ?_⟩
  · have := h w hC hF
    split
    · rename_i hw
      rw [if_pos hw] at this
      unfold Gives at this ⊢
      generalize (execOp a.eval o).run P w = r at *
      cases r with
      | ok n w' =>
        cases n <;> simp only [givesUpon] at this ⊢
        case value u => obtain ⟨h1, h2⟩ := this; subst h1; subst h2; exact ⟨rfl, trivial, hC, hM _⟩
        case skip => obtain ⟨h1, h2⟩ := this; subst h2; exact ⟨h1, trivial, hC, hM _⟩
        case enter f args => exact this.mono fun e w'' ⟨v, he, h1, h2⟩ => ⟨v, he, h1, trivial, h2 ▸ hC, h2 ▸ hM _⟩
      | halt x w' => simp only [givesUpon] at this
    · rename_i hw
      rw [if_neg hw] at this
      exact ⟨this, trivial, hM _⟩
  · have hv : v = c := hv
    subst hv; exact hn
/-- it yields c; the world may turn -/
theorem relWalk_constW {c : Value} (hw : Region.wanted o (yielded ops a.tmps) = true) (h : ∀ w, C w → facts ds i fs w → Gives P o a w (fun v w' => v = c ∧ C w' ∧ M w w'))
    (hn : relWalk P ops ds C M Q (i + 1) os ss fs (a.put o.dst c)) : relWalk P ops ds C M Q i (o :: os) (constSpec c :: ss) fs a := by
  refine ⟨⟨c, rfl⟩, fun _ _ _ _ _ => trivial, fun w hC hF => ?_, fun v hv => ?_⟩
  · rw [if_pos hw]
    have := h w hC hF
    unfold Gives at this ⊢
    generalize (execOp a.eval o).run P w = r at *
    cases r with
    | ok n w' =>
      cases n <;> simp only [givesUpon] at this ⊢
      case value u => exact ⟨this.1, trivial, this.2⟩
      case skip => exact ⟨this.1, trivial, this.2⟩
      case enter f args => exact this.mono fun e w'' ⟨v, he, h1, h2⟩ => ⟨v, he, h1, trivial, h2⟩
    | halt x w' => simp only [givesUpon] at this
  · have hv : v = c := hv
    subst hv; exact hn
/-- it yields some value of the set S, of which R is known from then on -/
theorem relWalk_rel (S : Value → Prop) (R : Value → World → Prop) (hne : ∃ v, S v) (hst : ∀ v w w', M w w' → R v w → R v w') (hw : Region.wanted o (yielded ops a.tmps) = true)
    (h : ∀ w, C w → facts ds i fs w → Gives P o a w (fun v w' => S v ∧ R v w' ∧ C w' ∧ M w w'))
    (hn : ∀ v, S v → relWalk P ops ds C M Q (i + 1) os ss ((i, R v) :: fs) (a.put o.dst v)) : relWalk P ops ds C M Q i (o :: os) (relSpec S R :: ss) fs a := by
  refine ⟨hne, hst, fun w hC hF => ?_, fun v hv => hn v hv⟩
  rw [if_pos hw]
  exact h w hC hF
theorem relWalk_nil (h : ∀ w, C w → factsAll fs w → Q a w) : relWalk P ops ds C M Q i [] [] fs a := h
end steps
end Go.Proofs.Ytccpkafmbmkmfaa
