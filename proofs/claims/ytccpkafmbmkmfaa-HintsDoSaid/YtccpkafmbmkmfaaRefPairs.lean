/- Chapter 24's reference: rows of pairs; Has. No condition but sizes. -/
import Derived.Test.YtccpkafmbmkmfaaHintsOps
import Derived.WalkSpells
namespace Go.Proofs.Ytccpkafmbmkmfaa
open Go.RowKit
set_option linter.unusedVariables false
set_option linter.unusedSimpArgs false

abbrev PairL := List (Int × Int)
/-- pairs as cells -/
def pc (L : PairL) : List Value := L.flatMap fun p => [ci p.1, ci p.2]
theorem pc_length (L : PairL) : (pc L).length = L.length * 2 := by
  induction L with
  | nil => rfl
  | cons p L ih => simp only [pc, List.flatMap_cons, List.length_append, List.length_cons, List.length_nil] at ih ⊢; omega
theorem pc_append (L M : PairL) : pc (L ++ M) = pc L ++ pc M := by simp [pc]
theorem pc_get (L : PairL) (k : Nat) (h : k < L.length) : (pc L)[k * 2]? = some (ci L[k].1) ∧ (pc L)[k * 2 + 1]? = some (ci L[k].2) := by
  induction L generalizing k with
  | nil => simp at h
  | cons p L ih =>
    have e : pc (p :: L) = [ci p.1, ci p.2] ++ pc L := by simp [pc]
    rw [e]
    cases k with
    | zero => exact ⟨rfl, rfl⟩
    | succ k =>
      have := ih k (by simpa using h)
      rw [List.getElem?_append_right (by simp; omega), List.getElem?_append_right (by simp; omega)]
      have e1 : (k + 1) * 2 - [ci p.1, ci p.2].length = k * 2 := by simp; omega
      have e2 : (k + 1) * 2 + 1 - [ci p.1, ci p.2].length = k * 2 + 1 := by simp; omega
      rw [e1, e2]
      simpa using this
theorem pc_one (L : PairL) : ∀ u ∈ pc L, u.oneCell' = true := by
  intro u hu
  obtain ⟨p, _, hp⟩ := List.mem_flatMap.1 hu
  simp at hp
  rcases hp with rfl | rfl <;> rfl
/-- a slice value that reads as these pairs -/
def PairsAt (w : World) (v : Value) (L : PairL) : Prop := ∃ A c, v = .slice A L.length c ∧ Reads w w.heap.size 2 A L.length (pc L) ∧ L.length ≤ c
def InP (L : PairL) : Prop := ∀ p ∈ L, (-9223372036854775808 ≤ p.1 ∧ p.1 ≤ 9223372036854775807) ∧ (-9223372036854775808 ≤ p.2 ∧ p.2 ≤ 9223372036854775807)
theorem reads_pair {w : World} {B n k : Nat} {A : Option Addr} {L : PairL} (h : Reads w B 2 A n (pc L)) (hk : k < L.length) :
    ∃ g o, A = some ⟨g, o, none⟩ ∧ g < B ∧ w.cell? ⟨g, o + k * 2, none⟩ = some (ci L[k].1) ∧ w.cell? ⟨g, o + k * 2 + 1, none⟩ = some (ci L[k].2) := by
  have hn : L.length = n := by have := h.1; rw [pc_length] at this; omega
  obtain ⟨⟨g, o, sp⟩, rfl, hb, hc⟩ := h.2 (by omega)
  have hs : sp = none := by
    have h0 := hc 0 ((pc L)[0]'(by rw [pc_length]; omega)) (by simp)
    have := World.cell?_spot h0
    simpa [Addr.add] using this
  subst hs
  obtain ⟨g1, g2⟩ := pc_get L k hk
  have c1 := hc _ _ g1
  have c2 := hc _ _ g2
  rw [Addr.add_lit] at c1 c2
  exact ⟨g, o, rfl, hb, c1, by rw [Nat.add_assoc]; exact c2⟩
theorem mem_take_succ (L : PairL) (k : Nat) (h : k < L.length) (p : Int × Int) : p ∈ L.take (k + 1) ↔ p ∈ L.take k ∨ p = L[k] := by
  rw [List.take_succ_eq_append_getElem h, List.mem_append, List.mem_singleton]
set_option maxHeartbeats 800000 in
theorem refhas_any (A : Option Addr) (n c : Nat) (L : PairL) (x y : Int) (w : World) (hr : Reads w w.heap.size 2 A n (pc L)) (hn : n ≤ 1099511627776) :
    Calls Try.prog 38 #[.slice A n c, .int .i64 x, .int .i64 y] w fun e w' => e = .returned (.bool (decide ((x, y) ∈ L))) ∧ w = w' := by
  have hl : L.length = n := by have := hr.1; rw [pc_length] at this; omega
  replace hr := hide hr
  go_enter Try.func38, Try.ntmps38
  go_wp2
  go_loop [7] (fun i => ∃ k : Nat, k ≤ n ∧ i = .int .i64 (k : Int) ∧ Hid ((x, y) ∉ L.take k)) (fun i => n - (intOf i).toNat)
  case atStart => exact ⟨0, Nat.zero_le _, rfl, hide (by simp)⟩
  case round =>
    obtain ⟨k, hk, rfl, HP⟩ := hrel
    by_cases hlt : k < n
    · have hd : decide ((k : Int) < (n : Int)) = true := by simpa using hlt
      obtain ⟨g, o, rfl, hb, c1, c2⟩ := reads_pair hr.out (k := k) (by omega)
      have HM := hide (mem_take_succ L k (by omega) (x, y))
      have HE := hide (show L[k]'(by omega) = ((L[k]'(by omega)).1, (L[k]'(by omega)).2) from rfl)
      have HIn := hide (show L[k]'(by omega) ∈ L from List.getElem_mem _)
      generalize (L[k]'(by omega)) = q at *
      obtain ⟨a, b⟩ := q
      dsimp only at c1 c2 HM HIn
      clear HE
      by_cases h1 : a = x
      · subst h1
        by_cases h2 : b = y
        · subst h2
          have d1 : (a == a) = true := by simp
          have d2 : (b == b) = true := by simp
          go_wp2
          go_ret
          exact ⟨by rw [decide_eq_true HIn.out]; rfl, rfl⟩
        · have d1 : (a == a) = true := by simp
          have d2 : (b == y) = false := by simpa using h2
          have HN := hide (show (a, y) ∉ L.take (k + 1) from fun hm => (HM.out.1 hm).elim HP.out (fun e => h2 (by injection e with _ e; exact e.symm)))
          clear h2
          go_wp2
          go_round
          case rel => exact ⟨k + 1, by omega, by go_num, HN⟩
          case measure => simp [intOf]; omega
      · have d1 : (a == x) = false := by simpa using h1
        have HN := hide (show (x, y) ∉ L.take (k + 1) from fun hm => (HM.out.1 hm).elim HP.out (fun e => h1 (by injection e with e _; exact e.symm)))
        clear h1
        go_wp2
        go_round
        case rel => exact ⟨k + 1, by omega, by go_num, HN⟩
        case measure => simp [intOf]; omega
    · obtain rfl : k = n := by omega
      have HN := hide (show (x, y) ∉ L by have := HP.out; rwa [List.take_of_length_le (by omega)] at this)
      go_wp2
      go_ret
      exact ⟨by rw [decide_eq_false HN.out]; rfl, rfl⟩
end Go.Proofs.Ytccpkafmbmkmfaa
