/- Rows of rows of bytes: values that are slices that read as parts. No condition. -/
import Derived.Test.YtccpkafmbmkmfaaMem
import Derived.Test.YtccpkafmbmkmfaaLists
namespace Go.Proofs.Ytccpkafmbmkmfaa
open Go.RowKit
set_option linter.unusedVariables false
set_option linter.unusedSimpArgs false

/-- a value is a slice that reads as these bytes -/
def Row8 (w : World) (B : Nat) (v : Value) (p : List (BitVec 8)) : Prop := ∃ A n c, v = .slice A n c ∧ Reads w B 1 A n (p.map c8) ∧ n ≤ c
/-- values are slices that read as these parts -/
def Rows8 (w : World) (B : Nat) (vs : List Value) (ps : List (List (BitVec 8))) : Prop := vs.length = ps.length ∧ ∀ (i : Nat) (v : Value) (p : List (BitVec 8)), vs[i]? = some v → ps[i]? = some p → Row8 w B v p
theorem Row8.keep {w w' : World} {B : Nat} {v : Value} {p : List (BitVec 8)} (h : Row8 w B v p) (hk : ∀ q : Addr, q.block < B → w'.cell? q = w.cell? q) : Row8 w' B v p := by
  obtain ⟨A, n, c, e, hr, hc⟩ := h
  exact ⟨A, n, c, e, hr.keep hk, hc⟩
theorem Rows8.keep {w w' : World} {B : Nat} {vs : List Value} {ps : List (List (BitVec 8))} (h : Rows8 w B vs ps) (hk : ∀ q : Addr, q.block < B → w'.cell? q = w.cell? q) : Rows8 w' B vs ps :=
  ⟨h.1, fun i v p hv hp => (h.2 i v p hv hp).keep hk⟩
theorem Rows8.more {w : World} {B B' : Nat} {vs : List Value} {ps : List (List (BitVec 8))} (h : Rows8 w B vs ps) (hB : B ≤ B') : Rows8 w B' vs ps :=
  ⟨h.1, fun i v p hv hp => by obtain ⟨A, n, c, e, hr, hc⟩ := h.2 i v p hv hp; exact ⟨A, n, c, e, hr.more hB, hc⟩⟩
theorem Rows8.below {w w' : World} {B : Nat} {vs : List Value} {ps : List (List (BitVec 8))} (h : Rows8 w B vs ps) (hb : Below B w w') : Rows8 w' B vs ps := h.keep fun q hq => hb.cell hq
theorem Reads.addr' {w : World} {B n : Nat} {A : Option Addr} {xs : List Value} (h : Reads w B 1 A n xs) (hn : 0 < n) : ∃ g o, A = some ⟨g, o, none⟩ ∧ g < B := by
  obtain ⟨⟨g, o, sp⟩, u, rfl, hb, _, h0⟩ := h.at_ hn
  have hs : sp = none := by
    have := World.cell?_spot h0
    simpa [Addr.add] using this
  subst hs
  exact ⟨g, o, rfl, hb⟩
/-- the k-th part, where it stands -/
theorem rows_at {w : World} {B n k : Nat} {g o : Nat} {vs : List Value} {ps : List (List (BitVec 8))} (h : Reads w B 1 (some ⟨g, o, none⟩) n vs) (hr : Rows8 w B vs ps) (hk : k < ps.length) :
    ∃ A m c, w.cell? ⟨g, o + k, none⟩ = some (.slice A m c) ∧ Reads w B 1 A m (ps[k].map c8) ∧ m ≤ c := by
  have hv : k < vs.length := by rw [hr.1]; exact hk
  have hkn : k < n := by have := h.1; omega
  obtain ⟨ad, u, e, _, hu, hc⟩ := h.at_ hkn
  cases e
  obtain ⟨A, m, c, rfl, h1, h2⟩ := hr.2 k u ps[k] hu (by simp [hk])
  exact ⟨A, m, c, by rw [Addr.add_lit] at hc; exact hc, h1, h2⟩
theorem flatten_take (ps : List (List (BitVec 8))) (k : Nat) (h : k < ps.length) : (ps.take (k + 1)).flatten = (ps.take k).flatten ++ ps[k] := by
  rw [List.take_succ_eq_append_getElem h, List.flatten_append]; simp
theorem flatten_take_len (ps : List (List (BitVec 8))) (k : Nat) (h : k < ps.length) : (ps.take k).flatten.length + ps[k].length ≤ ps.flatten.length := by
  have e : ps = ps.take k ++ ps[k] :: ps.drop (k + 1) := by simp
  have : ps.flatten.length = (ps.take k ++ ps[k] :: ps.drop (k + 1)).flatten.length := by rw [← e]
  rw [this, List.flatten_append, List.flatten_cons, List.length_append, List.length_append]
  omega
end Go.Proofs.Ytccpkafmbmkmfaa
