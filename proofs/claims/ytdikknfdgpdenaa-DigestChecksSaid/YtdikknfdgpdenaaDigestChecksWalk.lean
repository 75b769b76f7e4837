/- The walk of miradorlaw44.DigestChecks. No condition. -/
import Derived.Test.YtdikknfdgpdenaaDigestAlive
namespace Go.Proofs.Ytdikknfdgpdenaa
open Go.RowKit
set_option linter.unusedVariables false
set_option linter.unusedSimpArgs false
attribute [local go_sem] Gives givesUpon
attribute [local irreducible] Gives

/-- what holds all along: the case stands in the first new block -/
structure CaseI (w0 : World) (root : List (BitVec 8)) (va vi vm vp : Value) (W : World) : Prop where
  below : Below w0.heap.size w0 W
  lt : w0.heap.size < W.heap.size
  item : W.cell? ⟨w0.heap.size, 32, none⟩ = some va
  at_ : W.cell? ⟨w0.heap.size, 33, none⟩ = some vi
  count : W.cell? ⟨w0.heap.size, 34, none⟩ = some vm
  proof : W.cell? ⟨w0.heap.size, 35, none⟩ = some vp
  frozen : ∀ k, W.frozen? ⟨w0.heap.size, k, none⟩ = false
  root : ∀ j v, (root.map c8)[j]? = some v → W.cell? ((⟨w0.heap.size, 0, none⟩ : Addr).add j) = some v
theorem CaseI.later {w0 W W' : World} {root : List (BitVec 8)} {va vi vm vp : Value} (h : CaseI w0 root va vi vm vp W) (hb : Below W.heap.size W W') : CaseI w0 root va vi vm vp W' where
  below := below_next h.below hb
  lt := Nat.lt_of_lt_of_le h.lt hb.size
  item := (hb.cell (p := ⟨_, _, _⟩) h.lt).trans h.item
  at_ := (hb.cell (p := ⟨_, _, _⟩) h.lt).trans h.at_
  count := (hb.cell (p := ⟨_, _, _⟩) h.lt).trans h.count
  proof := (hb.cell (p := ⟨_, _, _⟩) h.lt).trans h.proof
  frozen := fun k => (hb.frozen (p := ⟨_, _, _⟩) h.lt).trans (h.frozen k)
  root := fun j v hv => (hb.cell (by rw [block_of_add]; exact h.lt)).trans (h.root j v hv)
theorem CaseI.new (w0 : World) (root : List (BitVec 8)) (hr : root.length = 32) (va vi vm vp : Value) : CaseI w0 root va vi vm vp (w0.alloc (.cells (root.map c8 ++ [va, vi, vm, vp]).toArray 76)) := by
  have hk := Blk.new w0 76 (root.map c8 ++ [va, vi, vm, vp]).toArray
  have hl : (root.map c8).length = 32 := by rw [List.length_map, hr]
  have at4 : ∀ k, (root.map c8 ++ [va, vi, vm, vp]).toArray[32 + k]? = [va, vi, vm, vp][k]? := fun k => by
    rw [List.getElem?_toArray, List.getElem?_append_right (by omega), hl]; congr 1; omega
  exact ⟨(Below.refl _ _).alloc (Nat.le_refl _) _, hk.lt, (hk.cell 32).trans (at4 0), (hk.cell 33).trans (at4 1), (hk.cell 34).trans (at4 2), (hk.cell 35).trans (at4 3), fun k => hk.frozen k, fun j v hv => by
    rw [Addr.add_lit, Nat.zero_add, hk.cell, List.getElem?_toArray, List.getElem?_append_left (List.getElem?_eq_some_iff.1 hv).1]; exact hv⟩
set_option maxRecDepth 100000 in
set_option maxHeartbeats 1600000 in
theorem digestChecks_walk (w : World) (root : List (BitVec 8)) (A : Option Addr) (n c : Nat) (bs : List (BitVec 8)) (i m : Int) (AP : Option Addr) (np cp : Nat) (ids : List (List (BitVec 8)))
    (hrl : root.length = 32) (hr : Reads w w.heap.size 1 A n (bs.map c8)) (hn : n ≤ 9223372036854775807) (hc : n ≤ c) (hi : -9223372036854775808 ≤ i ∧ i ≤ 9223372036854775807)
    (hm : -9223372036854775808 ≤ m ∧ m ≤ 9223372036854775807) (hp : Reads w w.heap.size 32 AP np (ids.flatten.map c8)) (hid : Ids ids) (hpl : ids.length = np) (hnp : np ≤ 9223372036854775807) (hcp : np ≤ cp) :
    Calls Try.prog 14 #[.agg (root.map c8 ++ [Value.slice A n c, Value.int .i64 i, Value.int .i64 m, Value.slice AP np cp]).toArray] w fun e w' => e = .returned (.bool true) ∧ Below w.heap.size w w' := by
  obtain ⟨RV, hRV⟩ := idVal root hrl
  obtain ⟨CV, hCV⟩ : ∃ CV, CV = (root.map c8 ++ [Value.slice A n c, Value.int .i64 i, Value.int .i64 m, Value.slice AP np cp]).toArray := ⟨_, rfl⟩
  rw [← hCV]
  obtain ⟨W0, hW0⟩ : ∃ W0, W0 = w.alloc (.cells CV 76) := ⟨_, rfl⟩
  have I0 := hide (CaseI.new w root hrl (.slice A n c) (.int .i64 i) (.int .i64 m) (.slice AP np cp))
  rw [← hCV, ← hW0] at I0
  have HW := hide hW0.symm
  have HRi := hide (id_size hrl)
  have HRv := hide hRV.val
  have HAl : Hid (∀ W, CaseI w root (.slice A n c) (.int .i64 i) (.int .i64 m) (.slice AP np cp) W → Calls Try.prog 53 #[] W fun e w' => e = .returned (.bool true) ∧ Below W.heap.size W w') := hide fun W _ => alive44_any W
  have f1 := I0.out.item
  have f2 := I0.out.at_
  have f3 := I0.out.count
  have f4 := I0.out.proof
  have f5 := I0.out.frozen
  obtain ⟨X, hX⟩ : ∃ X, X = chkD root bs i m ids := ⟨_, rfl⟩
  have HC1 : Hid (n ≤ 1000 → m ≤ 1099511627776 → np ≤ 100 → ∀ W, CaseI w root (.slice A n c) (.int .i64 i) (.int .i64 m) (.slice AP np cp) W → Calls Try.prog 59 #[.agg RV, .slice A n c, .int .i64 i, .int .i64 m, .slice AP np cp] W fun e w' => e = .returned (.bool X) ∧ Below W.heap.size W w') := hide fun h1 h2 h3 W hI => by
    rw [hX]
    exact check44_any root bs RV hrl hRV A n c i m AP np cp ids W ((hr.below hI.below).more hI.below.size) hc h1 h2 ((hp.below hI.below).more hI.below.size) hid hpl hcp h3 hi
  have HC2 : Hid (n ≤ 1000 → m ≤ 1099511627776 → np ≤ 100 → ∀ W, CaseI w root (.slice A n c) (.int .i64 i) (.int .i64 m) (.slice AP np cp) W → Calls Try.prog 60 #[.agg RV, .slice A n c, .int .i64 i, .int .i64 m, .slice AP np cp] W fun e w' => e = .returned (.bool X) ∧ Below W.heap.size W w') := hide fun h1 h2 h3 W hI => by
    rw [hX]
    exact refcheck44_any root bs RV hrl hRV A n c i m AP np cp ids W ((hr.below hI.below).more hI.below.size) hc h1 h2 ((hp.below hI.below).more hI.below.size) hid hpl hcp h3 hi
  clear hX hr hp hid hpl hCV hW0 hRV hrl
  have alive : ∀ {P Q : Prop}, P → Q → P ∧ Q := fun a b => ⟨a, b⟩
  by_cases h1 : 1000 < n
  · have hd1 : decide ((1000 : Int) < (n : Int)) = true := by simp; omega
    clear HC1 HC2
    go_enter Try.func14, Try.ntmps14
    go_wp2_with (first
    | (go_at_call 53; (with_reducible refine (HAl.out _ I0.out).mono ?_); rintro e w2 ⟨rfl, hb2⟩; have B2 := hide (below_next I0.out.below hb2); clear hb2)
    | (rw [HW.out])
    | fail)
    go_ret
    exact ⟨rfl, B2.out⟩
  have hd1 : decide ((1000 : Int) < (n : Int)) = false := by simp; omega
  by_cases h2 : 1099511627776 < m
  · have hd2 : decide ((1099511627776 : Int) < m) = true := by simp; omega
    clear HC1 HC2
    go_enter Try.func14, Try.ntmps14
    go_wp2_with (first
    | (go_at_call 53; (with_reducible refine (HAl.out _ I0.out).mono ?_); rintro e w2 ⟨rfl, hb2⟩; have B2 := hide (below_next I0.out.below hb2); clear hb2)
    | (rw [HW.out])
    | fail)
    go_ret
    exact ⟨rfl, B2.out⟩
  have hd2 : decide ((1099511627776 : Int) < m) = false := by simp; omega
  by_cases h3 : 100 < np
  · have hd3 : decide ((100 : Int) < (np : Int)) = true := by simp; omega
    clear HC1 HC2
    go_enter Try.func14, Try.ntmps14
    go_wp2_with (first
    | (go_at_call 53; (with_reducible refine (HAl.out _ I0.out).mono ?_); rintro e w2 ⟨rfl, hb2⟩; have B2 := hide (below_next I0.out.below hb2); clear hb2)
    | (rw [HW.out])
    | fail)
    go_ret
    exact ⟨rfl, B2.out⟩
  have hd3 : decide ((100 : Int) < (np : Int)) = false := by simp; omega
  replace HC1 := hide (HC1.out (by omega) (by omega) (by omega))
  replace HC2 := hide (HC2.out (by omega) (by omega) (by omega))
  go_enter Try.func14, Try.ntmps14
  go_wp2_with (first
    | (go_at_call 53; (with_reducible refine (HAl.out _ I0.out).mono ?_); rintro e w2 ⟨rfl, hb2⟩; have B2 := hide (below_next I0.out.below hb2); clear hb2)
    | (rw [HW.out])
    | fail)
  apply wp_region_stage (hv := [10, 21, 24]) (I := CaseI w root (.slice A n c) (.int .i64 i) (.int .i64 m) (.slice AP np cp)) (C := fun W => True) (ss := [_, _, _, _, _, _, _, _, _, _, _, _, _, _, _, _, _, _, _, _, _, _, _, _, _, _, _]) (by kernel_rfl) (by kernel_rfl) (by kernel_rfl) (by kernel_rfl) (I0.out.later (Below.refl _ _).drew) trivial
  repeat (first
    | (apply stWalk_light
       · rfl
       · (intro W hI
          have f1 := hI.item
          have f2 := hI.at_
          have f3 := hI.count
          have f4 := hI.proof
          have f5 := hI.frozen
          clear hI
          go_simp
          with_reducible exact rfl)
       (try simp only [Act.put, List.setIfInBounds_toArray, List.set_cons_zero, List.set_cons_succ])))
  apply stWalk_light (c := .agg RV)
  · rfl
  · intro W hI
    rw [if_pos (wanted_none _ rfl)]
    exact gives_load_at 44 _ rfl ⟨w.heap.size, 0, none⟩ rfl (root.map c8) _ Try.underlying44 rfl HRi.out hI.root ⟨by rw [HRv.out], rfl⟩
  (try simp only [Act.put, List.setIfInBounds_toArray, List.set_cons_zero, List.set_cons_succ])
  repeat (first
    | (apply stWalk_light
       · rfl
       · (intro W hI
          have f1 := hI.item
          have f2 := hI.at_
          have f3 := hI.count
          have f4 := hI.proof
          have f5 := hI.frozen
          clear hI
          go_simp
          with_reducible exact rfl)
       (try simp only [Act.put, List.setIfInBounds_toArray, List.set_cons_zero, List.set_cons_succ])))
  apply stWalk_turnc (c := .bool X) (fun W => True)
  · rfl
  · rfl
  · intro W hI hC
    refine gives_call rfl [.agg RV, .slice A n c, .int .i64 i, .int .i64 m, .slice AP np cp] rfl (enters_of Try.func59 (by kernel_rfl) rfl) ?_
    refine (HC1.out W hI).mono ?_
    rintro e w' ⟨rfl, hb⟩
    exact ⟨_, rfl, rfl, hI.later hb, trivial⟩
  (try simp only [Act.put, List.setIfInBounds_toArray, List.set_cons_zero, List.set_cons_succ])
  repeat (first
    | (apply stWalk_light
       · rfl
       · (intro W hI
          have f1 := hI.item
          have f2 := hI.at_
          have f3 := hI.count
          have f4 := hI.proof
          have f5 := hI.frozen
          clear hI
          go_simp
          with_reducible exact rfl)
       (try simp only [Act.put, List.setIfInBounds_toArray, List.set_cons_zero, List.set_cons_succ])))
  apply stWalk_light (c := .agg RV)
  · rfl
  · intro W hI
    rw [if_pos (wanted_none _ rfl)]
    exact gives_load_at 44 _ rfl ⟨w.heap.size, 0, none⟩ rfl (root.map c8) _ Try.underlying44 rfl HRi.out hI.root ⟨by rw [HRv.out], rfl⟩
  (try simp only [Act.put, List.setIfInBounds_toArray, List.set_cons_zero, List.set_cons_succ])
  repeat (first
    | (apply stWalk_light
       · rfl
       · (intro W hI
          have f1 := hI.item
          have f2 := hI.at_
          have f3 := hI.count
          have f4 := hI.proof
          have f5 := hI.frozen
          clear hI
          go_simp
          with_reducible exact rfl)
       (try simp only [Act.put, List.setIfInBounds_toArray, List.set_cons_zero, List.set_cons_succ])))
  apply stWalk_turnc (c := .bool X) (fun W => True)
  · rfl
  · rfl
  · intro W hI hC
    refine gives_call rfl [.agg RV, .slice A n c, .int .i64 i, .int .i64 m, .slice AP np cp] rfl (enters_of Try.func60 (by kernel_rfl) rfl) ?_
    refine (HC2.out W hI).mono ?_
    rintro e w' ⟨rfl, hb⟩
    exact ⟨_, rfl, rfl, hI.later hb, trivial⟩
  (try simp only [Act.put, List.setIfInBounds_toArray, List.set_cons_zero, List.set_cons_succ])
  repeat (first
    | (apply stWalk_light
       · rfl
       · (intro W hI
          have f1 := hI.item
          have f2 := hI.at_
          have f3 := hI.count
          have f4 := hI.proof
          have f5 := hI.frozen
          clear hI
          go_simp
          with_reducible exact rfl)
       (try simp only [Act.put, List.setIfInBounds_toArray, List.set_cons_zero, List.set_cons_succ])))
  apply stWalk_turnc (c := .bool true) (fun W => True)
  · rfl
  · rfl
  · intro W hI hC
    refine gives_call rfl [] rfl (enters_of Try.func53 (by kernel_rfl) rfl) ?_
    refine (HAl.out W hI).mono ?_
    rintro e w' ⟨rfl, hb⟩
    exact ⟨_, rfl, rfl, hI.later hb, trivial⟩
  (try simp only [Act.put, List.setIfInBounds_toArray, List.set_cons_zero, List.set_cons_succ])
  repeat (first
    | (apply stWalk_light
       · rfl
       · (intro W hI
          have f1 := hI.item
          have f2 := hI.at_
          have f3 := hI.count
          have f4 := hI.proof
          have f5 := hI.frozen
          clear hI
          go_simp
          with_reducible exact rfl)
       (try simp only [Act.put, List.setIfInBounds_toArray, List.set_cons_zero, List.set_cons_succ])))
  refine stWalk_nil ?_
  intro W hI hC
  have B9 := hide hI.below
  clear hI hC
  go_wp2
  go_ret
  exact ⟨rfl, B9.out⟩
end Go.Proofs.Ytdikknfdgpdenaa
