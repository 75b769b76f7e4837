/- Chapter 09's Same, of two rows of ids that are one list. Condition: at most 2^40 ids. -/
import Derived.Test.YtdikknfdgpdenaaDigestFns
namespace Go.Proofs.Ytdikknfdgpdenaa
open Go.RowKit
set_option linter.unusedVariables false
set_option linter.unusedSimpArgs false
attribute [local go_sem] Gives givesUpon
attribute [local irreducible] Gives

set_option maxRecDepth 100000 in
set_option maxHeartbeats 1600000 in
theorem same09_any (A A' : Option Addr) (n c c' : Nat) (ids : List (List (BitVec 8))) (w : World) (h1 : Reads w w.heap.size 32 A n (ids.flatten.map c8)) (h2 : Reads w w.heap.size 32 A' n (ids.flatten.map c8)) (hid : Ids ids) (hl : ids.length = n) (hn : n ≤ 1099511627776) :
    Calls Try.prog 58 #[.slice A n c, .slice A' n c'] w fun e w' => e = .returned (.bool true) ∧ Below w.heap.size w w' := by
  have H1 := hide h1
  have H2 := hide h2
  have HId := hide hid
  have HL := hide hl
  clear h1 h2 hid hl
  go_enter Try.func58, Try.ntmps58
  go_wp2
  go_loopw [5] (fun i wr => ∃ k : Nat, k ≤ n ∧ i = .int .i64 (k : Int) ∧ Hid (Below w.heap.size w wr)) (fun i _ => n - (intOf i).toNat)
  case atStart => exact ⟨0, by omega, rfl, hide (Below.refl _ _)⟩
  case round =>
    obtain ⟨k, hk, rfl, hB⟩ := hrel
    by_cases hlt : k < n
    · have hd : decide ((k : Int) < (n : Int)) = true := by simp; omega
      have hk0 : (0 : Int) ≤ (k : Int) := by omega
      have hk1 : (k : Int) < (n : Int) := by omega
      have hsz := hB.out.size
      obtain ⟨q, hq⟩ : ∃ q, ids[k]? = some q := ⟨_, List.getElem?_eq_getElem (by rw [HL.out]; exact hlt)⟩
      have hql : q.length = 32 := HId.out q (List.mem_of_getElem? hq)
      obtain ⟨V, hV⟩ := idVal q hql
      obtain ⟨ga, oa, rfl, hga⟩ := reads32_at H1.out (by omega)
      obtain ⟨gb, ob, rfl, hgb⟩ := reads32_at H2.out (by omega)
      have HVi := hide (id_size hql)
      have HVv := hide hV.val
      have HLA : Hid (∀ W, Below wr.heap.size wr W → ∀ j v, (q.map c8)[j]? = some v → W.cell? ((⟨ga, oa + k * 32, none⟩ : Addr).add j) = some v) := hide fun W hW => id_cells (k := k) (H1.out.below (hB.out.trans (hW.mono hsz))) HId.out q hq hlt
      have HLB : Hid (∀ W, Below wr.heap.size wr W → ∀ j v, (q.map c8)[j]? = some v → W.cell? ((⟨gb, ob + k * 32, none⟩ : Addr).add j) = some v) := hide fun W hW => id_cells (k := k) (H2.out.below (hB.out.trans (hW.mono hsz))) HId.out q hq hlt
      have hee : ∀ w : World, (Op.equalIn 10000 44 (.agg V) (.agg V)).run Try.prog w = .ok true w := fun w => by
        have h := eq_id q q hql hql w
        rw [hV.val, h]; simp
      clear hq hql hV
      go_wp2
      apply wp_region_relT 9 (C := fun W => Below wr.heap.size wr W) (M := fun W W' => Below W.heap.size W W') (ss := [_, _, _, _, _, _, _, _, _]) (by kernel_rfl) (by kernel_rfl) (by kernel_rfl) (by kernel_rfl) (Below.refl _ _).drew
      simp only [List.take_succ_cons, List.take_zero, List.drop_succ_cons, List.drop_zero]
      repeat (first
        | (apply relWalk_const (fun W => Below.refl _ _)
           · (intro W hC hF
              clear hF
              go_simp
              with_reducible exact rfl)
           (try simp only [Act.put, List.setIfInBounds_toArray, List.set_cons_zero, List.set_cons_succ])))
      apply relWalk_const (c := .agg V) (fun W => Below.refl _ _)
      · intro W hC hF
        rw [if_pos (wanted_none _ rfl)]
        refine gives_load_at 44 _ rfl ⟨ga, oa + k * 32, none⟩ rfl (q.map c8) _ Try.underlying44 rfl HVi.out (HLA.out W hC) ⟨by rw [HVv.out], rfl⟩
      (try simp only [Act.put, List.setIfInBounds_toArray, List.set_cons_zero, List.set_cons_succ])
      repeat (first
        | (apply relWalk_const (fun W => Below.refl _ _)
           · (intro W hC hF
              clear hF
              go_simp
              with_reducible exact rfl)
           (try simp only [Act.put, List.setIfInBounds_toArray, List.set_cons_zero, List.set_cons_succ])))
      apply relWalk_const (c := .agg V) (fun W => Below.refl _ _)
      · intro W hC hF
        rw [if_pos (wanted_none _ rfl)]
        refine gives_load_at 44 _ rfl ⟨gb, ob + k * 32, none⟩ rfl (q.map c8) _ Try.underlying44 rfl HVi.out (HLB.out W hC) ⟨by rw [HVv.out], rfl⟩
      (try simp only [Act.put, List.setIfInBounds_toArray, List.set_cons_zero, List.set_cons_succ])
      repeat (first
        | (apply relWalk_const (fun W => Below.refl _ _)
           · (intro W hC hF
              clear hF
              go_simp
              with_reducible exact rfl)
           (try simp only [Act.put, List.setIfInBounds_toArray, List.set_cons_zero, List.set_cons_succ])))
      apply relWalk_nil
      intro W hC hF
      clear hF
      have B9 := hide (hB.out.trans (hC.mono hsz))
      clear hC hB HLA HLB
      go_wp2
      go_roundw
      case rel => exact ⟨k + 1, hlt, int_succ k, B9⟩
      case measure => simp [intOf]; omega
    · have hd : decide ((k : Int) < (n : Int)) = false := by simp; omega
      go_wp2
      go_ret
      exact ⟨rfl, hB.out⟩
end Go.Proofs.Ytdikknfdgpdenaa
