/- Chapter 24's reference: Keys. No condition but sizes. -/
import Derived.Test.YtccpkafmbmkmfaaRefAt
namespace Go.Proofs.Ytccpkafmbmkmfaa
open Go.RowKit
set_option linter.unusedVariables false
set_option linter.unusedSimpArgs false
attribute [local go_sem] Gives givesUpon
attribute [local irreducible] Gives

/-- the keys, each once, in the order in which they came first -/
def keysP : List Int → List Int := fun ks => ks.foldl (fun acc k => if k ∈ acc then acc else acc ++ [k]) []
theorem keysP_snoc (ks : List Int) (k : Int) : keysP (ks ++ [k]) = if k ∈ keysP ks then keysP ks else keysP ks ++ [k] := by
  unfold keysP; rw [List.foldl_append]; rfl
theorem keysP_mem (ks : List Int) (x : Int) : x ∈ keysP ks ↔ x ∈ ks := by
  suffices h : ∀ (r : List Int), x ∈ keysP r.reverse ↔ x ∈ r.reverse by simpa using h ks.reverse
  intro r
  induction r with
  | nil => simp [keysP]
  | cons a r ih =>
    rw [List.reverse_cons, keysP_snoc]
    split
    · rename_i h
      rw [List.mem_append, List.mem_singleton, ih]
      constructor
      · exact .inl
      · rintro (h1 | rfl)
        · exact h1
        · exact ih.1 h
    · rw [List.mem_append, List.mem_append, List.mem_singleton, ih]
theorem keysP_take (L : PairL) (k : Nat) (h : k < L.length) : (keysP ((L.take (k + 1)).map (·.1))).length = (keysP ((L.take k).map (·.1))).length + if L[k].1 ∈ (L.take k).map (·.1) then 0 else 1 := by
  rw [List.take_succ_eq_append_getElem h, List.map_append, List.map_singleton, keysP_snoc]
  simp only [keysP_mem]
  split <;> simp
/-- is it the first with its key? -/
def newB (L : PairL) (x : Int) (k : Nat) : Bool := decide (x ∉ (L.take k).map (·.1))
theorem newB_zero (L : PairL) (x : Int) : newB L x 0 = true := by simp [newB]
theorem newB_succ (L : PairL) (x : Int) (k : Nat) (h : k < L.length) : newB L x (k + 1) = (newB L x k && (L[k].1 != x)) := by
  unfold newB
  rw [List.take_succ_eq_append_getElem h, List.map_append, List.map_singleton, Bool.eq_iff_iff]
  simp only [decide_eq_true_eq, Bool.and_eq_true, bne_iff_ne, List.mem_append, List.mem_singleton, not_or]
  constructor
  · rintro ⟨h1, h2⟩; exact ⟨h1, fun e => h2 e.symm⟩
  · rintro ⟨h1, h2⟩; exact ⟨h1, fun e => h2 e.symm⟩
set_option maxRecDepth 100000 in
set_option maxHeartbeats 1600000 in
theorem refkeys_any (v : Value) (L : PairL) (w : World) (hr : PairsAt w v L) (hn : L.length ≤ 549755813888) :
    Calls Try.prog 39 #[v] w fun e w' => e = .returned (.int .i64 ((keysP (L.map (·.1))).length : Int)) ∧ Below w.heap.size w w' := by
  obtain ⟨A, c, rfl, hr, hc⟩ := hr
  have HR := hide hr
  obtain ⟨n, hn'⟩ : ∃ n, n = L.length := ⟨_, rfl⟩
  rw [← hn'] at hn HR hc ⊢
  have HL := hide hn'
  clear hr hn'
  go_enter Try.func39, Try.ntmps39
  go_wp2
  go_loopw [3, 4, 5, 6] (fun q i b k wr => ∃ k m : Nat, k ≤ n ∧ m ≤ k ∧ i = .int .i64 (k : Int) ∧ q = .int .i64 (m : Int) ∧ Hid (m = (keysP ((L.take k).map (·.1))).length) ∧ Hid (Below w.heap.size w wr)) (fun _ i _ _ _ => n - (intOf i).toNat)
  case atStart => exact ⟨0, 0, Nat.zero_le _, Nat.le_refl _, rfl, rfl, hide (by simp [keysP]), hide (Below.refl _ _)⟩
  case round =>
    obtain ⟨wz, rfl⟩ : ∃ wz : World, wz = wr := ⟨_, rfl⟩
    obtain ⟨k, m, hk, hmk, rfl, rfl, HM, HB⟩ := hrel
    by_cases hlt : k < n
    · have hd : decide ((k : Int) < (n : Int)) = true := by simpa using hlt
      obtain ⟨g, o, rfl, hb, c1, _⟩ := reads_pair HR.out (k := k) (by rw [← HL.out]; exact hlt)
      have HT := hide (keysP_take L k (by rw [← HL.out]; exact hlt))
      obtain ⟨a, ha⟩ : ∃ a, a = (L[k]'(by rw [← HL.out]; exact hlt)).1 := ⟨_, rfl⟩
      rw [← ha] at c1 HT
      have HC1 := hide c1
      clear ha c1
      have hk0 : (0 : Int) ≤ (k : Int) := by omega
      have hk1 : (k : Int) < (n : Int) := by omega
      go_wp2
      go_loopw [5, 6] (fun b j wr => ∃ j' : Nat, j' ≤ k ∧ j = .int .i64 (j' : Int) ∧ b = .bool (newB L a j') ∧ Hid (Below w.heap.size w wr)) (fun _ j _ => k - (intOf j).toNat)
      case atStart => exact ⟨0, Nat.zero_le _, rfl, by rw [newB_zero], HB⟩
      case round =>
        obtain ⟨j, hj, rfl, rfl, HB2⟩ := hrel
        by_cases hlj : j < k
        · have hd2 : decide ((j : Int) < (k : Int)) = true := by simpa using hlj
          obtain ⟨g', o', e, _, c2, _⟩ := reads_pair HR.out (k := j) (by rw [← HL.out]; omega)
          cases e
          have HNx := hide (newB_succ L a j (by rw [← HL.out]; omega))
          obtain ⟨x, hx⟩ : ∃ x, x = (L[j]'(by rw [← HL.out]; omega)).1 := ⟨_, rfl⟩
          rw [← hx] at c2 HNx
          have HC2 := hide c2
          clear hx c2
          have hj0 : (0 : Int) ≤ (j : Int) := by omega
          have hj1 : (j : Int) < (n : Int) := by omega
          cases hbn : newB L a j with
          | true =>
            rw [hbn, Bool.true_and] at HNx
            clear hbn
            go_wp2_with fail
            apply wp_region_stage (hv := []) (I := fun W => Below w.heap.size w W) (C := fun W => True) (ss := [_, _, _, _, _, _, _, _, _, _, _, _, _, _, _]) (by kernel_rfl) (by kernel_rfl) (by kernel_rfl) (by kernel_rfl) HB2.out.drew trivial
            repeat (first
              | (apply stWalk_light
                 · rfl
                 · (intro W hI
                    have q0 := (hI.cell (p := ⟨g, o + k * 2, none⟩) hb).trans HC1.out
                    have q1 := (hI.cell (p := ⟨g, o + j * 2, none⟩) hb).trans HC2.out
                    clear hI
                    go_simp
                    with_reducible exact rfl)
                 (try simp only [Act.put, List.setIfInBounds_toArray, List.set_cons_zero, List.set_cons_succ])))
            refine stWalk_nil fun W hI _ => ?_
            have HB3 := hide hI
            clear hI
            go_wp2
            go_roundw
            case rel => exact ⟨j + 1, by omega, by go_num, by rw [HNx.out], HB3⟩
            case measure => simp [intOf]; omega
          | false =>
            rw [hbn, Bool.false_and] at HNx
            clear hbn
            go_wp2_with fail
            apply wp_region_stage (hv := []) (I := fun W => Below w.heap.size w W) (C := fun W => True) (ss := [_, _, _, _, _, _, _, _, _, _, _, _, _, _, _]) (by kernel_rfl) (by kernel_rfl) (by kernel_rfl) (by kernel_rfl) HB2.out.drew trivial
            repeat (first
              | (apply stWalk_light
                 · rfl
                 · (intro W hI
                    clear hI
                    go_simp
                    with_reducible exact rfl)
                 (try simp only [Act.put, List.setIfInBounds_toArray, List.set_cons_zero, List.set_cons_succ])))
            refine stWalk_nil fun W hI _ => ?_
            have HB3 := hide hI
            clear hI
            go_wp2
            go_roundw
            case rel => exact ⟨j + 1, by omega, by go_num, by rw [HNx.out], HB3⟩
            case measure => simp [intOf]; omega
        · obtain rfl : j = k := by omega
          have HT2 : Hid ((keysP ((L.take (j + 1)).map (·.1))).length = m + if newB L a j then 1 else 0) := hide (by
            rw [HT.out, ← HM.out]
            unfold newB
            by_cases h : a ∈ (L.take j).map (·.1) <;> simp [h])
          clear HT HM
          cases hbn : newB L a j with
          | true =>
            rw [hbn] at HT2
            clear hbn
            go_wp2
            go_roundw
            case rel => exact ⟨j + 1, m + 1, by omega, by omega, by go_num, by go_num, hide (by rw [HT2.out]; rfl), HB2⟩
            case measure => simp [intOf]; omega
          | false =>
            rw [hbn] at HT2
            clear hbn
            go_wp2
            go_roundw
            case rel => exact ⟨j + 1, m, by omega, by omega, by go_num, rfl, hide (by rw [HT2.out]; rfl), HB2⟩
            case measure => simp [intOf]; omega
    · obtain rfl : k = n := by omega
      have HE := hide (show m = (keysP (L.map (·.1))).length by have := HM.out; rwa [List.take_of_length_le (by rw [← HL.out]; exact Nat.le_refl _)] at this)
      clear HM
      go_wp2
      go_ret
      exact ⟨by rw [← HE.out]; rfl, HB.out⟩
end Go.Proofs.Ytccpkafmbmkmfaa
