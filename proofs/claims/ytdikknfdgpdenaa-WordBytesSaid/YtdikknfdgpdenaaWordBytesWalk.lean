/- The walk of the law WordBytes: it returns true. No condition. -/
import Derived.Test.YtdikknfdgpdenaaWordRefBytes
import Derived.Test.YtdikknfdgpdenaaRel
import Derived.Deep.DeepCutAuto
namespace Go.Proofs.Ytdikknfdgpdenaa
open Go.RowKit
set_option linter.unusedVariables false
attribute [local go_sem] Gives givesUpon

theorem same01_true (A B : Option Addr) (n m c d : Nat) (xs ys : List (BitVec 32)) (w : World) (ha : Reads w w.heap.size 1 A n (xs.map c32)) (hb : Reads w w.heap.size 1 B m (ys.map c32)) (hn : n ≤ 1099511627776) (he : xs = ys) :
    Calls Try.prog 27 #[.slice A n c, .slice B m d] w fun e w' => e = .returned (.bool true) ∧ Below w.heap.size w w' :=
  (same01_any A B n m c d xs ys w ha hb hn).mono fun e w' ⟨h1, k, h2⟩ => ⟨by rw [h1]; simp [he], by rw [h2]; exact below_drewN (Below.refl _ _) k⟩
set_option maxRecDepth 100000 in
set_option maxHeartbeats 1600000 in
theorem wordBytes_walk (w : World) (A0 : Option Addr) (n0 c0 : Nat) (bs0 : List (BitVec 32)) (r0 : Reads w w.heap.size 1 A0 n0 (bs0.map c32)) (m0 : n0 ≤ 9223372036854775807) (k0 : n0 ≤ c0) (A1 : Option Addr) (n1 c1 : Nat) (bs1 : List (BitVec 8)) (r1 : Reads w w.heap.size 1 A1 n1 (bs1.map c8)) (m1 : n1 ≤ 9223372036854775807) (k1 : n1 ≤ c1) :
    Calls Try.prog 5 #[.slice A0 n0 c0, .slice A1 n1 c1] w fun e w' => e = .returned (.bool true) ∧ Below w.heap.size w w' := by
  by_cases h0 : 500 < n0
  · have h0' : (500 : Int) < (n0 : Int) := by omega
    go_enter Try.func5, Try.ntmps5
    go_wp2_with (go_at_call 20; refine (alive01_any _).mono ?_; rintro e w' ⟨rfl, hb⟩)
    go_ret
    exact ⟨rfl, hb⟩
  by_cases h1 : 2000 < n1
  · have h0' : ¬ (500 : Int) < (n0 : Int) := by omega
    have h1' : (2000 : Int) < (n1 : Int) := by omega
    go_enter Try.func5, Try.ntmps5
    go_wp2_with (go_at_call 20; refine (alive01_any _).mono ?_; rintro e w' ⟨rfl, hb⟩)
    go_ret
    exact ⟨rfl, hb⟩
  have h0' : ¬ (500 : Int) < (n0 : Int) := by omega
  have h1' : ¬ (2000 : Int) < (n1 : Int) := by omega
  have l0 := hide r0.len
  have l1 := hide r1.len
  go_enter Try.func5, Try.ntmps5
  go_upto_region 5 with (first
    | (go_at_call 24; refine (bytes_any _ _ _ _ _ r0 (by omega)).mono ?_; rintro e w2 ⟨A2, c2, rfl, own2, hb2⟩; have rx := Reads.of_own own2; have cx := own_cap own2)
    | (go_at_call 25; refine (words_any _ _ n0 _ _ _ rx rfl (by omega) cx).mono ?_; rintro e w3 ⟨A3, c3, rfl, own3, hb3⟩))
  have s1 : ∀ W, Below w3.heap.size w3 W → Sem.run Try.prog (convert 29 9 (.slice A2 (4 * n0) c2)) W = .ok (.string (strOf (bytesOf bs0))) W := fun W h =>
    run_str W _ _ _ Try.underlying29 Try.underlying5 Try.underlying9 _ _ _ _ _ ((rx.later hb3).later h)
  have q3 : Below w.heap.size w w3 := below_then hb2 hb2.size hb3
  have ry := (Reads.of_own own3)
  have ra := r0.later q3
  have he : wordsOf (bytesOf bs0) = bs0 := wordsOf_bytesOf bs0
  have HE := hide he
  clear he
  go_cut [50] (fun s50 wx => s50 = .bool false ∧ Below w3.heap.size w3 wx)
  case first =>
    apply wp_region_rel (C := fun W => Below w3.heap.size w3 W) (M := fun W W' => Below W.heap.size W W') (ss := [_, _, _, _, _, _, _, _, _, _, _, _, _, _, _, _, _, _, _, _, _, _, _]) (by kernel_rfl) (by kernel_rfl) (by kernel_rfl) (Below.refl _ _).drew
    repeat (first
      | (apply relWalk_const (fun W => Below.refl _ _)
         · (intro W hC hF
            clear hF
            go_simp
            with_reducible exact rfl)
         (try simp only [Act.put, List.setIfInBounds_toArray, List.set_cons_zero, List.set_cons_succ])))
    apply relWalk_rel (fun v => ∃ A c, v = .slice A (4 * n0) c) (SliceOf8 (4 * n0) (bytesOf bs0)) ⟨_, none, 0, rfl⟩ (fun v w w' hb h => SliceOf8.later v w w' hb h)
    · go_simp
    · intro W hC hF
      clear hF
      go_simp
      refine (refbytes_any _ _ _ _ _ (ra.later hC) (by omega)).mono ?_
      rintro e w4 ⟨A4, c4, rfl, own4, hb4⟩
      exact ⟨_, rfl, ⟨A4, c4, rfl⟩, ⟨rfl, Reads.of_own own4⟩, below_next hC hb4, hb4⟩
    rintro v ⟨A4, c4, rfl⟩
    (try simp only [Act.put, List.setIfInBounds_toArray, List.set_cons_zero, List.set_cons_succ])
    apply relWalk_const (fun W => Below.refl _ _)
    · intro W hC hF
      have h4 := run_str (P := Try.prog) W _ _ _ Try.underlying29 Try.underlying5 Try.underlying9 _ _ _ c4 _ (hF.1 (by kernel_rfl)).2
      clear hF
      go_simp
      exact rfl
    (try simp only [Act.put, List.setIfInBounds_toArray, List.set_cons_zero, List.set_cons_succ])
    repeat (first
      | (apply relWalk_const (fun W => Below.refl _ _)
         · (intro W hC hF
            clear hF
            go_simp
            with_reducible exact rfl)
         (try simp only [Act.put, List.setIfInBounds_toArray, List.set_cons_zero, List.set_cons_succ])))
    apply relWalk_constW
    · go_simp
    · intro W hC hF
      clear hF
      go_simp
      refine (same01_true _ _ _ _ _ _ _ _ _ (ry.later hC) (ra.later hC) (by omega) HE.out).mono ?_
      rintro e w4 ⟨rfl, hb4⟩
      exact ⟨_, rfl, rfl, below_next hC hb4, hb4⟩
    (try simp only [Act.put, List.setIfInBounds_toArray, List.set_cons_zero, List.set_cons_succ])
    repeat (first
      | (apply relWalk_const (fun W => Below.refl _ _)
         · (intro W hC hF
            clear hF
            go_simp
            go_at_call 28; refine (add_any _ _ _ _ _ (ra.later hC) (by omega)).mono ?_; rintro e w4 ⟨rfl, rfl⟩; exact ⟨_, rfl, rfl, rfl⟩)
         (try simp only [Act.put, List.setIfInBounds_toArray, List.set_cons_zero, List.set_cons_succ]))
      | (apply relWalk_const (fun W => Below.refl _ _)
         · (intro W hC hF
            clear hF
            go_simp
            go_at_call 29; refine (refadd_any _ _ _ _ _ (ra.later hC) (by omega)).mono ?_; rintro e w4 ⟨rfl, rfl⟩; exact ⟨_, rfl, rfl, rfl⟩)
         (try simp only [Act.put, List.setIfInBounds_toArray, List.set_cons_zero, List.set_cons_succ]))
      | (apply relWalk_const (fun W => Below.refl _ _)
         · (intro W hC hF
            clear hF
            go_simp
            with_reducible exact rfl)
         (try simp only [Act.put, List.setIfInBounds_toArray, List.set_cons_zero, List.set_cons_succ])))
    apply relWalk_nil
    intro wx hC hF
    go_wp2_with fail
    go_meet
    exact ⟨rfl, hC⟩
  case rest =>
    obtain ⟨rfl, hB⟩ := hcut
    have q4 := below_then q3 q3.size hB
    by_cases h4 : n1 % 4 = 0
    · obtain ⟨m, hm⟩ : ∃ m, n1 = 4 * m := ⟨n1 / 4, by omega⟩
      have HM := hide hm
      clear h4 hm
      have rb := r1.later q4
      go_upto_region 9 with (first
        | (go_at_call 25; refine (words_any _ _ m _ _ _ rb HM.out (by have := HM.out; omega) k1).mono ?_; rintro e w5 ⟨A5, c5, rfl, own5, hb5⟩)
        | (go_at_call 30; refine (refwords_any _ _ m _ _ _ (rb.later hb5) HM.out (by have := HM.out; omega)).mono ?_; rintro e w6 ⟨A6, c6, rfl, own6, hb6⟩))
      have q5 := below_then q4 q4.size hb5
      have q6 := below_then q5 q5.size hb6
      have rz := (Reads.of_own own5).later hb6
      have rv := Reads.of_own own6
      have rb6 := r1.later q6
      have hmm : m ≤ 500 := by have := HM.out; omega
      have HB := hide (bytesOf_wordsOf bs1 m (by rw [l1.out, HM.out]))
      have s2 : ∀ W, Below w6.heap.size w6 W → Sem.run Try.prog (convert 29 9 (.slice A1 n1 c1)) W = .ok (.string (strOf bs1)) W := fun W h =>
        run_str W _ _ _ Try.underlying29 Try.underlying5 Try.underlying9 _ _ _ _ _ (rb6.later h)
      apply wp_region_rel (C := fun W => Below w6.heap.size w6 W) (M := fun W W' => Below W.heap.size W W') (ss := [_, _, _, _, _, _, _, _, _, _, _, _, _, _, _, _, _, _, _, _, _, _, _, _]) (by kernel_rfl) (by kernel_rfl) (by kernel_rfl) (Below.refl _ _).drew
      repeat (first
        | (apply relWalk_const (fun W => Below.refl _ _)
           · (intro W hC hF
              clear hF
              go_simp
              with_reducible exact rfl)
           (try simp only [Act.put, List.setIfInBounds_toArray, List.set_cons_zero, List.set_cons_succ])))
      apply relWalk_constW
      · go_simp
      · intro W hC hF
        clear hF
        go_simp
        refine (same01_true _ _ _ _ _ _ _ _ _ (rz.later hC) (rv.later hC) (by omega) rfl).mono ?_
        rintro e w4 ⟨rfl, hb4⟩
        exact ⟨_, rfl, rfl, below_next hC hb4, hb4⟩
      (try simp only [Act.put, List.setIfInBounds_toArray, List.set_cons_zero, List.set_cons_succ])
      repeat (first
        | (apply relWalk_const (fun W => Below.refl _ _)
           · (intro W hC hF
              clear hF
              go_simp
              with_reducible exact rfl)
           (try simp only [Act.put, List.setIfInBounds_toArray, List.set_cons_zero, List.set_cons_succ])))
      apply relWalk_rel (fun v => ∃ A c, v = .slice A (4 * m) c) (SliceOf8 (4 * m) (bytesOf (wordsOf bs1))) ⟨_, none, 0, rfl⟩ (fun v w w' hb h => SliceOf8.later v w w' hb h)
      · go_simp
      · intro W hC hF
        clear hF
        go_simp
        refine (bytes_any _ _ _ _ _ (rz.later hC) (by omega)).mono ?_
        rintro e w4 ⟨A4, c4, rfl, own4, hb4⟩
        exact ⟨_, rfl, ⟨A4, c4, rfl⟩, ⟨rfl, Reads.of_own own4⟩, below_next hC hb4, hb4⟩
      rintro v ⟨A4, c4, rfl⟩
      (try simp only [Act.put, List.setIfInBounds_toArray, List.set_cons_zero, List.set_cons_succ])
      apply relWalk_const (fun W => Below.refl _ _)
      · intro W hC hF
        have h4 := run_str (P := Try.prog) W _ _ _ Try.underlying29 Try.underlying5 Try.underlying9 _ _ _ c4 _ (hF.1 (by kernel_rfl)).2
        rw [HB.out] at h4
        clear hF
        go_simp
        exact rfl
      (try simp only [Act.put, List.setIfInBounds_toArray, List.set_cons_zero, List.set_cons_succ])
      repeat (first
        | (apply relWalk_const (fun W => Below.refl _ _)
           · (intro W hC hF
              clear hF
              have s9 := s2 W hC
              go_simp
              with_reducible exact rfl)
           (try simp only [Act.put, List.setIfInBounds_toArray, List.set_cons_zero, List.set_cons_succ])))
      apply relWalk_constW
      · go_simp
      · intro W hC hF
        clear hF
        go_simp
        refine (alive01_any _).mono ?_
        rintro e w4 ⟨rfl, hb4⟩
        exact ⟨_, rfl, rfl, below_next hC hb4, hb4⟩
      (try simp only [Act.put, List.setIfInBounds_toArray, List.set_cons_zero, List.set_cons_succ])
      repeat (first
        | (apply relWalk_const (fun W => Below.refl _ _)
           · (intro W hC hF
              clear hF
              go_simp
              with_reducible exact rfl)
           (try simp only [Act.put, List.setIfInBounds_toArray, List.set_cons_zero, List.set_cons_succ])))
      apply relWalk_nil
      intro wy hC hF
      go_wp2
      go_ret
      exact ⟨rfl, below_then q6 q6.size hC⟩

    · go_upto_region 9 with (first
        | (go_at_call 25; refine (words_no _ _ _ _ m1 h4).mono ?_; rintro e w5 ⟨rfl, rfl⟩)
        | (go_at_call 30; refine (refwords_no _ _ _ _ m1 h4).mono ?_; rintro e w5 ⟨rfl, rfl⟩))
      apply wp_region_rel (C := fun W => Below wc.heap.size wc W) (M := fun W W' => Below W.heap.size W W') (ss := [_, _, _, _, _, _, _, _, _, _, _, _, _, _, _, _, _, _, _, _, _, _, _, _]) (by kernel_rfl) (by kernel_rfl) (by kernel_rfl) (Below.refl _ _).drew
      repeat (first
        | (apply relWalk_const (fun W => Below.refl _ _)
           · (intro W hC hF
              clear hF
              go_simp
              with_reducible exact rfl)
           (try simp only [Act.put, List.setIfInBounds_toArray, List.set_cons_zero, List.set_cons_succ])))
      apply relWalk_constW
      · go_simp
      · intro W hC hF
        clear hF
        go_simp
        refine (same01_true none none 0 0 0 0 [] [] _ Reads.none_ Reads.none_ (by omega) rfl).mono ?_
        rintro e w4 ⟨rfl, hb4⟩
        exact ⟨_, rfl, rfl, below_next hC hb4, hb4⟩
      (try simp only [Act.put, List.setIfInBounds_toArray, List.set_cons_zero, List.set_cons_succ])
      repeat (first
        | (apply relWalk_const (fun W => Below.refl _ _)
           · (intro W hC hF
              clear hF
              go_simp
              with_reducible exact rfl)
           (try simp only [Act.put, List.setIfInBounds_toArray, List.set_cons_zero, List.set_cons_succ])))
      apply relWalk_constW
      · go_simp
      · intro W hC hF
        clear hF
        go_simp
        refine (alive01_any _).mono ?_
        rintro e w4 ⟨rfl, hb4⟩
        exact ⟨_, rfl, rfl, below_next hC hb4, hb4⟩
      (try simp only [Act.put, List.setIfInBounds_toArray, List.set_cons_zero, List.set_cons_succ])
      repeat (first
        | (apply relWalk_const (fun W => Below.refl _ _)
           · (intro W hC hF
              clear hF
              go_simp
              with_reducible exact rfl)
           (try simp only [Act.put, List.setIfInBounds_toArray, List.set_cons_zero, List.set_cons_succ])))
      apply relWalk_nil
      intro wy hC hF
      go_wp2
      go_ret
      exact ⟨rfl, below_then q4 q4.size hC⟩

end Go.Proofs.Ytdikknfdgpdenaa
