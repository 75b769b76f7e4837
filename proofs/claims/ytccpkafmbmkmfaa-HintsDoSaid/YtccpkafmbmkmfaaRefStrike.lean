/- Chapter 24's reference: Strike, At. No condition but sizes. -/
import Derived.Test.YtccpkafmbmkmfaaRefNote
namespace Go.Proofs.Ytccpkafmbmkmfaa
open Go.RowKit
set_option linter.unusedVariables false
set_option linter.unusedSimpArgs false

def without (L : PairL) (p : Int × Int) : PairL := L.filter fun q => !decide (q = p)
theorem without_take (L : PairL) (p : Int × Int) (k : Nat) (h : k < L.length) : without (L.take (k + 1)) p = if L[k] = p then without (L.take k) p else without (L.take k) p ++ [L[k]] := by
  rw [List.take_succ_eq_append_getElem h, without, List.filter_append]
  split
  · rename_i e; simp [without, e]
  · rename_i e; simp [without, e]
theorem without_len (L : PairL) (p : Int × Int) : (without L p).length ≤ L.length := List.length_filter_le _ _
theorem without_lt (L : PairL) (p : Int × Int) : decide ((without L p).length < L.length) = decide (p ∈ L) := by
  rw [Bool.eq_iff_iff, decide_eq_true_eq, decide_eq_true_eq]
  constructor
  · intro h
    by_cases hp : p ∈ L
    · exact hp
    · exfalso
      have : without L p = L := List.filter_eq_self.2 fun q hq => by
        have : q ≠ p := fun e => hp (e ▸ hq)
        simpa using this
      rw [this] at h; omega
  · intro hp
    rcases Nat.lt_or_ge (without L p).length L.length with h | h
    · exact h
    · exfalso
      have he : without L p = L := (List.filter_sublist).eq_of_length_le h
      have : p ∈ without L p := by rw [he]; exact hp
      simp [without] at this
set_option maxRecDepth 100000 in
set_option maxHeartbeats 1600000 in
theorem refstrike_any (v : Value) (L : PairL) (x y : Int) (w : World) (hr : PairsAt w v L) (hn : L.length ≤ 549755813888) :
    Calls Try.prog 34 #[v, .int .i64 x, .int .i64 y] w fun e w' => ∃ u, e = .returned (.tuple #[u, .bool (decide ((x, y) ∈ L))]) ∧ w'.ownsRow w.heap.size 49 2 u (without L (x, y)).length (pc (without L (x, y))) ∧ Below w.heap.size w w' := by
  obtain ⟨A, c, rfl, hr, hc⟩ := hr
  obtain ⟨i0, hi, hz0, hz1, hz2⟩ := info_parts info_pair
  have HR := hide hr
  obtain ⟨n, hn'⟩ : ∃ n, n = L.length := ⟨_, rfl⟩
  rw [← hn'] at hn HR hc ⊢
  have HL := hide hn'
  clear hr hn'
  go_enter Try.func34, Try.ntmps34
  go_wp2
  go_loopw [8, 9] (fun u i wr => ∃ k : Nat, k ≤ n ∧ i = .int .i64 (k : Int) ∧ Hid (wr.ownsRow w.heap.size 49 2 u (without (L.take k) (x, y)).length (pc (without (L.take k) (x, y)))) ∧ Hid (Below w.heap.size w wr)) (fun _ i _ => n - (intOf i).toNat)
  case atStart => exact ⟨0, Nat.zero_le _, rfl, hide (World.ownsRow_nil _ _ _ _), hide (Below.refl _ _)⟩
  case round =>
    obtain ⟨wz, rfl⟩ : ∃ wz : World, wz = wr := ⟨_, rfl⟩
    obtain ⟨k, hk, rfl, HO, HB⟩ := hrel
    by_cases hlt : k < n
    · have hd : decide ((k : Int) < (n : Int)) = true := by simpa using hlt
      obtain ⟨g, o, rfl, hb, c1, c2⟩ := reads_pair HR.out (k := k) (by rw [← HL.out]; exact hlt)
      replace c1 := (HB.out.cell (p := ⟨g, o + k * 2, none⟩) hb).trans c1
      replace c2 := (HB.out.cell (p := ⟨g, o + k * 2 + 1, none⟩) hb).trans c2
      have HM := hide (without_take L (x, y) k (by rw [← HL.out]; exact hlt))
      have HLe := hide (Nat.le_trans (without_len (L.take k) (x, y)) (List.length_take_le _ _))
      generalize (L[k]'(by rw [← HL.out]; exact hlt)) = q at *
      obtain ⟨a, b⟩ := q
      dsimp only at c1 c2 HM
      by_cases h0 : (a, b) = (x, y)
      · have hm := HM.out
        rw [if_pos h0] at hm
        have HM2 := hide hm
        injection h0 with e1 e2
        subst e1 e2
        have d1 : (a != a) = false := by simp
        have d2 : (b != b) = false := by simp
        clear hm
        go_wp2
        go_roundw
        case rel => exact ⟨k + 1, by omega, by go_num, by rw [HM2.out]; exact HO, HB⟩
        case measure => simp [intOf]; omega
      · have hm := HM.out
        rw [if_neg h0] at hm
        have HM2 := hide hm
        have HH0 := hide h0
        clear hm h0
        obtain ⟨M, hM⟩ : ∃ M, M = without (L.take k) (x, y) := ⟨_, rfl⟩
        rw [← hM] at HO HM2 HLe
        clear hM HM
        have hml : M.length ≤ n := by have := HLe.out; omega
        have hb1 := run_build_pair
        by_cases h1 : a = x
        · subst h1
          have d1 : (a != a) = false := by simp
          have d2 : (b != y) = true := by
            have : b ≠ y := fun e => HH0.out (by rw [e])
            simpa using this
          go_wp2_with (first
            | (at_builtin
               refine wpList_append_any _ rfl _ _ _ rfl w.heap.size 49 i0 _ 2 16 Try.underlying45 hi hz0 hz1 hz2 rfl (by omega) u8 M.length (pc M) rfl (HO.out.alloc _) (wz.heap.size + 1) (some ⟨wz.heap.size, 0, none⟩) 1 1 [.int .i64 a, .int .i64 b] rfl (Reads.pair_new wz a b) (by simp [Value.oneCell']) (by simp only [maxLen]; omega) (by omega) (by have := HB.out.size; simp; omega) ?_
               intro v2 w2 hown2 hg2 hat2
               have HB2 := hide (below_appended (HB.out.alloc HB.out.size _) (by have := HB.out.size; simp; omega) (HO.out.alloc _) (Nat.le_refl _) hg2)
               have HO2 := hide (show w2.ownsRow w.heap.size 49 2 v2 (M ++ [(a, b)]).length (pc (M ++ [(a, b)])) from by rw [pc_append, List.length_append]; exact hown2)
               clear hown2 hg2 hat2)
            | fail)
          go_roundw
          case rel => exact ⟨k + 1, by omega, by go_num, by rw [HM2.out]; exact HO2, HB2⟩
          case measure => simp [intOf]; omega
        · have d1 : (a != x) = true := by simpa using h1
          clear h1
          go_wp2_with (first
            | (at_builtin
               refine wpList_append_any _ rfl _ _ _ rfl w.heap.size 49 i0 _ 2 16 Try.underlying45 hi hz0 hz1 hz2 rfl (by omega) u8 M.length (pc M) rfl (HO.out.alloc _) (wz.heap.size + 1) (some ⟨wz.heap.size, 0, none⟩) 1 1 [.int .i64 a, .int .i64 b] rfl (Reads.pair_new wz a b) (by simp [Value.oneCell']) (by simp only [maxLen]; omega) (by omega) (by have := HB.out.size; simp; omega) ?_
               intro v2 w2 hown2 hg2 hat2
               have HB2 := hide (below_appended (HB.out.alloc HB.out.size _) (by have := HB.out.size; simp; omega) (HO.out.alloc _) (Nat.le_refl _) hg2)
               have HO2 := hide (show w2.ownsRow w.heap.size 49 2 v2 (M ++ [(a, b)]).length (pc (M ++ [(a, b)])) from by rw [pc_append, List.length_append]; exact hown2)
               clear hown2 hg2 hat2)
            | fail)
          go_roundw
          case rel => exact ⟨k + 1, by omega, by go_num, by rw [HM2.out]; exact HO2, HB2⟩
          case measure => simp [intOf]; omega
    · obtain rfl : k = n := by omega
      have e : L.take k = L := List.take_of_length_le (by rw [← HL.out]; exact Nat.le_refl _)
      rw [e] at HO
      have HW := hide (without_lt L (x, y))
      obtain ⟨M, hM⟩ : ∃ M, M = without L (x, y) := ⟨_, rfl⟩
      rw [← hM] at HO HW
      have HMM := hide hM
      obtain ⟨A', c', rfl⟩ := own_slice HO.out
      have HI := hide (show decide (M.length < k) = decide ((x, y) ∈ L) by rw [← HW.out, ← HL.out])
      clear hM e HW
      go_wp2
      go_ret2
      exact ⟨_, by rw [← HI.out]; rfl, by rw [← HMM.out]; exact HO.out, HB.out⟩
end Go.Proofs.Ytccpkafmbmkmfaa
