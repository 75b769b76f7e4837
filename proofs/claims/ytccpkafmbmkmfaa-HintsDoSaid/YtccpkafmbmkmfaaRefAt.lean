/- Chapter 24's reference: At, Ints, Keys. No condition but sizes. -/
import Derived.Test.YtccpkafmbmkmfaaRefStrike
namespace Go.Proofs.Ytccpkafmbmkmfaa
open Go.RowKit
set_option linter.unusedVariables false
set_option linter.unusedSimpArgs false
attribute [local go_sem] Gives givesUpon
attribute [local irreducible] Gives

/-- the values noted for a key -/
def valsP (L : PairL) (x : Int) : List Int := (L.filter fun p => decide (p.1 = x)).map (·.2)
theorem valsP_take (L : PairL) (x : Int) (k : Nat) (h : k < L.length) : valsP (L.take (k + 1)) x = if L[k].1 = x then valsP (L.take k) x ++ [L[k].2] else valsP (L.take k) x := by
  rw [List.take_succ_eq_append_getElem h, valsP, List.filter_append, List.map_append]
  split
  · rename_i e; simp [valsP, e]
  · rename_i e; simp [valsP, e]
theorem valsP_len (L : PairL) (x : Int) : (valsP L x).length ≤ L.length := by unfold valsP; rw [List.length_map]; exact List.length_filter_le _ _
set_option maxRecDepth 100000 in
set_option maxHeartbeats 1600000 in
theorem refat_any (v : Value) (L : PairL) (x : Int) (w : World) (hr : PairsAt w v L) (hn : L.length ≤ 549755813888) :
    Calls Try.prog 37 #[v, .int .i64 x] w fun e w' => ∃ u, e = .returned u ∧ w'.ownsRow w.heap.size 3 1 u (valsP L x).length ((valsP L x).map ci) ∧ Below w.heap.size w w' := by
  obtain ⟨A, c, rfl, hr, hc⟩ := hr
  obtain ⟨i0, hi, hz0, hz1, hz2⟩ := info_parts hinfo_int
  have HR := hide hr
  obtain ⟨n, hn'⟩ : ∃ n, n = L.length := ⟨_, rfl⟩
  rw [← hn'] at hn HR hc ⊢
  have HL := hide hn'
  clear hr hn'
  go_enter Try.func37, Try.ntmps37
  go_wp2
  go_loopw [5, 6] (fun u i wr => ∃ k : Nat, k ≤ n ∧ i = .int .i64 (k : Int) ∧ Hid (wr.ownsRow w.heap.size 3 1 u (valsP (L.take k) x).length ((valsP (L.take k) x).map ci)) ∧ Hid (Below w.heap.size w wr)) (fun _ i _ => n - (intOf i).toNat)
  case atStart => exact ⟨0, Nat.zero_le _, rfl, hide (World.ownsRow_nil _ _ _ _), hide (Below.refl _ _)⟩
  case round =>
    obtain ⟨wz, rfl⟩ : ∃ wz : World, wz = wr := ⟨_, rfl⟩
    obtain ⟨k, hk, rfl, HO, HB⟩ := hrel
    by_cases hlt : k < n
    · have hd : decide ((k : Int) < (n : Int)) = true := by simpa using hlt
      obtain ⟨g, o, rfl, hb, c1, c2⟩ := reads_pair HR.out (k := k) (by rw [← HL.out]; exact hlt)
      replace c1 := (HB.out.cell (p := ⟨g, o + k * 2, none⟩) hb).trans c1
      replace c2 := (HB.out.cell (p := ⟨g, o + k * 2 + 1, none⟩) hb).trans c2
      have HM := hide (valsP_take L x k (by rw [← HL.out]; exact hlt))
      have HLe := hide (Nat.le_trans (valsP_len (L.take k) x) (List.length_take_le _ _))
      generalize (L[k]'(by rw [← HL.out]; exact hlt)) = q at *
      obtain ⟨a, b⟩ := q
      dsimp only at c1 c2 HM
      by_cases h0 : a = x
      · have hm := HM.out
        rw [if_pos h0] at hm
        have HM2 := hide hm
        subst h0
        have d1 : (a == a) = true := by simp
        clear hm HM
        obtain ⟨M, hM⟩ : ∃ M, M = valsP (L.take k) a := ⟨_, rfl⟩
        rw [← hM] at HO HM2 HLe
        clear hM
        have hml : M.length ≤ n := by have := HLe.out; omega
        have hb1 := run_build_int
        go_wp2_with (first
          | (at_builtin
             refine wpList_append_any _ rfl _ _ _ rfl w.heap.size 3 i0 _ 1 8 Try.underlying35 hi hz0 hz1 hz2 rfl (by omega) u5 M.length (M.map ci) rfl (HO.out.alloc _) (wz.heap.size + 1) (some ⟨wz.heap.size, 0, none⟩) 1 1 [.int .i64 b] rfl (Reads.new wz _ #[.int .i64 b]) (by simp [Value.oneCell']) (by simp only [maxLen]; omega) (by omega) (by have := HB.out.size; simp; omega) ?_
             intro v2 w2 hown2 hg2 hat2
             have HB2 := hide (below_appended (HB.out.alloc HB.out.size _) (by have := HB.out.size; simp; omega) (HO.out.alloc _) (Nat.le_refl _) hg2)
             have HO2 := hide (show w2.ownsRow w.heap.size 3 1 v2 (M ++ [b]).length ((M ++ [b]).map ci) from by rw [List.map_append, List.length_append]; exact hown2)
             clear hown2 hg2 hat2)
          | fail)
        go_roundw
        case rel => exact ⟨k + 1, by omega, by go_num, by rw [HM2.out]; exact HO2, HB2⟩
        case measure => simp [intOf]; omega
      · have hm := HM.out
        rw [if_neg h0] at hm
        have HM2 := hide hm
        have d1 : (a == x) = false := by simpa using h0
        clear hm h0 HM
        go_wp2
        go_roundw
        case rel => exact ⟨k + 1, by omega, by go_num, by rw [HM2.out]; exact HO, HB⟩
        case measure => simp [intOf]; omega
    · obtain rfl : k = n := by omega
      have e : L.take k = L := List.take_of_length_le (by rw [← HL.out]; exact Nat.le_refl _)
      rw [e] at HO
      clear e
      go_wp2
      go_ret
      exact ⟨_, rfl, HO.out, HB.out⟩
theorem take_eq_succ' {a b : List Int} (k : Nat) (ha : k < a.length) (hb : k < b.length) : a.take (k + 1) = b.take (k + 1) ↔ a.take k = b.take k ∧ a[k] = b[k] := by
  rw [List.take_succ_eq_append_getElem ha, List.take_succ_eq_append_getElem hb]
  constructor
  · intro h
    have h1 := List.append_inj h (by simp; omega)
    exact ⟨h1.1, by simpa using h1.2⟩
  · rintro ⟨h1, h2⟩; rw [h1, h2]
set_option maxRecDepth 100000 in
set_option maxHeartbeats 1600000 in
theorem ints_any (A B : Option Addr) (n c m d : Nat) (xs ys : List Int) (w : World) (hr : Reads w w.heap.size 1 A n (xs.map ci)) (hs : Reads w w.heap.size 1 B m (ys.map ci)) (hn : n ≤ 1099511627776) (hm : m ≤ 1099511627776) :
    Calls Try.prog 36 #[.slice A n c, .slice B m d] w fun e w' => e = .returned (.bool (decide (xs = ys))) ∧ Below w.heap.size w w' := by
  have hl := hr.len
  have hl1 := hs.len
  by_cases hnn : n = m
  · subst hnn
    have HL := hide hl
    have HL1 := hide hl1
    have HR := hide hr
    have HR1 := hide hs
    clear hl hl1 hr hs
    go_enter Try.func36, Try.ntmps36
    go_wp2
    go_loopw [5] (fun i wr => ∃ (k : Nat), k ≤ n ∧ i = .int .i64 (k : Int) ∧ Hid (xs.take k = ys.take k) ∧ Hid (Below w.heap.size w wr)) (fun i _ => n - (intOf i).toNat)
    case atStart => exact ⟨0, by omega, rfl, hide (by simp), hide (Below.refl _ _)⟩
    case round =>
      obtain ⟨k, hk, rfl, HP, hB⟩ := hrel
      by_cases hlt : k < n
      · have hd : decide ((k : Int) < (n : Int)) = true := by simp; omega
        obtain ⟨g, off, rfl, hg⟩ := HR.out.addr' (by omega)
        obtain ⟨g1, off1, rfl, hg1⟩ := HR1.out.addr' (by omega)
        obtain ⟨x, hxx⟩ : ∃ x, x = xs[k]'(by rw [HL.out]; exact hlt) := ⟨_, rfl⟩
        obtain ⟨y, hyy⟩ : ∃ y, y = ys[k]'(by rw [HL1.out]; exact hlt) := ⟨_, rfl⟩
        have hc0 : w.cell? ⟨g, off + k, none⟩ = some (ci x) := by
          obtain ⟨ad, e, _, hc⟩ := HR.out.get (k := k) (by rw [HL.out]; exact hlt)
          cases e; rw [Addr.add_lit] at hc; rw [hc, hxx]
        have hc1 : w.cell? ⟨g1, off1 + k, none⟩ = some (ci y) := by
          obtain ⟨ad, e, _, hc⟩ := HR1.out.get (k := k) (by rw [HL1.out]; exact hlt)
          cases e; rw [Addr.add_lit] at hc; rw [hc, hyy]
        have HN := hide (take_eq_succ' k (a := xs) (b := ys) (by rw [HL.out]; exact hlt) (by rw [HL1.out]; exact hlt))
        rw [← hxx, ← hyy] at HN
        have hk0 : (0 : Int) ≤ (k : Int) := by omega
        have hk1 : (k : Int) < (n : Int) := by omega
        replace hc0 := hide hc0
        replace hc1 := hide hc1
        clear hxx hyy
        go_wp2_with fail
        apply wp_region_stage (hv := []) (I := fun W => Below w.heap.size w W) (C := fun W => True) (ss := [_, _, _, _, _, _, _, _, _]) (by kernel_rfl) (by kernel_rfl) (by kernel_rfl) (by kernel_rfl) hB.out.drew trivial
        repeat (first
          | (apply stWalk_light
             · rfl
             · (intro W hI
                have q0 := (hI.cell (p := ⟨g, off + k, none⟩) hg).trans hc0.out
                have q1 := (hI.cell (p := ⟨g1, off1 + k, none⟩) hg1).trans hc1.out
                clear hI
                go_simp
                with_reducible exact rfl)
             (try simp only [Act.put, List.setIfInBounds_toArray, List.set_cons_zero, List.set_cons_succ])))
        refine stWalk_nil fun W hI _ => ?_
        have HB := hide hI
        clear hI
        by_cases hxy : x = y
        · have hne : (x != y) = false := by simpa using hxy
          have HN2 := hide (HN.out.2 ⟨HP.out, hxy⟩)
          clear hxy
          go_wp2
          go_roundw
          case rel => exact ⟨k + 1, by omega, by go_num, HN2, HB⟩
          case measure => simp [intOf]; omega
        · have hne : (x != y) = true := by simpa using hxy
          have HN2 := hide (show ¬ xs = ys from fun e => hxy (HN.out.1 (by rw [e])).2)
          clear hxy
          go_wp2
          go_ret
          exact ⟨by rw [decide_eq_false HN2.out]; rfl, HB.out⟩
      · obtain rfl : k = n := by omega
        have HE := hide (show xs = ys by have := HP.out; rwa [List.take_of_length_le (by rw [HL.out]; exact Nat.le_refl _), List.take_of_length_le (by rw [HL1.out]; exact Nat.le_refl _)] at this)
        go_wp2
        go_ret
        exact ⟨by rw [decide_eq_true HE.out]; rfl, hB.out⟩
  · have HE := hide (show ¬ xs = ys from fun e => hnn (by rw [← hl, ← hl1, e]))
    have hne : ((n : Int) != (m : Int)) = true := by rw [bne_iff_ne]; omega
    clear hl hl1 hr hs
    go_enter Try.func36, Try.ntmps36
    go_wp2
    go_ret
    exact ⟨by rw [decide_eq_false HE.out]; rfl, Below.refl _ _⟩
end Go.Proofs.Ytccpkafmbmkmfaa
