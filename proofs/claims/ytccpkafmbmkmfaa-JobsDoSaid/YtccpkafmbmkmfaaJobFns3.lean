/- The document's answers on lists of jobs: Find, All, Claim, At, Mined; chapter 13's Find. Condition: at most 2^20 jobs. Rows of jobs of one's own that share what holds the tiers; an append onto a row without room. No condition but sizes. The document's answers on lists of jobs: All, Add. Condition: at most 2^19 jobs. The document's answers on lists of jobs: Drop, Mark, Live. Condition: at most 2^19 jobs. The document's answers on lists of jobs: Rest, Evict. Condition: at most 2^19 jobs. Package jobs' Drop, and what it asks of package slices. Condition: at most 2^20 jobs. slices.DeleteFunc on a row of keys that the caller owns. Condition: at most 2^20 keys. Package jobs' Drop. Condition: at most 2^20 jobs. Package jobs' Add of a job that may not be or that is there; its Get of a key that is not there. Condition: a payload that is not too much. Package jobs' Clone. Condition: at most 2^19 jobs. A table of jobs and the reference's row, told alike: what each call does to both. Plain lists; no program. No condition. -/
import Derived.Test.YtccpkafmbmkmfaaJobPlain
import Derived.Lib.BufferMore
namespace Go.Proofs.Ytccpkafmbmkmfaa
open Go.RowKit Go.Shelf
set_option linter.unusedVariables false
set_option linter.unusedSimpArgs false
attribute [local go_sem] Gives givesUpon
attribute [local irreducible] Gives

/-- the place of something in a list, or d -/
def findD {α : Type} [DecidableEq α] (d : Int) (L : List α) (k : α) : Int := match L.findIdx? (fun x => decide (x = k)) with | none => d | some i => (i : Int)
theorem findD_none {α : Type} [DecidableEq α] {d : Int} {L : List α} {k : α} (h : k ∉ L) : findD d L k = d := by
  have : L.findIdx? (fun x => decide (x = k)) = none := by
    rw [List.findIdx?_eq_none_iff]
    intro x hx
    simp only [decide_eq_false_iff_not]
    rintro rfl; exact h hx
  unfold findD; rw [this]
theorem findD_some {α : Type} [DecidableEq α] {d : Int} {L : List α} {k : α} {i : Nat} (hi : L[i]? = some k) (h : k ∉ L.take i) : findD d L k = (i : Int) := by
  have hlt := (List.getElem?_eq_some_iff.1 hi).1
  have : L.findIdx? (fun x => decide (x = k)) = some i := by
    rw [List.findIdx?_eq_some_iff_getElem]
    refine ⟨hlt, by have := (List.getElem?_eq_some_iff.1 hi).2; simp [this], fun j hj => ?_⟩
    simp only [decide_eq_true_eq]
    intro e
    refine h (List.mem_iff_getElem.2 ⟨j, by rw [List.length_take]; omega, ?_⟩)
    rw [List.getElem_take]; exact e
  unfold findD; rw [this]
set_option maxRecDepth 100000 in
set_option maxHeartbeats 1600000 in
theorem find13_any (v : Value) (K : List TierK) (m : List (BitVec 8)) (R : Array Value) (hm : m.length = 32) (hR : IdVal m R) (w : World) (S : Nat → Prop) (h : PayAt w S v K) (hmo : Modest K) :
    Calls Try.prog 107 #[.agg #[v], .agg R] w fun e w' => e = .returned (.tuple #[.int .i64 (findD 0 (idsOf (plainT K)) m), .bool (decide (m ∈ idsOf (plainT K)))]) ∧ Below w.heap.size w w' := by
  have HP := hide h
  obtain ⟨A, c, rfl, hc, _, _⟩ := h
  obtain ⟨n, hn⟩ : ∃ n, n = K.length := ⟨_, rfl⟩
  have HN := hide hn
  have HMo := hide hmo
  have hn1 : n ≤ 1048576 := by rw [hn]; exact hmo.1
  rw [← hn] at hc HP ⊢
  obtain ⟨W0, hW0, sz, b1, b2, hB0⟩ := blks2 w 73 70 #[.slice A n c] R
  have HQ1 := hide b1
  have HQ2 := hide b2
  have HB0 := hide hB0
  replace hW0 := hide hW0
  have HR := hide hR
  have HM := hide hm
  obtain ⟨ids, hids⟩ : ∃ ids, ids = idsOf (plainT K) := ⟨_, rfl⟩
  have HIds := hide hids
  rw [← hids]
  have HIl : Hid (ids.length = n) := hide (by rw [hids, hn]; simp [idsOf, plainT])
  clear hn hmo b1 b2 hB0 sz hR hm hids
  go_enter Try.func107, Try.ntmps107
  go_upto_region 1 with (fail)
  rw [hW0.out]
  go_wp2
  go_loopw [6] (fun i wr => ∃ (k : Nat), k ≤ n ∧ i = .int .i64 (k : Int) ∧ Hid (Below W0.heap.size W0 wr) ∧ Hid (m ∉ ids.take k)) (fun i _ => n - (intOf i).toNat)
  case atStart => exact ⟨0, Nat.zero_le _, rfl, hide (Below.refl _ _), hide (by simp)⟩
  case round =>
    obtain ⟨wz, rfl⟩ : ∃ wz : World, wz = wr := ⟨_, rfl⟩
    obtain ⟨k, hk, rfl, HBk, HX⟩ := hrel
    have z1 : wz.cell? ⟨w.heap.size, 0, none⟩ = some (.slice A n c) := ((HQ1.out.below HBk.out HQ1.out.lt).cell 0).trans rfl
    by_cases hlt : k < n
    · have hd1 : decide ((k : Int) < (n : Int)) = true := by simpa using hlt
      have hkK : k < K.length := by rw [← HN.out]; exact hlt
      obtain ⟨ga, oa, rfl, hga, c1, c2⟩ := HP.out.at_ (k := k) hkK
      have HTx := HP.out.tx (List.getElem_mem hkK)
      have hbl := HMo.out.2 _ (List.getElem_mem hkK)
      have HIk : Hid (ids[k]? = some (shaOf K[k].2.2)) := hide (by rw [HIds.out]; simp [idsOf, plainT, hkK])
      generalize (K[k]'hkK) = p at *
      obtain ⟨fee, u, bs⟩ := p
      obtain ⟨A2, c2', e2, hr2, hcap⟩ := id HTx
      dsimp only at e2 c1 c2 hbl HIk hr2 HTx
      subst e2
      obtain ⟨q, hq⟩ : ∃ q, q = shaOf bs := ⟨_, rfl⟩
      have hql : q.length = 32 := by rw [hq]; exact shaOf_len _
      obtain ⟨RQ, hRQ⟩ := idVal q hql
      have hBz := below_next HB0.out HBk.out
      have HID : Hid (∀ W, Below wz.heap.size wz W → Calls Try.prog 49 #[.slice A2 bs.length c2'] W fun e w' => e = .returned (.agg RQ) ∧ Below W.heap.size W w') := hide fun W hW => by
        rw [hRQ.val, hq]; exact refid_any _ bs W S (HTx.keep (below_next hBz hW).size fun i hi _ => (below_next hBz hW).block i hi) hbl
      have FX : Hid (∀ W, Below wz.heap.size wz W → W.cell? ⟨w.heap.size, 0, none⟩ = some (.slice (some ⟨ga, oa, none⟩) n c) ∧ W.cell? ⟨ga, oa + k * 2 + 1, none⟩ = some (.slice A2 bs.length c2')) := hide fun W hW =>
        ⟨((HQ1.out.below (below_next HBk.out hW) HQ1.out.lt).cell 0).trans rfl, ((below_next hBz hW).cell (p := ⟨ga, oa + k * 2 + 1, none⟩) hga).trans c2⟩
      have FR : Hid (∀ W, Below wz.heap.size wz W → Blk W (w.heap.size + 1) 70 R) := hide fun W hW => HQ2.out.below (below_next HBk.out hW) HQ2.out.lt
      have heq : ∀ W : World, (Op.equalIn 10000 70 (.agg RQ) (.agg R)).run Try.prog W = .ok (decide (q = m)) W := fun W => by
        rw [hRQ.val, HR.out.val]; exact eq_id q m hql HM.out W
      have HIR := hide HR.out.info
      rw [← hq] at HIk
      have HIn : Hid (ids.take (k + 1) = ids.take k ++ [q]) := hide (by rw [List.take_add_one, HIk.out]; rfl)
      have HMm : Hid (q ∈ ids) := hide (List.mem_of_getElem? HIk.out)
      have hk0 : (0 : Int) ≤ (k : Int) := by omega
      clear c1 c2 hga hRQ hq hql hBz hr2 hcap HTx
      by_cases he : q = m
      · rw [decide_eq_true he] at heq
        have HYes : Hid (decide (m ∈ ids) = true) := hide (decide_eq_true (he ▸ HMm.out))
        have HZ : Hid (findD 0 ids m = (k : Int)) := hide (findD_some (by rw [HIk.out, he]) HX.out)
        clear he HIn
        go_wp2
        apply wp_region_rel (C := fun W' => Below wz.heap.size wz W') (M := fun W W' => Below W.heap.size W W') (ss := [_, _, _, _, _, _, _, _, _]) (by kernel_rfl) (by kernel_rfl) (by kernel_rfl) (Below.refl _ _).drew
        iterate 6 (first
          | (apply relWalk_const (fun W => Below.refl _ _)
             · (intro W9 hC hF
                clear hF
                obtain ⟨x1, x2⟩ := FX.out W9 hC
                clear hC
                go_simp
                with_reducible exact rfl)
             (try simp only [Act.put, List.setIfInBounds_toArray, List.set_cons_zero, List.set_cons_succ])))
        apply relWalk_constW (c := .agg RQ)
        · go_simp
        · intro W9 hC hF
          clear hF
          refine gives_call rfl [.slice A2 bs.length c2'] rfl (enters_of Try.func49 (by kernel_rfl) rfl) ?_
          refine (HID.out W9 hC).mono ?_
          rintro e w' ⟨rfl, hb⟩
          exact ⟨_, rfl, rfl, below_next hC hb, hb⟩
        (try simp only [Act.put, List.setIfInBounds_toArray, List.set_cons_zero, List.set_cons_succ])
        apply relWalk_const (c := .agg R) (fun W => Below.refl _ _)
        · intro W9 hC hF
          clear hF
          rw [if_pos (wanted_none _ rfl)]
          exact gives_load_row 70 _ rfl (w.heap.size + 1) rfl 70 R (0, 0) _ (FR.out W9 hC) Try.underlying70 rfl HIR.out ⟨rfl, rfl⟩
        (try simp only [Act.put, List.setIfInBounds_toArray, List.set_cons_zero, List.set_cons_succ])
        iterate 1 (first
          | (apply relWalk_const (fun W => Below.refl _ _)
             · (intro W9 hC hF
                clear hF
                skip
                clear hC
                go_simp
                with_reducible exact rfl)
             (try simp only [Act.put, List.setIfInBounds_toArray, List.set_cons_zero, List.set_cons_succ])))
        refine relWalk_nil fun W2 hC hF => ?_
        clear hF
        go_wp2
        go_ret2
        exact ⟨by rw [HYes.out, HZ.out]; rfl, below_next HB0.out (below_next HBk.out hC)⟩
      · rw [decide_eq_false he] at heq
        have HNo : Hid (m ∉ ids.take (k + 1)) := hide (by rw [HIn.out]; simp only [List.mem_append, List.mem_singleton, not_or]; exact ⟨HX.out, fun e => he e.symm⟩)
        clear he HIn
        go_wp2
        apply wp_region_rel (C := fun W' => Below wz.heap.size wz W') (M := fun W W' => Below W.heap.size W W') (ss := [_, _, _, _, _, _, _, _, _]) (by kernel_rfl) (by kernel_rfl) (by kernel_rfl) (Below.refl _ _).drew
        iterate 6 (first
          | (apply relWalk_const (fun W => Below.refl _ _)
             · (intro W9 hC hF
                clear hF
                obtain ⟨x1, x2⟩ := FX.out W9 hC
                clear hC
                go_simp
                with_reducible exact rfl)
             (try simp only [Act.put, List.setIfInBounds_toArray, List.set_cons_zero, List.set_cons_succ])))
        apply relWalk_constW (c := .agg RQ)
        · go_simp
        · intro W9 hC hF
          clear hF
          refine gives_call rfl [.slice A2 bs.length c2'] rfl (enters_of Try.func49 (by kernel_rfl) rfl) ?_
          refine (HID.out W9 hC).mono ?_
          rintro e w' ⟨rfl, hb⟩
          exact ⟨_, rfl, rfl, below_next hC hb, hb⟩
        (try simp only [Act.put, List.setIfInBounds_toArray, List.set_cons_zero, List.set_cons_succ])
        apply relWalk_const (c := .agg R) (fun W => Below.refl _ _)
        · intro W9 hC hF
          clear hF
          rw [if_pos (wanted_none _ rfl)]
          exact gives_load_row 70 _ rfl (w.heap.size + 1) rfl 70 R (0, 0) _ (FR.out W9 hC) Try.underlying70 rfl HIR.out ⟨rfl, rfl⟩
        (try simp only [Act.put, List.setIfInBounds_toArray, List.set_cons_zero, List.set_cons_succ])
        iterate 1 (first
          | (apply relWalk_const (fun W => Below.refl _ _)
             · (intro W9 hC hF
                clear hF
                skip
                clear hC
                go_simp
                with_reducible exact rfl)
             (try simp only [Act.put, List.setIfInBounds_toArray, List.set_cons_zero, List.set_cons_succ])))
        refine relWalk_nil fun W2 hC hF => ?_
        clear hF
        go_wp2
        go_roundw
        case rel => exact ⟨k + 1, by omega, by go_num, hide (below_next HBk.out hC), HNo⟩
        case measure => simp [intOf]; omega
    · obtain rfl : k = n := by omega
      have hd1 : decide ((k : Int) < (k : Int)) = false := by simp
      have HNo : Hid (decide (m ∈ ids) = false) := hide (decide_eq_false (by have := HX.out; rwa [List.take_of_length_le (by rw [HIl.out]; exact Nat.le_refl _)] at this))
      have HZ : Hid (findD 0 ids m = 0) := hide (findD_none (of_decide_eq_false HNo.out))
      go_wp2
      go_ret2
      exact ⟨by rw [HNo.out, HZ.out]; rfl, below_next HB0.out HBk.out⟩

/-- a job's key -/
def keyK (x : JobK) : KeyT := (x.1.ses, x.1.seq)
/-- the place of a key -/
def findZ (L : List KeyT) (k : KeyT) : Int := findD (-1) L k
theorem findZ_none {L : List KeyT} {k : KeyT} (h : k ∉ L) : findZ L k = -1 := findD_none h
theorem findZ_some {L : List KeyT} {k : KeyT} {i : Nat} (hi : L[i]? = some k) (h : k ∉ L.take i) : findZ L k = (i : Int) := findD_some hi h
theorem findZ_cases (L : List KeyT) (k : KeyT) : (findZ L k = -1 ∧ k ∉ L) ∨ ∃ i : Nat, findZ L k = (i : Int) ∧ L[i]? = some k ∧ k ∉ L.take i := by
  have key : ∀ L : List KeyT, k ∈ L → ∃ i : Nat, L[i]? = some k ∧ k ∉ L.take i := by
    intro L
    induction L with
    | nil => intro h; cases h
    | cons x L ih =>
      intro h
      by_cases e : x = k
      · exact ⟨0, by simp [e], by simp⟩
      · obtain ⟨i, h1, h2⟩ := ih (by rcases List.mem_cons.1 h with h | h; exact absurd h.symm e; exact h)
        refine ⟨i + 1, by simpa using h1, ?_⟩
        rw [List.take_succ_cons]
        simp only [List.mem_cons, not_or]
        exact ⟨fun h => e h.symm, h2⟩
  by_cases h : k ∈ L
  · obtain ⟨i, h1, h2⟩ := key L h
    exact .inr ⟨i, findZ_some h1 h2, h1, h2⟩
  · exact .inl ⟨findZ_none h, h⟩
/-- the k-th job's cells, and those of its key -/
theorem JobsAt.key_at {w : World} {S : Nat → Prop} {A : Option Addr} {n c k : Nat} {L : List JobK} (h : JobsAt w S (.slice A n c) L) (hk : k < L.length) :
    ∃ g o, A = some ⟨g, o, none⟩ ∧ g < w.heap.size ∧ w.cell? ⟨g, o + k * 38, none⟩ = some (c32 L[k].1.ses) ∧ w.cell? ⟨g, o + k * 38 + 1, none⟩ = some (c32 L[k].1.seq) ∧ w.cell? ⟨g, o + k * 38 + 34, none⟩ = some (c32 L[k].1.height) ∧ w.cell? ⟨g, o + k * 38 + 35, none⟩ = some (c32 L[k].1.mined) ∧ w.cell? ⟨g, o + k * 38 + 36, none⟩ = some (ci L[k].1.live) ∧ w.cell? ⟨g, o + k * 38 + 37, none⟩ = some L[k].2.1 := by
  obtain ⟨g, o, rfl, _, hg, hc⟩ := h.at_ hk
  obtain ⟨h1, h2, h3, h4, h5, h6⟩ := job_get (h.len _ (List.getElem_mem hk)) L[k].2.1
  exact ⟨g, o, rfl, hg, hc 0 _ h1, hc 1 _ h2, hc 34 _ h3, hc 35 _ h4, hc 36 _ h5, hc 37 _ h6⟩
theorem keys_take (L : List JobK) (k : Nat) (h : k < L.length) : (L.map keyK).take (k + 1) = (L.map keyK).take k ++ [keyK L[k]] := by
  rw [List.take_succ_eq_append_getElem (by simpa using h)]; simp
set_option maxRecDepth 100000 in
set_option maxHeartbeats 1600000 in
theorem reffind_any (v : Value) (L : List JobK) (key : KeyT) (w : World) (S : Nat → Prop) (h : JobsAt w S v L) (hl : L.length ≤ 1048576) :
    Calls Try.prog 67 #[v, kf key] w fun e w' => e = .returned (.int .i64 (findZ (L.map keyK) key)) ∧ Below w.heap.size w w' := by
  have HP := hide h
  obtain ⟨⟨A, c, rfl, hc, _⟩, _, _⟩ := h
  obtain ⟨n, hn⟩ : ∃ n, n = L.length := ⟨_, rfl⟩
  have HN := hide hn
  rw [← hn] at hc HP hl ⊢
  clear hn
  obtain ⟨W0, hW0⟩ : ∃ W0, W0 = w.alloc (.cells #[c32 key.1, c32 key.2] 68) := ⟨_, rfl⟩
  have HB0 := hide (show Below w.heap.size w W0 by rw [hW0]; exact (Below.refl _ _).alloc (Nat.le_refl _) _)
  have HQ := hide (show Blk W0 w.heap.size 68 #[c32 key.1, c32 key.2] by rw [hW0]; exact Blk.new w _ _)
  unfold kf
  go_enter Try.func67, Try.ntmps67
  go_upto_region 1 with (fail)
  rw [← hW0]
  clear hW0
  go_wp2
  go_loopw [5] (fun i wr => ∃ (k : Nat), k ≤ n ∧ i = .int .i64 (k : Int) ∧ Hid (Below W0.heap.size W0 wr) ∧ Hid (key ∉ (L.map keyK).take k)) (fun i _ => n - (intOf i).toNat)
  case atStart => exact ⟨0, Nat.zero_le _, rfl, hide (Below.refl _ _), hide (by simp)⟩
  case round =>
    obtain ⟨wz, rfl⟩ : ∃ wz : World, wz = wr := ⟨_, rfl⟩
    obtain ⟨k, hk, rfl, HBk, HX⟩ := hrel
    by_cases hlt : k < n
    · have hd1 : decide ((k : Int) < (n : Int)) = true := by simpa using hlt
      have hkL : k < L.length := by rw [← HN.out]; exact hlt
      obtain ⟨ga, oa, rfl, hga, c0, c1, _⟩ := HP.out.key_at (k := k) hkL
      have hBz := below_next HB0.out HBk.out
      have HTk := hide (keys_take L k hkL)
      have HGk : Hid ((L.map keyK)[k]? = some (keyK L[k])) := hide (by rw [List.getElem?_map, List.getElem?_eq_getElem hkL]; rfl)
      have heq := fun W => eq_key (keyK L[k]) key W
      unfold keyK at heq
      dsimp only at heq
      generalize (L[k]'hkL) = x at *
      have FX : Hid (∀ W, Below wz.heap.size wz W → W.cell? ⟨ga, oa + k * 38, none⟩ = some (c32 x.1.ses) ∧ W.cell? ⟨ga, oa + k * 38 + 1, none⟩ = some (c32 x.1.seq) ∧ W.cell? ⟨w.heap.size, 0, none⟩ = some (c32 key.1) ∧ W.cell? ⟨w.heap.size, 1, none⟩ = some (c32 key.2)) := hide fun W hW =>
        ⟨((below_next hBz hW).cell (p := ⟨ga, oa + k * 38, none⟩) hga).trans c0, ((below_next hBz hW).cell (p := ⟨ga, oa + k * 38 + 1, none⟩) hga).trans c1, ((HQ.out.below (below_next HBk.out hW) HQ.out.lt).cell 0).trans rfl, ((HQ.out.below (below_next HBk.out hW) HQ.out.lt).cell 1).trans rfl⟩
      have hk0 : (0 : Int) ≤ (k : Int) := by omega
      clear c0 c1 hga hBz
      by_cases he : keyK x = key
      · rw [decide_eq_true (show (x.1.ses, x.1.seq) = key from he)] at heq
        have HYes : Hid (findZ (L.map keyK) key = (k : Int)) := hide (findZ_some (by rw [HGk.out, he]) HX.out)
        clear he
        go_wp2
        apply wp_region_rel (C := fun W' => Below wz.heap.size wz W') (M := fun W W' => Below W.heap.size W W') (ss := [_, _, _, _, _, _, _]) (by kernel_rfl) (by kernel_rfl) (by kernel_rfl) (Below.refl _ _).drew
        iterate 7 (first
          | (apply relWalk_const (fun W => Below.refl _ _)
             · (intro W9 hC hF
                clear hF
                obtain ⟨x1, x2, x3, x4⟩ := FX.out W9 hC
                clear hC
                go_simp
                with_reducible exact rfl)
             (try simp only [Act.put, List.setIfInBounds_toArray, List.set_cons_zero, List.set_cons_succ])))
        refine relWalk_nil fun W2 hC hF => ?_
        clear hF
        go_wp2
        go_ret
        exact ⟨by rw [HYes.out]; rfl, below_next HB0.out (below_next HBk.out hC)⟩
      · rw [decide_eq_false (show ¬ (x.1.ses, x.1.seq) = key from he)] at heq
        have HNo : Hid (key ∉ (L.map keyK).take (k + 1)) := hide (by rw [HTk.out]; simp only [List.mem_append, List.mem_singleton, not_or]; exact ⟨HX.out, fun e => he e.symm⟩)
        clear he
        go_wp2
        apply wp_region_rel (C := fun W' => Below wz.heap.size wz W') (M := fun W W' => Below W.heap.size W W') (ss := [_, _, _, _, _, _, _]) (by kernel_rfl) (by kernel_rfl) (by kernel_rfl) (Below.refl _ _).drew
        iterate 7 (first
          | (apply relWalk_const (fun W => Below.refl _ _)
             · (intro W9 hC hF
                clear hF
                obtain ⟨x1, x2, x3, x4⟩ := FX.out W9 hC
                clear hC
                go_simp
                with_reducible exact rfl)
             (try simp only [Act.put, List.setIfInBounds_toArray, List.set_cons_zero, List.set_cons_succ])))
        refine relWalk_nil fun W2 hC hF => ?_
        clear hF
        go_wp2
        go_roundw
        case rel => exact ⟨k + 1, by omega, by go_num, hide (below_next HBk.out hC), HNo⟩
        case measure => simp [intOf]; omega
    · obtain rfl : k = n := by omega
      have hd1 : decide ((k : Int) < (k : Int)) = false := by simp
      have HNo : Hid (findZ (L.map keyK) key = -1) := hide (findZ_none (by have := HX.out; rwa [List.take_of_length_le (by rw [List.length_map, ← HN.out]; exact Nat.le_refl _)] at this))
      go_wp2
      go_ret
      exact ⟨by rw [HNo.out]; rfl, below_next HB0.out HBk.out⟩

/-- the keys of some jobs -/
def keysL (L : List JobK) (p : JobK → Bool) : List KeyT := (L.filter p).map keyK
theorem keysL_len (L : List JobK) (p : JobK → Bool) : (keysL L p).length ≤ L.length := by unfold keysL; rw [List.length_map]; exact List.length_filter_le _ _
theorem keysL_take (L : List JobK) (p : JobK → Bool) (k : Nat) (h : k < L.length) : keysL (L.take (k + 1)) p = keysL (L.take k) p ++ (if p L[k] then [keyK L[k]] else []) := by
  unfold keysL
  rw [List.take_succ_eq_append_getElem h, List.filter_append, List.map_append]
  by_cases hp : p L[k] = true <;> simp [hp]

set_option maxRecDepth 100000 in
set_option maxHeartbeats 1600000 in
theorem refat29_any (v : Value) (L : List JobK) (m : BitVec 32) (w : World) (S : Nat → Prop) (h : JobsAt w S v L) (hl : L.length ≤ 1048576) :
    Calls Try.prog 65 #[v, .int .u32 (m.toNat : Int)] w fun e w' => ∃ u, e = .returned u ∧ OwnKeys w w' u (keysL L (fun x => decide (x.1.height = m))) := by
  have HP := hide h
  obtain ⟨⟨A, c, rfl, hc, _⟩, _, _⟩ := h
  obtain ⟨n, hn⟩ : ∃ n, n = L.length := ⟨_, rfl⟩
  have HN := hide hn
  rw [← hn] at hc HP hl ⊢
  clear hn
  obtain ⟨p, hp⟩ : ∃ p : JobK → Bool, p = (fun x => decide (x.1.height = m)) := ⟨_, rfl⟩
  have HPr := hide hp
  rw [← hp]
  clear hp
  go_enter Try.func65, Try.ntmps65
  go_wp2
  go_loopw [5, 6] (fun x i wr => ∃ (k : Nat), k ≤ n ∧ i = .int .i64 (k : Int) ∧ Hid (OwnKeys w wr x (keysL (L.take k) p))) (fun _ i _ => n - (intOf i).toNat)
  case atStart => exact ⟨0, Nat.zero_le _, rfl, hide (OwnKeys.none_ (Below.refl _ _))⟩
  case round =>
    obtain ⟨wz, rfl⟩ : ∃ wz : World, wz = wr := ⟨_, rfl⟩
    obtain ⟨k, hk, rfl, HI⟩ := hrel
    by_cases hlt : k < n
    · have hd1 : decide ((k : Int) < (n : Int)) = true := by simpa using hlt
      have hkL : k < L.length := by rw [← HN.out]; exact hlt
      obtain ⟨ga, oa, rfl, hga, c0, c1, c34, c35, c36, c37⟩ := HP.out.key_at (k := k) hkL
      have HTk := hide (keysL_take L p k hkL)
      have HXm : Hid (L[k] ∈ L) := hide (List.getElem_mem hkL)
      obtain ⟨A3, c3, rfl, _⟩ := HI.out.slice
      generalize (L[k]'hkL) = x at *
      have hk0 : (0 : Int) ≤ (k : Int) := by omega
      have hil : (keysL (L.take k) p).length ≤ 1048576 := Nat.le_trans (keysL_len _ _) (by rw [List.length_take]; omega)
      generalize hks : keysL (L.take k) p = ks at *
      have HIl := hide hil
      have HGa := hide hga
      have HC0 := hide c0
      have HC1 := hide c1
      have HC34 := hide c34
      have HC35 := hide c35
      have HC37 := hide c37
      clear hil hks c0 c1 c34 c35 c36 c37 hga
      have d0 := (HI.out.below.cell (p := ⟨ga, oa + k * 38, none⟩) HGa.out).trans HC0.out
      have d1 := (HI.out.below.cell (p := ⟨ga, oa + k * 38 + 1, none⟩) HGa.out).trans HC1.out
      have d34 := (HI.out.below.cell (p := ⟨ga, oa + k * 38 + 34, none⟩) HGa.out).trans HC34.out
      have hq := c32_eq x.1.height m
      have HI2 := HI
      by_cases hpx : p x = true
      · have HPl2 : Hid (keysL (L.take (k + 1)) p = ks ++ [(x.1.ses, x.1.seq)]) := hide (by rw [HTk.out, hpx]; rfl)
        rw [HPr.out] at hpx
        have hq1 : decide (x.1.height = m) = true := hpx
        rw [hq1] at hq
        clear hpx hq1 HI
        go_wp2_with (first
          | ((with_reducible show wpList _ _ _ (⟨_, .buildSlice _ _ _, _, _, _, _⟩ :: _) _ _); refine wpList_build_key rfl _ rfl (c32 x.1.ses) (c32 x.1.seq) rfl ?_)
          | (at_builtin; refine wpList_append_key rfl (.tmp 20) (.tmp 26) rfl w _ ks rfl (HI2.out.later ((Below.refl _ _).alloc (Nat.le_refl _) _)) wz.heap.size (x.1.ses, x.1.seq) rfl (Blk.new wz _ _) (by have := HIl.out; omega) ?_; intro v4 w4 O4' _; rw [← HPl2.out] at O4'; have O4 := hide O4'; clear O4')
          | fail)
        go_roundw
        case rel => exact ⟨k + 1, by omega, by go_num, O4⟩
        case measure => simp [intOf]; omega
      · have HPl2 : Hid (keysL (L.take (k + 1)) p = ks) := hide (by rw [HTk.out, if_neg hpx, List.append_nil])
        rw [HPr.out] at hpx
        have hq1 : decide (x.1.height = m) = false := Bool.eq_false_iff.2 hpx
        rw [hq1] at hq
        clear hpx hq1 HI
        have HI3 : Hid (OwnKeys w wz (.slice A3 ks.length c3) (keysL (L.take (k + 1)) p)) := hide (by rw [HPl2.out]; exact HI2.out)
        go_wp2
        go_roundw
        case rel => exact ⟨k + 1, by omega, by go_num, HI3⟩
        case measure => simp [intOf]; omega
    · obtain rfl : k = n := by omega
      have hd1 : decide ((k : Int) < (k : Int)) = false := by simp
      have HPl : Hid (keysL (L.take k) p = keysL L p) := hide (by rw [HN.out, List.take_length])
      rw [HPl.out] at HI
      go_wp2
      go_ret
      exact ⟨_, rfl, HI.out⟩

set_option maxRecDepth 100000 in
set_option maxHeartbeats 1600000 in
theorem refmined29_any (v : Value) (L : List JobK) (m : BitVec 32) (w : World) (S : Nat → Prop) (h : JobsAt w S v L) (hl : L.length ≤ 1048576) :
    Calls Try.prog 66 #[v, .int .u32 (m.toNat : Int)] w fun e w' => ∃ u, e = .returned u ∧ OwnKeys w w' u (keysL L (fun x => decide (m ≠ 0 ∧ x.1.mined = m))) := by
  have HP := hide h
  obtain ⟨⟨A, c, rfl, hc, _⟩, _, _⟩ := h
  obtain ⟨n, hn⟩ : ∃ n, n = L.length := ⟨_, rfl⟩
  have HN := hide hn
  rw [← hn] at hc HP hl ⊢
  clear hn
  obtain ⟨p, hp⟩ : ∃ p : JobK → Bool, p = (fun x => decide (m ≠ 0 ∧ x.1.mined = m)) := ⟨_, rfl⟩
  have HPr := hide hp
  rw [← hp]
  clear hp
  go_enter Try.func66, Try.ntmps66
  go_wp2
  go_loopw [5, 6] (fun x i wr => ∃ (k : Nat), k ≤ n ∧ i = .int .i64 (k : Int) ∧ Hid (OwnKeys w wr x (keysL (L.take k) p))) (fun _ i _ => n - (intOf i).toNat)
  case atStart => exact ⟨0, Nat.zero_le _, rfl, hide (OwnKeys.none_ (Below.refl _ _))⟩
  case round =>
    obtain ⟨wz, rfl⟩ : ∃ wz : World, wz = wr := ⟨_, rfl⟩
    obtain ⟨k, hk, rfl, HI⟩ := hrel
    by_cases hlt : k < n
    · have hd1 : decide ((k : Int) < (n : Int)) = true := by simpa using hlt
      have hkL : k < L.length := by rw [← HN.out]; exact hlt
      obtain ⟨ga, oa, rfl, hga, c0, c1, c34, c35, c36, c37⟩ := HP.out.key_at (k := k) hkL
      have HTk := hide (keysL_take L p k hkL)
      have HXm : Hid (L[k] ∈ L) := hide (List.getElem_mem hkL)
      obtain ⟨A3, c3, rfl, _⟩ := HI.out.slice
      generalize (L[k]'hkL) = x at *
      have hk0 : (0 : Int) ≤ (k : Int) := by omega
      have hil : (keysL (L.take k) p).length ≤ 1048576 := Nat.le_trans (keysL_len _ _) (by rw [List.length_take]; omega)
      generalize hks : keysL (L.take k) p = ks at *
      have HIl := hide hil
      have HGa := hide hga
      have HC0 := hide c0
      have HC1 := hide c1
      have HC34 := hide c34
      have HC35 := hide c35
      have HC37 := hide c37
      clear hil hks c0 c1 c34 c35 c36 c37 hga
      have d0 := (HI.out.below.cell (p := ⟨ga, oa + k * 38, none⟩) HGa.out).trans HC0.out
      have d1 := (HI.out.below.cell (p := ⟨ga, oa + k * 38 + 1, none⟩) HGa.out).trans HC1.out
      have d35 := (HI.out.below.cell (p := ⟨ga, oa + k * 38 + 35, none⟩) HGa.out).trans HC35.out
      have hq := c32_eq x.1.mined m
      have HI2 := HI
      by_cases hpx : p x = true
      · have HPl2 : Hid (keysL (L.take (k + 1)) p = ks ++ [(x.1.ses, x.1.seq)]) := hide (by rw [HTk.out, hpx]; rfl)
        rw [HPr.out] at hpx
        have hh : m ≠ 0 ∧ x.1.mined = m := of_decide_eq_true hpx
        have h1 : m.toNat ≠ 0 := fun e => hh.1 (BitVec.eq_of_toNat_eq e)
        have g1 : decide (0 < m.toNat) = true := by simp; omega
        have g2 : decide ((0 : Int) < (m.toNat : Int)) = true := by simp; omega
        rw [decide_eq_true hh.2] at hq
        clear hpx hh h1 HI
        go_wp2_with (first
          | ((with_reducible show wpList _ _ _ (⟨_, .buildSlice _ _ _, _, _, _, _⟩ :: _) _ _); refine wpList_build_key rfl _ rfl (c32 x.1.ses) (c32 x.1.seq) rfl ?_)
          | (at_builtin; refine wpList_append_key rfl (.tmp 24) (.tmp 30) rfl w _ ks rfl (HI2.out.later ((Below.refl _ _).alloc (Nat.le_refl _) _)) wz.heap.size (x.1.ses, x.1.seq) rfl (Blk.new wz _ _) (by have := HIl.out; omega) ?_; intro v4 w4 O4' _; rw [← HPl2.out] at O4'; have O4 := hide O4'; clear O4')
          | fail)
        go_roundw
        case rel => exact ⟨k + 1, by omega, by go_num, O4⟩
        case measure => simp [intOf]; omega
      · have HPl2 : Hid (keysL (L.take (k + 1)) p = ks) := hide (by rw [HTk.out, if_neg hpx, List.append_nil])
        rw [HPr.out] at hpx
        have hh : ¬ (m ≠ 0 ∧ x.1.mined = m) := fun e => hpx (decide_eq_true e)
        clear hpx HI
        by_cases hm0 : m = 0
        · have g1 : decide (0 < m.toNat) = false := by rw [hm0]; rfl
          have g2 : decide ((0 : Int) < (m.toNat : Int)) = false := by rw [hm0]; rfl
          have HI3 : Hid (OwnKeys w wz (.slice A3 ks.length c3) (keysL (L.take (k + 1)) p)) := hide (by rw [HPl2.out]; exact HI2.out)
          clear hh hm0
          go_wp2
          go_roundw
          case rel => exact ⟨k + 1, by omega, by go_num, HI3⟩
          case measure => simp [intOf]; omega
        have h1 : m.toNat ≠ 0 := fun e => hm0 (BitVec.eq_of_toNat_eq e)
        have g1 : decide (0 < m.toNat) = true := by simp; omega
        have g2 : decide ((0 : Int) < (m.toNat : Int)) = true := by simp; omega
        rw [decide_eq_false (fun e => hh ⟨hm0, e⟩)] at hq
        clear hh h1 hm0
        have HI3 : Hid (OwnKeys w wz (.slice A3 ks.length c3) (keysL (L.take (k + 1)) p)) := hide (by rw [HPl2.out]; exact HI2.out)
        go_wp2
        go_roundw
        case rel => exact ⟨k + 1, by omega, by go_num, HI3⟩
        case measure => simp [intOf]; omega
    · obtain rfl : k = n := by omega
      have hd1 : decide ((k : Int) < (k : Int)) = false := by simp
      have HPl : Hid (keysL (L.take k) p = keysL L p) := hide (by rw [HN.out, List.take_length])
      rw [HPl.out] at HI
      go_wp2
      go_ret
      exact ⟨_, rfl, HI.out⟩

set_option maxRecDepth 100000 in
set_option maxHeartbeats 1600000 in
theorem refclaim29_any (v : Value) (L : List JobK) (m : List (BitVec 8)) (R : Array Value) (hm : m.length = 32) (hR : IdVal m R) (w : World) (S : Nat → Prop) (h : JobsAt w S v L) (hl : L.length ≤ 1048576) (hmo : ∀ x ∈ L, Modest x.2.2) :
    Calls Try.prog 64 #[v, .agg R] w fun e w' => ∃ u, e = .returned u ∧ OwnKeys w w' u (keysL L (fun x => decide (m ∈ idsOf (plainT x.2.2)))) := by
  have HP := hide h
  obtain ⟨⟨A, c, rfl, hc, _⟩, _, _⟩ := h
  obtain ⟨n, hn⟩ : ∃ n, n = L.length := ⟨_, rfl⟩
  have HN := hide hn
  rw [← hn] at hc HP hl ⊢
  clear hn
  obtain ⟨p, hp⟩ : ∃ p : JobK → Bool, p = (fun x => decide (m ∈ idsOf (plainT x.2.2))) := ⟨_, rfl⟩
  have HPr := hide hp
  rw [← hp]
  clear hp
  have HM := hide hm
  have HR := hide hR
  have HMo := hide hmo
  obtain ⟨W0, hW0⟩ : ∃ W0, W0 = w.alloc (.cells R 70) := ⟨_, rfl⟩
  have HB0 := hide (show Below w.heap.size w W0 by rw [hW0]; exact (Below.refl _ _).alloc (Nat.le_refl _) _)
  have HQ := hide (show Blk W0 w.heap.size 70 R by rw [hW0]; exact Blk.new w _ _)
  clear hm hR hmo
  go_enter Try.func64, Try.ntmps64
  go_upto_region 1 with (fail)
  rw [← hW0]
  clear hW0
  go_wp2
  go_loopw [5, 6] (fun x i wr => ∃ (k : Nat), k ≤ n ∧ i = .int .i64 (k : Int) ∧ Hid (OwnKeys W0 wr x (keysL (L.take k) p))) (fun _ i _ => n - (intOf i).toNat)
  case atStart => exact ⟨0, Nat.zero_le _, rfl, hide (OwnKeys.none_ (Below.refl _ _))⟩
  case round =>
    obtain ⟨wz, rfl⟩ : ∃ wz : World, wz = wr := ⟨_, rfl⟩
    obtain ⟨k, hk, rfl, HI⟩ := hrel
    by_cases hlt : k < n
    · have hd1 : decide ((k : Int) < (n : Int)) = true := by simpa using hlt
      have hkL : k < L.length := by rw [← HN.out]; exact hlt
      obtain ⟨ga, oa, rfl, hga, c0, c1, c34, c35, c36, c37⟩ := HP.out.key_at (k := k) hkL
      have HTk := hide (keysL_take L p k hkL)
      have HXm : Hid (L[k] ∈ L) := hide (List.getElem_mem hkL)
      obtain ⟨A3, c3, rfl, _⟩ := HI.out.slice
      generalize (L[k]'hkL) = x at *
      have hk0 : (0 : Int) ≤ (k : Int) := by omega
      have hil : (keysL (L.take k) p).length ≤ 1048576 := Nat.le_trans (keysL_len _ _) (by rw [List.length_take]; omega)
      generalize hks : keysL (L.take k) p = ks at *
      have HIl := hide hil
      have HGa := hide hga
      have HC0 := hide c0
      have HC1 := hide c1
      have HC34 := hide c34
      have HC35 := hide c35
      have HC37 := hide c37
      clear hil hks c0 c1 c34 c35 c36 c37 hga
      have HFd : Hid (∀ W, Below wz.heap.size wz W → Calls Try.prog 107 #[.agg #[x.2.1], .agg R] W fun e w' => e = .returned (.tuple #[.int .i64 (findD 0 (idsOf (plainT x.2.2)) m), .bool (decide (m ∈ idsOf (plainT x.2.2)))]) ∧ Below W.heap.size W w') := hide fun W hW =>
        find13_any x.2.1 x.2.2 m R HM.out HR.out W S ((((HP.out.pay x HXm.out).below HB0.out).below HI.out.below).below hW) (HMo.out x HXm.out)
      have FX : Hid (∀ W, Below wz.heap.size wz W → W.cell? ⟨ga, oa + k * 38 + 37, none⟩ = some x.2.1) := hide fun W hW =>
        ((below_next (below_next HB0.out HI.out.below) hW).cell (p := ⟨ga, oa + k * 38 + 37, none⟩) HGa.out).trans HC37.out
      have FR : Hid (∀ W, Below wz.heap.size wz W → Blk W w.heap.size 70 R) := hide fun W hW => HQ.out.below (below_next HI.out.below hW) HQ.out.lt
      have FK : Hid (∀ W, Below wz.heap.size wz W → W.cell? ⟨ga, oa + k * 38, none⟩ = some (c32 x.1.ses) ∧ W.cell? ⟨ga, oa + k * 38 + 1, none⟩ = some (c32 x.1.seq)) := hide fun W hW =>
        ⟨((below_next (below_next HB0.out HI.out.below) hW).cell (p := ⟨ga, oa + k * 38, none⟩) HGa.out).trans HC0.out, ((below_next (below_next HB0.out HI.out.below) hW).cell (p := ⟨ga, oa + k * 38 + 1, none⟩) HGa.out).trans HC1.out⟩
      have HIR := hide HR.out.info
      obtain ⟨Ap, cp, e37, _⟩ := HP.out.pay x HXm.out
      obtain ⟨pv, hpv⟩ : ∃ pv, pv = x.2.1 := ⟨_, rfl⟩
      rw [← hpv] at FX HFd e37
      subst e37
      generalize findD 0 (idsOf (plainT x.2.2)) m = z at *
      clear hpv
      by_cases hpx : p x = true
      · have HPl2 : Hid (keysL (L.take (k + 1)) p = ks ++ [(x.1.ses, x.1.seq)]) := hide (by rw [HTk.out, hpx]; rfl)
        rw [HPr.out] at hpx
        have hq1 : decide (m ∈ idsOf (plainT x.2.2)) = true := hpx
        rw [hq1] at HFd
        clear hpx hq1
        go_wp2
        apply wp_region_rel (C := fun W' => Below wz.heap.size wz W') (M := fun W W' => Below W.heap.size W W') (ss := [_, _, _, _, _, _, _, _, _, _, _, _]) (by kernel_rfl) (by kernel_rfl) (by kernel_rfl) (Below.refl _ _).drew
        iterate 5 (first
          | (apply relWalk_const (fun W => Below.refl _ _)
             · (intro W9 hC hF
                clear hF
                have x1 := FX.out W9 hC
                clear hC
                go_simp
                with_reducible exact rfl)
             (try simp only [Act.put, List.setIfInBounds_toArray, List.set_cons_zero, List.set_cons_succ])))
        apply relWalk_const (c := .agg R) (fun W => Below.refl _ _)
        · intro W9 hC hF
          clear hF
          rw [if_pos (wanted_none _ rfl)]
          exact gives_load_row 70 _ rfl w.heap.size rfl 70 R (0, 0) _ (FR.out W9 hC) Try.underlying70 rfl HIR.out ⟨rfl, rfl⟩
        (try simp only [Act.put, List.setIfInBounds_toArray, List.set_cons_zero, List.set_cons_succ])
        apply relWalk_constW (c := .tuple #[.int .i64 z, .bool true])
        · go_simp
        · intro W9 hC hF
          clear hF
          refine gives_call rfl [.agg #[.slice Ap x.2.2.length cp], .agg R] rfl (enters_of Try.func107 (by kernel_rfl) rfl) ?_
          refine (HFd.out W9 hC).mono ?_
          rintro e w' ⟨rfl, hb⟩
          exact ⟨_, rfl, rfl, below_next hC hb, hb⟩
        (try simp only [Act.put, List.setIfInBounds_toArray, List.set_cons_zero, List.set_cons_succ])
        iterate 5 (first
          | (apply relWalk_const (fun W => Below.refl _ _)
             · (intro W9 hC hF
                clear hF
                skip
                clear hC
                go_simp
                with_reducible exact rfl)
             (try simp only [Act.put, List.setIfInBounds_toArray, List.set_cons_zero, List.set_cons_succ])))
        refine relWalk_nil fun W2 hC hF => ?_
        clear hF
        have HI2 := hide (HI.out.later hC)
        obtain ⟨d0, d1⟩ := FK.out W2 hC
        go_wp2_with (first
          | ((with_reducible show wpList _ _ _ (⟨_, .buildSlice _ _ _, _, _, _, _⟩ :: _) _ _); refine wpList_build_key rfl _ rfl (c32 x.1.ses) (c32 x.1.seq) rfl ?_)
          | (at_builtin; refine wpList_append_key rfl (.tmp 26) (.tmp 32) rfl W0 _ ks rfl (HI2.out.later ((Below.refl _ _).alloc (Nat.le_refl _) _)) W2.heap.size (x.1.ses, x.1.seq) rfl (Blk.new W2 _ _) (by have := HIl.out; omega) ?_; intro v4 w4 O4' _; rw [← HPl2.out] at O4'; have O4 := hide O4'; clear O4')
          | fail)
        go_roundw
        case rel => exact ⟨k + 1, by omega, by go_num, O4⟩
        case measure => simp [intOf]; omega
      · have HPl2 : Hid (keysL (L.take (k + 1)) p = ks) := hide (by rw [HTk.out, if_neg hpx, List.append_nil])
        rw [HPr.out] at hpx
        have hq1 : decide (m ∈ idsOf (plainT x.2.2)) = false := Bool.eq_false_iff.2 hpx
        rw [hq1] at HFd
        clear hpx hq1
        go_wp2
        apply wp_region_rel (C := fun W' => Below wz.heap.size wz W') (M := fun W W' => Below W.heap.size W W') (ss := [_, _, _, _, _, _, _, _, _, _, _, _]) (by kernel_rfl) (by kernel_rfl) (by kernel_rfl) (Below.refl _ _).drew
        iterate 5 (first
          | (apply relWalk_const (fun W => Below.refl _ _)
             · (intro W9 hC hF
                clear hF
                have x1 := FX.out W9 hC
                clear hC
                go_simp
                with_reducible exact rfl)
             (try simp only [Act.put, List.setIfInBounds_toArray, List.set_cons_zero, List.set_cons_succ])))
        apply relWalk_const (c := .agg R) (fun W => Below.refl _ _)
        · intro W9 hC hF
          clear hF
          rw [if_pos (wanted_none _ rfl)]
          exact gives_load_row 70 _ rfl w.heap.size rfl 70 R (0, 0) _ (FR.out W9 hC) Try.underlying70 rfl HIR.out ⟨rfl, rfl⟩
        (try simp only [Act.put, List.setIfInBounds_toArray, List.set_cons_zero, List.set_cons_succ])
        apply relWalk_constW (c := .tuple #[.int .i64 z, .bool false])
        · go_simp
        · intro W9 hC hF
          clear hF
          refine gives_call rfl [.agg #[.slice Ap x.2.2.length cp], .agg R] rfl (enters_of Try.func107 (by kernel_rfl) rfl) ?_
          refine (HFd.out W9 hC).mono ?_
          rintro e w' ⟨rfl, hb⟩
          exact ⟨_, rfl, rfl, below_next hC hb, hb⟩
        (try simp only [Act.put, List.setIfInBounds_toArray, List.set_cons_zero, List.set_cons_succ])
        iterate 5 (first
          | (apply relWalk_const (fun W => Below.refl _ _)
             · (intro W9 hC hF
                clear hF
                skip
                clear hC
                go_simp
                with_reducible exact rfl)
             (try simp only [Act.put, List.setIfInBounds_toArray, List.set_cons_zero, List.set_cons_succ])))
        refine relWalk_nil fun W2 hC hF => ?_
        clear hF
        have HI2 := hide (HI.out.later hC)
        obtain ⟨d0, d1⟩ := FK.out W2 hC
        have HI3 : Hid (OwnKeys W0 W2 (.slice A3 ks.length c3) (keysL (L.take (k + 1)) p)) := hide (by rw [HPl2.out]; exact HI2.out)
        go_wp2
        go_roundw
        case rel => exact ⟨k + 1, by omega, by go_num, HI3⟩
        case measure => simp [intOf]; omega
    · obtain rfl : k = n := by omega
      have hd1 : decide ((k : Int) < (k : Int)) = false := by simp
      have HPl : Hid (keysL (L.take k) p = keysL L p) := hide (by rw [HN.out, List.take_length])
      rw [HPl.out] at HI
      go_wp2
      go_ret
      exact ⟨_, rfl, HI.out.less HB0.out⟩
end Go.Proofs.Ytccpkafmbmkmfaa
namespace Go.Proofs.Ytccpkafmbmkmfaa
open Go.RowKit Go.Shelf
set_option linter.unusedVariables false
set_option linter.unusedSimpArgs false

section
variable {P : Program} (w : World)
/-- onto a row without room: all blocks stay as they were -/
theorem run_append_empty (base : Nat) (t ty e : TypeId) (i : TypeInfo) (z : Value) (size bytes : Nat) (ht : P.underlying t = some (.slice e)) (hi : P.info? e = some i) (hz : i.zero = some z)
    (hsize : i.size = size) (hby : i.bytes = bytes) (hzs : z.cells.size = size) (hsz : 0 < size) (r : Nat) (hr : Blk w r e #[]) (hbr : base ≤ r) (hbase : base ≤ w.heap.size)
    (B : Nat) (A : Option Addr) (m c : Nat) (news : List Value) (hrd : Reads w B size A m news) (h1 : ∀ u ∈ news, u.oneCell' = true) (h63 : m ≤ maxLen) (hbytes : m * bytes ≤ 140737488355328) :
    ∃ v' w', (Builtin.append_ #[t, t] ty #[.slice (some ⟨r, 0, none⟩) 0 0, .slice A m c]).run P w = .ok v' w' ∧ w'.ownsRow base e size v' m news ∧ Below w.heap.size w w' := by
  subst hsize
  subst hby
  have hown : w.ownsRow base e i.size (.slice (some ⟨r, 0, none⟩) 0 0) 0 [] := ⟨by simp, .inr ⟨r, 0, #[], rfl, hbr, hr, Nat.le_refl _, by decide, by simp, by simp⟩⟩
  rcases Nat.eq_zero_or_pos m with h0 | h0
  · subst h0
    have hn : news = [] := List.eq_nil_of_length_eq_zero (by simpa using hrd.1)
    subst hn
    cases A with
    | none => exact ⟨_, _, run_append_of_nil w base t ty e i i.size ht hi _ 0 [] hown c, hown, Below.refl _ _⟩
    | some ad =>
      have hrun := run_append_room (P := P) w t ty e i ht hi r 0 0 #[] hr ad 0 c [] (by simp) (by simp) (by simp) (Nat.le_refl _) (by simp)
      have hs := setRow_heap w r #[] ((#[] : Array Value).toList.take (0 * i.size) ++ [] ++ (#[] : Array Value).toList.drop (0 * i.size + ([] : List Value).length)).toArray e (0, 0) hr
      refine ⟨_, _, hrun, ⟨by simp, .inr ⟨r, 0, #[], rfl, hbr, by simpa using hs, Nat.le_refl _, by decide, by simp, by simp⟩⟩, ⟨rfl, rfl, rfl, by simp, fun k hk => ?_⟩⟩
      by_cases hkr : k = r
      · subst hkr
        have h2 : w.heap[k]? = some (.cells #[] e (0, 0)) := hr
        rw [h2]; simpa using hs
      · exact setRow_other _ _ _ _ hkr
  · obtain ⟨ad, rfl, _, hcl⟩ := hrd.2 h0
    have hl := hrd.1
    have hge := grownCap_ge w (0 + m) 0 e
    have hcm : grownCap w (0 + m) 0 e ≤ maxLen := grownCap_le_maxLen w (0 + m) 0 e (by simpa using h63)
    have hrun := run_append_grow (P := P) w t ty e i z ht hi hz ⟨r, 0, none⟩ 0 0 [] (by simp) (by simp) ad m c news hl hcl (by omega) (by simp only [maxLen] at h63; omega) (growslice_fits (by omega) (by simpa using hbytes))
    simp only [Nat.zero_add] at hge hcm hrun
    refine ⟨_, _, hrun, ⟨by simpa using hl, .inr ⟨w.heap.size, _, _, rfl, hbase, heap_alloc_new w.drew _, hge, hcm, ?_, ?_⟩⟩, ⟨rfl, rfl, rfl, by simp, fun k hk => Below.heap_alloc w.drew _ k hk⟩⟩
    · simp only [Array.size_append, List.size_toArray, size_zeroCells, hzs, hl, List.length_nil, Nat.zero_add]
      rw [← Nat.add_mul]
      congr 1
      omega
    · simp only [Array.toList_append, List.nil_append]
      rw [← hl]
      exact List.take_left
end
/-- what a row of one's own is, in its block -/
theorem own_blk {w : World} {base n : Nat} {e : TypeId} {size : Nat} {v : Value} {xs : List Value} (h : w.ownsRow base e size v n xs) (hn : 0 < n) :
    ∃ g c cur, v = .slice (some ⟨g, 0, none⟩) n c ∧ Blk w g e cur ∧ base ≤ g ∧ n ≤ c ∧ (∀ (j : Nat) (u : Value), xs[j]? = some u → cur[j]? = some u) := by
  rcases h.2 with ⟨_, h0⟩ | ⟨g, cap, cur, rfl, hb, hg, hc, _, _, htk⟩
  · omega
  · refine ⟨g, cap, cur, rfl, hg, hb, hc, fun j u hu => ?_⟩
    rw [← htk, List.getElem?_take] at hu
    split at hu
    · simpa using hu
    · cases hu
theorem own_set {w : World} {base n : Nat} {e : TypeId} {size : Nat} {v : Value} {xs : List Value} (h : w.ownsRow base e size v n xs) {g : Nat} (hg : v.ownBlock = some g) (j : Nat) (u : Value) : (w.setCell ⟨g, j, none⟩ u).ownsRow base e size v n (xs.set j u) := by
  rcases h.2 with ⟨rfl, h0⟩ | ⟨g', cap, cur, rfl, hb, hgg, hc, hm, hcs, htk⟩
  · cases hg
  · have : g' = g := by simpa [Value.ownBlock] using hg
    subst this
    have hs : Blk w g' e cur := hgg
    refine ⟨by rw [List.length_set]; exact h.1, .inr ⟨g', cap, cur.setIfInBounds j u, rfl, hb, hs.set_ j u, hc, hm, by simp [hcs], ?_⟩⟩
    rw [← htk]
    apply List.ext_getElem?
    intro k
    rw [List.getElem?_take]
    simp only [Array.toList_setIfInBounds, List.getElem?_set, List.getElem?_take, List.length_take, Array.length_toList]
    by_cases hk : k < n * size
    · simp only [hk, if_true]
      by_cases hjk : j = k
      · subst hjk
        by_cases hlt : j < cur.size
        · simp [hlt, hk]; omega
        · simp [hlt, hk]; omega
      · simp [hjk]
    · simp only [hk, if_false]
      by_cases hjk : j = k
      · subst hjk; simp; omega
      · simp [hjk]
/-- JOBS IN A ROW OF ONE'S OWN, made since w0; what holds the tiers lay before, in S -/
structure MixJobs (w0 W : World) (S : Nat → Prop) (v : Value) (L : List JobK) : Prop where
  own : W.ownsRow w0.heap.size 75 38 v L.length (jobsC L)
  len : ∀ x ∈ L, x.1.breach.length = 32
  pay : ∀ x ∈ L, PayAt w0 S x.2.1 x.2.2
  below : Below w0.heap.size w0 W
section
variable {w0 W W' : World} {S : Nat → Prop} {v : Value} {L : List JobK}
theorem MixJobs.none_ (h : Below w0.heap.size w0 W) : MixJobs w0 W S (.slice none 0 0) [] := ⟨⟨rfl, .inl ⟨rfl, rfl⟩⟩, by simp, by simp, h⟩
theorem MixJobs.jobs (h : MixJobs w0 W S v L) : JobsAt W (fun i => S i ∨ w0.heap.size ≤ i) v L := by
  obtain ⟨A, c, rfl⟩ := own_slice h.own
  exact ⟨⟨A, c, rfl, own_cap h.own, (ReadsS.of_own h.own).mono fun i _ hi => .inr (own_lt h.own hi).1⟩, h.len, fun x hx => ((h.pay x hx).below h.below).mono fun i _ hi => .inl hi⟩
theorem MixJobs.later (h : MixJobs w0 W S v L) (hb : Below W.heap.size W W') : MixJobs w0 W' S v L := ⟨own_block h.own fun r hr => hb.block r (own_lt h.own hr).2, h.len, h.pay, below_next h.below hb⟩
theorem MixJobs.slice (h : MixJobs w0 W S v L) : ∃ A c, v = .slice A L.length c ∧ L.length ≤ c := by
  obtain ⟨A, c, rfl⟩ := own_slice h.own
  exact ⟨A, c, rfl, own_cap h.own⟩
theorem jobsC_one {L : List JobK} {w : World} {S : Nat → Prop} (h : ∀ x ∈ L, PayAt w S x.2.1 x.2.2) : ∀ u ∈ jobsC L, u.oneCell' = true := by
  intro u hu
  obtain ⟨x, hx, hux⟩ := List.mem_flatMap.1 hu
  obtain ⟨A, c, e, _⟩ := h x hx
  simp only [jobCells, jobHead, List.mem_append, List.mem_cons, List.not_mem_nil, or_false, List.mem_map] at hux
  rcases hux with ((rfl | rfl) | ⟨y, _, rfl⟩ | rfl | rfl | rfl) | rfl <;> first | rfl | (rw [e]; rfl)
/-- a job in a row of one's own turns -/
theorem MixJobs.set_ (h : MixJobs w0 W S v L) {g : Nat} (hg : v.ownBlock = some g) {i off : Nat} (hi : i < L.length) {u : Value} {j' : JobM} (hj : j'.breach.length = 32) (ho : off < 38)
    (he : jobCells j' L[i].2.1 = (jobCells L[i].1 L[i].2.1).set off u) (hbase : w0.heap.size ≤ g) : MixJobs w0 (W.setCell ⟨g, i * 38 + off, none⟩ u) S v (L.set i (j', L[i].2)) := by
  have hset : ∀ (L : List JobK) (hl : ∀ x ∈ L, x.1.breach.length = 32) (i : Nat) (hi : i < L.length), jobCells j' L[i].2.1 = (jobCells L[i].1 L[i].2.1).set off u → (jobsC L).set (i * 38 + off) u = jobsC (L.set i (j', L[i].2)) := by
    intro L
    induction L with
    | nil => intro _ i hi; simp at hi
    | cons p L ih =>
      intro hl i hi he
      have e : jobsC (p :: L) = jobCells p.1 p.2.1 ++ jobsC L := by simp [jobsC]
      have hp := jobCells_len (hl p (by simp)) p.2.1
      rw [e]
      cases i with
      | zero =>
        simp only [List.getElem_cons_zero] at he
        rw [Nat.zero_mul, Nat.zero_add, List.set_append_left _ _ (by rw [hp]; exact ho), ← he]
        simp [jobsC]
      | succ i =>
        rw [List.set_append_right _ _ (by rw [hp]; omega), hp, show (i + 1) * 38 + off - 38 = i * 38 + off by omega]
        simp only [List.getElem_cons_succ] at he
        rw [ih (fun x hx => hl x (by simp [hx])) i (by simpa using hi) he]
        simp [jobsC]
  refine ⟨?_, fun x hx => ?_, fun x hx => ?_, h.below.setCell (p := ⟨g, _, none⟩) hbase u⟩
  · rw [List.length_set, ← hset L h.len i hi he]
    exact own_set h.own hg _ u
  · rcases List.mem_or_eq_of_mem_set hx with hx | rfl
    · exact h.len x hx
    · exact hj
  · rcases List.mem_or_eq_of_mem_set hx with hx | rfl
    · exact h.pay x hx
    · exact h.pay L[i] (List.getElem_mem hi)
end
theorem jobCells_split (j : JobM) (v : Value) : jobCells j v = ([c32 j.ses, c32 j.seq] ++ j.breach.map c8) ++ [c32 j.height, c32 j.mined, ci j.live, v] := by simp [jobCells, jobHead]
theorem jobCells_mined (j : JobM) (hj : j.breach.length = 32) (v : Value) (m : BitVec 32) : jobCells { j with mined := m } v = (jobCells j v).set 35 (c32 m) := by
  rw [jobCells_split, jobCells_split, List.set_append_right _ _ (by simp [hj])]
  simp [hj]
theorem jobCells_live (j : JobM) (hj : j.breach.length = 32) (v : Value) (t : Int) : jobCells { j with live := t } v = (jobCells j v).set 36 (ci t) := by
  rw [jobCells_split, jobCells_split, List.set_append_right _ _ (by simp [hj])]
  simp [hj]
theorem run_build_jobs0 (w : World) : (Instr.buildSlice 87 0 #[]).run Try.prog w = .ok (.slice (some ⟨w.heap.size, 0, none⟩) 0 0) (w.alloc (.cells #[] 75)) := by
  obtain ⟨i, hi, hz0, hz1, hz2⟩ := info_parts info_jobfull
  simp [Instr.buildSlice, run_underlying Try.underlying87, sizeOf, typeInfo, hi, hz1, Instr.fill, newRow]
  rw [show Array.map (fun x : Nat => (default : Value)) (Array.range 0) = #[] from Array.eq_empty_of_size_eq_zero (by simp)]
theorem wpList_build_jobs0 {ops : Array Oper} {rest : List Oper} {o : Oper} {a : Act} {w : World} {Q : Exit → Act → World → Prop} (hgd : o.guard = none) (ho : o.op = .buildSlice 87 0 #[])
    (h : wpList Try.prog ops Q rest (a.put o.dst (.slice (some ⟨w.heap.size, 0, none⟩) 0 0)) (w.alloc (.cells #[] 75))) : wpList Try.prog ops Q (o :: rest) a w := by
  refine wpList_plain hgd fun _ hK => ?_
  unfold Oper.wp execOp
  simp only [ho, Sem.run_bind, List.map_toArray, List.map_nil, run_build_jobs0 w, Result.andThen_ok]
  exact hK _ _ h
theorem wpList_build_job {ops : Array Oper} {rest : List Oper} {o : Oper} {a : Act} {w : World} {Q : Exit → Act → World → Prop} (hgd : o.guard = none) (x : Operand) (ho : o.op = .buildSlice 87 1 #[(0, x)]) (R : Array Value) (hx : a.eval x = .agg R) (hR : R.size = 38)
    (h : wpList Try.prog ops Q rest (a.put o.dst (.slice (some ⟨w.heap.size, 0, none⟩) 1 1)) (w.alloc (.cells R 75))) : wpList Try.prog ops Q (o :: rest) a w := by
  refine wpList_plain hgd fun _ hK => ?_
  unfold Oper.wp execOp
  simp only [ho, Sem.run_bind, List.map_toArray, List.map_cons, List.map_nil, hx, run_build_job w R hR, Result.andThen_ok]
  exact hK _ _ h
theorem gives_build_jobs0 {o : Oper} {a : Act} {w : World} {X : Value → World → Prop} (ho : o.op = .buildSlice 87 0 #[])
    (h : X (.slice (some ⟨w.heap.size, 0, none⟩) 0 0) (w.alloc (.cells #[] 75))) : Gives Try.prog o a w X := by
  unfold Gives execOp
  simp only [ho, Sem.run_bind, List.map_toArray, List.map_nil, run_build_jobs0 w, Result.andThen_ok, givesUpon]
  exact h
/-- 'append([]api.Job{}, l...)' -/
theorem run_jobs_copy (w0 w : World) (ty : TypeId) (r : Nat) (hr : Blk w r 75 #[]) (hbr : w0.heap.size ≤ r) (hb0 : Below w0.heap.size w0 w) {S : Nat → Prop} {A : Option Addr} {m c : Nat} {L : List JobK} (h : JobsAt w0 S (.slice A m c) L) (hl : L.length ≤ 1048576) :
    ∃ v' w', (Builtin.append_ #[87, 87] ty #[.slice (some ⟨r, 0, none⟩) 0 0, .slice A m c]).run Try.prog w = .ok v' w' ∧ MixJobs w0 w' S v' L ∧ Below w.heap.size w w' := by
  obtain ⟨i, hi, hz0, hz1, hz2⟩ := info_parts info_jobfull
  obtain ⟨⟨A', c', e, hc, hrd⟩, hlen, hpay⟩ := h
  injection e with e1 e2 e3
  subst e1 e2 e3
  obtain ⟨v', w', hrun, hown, hb⟩ := run_append_empty (P := Try.prog) w w0.heap.size 87 ty 75 i _ 38 80 Try.underlying87 hi hz0 hz1 hz2 rfl (by omega) r hr hbr hb0.size w0.heap.size A L.length c (jobsC L) (hrd.reads.below hb0) (jobsC_one hpay) (by simp only [maxLen]; omega) (by omega)
  exact ⟨v', w', hrun, ⟨hown, hlen, hpay, below_next hb0 hb⟩, hb⟩
theorem wpList_jobs_copy {ops : Array Oper} {rest : List Oper} {o : Oper} {a : Act} {w0 w : World} {Q : Exit → Act → World → Prop} (hgd : o.guard = none) (s x : Operand) (ho : o.op = .call { callee := .builtin .append, args := #[s, x], argTypes := #[87, 87] })
    (r : Nat) (hs : a.eval s = .slice (some ⟨r, 0, none⟩) 0 0) (hr : Blk w r 75 #[]) (hbr : w0.heap.size ≤ r) (hb0 : Below w0.heap.size w0 w) {S : Nat → Prop} (A : Option Addr) (m c : Nat) (L : List JobK) (hx : a.eval x = .slice A m c) (h : JobsAt w0 S (.slice A m c) L) (hl : L.length ≤ 1048576)
    (hK : ∀ v' w', MixJobs w0 w' S v' L → Below w.heap.size w w' → wpList Try.prog ops Q rest (a.put o.dst v') w') : wpList Try.prog ops Q (o :: rest) a w := by
  obtain ⟨v', w', hrun, h1, h2⟩ := run_jobs_copy w0 w o.type r hr hbr hb0 h hl
  refine wpList_plain hgd fun _ hk => ?_
  unfold Oper.wp execOp
  simp only [ho, resolve, invoke, builtin, Sem.run_bind, Sem.run_pure, Result.andThen_ok, List.map_toArray, List.map_cons, List.map_nil, hs, hx, hrun]
  exact hk _ _ (hK v' w' h1 h2)
theorem gives_jobs_copy {o : Oper} {a : Act} {w0 w : World} {X : Value → World → Prop} (s x : Operand) (ho : o.op = .call { callee := .builtin .append, args := #[s, x], argTypes := #[87, 87] })
    (r : Nat) (hs : a.eval s = .slice (some ⟨r, 0, none⟩) 0 0) (hr : Blk w r 75 #[]) (hbr : w0.heap.size ≤ r) (hb0 : Below w0.heap.size w0 w) {S : Nat → Prop} (A : Option Addr) (m c : Nat) (L : List JobK) (hx : a.eval x = .slice A m c) (h : JobsAt w0 S (.slice A m c) L) (hl : L.length ≤ 1048576)
    (hK : ∀ v' w', MixJobs w0 w' S v' L → Below w.heap.size w w' → X v' w') : Gives Try.prog o a w X := by
  obtain ⟨v', w', hrun, h1, h2⟩ := run_jobs_copy w0 w o.type r hr hbr hb0 h hl
  unfold Gives execOp
  simp only [ho, resolve, invoke, builtin, Sem.run_bind, Sem.run_pure, Result.andThen_ok, List.map_toArray, List.map_cons, List.map_nil, hs, hx, hrun, givesUpon]
  exact hK v' w' h1 h2
/-- one more job onto such a row -/
theorem wpList_jobs_more {ops : Array Oper} {rest : List Oper} {o : Oper} {a : Act} {w0 w : World} {Q : Exit → Act → World → Prop} (hgd : o.guard = none) (s x : Operand) (ho : o.op = .call { callee := .builtin .append, args := #[s, x], argTypes := #[87, 87] })
    {S : Nat → Prop} (v : Value) (L : List JobK) (hs : a.eval s = v) (h : MixJobs w0 w S v L) (g : Nat) (j : JobM) (hj : j.breach.length = 32) (u : Value) (K : List TierK) (R : Array Value) (hR : JobVal j u R) (hP : PayAt w0 S u K) (hx : a.eval x = .slice (some ⟨g, 0, none⟩) 1 1) (hg : Blk w g 75 R) (hb : L.length ≤ 1048576)
    (hK : ∀ v' w', MixJobs w0 w' S v' (L ++ [(j, u, K)]) → w.grownBy w' v.ownBlock → wpList Try.prog ops Q rest (a.put o.dst v') w') : wpList Try.prog ops Q (o :: rest) a w := by
  obtain ⟨i, hi, hz0, hz1, hz2⟩ := info_parts info_jobfull
  refine wpList_append_any w hgd s x 87 ho w0.heap.size 75 i _ 38 80 Try.underlying87 hi hz0 hz1 hz2 rfl (by omega) v L.length _ hs h.own w.heap.size (some ⟨g, 0, none⟩) 1 1 (jobsC [(j, u, K)]) hx (reads_blk_job hg hR K) ?_ (by simp only [maxLen]; omega) (by omega) h.below.size ?_
  · intro y hy
    have := hR.one
    rw [hR.val, Array.all_eq_true_iff_forall_mem] at this
    exact this y (by simpa [jobsC] using hy)
  · intro v' w' own grow hv
    refine hK v' w' ⟨?_, fun y hy => ?_, fun y hy => ?_, below_appended h.below h.below.size h.own (Nat.le_refl _) grow⟩ grow
    · rw [List.length_append, jobsC_append]; exact own
    · rcases List.mem_append.1 hy with hy | hy
      · exact h.len y hy
      · simp only [List.mem_singleton] at hy; subst hy; exact hj
    · rcases List.mem_append.1 hy with hy | hy
      · exact h.pay y hy
      · simp only [List.mem_singleton] at hy; subst hy; exact hP
end Go.Proofs.Ytccpkafmbmkmfaa
namespace Go.Proofs.Ytccpkafmbmkmfaa
open Go.RowKit Go.Shelf
set_option linter.unusedVariables false
set_option linter.unusedSimpArgs false
attribute [local go_sem] Gives givesUpon
attribute [local irreducible] Gives

theorem takeJ (L : List JobK) (k : Nat) (h : k < L.length) : (L.map plainJ).take (k + 1) = (L.map plainJ).take k ++ [plainJ L[k]] := by
  rw [List.take_succ_eq_append_getElem (by simpa using h)]; simp
set_option maxRecDepth 100000 in
set_option maxHeartbeats 1600000 in
theorem refall_any (v1 : Value) (L1 : List JobK) (v2 : Value) (L2 : List JobK) (w : World) (S1 S2 : Nat → Prop) (h1 : JobsAt w S1 v1 L1) (h2 : JobsAt w S2 v2 L2) (hl : L1.length ≤ 1048576) (hmx : ∀ x ∈ L1, x.2.2.length ≤ 9223372036854775807) :
    Calls Try.prog 63 #[v1, v2] w fun e w' => e = .returned (.bool (decide (L1.map plainJ = L2.map plainJ))) ∧ Below w.heap.size w w' := by
  have H1 := hide h1
  have H2 := hide h2
  have HMx := hide hmx
  obtain ⟨⟨A1, c1, rfl, _, _⟩, _, _⟩ := h1
  obtain ⟨⟨A2, c2, rfl, _, _⟩, _, _⟩ := h2
  by_cases hnn : L1.length = L2.length
  · obtain ⟨n, hn⟩ : ∃ n, n = L1.length := ⟨_, rfl⟩
    have HN1 := hide hn
    have HN2 : Hid (n = L2.length) := hide (by rw [hn, hnn])
    rw [← hnn, ← hn] at H2 ⊢
    rw [← hn] at H1 hl
    have e0 : ((n : Int) != (n : Int)) = false := by simp
    obtain ⟨ans, hans⟩ : ∃ ans, ans = decide (L1.map plainJ = L2.map plainJ) := ⟨_, rfl⟩
    have HAns := hide hans
    rw [← hans]
    clear hn hnn hans hmx
    go_enter Try.func63, Try.ntmps63
    go_wp2
    clear e0
    go_loopw [5] (fun i wr => ∃ (k : Nat), k ≤ n ∧ i = .int .i64 (k : Int) ∧ Hid (Below w.heap.size w wr) ∧ Hid ((L1.map plainJ).take k = (L2.map plainJ).take k)) (fun i _ => n - (intOf i).toNat)
    case atStart => exact ⟨0, Nat.zero_le _, rfl, hide (Below.refl _ _), hide rfl⟩
    case round =>
      obtain ⟨wz, rfl⟩ : ∃ wz : World, wz = wr := ⟨_, rfl⟩
      obtain ⟨k, hk, rfl, HB, HX⟩ := hrel
      by_cases hlt : k < n
      · have hd1 : decide ((k : Int) < (n : Int)) = true := by simpa using hlt
        have hk1 : k < L1.length := by rw [← HN1.out]; exact hlt
        have hk2 : k < L2.length := by rw [← HN2.out]; exact hlt
        obtain ⟨g1, o1, rfl, _, hg1, x1⟩ := H1.out.at_ hk1
        obtain ⟨g2, o2, rfl, _, hg2, x2⟩ := H2.out.at_ hk2
        have t1 := hide (takeJ L1 k hk1)
        have t2 := hide (takeJ L2 k hk2)
        have hm1 := List.getElem_mem hk1
        have hm2 := List.getElem_mem hk2
        have hdiff : plainJ L1[k] ≠ plainJ L2[k] → L1.map plainJ ≠ L2.map plainJ := fun hne e => hne (by
          have h := congrArg (fun l => l[k]?) e
          simp only [List.getElem?_map, List.getElem?_eq_getElem hk1, List.getElem?_eq_getElem hk2, Option.map_some, Option.some.injEq] at h
          exact h)
        generalize (L1[k]'hk1) = x at *
        generalize (L2[k]'hk2) = y at *
        have hx32 := H1.out.len x hm1
        have hy32 := H2.out.len y hm2
        obtain ⟨Ax, cx, ex, _⟩ := H1.out.pay x hm1
        obtain ⟨Ay, cy, ey, _⟩ := H2.out.pay y hm2
        obtain ⟨Rx, hRx⟩ := jobVal (j := x.1) hx32 (v := x.2.1) (by rw [ex]; rfl)
        obtain ⟨Ry, hRy⟩ := jobVal (j := y.1) hy32 (v := y.2.1) (by rw [ey]; rfl)
        have HRx := hide hRx
        have HRy := hide hRy
        have HIx : Hid ((Try.prog.info? 75).map (·.size) = some (jobCells x.1 x.2.1).length) := hide (by rw [jobCells_len hx32]; exact info_job)
        have HIy : Hid ((Try.prog.info? 75).map (·.size) = some (jobCells y.1 y.2.1).length) := hide (by rw [jobCells_len hy32]; exact info_job)
        have FLx : Hid (∀ W, Below wz.heap.size wz W → ∀ i u, (jobCells x.1 x.2.1)[i]? = some u → W.cell? ((⟨g1, o1 + k * 38, none⟩ : Addr).add i) = some u) := hide fun W hW i u hu => by
          rw [Addr.add_lit]; exact ((below_next HB.out hW).cell (p := ⟨g1, o1 + k * 38 + i, none⟩) hg1).trans (x1 i u hu)
        have FLy : Hid (∀ W, Below wz.heap.size wz W → ∀ i u, (jobCells y.1 y.2.1)[i]? = some u → W.cell? ((⟨g2, o2 + k * 38, none⟩ : Addr).add i) = some u) := hide fun W hW i u hu => by
          rw [Addr.add_lit]; exact ((below_next HB.out hW).cell (p := ⟨g2, o2 + k * 38 + i, none⟩) hg2).trans (x2 i u hu)
        have HSm : Hid (∀ W, Below wz.heap.size wz W → Calls Try.prog 48 #[.agg Rx, .agg Ry] W fun e w' => e = .returned (.bool (decide (x.1 = y.1 ∧ plainT x.2.2 = plainT y.2.2))) ∧ Below W.heap.size W w') := hide fun W hW =>
          refsame29_any x.1 hx32 x.2.1 Rx HRx.out x.2.2 y.1 hy32 y.2.1 Ry HRy.out y.2.2 W S1 S2 (((H1.out.pay x hm1).below HB.out).below hW) (((H2.out.pay y hm2).below HB.out).below hW) (HMx.out x hm1)
        have hk0 : (0 : Int) ≤ (k : Int) := by omega
        clear x1 x2 hg1 hg2 ex ey hRx hRy hm1 hm2
        by_cases he : x.1 = y.1 ∧ plainT x.2.2 = plainT y.2.2
        · rw [decide_eq_true he] at HSm
          have HNx : Hid ((L1.map plainJ).take (k + 1) = (L2.map plainJ).take (k + 1)) := hide (by rw [t1.out, t2.out, HX.out, show plainJ x = plainJ y from Prod.ext he.1 he.2])
          clear he hdiff
          go_wp2
          apply wp_region_rel (C := fun W' => Below wz.heap.size wz W') (M := fun W W' => Below W.heap.size W W') (ss := [_, _, _, _, _, _, _, _, _, _]) (by kernel_rfl) (by kernel_rfl) (by kernel_rfl) (Below.refl _ _).drew
          iterate 3 (first
            | (apply relWalk_const (fun W => Below.refl _ _)
               · (intro W9 hC hF
                  clear hF
                  skip
                  clear hC
                  go_simp
                  with_reducible exact rfl)
               (try simp only [Act.put, List.setIfInBounds_toArray, List.set_cons_zero, List.set_cons_succ])))
          apply relWalk_const (c := .agg Rx) (fun W => Below.refl _ _)
          · intro W9 hC hF
            clear hF
            rw [if_pos (wanted_none _ rfl)]
            exact gives_load_at 75 _ rfl ⟨g1, o1 + k * 38, none⟩ rfl (jobCells x.1 x.2.1) _ Try.underlying75 rfl HIx.out (FLx.out W9 hC) ⟨by rw [HRx.out.val], rfl⟩
          (try simp only [Act.put, List.setIfInBounds_toArray, List.set_cons_zero, List.set_cons_succ])
          iterate 3 (first
            | (apply relWalk_const (fun W => Below.refl _ _)
               · (intro W9 hC hF
                  clear hF
                  skip
                  clear hC
                  go_simp
                  with_reducible exact rfl)
               (try simp only [Act.put, List.setIfInBounds_toArray, List.set_cons_zero, List.set_cons_succ])))
          apply relWalk_const (c := .agg Ry) (fun W => Below.refl _ _)
          · intro W9 hC hF
            clear hF
            rw [if_pos (wanted_none _ rfl)]
            exact gives_load_at 75 _ rfl ⟨g2, o2 + k * 38, none⟩ rfl (jobCells y.1 y.2.1) _ Try.underlying75 rfl HIy.out (FLy.out W9 hC) ⟨by rw [HRy.out.val], rfl⟩
          (try simp only [Act.put, List.setIfInBounds_toArray, List.set_cons_zero, List.set_cons_succ])
          apply relWalk_constW (c := .bool true)
          · go_simp
          · intro W9 hC hF
            clear hF
            refine gives_call rfl [.agg Rx, .agg Ry] rfl (enters_of Try.func48 (by kernel_rfl) rfl) ?_
            refine (HSm.out W9 hC).mono ?_
            rintro e w' ⟨rfl, hb⟩
            exact ⟨_, rfl, rfl, below_next hC hb, hb⟩
          (try simp only [Act.put, List.setIfInBounds_toArray, List.set_cons_zero, List.set_cons_succ])
          iterate 1 (first
            | (apply relWalk_const (fun W => Below.refl _ _)
               · (intro W9 hC hF
                  clear hF
                  skip
                  clear hC
                  go_simp
                  with_reducible exact rfl)
               (try simp only [Act.put, List.setIfInBounds_toArray, List.set_cons_zero, List.set_cons_succ])))
          refine relWalk_nil fun W2 hC hF => ?_
          clear hF
          go_wp2
          go_roundw
          case rel => exact ⟨k + 1, by omega, by go_num, hide (below_next HB.out hC), HNx⟩
          case measure => simp [intOf]; omega
        · rw [decide_eq_false he] at HSm
          have HNo : Hid (ans = false) := hide (by rw [HAns.out]; exact decide_eq_false (hdiff fun e => by have e : (x.1, plainT x.2.2) = (y.1, plainT y.2.2) := e; exact he (Prod.mk.inj e)))
          clear he hdiff
          go_wp2
          apply wp_region_rel (C := fun W' => Below wz.heap.size wz W') (M := fun W W' => Below W.heap.size W W') (ss := [_, _, _, _, _, _, _, _, _, _]) (by kernel_rfl) (by kernel_rfl) (by kernel_rfl) (Below.refl _ _).drew
          iterate 3 (first
            | (apply relWalk_const (fun W => Below.refl _ _)
               · (intro W9 hC hF
                  clear hF
                  skip
                  clear hC
                  go_simp
                  with_reducible exact rfl)
               (try simp only [Act.put, List.setIfInBounds_toArray, List.set_cons_zero, List.set_cons_succ])))
          apply relWalk_const (c := .agg Rx) (fun W => Below.refl _ _)
          · intro W9 hC hF
            clear hF
            rw [if_pos (wanted_none _ rfl)]
            exact gives_load_at 75 _ rfl ⟨g1, o1 + k * 38, none⟩ rfl (jobCells x.1 x.2.1) _ Try.underlying75 rfl HIx.out (FLx.out W9 hC) ⟨by rw [HRx.out.val], rfl⟩
          (try simp only [Act.put, List.setIfInBounds_toArray, List.set_cons_zero, List.set_cons_succ])
          iterate 3 (first
            | (apply relWalk_const (fun W => Below.refl _ _)
               · (intro W9 hC hF
                  clear hF
                  skip
                  clear hC
                  go_simp
                  with_reducible exact rfl)
               (try simp only [Act.put, List.setIfInBounds_toArray, List.set_cons_zero, List.set_cons_succ])))
          apply relWalk_const (c := .agg Ry) (fun W => Below.refl _ _)
          · intro W9 hC hF
            clear hF
            rw [if_pos (wanted_none _ rfl)]
            exact gives_load_at 75 _ rfl ⟨g2, o2 + k * 38, none⟩ rfl (jobCells y.1 y.2.1) _ Try.underlying75 rfl HIy.out (FLy.out W9 hC) ⟨by rw [HRy.out.val], rfl⟩
          (try simp only [Act.put, List.setIfInBounds_toArray, List.set_cons_zero, List.set_cons_succ])
          apply relWalk_constW (c := .bool false)
          · go_simp
          · intro W9 hC hF
            clear hF
            refine gives_call rfl [.agg Rx, .agg Ry] rfl (enters_of Try.func48 (by kernel_rfl) rfl) ?_
            refine (HSm.out W9 hC).mono ?_
            rintro e w' ⟨rfl, hb⟩
            exact ⟨_, rfl, rfl, below_next hC hb, hb⟩
          (try simp only [Act.put, List.setIfInBounds_toArray, List.set_cons_zero, List.set_cons_succ])
          iterate 1 (first
            | (apply relWalk_const (fun W => Below.refl _ _)
               · (intro W9 hC hF
                  clear hF
                  skip
                  clear hC
                  go_simp
                  with_reducible exact rfl)
               (try simp only [Act.put, List.setIfInBounds_toArray, List.set_cons_zero, List.set_cons_succ])))
          refine relWalk_nil fun W2 hC hF => ?_
          clear hF
          go_wp2
          go_ret
          exact ⟨by rw [HNo.out]; rfl, below_next HB.out hC⟩
      · obtain rfl : k = n := by omega
        have hd1 : decide ((k : Int) < (k : Int)) = false := by simp
        have HYes : Hid (ans = true) := hide (by rw [HAns.out]; exact decide_eq_true (by have := HX.out; rw [List.take_of_length_le (by rw [List.length_map, ← HN1.out]; exact Nat.le_refl _), List.take_of_length_le (by rw [List.length_map, ← HN2.out]; exact Nat.le_refl _)] at this; exact this))
        go_wp2
        go_ret
        exact ⟨by rw [HYes.out]; rfl, HB.out⟩
  · have e0 : ((L1.length : Int) != (L2.length : Int)) = true := by simp; omega
    have HNe : Hid (decide (L1.map plainJ = L2.map plainJ) = false) := hide (decide_eq_false fun e => hnn (by have := congrArg List.length e; simpa using this))
    rw [HNe.out]
    clear hnn
    go_enter Try.func63, Try.ntmps63
    go_wp2
    go_ret
    exact ⟨rfl, Below.refl _ _⟩

def EmptyOf2 (u : Value) : Prop := ∃ r, u = .slice (some ⟨r, 0, none⟩) 0 0
def EmptyJ (w0 : World) (u : Value) (W : World) : Prop := ∃ r, u = .slice (some ⟨r, 0, none⟩) 0 0 ∧ Blk W r 75 #[] ∧ w0.heap.size ≤ r
theorem EmptyJ.later {w0 : World} : ∀ (v : Value) (w w' : World), Below w.heap.size w w' → EmptyJ w0 v w → EmptyJ w0 v w' := by
  rintro v w w' hb ⟨r, e, h1, h2⟩; exact ⟨r, e, h1.below hb h1.lt, h2⟩
def OneJ (R : Array Value) (u : Value) (W : World) : Prop := ∃ r, u = .slice (some ⟨r, 0, none⟩) 1 1 ∧ Blk W r 75 R
theorem OneJ.later {R : Array Value} : ∀ (v : Value) (w w' : World), Below w.heap.size w w' → OneJ R v w → OneJ R v w' := by
  rintro v w w' hb ⟨r, e, h1⟩; exact ⟨r, e, h1.below hb h1.lt⟩
theorem MixJobs.less {w0 w1 W : World} {S : Nat → Prop} {v : Value} {L : List JobK} (h : MixJobs w1 W S v L) (hb : Below w0.heap.size w0 w1) (hp : ∀ x ∈ L, PayAt w0 S x.2.1 x.2.2) : MixJobs w0 W S v L := ⟨own_less h.own hb.size, h.len, hp, below_next hb h.below⟩

set_option maxRecDepth 100000 in
set_option maxHeartbeats 1600000 in
theorem refadd_bad (v : Value) (L : List JobK) (j : JobM) (hj : j.breach.length = 32) (jv : Value) (R : Array Value) (hR : JobVal j jv R) (K : List TierK) (w : World) (S : Nat → Prop) (h : JobsAt w S v L) (hP : PayAt w S jv K) (hmax : K.length ≤ 9223372036854775807) (hl : L.length ≤ 524288) (hr : rightJ j (plainT K) = false) :
    Calls Try.prog 101 #[v, .agg R] w fun e w' => e = .returned (.tuple #[v, .int .i64 1]) ∧ Below w.heap.size w w' := by
  obtain ⟨W0, hW0⟩ : ∃ W0, W0 = w.alloc (.cells R 75) := ⟨_, rfl⟩
  have hb0 : Below w.heap.size w W0 := by rw [hW0]; exact (Below.refl _ _).alloc (Nat.le_refl _) _
  have HB0 := hide hb0
  have HQ := hide (show Blk W0 w.heap.size 75 R by rw [hW0]; exact Blk.new w _ R)
  have HRt := hide (refjright_any j jv R hR K W0 S (hP.below hb0) hmax)
  have HFd := hide (fun (W : World) (hW : Below W0.heap.size W0 W) => reffind_any v L (j.ses, j.seq) W S ((h.below hb0).below hW) (by omega))
  have HR := hide hR
  have HH := hide h
  have HPj := hide hP
  have HIR : Hid ((Try.prog.info? 75).map (·.size) = some R.size) := hide (by rw [hR.size]; exact info_job)
  obtain ⟨⟨A, c, rfl, _, _⟩, _, _⟩ := h
  clear hb0 hR hP
  rw [hr] at HRt
  go_enter Try.func101, Try.ntmps101
  go_upto_region 1 with (fail)
  rw [← hW0]
  clear hW0
  go_wp2_with (first
    | ((with_reducible show wpList _ _ _ (⟨some 6, .load _ _, _, _, _, _⟩ :: _) _ _); refine wpList_load_row rfl 75 _ rfl w.heap.size rfl 75 R (0, 0) _ HQ.out Try.underlying75 rfl HIR.out ?_)
    | (go_at_call 42; (with_reducible refine HRt.out.mono ?_); rintro e w1 ⟨rfl, hb1⟩; have HB1 := hide hb1; have HQ1 := hide (HQ.out.below hb1 HQ.out.lt); have q0 : w1.cell? ⟨w.heap.size, 0, none⟩ = some (c32 j.ses) := (HQ1.out.cell 0).trans HR.out.ses; have q1 : w1.cell? ⟨w.heap.size, 1, none⟩ = some (c32 j.seq) := (HQ1.out.cell 1).trans HR.out.seq; have HF1 := hide (HFd.out w1 hb1); unfold kf at HF1; clear hb1)
    | (go_at_call 67; (with_reducible refine HF1.out.mono ?_); rintro e w2 ⟨rfl, hb2⟩; have HB2 := hide (below_next HB1.out hb2); have HQ2 := hide (HQ1.out.below hb2 HQ1.out.lt); clear hb2)
    | fail)
  go_ret2
  exact ⟨rfl, below_next HB0.out HB1.out⟩

set_option maxRecDepth 100000 in
set_option maxHeartbeats 1600000 in
theorem refadd_twice (v : Value) (L : List JobK) (j : JobM) (hj : j.breach.length = 32) (jv : Value) (R : Array Value) (hR : JobVal j jv R) (K : List TierK) (w : World) (S : Nat → Prop) (h : JobsAt w S v L) (hP : PayAt w S jv K) (hmax : K.length ≤ 9223372036854775807) (hl : L.length ≤ 524288) (hr : rightJ j (plainT K) = true) (hk : (j.ses, j.seq) ∈ L.map keyK) :
    Calls Try.prog 101 #[v, .agg R] w fun e w' => e = .returned (.tuple #[v, .int .i64 6]) ∧ Below w.heap.size w w' := by
  obtain ⟨W0, hW0⟩ : ∃ W0, W0 = w.alloc (.cells R 75) := ⟨_, rfl⟩
  have hb0 : Below w.heap.size w W0 := by rw [hW0]; exact (Below.refl _ _).alloc (Nat.le_refl _) _
  have HB0 := hide hb0
  have HQ := hide (show Blk W0 w.heap.size 75 R by rw [hW0]; exact Blk.new w _ R)
  have HRt := hide (refjright_any j jv R hR K W0 S (hP.below hb0) hmax)
  have HFd := hide (fun (W : World) (hW : Below W0.heap.size W0 W) => reffind_any v L (j.ses, j.seq) W S ((h.below hb0).below hW) (by omega))
  have HR := hide hR
  have HH := hide h
  have HPj := hide hP
  have HIR : Hid ((Try.prog.info? 75).map (·.size) = some R.size) := hide (by rw [hR.size]; exact info_job)
  obtain ⟨⟨A, c, rfl, _, _⟩, _, _⟩ := h
  clear hb0 hR hP
  rw [hr] at HRt
  obtain ⟨i, hi, _⟩ : ∃ i : Nat, findZ (L.map keyK) (j.ses, j.seq) = (i : Int) ∧ True := by
    rcases findZ_cases (L.map keyK) (j.ses, j.seq) with ⟨_, hn⟩ | ⟨i, h1, _⟩
    · exact absurd hk hn
    · exact ⟨i, h1, trivial⟩
  rw [hi] at HFd
  have i0 : (0 : Int) ≤ (i : Int) := by omega
  clear hi hk
  go_enter Try.func101, Try.ntmps101
  go_upto_region 1 with (fail)
  rw [← hW0]
  clear hW0
  go_wp2_with (first
    | ((with_reducible show wpList _ _ _ (⟨some 6, .load _ _, _, _, _, _⟩ :: _) _ _); refine wpList_load_row rfl 75 _ rfl w.heap.size rfl 75 R (0, 0) _ HQ.out Try.underlying75 rfl HIR.out ?_)
    | (go_at_call 42; (with_reducible refine HRt.out.mono ?_); rintro e w1 ⟨rfl, hb1⟩; have HB1 := hide hb1; have HQ1 := hide (HQ.out.below hb1 HQ.out.lt); have q0 : w1.cell? ⟨w.heap.size, 0, none⟩ = some (c32 j.ses) := (HQ1.out.cell 0).trans HR.out.ses; have q1 : w1.cell? ⟨w.heap.size, 1, none⟩ = some (c32 j.seq) := (HQ1.out.cell 1).trans HR.out.seq; have HF1 := hide (HFd.out w1 hb1); unfold kf at HF1; clear hb1)
    | (go_at_call 67; (with_reducible refine HF1.out.mono ?_); rintro e w2 ⟨rfl, hb2⟩; have HB2 := hide (below_next HB1.out hb2); have HQ2 := hide (HQ1.out.below hb2 HQ1.out.lt); clear hb2)
    | fail)
  go_ret2
  exact ⟨rfl, below_next HB0.out HB2.out⟩

set_option maxRecDepth 100000 in
set_option maxHeartbeats 1600000 in
theorem refadd_new (v : Value) (L : List JobK) (j : JobM) (hj : j.breach.length = 32) (jv : Value) (R : Array Value) (hR : JobVal j jv R) (K : List TierK) (w : World) (S : Nat → Prop) (h : JobsAt w S v L) (hP : PayAt w S jv K) (hmax : K.length ≤ 9223372036854775807) (hl : L.length ≤ 524288) (hr : rightJ j (plainT K) = true) (hk : (j.ses, j.seq) ∉ L.map keyK) :
    Calls Try.prog 101 #[v, .agg R] w fun e w' => ∃ u, e = .returned (.tuple #[u, .int .i64 0]) ∧ MixJobs w w' S u (L ++ [(j, jv, K)]) := by
  obtain ⟨W0, hW0⟩ : ∃ W0, W0 = w.alloc (.cells R 75) := ⟨_, rfl⟩
  have hb0 : Below w.heap.size w W0 := by rw [hW0]; exact (Below.refl _ _).alloc (Nat.le_refl _) _
  have HB0 := hide hb0
  have HQ := hide (show Blk W0 w.heap.size 75 R by rw [hW0]; exact Blk.new w _ R)
  have HRt := hide (refjright_any j jv R hR K W0 S (hP.below hb0) hmax)
  have HFd := hide (fun (W : World) (hW : Below W0.heap.size W0 W) => reffind_any v L (j.ses, j.seq) W S ((h.below hb0).below hW) (by omega))
  have HR := hide hR
  have HH := hide h
  have HPj := hide hP
  have HIR : Hid ((Try.prog.info? 75).map (·.size) = some R.size) := hide (by rw [hR.size]; exact info_job)
  obtain ⟨⟨A, c, rfl, _, _⟩, _, _⟩ := h
  clear hb0 hR hP
  rw [hr] at HRt
  rw [findZ_none hk] at HFd
  obtain ⟨n, hn⟩ : ∃ n, n = L.length := ⟨_, rfl⟩
  have HN := hide hn
  rw [← hn] at HFd HH hl ⊢
  clear hk hn
  go_enter Try.func101, Try.ntmps101
  go_upto_region 1 with (fail)
  rw [← hW0]
  clear hW0
  go_upto_region 5 with (first
    | ((with_reducible show wpList _ _ _ (⟨some 6, .load _ _, _, _, _, _⟩ :: _) _ _); refine wpList_load_row rfl 75 _ rfl w.heap.size rfl 75 R (0, 0) _ HQ.out Try.underlying75 rfl HIR.out ?_)
    | (go_at_call 42; (with_reducible refine HRt.out.mono ?_); rintro e w1 ⟨rfl, hb1⟩; have HB1 := hide hb1; have HQ1 := hide (HQ.out.below hb1 HQ.out.lt); have q0 : w1.cell? ⟨w.heap.size, 0, none⟩ = some (c32 j.ses) := (HQ1.out.cell 0).trans HR.out.ses; have q1 : w1.cell? ⟨w.heap.size, 1, none⟩ = some (c32 j.seq) := (HQ1.out.cell 1).trans HR.out.seq; have HF1 := hide (HFd.out w1 hb1); unfold kf at HF1; clear hb1)
    | (go_at_call 67; (with_reducible refine HF1.out.mono ?_); rintro e w2 ⟨rfl, hb2⟩; have HB2 := hide (below_next HB1.out hb2); have HQ2 := hide (HQ1.out.below hb2 HQ1.out.lt); clear hb2)
    | fail)
  have HBw := hide (below_next HB0.out HB2.out)
  clear HB1 HQ1 q0 q1 HF1 HFd HRt HB0 HB2
  apply wp_region_relT 5 (C := fun W' => Below w2.heap.size w2 W') (M := fun W W' => Below W.heap.size W W') (ss := [_, _, _, _, _]) (by kernel_rfl) (by kernel_rfl) (by kernel_rfl) (by kernel_rfl) (Below.refl _ _).drew
  simp only [List.take_succ_cons, List.take_zero, List.drop_succ_cons, List.drop_zero]
  apply relWalk_rel EmptyOf2 (EmptyJ w) ⟨_, 0, rfl⟩ EmptyJ.later
  · go_simp
  · intro W hC hF
    clear hF
    have hbb : Below W.heap.size W (W.alloc (.cells #[] 75)) := (Below.refl _ _).alloc (Nat.le_refl _) _
    exact gives_build_jobs0 rfl ⟨⟨_, rfl⟩, ⟨_, rfl, Blk.new W _ _, (below_next HBw.out hC).size⟩, below_next hC hbb, hbb⟩
  rintro v0 ⟨r0, rfl⟩
  (try simp only [Act.put, List.setIfInBounds_toArray, List.set_cons_zero, List.set_cons_succ])
  iterate 1 (first
    | (apply relWalk_const (fun W => Below.refl _ _)
       · (intro W9 hC hF
          clear hF
          skip
          clear hC
          go_simp
          with_reducible exact rfl)
       (try simp only [Act.put, List.setIfInBounds_toArray, List.set_cons_zero, List.set_cons_succ])))
  apply relWalk_rel (RowOf n) (fun u W => MixJobs w W S u L) ⟨_, none, 0, rfl⟩ (fun v W W' hb h => h.later hb)
  · go_simp
  · intro W hC hF
    have h0 := hF.1 (by kernel_rfl)
    clear hF
    obtain ⟨r', e, hB, hr'⟩ := h0
    cases e
    refine gives_jobs_copy _ _ rfl r0 rfl hB hr' (below_next HBw.out hC) A n c L rfl HH.out (by rw [← HN.out]; omega) fun v' w' hM hb => ?_
    obtain ⟨A', c', e, _⟩ := hM.slice
    rw [← HN.out] at e
    subst e
    exact ⟨⟨A', c', rfl⟩, hM, below_next hC hb, hb⟩
  rintro v2 ⟨A2, c2, rfl⟩
  (try simp only [Act.put, List.setIfInBounds_toArray, List.set_cons_zero, List.set_cons_succ])
  apply relWalk_const (c := .agg R) (fun W => Below.refl _ _)
  · intro W9 hC hF
    clear hF
    rw [if_pos (wanted_none _ rfl)]
    exact gives_load_row 75 _ rfl w.heap.size rfl 75 R (0, 0) _ (HQ2.out.below hC HQ2.out.lt) Try.underlying75 rfl HIR.out ⟨rfl, rfl⟩
  (try simp only [Act.put, List.setIfInBounds_toArray, List.set_cons_zero, List.set_cons_succ])
  apply relWalk_rel OneOf (OneJ R) ⟨_, 0, rfl⟩ OneJ.later
  · go_simp
  · intro W hC hF
    clear hF
    have hbb : Below W.heap.size W (W.alloc (.cells R 75)) := (Below.refl _ _).alloc (Nat.le_refl _) _
    exact gives_build_job _ rfl R rfl HR.out.size ⟨⟨_, rfl⟩, ⟨_, rfl, Blk.new W _ _⟩, below_next hC hbb, hbb⟩
  rintro v4 ⟨r4, rfl⟩
  (try simp only [Act.put, List.setIfInBounds_toArray, List.set_cons_zero, List.set_cons_succ])
  refine relWalk_nil fun W5 hC hF => ?_
  obtain ⟨h4, h2, _⟩ := hF
  obtain ⟨r', e, hB4⟩ := h4
  cases e
  have HM := hide (show MixJobs w W5 S (.slice A2 n c2) L from h2)
  have HB4 := hide (show Blk W5 r4 75 R from hB4)
  clear h2 hB4 hC
  go_wp2_with (first
    | (at_builtin; refine wpList_jobs_more rfl (.tmp 18) (.tmp 20) rfl (S := S) _ L rfl HM.out r4 j hj jv K R HR.out HPj.out rfl HB4.out (by rw [← HN.out]; omega) ?_; intro v6 w6 hM6 _; have HM6 := hide hM6; clear hM6)
    | fail)
  go_ret2
  exact ⟨_, rfl, HM6.out⟩
end Go.Proofs.Ytccpkafmbmkmfaa
namespace Go.Proofs.Ytccpkafmbmkmfaa
open Go.RowKit Go.Shelf
set_option linter.unusedVariables false
set_option linter.unusedSimpArgs false
attribute [local go_sem] Gives givesUpon
attribute [local irreducible] Gives

/-- all but those of a key -/
def dropK (L : List JobK) (k : KeyT) : List JobK := L.filter fun x => !decide (keyK x = k)
theorem dropK_take (L : List JobK) (key : KeyT) (k : Nat) (h : k < L.length) : dropK (L.take (k + 1)) key = dropK (L.take k) key ++ (if keyK L[k] = key then [] else [L[k]]) := by
  unfold dropK
  rw [List.take_succ_eq_append_getElem h, List.filter_append]
  by_cases hp : keyK L[k] = key <;> simp [hp]
theorem dropK_len (L : List JobK) (key : KeyT) : (dropK L key).length ≤ L.length := List.length_filter_le _ _
set_option maxRecDepth 100000 in
set_option maxHeartbeats 1600000 in
theorem refdrop_any (v : Value) (L : List JobK) (key : KeyT) (w : World) (S : Nat → Prop) (h : JobsAt w S v L) (hl : L.length ≤ 524288) :
    Calls Try.prog 102 #[v, kf key] w fun e w' => ∃ u, e = .returned (.tuple #[u, .bool (decide ((dropK L key).length < L.length))]) ∧ MixJobs w w' S u (dropK L key) := by
  have HP0 := hide h
  obtain ⟨⟨A, c, rfl, hc, _⟩, _, _⟩ := id h
  obtain ⟨n, hn⟩ : ∃ n, n = L.length := ⟨_, rfl⟩
  have HN := hide hn
  rw [← hn] at hc hl h HP0 ⊢
  clear hn
  obtain ⟨W0, hW0⟩ : ∃ W0, W0 = w.alloc (.cells #[c32 key.1, c32 key.2] 68) := ⟨_, rfl⟩
  have hb0 : Below w.heap.size w W0 := by rw [hW0]; exact (Below.refl _ _).alloc (Nat.le_refl _) _
  have HB0 := hide hb0
  have HP := hide (h.below hb0)
  have HQ := hide (show Blk W0 w.heap.size 68 #[c32 key.1, c32 key.2] by rw [hW0]; exact Blk.new w _ _)
  clear h hb0
  unfold kf
  go_enter Try.func102, Try.ntmps102
  go_upto_region 1 with (fail)
  rw [← hW0]
  clear hW0
  go_wp2
  go_loopw [6, 7] (fun x i wr => ∃ (k : Nat), k ≤ n ∧ i = .int .i64 (k : Int) ∧ Hid (MixJobs W0 wr S x (dropK (L.take k) key))) (fun _ i _ => n - (intOf i).toNat)
  case atStart => exact ⟨0, Nat.zero_le _, rfl, hide (MixJobs.none_ (Below.refl _ _))⟩
  case round =>
    obtain ⟨wz, rfl⟩ : ∃ wz : World, wz = wr := ⟨_, rfl⟩
    obtain ⟨k, hk, rfl, HI⟩ := hrel
    by_cases hlt : k < n
    · have hd1 : decide ((k : Int) < (n : Int)) = true := by simpa using hlt
      have hkL : k < L.length := by rw [← HN.out]; exact hlt
      obtain ⟨ga, oa, hA, hga, c0, c1, _⟩ := HP.out.key_at (k := k) hkL
      obtain ⟨g2, o2, hA2, _, _, hcl⟩ := HP.out.at_ hkL
      rw [hA] at hA2
      injection hA2 with hA2
      injection hA2 with e1 e2
      subst hA e1 e2
      have HTk := hide (dropK_take L key k hkL)
      have hm := List.getElem_mem hkL
      have heq := fun W => eq_key (keyK L[k]) key W
      unfold keyK at heq
      dsimp only at heq
      generalize (L[k]'hkL) = x at *
      have hx32 := HP.out.len x hm
      have HPx := hide (HP.out.pay x hm)
      obtain ⟨Ax, cx, ex, _⟩ := HPx.out
      obtain ⟨Rx, hRx⟩ := jobVal (j := x.1) hx32 (v := x.2.1) (by rw [ex]; rfl)
      have HRx := hide hRx
      have HIx : Hid ((Try.prog.info? 75).map (·.size) = some (jobCells x.1 x.2.1).length) := hide (by rw [jobCells_len hx32]; exact info_job)
      have hBz := HI.out.below
      have FX : Hid (∀ W, Below wz.heap.size wz W → W.cell? ⟨ga, oa + k * 38, none⟩ = some (c32 x.1.ses) ∧ W.cell? ⟨ga, oa + k * 38 + 1, none⟩ = some (c32 x.1.seq) ∧ W.cell? ⟨w.heap.size, 0, none⟩ = some (c32 key.1) ∧ W.cell? ⟨w.heap.size, 1, none⟩ = some (c32 key.2)) := hide fun W hW =>
        ⟨((below_next hBz hW).cell (p := ⟨ga, oa + k * 38, none⟩) hga).trans c0, ((below_next hBz hW).cell (p := ⟨ga, oa + k * 38 + 1, none⟩) hga).trans c1, ((HQ.out.below (below_next hBz hW) HQ.out.lt).cell 0).trans rfl, ((HQ.out.below (below_next hBz hW) HQ.out.lt).cell 1).trans rfl⟩
      have FL : Hid (∀ W, Below wz.heap.size wz W → ∀ i u, (jobCells x.1 x.2.1)[i]? = some u → W.cell? ((⟨ga, oa + k * 38, none⟩ : Addr).add i) = some u) := hide fun W hW i u hu => by
        rw [Addr.add_lit]; exact ((below_next hBz hW).cell (p := ⟨ga, oa + k * 38 + i, none⟩) hga).trans (hcl i u hu)
      have hk0 : (0 : Int) ≤ (k : Int) := by omega
      have HDl : Hid ((dropK (L.take k) key).length ≤ 1048576) := hide (Nat.le_trans (dropK_len _ _) (by rw [List.length_take]; omega))
      obtain ⟨A3, c3, rfl, _⟩ := HI.out.slice
      generalize hds : dropK (L.take k) key = ds at *
      clear c0 c1 hga hcl hRx ex hm hBz hds
      by_cases he : keyK x = key
      · rw [decide_eq_true (show (x.1.ses, x.1.seq) = key from he)] at heq
        have HNx : Hid (dropK (L.take (k + 1)) key = ds) := hide (by rw [HTk.out, if_pos he, List.append_nil])
        clear he
        go_wp2
        apply wp_region_rel (C := fun W' => Below wz.heap.size wz W') (M := fun W W' => Below W.heap.size W W') (ss := [_, _, _, _, _, _, _]) (by kernel_rfl) (by kernel_rfl) (by kernel_rfl) (Below.refl _ _).drew
        iterate 7 (first
          | (apply relWalk_const (fun W => Below.refl _ _)
             · (intro W9 hC hF
                clear hF
                obtain ⟨x1, x2, x3, x4⟩ := FX.out W9 hC
                clear hC
                go_simp
                with_reducible exact rfl)
             (try simp only [Act.put, List.setIfInBounds_toArray, List.set_cons_zero, List.set_cons_succ])))
        refine relWalk_nil fun W2 hC hF => ?_
        clear hF
        have HI3 : Hid (MixJobs W0 W2 S (.slice A3 ds.length c3) (dropK (L.take (k + 1)) key)) := hide (by rw [HNx.out]; exact HI.out.later hC)
        go_wp2
        go_roundw
        case rel => exact ⟨k + 1, by omega, by go_num, HI3⟩
        case measure => simp [intOf]; omega
      · rw [decide_eq_false (show ¬ (x.1.ses, x.1.seq) = key from he)] at heq
        have HNx : Hid (dropK (L.take (k + 1)) key = ds ++ [(x.1, x.2.1, x.2.2)]) := hide (by rw [HTk.out, if_neg he])
        clear he
        go_wp2
        apply wp_region_rel (C := fun W' => Below wz.heap.size wz W') (M := fun W W' => Below W.heap.size W W') (ss := [_, _, _, _, _, _, _]) (by kernel_rfl) (by kernel_rfl) (by kernel_rfl) (Below.refl _ _).drew
        iterate 7 (first
          | (apply relWalk_const (fun W => Below.refl _ _)
             · (intro W9 hC hF
                clear hF
                obtain ⟨x1, x2, x3, x4⟩ := FX.out W9 hC
                clear hC
                go_simp
                with_reducible exact rfl)
             (try simp only [Act.put, List.setIfInBounds_toArray, List.set_cons_zero, List.set_cons_succ])))
        refine relWalk_nil fun W2 hC hF => ?_
        clear hF
        have HI2 := hide (HI.out.later hC)
        have FL2 := hide (FL.out W2 hC)
        clear hC HI FX FL
        go_wp2_with (first
          | ((with_reducible show wpList _ _ _ (⟨_, .load 75 _, _, _, _, _⟩ :: _) _ _); refine wpList_load_at rfl 75 _ rfl ⟨ga, oa + k * 38, none⟩ rfl (jobCells x.1 x.2.1) _ Try.underlying75 rfl HIx.out FL2.out ?_; rw [show (jobCells x.1 x.2.1).toArray = Rx from HRx.out.val.symm])
          | ((with_reducible show wpList _ _ _ (⟨_, .buildSlice _ _ _, _, _, _, _⟩ :: _) _ _); refine wpList_build_job rfl _ rfl Rx rfl HRx.out.size ?_)
          | (at_builtin; refine wpList_jobs_more rfl (.tmp 21) (.tmp 26) rfl (S := S) _ ds rfl (HI2.out.later ((Below.refl _ _).alloc (Nat.le_refl _) _)) W2.heap.size x.1 hx32 x.2.1 x.2.2 Rx HRx.out HPx.out rfl (Blk.new W2 _ _) HDl.out ?_; intro v4 w4 O4' _; rw [← HNx.out] at O4'; have O4 := hide O4'; clear O4')
          | fail)
        go_roundw
        case rel => exact ⟨k + 1, by omega, by go_num, O4⟩
        case measure => simp [intOf]; omega
    · obtain rfl : k = n := by omega
      have hd1 : decide ((k : Int) < (k : Int)) = false := by simp
      have HPl : Hid (dropK (L.take k) key = dropK L key) := hide (by rw [HN.out, List.take_length])
      rw [HPl.out] at HI
      obtain ⟨A3, c3, rfl, _⟩ := HI.out.slice
      have HFin : Hid (MixJobs w wz S (.slice A3 (dropK L key).length c3) (dropK L key)) := hide (HI.out.less HB0.out fun x hx => HP0.out.pay x (List.mem_filter.1 hx).1)
      obtain ⟨bb, hbb⟩ : ∃ bb, bb = decide ((dropK L key).length < k) := ⟨_, rfl⟩
      have b1 : decide (((dropK L key).length : Int) < (k : Int)) = bb := by rw [hbb]; exact decide_eq_decide.2 (by omega)
      have b2 : decide ((dropK L key).length < k) = bb := hbb.symm
      have HBb := hide hbb
      clear hbb HI HPl
      go_wp2
      go_ret2
      exact ⟨_, by rw [← HBb.out]; rfl, HFin.out⟩
set_option maxRecDepth 100000 in
set_option maxHeartbeats 1600000 in
theorem refmark_none (v : Value) (L : List JobK) (key : KeyT) (m : BitVec 32) (w : World) (S : Nat → Prop) (h : JobsAt w S v L) (hl : L.length ≤ 524288) (hk : key ∉ L.map keyK) :
    Calls Try.prog 103 #[v, kf key, .int .u32 (m.toNat : Int)] w fun e w' => e = .returned (.tuple #[v, .bool false]) ∧ Below w.heap.size w w' := by
  have HP0 := hide h
  obtain ⟨⟨A, c, rfl, hc, _⟩, _, _⟩ := id h
  obtain ⟨n, hn⟩ : ∃ n, n = L.length := ⟨_, rfl⟩
  have HN := hide hn
  rw [← hn] at hc hl h HP0 ⊢
  clear hn
  obtain ⟨W0, hW0⟩ : ∃ W0, W0 = w.alloc (.cells #[c32 key.1, c32 key.2] 68) := ⟨_, rfl⟩
  have hb0 : Below w.heap.size w W0 := by rw [hW0]; exact (Below.refl _ _).alloc (Nat.le_refl _) _
  have HB0 := hide hb0
  have HP := hide (h.below hb0)
  have hQ : Blk W0 w.heap.size 68 #[c32 key.1, c32 key.2] := by rw [hW0]; exact Blk.new w _ _
  have q0 : W0.cell? ⟨w.heap.size, 0, none⟩ = some (c32 key.1) := (hQ.cell 0).trans rfl
  have q1 : W0.cell? ⟨w.heap.size, 1, none⟩ = some (c32 key.2) := (hQ.cell 1).trans rfl
  have HFd := hide (reffind_any _ L key W0 S (h.below hb0) (by rw [← HN.out]; omega))
  clear h hb0 hQ
  rw [findZ_none hk] at HFd
  unfold kf at HFd ⊢
  go_enter Try.func103, Try.ntmps103
  go_upto_region 1 with (fail)
  rw [← hW0]
  clear hW0
  go_wp2_with (first
    | (go_at_call 67; (with_reducible refine HFd.out.mono ?_); rintro e w1 ⟨rfl, hb1⟩; have HB1 := hide (below_next HB0.out hb1); have HP1 := hide (HP.out.below hb1);  clear hb1)
    | fail)
  go_ret2
  exact ⟨rfl, HB1.out⟩
set_option maxRecDepth 100000 in
set_option maxHeartbeats 1600000 in
theorem refmark_some (v : Value) (L : List JobK) (key : KeyT) (m : BitVec 32) (i : Nat) (x : JobK) (w : World) (S : Nat → Prop) (h : JobsAt w S v L) (hl : L.length ≤ 524288) (hi : L[i]? = some x) (hk : keyK x = key) (hn : key ∉ (L.take i).map keyK) :
    Calls Try.prog 103 #[v, kf key, .int .u32 (m.toNat : Int)] w fun e w' => ∃ u, e = .returned (.tuple #[u, .bool true]) ∧ MixJobs w w' S u (L.set i (markedJ x.1 m, x.2)) := by
  have HP0 := hide h
  obtain ⟨⟨A, c, rfl, hc, _⟩, _, _⟩ := id h
  obtain ⟨n, hn⟩ : ∃ n, n = L.length := ⟨_, rfl⟩
  have HN := hide hn
  rw [← hn] at hc hl h HP0 ⊢
  clear hn
  obtain ⟨W0, hW0⟩ : ∃ W0, W0 = w.alloc (.cells #[c32 key.1, c32 key.2] 68) := ⟨_, rfl⟩
  have hb0 : Below w.heap.size w W0 := by rw [hW0]; exact (Below.refl _ _).alloc (Nat.le_refl _) _
  have HB0 := hide hb0
  have HP := hide (h.below hb0)
  have hQ : Blk W0 w.heap.size 68 #[c32 key.1, c32 key.2] := by rw [hW0]; exact Blk.new w _ _
  have q0 : W0.cell? ⟨w.heap.size, 0, none⟩ = some (c32 key.1) := (hQ.cell 0).trans rfl
  have q1 : W0.cell? ⟨w.heap.size, 1, none⟩ = some (c32 key.2) := (hQ.cell 1).trans rfl
  have HFd := hide (reffind_any _ L key W0 S (h.below hb0) (by rw [← HN.out]; omega))
  clear h hb0 hQ
  have hz : findZ (L.map keyK) key = (i : Int) := findZ_some (by rw [List.getElem?_map, hi]; simp [hk]) (by rw [← List.map_take]; exact hn)
  rw [hz] at HFd
  have hin : i < n := by rw [HN.out]; exact (List.getElem?_eq_some_iff.1 hi).1
  have hlt : i < L.length := by rw [← HN.out]; exact hin
  have hxe : L[i] = x := (List.getElem?_eq_some_iff.1 hi).2
  have hi0 : (0 : Int) ≤ (i : Int) := by omega
  have hin' : (i : Int) < (n : Int) := by omega
  have hneg : decide ((i : Int) < 0) = false := by simp
  have HHi := hide hi
  have HXe := hide hxe
  have hn0 : 0 < n := by omega
  clear hz hi hk hn hxe
  unfold kf at HFd ⊢
  go_enter Try.func103, Try.ntmps103
  go_upto_region 1 with (fail)
  rw [← hW0]
  clear hW0
  go_upto_region 5 with (first
    | (go_at_call 67; (with_reducible refine HFd.out.mono ?_); rintro e w1 ⟨rfl, hb1⟩; have HB1 := hide (below_next HB0.out hb1); have HP1 := hide (HP.out.below hb1);  clear hb1)
    | ((with_reducible show wpList _ _ _ (⟨_, .buildSlice _ _ _, _, _, _, _⟩ :: _) _ _); refine wpList_build_jobs0 rfl rfl ?_)
    | (at_builtin; refine wpList_jobs_copy (w0 := w) rfl (.tmp 16) (.tmp 17) rfl w1.heap.size rfl (Blk.new w1 _ _) HB1.out.size (HB1.out.alloc HB1.out.size _) A n c L rfl HP0.out (by rw [← HN.out]; omega) ?_; intro v2 w2 hM2 hb2; have HM2 := hide hM2; clear hM2 hb2)
    | fail)
  obtain ⟨g9, c9, cur, hv2, hbk, hg9, hnc, hcur⟩ := own_blk HM2.out.own (by rw [← HN.out]; exact hn0)
  rw [← HN.out] at hv2
  subst hv2
  have hxm : x ∈ L := List.mem_of_getElem? HHi.out
  have hx32 := HP0.out.len x hxm
  have hcell : ∀ o u, (jobCells x.1 x.2.1)[o]? = some u → cur[i * 38 + o]? = some u := fun o u hu => hcur _ _ (jobsC_get L HP0.out.len i hlt o u (by rw [HXe.out]; exact hu))
  have HM20 := HM2.out
  have hob : (Value.slice (some ⟨g9, 0, none⟩) n c9).ownBlock = some g9 := rfl
  obtain ⟨_, _, _, y35, y36, _⟩ := job_get hx32 x.2.1
  have z35 : w2.cell? ⟨g9, i * 38 + 35, none⟩ = some (c32 x.1.mined) := (hbk.cell _).trans (hcell _ _ y35)
  have f35 : w2.frozen? ⟨g9, i * 38 + 35, none⟩ = false := hbk.frozen _
  obtain ⟨W5, hW5⟩ : ∃ W', w2.setCell ⟨g9, i * 38 + 35, none⟩ (c32 m) = W' := ⟨_, rfl⟩
  have hMW5 : MixJobs w W5 S (.slice (some ⟨g9, 0, none⟩) n c9) (L.set i ({ x.1 with mined := m }, x.2)) := by
    have he : (L)[i]'(by simpa using hlt) = (x.1, x.2) := by rw [HXe.out]
    have := HM20.set_ hob (i := i) (off := 35) (by simpa using hlt) (u := (c32 m)) (j' := { x.1 with mined := m }) hx32 (by omega) (by rw [he]; exact jobCells_mined x.1 hx32 _ m) hg9
    rw [he] at this
    rw [← hW5]; exact this
  have hBW5 : Blk W5 g9 75 (cur.setIfInBounds (i * 38 + 35) (c32 m)) := by rw [← hW5]; exact hbk.set_ _ _
  have HWW5 := hide hW5
  have HMW5 := hide hMW5
  have HBW5 := hide hBW5
  clear hW5
  go_upto_region 6 with (fail)
  rw [HWW5.out]
  clear z35 f35 HWW5
  have z36 : W5.cell? ⟨g9, i * 38 + 36, none⟩ = some (ci x.1.live) := (hBW5.cell _).trans (by rw [Array.getElem?_setIfInBounds_ne (by omega)]; exact hcell _ _ y36)
  have f36 : W5.frozen? ⟨g9, i * 38 + 36, none⟩ = false := hBW5.frozen _
  obtain ⟨W6, hW6⟩ : ∃ W', W5.setCell ⟨g9, i * 38 + 36, none⟩ (ci (-1)) = W' := ⟨_, rfl⟩
  have hMW6 : MixJobs w W6 S (.slice (some ⟨g9, 0, none⟩) n c9) ((L.set i ({ x.1 with mined := m }, x.2)).set i (markedJ x.1 m, x.2)) := by
    have he : ((L.set i ({ x.1 with mined := m }, x.2)))[i]'(by simpa using hlt) = ({ x.1 with mined := m }, x.2) := by simp
    have := hMW5.set_ hob (i := i) (off := 36) (by simpa using hlt) (u := (ci (-1))) (j' := markedJ x.1 m) hx32 (by omega) (by rw [he]; exact jobCells_live { x.1 with mined := m } hx32 _ (-1)) hg9
    rw [he] at this
    rw [← hW6]; exact this
  have hBW6 : Blk W6 g9 75 ((cur.setIfInBounds (i * 38 + 35) (c32 m)).setIfInBounds (i * 38 + 36) (ci (-1))) := by rw [← hW6]; exact hBW5.set_ _ _
  have HWW6 := hide hW6
  have HMW6 := hide hMW6
  have HBW6 := hide hBW6
  clear hW6
  go_upto_region 7 with (fail)
  rw [HWW6.out]
  clear z36 f36 HWW6
  have HFin : Hid (MixJobs w W6 S (.slice (some ⟨g9, 0, none⟩) n c9) (L.set i (markedJ x.1 m, x.2))) := hide (by have := HMW6.out; simpa using this)
  go_wp2
  go_ret2
  exact ⟨_, rfl, HFin.out⟩
set_option maxRecDepth 100000 in
set_option maxHeartbeats 1600000 in
theorem reflive_none (v : Value) (L : List JobK) (key : KeyT) (t : Int) (w : World) (S : Nat → Prop) (h : JobsAt w S v L) (hl : L.length ≤ 524288) (hk : key ∉ L.map keyK) :
    Calls Try.prog 104 #[v, kf key, .int .i64 t] w fun e w' => e = .returned (.tuple #[v, .bool false]) ∧ Below w.heap.size w w' := by
  have HP0 := hide h
  obtain ⟨⟨A, c, rfl, hc, _⟩, _, _⟩ := id h
  obtain ⟨n, hn⟩ : ∃ n, n = L.length := ⟨_, rfl⟩
  have HN := hide hn
  rw [← hn] at hc hl h HP0 ⊢
  clear hn
  obtain ⟨W0, hW0⟩ : ∃ W0, W0 = w.alloc (.cells #[c32 key.1, c32 key.2] 68) := ⟨_, rfl⟩
  have hb0 : Below w.heap.size w W0 := by rw [hW0]; exact (Below.refl _ _).alloc (Nat.le_refl _) _
  have HB0 := hide hb0
  have HP := hide (h.below hb0)
  have hQ : Blk W0 w.heap.size 68 #[c32 key.1, c32 key.2] := by rw [hW0]; exact Blk.new w _ _
  have q0 : W0.cell? ⟨w.heap.size, 0, none⟩ = some (c32 key.1) := (hQ.cell 0).trans rfl
  have q1 : W0.cell? ⟨w.heap.size, 1, none⟩ = some (c32 key.2) := (hQ.cell 1).trans rfl
  have HFd := hide (reffind_any _ L key W0 S (h.below hb0) (by rw [← HN.out]; omega))
  clear h hb0 hQ
  rw [findZ_none hk] at HFd
  unfold kf at HFd ⊢
  go_enter Try.func104, Try.ntmps104
  go_upto_region 1 with (fail)
  rw [← hW0]
  clear hW0
  go_wp2_with (first
    | (go_at_call 67; (with_reducible refine HFd.out.mono ?_); rintro e w1 ⟨rfl, hb1⟩; have HB1 := hide (below_next HB0.out hb1); have HP1 := hide (HP.out.below hb1);  clear hb1)
    | fail)
  go_ret2
  exact ⟨rfl, HB1.out⟩
set_option maxRecDepth 100000 in
set_option maxHeartbeats 1600000 in
theorem reflive_mined (v : Value) (L : List JobK) (key : KeyT) (t : Int) (i : Nat) (x : JobK) (w : World) (S : Nat → Prop) (h : JobsAt w S v L) (hl : L.length ≤ 524288) (hi : L[i]? = some x) (hk : keyK x = key) (hn : key ∉ (L.take i).map keyK) (hm : x.1.mined.toNat ≠ 0) :
    Calls Try.prog 104 #[v, kf key, .int .i64 t] w fun e w' => e = .returned (.tuple #[v, .bool false]) ∧ Below w.heap.size w w' := by
  have HP0 := hide h
  obtain ⟨⟨A, c, rfl, hc, _⟩, _, _⟩ := id h
  obtain ⟨n, hn⟩ : ∃ n, n = L.length := ⟨_, rfl⟩
  have HN := hide hn
  rw [← hn] at hc hl h HP0 ⊢
  clear hn
  obtain ⟨W0, hW0⟩ : ∃ W0, W0 = w.alloc (.cells #[c32 key.1, c32 key.2] 68) := ⟨_, rfl⟩
  have hb0 : Below w.heap.size w W0 := by rw [hW0]; exact (Below.refl _ _).alloc (Nat.le_refl _) _
  have HB0 := hide hb0
  have HP := hide (h.below hb0)
  have hQ : Blk W0 w.heap.size 68 #[c32 key.1, c32 key.2] := by rw [hW0]; exact Blk.new w _ _
  have q0 : W0.cell? ⟨w.heap.size, 0, none⟩ = some (c32 key.1) := (hQ.cell 0).trans rfl
  have q1 : W0.cell? ⟨w.heap.size, 1, none⟩ = some (c32 key.2) := (hQ.cell 1).trans rfl
  have HFd := hide (reffind_any _ L key W0 S (h.below hb0) (by rw [← HN.out]; omega))
  clear h hb0 hQ
  have hz : findZ (L.map keyK) key = (i : Int) := findZ_some (by rw [List.getElem?_map, hi]; simp [hk]) (by rw [← List.map_take]; exact hn)
  rw [hz] at HFd
  have hin : i < n := by rw [HN.out]; exact (List.getElem?_eq_some_iff.1 hi).1
  have hlt : i < L.length := by rw [← HN.out]; exact hin
  have hxe : L[i] = x := (List.getElem?_eq_some_iff.1 hi).2
  have hi0 : (0 : Int) ≤ (i : Int) := by omega
  have hin' : (i : Int) < (n : Int) := by omega
  have hneg : decide ((i : Int) < 0) = false := by simp
  obtain ⟨ga, oa, hA, hga, _, _, _, d35, _, d37⟩ := HP.out.key_at (k := i) hlt
  rw [hxe] at d35 d37
  subst hA
  obtain ⟨Ax, cx, ex, _⟩ := HP.out.pay x (List.mem_of_getElem? hi)
  obtain ⟨ln, hln⟩ : ∃ ln, ln = x.2.2.length := ⟨_, rfl⟩
  rw [ex, ← hln] at d37
  have e1 : ((x.1.mined.toNat : Int) != 0) = true := by simp; omega
  clear hm
  have HD : Hid (∀ W, Below W0.heap.size W0 W → W.cell? ⟨ga, oa + i * 38 + 35, none⟩ = some (c32 x.1.mined) ∧ W.cell? ⟨ga, oa + i * 38 + 37, none⟩ = some (.slice Ax ln cx)) := hide fun W hW => ⟨(hW.cell (p := ⟨ga, oa + i * 38 + 35, none⟩) hga).trans d35, (hW.cell (p := ⟨ga, oa + i * 38 + 37, none⟩) hga).trans d37⟩
  clear d35 d37 hga ex hln hz hi hk hn hxe
  unfold kf at HFd ⊢
  go_enter Try.func104, Try.ntmps104
  go_upto_region 1 with (fail)
  rw [← hW0]
  clear hW0
  go_wp2_with (first
    | (go_at_call 67; (with_reducible refine HFd.out.mono ?_); rintro e w1 ⟨rfl, hb1⟩; have HB1 := hide (below_next HB0.out hb1); have HP1 := hide (HP.out.below hb1); obtain ⟨d35, d37⟩ := HD.out w1 hb1; clear hb1)
    | fail)
  go_ret2
  exact ⟨rfl, HB1.out⟩
set_option maxRecDepth 100000 in
set_option maxHeartbeats 1600000 in
theorem reflive_low (v : Value) (L : List JobK) (key : KeyT) (t : Int) (i : Nat) (x : JobK) (w : World) (S : Nat → Prop) (h : JobsAt w S v L) (hl : L.length ≤ 524288) (hi : L[i]? = some x) (hk : keyK x = key) (hn : key ∉ (L.take i).map keyK) (hm : x.1.mined.toNat = 0) (ht : t < -1) :
    Calls Try.prog 104 #[v, kf key, .int .i64 t] w fun e w' => e = .returned (.tuple #[v, .bool false]) ∧ Below w.heap.size w w' := by
  have HP0 := hide h
  obtain ⟨⟨A, c, rfl, hc, _⟩, _, _⟩ := id h
  obtain ⟨n, hn⟩ : ∃ n, n = L.length := ⟨_, rfl⟩
  have HN := hide hn
  rw [← hn] at hc hl h HP0 ⊢
  clear hn
  obtain ⟨W0, hW0⟩ : ∃ W0, W0 = w.alloc (.cells #[c32 key.1, c32 key.2] 68) := ⟨_, rfl⟩
  have hb0 : Below w.heap.size w W0 := by rw [hW0]; exact (Below.refl _ _).alloc (Nat.le_refl _) _
  have HB0 := hide hb0
  have HP := hide (h.below hb0)
  have hQ : Blk W0 w.heap.size 68 #[c32 key.1, c32 key.2] := by rw [hW0]; exact Blk.new w _ _
  have q0 : W0.cell? ⟨w.heap.size, 0, none⟩ = some (c32 key.1) := (hQ.cell 0).trans rfl
  have q1 : W0.cell? ⟨w.heap.size, 1, none⟩ = some (c32 key.2) := (hQ.cell 1).trans rfl
  have HFd := hide (reffind_any _ L key W0 S (h.below hb0) (by rw [← HN.out]; omega))
  clear h hb0 hQ
  have hz : findZ (L.map keyK) key = (i : Int) := findZ_some (by rw [List.getElem?_map, hi]; simp [hk]) (by rw [← List.map_take]; exact hn)
  rw [hz] at HFd
  have hin : i < n := by rw [HN.out]; exact (List.getElem?_eq_some_iff.1 hi).1
  have hlt : i < L.length := by rw [← HN.out]; exact hin
  have hxe : L[i] = x := (List.getElem?_eq_some_iff.1 hi).2
  have hi0 : (0 : Int) ≤ (i : Int) := by omega
  have hin' : (i : Int) < (n : Int) := by omega
  have hneg : decide ((i : Int) < 0) = false := by simp
  obtain ⟨ga, oa, hA, hga, _, _, _, d35, _, d37⟩ := HP.out.key_at (k := i) hlt
  rw [hxe] at d35 d37
  subst hA
  obtain ⟨Ax, cx, ex, _⟩ := HP.out.pay x (List.mem_of_getElem? hi)
  obtain ⟨ln, hln⟩ : ∃ ln, ln = x.2.2.length := ⟨_, rfl⟩
  rw [ex, ← hln] at d37
  have e1 : ((x.1.mined.toNat : Int) != 0) = false := by simp; omega
  have e2 : decide (t < -1) = true := by simp; omega
  clear hm ht
  have HD : Hid (∀ W, Below W0.heap.size W0 W → W.cell? ⟨ga, oa + i * 38 + 35, none⟩ = some (c32 x.1.mined) ∧ W.cell? ⟨ga, oa + i * 38 + 37, none⟩ = some (.slice Ax ln cx)) := hide fun W hW => ⟨(hW.cell (p := ⟨ga, oa + i * 38 + 35, none⟩) hga).trans d35, (hW.cell (p := ⟨ga, oa + i * 38 + 37, none⟩) hga).trans d37⟩
  clear d35 d37 hga ex hln hz hi hk hn hxe
  unfold kf at HFd ⊢
  go_enter Try.func104, Try.ntmps104
  go_upto_region 1 with (fail)
  rw [← hW0]
  clear hW0
  go_wp2_with (first
    | (go_at_call 67; (with_reducible refine HFd.out.mono ?_); rintro e w1 ⟨rfl, hb1⟩; have HB1 := hide (below_next HB0.out hb1); have HP1 := hide (HP.out.below hb1); obtain ⟨d35, d37⟩ := HD.out w1 hb1; clear hb1)
    | fail)
  go_ret2
  exact ⟨rfl, HB1.out⟩
set_option maxRecDepth 100000 in
set_option maxHeartbeats 1600000 in
theorem reflive_high (v : Value) (L : List JobK) (key : KeyT) (t : Int) (i : Nat) (x : JobK) (w : World) (S : Nat → Prop) (h : JobsAt w S v L) (hl : L.length ≤ 524288) (hi : L[i]? = some x) (hk : keyK x = key) (hn : key ∉ (L.take i).map keyK) (hm : x.1.mined.toNat = 0) (ht : -1 ≤ t) (ht2 : (x.2.2.length : Int) ≤ t) :
    Calls Try.prog 104 #[v, kf key, .int .i64 t] w fun e w' => e = .returned (.tuple #[v, .bool false]) ∧ Below w.heap.size w w' := by
  have HP0 := hide h
  obtain ⟨⟨A, c, rfl, hc, _⟩, _, _⟩ := id h
  obtain ⟨n, hn⟩ : ∃ n, n = L.length := ⟨_, rfl⟩
  have HN := hide hn
  rw [← hn] at hc hl h HP0 ⊢
  clear hn
  obtain ⟨W0, hW0⟩ : ∃ W0, W0 = w.alloc (.cells #[c32 key.1, c32 key.2] 68) := ⟨_, rfl⟩
  have hb0 : Below w.heap.size w W0 := by rw [hW0]; exact (Below.refl _ _).alloc (Nat.le_refl _) _
  have HB0 := hide hb0
  have HP := hide (h.below hb0)
  have hQ : Blk W0 w.heap.size 68 #[c32 key.1, c32 key.2] := by rw [hW0]; exact Blk.new w _ _
  have q0 : W0.cell? ⟨w.heap.size, 0, none⟩ = some (c32 key.1) := (hQ.cell 0).trans rfl
  have q1 : W0.cell? ⟨w.heap.size, 1, none⟩ = some (c32 key.2) := (hQ.cell 1).trans rfl
  have HFd := hide (reffind_any _ L key W0 S (h.below hb0) (by rw [← HN.out]; omega))
  clear h hb0 hQ
  have hz : findZ (L.map keyK) key = (i : Int) := findZ_some (by rw [List.getElem?_map, hi]; simp [hk]) (by rw [← List.map_take]; exact hn)
  rw [hz] at HFd
  have hin : i < n := by rw [HN.out]; exact (List.getElem?_eq_some_iff.1 hi).1
  have hlt : i < L.length := by rw [← HN.out]; exact hin
  have hxe : L[i] = x := (List.getElem?_eq_some_iff.1 hi).2
  have hi0 : (0 : Int) ≤ (i : Int) := by omega
  have hin' : (i : Int) < (n : Int) := by omega
  have hneg : decide ((i : Int) < 0) = false := by simp
  obtain ⟨ga, oa, hA, hga, _, _, _, d35, _, d37⟩ := HP.out.key_at (k := i) hlt
  rw [hxe] at d35 d37
  subst hA
  obtain ⟨Ax, cx, ex, _⟩ := HP.out.pay x (List.mem_of_getElem? hi)
  obtain ⟨ln, hln⟩ : ∃ ln, ln = x.2.2.length := ⟨_, rfl⟩
  rw [ex, ← hln] at d37
  have e1 : ((x.1.mined.toNat : Int) != 0) = false := by simp; omega
  have e2 : decide (t < -1) = false := by simp; omega
  rw [← hln] at ht2
  have e3 : decide ((ln : Int) ≤ t) = true := by simp; omega
  clear hm ht ht2
  have HD : Hid (∀ W, Below W0.heap.size W0 W → W.cell? ⟨ga, oa + i * 38 + 35, none⟩ = some (c32 x.1.mined) ∧ W.cell? ⟨ga, oa + i * 38 + 37, none⟩ = some (.slice Ax ln cx)) := hide fun W hW => ⟨(hW.cell (p := ⟨ga, oa + i * 38 + 35, none⟩) hga).trans d35, (hW.cell (p := ⟨ga, oa + i * 38 + 37, none⟩) hga).trans d37⟩
  clear d35 d37 hga ex hln hz hi hk hn hxe
  unfold kf at HFd ⊢
  go_enter Try.func104, Try.ntmps104
  go_upto_region 1 with (fail)
  rw [← hW0]
  clear hW0
  go_wp2_with (first
    | (go_at_call 67; (with_reducible refine HFd.out.mono ?_); rintro e w1 ⟨rfl, hb1⟩; have HB1 := hide (below_next HB0.out hb1); have HP1 := hide (HP.out.below hb1); obtain ⟨d35, d37⟩ := HD.out w1 hb1; clear hb1)
    | fail)
  go_ret2
  exact ⟨rfl, HB1.out⟩
set_option maxRecDepth 100000 in
set_option maxHeartbeats 1600000 in
theorem reflive_yes (v : Value) (L : List JobK) (key : KeyT) (t : Int) (i : Nat) (x : JobK) (w : World) (S : Nat → Prop) (h : JobsAt w S v L) (hl : L.length ≤ 524288) (hi : L[i]? = some x) (hk : keyK x = key) (hn : key ∉ (L.take i).map keyK) (hm : x.1.mined.toNat = 0) (ht1 : -1 ≤ t) (ht2 : t < (x.2.2.length : Int)) :
    Calls Try.prog 104 #[v, kf key, .int .i64 t] w fun e w' => ∃ u, e = .returned (.tuple #[u, .bool true]) ∧ MixJobs w w' S u (L.set i ({ x.1 with live := t }, x.2)) := by
  have HP0 := hide h
  obtain ⟨⟨A, c, rfl, hc, _⟩, _, _⟩ := id h
  obtain ⟨n, hn⟩ : ∃ n, n = L.length := ⟨_, rfl⟩
  have HN := hide hn
  rw [← hn] at hc hl h HP0 ⊢
  clear hn
  obtain ⟨W0, hW0⟩ : ∃ W0, W0 = w.alloc (.cells #[c32 key.1, c32 key.2] 68) := ⟨_, rfl⟩
  have hb0 : Below w.heap.size w W0 := by rw [hW0]; exact (Below.refl _ _).alloc (Nat.le_refl _) _
  have HB0 := hide hb0
  have HP := hide (h.below hb0)
  have hQ : Blk W0 w.heap.size 68 #[c32 key.1, c32 key.2] := by rw [hW0]; exact Blk.new w _ _
  have q0 : W0.cell? ⟨w.heap.size, 0, none⟩ = some (c32 key.1) := (hQ.cell 0).trans rfl
  have q1 : W0.cell? ⟨w.heap.size, 1, none⟩ = some (c32 key.2) := (hQ.cell 1).trans rfl
  have HFd := hide (reffind_any _ L key W0 S (h.below hb0) (by rw [← HN.out]; omega))
  clear h hb0 hQ
  have hz : findZ (L.map keyK) key = (i : Int) := findZ_some (by rw [List.getElem?_map, hi]; simp [hk]) (by rw [← List.map_take]; exact hn)
  rw [hz] at HFd
  have hin : i < n := by rw [HN.out]; exact (List.getElem?_eq_some_iff.1 hi).1
  have hlt : i < L.length := by rw [← HN.out]; exact hin
  have hxe : L[i] = x := (List.getElem?_eq_some_iff.1 hi).2
  have hi0 : (0 : Int) ≤ (i : Int) := by omega
  have hin' : (i : Int) < (n : Int) := by omega
  have hneg : decide ((i : Int) < 0) = false := by simp
  obtain ⟨ga, oa, hA, hga, _, _, _, d35, _, d37⟩ := HP.out.key_at (k := i) hlt
  rw [hxe] at d35 d37
  subst hA
  obtain ⟨Ax, cx, ex, _⟩ := HP.out.pay x (List.mem_of_getElem? hi)
  obtain ⟨ln, hln⟩ : ∃ ln, ln = x.2.2.length := ⟨_, rfl⟩
  rw [ex, ← hln] at d37
  rw [← hln] at ht2
  have HD : Hid (∀ W, Below W0.heap.size W0 W → W.cell? ⟨ga, oa + i * 38 + 35, none⟩ = some (c32 x.1.mined) ∧ W.cell? ⟨ga, oa + i * 38 + 37, none⟩ = some (.slice Ax ln cx)) := hide fun W hW => ⟨(hW.cell (p := ⟨ga, oa + i * 38 + 35, none⟩) hga).trans d35, (hW.cell (p := ⟨ga, oa + i * 38 + 37, none⟩) hga).trans d37⟩
  have e1 : ((x.1.mined.toNat : Int) != 0) = false := by simp; omega
  have e2 : decide (t < -1) = false := by simp; omega
  have e3 : decide ((ln : Int) ≤ t) = false := by simp; omega
  clear d35 d37 hga ex hln hm ht1 ht2
  have HHi := hide hi
  have HXe := hide hxe
  have hn0 : 0 < n := by omega
  clear hz hi hk hn hxe
  unfold kf at HFd ⊢
  go_enter Try.func104, Try.ntmps104
  go_upto_region 1 with (fail)
  rw [← hW0]
  clear hW0
  go_upto_region 5 with (first
    | (go_at_call 67; (with_reducible refine HFd.out.mono ?_); rintro e w1 ⟨rfl, hb1⟩; have HB1 := hide (below_next HB0.out hb1); have HP1 := hide (HP.out.below hb1); obtain ⟨d35, d37⟩ := HD.out w1 hb1; clear hb1)
    | ((with_reducible show wpList _ _ _ (⟨_, .buildSlice _ _ _, _, _, _, _⟩ :: _) _ _); refine wpList_build_jobs0 rfl rfl ?_)
    | (at_builtin; refine wpList_jobs_copy (w0 := w) rfl (.tmp 39) (.tmp 40) rfl w1.heap.size rfl (Blk.new w1 _ _) HB1.out.size (HB1.out.alloc HB1.out.size _) (some ⟨ga, oa, none⟩) n c L rfl HP0.out (by rw [← HN.out]; omega) ?_; intro v2 w2 hM2 hb2; have HM2 := hide hM2; clear hM2 hb2)
    | fail)
  obtain ⟨g9, c9, cur, hv2, hbk, hg9, hnc, hcur⟩ := own_blk HM2.out.own (by rw [← HN.out]; exact hn0)
  rw [← HN.out] at hv2
  subst hv2
  have hxm : x ∈ L := List.mem_of_getElem? HHi.out
  have hx32 := HP0.out.len x hxm
  have hcell : ∀ o u, (jobCells x.1 x.2.1)[o]? = some u → cur[i * 38 + o]? = some u := fun o u hu => hcur _ _ (jobsC_get L HP0.out.len i hlt o u (by rw [HXe.out]; exact hu))
  have HM20 := HM2.out
  have hob : (Value.slice (some ⟨g9, 0, none⟩) n c9).ownBlock = some g9 := rfl
  obtain ⟨_, _, _, y35, y36, _⟩ := job_get hx32 x.2.1
  have z36 : w2.cell? ⟨g9, i * 38 + 36, none⟩ = some (ci x.1.live) := (hbk.cell _).trans (hcell _ _ y36)
  have f36 : w2.frozen? ⟨g9, i * 38 + 36, none⟩ = false := hbk.frozen _
  obtain ⟨W5, hW5⟩ : ∃ W', w2.setCell ⟨g9, i * 38 + 36, none⟩ (ci t) = W' := ⟨_, rfl⟩
  have hMW5 : MixJobs w W5 S (.slice (some ⟨g9, 0, none⟩) n c9) (L.set i ({ x.1 with live := t }, x.2)) := by
    have he : (L)[i]'(by simpa using hlt) = (x.1, x.2) := by rw [HXe.out]
    have := HM20.set_ hob (i := i) (off := 36) (by simpa using hlt) (u := (ci t)) (j' := { x.1 with live := t }) hx32 (by omega) (by rw [he]; exact jobCells_live x.1 hx32 _ t) hg9
    rw [he] at this
    rw [← hW5]; exact this
  have hBW5 : Blk W5 g9 75 (cur.setIfInBounds (i * 38 + 36) (ci t)) := by rw [← hW5]; exact hbk.set_ _ _
  have HWW5 := hide hW5
  have HMW5 := hide hMW5
  have HBW5 := hide hBW5
  clear hW5
  go_upto_region 6 with (fail)
  rw [HWW5.out]
  clear z36 f36 HWW5
  have HFin : Hid (MixJobs w W5 S (.slice (some ⟨g9, 0, none⟩) n c9) (L.set i ({ x.1 with live := t }, x.2))) := hide (by have := HMW5.out; exact this)
  go_wp2
  go_ret2
  exact ⟨_, rfl, HFin.out⟩
end Go.Proofs.Ytccpkafmbmkmfaa
namespace Go.Proofs.Ytccpkafmbmkmfaa
open Go.RowKit Go.Shelf
set_option linter.unusedVariables false
set_option linter.unusedSimpArgs false
attribute [local go_sem] Gives givesUpon
attribute [local irreducible] Gives

/-- the first k have turned -/
def progL {α : Type} (f : α → α) (L : List α) (k : Nat) : List α := (L.take k).map f ++ L.drop k
theorem progL_zero {α : Type} (f : α → α) (L : List α) : progL f L 0 = L := by simp [progL]
theorem progL_all {α : Type} (f : α → α) (L : List α) : progL f L L.length = L.map f := by simp [progL]
theorem progL_len {α : Type} (f : α → α) (L : List α) (k : Nat) : (progL f L k).length = L.length := by simp [progL]; omega
theorem progL_get {α : Type} (f : α → α) (L : List α) (k : Nat) (h : k < L.length) : (progL f L k)[k]? = some L[k] := by
  unfold progL
  rw [List.getElem?_append_right (by simp; omega)]
  simp [Nat.min_eq_left (Nat.le_of_lt h), h]
theorem progL_set {α : Type} (f : α → α) (L : List α) (k : Nat) (h : k < L.length) : (progL f L k).set k (f L[k]) = progL f L (k + 1) := by
  unfold progL
  have hl : ((L.take k).map f).length = k := by simp; omega
  rw [List.set_append_right _ _ (by omega), hl, Nat.sub_self, List.drop_eq_getElem_cons h, List.set_cons_zero, List.take_succ_eq_append_getElem h, List.map_append, List.append_assoc]
  rfl
theorem progL_same {α : Type} (f : α → α) (L : List α) (k : Nat) (h : k < L.length) (hf : f L[k] = L[k]) : progL f L (k + 1) = progL f L k := by
  rw [← progL_set f L k h, hf]
  apply List.ext_getElem?
  intro i
  rw [List.getElem?_set]
  split
  · rename_i e; subst e
    split
    · exact (progL_get f L k h).symm
    · rename_i hn; exact absurd (by rw [progL_len]; exact h) hn
  · rfl
def deadK (x : JobK) : JobK := ({ x.1 with live := -1 }, x.2)
/-- has the live tier this id -/
def evK (m : List (BitVec 8)) (x : JobK) : Bool := decide (0 ≤ x.1.live ∧ (idsOf (plainT x.2.2))[x.1.live.toNat]? = some m)
def evictK (m : List (BitVec 8)) (x : JobK) : JobK := if evK m x then deadK x else x
theorem MixJobs.keyless {w0 W W' : World} {S : Nat → Prop} {v kv : Value} {L : List JobK} {base n : Nat} {xs : List Value} (h : MixJobs w0 W S v L) (hk : W.ownsRow base 68 2 kv n xs) (hbase : w0.heap.size ≤ base) (hg : W.grownBy W' kv.ownBlock) : MixJobs w0 W' S v L :=
  ⟨own_block h.own fun r hr => hg.block r (own_lt h.own hr).2 (fun e => own_own_ne h.own hk (by decide) hr e.symm), h.len, h.pay, h.below.grown hg h.below.size fun g e => Nat.le_trans hbase (own_lt hk e).1⟩
set_option maxRecDepth 100000 in
set_option maxHeartbeats 1600000 in
theorem refrest_any (v : Value) (L : List JobK) (w : World) (S : Nat → Prop) (h : JobsAt w S v L) (hl : L.length ≤ 524288) :
    Calls Try.prog 106 #[v] w fun e w' => ∃ u, e = .returned u ∧ MixJobs w w' S u (L.map deadK) := by
  have HP0 := hide h
  obtain ⟨⟨A, c, rfl, hc, _⟩, _, _⟩ := h
  obtain ⟨n, hn⟩ : ∃ n, n = L.length := ⟨_, rfl⟩
  have HN := hide hn
  rw [← hn] at hc hl HP0 ⊢
  clear hn
  go_enter Try.func106, Try.ntmps106
  go_wp2_with (first
    | ((with_reducible show wpList _ _ _ (⟨_, .buildSlice _ _ _, _, _, _, _⟩ :: _) _ _); refine wpList_build_jobs0 rfl rfl ?_)
    | (at_builtin; refine wpList_jobs_copy (w0 := w) rfl (.tmp 5) (.tmp 6) rfl w.heap.size rfl (Blk.new w _ _) (Nat.le_refl _) ((Below.refl _ _).alloc (Nat.le_refl _) _) A n c L rfl HP0.out (by rw [← HN.out]; omega) ?_; intro v2 w2 hM2 hb2; obtain ⟨A3, c3, e3, _⟩ := hM2.slice; rw [← HN.out] at e3; subst e3; have HM2 := hide hM2; clear hM2 hb2)
    | fail)
  go_loopw [4] (fun i wr => ∃ (k : Nat), k ≤ n ∧ i = .int .i64 (k : Int) ∧ Hid (MixJobs w wr S (.slice A3 n c3) (progL deadK L k))) (fun i _ => n - (intOf i).toNat)
  case atStart => exact ⟨0, Nat.zero_le _, rfl, hide (by rw [progL_zero]; exact HM2.out)⟩
  case round =>
    clear HM2
    obtain ⟨wz, rfl⟩ : ∃ wz : World, wz = wr := ⟨_, rfl⟩
    obtain ⟨k, hk, rfl, HM⟩ := hrel
    by_cases hlt : k < n
    · have hd1 : decide ((k : Int) < (n : Int)) = true := by simpa using hlt
      have hkL : k < L.length := by rw [← HN.out]; exact hlt
      obtain ⟨g9, c9, cur, hv9, hbk, hg9, hnc, hcur⟩ := own_blk HM.out.own (by rw [progL_len]; omega)
      injection hv9 with e1 e2 e3
      subst e1 e3
      have hx := progL_get deadK L k hkL
      have hx32 := HP0.out.len L[k] (List.getElem_mem hkL)
      have hkp : k < (progL deadK L k).length := by rw [progL_len]; exact hkL
      have hxg : (progL deadK L k)[k] = L[k] := (List.getElem?_eq_some_iff.1 hx).2
      obtain ⟨_, _, _, _, y36, _⟩ := job_get hx32 L[k].2.1
      have z36 : wz.cell? ⟨g9, k * 38 + 36, none⟩ = some (ci L[k].1.live) := (hbk.cell _).trans (hcur _ _ (jobsC_get _ HM.out.len k hkp 36 _ (by rw [hxg]; exact y36)))
      have f36 : wz.frozen? ⟨g9, k * 38 + 36, none⟩ = false := hbk.frozen _
      obtain ⟨W5, hW5⟩ : ∃ W', wz.setCell ⟨g9, k * 38 + 36, none⟩ (ci (-1)) = W' := ⟨_, rfl⟩
      have HM5 : Hid (MixJobs w W5 S (.slice (some ⟨g9, 0, none⟩) n c3) (progL deadK L (k + 1))) := hide (by
        have := HM.out.set_ (g := g9) rfl (i := k) (off := 36) hkp (u := ci (-1)) (j' := { L[k].1 with live := -1 }) hx32 (by omega) (by rw [hxg]; exact jobCells_live L[k].1 hx32 _ (-1)) hg9
        rw [hxg] at this
        rw [← hW5, ← progL_set deadK L k hkL]; exact this)
      have HW5 := hide hW5
      generalize L[k].1.live = lv at z36
      have hk0 : (0 : Int) ≤ (k : Int) := by omega
      clear hbk hg9 hnc hcur hx hx32 hkp hxg y36 hW5 HM e2
      go_upto_region 4 with (fail)
      rw [HW5.out]
      clear z36 f36 HW5
      go_wp2
      go_roundw
      case rel => exact ⟨k + 1, by omega, by go_num, HM5⟩
      case measure => simp [intOf]; omega
    · obtain rfl : k = n := by omega
      have hd1 : decide ((k : Int) < (k : Int)) = false := by simp
      have HF : Hid (progL deadK L k = L.map deadK) := hide (by rw [HN.out]; exact progL_all _ _)
      rw [HF.out] at HM
      go_wp2
      go_ret
      exact ⟨_, rfl, HM.out⟩
set_option maxRecDepth 100000 in
set_option maxHeartbeats 3200000 in
theorem refevict_any (v : Value) (L : List JobK) (m : List (BitVec 8)) (R : Array Value) (hm : m.length = 32) (hR : IdVal m R) (w : World) (S : Nat → Prop) (h : JobsAt w S v L) (hl : L.length ≤ 524288) (hr : ∀ x ∈ L, rightJ x.1 (plainT x.2.2) = true) :
    Calls Try.prog 105 #[v, .agg R] w fun e w' => ∃ u ku, e = .returned (.tuple #[u, ku]) ∧ MixJobs w w' S u (L.map (evictK m)) ∧ OwnKeys w w' ku (keysL L (evK m)) := by
  have HP0 := hide h
  obtain ⟨⟨A, c, rfl, hc, _⟩, _, _⟩ := id h
  obtain ⟨n, hn⟩ : ∃ n, n = L.length := ⟨_, rfl⟩
  have HN := hide hn
  rw [← hn] at hc hl HP0 h ⊢
  clear hn
  obtain ⟨W0, hW0⟩ : ∃ W0, W0 = w.alloc (.cells R 70) := ⟨_, rfl⟩
  have hb0 : Below w.heap.size w W0 := by rw [hW0]; exact (Below.refl _ _).alloc (Nat.le_refl _) _
  have HB0 := hide hb0
  have HP := hide (h.below hb0)
  have HQ := hide (show Blk W0 w.heap.size 70 R by rw [hW0]; exact Blk.new w _ _)
  have HR := hide hR
  have HMl := hide hm
  have HRt := hide hr
  clear h hb0 hR hm hr
  go_enter Try.func105, Try.ntmps105
  go_upto_region 1 with (fail)
  rw [← hW0]
  clear hW0
  go_wp2_with (first
    | ((with_reducible show wpList _ _ _ (⟨_, .buildSlice _ _ _, _, _, _, _⟩ :: _) _ _); refine wpList_build_jobs0 rfl rfl ?_)
    | (at_builtin; refine wpList_jobs_copy (w0 := W0) rfl (.tmp 9) (.tmp 10) rfl W0.heap.size rfl (Blk.new W0 _ _) (Nat.le_refl _) ((Below.refl _ _).alloc (Nat.le_refl _) _) A n c L rfl HP.out (by rw [← HN.out]; omega) ?_; intro v2 w2 hM2 hb2; obtain ⟨A6, c6, e6, _⟩ := hM2.slice; rw [← HN.out] at e6; subst e6; have HM2 := hide hM2; clear hM2 hb2)
    | fail)
  go_loopw [7, 8] (fun x i wr => ∃ (k : Nat), k ≤ n ∧ i = .int .i64 (k : Int) ∧ Hid (MixJobs W0 wr S (.slice A6 n c6) (progL (evictK m) L k)) ∧ Hid (OwnKeys W0 wr x (keysL (L.take k) (evK m)))) (fun _ i _ => n - (intOf i).toNat)
  case atStart => exact ⟨0, Nat.zero_le _, rfl, hide (by rw [progL_zero]; exact HM2.out), hide (OwnKeys.none_ HM2.out.below)⟩
  case round =>
    clear HM2
    obtain ⟨wz, rfl⟩ : ∃ wz : World, wz = wr := ⟨_, rfl⟩
    obtain ⟨k, hk, rfl, HM, HK⟩ := hrel
    by_cases hlt : k < n
    · have hd1 : decide ((k : Int) < (n : Int)) = true := by simpa using hlt
      have hkL : k < L.length := by rw [← HN.out]; exact hlt
      obtain ⟨ga, oa, rfl, hga, c0, c1, _, _, c36, c37⟩ := HP.out.key_at (k := k) hkL
      have HTk := hide (keysL_take L (evK m) k hkL)
      obtain ⟨x, hx⟩ : ∃ x, x = L[k] := ⟨_, rfl⟩
      rw [← hx] at c0 c1 c36 c37
      have HXe : Hid (L[k] = x) := hide hx.symm
      have hxm : x ∈ L := by rw [hx]; exact List.getElem_mem hkL
      have hx32 := HP.out.len x hxm
      have hxr := HRt.out x hxm
      have HPx := HP.out.pay x hxm
      have hmod := modest_right hxr
      obtain ⟨A7, c7, rfl, _⟩ := HK.out.slice
      have hil : (keysL (L.take k) (evK m)).length ≤ 1048576 := Nat.le_trans (keysL_len _ _) (by rw [List.length_take]; omega)
      generalize hks : keysL (L.take k) (evK m) = ks at *
      have HIl := hide hil
      have hk0 : (0 : Int) ≤ (k : Int) := by omega
      have hBz := HM.out.below
      have FR : Hid (∀ W, Below wz.heap.size wz W → Blk W w.heap.size 70 R) := hide fun W hW => HQ.out.below (below_next hBz hW) HQ.out.lt
      have HIR := hide HR.out.info
      obtain ⟨Ap, cp, e37, _⟩ := id HPx
      rw [e37] at c37 HPx
      have hri := hxr
      unfold rightJ at hri
      simp only [Bool.and_eq_true, Bool.or_eq_true, decide_eq_true_eq] at hri
      obtain ⟨_, _, hl1, hl2, _⟩ := hri
      have hpl : (plainT x.2.2).length = x.2.2.length := by simp [plainT]
      obtain ⟨ln, hln⟩ : ∃ ln, ln = x.2.2.length := ⟨_, rfl⟩
      rw [← hln] at c37
      rw [hpl, ← hln] at hl2
      clear hks hil hx hpl
      by_cases hneg : x.1.live < 0
      · have HNo : Hid (evK m x = false) := hide (decide_eq_false fun e => by omega)
        have hlv : x.1.live = -1 := by omega
        rw [hlv] at c36
        have FX : Hid (∀ W, Below wz.heap.size wz W → W.cell? ⟨ga, oa + k * 38 + 36, none⟩ = some (ci (-1)) ∧ W.cell? ⟨ga, oa + k * 38 + 37, none⟩ = some (.slice Ap ln cp)) := hide fun W hW =>
          ⟨((below_next hBz hW).cell (p := ⟨ga, oa + k * 38 + 36, none⟩) hga).trans c36, ((below_next hBz hW).cell (p := ⟨ga, oa + k * 38 + 37, none⟩) hga).trans c37⟩
        clear c0 c1 c36 c37 hga hBz hxr HPx hmod hl1 hl2 hneg hlv hln e37
        go_wp2
        apply wp_region_rel (C := fun W' => Below wz.heap.size wz W') (M := fun W W' => Below W.heap.size W W') (ss := [_, _, _, _, _, _, _, _, _, _, _, _, _, _, _, _, _, _, _, _, _, _, _, _, _]) (by kernel_rfl) (by kernel_rfl) (by kernel_rfl) (Below.refl _ _).drew
        iterate 25 (first
          | (apply relWalk_const (fun W => Below.refl _ _)
             · (intro W9 hC hF
                clear hF
                obtain ⟨x1, x2⟩ := FX.out W9 hC
                clear hC
                go_simp
                with_reducible exact rfl)
             (try simp only [Act.put, List.setIfInBounds_toArray, List.set_cons_zero, List.set_cons_succ])))
        refine relWalk_nil fun W2 hC hF => ?_
        clear hF
        have HMs : Hid (MixJobs W0 W2 S (.slice A6 n c6) (progL (evictK m) L (k + 1))) := hide (by rw [progL_same (evictK m) L k hkL (by unfold evictK; rw [if_neg (by rw [HXe.out, HNo.out]; simp)])]; exact HM.out.later hC)
        have HKs : Hid (OwnKeys W0 W2 (.slice A7 ks.length c7) (keysL (L.take (k + 1)) (evK m))) := hide (by rw [HTk.out, HXe.out, HNo.out]; simpa using HK.out.later hC)
        go_wp2
        go_roundw
        case rel => exact ⟨k + 1, by omega, by go_num, HMs, HKs⟩
        case measure => simp [intOf]; omega
      · obtain ⟨kl, hkl⟩ : ∃ kl : Nat, x.1.live = (kl : Int) := ⟨x.1.live.toNat, by omega⟩
        rw [hkl] at c36 hl2
        have hkt : kl < x.2.2.length := by rw [← hln]; omega
        obtain ⟨gt, ot, hAp, hgt, _, d2⟩ := HPx.at_ hkt
        have HTx := HPx.tx (List.getElem_mem hkt)
        have hbl := hmod.2 _ (List.getElem_mem hkt)
        have HIk : Hid ((idsOf (plainT x.2.2))[kl]? = some (shaOf x.2.2[kl].2.2)) := hide (by simp [idsOf, plainT, hkt])
        generalize (x.2.2[kl]'hkt) = tk at *
        obtain ⟨fee, tu, bs⟩ := tk
        obtain ⟨At, ct, et, rt, _⟩ := id HTx
        dsimp only at d2 HTx hbl HIk et rt
        subst et hAp
        obtain ⟨q, hq⟩ : ∃ q, q = shaOf bs := ⟨_, rfl⟩
        have hql : q.length = 32 := by rw [hq]; exact shaOf_len _
        obtain ⟨RQ, hRQ⟩ := idVal q hql
        have HID : Hid (∀ W, Below wz.heap.size wz W → Calls Try.prog 49 #[.slice At bs.length ct] W fun e w' => e = .returned (.agg RQ) ∧ Below W.heap.size W w') := hide fun W hW => by
          rw [hRQ.val, hq]; exact refid_any _ bs W S (HTx.keep (below_next hBz hW).size fun i hi _ => (below_next hBz hW).block i hi) hbl
        have FX : Hid (∀ W, Below wz.heap.size wz W → W.cell? ⟨ga, oa + k * 38 + 36, none⟩ = some (.int .i64 (kl : Int)) ∧ W.cell? ⟨ga, oa + k * 38 + 37, none⟩ = some (.slice (some ⟨gt, ot, none⟩) ln cp) ∧ W.cell? ⟨gt, ot + kl * 2 + 1, none⟩ = some (.slice At bs.length ct)) := hide fun W hW =>
          ⟨((below_next hBz hW).cell (p := ⟨ga, oa + k * 38 + 36, none⟩) hga).trans c36, ((below_next hBz hW).cell (p := ⟨ga, oa + k * 38 + 37, none⟩) hga).trans c37, ((below_next hBz hW).cell (p := ⟨gt, ot + kl * 2 + 1, none⟩) hgt).trans d2⟩
        have heq : ∀ W : World, (Op.equalIn 10000 70 (.agg RQ) (.agg R)).run Try.prog W = .ok (decide (q = m)) W := fun W => by
          rw [hRQ.val, HR.out.val]; exact eq_id q m hql HMl.out W
        have HEv : Hid (evK m x = decide (q = m)) := hide (by
          unfold evK
          rw [hkl, show ((kl : Int)).toNat = kl by simp, HIk.out, ← hq]
          exact decide_eq_decide.2 ⟨fun e => by injection e.2, fun e => ⟨by omega, by rw [e]⟩⟩)
        have hkl0 : (0 : Int) ≤ (kl : Int) := by omega
        have hkll : kl < ln := by omega
        have FK : Hid (∀ W, Below wz.heap.size wz W → W.cell? ⟨ga, oa + k * 38, none⟩ = some (c32 x.1.ses) ∧ W.cell? ⟨ga, oa + k * 38 + 1, none⟩ = some (c32 x.1.seq)) := hide fun W hW =>
          ⟨((below_next hBz hW).cell (p := ⟨ga, oa + k * 38, none⟩) hga).trans c0, ((below_next hBz hW).cell (p := ⟨ga, oa + k * 38 + 1, none⟩) hga).trans c1⟩
        have HGa := hide hga
        clear c0 c1 c36 c37 d2 hgt hga hBz hxr HPx hmod hl1 hneg hln e37 HTx hbl rt hRQ hq hql hkl hkt
        by_cases he : q = m
        · rw [decide_eq_true he] at heq
          have HYes : Hid (evK m x = true) := hide (by rw [HEv.out]; exact decide_eq_true he)
          clear he HEv
          go_wp2
          apply wp_region_rel (C := fun W' => Below wz.heap.size wz W') (M := fun W W' => Below W.heap.size W W') (ss := [_, _, _, _, _, _, _, _, _, _, _, _, _, _, _, _, _, _, _, _, _, _, _, _, _]) (by kernel_rfl) (by kernel_rfl) (by kernel_rfl) (Below.refl _ _).drew
          iterate 21 (first
            | (apply relWalk_const (fun W => Below.refl _ _)
               · (intro W9 hC hF
                  clear hF
                  obtain ⟨x1, x2, x3⟩ := FX.out W9 hC
                  clear hC
                  go_simp
                  with_reducible exact rfl)
               (try simp only [Act.put, List.setIfInBounds_toArray, List.set_cons_zero, List.set_cons_succ])))
          apply relWalk_constW (c := .agg RQ)
          · go_simp
          · intro W9 hC hF
            clear hF
            refine gives_call rfl [.slice At bs.length ct] rfl (enters_of Try.func49 (by kernel_rfl) rfl) ?_
            refine (HID.out W9 hC).mono ?_
            rintro e w' ⟨rfl, hb⟩
            exact ⟨_, rfl, rfl, below_next hC hb, hb⟩
          (try simp only [Act.put, List.setIfInBounds_toArray, List.set_cons_zero, List.set_cons_succ])
          apply relWalk_const (c := .agg R) (fun W => Below.refl _ _)
          · intro W9 hC hF
            clear hF
            rw [if_pos (by go_simp)]
            exact gives_load_row 70 _ rfl w.heap.size rfl 70 R (0, 0) _ (FR.out W9 hC) Try.underlying70 rfl HIR.out ⟨rfl, rfl⟩
          (try simp only [Act.put, List.setIfInBounds_toArray, List.set_cons_zero, List.set_cons_succ])
          iterate 2 (first
            | (apply relWalk_const (fun W => Below.refl _ _)
               · (intro W9 hC hF
                  clear hF
                  skip
                  clear hC
                  go_simp
                  with_reducible exact rfl)
               (try simp only [Act.put, List.setIfInBounds_toArray, List.set_cons_zero, List.set_cons_succ])))
          refine relWalk_nil fun W2 hC hF => ?_
          clear hF
          have HM2 := hide (HM.out.later hC)
          have HK2 := hide (HK.out.later hC)
          obtain ⟨d0, d1⟩ := FK.out W2 hC
          obtain ⟨g9, c9, cur, hv9, hbk, hg9, hnc, hcur⟩ := own_blk HM2.out.own (by rw [progL_len]; omega)
          injection hv9 with e1 e2 e3
          subst e1 e3
          have hxp := progL_get (evictK m) L k hkL
          have hkp : k < (progL (evictK m) L k).length := by rw [progL_len]; exact hkL
          have hxg : (progL (evictK m) L k)[k] = x := (List.getElem?_eq_some_iff.1 hxp).2.trans HXe.out
          obtain ⟨_, _, _, _, y36, _⟩ := job_get hx32 x.2.1
          have z36 : W2.cell? ⟨g9, k * 38 + 36, none⟩ = some (ci x.1.live) := (hbk.cell _).trans (hcur _ _ (jobsC_get _ HM2.out.len k hkp 36 _ (by rw [hxg]; exact y36)))
          have f36 : W2.frozen? ⟨g9, k * 38 + 36, none⟩ = false := hbk.frozen _
          obtain ⟨W5, hW5⟩ : ∃ W', W2.setCell ⟨g9, k * 38 + 36, none⟩ (ci (-1)) = W' := ⟨_, rfl⟩
          have HM5 : Hid (MixJobs W0 W5 S (.slice (some ⟨g9, 0, none⟩) n c6) (progL (evictK m) L (k + 1))) := hide (by
            have := HM2.out.set_ (g := g9) rfl (i := k) (off := 36) hkp (u := ci (-1)) (j' := { x.1 with live := -1 }) hx32 (by omega) (by rw [hxg]; exact jobCells_live x.1 hx32 _ (-1)) hg9
            rw [hxg] at this
            rw [← hW5, ← progL_set (evictK m) L k hkL, HXe.out]
            unfold evictK
            rw [if_pos HYes.out]; exact this)
          have HK5 : Hid (OwnKeys W0 W5 (.slice A7 ks.length c7) ks) := hide (by
            rw [← hW5]
            exact ⟨own_block HK2.out.own fun r hr => Below.heap_setCell _ _ _ _ (fun e => own_blk_ne HK2.out.own hbk (by decide) (by rw [hr, e])), HK2.out.below.setCell (p := ⟨g9, k * 38 + 36, none⟩) hg9 _⟩)
          have HD5 : Hid (W5.cell? ⟨ga, oa + k * 38, none⟩ = some (c32 x.1.ses) ∧ W5.cell? ⟨ga, oa + k * 38 + 1, none⟩ = some (c32 x.1.seq)) := hide (by
            have hne : g9 ≠ ga := fun e => by have := HGa.out; omega
            rw [← hW5]
            exact ⟨(World.cell?_setCell_other W2 ⟨g9, k * 38 + 36, none⟩ ⟨ga, oa + k * 38, none⟩ _ (fun e => hne (congrArg Addr.block e))).trans d0, (World.cell?_setCell_other W2 ⟨g9, k * 38 + 36, none⟩ ⟨ga, oa + k * 38 + 1, none⟩ _ (fun e => hne (congrArg Addr.block e))).trans d1⟩)
          have HPl2 : Hid (keysL (L.take (k + 1)) (evK m) = ks ++ [(x.1.ses, x.1.seq)]) := hide (by rw [HTk.out, HXe.out, HYes.out]; rfl)
          have HW5 := hide hW5
          generalize x.1.live = lv at z36
          clear hbk hg9 hnc hcur hxp hkp hxg y36 hW5 HM HK HM2 HK2 e2 d0 d1 hC FX FK FR HID
          go_upto_region 8 with (fail)
          rw [HW5.out]
          clear z36 f36 HW5
          obtain ⟨d0, d1⟩ := HD5.out
          go_wp2_with (first
            | ((with_reducible show wpList _ _ _ (⟨_, .buildSlice _ _ _, _, _, _, _⟩ :: _) _ _); refine wpList_build_key rfl _ rfl (c32 x.1.ses) (c32 x.1.seq) rfl ?_)
            | (at_builtin; refine wpList_append_key rfl (.tmp 47) (.tmp 53) rfl W0 _ ks rfl (HK5.out.later ((Below.refl _ _).alloc (Nat.le_refl _) _)) W5.heap.size (x.1.ses, x.1.seq) rfl (Blk.new W5 _ _) (by have := HIl.out; omega) ?_; intro v4 w4 O4' hg4; rw [← HPl2.out] at O4'; have O4 := hide O4'; have HM6 := hide ((HM5.out.later ((Below.refl _ _).alloc (Nat.le_refl _) _)).keyless (HK5.out.later ((Below.refl _ _).alloc (Nat.le_refl _) _)).own (Nat.le_refl _) hg4); clear O4' hg4)
            | fail)
          go_roundw
          case rel => exact ⟨k + 1, by omega, by go_num, HM6, O4⟩
          case measure => simp [intOf]; omega
        · rw [decide_eq_false he] at heq
          have HNo : Hid (evK m x = false) := hide (by rw [HEv.out]; exact decide_eq_false he)
          clear he HEv
          go_wp2
          apply wp_region_rel (C := fun W' => Below wz.heap.size wz W') (M := fun W W' => Below W.heap.size W W') (ss := [_, _, _, _, _, _, _, _, _, _, _, _, _, _, _, _, _, _, _, _, _, _, _, _, _]) (by kernel_rfl) (by kernel_rfl) (by kernel_rfl) (Below.refl _ _).drew
          iterate 21 (first
            | (apply relWalk_const (fun W => Below.refl _ _)
               · (intro W9 hC hF
                  clear hF
                  obtain ⟨x1, x2, x3⟩ := FX.out W9 hC
                  clear hC
                  go_simp
                  with_reducible exact rfl)
               (try simp only [Act.put, List.setIfInBounds_toArray, List.set_cons_zero, List.set_cons_succ])))
          apply relWalk_constW (c := .agg RQ)
          · go_simp
          · intro W9 hC hF
            clear hF
            refine gives_call rfl [.slice At bs.length ct] rfl (enters_of Try.func49 (by kernel_rfl) rfl) ?_
            refine (HID.out W9 hC).mono ?_
            rintro e w' ⟨rfl, hb⟩
            exact ⟨_, rfl, rfl, below_next hC hb, hb⟩
          (try simp only [Act.put, List.setIfInBounds_toArray, List.set_cons_zero, List.set_cons_succ])
          apply relWalk_const (c := .agg R) (fun W => Below.refl _ _)
          · intro W9 hC hF
            clear hF
            rw [if_pos (by go_simp)]
            exact gives_load_row 70 _ rfl w.heap.size rfl 70 R (0, 0) _ (FR.out W9 hC) Try.underlying70 rfl HIR.out ⟨rfl, rfl⟩
          (try simp only [Act.put, List.setIfInBounds_toArray, List.set_cons_zero, List.set_cons_succ])
          iterate 2 (first
            | (apply relWalk_const (fun W => Below.refl _ _)
               · (intro W9 hC hF
                  clear hF
                  skip
                  clear hC
                  go_simp
                  with_reducible exact rfl)
               (try simp only [Act.put, List.setIfInBounds_toArray, List.set_cons_zero, List.set_cons_succ])))
          refine relWalk_nil fun W2 hC hF => ?_
          clear hF
          have HMs : Hid (MixJobs W0 W2 S (.slice A6 n c6) (progL (evictK m) L (k + 1))) := hide (by rw [progL_same (evictK m) L k hkL (by unfold evictK; rw [if_neg (by rw [HXe.out, HNo.out]; simp)])]; exact HM.out.later hC)
          have HKs : Hid (OwnKeys W0 W2 (.slice A7 ks.length c7) (keysL (L.take (k + 1)) (evK m))) := hide (by rw [HTk.out, HXe.out, HNo.out]; simpa using HK.out.later hC)
          go_wp2
          go_roundw
          case rel => exact ⟨k + 1, by omega, by go_num, HMs, HKs⟩
          case measure => simp [intOf]; omega
    · obtain rfl : k = n := by omega
      have hd1 : decide ((k : Int) < (k : Int)) = false := by simp
      have HF : Hid (progL (evictK m) L k = L.map (evictK m)) := hide (by rw [HN.out]; exact progL_all _ _)
      have HG : Hid (keysL (L.take k) (evK m) = keysL L (evK m)) := hide (by rw [HN.out, List.take_length])
      rw [HF.out] at HM
      rw [HG.out] at HK
      have HM9 := hide (HM.out.less HB0.out fun y hy => by
        obtain ⟨z, hz, rfl⟩ := List.mem_map.1 hy
        unfold evictK
        split
        · exact HP0.out.pay z hz
        · exact HP0.out.pay z hz)
      have HK9 := hide (HK.out.less HB0.out)
      clear HM HK HF HG
      go_wp2
      go_ret2
      exact ⟨_, _, rfl, HM9.out, HK9.out⟩
end Go.Proofs.Ytccpkafmbmkmfaa
namespace Go.Proofs.Ytccpkafmbmkmfaa
open Go.RowKit Go.Shelf
set_option linter.unusedVariables false
set_option linter.unusedSimpArgs false

set_option maxRecDepth 100000 in
theorem drop1_any (x key : KeyT) (w : World) (bx : Nat) (h : Blk w bx 68 #[c32 key.1, c32 key.2]) :
    Calls Try.prog 96 #[.agg #[c32 x.1, c32 x.2], .pointer (some ⟨bx, 0, none⟩)] w fun e w' => e = .returned (.bool (decide (x = key))) ∧ Below w.heap.size w w' := by
  obtain ⟨W0, hW0⟩ : ∃ W0, W0 = w.alloc (.cells #[c32 x.1, c32 x.2] 68) := ⟨_, rfl⟩
  have hb0 : Below w.heap.size w W0 := by rw [hW0]; exact (Below.refl _ _).alloc (Nat.le_refl _) _
  have hq : Blk W0 w.heap.size 68 #[c32 x.1, c32 x.2] := by rw [hW0]; exact Blk.new w _ _
  have hk := h.below hb0 h.lt
  have q0 : W0.cell? ⟨w.heap.size, 0, none⟩ = some (c32 x.1) := (hq.cell 0).trans rfl
  have q1 : W0.cell? ⟨w.heap.size, 1, none⟩ = some (c32 x.2) := (hq.cell 1).trans rfl
  have k0 : W0.cell? ⟨bx, 0, none⟩ = some (c32 key.1) := (hk.cell 0).trans rfl
  have k1 : W0.cell? ⟨bx, 1, none⟩ = some (c32 key.2) := (hk.cell 1).trans rfl
  have heq := fun W => eq_key x key W
  have HB := hide hb0
  generalize decide (x = key) = bb at *
  clear h hb0 hq hk
  go_enter Try.func96, Try.ntmps96
  go_upto_region 1 with (fail)
  rw [← hW0]
  clear hW0
  go_wp2
  go_ret
  exact ⟨rfl, HB.out⟩
theorem run_build_keys0 (w : World) : (Instr.buildSlice 92 0 #[]).run Try.prog w = .ok (.slice (some ⟨w.heap.size, 0, none⟩) 0 0) (w.alloc (.cells #[] 68)) := by
  obtain ⟨i, hi, hz0, hz1, hz2⟩ := info_parts info_jkey
  simp [Instr.buildSlice, run_underlying Try.underlying92, sizeOf, typeInfo, hi, hz1, Instr.fill, newRow]
  rw [show Array.map (fun x : Nat => (default : Value)) (Array.range 0) = #[] from Array.eq_empty_of_size_eq_zero (by simp)]
set_option maxRecDepth 100000 in
set_option maxHeartbeats 800000 in
theorem clonekeys_any (v : Value) (L : List KeyT) (w : World) (base : Nat) (h : w.ownsRow base 68 2 v L.length (keyC L)) (hl : L.length ≤ 1048576) :
    Calls Try.prog 95 #[v] w fun e w' => ∃ u, e = .returned u ∧ OwnKeys w w' u L := by
  rcases h.2 with ⟨rfl, h0⟩ | ⟨g, cap, cur, rfl, hb, hg, hc, _, _, htk⟩
  · have hL : L = [] := List.eq_nil_of_length_eq_zero h0
    subst hL
    clear h h0
    have hnil : ∀ W, (binOp .eql 92 (.slice none 0 0) (.slice none 0 0)).run Try.prog W = .ok (.bool true) W := fun W => Lib.run_eql_slice_nil_nil W _ _ Try.underlying92
    go_enter Try.func95, Try.ntmps95
    go_wp2
    go_ret
    exact ⟨_, rfl, OwnKeys.none_ (Below.refl _ _)⟩
  · have HRd := hide (Reads.of_own h)
    obtain ⟨n, hn⟩ : ∃ n, n = L.length := ⟨_, rfl⟩
    have HN := hide hn
    obtain ⟨i, hi, hz0, hz1, hz2⟩ := info_parts info_jkey
    have hb0 := run_build_keys0
    have hnil : ∀ W l c, (binOp .eql 92 (.slice (some ⟨g, 0, none⟩) l c) (.slice none 0 0)).run Try.prog W = .ok (.bool false) W := fun W _ _ => Lib.run_eql_slice_some_nil W _ _ _ Try.underlying92
    rw [← hn] at HRd hl ⊢
    clear h hn htk hc hg hb
    go_enter Try.func95, Try.ntmps95
    go_wp2_with (first
      | (at_builtin; refine wpList_append_any _ rfl (.tmp 5) (.tmp 6) 92 rfl w.heap.size 68 i _ 2 8 Try.underlying92 hi hz0 hz1 hz2 rfl (by omega) (.slice (some ⟨w.heap.size, 0, none⟩) 0 0) 0 [] rfl ⟨rfl, .inr ⟨w.heap.size, 0, #[], rfl, Nat.le_refl _, heap_alloc_new w _, Nat.le_refl _, by decide, by simp, rfl⟩⟩ w.heap.size (some ⟨g, 0, none⟩) n cap (keyC L) rfl (HRd.out.alloc (Nat.le_refl _) _) (by intro u hu; obtain ⟨z, _, hz⟩ := List.mem_flatMap.1 hu; simp at hz; rcases hz with rfl | rfl <;> rfl) (by simp only [maxLen]; omega) (by omega) (by simp) ?_;
          intro v1 w1 hown1 hg1 _; rw [Nat.zero_add, List.nil_append, HN.out] at hown1; have HO := hide (show OwnKeys w w1 v1 L from ⟨hown1, ((Below.refl _ w).alloc (Nat.le_refl _) _).grown hg1 (by simp) (by simp [Value.ownBlock])⟩); clear hown1 hg1)
      | fail)
    go_ret
    exact ⟨_, rfl, HO.out⟩
/-- what the function handed in tells -/
def TellsKey (w : World) (bx : Nat) (key : KeyT) : Prop := Blk w bx 68 #[c32 key.1, c32 key.2]
set_option maxRecDepth 100000 in
set_option maxHeartbeats 1600000 in
theorem idxfunc_any (A : Option Addr) (c : Nat) (L : List KeyT) (key : KeyT) (w : World) (base bx : Nat) (h : w.ownsRow base 68 2 (.slice A L.length c) L.length (keyC L)) (hl : L.length ≤ 1048576) (hb : Blk w bx 68 #[c32 key.1, c32 key.2]) :
    Calls Try.prog 118 #[.slice A L.length c, .func (.func 96) #[] #[.pointer (some ⟨bx, 0, none⟩)]] w fun e w' => e = .returned (.int .i64 (findZ L key)) ∧ Below w.heap.size w w' := by
  have HO := hide h
  have HBx := hide hb
  obtain ⟨n, hn⟩ : ∃ n, n = L.length := ⟨_, rfl⟩
  have HN := hide hn
  rw [← hn] at HO hl ⊢
  have hen : ∀ args W, (callFunc 96 args).run Try.prog W = .ok (.enter 96 args) W := enters_of Try.func96 (by kernel_rfl) rfl
  clear h hb hn
  go_enter Try.func118, Try.ntmps118
  go_wp2
  go_loopw [8] (fun i wr => ∃ (k : Nat), k ≤ n ∧ i = .int .i64 (k : Int) ∧ Hid (Below w.heap.size w wr) ∧ Hid (key ∉ L.take k)) (fun i _ => n - (intOf i).toNat)
  case atStart => exact ⟨0, Nat.zero_le _, rfl, hide (Below.refl _ _), hide (by simp)⟩
  case round =>
    obtain ⟨wz, rfl⟩ : ∃ wz : World, wz = wr := ⟨_, rfl⟩
    obtain ⟨k, hk, rfl, HB, HX⟩ := hrel
    by_cases hlt : k < n
    · have hd1 : decide ((k : Int) < (n : Int)) = true := by simpa using hlt
      have hkL : k < L.length := by rw [← HN.out]; exact hlt
      have hOz := own_block HO.out fun r hr => HB.out.block r (own_lt HO.out hr).2
      obtain ⟨ga, rfl, hga, d0, d1⟩ := keys_at hOz HN.out hkL
      have HTk := hide (take_snoc L k hkL)
      have HGk : Hid (L[k]? = some L[k]) := hide (List.getElem?_eq_getElem hkL)
      generalize (L[k]'hkL) = x at *
      have HC := hide (drop1_any x key wz bx (HBx.out.below HB.out HBx.out.lt))
      have hk0 : (0 : Int) ≤ (k : Int) := by omega
      clear hOz hga
      by_cases he : x = key
      · rw [decide_eq_true he] at HC
        have HZ : Hid (findZ L key = (k : Int)) := hide (findZ_some (by rw [HGk.out, he]) HX.out)
        clear he
        go_wp2_with (first
          | ((with_reducible refine HC.out.mono ?_); rintro e w1 ⟨rfl, hb1⟩; have HB1 := hide (below_next HB.out hb1); clear hb1)
          | fail)
        go_ret
        exact ⟨by rw [HZ.out]; rfl, HB1.out⟩
      · rw [decide_eq_false he] at HC
        have HNo : Hid (key ∉ L.take (k + 1)) := hide (by rw [HTk.out]; simp only [List.mem_append, List.mem_singleton, not_or]; exact ⟨HX.out, fun e => he e.symm⟩)
        clear he
        go_wp2_with (first
          | ((with_reducible refine HC.out.mono ?_); rintro e w1 ⟨rfl, hb1⟩; have HB1 := hide (below_next HB.out hb1); clear hb1)
          | fail)
        go_roundw
        case rel => exact ⟨k + 1, by omega, by go_num, HB1, HNo⟩
        case measure => simp [intOf]; omega
    · obtain rfl : k = n := by omega
      have hd1 : decide ((k : Int) < (k : Int)) = false := by simp
      have HZ : Hid (findZ L key = -1) := hide (findZ_none (by have := HX.out; rwa [HN.out, List.take_length] at this))
      go_wp2
      go_ret
      exact ⟨by rw [HZ.out]; rfl, HB.out⟩
end Go.Proofs.Ytccpkafmbmkmfaa
namespace Go.Proofs.Ytccpkafmbmkmfaa
open Go.RowKit Go.Shelf
set_option linter.unusedVariables false
set_option linter.unusedSimpArgs false

theorem keyC_set : ∀ (X : List KeyT) (k : Nat) (q : KeyT), k < X.length → ((keyC X).set (k * 2) (c32 q.1)).set (k * 2 + 1) (c32 q.2) = keyC (X.set k q)
  | [], k, q, h => by simp at h
  | x :: X, 0, q, _ => by simp [keyC]
  | x :: X, k + 1, q, h => by
    have := keyC_set X k q (by simpa using h)
    simp only [keyC, List.flatMap_cons, List.cons_append, List.nil_append, List.set_cons_succ, show (k + 1) * 2 = k * 2 + 1 + 1 by omega] at this ⊢
    rw [this]
theorem keyC_take (X : List KeyT) (i : Nat) : (keyC X).take (i * 2) = keyC (X.take i) := by
  induction X generalizing i with
  | nil => simp [keyC]
  | cons x X ih =>
    cases i with
    | zero => simp [keyC]
    | succ i =>
      have := ih i
      simp only [keyC, List.flatMap_cons, List.cons_append, List.nil_append, List.take_succ_cons, show (i + 1) * 2 = i * 2 + 1 + 1 by omega] at this ⊢
      rw [this]
theorem wpList_store_key {ops : Array Oper} {rest : List Oper} {o : Oper} {a : Act} {w : World} {Q : Exit → Act → World → Prop} (hgd : o.guard = none) (p x : Operand) (ho : o.op = .store 68 p x)
    (base g n k : Nat) (v : Value) (X : List KeyT) (q : KeyT) (hown : w.ownsRow base 68 2 v n (keyC X)) (hv : v.ownBlock = some g) (hk : k < n) (hn : X.length = n) (hp : a.eval p = .pointer (some ⟨g, k * 2, none⟩)) (hx : a.eval x = .agg #[c32 q.1, c32 q.2])
    (hK : ∀ W, W.ownsRow base 68 2 v n (keyC (X.set k q)) → Touch (fun i => i = g) w W → wpList Try.prog ops Q rest (a.put o.dst undef) W) : wpList Try.prog ops Q (o :: rest) a w := by
  rcases hown.2 with ⟨_, h0⟩ | ⟨g', cap, cur, rfl, hb, hg, hc, hm, hcs, htk⟩
  · omega
  have : g' = g := by simpa [Value.ownBlock] using hv
  subst this
  refine wpList_store_at hgd 68 p x ho g' (k * 2) hp [c32 q.1, c32 q.2] hx 68 cur hg (by kernel_rfl) (by simp; omega) (by simp [Value.oneCell', c32]) ?_
  refine hK _ ⟨by rw [keyC_len, List.length_set, hn], .inr ⟨g', cap, _, rfl, hb, setRow_heap w g' cur _ _ _ hg, hc, hm, ?_, ?_⟩⟩ ⟨rfl, rfl, rfl, by simp, fun i _ hi => setRow_other _ _ _ _ hi⟩
  · have : (k * 2 + 2) ≤ cur.size := by omega
    simp [splice]; omega
  · rw [← splice_cons _ _ _ _ (by simp; omega), ← splice_cons _ _ _ _ (by simp; omega), splice_nil, ← keyC_set X k q (by omega), ← htk]
    simp [List.take_set]
theorem zero_key (w : World) : (zeroValue 68).run Try.prog w = .ok (.agg #[.int .u32 0, .int .u32 0]) w := by
  have h : (Try.prog.info? 68).map (fun i => i.zero) = some (some (.agg #[.int .u32 0, .int .u32 0])) := by kernel_rfl
  cases hq : Try.prog.info? 68 with
  | none => simp [hq] at h
  | some i =>
    have hz : i.zero = some (.agg #[.int .u32 0, .int .u32 0]) := by simpa [hq] using h
    simp [zeroValue, typeInfo, hq, hz]
theorem wpList_clear_keys {ops : Array Oper} {rest : List Oper} {o : Oper} {a : Act} {w : World} {Q : Exit → Act → World → Prop} (hgd : o.guard = none) (x : Operand)
    (ho : o.op = .call { callee := .builtin .clear, args := #[x], argTypes := #[92] })
    (base g n i m c : Nat) (A0 : Option Addr) (c0 : Nat) (X : List KeyT) (hown : w.ownsRow base 68 2 (.slice A0 n c0) n (keyC X)) (hv : (Value.slice A0 n c0).ownBlock = some g) (hm : 0 < m) (hk : i + m = n) (hx : a.eval x = .slice (some ⟨g, i * 2, none⟩) m c)
    (hK : ∀ W, W.ownsRow base 68 2 (.slice A0 i c0) i (keyC (X.take i)) → Touch (fun i => i = g) w W → wpList Try.prog ops Q rest (a.put o.dst (.tuple #[])) W) : wpList Try.prog ops Q (o :: rest) a w := by
  have hXl : X.length = n := by have := hown.1; rw [keyC_len] at this; omega
  rcases hown.2 with ⟨_, h0⟩ | ⟨g', cap, cur, hvv, hb, hg, hc, hmx, hcs, htk⟩
  · omega
  injection hvv with h1 h2 h3
  subst h1 h3
  have : g' = g := by simpa [Value.ownBlock] using hv
  subst this
  obtain ⟨m', rfl⟩ : ∃ m', m = m' + 1 := ⟨m - 1, by omega⟩
  have hzl : (Builtin.zeroCells #[.int .u32 0, .int .u32 0] (m' + 1)).toList.length = (m' + 1) * 2 := by simp [Builtin.zeroCells]
  have hst := run_storeCells_at (P := Try.prog) g' (i * 2) 68 (Builtin.zeroCells #[.int .u32 0, .int .u32 0] (m' + 1)).toList 0 cur w hg (by omega) (by
    intro u hu
    simp only [Builtin.zeroCells, Array.toList_map, List.mem_map] at hu
    obtain ⟨j, _, rfl⟩ := hu
    have : j % 2 = 0 ∨ j % 2 = 1 := by omega
    rcases this with h | h <;> simp [h, Value.oneCell', c32])
  have hrun : (Builtin.clear_ #[92] o.type #[.slice (some ⟨g', i * 2, none⟩) (m' + 1) c]).run Try.prog w = .ok (.tuple #[]) (w.setRow g' (splice cur.toList (i * 2 + 0) (Builtin.zeroCells #[.int .u32 0, .int .u32 0] (m' + 1)).toList).toArray) := by
    simp [Builtin.clear_, run_underlying Try.underlying92, zero_key, Value.cells, hst]
  refine wpList_plain hgd fun _ hk2 => ?_
  unfold Oper.wp execOp
  simp only [ho, resolve, invoke, builtin, Sem.run_bind, Sem.run_pure, Result.andThen_ok, List.map_toArray, List.map_cons, List.map_nil, hx, hrun]
  refine hk2 _ _ (hK _ ⟨by rw [keyC_len, List.length_take]; omega, .inr ⟨g', _, _, rfl, hb, setRow_heap w g' cur _ _ _ hg, by omega, hmx, ?_, ?_⟩⟩ ⟨rfl, rfl, rfl, by simp, fun i _ hi => setRow_other _ _ _ _ hi⟩)
  · simp only [splice, List.size_toArray, List.length_append, List.length_take, List.length_drop, Array.length_toList, hzl]; omega
  · rw [← keyC_take, ← htk]
    simp only [splice, Nat.add_zero]
    rw [List.take_append_of_le_length (by rw [List.length_take, Array.length_toList]; omega), List.take_take, List.take_take, show min (i * 2) (i * 2) = min (i * 2) (n * 2) by omega]
/-- deleting, step by step -/
theorem del_keep {L X : List KeyT} {key : KeyT} {i j : Nat} (hij : i < j) (hj : j < L.length) (hX : X.length = L.length) (h1 : X.take i = (L.take j).filter (fun x => decide (x ≠ key))) (h2 : X.drop j = L.drop j) (hne : L[j] ≠ key) :
    (X.set i L[j]).take (i + 1) = (L.take (j + 1)).filter (fun x => decide (x ≠ key)) ∧ (X.set i L[j]).drop (j + 1) = L.drop (j + 1) := by
  constructor
  · rw [List.take_succ_eq_append_getElem (by simp; omega), List.take_succ_eq_append_getElem hj, List.filter_append, ← h1, List.take_set_of_le (Nat.le_refl _)]
    simp [hne]
  · rw [List.drop_set_of_lt (by omega), ← List.drop_drop, h2, List.drop_drop]
theorem del_skip {L X : List KeyT} {key : KeyT} {i j : Nat} (hj : j < L.length) (h1 : X.take i = (L.take j).filter (fun x => decide (x ≠ key))) (h2 : X.drop j = L.drop j) (he : L[j] = key) :
    X.take i = (L.take (j + 1)).filter (fun x => decide (x ≠ key)) ∧ X.drop (j + 1) = L.drop (j + 1) := by
  constructor
  · rw [List.take_succ_eq_append_getElem hj, List.filter_append, ← h1]
    simp [he]
  · rw [← List.drop_drop, h2, List.drop_drop]
theorem del_at {L X : List KeyT} {j : Nat} (hj : j < L.length) (h2 : X.drop j = L.drop j) (hX : X.length = L.length) : ∃ h : j < X.length, X[j] = L[j] := by
  refine ⟨by omega, ?_⟩
  have := congrArg (fun l => l[0]?) h2
  simpa [hj, hX] using this
set_option maxRecDepth 100000 in
set_option maxHeartbeats 3200000 in
theorem delfunc_any (L : List KeyT) (key : KeyT) (g c : Nat) (w : World) (base bx : Nat) (h : w.ownsRow base 68 2 (.slice (some ⟨g, 0, none⟩) L.length c) L.length (keyC L)) (hl : L.length ≤ 1048576) (hb : Blk w bx 68 #[c32 key.1, c32 key.2]) (hne : bx ≠ g) (hmem : key ∈ L) :
    Calls Try.prog 94 #[.slice (some ⟨g, 0, none⟩) L.length c, .func (.func 96) #[] #[.pointer (some ⟨bx, 0, none⟩)]] w fun e w' => e = .returned (.slice (some ⟨g, 0, none⟩) (L.filter (fun x => decide (x ≠ key))).length c) ∧
      w'.ownsRow base 68 2 (.slice (some ⟨g, 0, none⟩) (L.filter (fun x => decide (x ≠ key))).length c) (L.filter (fun x => decide (x ≠ key))).length (keyC (L.filter (fun x => decide (x ≠ key)))) ∧ Touch (fun i => i = g) w w' := by
  have HI := hide (idxfunc_any (some ⟨g, 0, none⟩) c L key w base bx h hl hb)
  obtain ⟨k0, hkz, hk0, hat, hno⟩ : ∃ k0 : Nat, findZ L key = (k0 : Int) ∧ k0 < L.length ∧ L[k0]? = some key ∧ key ∉ L.take k0 := by
    rcases findZ_cases L key with ⟨h1, h2⟩ | ⟨k, h1, h2, h3⟩
    · exact absurd hmem h2
    · exact ⟨k, h1, (List.getElem?_eq_some_iff.1 h2).1, h2, h3⟩
  rw [hkz] at HI
  have HO := hide h
  have HBx := hide hb
  have hcap := own_cap h
  obtain ⟨n, hn⟩ : ∃ n, n = L.length := ⟨_, rfl⟩
  have HN := hide hn
  rw [← hn] at HO HI hl hk0 hcap ⊢
  have hen : ∀ args W, (callFunc 96 args).run Try.prog W = .ok (.enter 96 args) W := enters_of Try.func96 (by kernel_rfl) rfl
  have HS := hide (show L.take k0 = (L.take (k0 + 1)).filter (fun x => decide (x ≠ key)) by
    rw [List.take_add_one, hat, List.filter_append, List.filter_eq_self.2 (fun x hx => by simp; intro e; exact hno (e ▸ hx))]; simp)
  clear h hb hn hat hno hmem
  have hk1 : ((k0 : Int) == -1) = false := by
    simp
  go_enter Try.func94, Try.ntmps94
  go_wp2_with (first
    | (go_at_call 118; (with_reducible refine HI.out.mono ?_); rintro e w1 ⟨rfl, hb1⟩; have HB1 := hide hb1; clear hb1)
    | fail)
  go_loopw [5, 6] (fun u v wr => ∃ (i j : Nat) (X : List KeyT), i < j ∧ j ≤ n ∧ u = .int .i64 (i : Int) ∧ v = .int .i64 (j : Int) ∧ Hid (X.length = n ∧ X.take i = (L.take j).filter (fun x => decide (x ≠ key)) ∧ X.drop j = L.drop j) ∧
    Hid (wr.ownsRow base 68 2 (.slice (some ⟨g, 0, none⟩) n c) n (keyC X)) ∧ Hid (Touch (fun i => i = g) w wr)) (fun _ v _ => n - (intOf v).toNat)
  case atStart => exact ⟨k0, k0 + 1, L, by omega, by omega, rfl, by go_num, hide ⟨HN.out.symm, HS.out, rfl⟩, hide (own_block HO.out fun r hr => HB1.out.block r (own_lt HO.out hr).2), hide (Touch.of_below HB1.out)⟩
  case round =>
    obtain ⟨wz, rfl⟩ : ∃ wz : World, wz = wr := ⟨_, rfl⟩
    obtain ⟨i, j, X, hij, hj, rfl, rfl, HX, HOz, HTz⟩ := hrel
    by_cases hlt : j < n
    · have hd1 : decide ((j : Int) < (n : Int)) = true := by simpa using hlt
      have hjL : j < L.length := by rw [← HN.out]; exact hlt
      obtain ⟨hjX, hjx⟩ := del_at hjL HX.out.2.2 (HX.out.1.trans HN.out)
      obtain ⟨ga, hga0, hga, d0, d1⟩ := keys_at HOz.out HX.out.1.symm hjX
      obtain rfl : g = ga := by simpa using hga0
      rw [hjx] at d0 d1
      have HK := hide (fun hne => del_keep hij hjL (HX.out.1.trans HN.out) HX.out.2.1 HX.out.2.2 (key := key) hne)
      have HZ := hide (fun he => del_skip hjL HX.out.2.1 HX.out.2.2 (key := key) he)
      generalize (L[j]'hjL) = x at *
      obtain ⟨W1, hW1⟩ : ∃ W1, W1 = wz.alloc (.cells #[c32 x.1, c32 x.2] 68) := ⟨_, rfl⟩
      have hb1 : Below wz.heap.size wz W1 := by rw [hW1]; exact (Below.refl _ _).alloc (Nat.le_refl _) _
      have hq1 : Blk W1 wz.heap.size 68 #[c32 x.1, c32 x.2] := by rw [hW1]; exact Blk.new wz _ _
      have HBz := hide ((HBx.out.touch HTz.out hne).below hb1 (HBx.out.touch HTz.out hne).lt)
      have HC := hide (drop1_any x key W1 bx HBz.out)
      have HO1 := hide (own_block HOz.out fun r hr => hb1.block r (own_lt HOz.out hr).2)
      have HT1 := hide (HTz.out.then_below hb1)
      have HQ1 := hide hq1
      have hj0 : (0 : Int) ≤ (j : Int) := by omega
      have hi0 : (0 : Int) ≤ (i : Int) := by omega
      have hin : (i : Int) < (n : Int) := by omega
      have hil : i < n := by omega
      have HXl := hide HX.out.1
      clear hb1 hq1 hga hga0 hjx
      go_upto_region 8 with (fail)
      rw [← hW1]
      clear hW1 d0 d1
      have d0 : W1.cell? ⟨wz.heap.size, 0, none⟩ = some (c32 x.1) := (HQ1.out.cell 0).trans rfl
      have d1 : W1.cell? ⟨wz.heap.size, 1, none⟩ = some (c32 x.2) := (HQ1.out.cell 1).trans rfl
      by_cases he : x = key
      · rw [decide_eq_true he] at HC
        have HZ := hide (HZ.out he)
        clear he
        go_wp2_with (first
          | ((with_reducible refine HC.out.mono ?_); rintro e w2 ⟨rfl, hb2⟩; have HB2 := hide hb2; clear hb2)
          | fail)
        go_roundw
        case rel => exact ⟨i, j + 1, X, by omega, by omega, rfl, by go_num, hide ⟨HXl.out, HZ.out⟩, hide (own_block HO1.out fun r hr => HB2.out.block r (own_lt HO1.out hr).2), hide (HT1.out.then_below HB2.out)⟩
        case measure => simp [intOf]; omega
      · rw [decide_eq_false he] at HC
        have HK := hide (HK.out he)
        clear he
        go_wp2_with (first
          | ((with_reducible refine HC.out.mono ?_); rintro e w2 ⟨rfl, hb2⟩; have HB2 := hide hb2; have HO2 := hide (own_block HO1.out fun r hr => HB2.out.block r (own_lt HO1.out hr).2); have HT2 := hide (HT1.out.then_below HB2.out); have HQ2 := hide (HQ1.out.below HB2.out HQ1.out.lt); replace d0 := (HQ2.out.cell 0).trans (show _ = some (c32 x.1) from rfl); replace d1 := (HQ2.out.cell 1).trans (show _ = some (c32 x.2) from rfl); clear hb2)
          | ((with_reducible show wpList _ _ _ (⟨_, .store 68 _ _, _, _, _, _⟩ :: _) _ _); refine wpList_store_key rfl _ _ rfl base g n i (.slice (some ⟨g, 0, none⟩) n c) X x HO2.out rfl hil HXl.out rfl rfl ?_; intro W3 ho3 ht3; have HO3 := hide ho3; have HT3 := hide (HT2.out.trans ht3 (fun _ _ e => e)); clear ho3 ht3)
          | fail)
        go_roundw
        case rel => exact ⟨i + 1, j + 1, X.set i x, by omega, by omega, by go_num, by go_num, hide ⟨by rw [List.length_set]; exact HXl.out, HK.out⟩, HO3, HT3⟩
        case measure => simp [intOf]; omega
    · obtain rfl : j = n := by omega
      have hd1 : decide ((j : Int) < (j : Int)) = false := by simp
      have HY : Hid (X.take i = L.filter (fun x => decide (x ≠ key))) := hide (by have := HX.out.2.1; rwa [HN.out, List.take_length] at this)
      have HLn : Hid ((L.filter (fun x => decide (x ≠ key))).length = i) := hide (by rw [← HY.out, List.length_take, HX.out.1]; omega)
      have hi0 : (0 : Int) ≤ (i : Int) := by omega
      have hin : (i : Int) ≤ (j : Int) := by omega
      go_wp2_with (first
        | (refine wpList_clear_keys rfl _ rfl base g j i (j - i) (c - i) (some ⟨g, 0, none⟩) c X HOz.out rfl (by omega) (by omega) rfl ?_; intro W3 ho3 ht3; have HO3 := hide ho3; have HT3 := hide (HTz.out.trans ht3 (fun _ _ e => e)); clear ho3 ht3)
        | fail)
      go_ret
      rw [HLn.out]
      refine ⟨rfl, ?_, HT3.out⟩
      have := HO3.out
      rwa [HY.out] at this
end Go.Proofs.Ytccpkafmbmkmfaa
namespace Go.Proofs.Ytccpkafmbmkmfaa
open Go.RowKit Go.Shelf
set_option linter.unusedVariables false
set_option linter.unusedSimpArgs false
attribute [local go_sem] Gives givesUpon
attribute [local irreducible] Gives

theorem wpList_delete_job {α : Type} [DecidableEq α] {P : Program} {k t e : TypeId} {f : α → Value} {ok : α → Prop} (K : KeyFn P k f ok) (ht : P.underlying t = some (.map k e)) {ops : Array Oper} {rest : List Oper} {o : Oper} {a : Act} {w : World} {Q : Exit → Act → World → Prop} {b : Nat} {l : List (α × Value)}
    (hgd : o.guard = none) (m y : Operand) (ho : o.op = .call { callee := .builtin .delete, args := #[m, y], argTypes := #[t, k] }) (hm : a.eval m = .map (some b)) (key : α) (hy : a.eval y = f key) (hk : ok key) (h : MapIs w b f ok l)
    (hK : ∀ w', MapIs w' b f ok (mdel l key) → w.grownBy w' (some b) → wpList P ops Q rest (a.put o.dst (.tuple #[])) w') : wpList P ops Q (o :: rest) a w := by
  refine wpList_plain hgd fun K' hK' => ?_
  obtain ⟨w', hrun, h1, h2, _⟩ := h.delete K ht hk o.type
  unfold Oper.wp
  simp [execOp, ho, resolve, invoke, builtin, hm, hy, hrun, Result.andThen]
  exact hK' _ _ (hK w' h1 h2)
theorem mdel_ptrs (M : List (KeyT × EntryK)) (k : KeyT) : mdel (ptrs M) k = ptrs (mdel M k) := by
  induction M with
  | nil => rfl
  | cons p M ih =>
    simp only [mdel, ptrs, List.map_cons, List.filter_cons] at ih ⊢
    by_cases h : p.1 = k
    · simp only [h, decide_true, Bool.not_true]; exact ih
    · simp only [h, decide_false, Bool.not_false, if_true, List.map_cons]; rw [ih]
theorem mdel_fst (M : List (KeyT × EntryK)) (k : KeyT) : (mdel M k).map (·.1) = (M.map (·.1)).filter (fun x => decide (x ≠ k)) := by
  induction M with
  | nil => rfl
  | cons p M ih =>
    simp only [mdel, List.map_cons, List.filter_cons] at ih ⊢
    by_cases h : p.1 = k
    · simp only [h, decide_true, Bool.not_true, ne_eq, not_true, decide_false]; exact ih
    · simp only [h, decide_false, Bool.not_false, if_true, List.map_cons, ne_eq, not_false_eq_true, decide_true]; rw [ih]
structure DropMid (w w3 : World) (S F : Nat → Prop) (g b : Nat) (ov : Value) (M : List (KeyT × EntryK)) (k : KeyT) : Prop where
  head : Blk w3 g 99 #[.map (some b), ov]
  ord : w3.ownsRow 0 68 2 ov (M.map (·.1)).length (keyC (M.map (·.1)))
  map : MapIs w3 b kf (fun _ => True) (ptrs (mdel M k))
  old : ∀ p ∈ M, EntIs w3 F p
  touch : Touch S w w3
theorem DropMid.done {w w3 w4 w5 : World} {S F : Nat → Prop} {g b r : Nat} {ov u : Value} {M : List (KeyT × EntryK)} {k : KeyT} {n : Nat} (HW : TabIs w S F g b ov M) (hFb : ∀ i, F i → i < w.heap.size) (H : DropMid w w3 S F g b ov M k)
    (h4 : Below w3.heap.size w3 w4) (h5 : Touch (fun i => i = r) w4 w5) (hr : w3.heap.size ≤ r) (hub : u.ownBlock = some r) (hn : n = ((M.map (·.1)).filter (fun x => decide (x ≠ k))).length)
    (hu : w5.ownsRow w3.heap.size 68 2 u n (keyC ((M.map (·.1)).filter (fun x => decide (x ≠ k))))) :
    Touch S w (w5.setCell ⟨g, 1, none⟩ u) ∧ Tab (w5.setCell ⟨g, 1, none⟩ u) (fun i => S i ∨ w.heap.size ≤ i) g b (mdel M k) := by
  have hsz := h4.size
  have hsz5 := h5.size
  have hgw : g < w3.heap.size := H.head.lt
  have hww := H.touch.size
  have h35 : ∀ i, i < w3.heap.size → w5.heap[i]? = w3.heap[i]? := fun i hi => (h5.block i (by omega) (by omega)).trans (h4.block i hi)
  have hoth : ∀ i, i < w3.heap.size → i ≠ g → (w5.setCell ⟨g, 1, none⟩ u).heap[i]? = w3.heap[i]? := fun i h1 h2 => (Below.heap_setCell _ _ _ _ h2).trans (h35 i h1)
  have hgW : Blk w5 g 99 #[.map (some b), ov] := (h35 g hgw).trans H.head
  refine ⟨((H.touch.then_below h4).trans h5 (fun i hi e => by omega)).setCell (p := ⟨g, 1, none⟩) HW.sg.1 u, F, u, ?_⟩
  have hsW : w3.heap.size ≤ (w5.setCell ⟨g, 1, none⟩ u).heap.size := by simp; omega
  refine ⟨by have := hgW.set_ 1 u; simpa using this, ?_, H.map.block (hoth b H.map.lt (fun e => H.map.ne_blk H.head e)), ?_, ⟨.inl HW.sg.1, HW.sg.2⟩, ⟨.inl HW.sb.1, HW.sb.2⟩, ?_, ?_, fun i hi => .inl (HW.sf i hi), ?_⟩
  · rw [keyCells_eq, mdel_fst, show (mdel M k).length = n by rw [hn, ← mdel_fst, List.length_map]]
    exact own_less (own_block hu fun q hq => Below.heap_setCell _ _ _ _ (fun e => by rw [hub] at hq; injection hq with hq; dsimp only at e; omega)) (Nat.zero_le _)
  · intro p hp
    have hE := H.old p (mem_mdel.1 hp).1
    exact hE.keep hsW (hoth _ hE.blk.lt (hE.blk.ne_ H.head (by decide))) (fun i hi hf => hoth i hi (fun e => HW.sg.2 (e ▸ hf)))
  · intro q hq
    rw [hub] at hq
    injection hq with hq
    exact ⟨.inr (by omega), fun hf => by have := hFb q hf; omega⟩
  · exact fun p hp => ⟨.inl (HW.se p (mem_mdel.1 hp).1).1, (HW.se p (mem_mdel.1 hp).1).2⟩
  · exact fun p hp q hq => HW.apart p (mem_mdel.1 hp).1 q (mem_mdel.1 hq).1
theorem jdrop_none (w : World) (S : Nat → Prop) (g b : Nat) (M : List (KeyT × EntryK)) (k : KeyT) (h : Tab w S g b M) (hn : mget M k = none) :
    Calls Try.prog 55 #[.pointer (some ⟨g, 0, none⟩), kf k] w fun e w' => e = .returned (.bool false) ∧ Below w.heap.size w w' := by
  obtain ⟨W0, hW0⟩ : ∃ W0, W0 = w.alloc (.cells #[c32 k.1, c32 k.2] 68) := ⟨_, rfl⟩
  have hb0 : Below w.heap.size w W0 := by rw [hW0]; exact (Below.refl _ _).alloc (Nat.le_refl _) _
  have hq0 : Blk W0 w.heap.size 68 #[c32 k.1, c32 k.2] := by rw [hW0]; exact Blk.new w _ _
  have q0 : W0.cell? ⟨w.heap.size, 0, none⟩ = some (c32 k.1) := (hq0.cell 0).trans rfl
  have q1 : W0.cell? ⟨w.heap.size, 1, none⟩ = some (c32 k.2) := (hq0.cell 1).trans rfl
  have HA := hide (jat_live W0 S g b M k (h.below hb0))
  rw [hn] at HA
  have HB := hide hb0
  clear hq0 hb0 h hn
  unfold kf at HA ⊢
  go_enter Try.func55, Try.ntmps55
  go_upto_region 1 with (fail)
  rw [← hW0]
  clear hW0
  go_wp2_with (first
    | (go_at_call 86; (with_reducible refine HA.out.mono ?_); rintro e w1 ⟨rfl, hb1⟩; rw [ptrOf_none]; have HB1 := hide (below_next HB.out hb1); clear hb1)
    | fail)
  go_ret
  exact ⟨rfl, HB1.out⟩
set_option maxRecDepth 100000 in
set_option maxHeartbeats 1600000 in
theorem jdrop_some (w : World) (S : Nat → Prop) (g b : Nat) (M : List (KeyT × EntryK)) (k : KeyT) (x : EntryK) (h : Tab w S g b M) (hl : M.length ≤ 1048576) (hx : mget M k = some x) :
    Calls Try.prog 55 #[.pointer (some ⟨g, 0, none⟩), kf k] w fun e w' => e = .returned (.bool true) ∧ Touch S w w' ∧ Tab w' (fun i => S i ∨ w.heap.size ≤ i) g b (mdel M k) := by
  obtain ⟨F, hFb, ov, h⟩ : ∃ F : Nat → Prop, (∀ i, F i → i < w.heap.size) ∧ ∃ ov, TabIs w S F g b ov M := by
    obtain ⟨F, ov, h⟩ := h
    exact ⟨_, fun i hi => hi.2, ov, h.bound⟩
  have HW := hide h
  have HFb := hide hFb
  have HX := hide hx
  have HL := hide hl
  obtain ⟨W0, hW0⟩ : ∃ W0, W0 = w.alloc (.cells #[c32 k.1, c32 k.2] 68) := ⟨_, rfl⟩
  have hb0 : Below w.heap.size w W0 := by rw [hW0]; exact (Below.refl _ _).alloc (Nat.le_refl _) _
  have hq0 : Blk W0 w.heap.size 68 #[c32 k.1, c32 k.2] := by rw [hW0]; exact Blk.new w _ _
  have q0 : W0.cell? ⟨w.heap.size, 0, none⟩ = some (c32 k.1) := (hq0.cell 0).trans rfl
  have q1 : W0.cell? ⟨w.heap.size, 1, none⟩ = some (c32 k.2) := (hq0.cell 1).trans rfl
  have HA := hide (jat_live W0 S g b M k ⟨F, ov, h.below hb0⟩)
  rw [hx] at HA
  have HB := hide hb0
  have HQ := hide hq0
  clear hFb hq0 hb0 h hx hl
  unfold kf at HA ⊢
  go_enter Try.func55, Try.ntmps55
  go_upto_region 1 with (fail)
  rw [← hW0]
  clear hW0
  go_wp2_with (first
    | (go_at_call 86; (with_reducible refine HA.out.mono ?_); rintro e w1 ⟨rfl, hb1⟩; rw [show ptrOf (some x) = .pointer (some ⟨x.blk, 0, none⟩) from rfl]; have HB1 := hide (below_next HB.out hb1); have HQ1 := hide (HQ.out.below hb1 HQ.out.lt); clear hb1)
    | fail)
  have FC : Hid (∀ W, Below w1.heap.size w1 W → W.cell? ⟨g, 0, none⟩ = some (.map (some b))) := hide fun W hW => (((HW.out.below HB1.out).below hW).head.cell 0).trans rfl
  have FK : Hid (∀ W, Below w1.heap.size w1 W → W.cell? ⟨w.heap.size, 0, none⟩ = some (c32 k.1) ∧ W.cell? ⟨w.heap.size, 1, none⟩ = some (c32 k.2)) := hide fun W hW =>
    ⟨((HQ1.out.below hW HQ1.out.lt).cell 0).trans rfl, ((HQ1.out.below hW HQ1.out.lt).cell 1).trans rfl⟩
  apply wp_region_relT 5 (C := fun W => Below w1.heap.size w1 W) (M := fun W W' => Below W.heap.size W W') (ss := [_, _, _, _, _]) (by kernel_rfl) (by kernel_rfl) (by kernel_rfl) (by kernel_rfl) (Below.refl _ _).drew
  simp only [List.take_succ_cons, List.take_zero, List.drop_succ_cons, List.drop_zero]
  repeat (first
    | (apply relWalk_const (fun W => Below.refl _ _)
       · (intro W9 hC hF
          clear hF
          have c0 := FC.out W9 hC
          obtain ⟨q0, q1⟩ := FK.out W9 hC
          clear hC
          go_simp
          with_reducible exact rfl)
       (try simp only [Act.put, List.setIfInBounds_toArray, List.set_cons_zero, List.set_cons_succ])))
  refine relWalk_nil fun W hC hF => ?_
  clear hF
  have hBW := below_next HB1.out hC
  have hTW := HW.out.below hBW
  have hqW := HQ1.out.below hC HQ1.out.lt
  refine wpList_delete_job keyJ Try.underlying97 rfl _ _ rfl rfl k rfl trivial hTW.map fun w3 hm3 hg3 => ?_
  rw [mdel_ptrs] at hm3
  have hoth : ∀ i, i < W.heap.size → i ≠ b → w3.heap[i]? = W.heap[i]? := fun i hi hb => hg3.block i hi (fun e => hb (by injection e))
  have HMid : Hid (DropMid w w3 S F g b ov M k) := hide ⟨(hoth g hTW.head.lt (fun e => hTW.map.ne_blk hTW.head e.symm)).trans hTW.head,
    by have := own_block hTW.ord fun r hr => hoth r (own_lt hTW.ord hr).2 (fun e => hTW.map.not_row hTW.ord (by rw [hr, e])); rwa [keyCells_eq, ← List.length_map (f := Prod.fst)] at this,
    hm3, fun p hp => (hTW.ents p hp).keep hg3.size (hoth _ (hTW.ents p hp).blk.lt (fun e => hTW.map.ne_blk (hTW.ents p hp).blk e.symm)) (fun i hi hf => hoth i hi (fun e => hTW.sb.2 (e ▸ hf))),
    (Touch.of_below hBW).trans (S' := fun i => i = b) (Touch.of_grown hg3 (fun r e => by injection e with e; exact e.symm)) (fun i _ e => e ▸ HW.out.sb.1)⟩
  have HQ3 : Hid (Blk w3 w.heap.size 68 #[c32 k.1, c32 k.2]) := hide ((hoth _ hqW.lt (fun e => hTW.map.ne_blk hqW e.symm)).trans hqW)
  clear hBW hTW hqW hm3 hoth hg3 hC FC FK q0 q1
  have c1 : w3.cell? ⟨g, 1, none⟩ = some ov := (HMid.out.head.cell 1).trans rfl
  have HCl := hide (clonekeys_any ov (M.map (·.1)) w3 0 HMid.out.ord (by rw [List.length_map]; exact HL.out))
  have hmem : k ∈ M.map (·.1) := List.mem_map.2 ⟨_, mget_some HX.out, rfl⟩
  have HMem := hide hmem
  clear hmem
  go_wp2_with (first
    | (go_at_call 95; (with_reducible refine HCl.out.mono ?_); rintro e w4 ⟨u, rfl, ho⟩; obtain ⟨r, c, cur, rfl, _, hr0, hrc, _⟩ := own_blk ho.own (List.length_pos_of_mem HMem.out); have HO4 := hide ho; have HR0 := hide hr0; have HQ4 := hide (HQ3.out.below ho.below HQ3.out.lt);
        have HD := hide (delfunc_any (M.map (·.1)) k r c w4 w3.heap.size w.heap.size ho.own (by rw [List.length_map]; exact HL.out) HQ4.out (by have := HQ3.out.lt; omega) HMem.out); rw [List.length_map] at HD; clear ho hr0)
    | (go_at_call 94; (with_reducible refine HD.out.mono ?_); rintro e w5 ⟨rfl, ho5, ht5⟩; have HO5 := hide ho5; have HT5 := hide ht5;
        have hgb := ((HMid.out.head.below HO4.out.below HMid.out.head.lt).touch ht5 (by have := HMid.out.head.lt; have := HR0.out; omega)); have c5 : w5.cell? ⟨g, 1, none⟩ = some ov := (hgb.cell 1).trans rfl; have f5 : w5.frozen? ⟨g, 1, none⟩ = false := hgb.frozen 1; clear hgb ho5 ht5)
    | fail)
  go_ret
  have e : (fun x : KeyT => decide (x ≠ k)) = fun x => !decide (x = k) := by funext x; exact decide_not
  rw [← e]
  exact ⟨rfl, DropMid.done HW.out HFb.out HMid.out HO4.out.below HT5.out HR0.out rfl rfl HO5.out⟩
end Go.Proofs.Ytccpkafmbmkmfaa
namespace Go.Proofs.Ytccpkafmbmkmfaa
open Go.RowKit Go.Shelf
set_option linter.unusedVariables false
set_option linter.unusedSimpArgs false
attribute [local go_sem] Gives givesUpon
attribute [local irreducible] Gives

set_option maxRecDepth 100000 in
set_option maxHeartbeats 1600000 in
theorem jadd_bad (w : World) (S : Nat → Prop) (g b : Nat) (M : List (KeyT × EntryK)) (j : JobM) (hj : j.breach.length = 32) (v : Value) (R : Array Value) (hR : JobVal j v R) (K : List TierK) (S2 : Nat → Prop) (hP : PayAt w S2 v K) (hm : Modest K)
    (hr : rightJ j (plainT K) = false) (h : Tab w S g b M) :
    Calls Try.prog 45 #[.pointer (some ⟨g, 0, none⟩), .agg R] w fun e w' => e = .returned (.int .i64 1) ∧ Below w.heap.size w w' := by
  obtain ⟨F, hFb, ov, h⟩ : ∃ F : Nat → Prop, (∀ i, F i → i < w.heap.size) ∧ ∃ ov, TabIs w S F g b ov M := by
    obtain ⟨F, ov, h⟩ := h
    exact ⟨_, fun i hi => hi.2, ov, h.bound⟩
  have HW := hide h
  have HFb := hide hFb
  have HRt := hide hr
  clear hFb
  obtain ⟨W0, hW0⟩ : ∃ W0, W0 = w.alloc (.cells R 75) := ⟨_, rfl⟩
  have hb0 : Below w.heap.size w W0 := by rw [hW0]; exact (Below.refl _ _).alloc (Nat.le_refl _) _
  have hq0 : Blk W0 w.heap.size 75 R := by rw [hW0]; exact Blk.new w _ _
  have h0 := h.below hb0
  have HN := hide (absent_live g b ov W0 h0.head)
  have HRi := hide (jright_any j v R hR K W0 S2 (hP.below hb0))
  rw [hr] at HRi
  have HR := hide hR
  have HB0 := hide hb0
  have HQ0 := hide hq0
  have HH0 := hide h0
  have HP := hide (hP.below hb0)
  have HM := hide hm
  clear hb0 hq0 h0 hR h hr hP hm
  go_enter Try.func45, Try.ntmps45
  go_upto_region 1 with (fail)
  rw [← hW0]
  clear hW0
  go_wp2_with (first
    | (go_at_call 83; (with_reducible refine HN.out.mono ?_); rintro e w0 ⟨rfl, rfl⟩)
    | ((with_reducible show wpList _ _ _ (⟨_, .load 75 _, _, _, _, _⟩ :: _) _ _); refine wpList_load_row rfl 75 _ rfl w.heap.size rfl 75 R (0, 0) _ HQ0.out Try.underlying75 rfl (by rw [HR.out.size]; exact info_job) ?_)
    | (go_at_call 68; (with_reducible refine HRi.out.mono ?_); rintro e w1 ⟨rfl, hb1⟩; have HB1 := hide hb1; clear hb1)
    | fail)
  go_ret
  exact ⟨rfl, below_next HB0.out HB1.out⟩
set_option maxRecDepth 100000 in
set_option maxHeartbeats 1600000 in
theorem jadd_twice (w : World) (S : Nat → Prop) (g b : Nat) (M : List (KeyT × EntryK)) (j : JobM) (hj : j.breach.length = 32) (v : Value) (R : Array Value) (hR : JobVal j v R) (K : List TierK) (S2 : Nat → Prop) (hP : PayAt w S2 v K) (hm : Modest K)
    (hr : rightJ j (plainT K) = true) (h : Tab w S g b M) (x : EntryK) (hx : mget M (keyOfJ j) = some x) :
    Calls Try.prog 45 #[.pointer (some ⟨g, 0, none⟩), .agg R] w fun e w' => e = .returned (.int .i64 6) ∧ Below w.heap.size w w' := by
  obtain ⟨F, hFb, ov, h⟩ : ∃ F : Nat → Prop, (∀ i, F i → i < w.heap.size) ∧ ∃ ov, TabIs w S F g b ov M := by
    obtain ⟨F, ov, h⟩ := h
    exact ⟨_, fun i hi => hi.2, ov, h.bound⟩
  have HW := hide h
  have HFb := hide hFb
  have HRt := hide hr
  clear hFb
  obtain ⟨W0, hW0⟩ : ∃ W0, W0 = w.alloc (.cells R 75) := ⟨_, rfl⟩
  have hb0 : Below w.heap.size w W0 := by rw [hW0]; exact (Below.refl _ _).alloc (Nat.le_refl _) _
  have hq0 : Blk W0 w.heap.size 75 R := by rw [hW0]; exact Blk.new w _ _
  have h0 := h.below hb0
  have HN := hide (absent_live g b ov W0 h0.head)
  have HRi := hide (jright_any j v R hR K W0 S2 (hP.below hb0))
  rw [hr] at HRi
  have HR := hide hR
  have HB0 := hide hb0
  have HQ0 := hide hq0
  have HH0 := hide h0
  have HP := hide (hP.below hb0)
  have HM := hide hm
  have HNo := hide hx
  clear hb0 hq0 h0 hR h hr hP hm hx
  go_enter Try.func45, Try.ntmps45
  go_upto_region 1 with (fail)
  rw [← hW0]
  clear hW0
  go_wp2_with (first
    | (go_at_call 83; (with_reducible refine HN.out.mono ?_); rintro e w0 ⟨rfl, rfl⟩)
    | ((with_reducible show wpList _ _ _ (⟨_, .load 75 _, _, _, _, _⟩ :: _) _ _); refine wpList_load_row rfl 75 _ rfl w.heap.size rfl 75 R (0, 0) _ HQ0.out Try.underlying75 rfl (by rw [HR.out.size]; exact info_job) ?_)
    | (go_at_call 68; (with_reducible refine HRi.out.mono ?_); rintro e w1 ⟨rfl, hb1⟩; have HB1 := hide hb1; clear hb1)
    | fail)
  have HT1 := hide (HH0.out.below HB1.out)
  have HQ1 := hide (HQ0.out.below HB1.out HQ0.out.lt)
  have HP1 := hide (HP.out.below HB1.out)
  have HB := hide (below_next HB0.out HB1.out)
  clear HN HRi HB0 HQ0 HH0 HP HB1
  have FC : Hid (∀ W, Below w1.heap.size w1 W → W.cell? ⟨g, 0, none⟩ = some (.map (some b))) := hide fun W hW => ((HT1.out.below hW).head.cell 0).trans rfl
  have FK : Hid (∀ W, Below w1.heap.size w1 W → W.cell? ⟨w.heap.size, 0, none⟩ = some (c32 j.ses) ∧ W.cell? ⟨w.heap.size, 1, none⟩ = some (c32 j.seq)) := hide fun W hW =>
    ⟨((HQ1.out.below hW HQ1.out.lt).cell 0).trans HR.out.ses, ((HQ1.out.below hW HQ1.out.lt).cell 1).trans HR.out.seq⟩
  have FL : Hid (∀ W, Below w1.heap.size w1 W → (Instr.lookup 97 (.map (some b)) (.agg #[c32 j.ses, c32 j.seq]) false).run Try.prog W = .ok (.pointer (some ⟨x.blk, 0, none⟩)) W) := hide fun W hW => by
    have := (HT1.out.below hW).map.lookup keyJ Try.underlying97 (a := keyOfJ j) trivial false (zero_entryp W)
    rw [ptrs_get, HNo.out] at this
    exact this
  apply wp_region_rel (C := fun W' => Below w1.heap.size w1 W') (M := fun W W' => Below W.heap.size W W') (ss := [_, _, _, _, _, _, _, _, _]) (by kernel_rfl) (by kernel_rfl) (by kernel_rfl) (Below.refl _ _).drew
  repeat (first
    | (apply relWalk_const (fun W => Below.refl _ _)
       · (intro W9 hC hF
          clear hF
          have c0 := FC.out W9 hC
          obtain ⟨q0, q1⟩ := FK.out W9 hC
          have fl := FL.out W9 hC
          clear hC
          go_simp
          with_reducible exact rfl)
       (try simp only [Act.put, List.setIfInBounds_toArray, List.set_cons_zero, List.set_cons_succ])))
  refine relWalk_nil fun w2 hC hF => ?_
  clear hF
  have HC2 := hide hC
  clear hC
  go_wp2
  go_ret
  exact ⟨rfl, below_next HB.out HC2.out⟩
/-- the job that is none -/
def zeroJ : JobM := ⟨0, 0, List.replicate 32 0, 0, 0, 0⟩
theorem zero_jobval : ∃ Z : Array Value, (Try.prog.info? 75).map (·.zero) = some (some (.agg Z)) ∧ Z.size = 38 ∧ JobVal zeroJ (.slice none 0 0) Z := by
  obtain ⟨Z, hZ⟩ := jobVal (j := zeroJ) (by simp [zeroJ]) (v := .slice none 0 0) rfl
  refine ⟨Z, ?_, hZ.size, hZ⟩
  rw [hZ.val]
  kernel_rfl
set_option maxRecDepth 100000 in
set_option maxHeartbeats 800000 in
theorem jget_none (w : World) (S : Nat → Prop) (g b : Nat) (M : List (KeyT × EntryK)) (k : KeyT) (h : Tab w S g b M) (hn : mget M k = none) :
    Calls Try.prog 46 #[.pointer (some ⟨g, 0, none⟩), kf k] w fun e w' => ∃ Z : Array Value, e = .returned (.tuple #[.agg Z, .bool false]) ∧ JobVal zeroJ (.slice none 0 0) Z ∧ Below w.heap.size w w' := by
  obtain ⟨Z, hZ, hZs, hZv⟩ := zero_jobval
  have HZv := hide hZv
  have HZ := hide hZ
  have HZs := hide hZs
  have HBd := hide (built_zero hZ)
  obtain ⟨W0, hW0⟩ : ∃ W0, W0 = w.alloc (.cells #[c32 k.1, c32 k.2] 68) := ⟨_, rfl⟩
  have hs0 : W0.heap.size = w.heap.size + 1 := by rw [hW0]; simp
  obtain ⟨W1, hW1⟩ : ∃ W1, W1 = W0.alloc (.cells Z 75) := ⟨_, rfl⟩
  have hb0 : Below w.heap.size w W1 := by rw [hW1, hW0]; exact ((Below.refl _ _).alloc (Nat.le_refl _) _).alloc (by simp) _
  have hq0 : Blk W1 w.heap.size 68 #[c32 k.1, c32 k.2] := by rw [hW1, hW0]; exact (Blk.new w _ _).alloc _
  have hr0 : Blk W1 (w.heap.size + 1) 75 Z := by rw [hW1, ← hs0]; exact Blk.new W0 _ _
  have q0 : W1.cell? ⟨w.heap.size, 0, none⟩ = some (c32 k.1) := (hq0.cell 0).trans rfl
  have q1 : W1.cell? ⟨w.heap.size, 1, none⟩ = some (c32 k.2) := (hq0.cell 1).trans rfl
  have HA := hide (jat_live W1 S g b M k (h.below hb0))
  rw [hn] at HA
  have HB := hide hb0
  have HR0 := hide hr0
  have HS0 := hide hs0
  have HZi : Hid ((Try.prog.info? 75).map (·.size) = some Z.size) := hide (by rw [hZs]; exact info_job)
  have HZo : Hid (Z.all (·.oneCell') = true) := hide (by
    obtain ⟨Z', hZ', _⟩ : ∃ Z' : Array Value, (Try.prog.info? 75).map (·.zero) = some (some (.agg Z')) ∧ Z'.all (·.oneCell') = true := ⟨((List.replicate 2 (c32 0)) ++ (List.replicate 32 (c8 0)) ++ [c32 0, c32 0, ci 0, .slice none 0 0]).toArray, by kernel_rfl, (by first | kernel_rfl | (simp [Value.oneCell', List.replicate]; done) | (rw [Array.all_eq_true_iff_forall_mem]; intro u hu; simp [List.replicate] at hu; rcases hu with rfl | rfl | rfl | rfl <;> rfl))⟩
    rw [hZ] at hZ'
    injection hZ' with e; injection e with e; injection e with e
    rw [e]; assumption)
  clear hq0 hr0 hb0 hs0 hZ hZs hZv h hn
  replace hW0 := hide hW0.symm
  replace hW1 := hide hW1.symm
  unfold kf at HA ⊢
  go_enter Try.func46, Try.ntmps46
  go_wp2_with (first
    | (rw [hW0.out]; refine wpList_alloc_is rfl 75 rfl Z HZ.out ?_; rw [hW1.out, HS0.out])
    | (go_at_call 86; (with_reducible refine HA.out.mono ?_); rintro e w1 ⟨rfl, hb1⟩; rw [ptrOf_none]; have HB1 := hide (below_next HB.out hb1); have HR1 := hide (HR0.out.below hb1 HR0.out.lt); clear hb1)
    | ((with_reducible show wpList _ _ _ (⟨_, .build 75 _, _, _, _, _⟩ :: _) _ _); refine wpList_build_is rfl 75 _ rfl Z HBd.out ?_)
    | ((with_reducible show wpList _ _ _ (⟨_, .store 75 _ _, _, _, _, _⟩ :: _) _ _); refine wpList_store_row rfl 75 _ _ rfl (w.heap.size + 1) rfl Z rfl 75 _ HR1.out HZi.out rfl HZo.out ?_)
    | fail)
  refine bodyPost_ret (v := .tuple #[.agg Z, .bool false]) ?_ rfl ⟨Z, rfl, HZv.out, below_setRow HB1.out (Nat.le_succ _) _⟩
  refine Eq.trans (results_cell_row_tmp rfl _ _ (w.heap.size + 1) 75 Z (0, 0) _ rfl (setRow_heap _ _ _ _ _ _ HR1.out) Try.underlying75 rfl HZi.out) rfl
end Go.Proofs.Ytccpkafmbmkmfaa
namespace Go.Proofs.Ytccpkafmbmkmfaa
open Go.RowKit Go.Shelf
set_option linter.unusedVariables false
set_option linter.unusedSimpArgs false
attribute [local go_sem] Gives givesUpon
attribute [local irreducible] Gives

def keyT (x : JobT) : KeyT := (x.1.ses, x.1.seq)
theorem keyK_plain (L : List JobK) : L.map keyK = (L.map plainJ).map keyT := by simp [keyK, plainJ, keyT, Function.comp_def]
theorem tab_fst {w : World} {S : Nat → Prop} {g b : Nat} {M : List (KeyT × EntryK)} (h : Tab w S g b M) : M.map (·.1) = (M.map plainE).map keyT := by
  obtain ⟨F, ov, h⟩ := h
  rw [List.map_map]
  exact List.map_congr_left fun p hp => (h.ents p hp).key
theorem tab_keys {w : World} {S : Nat → Prop} {g b : Nat} {M : List (KeyT × EntryK)} (h : Tab w S g b M) : MKeys M := by
  obtain ⟨F, ov, h⟩ := h; exact h.keysM
theorem tab_right {w : World} {S : Nat → Prop} {g b : Nat} {M : List (KeyT × EntryK)} (h : Tab w S g b M) : ∀ y ∈ M.map plainE, rightJ y.1 y.2 = true := by
  obtain ⟨F, ov, h⟩ := h
  intro y hy
  obtain ⟨p, hp, rfl⟩ := List.mem_map.1 hy
  exact (h.ents p hp).right
theorem nodup_take {K : List KeyT} (h : K.Nodup) {k : Nat} {a : KeyT} (hk : K[k]? = some a) : a ∉ K.take k := by
  intro hm
  have hd : a ∈ K.drop k := List.mem_of_getElem? (i := 0) (by rw [List.getElem?_drop, Nat.add_zero]; exact hk)
  rw [← List.take_append_drop k K, List.nodup_append] at h
  exact h.2.2 a hm a hd rfl
set_option maxRecDepth 100000 in
set_option maxHeartbeats 3200000 in
theorem jclone_any (w : World) (S : Nat → Prop) (g b : Nat) (M : List (KeyT × EntryK)) (h : Tab w S g b M) (hl : M.length ≤ 524288) :
    Calls Try.prog 60 #[.pointer (some ⟨g, 0, none⟩)] w fun e w' => ∃ g' b' M', e = .returned (.pointer (some ⟨g', 0, none⟩)) ∧ Below w.heap.size w w' ∧ Tab w' (fun i => w.heap.size ≤ i) g' b' M' ∧ M'.map plainE = M.map plainE := by
  obtain ⟨Z, hZ, hZs⟩ := zero_job
  have HZ := hide hZ
  have HZs := hide hZs
  have HT := hide h
  have HN := hide (by obtain ⟨F, ov, h⟩ := h; exact absent_live g b ov w h.head)
  have HNw := hide (jnew_any w)
  have HD := hide (tab_keys h)
  have HF := hide (tab_fst h)
  have HRi := hide (tab_right h)
  obtain ⟨n, hn⟩ : ∃ n, n = M.length := ⟨_, rfl⟩
  have HNn := hide hn
  rw [← hn] at hl
  clear h hZ hZs hn
  go_enter Try.func60, Try.ntmps60
  go_wp2_with (first
    | (go_at_call 83; (with_reducible refine HN.out.mono ?_); rintro e w0 ⟨rfl, rfl⟩)
    | (go_at_call 44; (with_reducible refine HNw.out.mono ?_); rintro e w1 ⟨rfl, ht1, hb1⟩; have HT1 := hide ht1; have HB1 := hide hb1; have HLs := hide (jlist_any w1 S g b M (HT.out.below hb1) (by rw [← HNn.out]; omega)); clear ht1 hb1)
    | (go_at_call 47; (with_reducible refine HLs.out.mono ?_); rintro e w2 ⟨v, L, rfl, ho, hLM⟩; have hLn : L.length = n := (by have := congrArg List.length hLM; rw [List.length_map, List.length_map] at this; rw [this, HNn.out]);
        have HLM := hide hLM; obtain ⟨A, c, rfl, hc⟩ := ho.slice; have HO := hide ho; have HLn := hide hLn; rw [hLn] at hc ⊢; clear ho hLM hLn)
    | fail)
  have HTS : Hid (Tab w2 (fun i => (w.heap.size ≤ i ∧ i < w1.heap.size) ∨ w2.heap.size ≤ i) (w.heap.size + 1) w.heap.size []) := hide ((HT1.out.mono_ (S' := fun i => (w.heap.size ≤ i ∧ i < w1.heap.size) ∨ w2.heap.size ≤ i) fun i hi hs => .inl ⟨hs, hi⟩).below HO.out.below)
  obtain ⟨TS, hTS⟩ : ∃ TS : Nat → Prop, TS = fun i => (w.heap.size ≤ i ∧ i < w1.heap.size) ∨ w2.heap.size ≤ i := ⟨_, rfl⟩
  have HTd := hide hTS
  rw [← hTS] at HTS
  have HJ := hide HO.out.jobs
  clear hTS
  go_loopw [12] (fun i wr => ∃ (k : Nat) (M1 : List (KeyT × EntryK)), k ≤ n ∧ i = .int .i64 (k : Int) ∧ Hid (Tab wr TS (w.heap.size + 1) w.heap.size M1) ∧ Hid (M1.map plainE = (L.take k).map plainJ) ∧ Hid (Touch TS w2 wr)) (fun i _ => n - (intOf i).toNat)
  case atStart => exact ⟨0, [], Nat.zero_le _, rfl, HTS, hide rfl, hide (Touch.refl _ _)⟩
  case round =>
    obtain ⟨wz, rfl⟩ : ∃ wz : World, wz = wr := ⟨_, rfl⟩
    obtain ⟨k, M1, hk, rfl, HTz, HMz, HTc⟩ := hrel
    by_cases hlt : k < n
    · have hd1 : decide ((k : Int) < (n : Int)) = true := by simpa using hlt
      have hkL : k < L.length := by rw [HLn.out]; exact hlt
      have HJz := hide (HJ.out.keep HTc.out.size (fun i hi hs => HTc.out.block i hi (by rw [HTd.out]; omega)))
      obtain ⟨ga, oa, rfl, _, hga, hcells⟩ := HJz.out.at_ (k := k) hkL
      have hMem : L[k] ∈ L := List.getElem_mem hkL
      have hLen := HJz.out.len _ hMem
      have hPay := HJz.out.pay _ hMem
      have hRt : rightJ L[k].1 (plainT L[k].2.2) = true := HRi.out (plainJ L[k]) (by rw [← HLM.out]; exact List.mem_map_of_mem hMem)
      have hNo : mget M1 (keyOfJ L[k].1) = none := by
        rw [mget_none]
        intro p hp e
        have hK : (L.map plainJ).map keyT = M.map (·.1) := by rw [HLM.out, ← HF.out]
        have h1 : keyOfJ L[k].1 ∉ ((L.map plainJ).map keyT).take k := nodup_take (by rw [hK]; exact HD.out) (by rw [List.getElem?_map, List.getElem?_map, List.getElem?_eq_getElem hkL]; rfl)
        apply h1
        rw [← List.map_take, ← List.map_take, ← HMz.out, ← tab_fst HTz.out, ← e]
        exact List.mem_map_of_mem hp
      have hTk : (L.take (k + 1)).map plainJ = (L.take k).map plainJ ++ [plainJ L[k]] := by rw [List.take_succ_eq_append_getElem hkL, List.map_append]; rfl
      have hM1 : M1.length = k := by have := congrArg List.length HMz.out; rw [List.length_map, List.length_map, List.length_take] at this; omega
      generalize (L[k]'hkL) = x at *
      obtain ⟨Ap, cp, hpv, _⟩ := id hPay
      obtain ⟨R, hR⟩ := jobVal (j := x.1) hLen (v := x.2.1) (by rw [hpv]; rfl)
      have hRs : (jobCells x.1 x.2.1).toArray = R := hR.val.symm
      have HJi : Hid ((Try.prog.info? 75).map (·.size) = some (jobCells x.1 x.2.1).length) := hide (by rw [jobCells_len hLen]; exact info_job)
      obtain ⟨W2, hW2⟩ : ∃ W2, W2 = (wz.alloc (.cells Z 75)).setRow wz.heap.size R := ⟨_, rfl⟩
      have hb2 : Below wz.heap.size wz W2 := by rw [hW2]; exact below_setRow ((Below.refl _ _).alloc (Nat.le_refl _) _) (Nat.le_refl _) _
      have hq2 : Blk W2 wz.heap.size 75 R := by rw [hW2]; exact setRow_heap _ _ _ _ _ _ (Blk.new wz _ _)
      have HAdd := hide (jadd_new W2 TS (w.heap.size + 1) w.heap.size M1 x.1 hLen x.2.1 R hR x.2.2 _ (hPay.below hb2) (modest_right hRt) hRt (HTz.out.below hb2) (by omega) hNo)
      have HB2 := hide hb2
      have HQ2 := hide hq2
      have HRs := hide hRs
      have HR := hide hR
      have HCs := hide hcells
      have HTk := hide hTk
      have hk0 : (0 : Int) ≤ (k : Int) := by omega
      clear hMem hLen hPay hRt hNo hTk hM1 hpv hRs hb2 hq2 hcells hga hR
      replace hW2 := hide hW2.symm
      go_wp2_with (first
        | ((with_reducible show wpList _ _ _ (⟨_, .load 75 (.tmp 14), _, _, _, _⟩ :: _) _ _); refine wpList_load_at rfl 75 _ rfl ⟨ga, oa + k * 38, none⟩ rfl (jobCells x.1 x.2.1) _ Try.underlying75 rfl HJi.out (fun i u hu => by rw [Addr.add_lit]; exact HCs.out i u hu) ?_; rw [HRs.out])
        | (refine wpList_alloc_is rfl 75 rfl Z HZ.out ?_)
        | ((with_reducible show wpList _ _ _ (⟨_, .store 75 _ _, _, _, _, _⟩ :: _) _ _); refine wpList_store_row rfl 75 _ _ rfl wz.heap.size rfl R rfl 75 _ (Blk.new wz _ _) (by rw [HR.out.size]; exact info_job) (by rw [HR.out.size]; exact HZs.out) HR.out.one ?_; rw [hW2.out])
        | ((with_reducible show wpList _ _ _ (⟨_, .load 75 (.tmp 5), _, _, _, _⟩ :: _) _ _); refine wpList_load_row rfl 75 _ rfl wz.heap.size rfl 75 R (0, 0) _ HQ2.out Try.underlying75 rfl (by rw [HR.out.size]; exact info_job) ?_)
        | (go_at_call 45; (with_reducible refine HAdd.out.mono ?_); rintro e w4 ⟨rfl, ht4, x', hx'j, hx'k, hT4⟩; have HT4 := hide ht4; have HXj := hide hx'j; have HXk := hide hx'k; have HTb := hide hT4; clear ht4 hx'j hx'k hT4)
        | fail)
      go_roundw
      case rel =>
        refine ⟨k + 1, M1 ++ [(keyOfJ x.1, x')], by omega, by go_num, hide (HTb.out.mono_ fun i hi hs => ?_), hide ?_, hide ((HTc.out.then_below HB2.out).trans HT4.out fun i _ e => e)⟩
        · rcases hs with hs | hs
          · exact hs
          · rw [HTd.out]
            have h1 := HTc.out.size
            have h2 := HB2.out.size
            exact .inr (by omega)
        · rw [HTk.out, List.map_append, HMz.out]
          simp only [List.map_cons, List.map_nil, plainE, plainJ, HXj.out, HXk.out]
      case measure => simp [intOf]; omega
    · obtain rfl : k = n := by omega
      have hd1 : decide ((k : Int) < (k : Int)) = false := by simp
      go_wp2
      go_ret
      refine ⟨_, _, M1, rfl, ?_, HTz.out.mono_ fun i hi hs => ?_, ?_⟩
      · have h1 := HB1.out.size
        have h2 := HO.out.below.size
        exact (below_next HB1.out HO.out.below).trans (HTc.out.below (by omega) fun i hi hs => by rw [HTd.out] at hs; omega)
      · rw [HTd.out] at hs
        have h1 := HB1.out.size
        have h2 := HO.out.below.size
        omega
      · rw [HMz.out, ← HLM.out, ← HLn.out, List.take_length]
end Go.Proofs.Ytccpkafmbmkmfaa
namespace Go.Proofs.Ytccpkafmbmkmfaa
open Go.RowKit Go.Shelf
set_option linter.unusedVariables false
set_option linter.unusedSimpArgs false

/-- what a table's entries are, without memory -/
structure Plain (M : List (KeyT × EntryK)) : Prop where
  keys : MKeys M
  key : ∀ p ∈ M, p.1 = keyT (plainE p)
  right : ∀ p ∈ M, rightJ p.2.job (plainT p.2.K) = true
theorem Tab.plain {w : World} {S : Nat → Prop} {g b : Nat} {M : List (KeyT × EntryK)} (h : Tab w S g b M) : Plain M := by
  obtain ⟨F, ov, h⟩ := h
  exact ⟨h.keysM, fun p hp => (h.ents p hp).key, fun p hp => (h.ents p hp).right⟩
section
variable {M : List (KeyT × EntryK)} {LK : List JobK}
theorem eqv_len (E : LK.map plainJ = M.map plainE) : LK.length = M.length := by
  have := congrArg List.length E; simpa using this
theorem eqv_keys (H : Plain M) (E : LK.map plainJ = M.map plainE) : LK.map keyK = M.map (·.1) := by
  rw [keyK_plain, E, List.map_map]
  exact (List.map_congr_left fun p hp => H.key p hp).symm
theorem eqv_none (H : Plain M) (E : LK.map plainJ = M.map plainE) {k : KeyT} (h : mget M k = none) : k ∉ LK.map keyK := by
  rw [eqv_keys H E]
  intro hm
  obtain ⟨p, hp, e⟩ := List.mem_map.1 hm
  exact mget_none.1 h p hp e
theorem eqv_some (H : Plain M) (E : LK.map plainJ = M.map plainE) {k : KeyT} {x : EntryK} (h : mget M k = some x) :
    ∃ i y, LK[i]? = some y ∧ M[i]? = some (k, x) ∧ keyK y = k ∧ k ∉ (LK.take i).map keyK ∧ y.1 = x.job ∧ plainT y.2.2 = plainT x.K := by
  have hm := mget_some h
  obtain ⟨i, hi⟩ := List.mem_iff_getElem?.1 hm
  have hp : (LK.map plainJ)[i]? = some (plainE (k, x)) := by rw [E, List.getElem?_map, hi]; rfl
  rw [List.getElem?_map] at hp
  obtain ⟨y, hy, e⟩ := Option.map_eq_some_iff.1 hp
  have hky : keyK y = k := by
    have h1 : keyK y = keyT (plainJ y) := rfl
    rw [h1, e]; exact (H.key _ hm).symm
  refine ⟨i, y, hy, hi, hky, ?_, congrArg Prod.fst e, congrArg Prod.snd e⟩
  rw [List.map_take]
  refine nodup_take ?_ (by rw [List.getElem?_map, hy]; exact congrArg some hky)
  rw [eqv_keys H E]; exact H.keys
theorem mput_set (hK : MKeys M) {k : KeyT} {x x' : EntryK} {i : Nat} (hx : mget M k = some x) (hi : M[i]? = some (k, x)) : mput M k x' = M.set i (k, x') := by
  rw [mput_some hx]
  apply List.ext_getElem?
  intro j
  rw [List.getElem?_map, List.getElem?_set]
  obtain ⟨hil, hie⟩ := List.getElem?_eq_some_iff.1 hi
  by_cases hj : i = j
  · subst hj
    simp only [hi, hil, if_true, Option.map_some]
  · simp only [hj, if_false]
    cases hq : M[j]? with
    | none => rfl
    | some p =>
      have hne : p.1 ≠ k := by
        intro e
        obtain ⟨hjl, hje⟩ := List.getElem?_eq_some_iff.1 hq
        have hn : (M.map (·.1)).Nodup := hK
        rcases Nat.lt_or_gt_of_ne hj with hlt | hlt
        · refine nodup_take hn (k := j) (a := k) (by rw [List.getElem?_map, hq]; simp [e]) ?_
          exact List.mem_of_getElem? (i := i) (by rw [List.getElem?_take, if_pos hlt, List.getElem?_map, hi]; rfl)
        · refine nodup_take hn (k := i) (a := k) (by rw [List.getElem?_map, hi]; rfl) ?_
          exact List.mem_of_getElem? (i := j) (by rw [List.getElem?_take, if_pos hlt, List.getElem?_map, hq]; simp [e])
      simp [hne]
theorem eqv_put (H : Plain M) (E : LK.map plainJ = M.map plainE) {k : KeyT} {x x' : EntryK} {y y' : JobK} {i : Nat} (hx : mget M k = some x) (hi : M[i]? = some (k, x)) (he : plainJ y' = (x'.job, plainT x'.K)) : (LK.set i y').map plainJ = (mput M k x').map plainE := by
  rw [mput_set H.keys hx hi, List.map_set, List.map_set, E, he]
  rfl
theorem eqv_drop (H : Plain M) (E : LK.map plainJ = M.map plainE) (k : KeyT) : (dropK LK k).map plainJ = (mdel M k).map plainE := by
  have h1 : (dropK LK k).map plainJ = (LK.map plainJ).filter (fun y => !decide (keyT y = k)) := by
    rw [List.filter_map]; rfl
  have h2 : (mdel M k).map plainE = (M.map plainE).filter (fun y => !decide (keyT y = k)) := by
    rw [List.filter_map]
    congr 1
    unfold mdel
    exact List.filter_congr fun p hp => by simp only [Function.comp]; rw [← H.key p hp]
  rw [h1, h2, E]
theorem eqv_gone (H : Plain M) (E : LK.map plainJ = M.map plainE) {k : KeyT} (h : mget M k = none) : decide ((dropK LK k).length < LK.length) = false := by
  have : dropK LK k = LK := by
    unfold dropK
    refine List.filter_eq_self.2 fun x hx => ?_
    have := eqv_none H E h
    simp only [Bool.not_eq_true', decide_eq_false_iff_not]
    exact fun e => this (List.mem_map.2 ⟨x, hx, e⟩)
  rw [this]; simp
theorem eqv_less (H : Plain M) (E : LK.map plainJ = M.map plainE) {k : KeyT} {x : EntryK} (h : mget M k = some x) : decide ((dropK LK k).length < LK.length) = true := by
  obtain ⟨i, y, hy, _, hk, _⟩ := eqv_some H E h
  refine decide_eq_true ?_
  unfold dropK
  refine Nat.lt_of_le_of_ne (List.length_filter_le _ _) fun e => ?_
  have := (List.length_filter_eq_length_iff.1 e) y (List.mem_of_getElem? hy)
  simp [hk] at this
theorem eqv_keysP (H : Plain M) (E : LK.map plainJ = M.map plainE) (r : JobT → Bool) : keysL LK (fun x => r (plainJ x)) = keysP M (fun x => r (x.job, plainT x.K)) := by
  have h1 : keysL LK (fun x => r (plainJ x)) = ((LK.map plainJ).filter r).map keyT := by
    rw [List.filter_map, List.map_map]; rfl
  have h2 : keysP M (fun x => r (x.job, plainT x.K)) = ((M.map plainE).filter r).map keyT := by
    rw [List.filter_map, List.map_map]
    refine List.map_congr_left fun p hp => ?_
    exact H.key p (List.mem_filter.1 hp).1
  rw [h1, h2, E]
def evT (m : List (BitVec 8)) (y : JobT) : Bool := decide (0 ≤ y.1.live ∧ (idsOf y.2)[y.1.live.toNat]? = some m)
theorem right_low {j : JobM} {L : List TierV} (h : rightJ j L = true) : -1 ≤ j.live := by
  simp only [rightJ, Bool.and_eq_true, decide_eq_true_eq] at h
  exact h.2.2.1
theorem evP_evT (H : Plain M) (m : List (BitVec 8)) {p : KeyT × EntryK} (hp : p ∈ M) : evP m p.2 = evT m (plainE p) := by
  have := right_low (H.right p hp)
  unfold evP evT plainE
  exact decide_eq_decide.2 ⟨fun e => ⟨by have := e.1; dsimp only; omega, e.2⟩, fun e => ⟨by have := e.1; dsimp only at this; omega, e.2⟩⟩
theorem eqv_evict_keys (H : Plain M) (E : LK.map plainJ = M.map plainE) (m : List (BitVec 8)) : keysL LK (evK m) = keysP M (evP m) := by
  have h1 := eqv_keysP H E (evT m)
  have h2 : keysP M (evP m) = keysP M (fun x => evT m (x.job, plainT x.K)) := by
    unfold keysP
    congr 1
    exact List.filter_congr fun p hp => evP_evT H m hp
  rw [h2, ← h1]; rfl
theorem keysP_iff (H : MKeys M) {q : EntryK → Bool} {p : KeyT × EntryK} (hp : p ∈ M) : p.1 ∈ keysP M q ↔ q p.2 = true := by
  unfold keysP
  constructor
  · intro h
    obtain ⟨p', hp', e⟩ := List.mem_map.1 h
    obtain ⟨h1, h2⟩ := List.mem_filter.1 hp'
    have : p'.2 = p.2 := H.unique (a := p.1) (by rw [← e]; exact h1) hp
    rw [← this]; exact h2
  · exact fun h => List.mem_map.2 ⟨p, List.mem_filter.2 ⟨hp, h⟩, rfl⟩
theorem eqv_evict (H : Plain M) (E : LK.map plainJ = M.map plainE) (m : List (BitVec 8)) : (LK.map (evictK m)).map plainJ = (dead (keysP M (evP m)) M).map plainE := by
  let f : JobT → JobT := fun y => if evT m y then ({ y.1 with live := -1 }, y.2) else y
  have h1 : (LK.map (evictK m)).map plainJ = (LK.map plainJ).map f := by
    rw [List.map_map, List.map_map]
    refine List.map_congr_left fun x _ => ?_
    show plainJ (if evK m x then deadK x else x) = if evT m (plainJ x) then _ else _
    rw [show evT m (plainJ x) = evK m x from rfl]
    by_cases h : evK m x = true <;> simp [h, deadK, plainJ]
  have h2 : (dead (keysP M (evP m)) M).map plainE = (M.map plainE).map f := by
    unfold dead
    rw [List.map_map, List.map_map]
    refine List.map_congr_left fun p hp => ?_
    show plainE (if p.1 ∈ keysP M (evP m) then (p.1, deadJ p.2) else p) = if evT m (plainE p) then _ else _
    rw [← evP_evT H m hp]
    by_cases h : evP m p.2 = true
    · rw [if_pos ((keysP_iff H.keys hp).2 h), if_pos h]; rfl
    · rw [if_neg (fun e => h ((keysP_iff H.keys hp).1 e)), if_neg h]
  rw [h1, h2, E]
theorem eqv_rest (E : LK.map plainJ = M.map plainE) : (LK.map deadK).map plainJ = (dead (M.map (·.1)) M).map plainE := by
  let f : JobT → JobT := fun y => ({ y.1 with live := -1 }, y.2)
  have h1 : (LK.map deadK).map plainJ = (LK.map plainJ).map f := by rw [List.map_map, List.map_map]; rfl
  have h2 : (dead (M.map (·.1)) M).map plainE = (M.map plainE).map f := by
    unfold dead
    rw [List.map_map, List.map_map]
    refine List.map_congr_left fun p hp => ?_
    show plainE (if p.1 ∈ M.map (·.1) then (p.1, deadJ p.2) else p) = f (plainE p)
    rw [if_pos (List.mem_map_of_mem hp)]; rfl
  rw [h1, h2, E]
end
end Go.Proofs.Ytccpkafmbmkmfaa
