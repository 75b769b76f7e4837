/- Package jobs' those, by what its function tells of each entry. Condition: at most 2^20 jobs. What the functions that package jobs hands to those tell of an entry. No condition. Package jobs' entry.live, Live, Evict, Rest, Claim, At, Mined, Len. Condition: at most 2^20 jobs. Package jobs' Claim, At, Mined, Len, Evict, Rest. Condition: at most 2^20 jobs. Slices of jobs; package jobs' List. Condition: at most 2^20 jobs. -/
import Derived.Test.YtccpkafmbmkmfaaJobMore
import Derived.Test.YtccpkafmbmkmfaaIdEq
import Derived.Test.YtccpkafmbmkmfaaStoreAt
namespace Go.Proofs.Ytccpkafmbmkmfaa
open Go.RowKit Go.Shelf
set_option linter.unusedVariables false
set_option linter.unusedSimpArgs false

/-- a call of a function value -/
theorem gives_callv {P : Program} {o : Oper} {a : Act} {w : World} {X : Value → World → Prop} {f : Nat} {cap : Array Value} {x : Operand} {ops : Array Operand} {ts : Array TypeId} (ho : o.op = .call { callee := .value x, args := ops, argTypes := ts }) (hx : a.eval x = .func (.func f) #[] cap) (vs : List Value) (hv : ops.toList.map a.eval = vs)
    (eg : ∀ args w, (callFunc f args).run P w = .ok (.enter f args) w) (h : Calls P f (vs.toArray ++ cap) w fun e w' => ∃ v, e = .returned v ∧ X v w') : Gives P o a w X := by
  subst hv
  have e : (ops.toList.map a.eval).toArray = ops.map a.eval := by cases ops; simp
  rw [e] at h
  unfold Gives execOp
  simp only [ho, resolve, hx, Deferred.ofValue]
  simp [invoke, eg, givesUpon]
  exact h
attribute [local go_sem] Gives givesUpon
attribute [local irreducible] Gives

/-- keys as cells -/
def keyC (L : List KeyT) : List Value := L.flatMap fun k => [c32 k.1, c32 k.2]
theorem keyC_len (L : List KeyT) : (keyC L).length = L.length * 2 := by
  induction L with
  | nil => rfl
  | cons p M ih => simp only [keyC, List.flatMap_cons, List.length_append, List.length_cons, List.length_nil] at ih ⊢; omega
theorem keyC_append (K L : List KeyT) : keyC (K ++ L) = keyC K ++ keyC L := by simp [keyC]
theorem keyC_get (L : List KeyT) (k : Nat) (h : k < L.length) : (keyC L)[k * 2]? = some (c32 L[k].1) ∧ (keyC L)[k * 2 + 1]? = some (c32 L[k].2) := by
  induction L generalizing k with
  | nil => simp at h
  | cons p L ih =>
    have e : keyC (p :: L) = [c32 p.1, c32 p.2] ++ keyC L := by simp [keyC]
    rw [e]
    cases k with
    | zero => exact ⟨rfl, rfl⟩
    | succ k =>
      have := ih k (by simpa using h)
      rw [List.getElem?_append_right (by simp; omega), List.getElem?_append_right (by simp; omega)]
      have e1 : (k + 1) * 2 - [c32 p.1, c32 p.2].length = k * 2 := by simp; omega
      have e2 : (k + 1) * 2 + 1 - [c32 p.1, c32 p.2].length = k * 2 + 1 := by simp; omega
      rw [e1, e2]
      simpa using this
theorem keyCells_eq (M : List (KeyT × EntryK)) : keyCells M = keyC (M.map (·.1)) := by simp [keyCells, keyC, List.flatMap_map]
/-- A ROW OF KEYS OF A CALL'S OWN, made since w0 -/
structure OwnKeys (w0 w : World) (v : Value) (L : List KeyT) : Prop where
  own : w.ownsRow w0.heap.size 68 2 v L.length (keyC L)
  below : Below w0.heap.size w0 w
section
variable {w0 w w' : World} {v v' : Value} {L : List KeyT}
theorem OwnKeys.none_ (h : Below w0.heap.size w0 w) : OwnKeys w0 w (.slice none 0 0) [] := ⟨⟨rfl, .inl ⟨rfl, rfl⟩⟩, h⟩
theorem OwnKeys.later (h : OwnKeys w0 w v L) (hb : Below w.heap.size w w') : OwnKeys w0 w' v L := ⟨own_block h.own fun r hr => hb.block r (own_lt h.own hr).2, below_next h.below hb⟩
theorem OwnKeys.slice (h : OwnKeys w0 w v L) : ∃ A c, v = .slice A L.length c ∧ L.length ≤ c := by
  obtain ⟨A, c, rfl⟩ := own_slice h.own
  exact ⟨A, c, rfl, own_cap h.own⟩
theorem OwnKeys.grown (h : OwnKeys w0 w v L) {k : KeyT} (own : w'.ownsRow w0.heap.size 68 2 v' (L.length + 1) (keyC L ++ [c32 k.1, c32 k.2])) (grow : w.grownBy w' v.ownBlock) : OwnKeys w0 w' v' (L ++ [k]) := by
  refine ⟨?_, below_appended h.below h.below.size h.own (Nat.le_refl _) grow⟩
  rw [List.length_append, keyC_append]; exact own
/-- the k-th key of a row -/
theorem keys_at {base : Nat} {A : Option Addr} {n c k : Nat} (h : w.ownsRow base 68 2 (.slice A n c) n (keyC L)) (hn : n = L.length) (hk : k < L.length) :
    ∃ g, A = some ⟨g, 0, none⟩ ∧ g < w.heap.size ∧ w.cell? ⟨g, k * 2, none⟩ = some (c32 L[k].1) ∧ w.cell? ⟨g, k * 2 + 1, none⟩ = some (c32 L[k].2) := by
  obtain ⟨g, cap, hv, _, hlt⟩ := h.form (by omega)
  have hA : A = some ⟨g, 0, none⟩ := by injection hv
  subst hA
  have hc := h.cells (g := g) rfl
  obtain ⟨g1, g2⟩ := keyC_get L k hk
  refine ⟨g, rfl, hlt, ?_, ?_⟩
  · have := hc _ _ g1; rwa [Addr.add_lit, Nat.zero_add] at this
  · have := hc _ _ g2; rwa [Addr.add_lit, Nat.zero_add] at this
end
theorem wpList_build_key {ops : Array Oper} {rest : List Oper} {o : Oper} {a : Act} {w : World} {Q : Exit → Act → World → Prop} (hgd : o.guard = none) (x : Operand) (ho : o.op = .buildSlice 92 1 #[(0, x)]) (f u : Value) (hx : a.eval x = .agg #[f, u])
    (h : wpList Try.prog ops Q rest (a.put o.dst (.slice (some ⟨w.heap.size, 0, none⟩) 1 1)) (w.alloc (.cells #[f, u] 68))) : wpList Try.prog ops Q (o :: rest) a w := by
  refine wpList_plain hgd fun _ hK => ?_
  unfold Oper.wp execOp
  simp only [ho, Sem.run_bind, List.map_toArray, List.map_cons, List.map_nil, hx, run_build_key w f u, Result.andThen_ok]
  exact hK _ _ h
theorem wpList_append_key {ops : Array Oper} {rest : List Oper} {o : Oper} {a : Act} {w : World} {Q : Exit → Act → World → Prop} (hgd : o.guard = none) (s x : Operand)
    (ho : o.op = .call { callee := .builtin .append, args := #[s, x], argTypes := #[92, 92] }) (w0 : World) (v : Value) (L : List KeyT) (hs : a.eval s = v) (h : OwnKeys w0 w v L)
    (g : Nat) (k : KeyT) (hx : a.eval x = .slice (some ⟨g, 0, none⟩) 1 1) (hg : Blk w g 68 #[c32 k.1, c32 k.2]) (hb : L.length ≤ 1099511627776)
    (hK : ∀ v' w', OwnKeys w0 w' v' (L ++ [k]) → w.grownBy w' v.ownBlock → wpList Try.prog ops Q rest (a.put o.dst v') w') : wpList Try.prog ops Q (o :: rest) a w := by
  obtain ⟨i, hi, hz0, hz1, hz2⟩ := info_parts info_jkey
  refine wpList_append_any w hgd s x 92 ho w0.heap.size 68 i _ 2 8 Try.underlying92 hi hz0 hz1 hz2 rfl (by omega) v L.length _ hs h.own w.heap.size (some ⟨g, 0, none⟩) 1 1 [c32 k.1, c32 k.2] hx ⟨rfl, fun _ => ⟨_, rfl, hg.lt, fun i y hy => ?_⟩⟩ (by simp [Value.oneCell', c32]) (by simp only [maxLen]; omega) (by omega) h.below.size ?_
  · rw [Addr.add_lit, Nat.zero_add, hg.cell]
    simpa using hy
  · intro v' w' own grow hv
    exact hK v' w' (h.grown own grow) grow
/-- what a function value tells of each entry -/
def Tells (w : World) (M : List (KeyT × EntryK)) (F : Nat) (cap : Array Value) (p : EntryK → Bool) : Prop :=
  ∀ q ∈ M, ∀ W, Below w.heap.size w W → Calls Try.prog F (#[.pointer (some ⟨q.2.blk, 0, none⟩)] ++ cap) W fun e w' => e = .returned (.bool (p q.2)) ∧ Below W.heap.size W w'
/-- the keys of some -/
def keysP (M : List (KeyT × EntryK)) (p : EntryK → Bool) : List KeyT := (M.filter fun q => p q.2).map (·.1)
theorem keysP_len (M : List (KeyT × EntryK)) (p : EntryK → Bool) : (keysP M p).length ≤ M.length := by unfold keysP; rw [List.length_map]; exact List.length_filter_le _ _
theorem keysP_take (M : List (KeyT × EntryK)) (p : EntryK → Bool) (k : Nat) (h : k < M.length) : keysP (M.take (k + 1)) p = keysP (M.take k) p ++ (if p M[k].2 then [M[k].1] else []) := by
  unfold keysP
  rw [List.take_succ_eq_append_getElem h, List.filter_append, List.map_append]
  by_cases hp : p M[k].2 = true <;> simp [hp]
set_option maxRecDepth 100000 in
set_option maxHeartbeats 1600000 in
theorem jthose_any (w : World) (S : Nat → Prop) (g b : Nat) (M : List (KeyT × EntryK)) (h : Tab w S g b M) (F : Nat) (hE : Enters Try.prog F) (cap : Array Value) (p : EntryK → Bool) (HF : Tells w M F cap p) (hl : M.length ≤ 1048576) :
    Calls Try.prog 87 #[.pointer (some ⟨g, 0, none⟩), .func (.func F) #[] cap] w fun e w' => ∃ v, e = .returned v ∧ OwnKeys w w' v (keysP M p) := by
  obtain ⟨F', ov, h⟩ := h
  have HN := hide (absent_live g b ov w h.head)
  have HT := hide h
  have HTe := hide HF
  have HEn := hide hE
  have ho := h.ord
  rw [keyCells_eq] at ho
  obtain ⟨A, c, rfl⟩ := own_slice ho
  have hcap := own_cap ho
  obtain ⟨n, hn⟩ : ∃ n, n = M.length := ⟨_, rfl⟩
  have HN' := hide hn
  have HO := hide ho
  rw [← hn] at hcap hl
  have c1 : w.cell? ⟨g, 1, none⟩ = some (.slice A n c) := by rw [hn]; exact (h.head.cell 1).trans rfl
  clear h HF hE ho hn
  go_enter Try.func87, Try.ntmps87
  go_wp2_with (first
    | (go_at_call 83; (with_reducible refine HN.out.mono ?_); rintro e w0 ⟨rfl, rfl⟩)
    | fail)
  go_loopw [5, 15] (fun x i wr => ∃ (k : Nat), k ≤ n ∧ i = .int .i64 (k : Int) ∧ Hid (OwnKeys w wr x (keysP (M.take k) p))) (fun _ i _ => n - (intOf i).toNat)
  case atStart => exact ⟨0, Nat.zero_le _, rfl, hide (OwnKeys.none_ (Below.refl _ _))⟩
  case round =>
    obtain ⟨wz, rfl⟩ : ∃ wz : World, wz = wr := ⟨_, rfl⟩
    obtain ⟨k, hk, rfl, HI⟩ := hrel
    by_cases hlt : k < n
    · have hd1 : decide ((k : Int) < (n : Int)) = true := by simpa using hlt
      have hkM : k < M.length := by rw [← HN'.out]; exact hlt
      obtain ⟨ga, rfl, hga, d0, d1⟩ := keys_at HO.out (by simp) (k := k) (by simpa using hkM)
      replace d0 := (HI.out.below.cell (p := ⟨ga, k * 2, none⟩) hga).trans d0
      replace d1 := (HI.out.below.cell (p := ⟨ga, k * 2 + 1, none⟩) hga).trans d1
      have HPl := hide (keysP_take M p k hkM)
      have hmem : M[k] ∈ M := List.getElem_mem hkM
      have hget := mget_mem HT.out.keysM (show (M[k].1, M[k].2) ∈ M from hmem)
      simp only [List.getElem_map] at d0 d1
      generalize (M[k]'hkM) = q at *
      obtain ⟨key, x⟩ := q
      dsimp only at d0 d1 HPl hget
      have hk0 : (0 : Int) ≤ (k : Int) := by omega
      obtain ⟨A3, c3, rfl, _⟩ := HI.out.slice
      have hil : (keysP (M.take k) p).length ≤ 1048576 := Nat.le_trans (keysP_len _ _) (by rw [List.length_take]; omega)
      generalize hks : keysP (M.take k) p = ks at *
      have HIl := hide hil
      have hTz := HT.out.below HI.out.below
      obtain ⟨W1, hW1⟩ : ∃ W1, W1 = wz.alloc (.cells #[c32 key.1, c32 key.2] 68) := ⟨_, rfl⟩
      have hb1 : Below wz.heap.size wz W1 := by rw [hW1]; exact (Below.refl _ _).alloc (Nat.le_refl _) _
      have hq1 : Blk W1 wz.heap.size 68 #[c32 key.1, c32 key.2] := by rw [hW1]; exact Blk.new wz _ _
      have hT1 := hTz.below hb1
      have HI1 := hide (HI.out.later hb1)
      have FC : Hid (∀ W, Below W1.heap.size W1 W → W.cell? ⟨g, 0, none⟩ = some (.map (some b))) := hide fun W hW => ((hT1.below hW).head.cell 0).trans rfl
      have FK : Hid (∀ W, Below W1.heap.size W1 W → W.cell? ⟨wz.heap.size, 0, none⟩ = some (c32 key.1) ∧ W.cell? ⟨wz.heap.size, 1, none⟩ = some (c32 key.2)) := hide fun W hW =>
        ⟨((hq1.below hW hq1.lt).cell 0).trans rfl, ((hq1.below hW hq1.lt).cell 1).trans rfl⟩
      have FL : Hid (∀ W, Below W1.heap.size W1 W → (Instr.lookup 97 (.map (some b)) (.agg #[c32 key.1, c32 key.2]) false).run Try.prog W = .ok (.pointer (some ⟨x.blk, 0, none⟩)) W) := hide fun W hW => by
        have := (hT1.below hW).map.lookup keyJ Try.underlying97 (a := key) trivial false (zero_entryp W)
        rw [ptrs_get, hget] at this
        exact this
      have HC := hide (fun W (hW : Below W1.heap.size W1 W) => HTe.out (key, x) hmem W (below_next HI1.out.below hW))
      clear hTz hb1 hq1 hT1 hget hmem hil HI hks
      go_upto_region 7 with (fail)
      rw [← hW1]
      clear hW1
      apply wp_region_rel (C := fun W' => Below W1.heap.size W1 W') (M := fun W W' => Below W.heap.size W W') (ss := [_, _, _, _, _, _, _, _]) (by kernel_rfl) (by kernel_rfl) (by kernel_rfl) (Below.refl _ _).drew
      iterate 7 (first
        | (apply relWalk_const (fun W => Below.refl _ _)
           · (intro W9 hC hF
              clear hF
              have c0 := FC.out W9 hC
              obtain ⟨q0, q1⟩ := FK.out W9 hC
              have fl := FL.out W9 hC
              clear hC
              go_simp
              with_reducible exact rfl)
           (try simp only [Act.put, List.setIfInBounds_toArray, List.set_cons_zero, List.set_cons_succ])))
      apply relWalk_constW (c := .bool (p x))
      · go_simp
      · intro W9 hC hF
        clear hF
        refine gives_callv rfl rfl [.pointer (some ⟨x.blk, 0, none⟩)] rfl (by first | exact HEn.out | exact fun _ _ => HEn.out _ _) ?_
        refine (HC.out W9 hC).mono ?_
        rintro e w' ⟨rfl, hb⟩
        exact ⟨_, rfl, rfl, below_next hC hb, hb⟩
      (try simp only [Act.put, List.setIfInBounds_toArray, List.set_cons_zero, List.set_cons_succ])
      refine relWalk_nil fun W2 hC hF => ?_
      clear hF
      have HI2 := hide (HI1.out.later hC)
      obtain ⟨q0, q1⟩ := FK.out W2 hC
      clear FC FK FL HC hC HI1
      cases hp : p x with
      | true =>
        have HPl2 : Hid (keysP (M.take (k + 1)) p = ks ++ [key]) := hide (by rw [HPl.out, hp]; rfl)
        clear hp
        go_wp2_with (first
          | ((with_reducible show wpList _ _ _ (⟨_, .buildSlice _ _ _, _, _, _, _⟩ :: _) _ _); refine wpList_build_key rfl _ rfl (c32 key.1) (c32 key.2) rfl ?_)
          | (at_builtin; refine wpList_append_key rfl (.tmp 27) (.tmp 29) rfl w _ ks rfl (HI2.out.later ((Below.refl _ _).alloc (Nat.le_refl _) _)) W2.heap.size key rfl (Blk.new W2 _ _) (by have := HIl.out; omega) ?_; intro v4 w4 O4' _; rw [← HPl2.out] at O4'; have O4 := hide O4'; clear O4')
          | fail)
        go_roundw
        case rel => exact ⟨k + 1, by omega, by go_num, O4⟩
        case measure => simp [intOf]; omega
      | false =>
        have HPl2 : Hid (keysP (M.take (k + 1)) p = ks) := hide (by rw [HPl.out, hp]; simp)
        replace HI2 : Hid (OwnKeys w W2 (.slice (A3) ks.length c3) (keysP (M.take (k + 1)) p)) := hide (by rw [HPl2.out]; exact HI2.out)
        clear hp
        go_wp2
        go_roundw
        case rel => exact ⟨k + 1, by omega, by go_num, HI2⟩
        case measure => simp [intOf]; omega
    · obtain rfl : k = n := by omega
      have HPl : Hid (keysP (M.take k) p = keysP M p) := hide (by rw [HN'.out, List.take_length])
      rw [HPl.out] at HI
      go_wp2
      go_ret
      exact ⟨_, rfl, HI.out⟩
end Go.Proofs.Ytccpkafmbmkmfaa
namespace Go.Proofs.Ytccpkafmbmkmfaa
open Go.RowKit Go.Shelf
set_option linter.unusedVariables false
set_option linter.unusedSimpArgs false
attribute [local go_sem] Gives givesUpon
attribute [local irreducible] Gives

theorem list1_any (v : Value) (w : World) : Calls Try.prog 88 #[v] w fun e w' => e = .returned (.bool true) ∧ w = w' := by
  go_enter Try.func88, Try.ntmps88
  go_wp2
  go_ret
  exact ⟨rfl, rfl⟩
theorem rest1_any (v : Value) (w : World) : Calls Try.prog 93 #[v] w fun e w' => e = .returned (.bool true) ∧ w = w' := by
  go_enter Try.func93, Try.ntmps93
  go_wp2
  go_ret
  exact ⟨rfl, rfl⟩
theorem c32_eq (a b : BitVec 32) : ((a.toNat : Int) == (b.toNat : Int)) = decide (a = b) := by
  rw [Bool.eq_iff_iff]
  simp only [beq_iff_eq, decide_eq_true_eq]
  exact ⟨fun h => BitVec.eq_of_toNat_eq (by omega), fun h => by rw [h]⟩
set_option maxRecDepth 100000 in
theorem at1_any (q : KeyT × EntryK) (F : Nat → Prop) (w : World) (hE : EntIs w F q) (r : Nat) (h : BitVec 32) (hr : Blk w r 22 #[c32 h]) :
    Calls Try.prog 99 #[.pointer (some ⟨q.2.blk, 0, none⟩), .pointer (some ⟨r, 0, none⟩)] w fun e w' => e = .returned (.bool (decide (q.2.job.height = h))) ∧ Below w.heap.size w w' := by
  obtain ⟨g34, g35, g36, g37, g38⟩ := entry_get hE.len
  have FE : Hid (∀ W, Below w.heap.size w W → W.cell? ⟨q.2.blk, 34, none⟩ = some (c32 q.2.job.height) ∧ W.cell? ⟨r, 0, none⟩ = some (c32 h)) := hide fun W hW =>
    ⟨((hE.blk.below hW hE.blk.lt).cell 34).trans g34, ((hr.below hW hr.lt).cell 0).trans rfl⟩
  have hq := c32_eq q.2.job.height h
  generalize decide (q.2.job.height = h) = bb at *
  clear hE hr g34 g35 g36 g37 g38
  go_enter Try.func99, Try.ntmps99
  go_wp2
  apply wp_region_rel (C := fun W' => Below w.heap.size w W') (M := fun W W' => Below W.heap.size W W') (ss := [_, _, _, _, _, _, _, _]) (by kernel_rfl) (by kernel_rfl) (by kernel_rfl) (Below.refl _ _).drew
  iterate 8 (first
    | (apply relWalk_const (fun W => Below.refl _ _)
       · (intro W9 hC hF
          clear hF
          obtain ⟨c0, c1⟩ := FE.out W9 hC
          clear hC
          go_simp
          with_reducible exact rfl)
       (try simp only [Act.put, List.setIfInBounds_toArray, List.set_cons_zero, List.set_cons_succ])))
  refine relWalk_nil fun W2 hC hF => ?_
  clear hF
  go_wp2
  go_ret
  exact ⟨rfl, hC⟩
set_option maxRecDepth 100000 in
theorem mined1_any (q : KeyT × EntryK) (F : Nat → Prop) (w : World) (hE : EntIs w F q) (r : Nat) (h : BitVec 32) (hr : Blk w r 22 #[c32 h]) :
    Calls Try.prog 100 #[.pointer (some ⟨q.2.blk, 0, none⟩), .pointer (some ⟨r, 0, none⟩)] w fun e w' => e = .returned (.bool (decide (h ≠ 0 ∧ q.2.job.mined = h))) ∧ Below w.heap.size w w' := by
  obtain ⟨g34, g35, g36, g37, g38⟩ := entry_get hE.len
  have FE : Hid (∀ W, Below w.heap.size w W → W.cell? ⟨q.2.blk, 35, none⟩ = some (c32 q.2.job.mined) ∧ W.cell? ⟨r, 0, none⟩ = some (c32 h)) := hide fun W hW =>
    ⟨((hE.blk.below hW hE.blk.lt).cell 35).trans g35, ((hr.below hW hr.lt).cell 0).trans rfl⟩
  clear hE hr g34 g35 g36 g37 g38
  by_cases h0 : h = 0
  · have hb : Hid (decide (h ≠ 0 ∧ q.2.job.mined = h) = false) := hide (decide_eq_false fun e => e.1 h0)
    rw [hb.out]
    have hz : ((h.toNat : Int) != 0) = false := by rw [h0]; rfl
    have hz2 : ((h.toNat : Int) == 0) = true := by rw [h0]; rfl
    have hz3 : h.toNat = 0 := by rw [h0]; rfl
    clear h0
    go_enter Try.func100, Try.ntmps100
    go_wp2
    apply wp_region_rel (C := fun W' => Below w.heap.size w W') (M := fun W W' => Below W.heap.size W W') (ss := [_, _, _, _, _, _, _, _, _, _, _, _]) (by kernel_rfl) (by kernel_rfl) (by kernel_rfl) (Below.refl _ _).drew
    iterate 12 (first
      | (apply relWalk_const (fun W => Below.refl _ _)
         · (intro W9 hC hF
            clear hF
            obtain ⟨c0, c1⟩ := FE.out W9 hC
            clear hC
            go_simp
            with_reducible exact rfl)
         (try simp only [Act.put, List.setIfInBounds_toArray, List.set_cons_zero, List.set_cons_succ])))
    refine relWalk_nil fun W2 hC hF => ?_
    clear hF
    go_wp2
    go_ret
    exact ⟨rfl, hC⟩
  · have hq := c32_eq q.2.job.mined h
    have hb : Hid (decide (h ≠ 0 ∧ q.2.job.mined = h) = decide (q.2.job.mined = h)) := hide (decide_eq_decide.2 ⟨fun e => e.2, fun e => ⟨h0, e⟩⟩)
    rw [hb.out]
    generalize decide (q.2.job.mined = h) = bb at *
    have h1 : h.toNat ≠ 0 := fun e => h0 (BitVec.eq_of_toNat_eq e)
    have hz : ((h.toNat : Int) != 0) = true := by simp; omega
    have hz2 : ((h.toNat : Int) == 0) = false := by simp; omega
    clear h0 hb
    go_enter Try.func100, Try.ntmps100
    go_wp2
    apply wp_region_rel (C := fun W' => Below w.heap.size w W') (M := fun W W' => Below W.heap.size W W') (ss := [_, _, _, _, _, _, _, _, _, _, _, _]) (by kernel_rfl) (by kernel_rfl) (by kernel_rfl) (Below.refl _ _).drew
    iterate 12 (first
      | (apply relWalk_const (fun W => Below.refl _ _)
         · (intro W9 hC hF
            clear hF
            obtain ⟨c0, c1⟩ := FE.out W9 hC
            clear hC
            go_simp
            with_reducible exact rfl)
         (try simp only [Act.put, List.setIfInBounds_toArray, List.set_cons_zero, List.set_cons_succ])))
    refine relWalk_nil fun W2 hC hF => ?_
    clear hF
    go_wp2
    go_ret
    exact ⟨rfl, hC⟩
/-- the k-th id, where it stands -/
theorem ids_at {w : World} {S : Nat → Prop} {A : Option Addr} {n c k : Nat} {ids : List (List (BitVec 8))} (h : IdsAt w S (.slice A n c) ids) (hid : Ids ids) (q : List (BitVec 8)) (hq : ids[k]? = some q) :
    ∃ g o, A = some ⟨g, o, none⟩ ∧ g < w.heap.size ∧ ∀ j v, (q.map c8)[j]? = some v → w.cell? ((⟨g, o + k * 32, none⟩ : Addr).add j) = some v := by
  obtain ⟨A', c', e, hr, hc⟩ := h
  injection e with e1 e2 e3
  subst e1
  have hk : k < ids.length := (List.getElem?_eq_some_iff.1 hq).1
  obtain ⟨g, o, rfl, hg, hcl⟩ := reads_id_at hr.reads hid q hq hk
  refine ⟨g, o, rfl, hg, fun j v hv => ?_⟩
  have := hcl j v hv
  rw [Addr.add_lit] at this ⊢
  rw [← this, Nat.add_assoc]
set_option maxRecDepth 100000 in
set_option maxHeartbeats 1600000 in
theorem idx_any (v : Value) (ids : List (List (BitVec 8))) (hid : Ids ids) (m : List (BitVec 8)) (R : Array Value) (hm : m.length = 32) (hR : IdVal m R) (w : World) (S : Nat → Prop) (h : IdsAt w S v ids) (hl : ids.length ≤ 1048576) :
    Calls Try.prog 119 #[v, .agg R] w fun e w' => ∃ z : Int, e = .returned (.int .i64 z) ∧ decide (0 ≤ z) = decide (m ∈ ids) ∧ (-1 ≤ z ∧ z < 1048576) ∧ Below w.heap.size w w' := by
  have HI0 := hide h
  obtain ⟨A, c, rfl, _, hc⟩ := h
  obtain ⟨n, hn⟩ : ∃ n, n = ids.length := ⟨_, rfl⟩
  have HN := hide hn
  rw [← hn] at hc hl HI0 ⊢
  clear hn
  have HId := hide hid
  have HR := hide hR
  have HM := hide hm
  obtain ⟨W0, hW0⟩ : ∃ W0, W0 = w.alloc (.cells R 70) := ⟨_, rfl⟩
  have HB := hide (show Below w.heap.size w W0 by rw [hW0]; exact (Below.refl _ _).alloc (Nat.le_refl _) _)
  have HQ := hide (show Blk W0 w.heap.size 70 R by rw [hW0]; exact Blk.new w _ _)
  clear hid hR hm
  go_enter Try.func119, Try.ntmps119
  go_wp2
  rw [← hW0]
  clear hW0
  go_loopw [8] (fun i wr => ∃ (k : Nat), k ≤ n ∧ i = .int .i64 (k : Int) ∧ Hid (Below W0.heap.size W0 wr) ∧ Hid (m ∉ ids.take k)) (fun i _ => n - (intOf i).toNat)
  case atStart => exact ⟨0, Nat.zero_le _, rfl, hide (Below.refl _ _), hide (by simp)⟩
  case round =>
    obtain ⟨wz, rfl⟩ : ∃ wz : World, wz = wr := ⟨_, rfl⟩
    obtain ⟨k, hk, rfl, HBk, HX⟩ := hrel
    by_cases hlt : k < n
    · have hd1 : decide ((k : Int) < (n : Int)) = true := by simpa using hlt
      have hkI : k < ids.length := by rw [← HN.out]; exact hlt
      obtain ⟨q, hq⟩ : ∃ q, ids[k]? = some q := ⟨_, List.getElem?_eq_getElem hkI⟩
      obtain ⟨g, o, rfl, hg, hcl⟩ := ids_at HI0.out HId.out q hq
      have hql : q.length = 32 := HId.out q (List.mem_of_getElem? hq)
      have hBz := below_next HB.out HBk.out
      have FL : Hid (∀ W, Below wz.heap.size wz W → ∀ j v, (q.map c8)[j]? = some v → W.cell? ((⟨g, o + k * 32, none⟩ : Addr).add j) = some v) := hide fun W hW j v hv =>
        ((below_next hBz hW).cell (p := (⟨g, o + k * 32, none⟩ : Addr).add j) (by rw [block_of_add]; exact hg)).trans (hcl j v hv)
      have FQ : Hid (∀ W, Below wz.heap.size wz W → Blk W w.heap.size 70 R) := hide fun W hW => HQ.out.below (below_next HBk.out hW) HQ.out.lt
      obtain ⟨RQ, hRQ⟩ := idVal q hql
      have HRQ := hide hRQ
      have heq : ∀ W : World, (Op.equalIn 10000 70 (.agg R) (.agg RQ)).run Try.prog W = .ok (decide (m = q)) W := fun W => by
        rw [HR.out.val, HRQ.out.val]; exact eq_id m q HM.out hql W
      have HIq : Hid ((Try.prog.info? 70).map (·.size) = some (q.map c8).length) := hide (by rw [List.length_map, hql]; exact info_id)
      have HIR := hide HR.out.info
      have HIn : Hid (ids.take (k + 1) = ids.take k ++ [q]) := hide (by rw [List.take_add_one, hq]; rfl)
      have HMm : Hid (q ∈ ids) := hide (List.mem_of_getElem? hq)
      have hk0 : (0 : Int) ≤ (k : Int) := by omega
      clear hcl hRQ hq hBz hql
      by_cases he : m = q
      · rw [decide_eq_true he] at heq
        have HYes : Hid (m ∈ ids) := hide (by rw [he]; exact HMm.out)
        clear he HIn
        go_wp2
        apply wp_region_rel (C := fun W' => Below wz.heap.size wz W') (M := fun W W' => Below W.heap.size W W') (ss := [_, _, _, _, _, _]) (by kernel_rfl) (by kernel_rfl) (by kernel_rfl) (Below.refl _ _).drew
        apply relWalk_const (c := .agg R) (fun W => Below.refl _ _)
        · intro W9 hC hF
          clear hF
          rw [if_pos (wanted_none _ rfl)]
          exact gives_load_row 70 _ rfl w.heap.size rfl 70 R (0, 0) _ (FQ.out W9 hC) Try.underlying70 rfl HIR.out ⟨rfl, rfl⟩
        (try simp only [Act.put, List.setIfInBounds_toArray, List.set_cons_zero, List.set_cons_succ])
        iterate 3 (first
          | (apply relWalk_const (fun W => Below.refl _ _)
             · (intro W9 hC hF
                clear hF hC
                go_simp
                with_reducible exact rfl)
             (try simp only [Act.put, List.setIfInBounds_toArray, List.set_cons_zero, List.set_cons_succ])))
        apply relWalk_const (c := .agg RQ) (fun W => Below.refl _ _)
        · intro W9 hC hF
          clear hF
          rw [if_pos (wanted_none _ rfl)]
          exact gives_load_at 70 _ rfl ⟨g, o + k * 32, none⟩ rfl (q.map c8) _ Try.underlying70 rfl HIq.out (FL.out W9 hC) ⟨by rw [HRQ.out.val], rfl⟩
        (try simp only [Act.put, List.setIfInBounds_toArray, List.set_cons_zero, List.set_cons_succ])
        iterate 1 (first
          | (apply relWalk_const (fun W => Below.refl _ _)
             · (intro W9 hC hF
                clear hF hC
                go_simp
                with_reducible exact rfl)
             (try simp only [Act.put, List.setIfInBounds_toArray, List.set_cons_zero, List.set_cons_succ])))
        refine relWalk_nil fun W2 hC hF => ?_
        clear hF
        go_wp2
        go_ret
        exact ⟨_, rfl, by rw [decide_eq_true hk0, decide_eq_true HYes.out], ⟨by omega, by omega⟩, below_next (below_next HB.out HBk.out) hC⟩
      · rw [decide_eq_false he] at heq
        have HNo : Hid (m ∉ ids.take (k + 1)) := hide (by rw [HIn.out]; simp only [List.mem_append, List.mem_singleton, not_or]; exact ⟨HX.out, he⟩)
        clear he HIn
        go_wp2
        apply wp_region_rel (C := fun W' => Below wz.heap.size wz W') (M := fun W W' => Below W.heap.size W W') (ss := [_, _, _, _, _, _]) (by kernel_rfl) (by kernel_rfl) (by kernel_rfl) (Below.refl _ _).drew
        apply relWalk_const (c := .agg R) (fun W => Below.refl _ _)
        · intro W9 hC hF
          clear hF
          rw [if_pos (wanted_none _ rfl)]
          exact gives_load_row 70 _ rfl w.heap.size rfl 70 R (0, 0) _ (FQ.out W9 hC) Try.underlying70 rfl HIR.out ⟨rfl, rfl⟩
        (try simp only [Act.put, List.setIfInBounds_toArray, List.set_cons_zero, List.set_cons_succ])
        iterate 3 (first
          | (apply relWalk_const (fun W => Below.refl _ _)
             · (intro W9 hC hF
                clear hF hC
                go_simp
                with_reducible exact rfl)
             (try simp only [Act.put, List.setIfInBounds_toArray, List.set_cons_zero, List.set_cons_succ])))
        apply relWalk_const (c := .agg RQ) (fun W => Below.refl _ _)
        · intro W9 hC hF
          clear hF
          rw [if_pos (wanted_none _ rfl)]
          exact gives_load_at 70 _ rfl ⟨g, o + k * 32, none⟩ rfl (q.map c8) _ Try.underlying70 rfl HIq.out (FL.out W9 hC) ⟨by rw [HRQ.out.val], rfl⟩
        (try simp only [Act.put, List.setIfInBounds_toArray, List.set_cons_zero, List.set_cons_succ])
        iterate 1 (first
          | (apply relWalk_const (fun W => Below.refl _ _)
             · (intro W9 hC hF
                clear hF hC
                go_simp
                with_reducible exact rfl)
             (try simp only [Act.put, List.setIfInBounds_toArray, List.set_cons_zero, List.set_cons_succ])))
        refine relWalk_nil fun W2 hC hF => ?_
        clear hF
        go_wp2
        go_roundw
        case rel => exact ⟨k + 1, by omega, by go_num, hide (below_next HBk.out hC), HNo⟩
        case measure => simp [intOf]; omega
    · obtain rfl : k = n := by omega
      have HNo : Hid (m ∉ ids) := hide (by have := HX.out; rwa [HN.out, List.take_length] at this)
      go_wp2
      go_ret
      exact ⟨_, rfl, by rw [decide_eq_false HNo.out]; rfl, ⟨by omega, by omega⟩, below_next HB.out HBk.out⟩
set_option maxRecDepth 100000 in
theorem has_any (v : Value) (ids : List (List (BitVec 8))) (hid : Ids ids) (m : List (BitVec 8)) (R : Array Value) (hm : m.length = 32) (hR : IdVal m R) (w : World) (S : Nat → Prop) (h : IdsAt w S v ids) (hl : ids.length ≤ 1048576) :
    Calls Try.prog 98 #[v, .agg R] w fun e w' => e = .returned (.bool (decide (m ∈ ids))) ∧ Below w.heap.size w w' := by
  obtain ⟨W0, hW0⟩ : ∃ W0, W0 = w.alloc (.cells R 70) := ⟨_, rfl⟩
  have hb0 : Below w.heap.size w W0 := by rw [hW0]; exact (Below.refl _ _).alloc (Nat.le_refl _) _
  have HB := hide hb0
  have HQ := hide (show Blk W0 w.heap.size 70 R by rw [hW0]; exact Blk.new w _ _)
  have HC := hide (idx_any v ids hid m R hm hR W0 S (h.keep hb0.size fun i hi _ => hb0.block i hi) hl)
  have HIR := hide hR.info
  obtain ⟨A, c, rfl, _, _⟩ := h
  generalize decide (m ∈ ids) = bb at *
  clear hb0 hid hR hm
  go_enter Try.func98, Try.ntmps98
  go_upto_region 1 with (fail)
  rw [← hW0]
  clear hW0
  go_wp2_with (first
    | ((with_reducible show wpList _ _ _ (⟨_, .load _ _, _, _, _, _⟩ :: _) _ _); refine wpList_load_row rfl 70 _ rfl w.heap.size rfl 70 R (0, 0) _ HQ.out Try.underlying70 rfl HIR.out ?_)
    | (go_at_call 119; (with_reducible refine HC.out.mono ?_); rintro e w1 ⟨z, rfl, hz, ⟨hz1, hz2⟩, hb1⟩; have HB1 := hide hb1; clear hb1)
    | fail)
  go_ret
  exact ⟨rfl, below_next HB.out HB1.out⟩
set_option maxRecDepth 100000 in
theorem claim1_any (q : KeyT × EntryK) (F : Nat → Prop) (w : World) (hE : EntIs w F q) (r : Nat) (m : List (BitVec 8)) (R : Array Value) (hm : m.length = 32) (hR : IdVal m R) (hr : Blk w r 70 R) :
    Calls Try.prog 97 #[.pointer (some ⟨q.2.blk, 0, none⟩), .pointer (some ⟨r, 0, none⟩)] w fun e w' => e = .returned (.bool (decide (m ∈ idsOf (plainT q.2.K)))) ∧ Below w.heap.size w w' := by
  obtain ⟨g34, g35, g36, g37, g38⟩ := entry_get hE.len
  have FE : Hid (∀ W, Below w.heap.size w W → W.cell? ⟨q.2.blk, 38, none⟩ = some q.2.iv) := hide fun W hW => ((hE.blk.below hW hE.blk.lt).cell 38).trans g38
  have FR : Hid (∀ W, Below w.heap.size w W → Blk W r 70 R) := hide fun W hW => hr.below hW hr.lt
  have hml := (modest_right hE.right).1
  have HC : Hid (∀ W, Below w.heap.size w W → Calls Try.prog 98 #[q.2.iv, .agg R] W fun e w' => e = .returned (.bool (decide (m ∈ idsOf (plainT q.2.K)))) ∧ Below W.heap.size W w') := hide fun W hW =>
    has_any q.2.iv _ (ids_idsOf _) m R hm hR W F (hE.ids.keep hW.size fun i hi _ => hW.block i hi) (by simp [idsOf, plainT]; exact hml)
  have HIR := hide hR.info
  obtain ⟨A, c, e, _, _⟩ := hE.ids
  generalize q.2.iv = iv at *
  subst e
  generalize decide (m ∈ idsOf (plainT q.2.K)) = bb at *
  clear hE hr g34 g35 g36 g37 g38 hR hm hml
  go_enter Try.func97, Try.ntmps97
  go_wp2
  apply wp_region_rel (C := fun W' => Below w.heap.size w W') (M := fun W W' => Below W.heap.size W W') (ss := [_, _, _, _, _, _, _]) (by kernel_rfl) (by kernel_rfl) (by kernel_rfl) (Below.refl _ _).drew
  iterate 4 (first
    | (apply relWalk_const (fun W => Below.refl _ _)
       · (intro W9 hC hF
          clear hF
          have c0 := FE.out W9 hC
          clear hC
          go_simp
          with_reducible exact rfl)
       (try simp only [Act.put, List.setIfInBounds_toArray, List.set_cons_zero, List.set_cons_succ])))
  apply relWalk_const (c := .agg R) (fun W => Below.refl _ _)
  · intro W9 hC hF
    clear hF
    rw [if_pos (wanted_none _ rfl)]
    exact gives_load_row 70 _ rfl r rfl 70 R (0, 0) _ (FR.out W9 hC) Try.underlying70 rfl HIR.out ⟨rfl, rfl⟩
  (try simp only [Act.put, List.setIfInBounds_toArray, List.set_cons_zero, List.set_cons_succ])
  apply relWalk_constW (c := .bool bb)
  · go_simp
  · intro W9 hC hF
    clear hF
    refine gives_call rfl [.slice A _ c, .agg R] rfl (enters_of Try.func98 (by kernel_rfl) rfl) ?_
    refine (HC.out W9 hC).mono ?_
    rintro e w' ⟨rfl, hb⟩
    exact ⟨_, rfl, rfl, below_next hC hb, hb⟩
  (try simp only [Act.put, List.setIfInBounds_toArray, List.set_cons_zero, List.set_cons_succ])
  iterate 1 (first
    | (apply relWalk_const (fun W => Below.refl _ _)
       · (intro W9 hC hF
          clear hF hC
          go_simp
          with_reducible exact rfl)
       (try simp only [Act.put, List.setIfInBounds_toArray, List.set_cons_zero, List.set_cons_succ])))
  refine relWalk_nil fun W2 hC hF => ?_
  clear hF
  go_wp2
  go_ret
  exact ⟨rfl, hC⟩
/-- is a tier live, and has it this id -/
def evP (m : List (BitVec 8)) (x : EntryK) : Bool := decide (x.job.live ≠ -1 ∧ (idsOf (plainT x.K))[x.job.live.toNat]? = some m)
set_option maxRecDepth 100000 in
set_option maxHeartbeats 800000 in
theorem evict1_any (q : KeyT × EntryK) (F : Nat → Prop) (w : World) (hE : EntIs w F q) (r : Nat) (m : List (BitVec 8)) (R : Array Value) (hm : m.length = 32) (hR : IdVal m R) (hr : Blk w r 70 R) :
    Calls Try.prog 92 #[.pointer (some ⟨q.2.blk, 0, none⟩), .pointer (some ⟨r, 0, none⟩)] w fun e w' => e = .returned (.bool (evP m q.2)) ∧ Below w.heap.size w w' := by
  obtain ⟨g34, g35, g36, g37, g38⟩ := entry_get hE.len
  have FE : Hid (∀ W, Below w.heap.size w W → W.cell? ⟨q.2.blk, 38, none⟩ = some q.2.iv ∧ W.cell? ⟨q.2.blk, 36, none⟩ = some (ci q.2.job.live)) := hide fun W hW => ⟨((hE.blk.below hW hE.blk.lt).cell 38).trans g38, ((hE.blk.below hW hE.blk.lt).cell 36).trans g36⟩
  have FR : Hid (∀ W, Below w.heap.size w W → Blk W r 70 R) := hide fun W hW => hr.below hW hr.lt
  have HIR := hide hR.info
  have hri := hE.right
  unfold rightJ at hri
  simp only [Bool.and_eq_true, Bool.or_eq_true, decide_eq_true_eq] at hri
  obtain ⟨_, _, hl1, hl2, _⟩ := hri
  have hml := (modest_right hE.right).1
  have hpl : (plainT q.2.K).length = q.2.K.length := by simp [plainT]
  have hil : (idsOf (plainT q.2.K)).length = q.2.K.length := by simp [idsOf, plainT]
  by_cases h1 : q.2.job.live = -1
  · have HR1 : Hid (evP m q.2 = false) := hide (by unfold evP; exact decide_eq_false fun e => e.1 h1)
    rw [HR1.out]
    generalize q.2.job.live = lv at *
    subst h1
    clear hE hr g34 g35 g36 g37 g38 hR hm hml hl1 hl2
    go_enter Try.func92, Try.ntmps92
    go_wp2
    apply wp_region_rel (C := fun W' => Below w.heap.size w W') (M := fun W W' => Below W.heap.size W W') (ss := [_, _, _, _, _, _, _, _, _, _, _, _, _, _, _, _, _, _, _, _, _, _]) (by kernel_rfl) (by kernel_rfl) (by kernel_rfl) (Below.refl _ _).drew
    iterate 22 (first
      | (apply relWalk_const (fun W => Below.refl _ _)
         · (intro W9 hC hF
            clear hF
            obtain ⟨c0, c1⟩ := FE.out W9 hC
            clear hC
            go_simp
            with_reducible exact rfl)
         (try simp only [Act.put, List.setIfInBounds_toArray, List.set_cons_zero, List.set_cons_succ])))
    refine relWalk_nil fun W2 hC hF => ?_
    clear hF
    go_wp2
    go_ret
    exact ⟨rfl, hC⟩
  · obtain ⟨k, hk⟩ : ∃ k : Nat, q.2.job.live = (k : Int) := ⟨q.2.job.live.toNat, by omega⟩
    have hkn : k < (idsOf (plainT q.2.K)).length := by rw [hil]; omega
    obtain ⟨x, hx⟩ : ∃ x, (idsOf (plainT q.2.K))[k]? = some x := ⟨_, List.getElem?_eq_getElem hkn⟩
    have HR1 : Hid (evP m q.2 = decide (x = m)) := hide (by
      unfold evP
      rw [hk, show ((k : Int)).toNat = k by simp, hx]
      exact decide_eq_decide.2 ⟨fun e => by injection e.2, fun e => ⟨by omega, by rw [e]⟩⟩)
    have hxl : x.length = 32 := ids_idsOf _ x (List.mem_of_getElem? hx)
    obtain ⟨RQ, hRQ⟩ := idVal x hxl
    have HRQ := hide hRQ
    have heq : ∀ W : World, (Op.equalIn 10000 70 (.agg RQ) (.agg R)).run Try.prog W = .ok (decide (x = m)) W := fun W => by
      rw [hR.val, HRQ.out.val]; exact eq_id x m hxl hm W
    have HIq : Hid ((Try.prog.info? 70).map (·.size) = some (x.map c8).length) := hide (by rw [List.length_map, hxl]; exact info_id)
    obtain ⟨A, c, e, hrd, hc⟩ := hE.ids
    have hIA : IdsAt w F (.slice A (idsOf (plainT q.2.K)).length c) (idsOf (plainT q.2.K)) := ⟨A, c, rfl, hrd, hc⟩
    obtain ⟨g, o, rfl, hg, hcl⟩ := ids_at hIA (ids_idsOf _) x hx
    have FL : Hid (∀ W, Below w.heap.size w W → ∀ j v, (x.map c8)[j]? = some v → W.cell? ((⟨g, o + k * 32, none⟩ : Addr).add j) = some v) := hide fun W hW j v hv =>
      (hW.cell (p := (⟨g, o + k * 32, none⟩ : Addr).add j) (by rw [block_of_add]; exact hg)).trans (hcl j v hv)
    rw [HR1.out]
    generalize decide (x = m) = bb at *
    generalize q.2.iv = iv at *
    generalize q.2.job.live = lv at *
    subst hk e
    obtain ⟨n, hn⟩ : ∃ n, n = (idsOf (plainT q.2.K)).length := ⟨_, rfl⟩
    rw [← hn] at FE hkn
    have h0 : (0 : Int) ≤ (k : Int) := by omega
    have hnl : n ≤ 1048576 := by omega
    have hne : ((k : Int) != -1) = true := by simp
    clear hE hr g34 g35 g36 g37 g38 hR hm hml hl1 hl2 hIA hrd hc hx hxl hRQ hcl hg h1 hn hil hpl
    go_enter Try.func92, Try.ntmps92
    go_wp2
    apply wp_region_rel (C := fun W' => Below w.heap.size w W') (M := fun W W' => Below W.heap.size W W') (ss := [_, _, _, _, _, _, _, _, _, _, _, _, _, _, _, _, _, _, _, _, _, _]) (by kernel_rfl) (by kernel_rfl) (by kernel_rfl) (Below.refl _ _).drew
    iterate 17 (first
      | (apply relWalk_const (fun W => Below.refl _ _)
         · (intro W9 hC hF
            clear hF
            obtain ⟨c0, c1⟩ := FE.out W9 hC
            clear hC
            go_simp
            with_reducible exact rfl)
         (try simp only [Act.put, List.setIfInBounds_toArray, List.set_cons_zero, List.set_cons_succ])))
    apply relWalk_const (c := .agg RQ) (fun W => Below.refl _ _)
    · intro W9 hC hF
      clear hF
      rw [if_pos (by go_simp)]
      exact gives_load_at 70 _ rfl ⟨g, o + k * 32, none⟩ rfl (x.map c8) _ Try.underlying70 rfl HIq.out (FL.out W9 hC) ⟨by rw [HRQ.out.val], rfl⟩
    (try simp only [Act.put, List.setIfInBounds_toArray, List.set_cons_zero, List.set_cons_succ])
    apply relWalk_const (c := .agg R) (fun W => Below.refl _ _)
    · intro W9 hC hF
      clear hF
      rw [if_pos (by go_simp)]
      exact gives_load_row 70 _ rfl r rfl 70 R (0, 0) _ (FR.out W9 hC) Try.underlying70 rfl HIR.out ⟨rfl, rfl⟩
    (try simp only [Act.put, List.setIfInBounds_toArray, List.set_cons_zero, List.set_cons_succ])
    iterate 3 (first
      | (apply relWalk_const (fun W => Below.refl _ _)
         · (intro W9 hC hF
            clear hF
            obtain ⟨c0, c1⟩ := FE.out W9 hC
            clear hC
            go_simp
            with_reducible exact rfl)
         (try simp only [Act.put, List.setIfInBounds_toArray, List.set_cons_zero, List.set_cons_succ])))
    refine relWalk_nil fun W2 hC hF => ?_
    clear hF
    go_wp2
    go_ret
    exact ⟨rfl, hC⟩
end Go.Proofs.Ytccpkafmbmkmfaa
namespace Go.Proofs.Ytccpkafmbmkmfaa
open Go.RowKit Go.Shelf
set_option linter.unusedVariables false
set_option linter.unusedSimpArgs false
attribute [local go_sem] Gives givesUpon
attribute [local irreducible] Gives

def deadJ (x : EntryK) : EntryK := { x with job := { x.job with live := -1 } }
/-- those of these keys have no live tier -/
def dead (ks : List KeyT) (M : List (KeyT × EntryK)) : List (KeyT × EntryK) := M.map fun p => if p.1 ∈ ks then (p.1, deadJ p.2) else p
theorem dead_nil (M : List (KeyT × EntryK)) : dead [] M = M := by simp [dead]
theorem dead_fst (ks : List KeyT) (M : List (KeyT × EntryK)) : (dead ks M).map (·.1) = M.map (·.1) := by
  unfold dead
  rw [List.map_map]
  refine List.map_congr_left fun p _ => ?_
  simp only [Function.comp]
  split <;> rfl
theorem dead_len (ks : List KeyT) (M : List (KeyT × EntryK)) : (dead ks M).length = M.length := by simp [dead]
theorem mget_dead (ks : List KeyT) (M : List (KeyT × EntryK)) (k : KeyT) : mget (dead ks M) k = (mget M k).map fun x => if k ∈ ks then deadJ x else x := by
  induction M with
  | nil => rfl
  | cons p M ih =>
    have e : dead ks (p :: M) = (if p.1 ∈ ks then (p.1, deadJ p.2) else p) :: dead ks M := rfl
    have hf : (if p.1 ∈ ks then (p.1, deadJ p.2) else p).1 = p.1 := by split <;> rfl
    rw [e]
    unfold mget at ih ⊢
    rw [List.find?_cons, List.find?_cons, hf]
    by_cases h : p.1 = k
    · subst h
      simp only [decide_true, Option.map_some]
      split <;> rfl
    · simp only [decide_eq_false h]; exact ih
theorem dead_mput {ks : List KeyT} {M : List (KeyT × EntryK)} (hk : MKeys M) {k : KeyT} {x : EntryK} (hx : mget (dead ks M) k = some x) : mput (dead ks M) k (deadJ x) = dead (ks ++ [k]) M := by
  rw [mput_some hx]
  unfold dead
  rw [List.map_map]
  refine List.map_congr_left fun p hp => ?_
  simp only [Function.comp]
  have hf : (if p.1 ∈ ks then (p.1, deadJ p.2) else p).1 = p.1 := by split <;> rfl
  rw [hf]
  by_cases h : p.1 = k
  · rw [if_pos h, if_pos (by simp [h])]
    have hm : mget M k = some p.2 := mget_mem hk (by rw [← h]; exact hp)
    rw [mget_dead, hm] at hx
    injection hx with hx
    rw [← hx, h]
    split <;> rfl
  · rw [if_neg h]
    simp only [List.mem_append, List.mem_singleton, h, or_false]
theorem right_dead {j : JobM} {L : List TierV} (h : rightJ j L = true) : rightJ { j with live := -1 } L = true := by
  unfold rightJ at h ⊢
  simp only [Bool.and_eq_true, Bool.or_eq_true, decide_eq_true_eq] at h ⊢
  obtain ⟨h1, h2, h3, h4, _⟩ := h
  exact ⟨h1, h2, by omega, by omega, .inr trivial⟩
theorem right_live {j : JobM} {L : List TierV} (h : rightJ j L = true) (hm : j.mined.toNat = 0) {t : Int} (h1 : -1 ≤ t) (h2 : t < (L.length : Int)) : rightJ { j with live := t } L = true := by
  unfold rightJ at h ⊢
  simp only [Bool.and_eq_true, Bool.or_eq_true, decide_eq_true_eq] at h ⊢
  obtain ⟨h3, h4, _, _, _⟩ := h
  exact ⟨h3, h4, h1, h2, .inl hm⟩
set_option maxRecDepth 100000 in
theorem elive_any (w : World) (e : Nat) (cs : Array Value) (h : Blk w e 130 cs) (hs : 36 < cs.size) (t : Int) :
    Calls Try.prog 91 #[.pointer (some ⟨e, 0, none⟩), .int .i64 t] w fun r w' => r = .returned (.tuple #[]) ∧ w' = w.setCell ⟨e, 36, none⟩ (ci t) := by
  have c36 : w.cell? ⟨e, 36, none⟩ = some cs[36] := (h.cell 36).trans (Array.getElem?_eq_getElem hs)
  have f36 : w.frozen? ⟨e, 36, none⟩ = false := h.frozen 36
  generalize cs[36] = u at c36
  clear h hs
  go_enter Try.func91, Try.ntmps91
  go_wp2
  go_end0
  exact ⟨rfl, rfl⟩
theorem entry_size {x : EntryK} (h : x.job.breach.length = 32) : (entryCells x).toArray.size = 39 := by simp [entryCells, jobCells, jobHead_len h]
/-- an entry's live tier is set -/
theorem TabIs.lived {w : World} {S F : Nat → Prop} {g b : Nat} {ov : Value} {M : List (KeyT × EntryK)} (h : TabIs w S F g b ov M) {k : KeyT} {x : EntryK} (hx : mget M k = some x) {t : Int} (hr : rightJ { x.job with live := t } (plainT x.K) = true) :
    TabIs (w.setCell ⟨x.blk, 36, none⟩ (ci t)) S F g b ov (mput M k { x with job := { x.job with live := t } }) := by
  have hE := h.ents _ (mget_some hx)
  refine h.upd hx { x.job with live := t } hE.len hE.key hr ?_ (by simp) (fun i hi hne => Below.heap_setCell _ _ _ _ hne)
  have := hE.blk.set_ 36 (ci t)
  rwa [entry_live hE.len] at this
set_option maxRecDepth 100000 in
theorem jlive_none (w : World) (S : Nat → Prop) (g b : Nat) (M : List (KeyT × EntryK)) (k : KeyT) (t : Int) (h : Tab w S g b M) (hn : mget M k = none) :
    Calls Try.prog 50 #[.pointer (some ⟨g, 0, none⟩), kf k, .int .i64 t] w fun e w' => e = .returned (.bool false) ∧ Below w.heap.size w w' := by
  obtain ⟨W0, hW0⟩ : ∃ W0, W0 = w.alloc (.cells #[c32 k.1, c32 k.2] 68) := ⟨_, rfl⟩
  have hb0 : Below w.heap.size w W0 := by rw [hW0]; exact (Below.refl _ _).alloc (Nat.le_refl _) _
  have hq0 : Blk W0 w.heap.size 68 #[c32 k.1, c32 k.2] := by rw [hW0]; exact Blk.new w _ _
  have q0 : W0.cell? ⟨w.heap.size, 0, none⟩ = some (c32 k.1) := (hq0.cell 0).trans rfl
  have q1 : W0.cell? ⟨w.heap.size, 1, none⟩ = some (c32 k.2) := (hq0.cell 1).trans rfl
  have HA := hide (jat_live W0 S g b M k (h.below hb0))
  rw [hn] at HA
  have HB := hide hb0
  clear hq0 hb0 h hn
  unfold kf at HA ⊢
  go_enter Try.func50, Try.ntmps50
  go_upto_region 1 with (fail)
  rw [← hW0]
  clear hW0
  go_wp2_with (first
    | (go_at_call 86; (with_reducible refine HA.out.mono ?_); rintro e w1 ⟨rfl, hb1⟩; rw [ptrOf_none]; have HB1 := hide (below_next HB.out hb1); clear hb1)
    | fail)
  go_ret
  exact ⟨rfl, HB1.out⟩
/-- may a tier become live -/
def mayLive (x : EntryK) (t : Int) : Prop := x.job.mined.toNat = 0 ∧ -1 ≤ t ∧ t < (x.K.length : Int)
set_option maxRecDepth 100000 in
set_option maxHeartbeats 800000 in
theorem jlive_no (w : World) (S : Nat → Prop) (g b : Nat) (M : List (KeyT × EntryK)) (k : KeyT) (t : Int) (x : EntryK) (h : Tab w S g b M) (hx : mget M k = some x) (hm : x.job.mined.toNat = 0) (ht : t < -1 ∨ (x.K.length : Int) ≤ t) :
    Calls Try.prog 50 #[.pointer (some ⟨g, 0, none⟩), kf k, .int .i64 t] w fun e w' => e = .returned (.bool false) ∧ Below w.heap.size w w' := by
  obtain ⟨W0, hW0⟩ : ∃ W0, W0 = w.alloc (.cells #[c32 k.1, c32 k.2] 68) := ⟨_, rfl⟩
  have hb0 : Below w.heap.size w W0 := by rw [hW0]; exact (Below.refl _ _).alloc (Nat.le_refl _) _
  have hq0 : Blk W0 w.heap.size 68 #[c32 k.1, c32 k.2] := by rw [hW0]; exact Blk.new w _ _
  have q0 : W0.cell? ⟨w.heap.size, 0, none⟩ = some (c32 k.1) := (hq0.cell 0).trans rfl
  have q1 : W0.cell? ⟨w.heap.size, 1, none⟩ = some (c32 k.2) := (hq0.cell 1).trans rfl
  have HA := hide (jat_live W0 S g b M k (h.below hb0))
  rw [hx] at HA
  have HB := hide hb0
  obtain ⟨F, ov, h⟩ := h
  have HE0 := hide (h.ents _ (mget_some hx))
  have e1 : ((x.job.mined.toNat : Int) != 0) = false := by simp; omega
  obtain ⟨A, c, hiv, _, _⟩ := HE0.out.ids
  have hn : (idsOf (plainT x.K)).length = x.K.length := by simp [idsOf, plainT]
  rw [hn] at hiv
  replace hiv := hide hiv
  clear hq0 hb0 hx h hm hn
  by_cases h1 : t < -1
  · have e2 : decide (t < -1) = true := by simp; omega
    clear ht
    unfold kf at HA ⊢
    go_enter Try.func50, Try.ntmps50
    go_upto_region 1 with (fail)
    rw [← hW0]
    clear hW0
    go_wp2_with (first
      | (go_at_call 86; (with_reducible refine HA.out.mono ?_); rintro e w1 ⟨rfl, hb1⟩; rw [show ptrOf (some x) = .pointer (some ⟨x.blk, 0, none⟩) from rfl]; have HB1 := hide (below_next HB.out hb1); have HBk := hide (HE0.out.blk.below HB1.out HE0.out.blk.lt); have y35 : w1.cell? ⟨x.blk, 35, none⟩ = some (c32 x.job.mined) := (HBk.out.cell 35).trans (entry_get HE0.out.len).2.1; clear hb1)
      | fail)
    go_ret
    exact ⟨rfl, HB1.out⟩
  · have e2 : decide (t < -1) = false := by simp; omega
    obtain ⟨n, hn⟩ : ∃ n, n = x.K.length := ⟨_, rfl⟩
    have e3 : decide ((n : Int) ≤ t) = true := by simp; omega
    rw [← hn] at hiv
    clear ht hn
    unfold kf at HA ⊢
    go_enter Try.func50, Try.ntmps50
    go_upto_region 1 with (fail)
    rw [← hW0]
    clear hW0
    go_wp2_with (first
      | (go_at_call 86; (with_reducible refine HA.out.mono ?_); rintro e w1 ⟨rfl, hb1⟩; rw [show ptrOf (some x) = .pointer (some ⟨x.blk, 0, none⟩) from rfl]; have HB1 := hide (below_next HB.out hb1); have HBk := hide (HE0.out.blk.below HB1.out HE0.out.blk.lt); have y35 : w1.cell? ⟨x.blk, 35, none⟩ = some (c32 x.job.mined) := (HBk.out.cell 35).trans (entry_get HE0.out.len).2.1; have y38 : w1.cell? ⟨x.blk, 38, none⟩ = some (.slice A n c) := (HBk.out.cell 38).trans ((entry_get HE0.out.len).2.2.2.2.trans (congrArg some hiv.out)); clear hb1)
      | fail)
    go_ret
    exact ⟨rfl, HB1.out⟩
set_option maxRecDepth 100000 in
set_option maxHeartbeats 800000 in
theorem jlive_yes (w : World) (S : Nat → Prop) (g b : Nat) (M : List (KeyT × EntryK)) (k : KeyT) (t : Int) (x : EntryK) (h : Tab w S g b M) (hx : mget M k = some x) (ht : mayLive x t) :
    Calls Try.prog 50 #[.pointer (some ⟨g, 0, none⟩), kf k, .int .i64 t] w fun e w' => e = .returned (.bool true) ∧ Tab w' S g b (mput M k { x with job := { x.job with live := t } }) ∧ Touch S w w' := by
  obtain ⟨hm, ht1, ht2⟩ := ht
  obtain ⟨W0, hW0⟩ : ∃ W0, W0 = w.alloc (.cells #[c32 k.1, c32 k.2] 68) := ⟨_, rfl⟩
  have hb0 : Below w.heap.size w W0 := by rw [hW0]; exact (Below.refl _ _).alloc (Nat.le_refl _) _
  have hq0 : Blk W0 w.heap.size 68 #[c32 k.1, c32 k.2] := by rw [hW0]; exact Blk.new w _ _
  have q0 : W0.cell? ⟨w.heap.size, 0, none⟩ = some (c32 k.1) := (hq0.cell 0).trans rfl
  have q1 : W0.cell? ⟨w.heap.size, 1, none⟩ = some (c32 k.2) := (hq0.cell 1).trans rfl
  have HA := hide (jat_live W0 S g b M k (h.below hb0))
  rw [hx] at HA
  have HB := hide hb0
  have HX := hide hx
  obtain ⟨F, ov, h⟩ := h
  have HT := hide h
  have HE0 := hide (h.ents _ (mget_some hx))
  have HSe := hide (h.se _ (mget_some hx))
  have hpl : (plainT x.K).length = x.K.length := by simp [plainT]
  have HRt := hide (right_live HE0.out.right hm ht1 (by rw [hpl]; exact ht2))
  have e1 : ((x.job.mined.toNat : Int) != 0) = false := by simp; omega
  obtain ⟨A, c, hiv, _, _⟩ := HE0.out.ids
  have hn : (idsOf (plainT x.K)).length = x.K.length := by simp [idsOf, plainT]
  rw [hn] at hiv
  replace hiv := hide hiv
  clear hq0 hb0 hx h hm hn hpl
  have e2 : decide (t < -1) = false := by simp; omega
  obtain ⟨n, hn⟩ : ∃ n, n = x.K.length := ⟨_, rfl⟩
  have e3 : decide ((n : Int) ≤ t) = false := by simp; omega
  rw [← hn] at hiv
  clear hn ht2
  have HLv := hide (fun w1 (hb : Below w.heap.size w w1) => elive_any w1 x.blk _ (HE0.out.blk.below hb HE0.out.blk.lt) (by rw [entry_size HE0.out.len]; omega) t)
  unfold kf at HA ⊢
  go_enter Try.func50, Try.ntmps50
  go_upto_region 1 with (fail)
  rw [← hW0]
  clear hW0
  go_wp2_with (first
    | (go_at_call 86; (with_reducible refine HA.out.mono ?_); rintro e w1 ⟨rfl, hb1⟩; rw [show ptrOf (some x) = .pointer (some ⟨x.blk, 0, none⟩) from rfl]; have HB1 := hide (below_next HB.out hb1); have HBk := hide (HE0.out.blk.below HB1.out HE0.out.blk.lt); have y35 : w1.cell? ⟨x.blk, 35, none⟩ = some (c32 x.job.mined) := (HBk.out.cell 35).trans (entry_get HE0.out.len).2.1; have y38 : w1.cell? ⟨x.blk, 38, none⟩ = some (.slice A n c) := (HBk.out.cell 38).trans ((entry_get HE0.out.len).2.2.2.2.trans (congrArg some hiv.out)); clear hb1)
    | (go_at_call 91; (with_reducible refine (HLv.out _ HB1.out).mono ?_); rintro e w2 ⟨rfl, rfl⟩)
    | fail)
  go_ret
  exact ⟨rfl, ⟨F, ov, (HT.out.below HB1.out).lived HX.out HRt.out⟩, (Touch.of_below HB1.out).setCell (p := ⟨x.blk, 36, none⟩) HSe.out.1 _⟩
end Go.Proofs.Ytccpkafmbmkmfaa
namespace Go.Proofs.Ytccpkafmbmkmfaa
open Go.RowKit Go.Shelf
set_option linter.unusedVariables false
set_option linter.unusedSimpArgs false
attribute [local go_sem] Gives givesUpon
attribute [local irreducible] Gives

theorem OwnKeys.less {w0 w1 w : World} {v : Value} {L : List KeyT} (h : OwnKeys w1 w v L) (hb : Below w0.heap.size w0 w1) : OwnKeys w0 w v L := ⟨own_less h.own hb.size, below_next hb h.below⟩
theorem keysP_mem {M : List (KeyT × EntryK)} {p : EntryK → Bool} {k : KeyT} (hM : MKeys M) (h : k ∈ keysP M p) : ∃ x, mget M k = some x ∧ (k, x) ∈ M := by
  unfold keysP at h
  obtain ⟨q, hq, rfl⟩ := List.mem_map.1 h
  have hq' := (List.mem_filter.1 hq).1
  exact ⟨q.2, mget_mem hM hq', hq'⟩
/-- what is left of a row of keys where entries turn -/
theorem keys_set {w0 w : World} {v : Value} {L : List KeyT} (h : w.ownsRow w0.heap.size 68 2 v L.length (keyC L)) {p : Addr} (hp : p.block < w0.heap.size) (u : Value) : (w.setCell p u).ownsRow w0.heap.size 68 2 v L.length (keyC L) :=
  own_block h fun r hr => Below.heap_setCell _ _ _ _ (fun e => by have := (own_lt h hr).1; omega)
theorem jlen_any (w : World) (S : Nat → Prop) (g b : Nat) (M : List (KeyT × EntryK)) (h : Tab w S g b M) :
    Calls Try.prog 59 #[.pointer (some ⟨g, 0, none⟩)] w fun e w' => e = .returned (.int .i64 (M.length : Int)) ∧ w = w' := by
  obtain ⟨F', ov, h⟩ := h
  have HN := hide (absent_live g b ov w h.head)
  obtain ⟨A, c, rfl⟩ := own_slice h.ord
  have c1 : w.cell? ⟨g, 1, none⟩ = some (.slice A M.length c) := (h.head.cell 1).trans rfl
  generalize M.length = n at *
  clear h
  go_enter Try.func59, Try.ntmps59
  go_wp2_with (first
    | (go_at_call 83; (with_reducible refine HN.out.mono ?_); rintro e w0 ⟨rfl, rfl⟩)
    | fail)
  go_ret
  exact ⟨rfl, rfl⟩

set_option maxRecDepth 100000 in
theorem jclaim_any (w : World) (S : Nat → Prop) (g b : Nat) (M : List (KeyT × EntryK)) (m : List (BitVec 8)) (R : Array Value) (hm : m.length = 32) (hR : IdVal m R) (h : Tab w S g b M) (hl : M.length ≤ 1048576) :
    Calls Try.prog 56 #[.pointer (some ⟨g, 0, none⟩), .agg R] w fun e w' => ∃ v, e = .returned v ∧ OwnKeys w w' v (keysP M (fun x => decide (m ∈ idsOf (plainT x.K)))) := by
  obtain ⟨W0, hW0⟩ : ∃ W0, W0 = w.alloc (.cells R 70) := ⟨_, rfl⟩
  have hb0 : Below w.heap.size w W0 := by rw [hW0]; exact (Below.refl _ _).alloc (Nat.le_refl _) _
  have hq0 : Blk W0 w.heap.size 70 R := by rw [hW0]; exact Blk.new w _ _
  have HB := hide hb0
  have h0 := h.below hb0
  obtain ⟨F', ov, hT⟩ := id h0
  have HA := hide (jthose_any W0 S g b M h0 97 (enters_of Try.func97 (by kernel_rfl) rfl) #[.pointer (some ⟨w.heap.size, 0, none⟩)] (fun x => decide (m ∈ idsOf (plainT x.K)))
    (fun q hq W hW => claim1_any q F' W ((hT.ents q hq).keep hW.size (hW.block _ (hT.ents q hq).blk.lt) (fun i hi _ => hW.block i hi)) w.heap.size m R hm hR (hq0.below hW hq0.lt)) hl)
  clear hb0 h h0 hT hq0
  go_enter Try.func56, Try.ntmps56
  go_upto_region 1 with (fail)
  rw [← hW0]
  clear hW0
  go_wp2_with (first
    | (go_at_call 87; (with_reducible refine HA.out.mono ?_); rintro e w1 ⟨v, rfl, ho⟩; have HO := hide (ho.less HB.out); clear ho)
    | fail)
  go_ret
  exact ⟨_, rfl, HO.out⟩

set_option maxRecDepth 100000 in
theorem jbyAt_any (w : World) (S : Nat → Prop) (g b : Nat) (M : List (KeyT × EntryK)) (m : BitVec 32) (h : Tab w S g b M) (hl : M.length ≤ 1048576) :
    Calls Try.prog 57 #[.pointer (some ⟨g, 0, none⟩), .int .u32 (m.toNat : Int)] w fun e w' => ∃ v, e = .returned v ∧ OwnKeys w w' v (keysP M (fun x => decide (x.job.height = m))) := by
  obtain ⟨W0, hW0⟩ : ∃ W0, W0 = w.alloc (.cells #[.int .u32 (m.toNat : Int)] 22) := ⟨_, rfl⟩
  have hb0 : Below w.heap.size w W0 := by rw [hW0]; exact (Below.refl _ _).alloc (Nat.le_refl _) _
  have hq0 : Blk W0 w.heap.size 22 #[.int .u32 (m.toNat : Int)] := by rw [hW0]; exact Blk.new w _ _
  have HB := hide hb0
  have h0 := h.below hb0
  obtain ⟨F', ov, hT⟩ := id h0
  have HA := hide (jthose_any W0 S g b M h0 99 (enters_of Try.func99 (by kernel_rfl) rfl) #[.pointer (some ⟨w.heap.size, 0, none⟩)] (fun x => decide (x.job.height = m))
    (fun q hq W hW => at1_any q F' W ((hT.ents q hq).keep hW.size (hW.block _ (hT.ents q hq).blk.lt) (fun i hi _ => hW.block i hi)) w.heap.size m (hq0.below hW hq0.lt)) hl)
  clear hb0 h h0 hT hq0
  go_enter Try.func57, Try.ntmps57
  go_upto_region 1 with (fail)
  rw [← hW0]
  clear hW0
  go_wp2_with (first
    | (go_at_call 87; (with_reducible refine HA.out.mono ?_); rintro e w1 ⟨v, rfl, ho⟩; have HO := hide (ho.less HB.out); clear ho)
    | fail)
  go_ret
  exact ⟨_, rfl, HO.out⟩

set_option maxRecDepth 100000 in
theorem jbyMined_any (w : World) (S : Nat → Prop) (g b : Nat) (M : List (KeyT × EntryK)) (m : BitVec 32) (h : Tab w S g b M) (hl : M.length ≤ 1048576) :
    Calls Try.prog 58 #[.pointer (some ⟨g, 0, none⟩), .int .u32 (m.toNat : Int)] w fun e w' => ∃ v, e = .returned v ∧ OwnKeys w w' v (keysP M (fun x => decide (m ≠ 0 ∧ x.job.mined = m))) := by
  obtain ⟨W0, hW0⟩ : ∃ W0, W0 = w.alloc (.cells #[.int .u32 (m.toNat : Int)] 22) := ⟨_, rfl⟩
  have hb0 : Below w.heap.size w W0 := by rw [hW0]; exact (Below.refl _ _).alloc (Nat.le_refl _) _
  have hq0 : Blk W0 w.heap.size 22 #[.int .u32 (m.toNat : Int)] := by rw [hW0]; exact Blk.new w _ _
  have HB := hide hb0
  have h0 := h.below hb0
  obtain ⟨F', ov, hT⟩ := id h0
  have HA := hide (jthose_any W0 S g b M h0 100 (enters_of Try.func100 (by kernel_rfl) rfl) #[.pointer (some ⟨w.heap.size, 0, none⟩)] (fun x => decide (m ≠ 0 ∧ x.job.mined = m))
    (fun q hq W hW => mined1_any q F' W ((hT.ents q hq).keep hW.size (hW.block _ (hT.ents q hq).blk.lt) (fun i hi _ => hW.block i hi)) w.heap.size m (hq0.below hW hq0.lt)) hl)
  clear hb0 h h0 hT hq0
  go_enter Try.func58, Try.ntmps58
  go_upto_region 1 with (fail)
  rw [← hW0]
  clear hW0
  go_wp2_with (first
    | (go_at_call 87; (with_reducible refine HA.out.mono ?_); rintro e w1 ⟨v, rfl, ho⟩; have HO := hide (ho.less HB.out); clear ho)
    | fail)
  go_ret
  exact ⟨_, rfl, HO.out⟩

set_option maxRecDepth 100000 in
set_option maxHeartbeats 1600000 in
theorem jevict_any (w : World) (S : Nat → Prop) (g b : Nat) (M : List (KeyT × EntryK)) (m : List (BitVec 8)) (R : Array Value) (hm : m.length = 32) (hR : IdVal m R) (h : Tab w S g b M) (hl : M.length ≤ 1048576) :
    Calls Try.prog 51 #[.pointer (some ⟨g, 0, none⟩), .agg R] w fun e w' => ∃ v, e = .returned v ∧ w'.ownsRow w.heap.size 68 2 v (keysP M (evP m)).length (keyC (keysP M (evP m))) ∧ Tab w' S g b (dead (keysP M (evP m)) M) ∧ Touch S w w' := by
  obtain ⟨W0, hW0⟩ : ∃ W0, W0 = w.alloc (.cells R 70) := ⟨_, rfl⟩
  have hb0 : Below w.heap.size w W0 := by rw [hW0]; exact (Below.refl _ _).alloc (Nat.le_refl _) _
  have hq0 : Blk W0 w.heap.size 70 R := by rw [hW0]; exact Blk.new w _ _
  have HB := hide hb0
  have h0 := h.below hb0
  obtain ⟨F', ov, hT⟩ := id h0
  obtain ⟨p, hp⟩ : ∃ p, p = evP m := ⟨_, rfl⟩
  have HA := hide (jthose_any W0 S g b M h0 92 (enters_of Try.func92 (by kernel_rfl) rfl) #[.pointer (some ⟨w.heap.size, 0, none⟩)] (evP m)
    (fun q hq W hW => evict1_any q F' W ((hT.ents q hq).keep hW.size (hW.block _ (hT.ents q hq).blk.lt) (fun i hi _ => hW.block i hi)) w.heap.size m R hm hR (hq0.below hW hq0.lt)) hl)
  rw [← hp] at HA ⊢
  have HT0 := hide h0
  obtain ⟨F1, ov1, h⟩ := h
  have HW := hide h
  clear hb0 h h0 hT hq0 hp
  obtain ⟨ks, hks⟩ : ∃ ks, ks = keysP M p := ⟨_, rfl⟩
  have HKs := hide hks
  rw [← hks] at HA ⊢
  clear hks
  have hkl : ks.length ≤ 1048576 := by rw [HKs.out]; exact Nat.le_trans (keysP_len _ _) hl
  go_enter Try.func51, Try.ntmps51
  go_upto_region 1 with (fail)
  rw [← hW0]
  clear hW0
  obtain ⟨n, hn⟩ : ∃ n, n = ks.length := ⟨_, rfl⟩
  have HN := hide hn
  rw [← hn] at hkl
  clear hn
  go_wp2_with (first
    | (go_at_call 87; (with_reducible refine HA.out.mono ?_); rintro e w1 ⟨v, rfl, ho⟩; obtain ⟨A, c, rfl, _⟩ := ho.slice; rw [← HN.out] at ho ⊢; have HT1 := hide (HT0.out.below ho.below); have HTc1 := hide (Touch.of_below (S := S) (below_next HB.out ho.below)); have HO1 := hide (own_less ho.own HB.out.size); have HS1 := hide (below_next HB.out ho.below).size; clear ho)
    | fail)
  go_loopw [13] (fun i wr => ∃ (k : Nat), k ≤ n ∧ i = .int .i64 (k : Int) ∧ Hid (Tab wr S g b (dead (ks.take k) M)) ∧ Hid (Touch S w wr) ∧ Hid (wr.ownsRow w.heap.size 68 2 (.slice A n c) ks.length (keyC ks)) ∧ Hid (w.heap.size ≤ wr.heap.size)) (fun i _ => n - (intOf i).toNat)
  case atStart => exact ⟨0, Nat.zero_le _, rfl, hide (by rw [List.take_zero, dead_nil]; exact HT1.out), HTc1, HO1, HS1⟩
  case round =>
    clear HT1 HTc1 HO1 HS1
    obtain ⟨wz, rfl⟩ : ∃ wz : World, wz = wr := ⟨_, rfl⟩
    obtain ⟨k, hk, rfl, HT, HTc, HO, HSz⟩ := hrel
    by_cases hlt : k < n
    · have hd1 : decide ((k : Int) < (n : Int)) = true := by simpa using hlt
      have hkK : k < ks.length := by rw [← HN.out]; exact hlt
      obtain ⟨ga, rfl, hga, d0, d1⟩ := keys_at (n := n) (by rw [HN.out]; have := HO.out; rwa [HN.out] at this) HN.out hkK
      obtain ⟨x0, hx0, hx0m⟩ := keysP_mem HW.out.keysM (by rw [← HKs.out]; exact List.getElem_mem hkK : ks[k] ∈ keysP M p)
      have hx1 : mget (dead (ks.take k) M) ks[k] = some (if ks[k] ∈ ks.take k then deadJ x0 else x0) := by rw [mget_dead, hx0]; rfl
      have htk : ks.take (k + 1) = ks.take k ++ [ks[k]] := List.take_succ_eq_append_getElem hkK
      have hblk : (if ks[k] ∈ ks.take k then deadJ x0 else x0).blk = x0.blk := by split <;> rfl
      have hxl : x0.blk < w.heap.size := (HW.out.ents _ hx0m).blk.lt
      have hxS : S x0.blk := (HW.out.se _ hx0m).1
      generalize (if ks[k] ∈ ks.take k then deadJ x0 else x0) = x at *
      generalize (ks[k]'hkK) = key at *
      rw [← hblk] at hxl hxS
      have hk0 : (0 : Int) ≤ (k : Int) := by omega
      have HXl := hide hxl
      have HXS := hide hxS
      have HX1 := hide hx1
      have HTk := hide htk
      obtain ⟨F', ov, hTz⟩ := HT.out
      obtain ⟨W1, hW1⟩ : ∃ W1, W1 = wz.alloc (.cells #[c32 key.1, c32 key.2] 68) := ⟨_, rfl⟩
      have hb1 : Below wz.heap.size wz W1 := by rw [hW1]; exact (Below.refl _ _).alloc (Nat.le_refl _) _
      have hq1 : Blk W1 wz.heap.size 68 #[c32 key.1, c32 key.2] := by rw [hW1]; exact Blk.new wz _ _
      have hT1 := hTz.below hb1
      have HB1 := hide hb1
      have HT1 := hide hT1
      have FC : Hid (∀ W, Below W1.heap.size W1 W → W.cell? ⟨g, 0, none⟩ = some (.map (some b))) := hide fun W hW => ((hT1.below hW).head.cell 0).trans rfl
      have FK : Hid (∀ W, Below W1.heap.size W1 W → W.cell? ⟨wz.heap.size, 0, none⟩ = some (c32 key.1) ∧ W.cell? ⟨wz.heap.size, 1, none⟩ = some (c32 key.2)) := hide fun W hW =>
        ⟨((hq1.below hW hq1.lt).cell 0).trans rfl, ((hq1.below hW hq1.lt).cell 1).trans rfl⟩
      have FL : Hid (∀ W, Below W1.heap.size W1 W → (Instr.lookup 97 (.map (some b)) (.agg #[c32 key.1, c32 key.2]) false).run Try.prog W = .ok (.pointer (some ⟨x.blk, 0, none⟩)) W) := hide fun W hW => by
        have := (hT1.below hW).map.lookup keyJ Try.underlying97 (a := key) trivial false (zero_entryp W)
        rw [ptrs_get, hx1] at this
        exact this
      have HLv := hide (fun W (hW : Below W1.heap.size W1 W) => elive_any W x.blk _ (((hT1.below hW).ents _ (mget_some hx1)).blk) (by rw [entry_size ((hT1.ents _ (mget_some hx1)).len)]; omega) (-1))
      clear hTz hb1 hq1 hT1 hx0 hx0m hx1 htk hblk hxl hxS HT
      go_upto_region 5 with (fail)
      rw [← hW1]
      clear hW1
      apply wp_region_relT 6 (C := fun W' => Below W1.heap.size W1 W') (M := fun W W' => Below W.heap.size W W') (ss := [_, _, _, _, _, _]) (by kernel_rfl) (by kernel_rfl) (by kernel_rfl) (by kernel_rfl) (Below.refl _ _).drew
      simp only [List.take_succ_cons, List.take_zero, List.drop_succ_cons, List.drop_zero]
      iterate 6 (first
        | (apply relWalk_const (fun W => Below.refl _ _)
           · (intro W9 hC hF
              clear hF
              have c0 := FC.out W9 hC
              obtain ⟨q0, q1⟩ := FK.out W9 hC
              have fl := FL.out W9 hC
              clear hC
              go_simp
              with_reducible exact rfl)
           (try simp only [Act.put, List.setIfInBounds_toArray, List.set_cons_zero, List.set_cons_succ])))
      refine relWalk_nil fun W2 hC hF => ?_
      clear hF
      have HC := hide (HLv.out W2 hC)
      have HTn : Hid (Tab (W2.setCell ⟨x.blk, 36, none⟩ (ci (-1))) S g b (dead (ks.take (k + 1)) M)) := hide (by
        refine ⟨F', ov, ?_⟩
        rw [HTk.out, ← dead_mput HW.out.keysM HX1.out]
        exact (HT1.out.below hC).lived HX1.out (right_dead ((HT1.out.ents _ (mget_some HX1.out)).right)))
      have HTcn : Hid (Touch S w (W2.setCell ⟨x.blk, 36, none⟩ (ci (-1)))) := hide (((HTc.out.then_below HB1.out).then_below hC).setCell (p := ⟨x.blk, 36, none⟩) HXS.out _)
      have HOn : Hid ((W2.setCell ⟨x.blk, 36, none⟩ (ci (-1))).ownsRow w.heap.size 68 2 (.slice (some ⟨ga, 0, none⟩) n c) ks.length (keyC ks)) := hide (keys_set (own_block HO.out fun r hr => (below_next HB1.out hC).block r (own_lt HO.out hr).2) (p := ⟨x.blk, 36, none⟩) HXl.out _)
      have HSn : Hid (w.heap.size ≤ (W2.setCell ⟨x.blk, 36, none⟩ (ci (-1))).heap.size) := hide (by simp; exact Nat.le_trans HSz.out (below_next HB1.out hC).size)
      clear FC FK FL HLv hC HT1 HB1 HTc HO HSz
      go_wp2_with (first
        | (go_at_call 91; (with_reducible refine HC.out.mono ?_); rintro e w9 ⟨rfl, rfl⟩)
        | fail)
      go_roundw
      case rel => exact ⟨k + 1, by omega, by go_num, HTn, HTcn, HOn, HSn⟩
      case measure => simp [intOf]; omega
    · obtain rfl : k = n := by omega
      have HKa : Hid (ks.take k = ks) := hide (by rw [HN.out, List.take_length])
      rw [HKa.out] at HT
      go_wp2
      go_ret
      exact ⟨_, rfl, by rw [HN.out]; have := HO.out; rwa [HN.out] at this, HT.out, HTc.out⟩

set_option maxRecDepth 100000 in
set_option maxHeartbeats 1600000 in
theorem jrest_any (w : World) (S : Nat → Prop) (g b : Nat) (M : List (KeyT × EntryK)) (h : Tab w S g b M) (hl : M.length ≤ 1048576) :
    Calls Try.prog 54 #[.pointer (some ⟨g, 0, none⟩)] w fun e w' => e = .returned (.tuple #[]) ∧ Tab w' S g b (dead (M.map (·.1)) M) ∧ Touch S w w' := by
  obtain ⟨p, hp⟩ : ∃ p : EntryK → Bool, p = fun _ => true := ⟨_, rfl⟩
  have HA := hide (jthose_any w S g b M h 93 (enters_of Try.func93 (by kernel_rfl) rfl) #[] p
    (fun q hq W hW => by rw [hp]; exact (rest1_any _ W).mono fun e w' h => ⟨h.1, h.2 ▸ Below.refl _ _⟩) hl)
  have HT0 := hide h
  obtain ⟨F1, ov1, h⟩ := h
  have HW := hide h
  have hkm : M.map (·.1) = keysP M p := by rw [hp]; unfold keysP; rw [List.filter_eq_self.2 (by simp)]
  rw [hkm]
  clear h hp hkm
  obtain ⟨ks, hks⟩ : ∃ ks, ks = keysP M p := ⟨_, rfl⟩
  have HKs := hide hks
  rw [← hks] at HA ⊢
  clear hks
  have hkl : ks.length ≤ 1048576 := by rw [HKs.out]; exact Nat.le_trans (keysP_len _ _) hl
  obtain ⟨n, hn⟩ : ∃ n, n = ks.length := ⟨_, rfl⟩
  have HN := hide hn
  rw [← hn] at hkl
  clear hn
  go_enter Try.func54, Try.ntmps54
  go_wp2_with (first
    | (go_at_call 87; (with_reducible refine HA.out.mono ?_); rintro e w1 ⟨v, rfl, ho⟩; obtain ⟨A, c, rfl, _⟩ := ho.slice; rw [← HN.out] at ho ⊢; have HT1 := hide (HT0.out.below ho.below); have HTc1 := hide (Touch.of_below (S := S) ho.below); have HO1 := hide ho.own; have HS1 := hide ho.below.size; clear ho)
    | fail)
  go_loopw [7] (fun i wr => ∃ (k : Nat), k ≤ n ∧ i = .int .i64 (k : Int) ∧ Hid (Tab wr S g b (dead (ks.take k) M)) ∧ Hid (Touch S w wr) ∧ Hid (wr.ownsRow w.heap.size 68 2 (.slice A n c) ks.length (keyC ks)) ∧ Hid (w.heap.size ≤ wr.heap.size)) (fun i _ => n - (intOf i).toNat)
  case atStart => exact ⟨0, Nat.zero_le _, rfl, hide (by rw [List.take_zero, dead_nil]; exact HT1.out), HTc1, HO1, HS1⟩
  case round =>
    clear HT1 HTc1 HO1 HS1
    obtain ⟨wz, rfl⟩ : ∃ wz : World, wz = wr := ⟨_, rfl⟩
    obtain ⟨k, hk, rfl, HT, HTc, HO, HSz⟩ := hrel
    by_cases hlt : k < n
    · have hd1 : decide ((k : Int) < (n : Int)) = true := by simpa using hlt
      have hkK : k < ks.length := by rw [← HN.out]; exact hlt
      obtain ⟨ga, rfl, hga, d0, d1⟩ := keys_at (n := n) (by rw [HN.out]; have := HO.out; rwa [HN.out] at this) HN.out hkK
      obtain ⟨x0, hx0, hx0m⟩ := keysP_mem HW.out.keysM (by rw [← HKs.out]; exact List.getElem_mem hkK : ks[k] ∈ keysP M p)
      have hx1 : mget (dead (ks.take k) M) ks[k] = some (if ks[k] ∈ ks.take k then deadJ x0 else x0) := by rw [mget_dead, hx0]; rfl
      have htk : ks.take (k + 1) = ks.take k ++ [ks[k]] := List.take_succ_eq_append_getElem hkK
      have hblk : (if ks[k] ∈ ks.take k then deadJ x0 else x0).blk = x0.blk := by split <;> rfl
      have hxl : x0.blk < w.heap.size := (HW.out.ents _ hx0m).blk.lt
      have hxS : S x0.blk := (HW.out.se _ hx0m).1
      generalize (if ks[k] ∈ ks.take k then deadJ x0 else x0) = x at *
      generalize (ks[k]'hkK) = key at *
      rw [← hblk] at hxl hxS
      have hk0 : (0 : Int) ≤ (k : Int) := by omega
      have HXl := hide hxl
      have HXS := hide hxS
      have HX1 := hide hx1
      have HTk := hide htk
      obtain ⟨F', ov, hTz⟩ := HT.out
      obtain ⟨W1, hW1⟩ : ∃ W1, W1 = wz.alloc (.cells #[c32 key.1, c32 key.2] 68) := ⟨_, rfl⟩
      have hb1 : Below wz.heap.size wz W1 := by rw [hW1]; exact (Below.refl _ _).alloc (Nat.le_refl _) _
      have hq1 : Blk W1 wz.heap.size 68 #[c32 key.1, c32 key.2] := by rw [hW1]; exact Blk.new wz _ _
      have hT1 := hTz.below hb1
      have HB1 := hide hb1
      have HT1 := hide hT1
      have FC : Hid (∀ W, Below W1.heap.size W1 W → W.cell? ⟨g, 0, none⟩ = some (.map (some b))) := hide fun W hW => ((hT1.below hW).head.cell 0).trans rfl
      have FK : Hid (∀ W, Below W1.heap.size W1 W → W.cell? ⟨wz.heap.size, 0, none⟩ = some (c32 key.1) ∧ W.cell? ⟨wz.heap.size, 1, none⟩ = some (c32 key.2)) := hide fun W hW =>
        ⟨((hq1.below hW hq1.lt).cell 0).trans rfl, ((hq1.below hW hq1.lt).cell 1).trans rfl⟩
      have FL : Hid (∀ W, Below W1.heap.size W1 W → (Instr.lookup 97 (.map (some b)) (.agg #[c32 key.1, c32 key.2]) false).run Try.prog W = .ok (.pointer (some ⟨x.blk, 0, none⟩)) W) := hide fun W hW => by
        have := (hT1.below hW).map.lookup keyJ Try.underlying97 (a := key) trivial false (zero_entryp W)
        rw [ptrs_get, hx1] at this
        exact this
      have HLv := hide (fun W (hW : Below W1.heap.size W1 W) => elive_any W x.blk _ (((hT1.below hW).ents _ (mget_some hx1)).blk) (by rw [entry_size ((hT1.ents _ (mget_some hx1)).len)]; omega) (-1))
      clear hTz hb1 hq1 hT1 hx0 hx0m hx1 htk hblk hxl hxS HT
      go_upto_region 3 with (fail)
      rw [← hW1]
      clear hW1
      apply wp_region_relT 6 (C := fun W' => Below W1.heap.size W1 W') (M := fun W W' => Below W.heap.size W W') (ss := [_, _, _, _, _, _]) (by kernel_rfl) (by kernel_rfl) (by kernel_rfl) (by kernel_rfl) (Below.refl _ _).drew
      simp only [List.take_succ_cons, List.take_zero, List.drop_succ_cons, List.drop_zero]
      iterate 6 (first
        | (apply relWalk_const (fun W => Below.refl _ _)
           · (intro W9 hC hF
              clear hF
              have c0 := FC.out W9 hC
              obtain ⟨q0, q1⟩ := FK.out W9 hC
              have fl := FL.out W9 hC
              clear hC
              go_simp
              with_reducible exact rfl)
           (try simp only [Act.put, List.setIfInBounds_toArray, List.set_cons_zero, List.set_cons_succ])))
      refine relWalk_nil fun W2 hC hF => ?_
      clear hF
      have HC := hide (HLv.out W2 hC)
      have HTn : Hid (Tab (W2.setCell ⟨x.blk, 36, none⟩ (ci (-1))) S g b (dead (ks.take (k + 1)) M)) := hide (by
        refine ⟨F', ov, ?_⟩
        rw [HTk.out, ← dead_mput HW.out.keysM HX1.out]
        exact (HT1.out.below hC).lived HX1.out (right_dead ((HT1.out.ents _ (mget_some HX1.out)).right)))
      have HTcn : Hid (Touch S w (W2.setCell ⟨x.blk, 36, none⟩ (ci (-1)))) := hide (((HTc.out.then_below HB1.out).then_below hC).setCell (p := ⟨x.blk, 36, none⟩) HXS.out _)
      have HOn : Hid ((W2.setCell ⟨x.blk, 36, none⟩ (ci (-1))).ownsRow w.heap.size 68 2 (.slice (some ⟨ga, 0, none⟩) n c) ks.length (keyC ks)) := hide (keys_set (own_block HO.out fun r hr => (below_next HB1.out hC).block r (own_lt HO.out hr).2) (p := ⟨x.blk, 36, none⟩) HXl.out _)
      have HSn : Hid (w.heap.size ≤ (W2.setCell ⟨x.blk, 36, none⟩ (ci (-1))).heap.size) := hide (by simp; exact Nat.le_trans HSz.out (below_next HB1.out hC).size)
      clear FC FK FL HLv hC HT1 HB1 HTc HO HSz
      go_wp2_with (first
        | (go_at_call 91; (with_reducible refine HC.out.mono ?_); rintro e w9 ⟨rfl, rfl⟩)
        | fail)
      go_roundw
      case rel => exact ⟨k + 1, by omega, by go_num, HTn, HTcn, HOn, HSn⟩
      case measure => simp [intOf]; omega
    · obtain rfl : k = n := by omega
      have HKa : Hid (ks.take k = ks) := hide (by rw [HN.out, List.take_length])
      rw [HKa.out] at HT
      go_wp2
      go_end0
      exact ⟨rfl, HT.out, HTc.out⟩
end Go.Proofs.Ytccpkafmbmkmfaa
namespace Go.Proofs.Ytccpkafmbmkmfaa
open Go.RowKit Go.Shelf
set_option linter.unusedVariables false
set_option linter.unusedSimpArgs false
attribute [local go_sem] Gives givesUpon
attribute [local irreducible] Gives

/-- a job, what holds its tiers, and these -/
abbrev JobK := JobM × (Value × List TierK)
/-- a job, and its tiers -/
abbrev JobT := JobM × List TierV
def plainJ (x : JobK) : JobT := (x.1, plainT x.2.2)
def plainE (p : KeyT × EntryK) : JobT := (p.2.job, plainT p.2.K)
def jobsC (L : List JobK) : List Value := L.flatMap fun x => jobCells x.1 x.2.1
theorem jobCells_len {j : JobM} (h : j.breach.length = 32) (v : Value) : (jobCells j v).length = 38 := by simp [jobCells, jobHead_len h]
theorem jobsC_len (L : List JobK) (h : ∀ x ∈ L, x.1.breach.length = 32) : (jobsC L).length = L.length * 38 := by
  induction L with
  | nil => rfl
  | cons p L ih =>
    have e : jobsC (p :: L) = jobCells p.1 p.2.1 ++ jobsC L := by simp [jobsC]
    rw [e, List.length_append, jobCells_len (h p (by simp)), ih fun x hx => h x (by simp [hx])]
    simp; omega
theorem jobsC_append (K L : List JobK) : jobsC (K ++ L) = jobsC K ++ jobsC L := by simp [jobsC]
theorem jobsC_get (L : List JobK) (h : ∀ x ∈ L, x.1.breach.length = 32) (k : Nat) (hk : k < L.length) (i : Nat) (u : Value) (hu : (jobCells L[k].1 L[k].2.1)[i]? = some u) : (jobsC L)[k * 38 + i]? = some u := by
  induction L generalizing k with
  | nil => simp at hk
  | cons p L ih =>
    have e : jobsC (p :: L) = jobCells p.1 p.2.1 ++ jobsC L := by simp [jobsC]
    have hp := jobCells_len (h p (by simp)) p.2.1
    rw [e]
    cases k with
    | zero =>
      have hi := (List.getElem?_eq_some_iff.1 hu).1
      rw [List.getElem?_append_left (by simpa using hi)]
      simpa using hu
    | succ k =>
      rw [List.getElem?_append_right (by rw [hp]; omega), hp]
      have := ih (fun x hx => h x (by simp [hx])) k (by simpa using hk) (by simpa using hu)
      rwa [show (k + 1) * 38 + i - 38 = k * 38 + i by omega]
/-- A VALUE IS A SLICE OF THESE JOBS, of blocks in S -/
structure JobsAt (w : World) (S : Nat → Prop) (v : Value) (L : List JobK) : Prop where
  row : ∃ A c, v = .slice A L.length c ∧ L.length ≤ c ∧ ReadsS w S 38 A L.length (jobsC L)
  len : ∀ x ∈ L, x.1.breach.length = 32
  pay : ∀ x ∈ L, PayAt w S x.2.1 x.2.2
section
variable {w w' : World} {S S' : Nat → Prop} {v : Value} {L : List JobK}
theorem JobsAt.keep (h : JobsAt w S v L) (hs : w.heap.size ≤ w'.heap.size) (hk : ∀ i, i < w.heap.size → S i → w'.heap[i]? = w.heap[i]?) : JobsAt w' S v L := by
  obtain ⟨⟨A, c, e, h1, h2⟩, h3, h4⟩ := h; exact ⟨⟨A, c, e, h1, h2.keep hs hk⟩, h3, fun x hx => (h4 x hx).keep hs hk⟩
theorem JobsAt.below (h : JobsAt w S v L) (hb : Below w.heap.size w w') : JobsAt w' S v L := h.keep hb.size fun i hi _ => hb.block i hi
theorem JobsAt.mono (h : JobsAt w S v L) (hS : ∀ i, i < w.heap.size → S i → S' i) : JobsAt w S' v L := by
  obtain ⟨⟨A, c, e, h1, h2⟩, h3, h4⟩ := h; exact ⟨⟨A, c, e, h1, h2.mono hS⟩, h3, fun x hx => (h4 x hx).mono hS⟩
theorem JobsAt.none_ : JobsAt w S (.slice none 0 0) [] := ⟨⟨none, 0, rfl, Nat.le_refl _, ⟨rfl, fun h => absurd h (Nat.lt_irrefl _)⟩⟩, by simp, by simp⟩
/-- the k-th job, where it stands -/
theorem JobsAt.at_ {A : Option Addr} {n c k : Nat} (h : JobsAt w S (.slice A n c) L) (hk : k < L.length) :
    ∃ g o, A = some ⟨g, o, none⟩ ∧ S g ∧ g < w.heap.size ∧ ∀ i u, (jobCells L[k].1 L[k].2.1)[i]? = some u → w.cell? ⟨g, o + k * 38 + i, none⟩ = some u := by
  obtain ⟨⟨A', c', e, h1, h2⟩, h3, _⟩ := h
  injection e with e1 e2 e3
  subst e1
  obtain ⟨g, o, rfl, hS, hg, hc⟩ := h2.2 (by omega)
  refine ⟨g, o, rfl, hS, hg, fun i u hu => ?_⟩
  have := hc _ _ (jobsC_get L h3 k hk i u hu)
  rwa [← Nat.add_assoc] at this
end
/-- JOBS OF A CALL'S OWN, made since w0 -/
structure OwnJobs (w0 w : World) (v : Value) (L : List JobK) : Prop where
  own : w.ownsRow w0.heap.size 75 38 v L.length (jobsC L)
  len : ∀ x ∈ L, x.1.breach.length = 32
  pay : ∀ x ∈ L, OwnPay w0 w x.2.1 x.2.2
  below : Below w0.heap.size w0 w
section
variable {w0 w w' : World} {v : Value} {L : List JobK}
theorem OwnJobs.none_ (h : Below w0.heap.size w0 w) : OwnJobs w0 w (.slice none 0 0) [] := ⟨⟨rfl, .inl ⟨rfl, rfl⟩⟩, by simp, by simp, h⟩
theorem OwnJobs.later (h : OwnJobs w0 w v L) (hb : Below w.heap.size w w') : OwnJobs w0 w' v L := ⟨own_block h.own fun r hr => hb.block r (own_lt h.own hr).2, h.len, fun x hx => (h.pay x hx).later hb, below_next h.below hb⟩
theorem OwnJobs.slice (h : OwnJobs w0 w v L) : ∃ A c, v = .slice A L.length c ∧ L.length ≤ c := by
  obtain ⟨A, c, rfl⟩ := own_slice h.own
  exact ⟨A, c, rfl, own_cap h.own⟩
theorem OwnJobs.less {w1 : World} (h : OwnJobs w1 w v L) (hb : Below w0.heap.size w0 w1) : OwnJobs w0 w v L := ⟨own_less h.own hb.size, h.len, fun x hx => ⟨own_less (h.pay x hx).own hb.size, fun p hp => own_less ((h.pay x hx).txs p hp) hb.size⟩, below_next hb h.below⟩
theorem OwnJobs.jobs (h : OwnJobs w0 w v L) : JobsAt w (fun i => w0.heap.size ≤ i ∧ i < w.heap.size) v L := by
  obtain ⟨A, c, rfl⟩ := own_slice h.own
  exact ⟨⟨A, c, rfl, own_cap h.own, (ReadsS.of_own h.own).mono fun i _ hi => own_lt h.own hi⟩, h.len, fun x hx => (h.pay x hx).pay⟩
end
theorem info_jobfull : (Try.prog.info? 75).map (fun i => (i.zero, i.size, i.bytes)) = some (some (.agg ((List.replicate 2 (c32 0)) ++ (List.replicate 32 (c8 0)) ++ [c32 0, c32 0, ci 0, .slice none 0 0]).toArray), 38, 80) := by kernel_rfl
theorem fill_job (R : Array Value) (hR : R.size = 38) (cells : Array Value) (hc : cells.size = 38) : Instr.fill (fun i => some (i * 38, 38)) cells [(0, .agg R)] = some R := by
  have h := Great.fill_whole (s := 38) (by omega) [Value.agg R] cells (by intro v hv; simp at hv; subst hv; exact hR) (by simp [hc])
  simpa [Value.cells] using h
theorem run_build_job (w : World) (R : Array Value) (hR : R.size = 38) : (Instr.buildSlice 87 1 #[(0, .agg R)]).run Try.prog w = .ok (.slice (some ⟨w.heap.size, 0, none⟩) 1 1) (w.alloc (.cells R 75)) := by
  obtain ⟨i, hi, hz0, hz1, hz2⟩ := info_parts info_jobfull
  refine run_buildSlice w 87 75 1 _ R i _ Try.underlying87 hi hz0 (by rw [hz1]; decide) (by rw [hz1]; decide) ?_
  rw [hz1]
  exact fill_job R hR _ (by simp)
theorem gives_build_job {o : Oper} {a : Act} {w : World} {X : Value → World → Prop} (x : Operand) (ho : o.op = .buildSlice 87 1 #[(0, x)]) (R : Array Value) (hx : a.eval x = .agg R) (hR : R.size = 38)
    (h : X (.slice (some ⟨w.heap.size, 0, none⟩) 1 1) (w.alloc (.cells R 75))) : Gives Try.prog o a w X := by
  unfold Gives execOp
  simp only [ho, Sem.run_bind, List.map_toArray, List.map_cons, List.map_nil, hx, run_build_job w R hR, Result.andThen_ok, givesUpon]
  exact h
/-- a block of 38 cells as a row of one job -/
theorem reads_blk_job {W : World} {g : Nat} {j : JobM} {v : Value} {R : Array Value} (h : Blk W g 75 R) (hR : JobVal j v R) (K : List TierK) : Reads W W.heap.size 38 (some ⟨g, 0, none⟩) 1 (jobsC [(j, v, K)]) :=
  ⟨by have := hR.size; rw [hR.val] at this; simpa [jobsC] using this, fun _ => ⟨_, rfl, h.lt, fun i u hu => by
    rw [Addr.add_lit, Nat.zero_add, h.cell, hR.val, List.getElem?_toArray]
    simpa [jobsC] using hu⟩⟩
theorem wpList_append_job {ops : Array Oper} {rest : List Oper} {o : Oper} {a : Act} {w : World} {Q : Exit → Act → World → Prop} (hgd : o.guard = none) (s x : Operand)
    (ho : o.op = .call { callee := .builtin .append, args := #[s, x], argTypes := #[87, 87] }) (w0 : World) (v : Value) (L : List JobK) (hs : a.eval s = v) (h : OwnJobs w0 w v L)
    (g : Nat) (j : JobM) (hj : j.breach.length = 32) (u : Value) (K : List TierK) (R : Array Value) (hR : JobVal j u R) (hK : OwnPay w0 w u K) (hx : a.eval x = .slice (some ⟨g, 0, none⟩) 1 1) (hg : Blk w g 75 R) (hb : L.length ≤ 1048576)
    (hQ : ∀ v' w', OwnJobs w0 w' v' (L ++ [(j, u, K)]) → w.grownBy w' v.ownBlock → wpList Try.prog ops Q rest (a.put o.dst v') w') : wpList Try.prog ops Q (o :: rest) a w := by
  obtain ⟨i, hi, hz0, hz1, hz2⟩ := info_parts info_jobfull
  refine wpList_append_any w hgd s x 87 ho w0.heap.size 75 i _ 38 80 Try.underlying87 hi hz0 hz1 hz2 rfl (by omega) v L.length _ hs h.own w.heap.size (some ⟨g, 0, none⟩) 1 1 (jobsC [(j, u, K)]) hx (reads_blk_job hg hR K) ?_ (by simp only [maxLen]; omega) (by omega) h.below.size ?_
  · intro y hy
    have := hR.one
    rw [hR.val, Array.all_eq_true_iff_forall_mem] at this
    exact this y (by simpa [jobsC] using hy)
  · intro v' w' own grow hv
    have hfar : ∀ e sz n (u' : Value) xs, e ≠ 75 → w.ownsRow w0.heap.size e sz u' n xs → w'.ownsRow w0.heap.size e sz u' n xs := fun e sz n u' xs hne ho => own_block ho fun r hr => grow.block r (own_lt ho hr).2 (by
      intro e1
      exact own_own_ne ho h.own (fun e2 => hne e2.symm) hr e1.symm)
    have hkp : ∀ u' K', OwnPay w0 w u' K' → OwnPay w0 w' u' K' := fun u' K' k => ⟨hfar _ _ _ _ _ (by decide) k.own, fun p hp => hfar _ _ _ _ _ (by decide) (k.txs p hp)⟩
    refine hQ v' w' ⟨?_, ?_, ?_, below_appended h.below h.below.size h.own (Nat.le_refl _) grow⟩ grow
    · rw [List.length_append, jobsC_append]; exact own
    · intro y hy
      rcases List.mem_append.1 hy with hy | hy
      · exact h.len y hy
      · simp only [List.mem_singleton] at hy; subst hy; exact hj
    · intro y hy
      rcases List.mem_append.1 hy with hy | hy
      · exact hkp _ _ (h.pay y hy)
      · simp only [List.mem_singleton] at hy; subst hy; exact hkp _ _ hK
def JobOne (w1 : World) (j : JobM) (L : List TierV) (u : Value) (W : World) : Prop := ∃ r v R K, u = .slice (some ⟨r, 0, none⟩) 1 1 ∧ Blk W r 75 R ∧ JobVal j v R ∧ plainT K = L ∧ OwnPay w1 W v K
theorem JobOne.later {w1 : World} {j : JobM} {L : List TierV} : ∀ (v : Value) (w w' : World), Below w.heap.size w w' → JobOne w1 j L v w → JobOne w1 j L v w' := by
  rintro v w w' hb ⟨r, u, R, K, h1, h2, h3, h4, h5⟩
  exact ⟨r, u, R, K, h1, h2.below hb h2.lt, h3, h4, h5.later hb⟩
theorem OwnPay.less2 {w0 w1 w : World} {v : Value} {K : List TierK} (h : OwnPay w1 w v K) (hs : w0.heap.size ≤ w1.heap.size) : OwnPay w0 w v K := ⟨own_less h.own hs, fun p hp => own_less (h.txs p hp) hs⟩
set_option maxRecDepth 100000 in
set_option maxHeartbeats 1600000 in
theorem jlist_any (w : World) (S : Nat → Prop) (g b : Nat) (M : List (KeyT × EntryK)) (h : Tab w S g b M) (hl : M.length ≤ 1048576) :
    Calls Try.prog 47 #[.pointer (some ⟨g, 0, none⟩)] w fun e w' => ∃ v L, e = .returned v ∧ OwnJobs w w' v L ∧ L.map plainJ = M.map plainE := by
  obtain ⟨p, hp⟩ : ∃ p : EntryK → Bool, p = fun _ => true := ⟨_, rfl⟩
  have HA := hide (jthose_any w S g b M h 88 (enters_of Try.func88 (by kernel_rfl) rfl) #[] p
    (fun q hq W hW => by rw [hp]; exact (list1_any _ W).mono fun e w' h => ⟨h.1, h.2 ▸ Below.refl _ _⟩) hl)
  obtain ⟨F1, ov1, h⟩ := h
  have HW := hide h
  have hkm : keysP M p = M.map (·.1) := by rw [hp]; unfold keysP; rw [List.filter_eq_self.2 (by simp)]
  rw [hkm] at HA
  clear h hp hkm
  obtain ⟨n, hn⟩ : ∃ n, n = M.length := ⟨_, rfl⟩
  have HN := hide hn
  have HNm : Hid (n = (M.map (·.1)).length) := hide (by rw [hn]; simp)
  rw [← hn] at hl
  clear hn
  go_enter Try.func47, Try.ntmps47
  go_wp2_with (first
    | (go_at_call 87; (with_reducible refine HA.out.mono ?_); rintro e w1 ⟨v, rfl, ho⟩; obtain ⟨A, c, rfl, _⟩ := ho.slice; rw [← HNm.out] at ho ⊢; have HB1 := hide ho.below; have HO1 := hide ho.own; clear ho)
    | fail)
  go_loopw [3, 9] (fun x i wr => ∃ (k : Nat) (L : List JobK), k ≤ n ∧ i = .int .i64 (k : Int) ∧ Hid (OwnJobs w1 wr x L) ∧ Hid (L.map plainJ = (M.take k).map plainE)) (fun _ i _ => n - (intOf i).toNat)
  case atStart => exact ⟨0, [], Nat.zero_le _, rfl, hide (OwnJobs.none_ (Below.refl _ _)), hide (by simp)⟩
  case round =>
    obtain ⟨wz, rfl⟩ : ∃ wz : World, wz = wr := ⟨_, rfl⟩
    obtain ⟨k, L, hk, rfl, HI, HL⟩ := hrel
    have HBz := hide HI.out.below
    by_cases hlt : k < n
    · have hd1 : decide ((k : Int) < (n : Int)) = true := by simpa using hlt
      have hkM : k < M.length := by rw [← HN.out]; exact hlt
      have hOz := own_block HO1.out fun r hr => HBz.out.block r (own_lt HO1.out hr).2
      rw [← HNm.out] at hOz
      obtain ⟨ga, rfl, hga, d0, d1⟩ := keys_at hOz HNm.out (by rw [← HNm.out]; exact hlt : k < (M.map (·.1)).length)
      have hmem : M[k] ∈ M := List.getElem_mem hkM
      have hget := mget_mem HW.out.keysM (show (M[k].1, M[k].2) ∈ M from hmem)
      simp only [List.getElem_map] at d0 d1
      have HTk : Hid ((M.take (k + 1)).map plainE = (M.take k).map plainE ++ [plainE M[k]]) := hide (by rw [List.take_succ_eq_append_getElem hkM, List.map_append]; rfl)
      generalize (M[k]'hkM) = q at *
      obtain ⟨key, x⟩ := q
      dsimp only at d0 d1 hget
      have hk0 : (0 : Int) ≤ (k : Int) := by omega
      have hLl : L.length ≤ 1048576 := by
        have := congrArg List.length HL.out
        simp at this; omega
      have HLl := hide hLl
      obtain ⟨A3, c3, rfl, _⟩ := HI.out.slice
      have hTz := HW.out.below (below_next HB1.out HBz.out)
      have HE := hide (HW.out.ents _ hmem)
      obtain ⟨W1, hW1⟩ : ∃ W1, W1 = wz.alloc (.cells #[c32 key.1, c32 key.2] 68) := ⟨_, rfl⟩
      have hb1 : Below wz.heap.size wz W1 := by rw [hW1]; exact (Below.refl _ _).alloc (Nat.le_refl _) _
      have hq1 : Blk W1 wz.heap.size 68 #[c32 key.1, c32 key.2] := by rw [hW1]; exact Blk.new wz _ _
      have hT1 := hTz.below hb1
      have HI1 := hide (HI.out.later hb1)
      have HBw := hide (below_next (below_next HB1.out HBz.out) hb1)
      have HBx := hide (below_next HBz.out hb1)
      have FC : Hid (∀ W, Below W1.heap.size W1 W → W.cell? ⟨g, 0, none⟩ = some (.map (some b))) := hide fun W hW => ((hT1.below hW).head.cell 0).trans rfl
      have FK : Hid (∀ W, Below W1.heap.size W1 W → W.cell? ⟨wz.heap.size, 0, none⟩ = some (c32 key.1) ∧ W.cell? ⟨wz.heap.size, 1, none⟩ = some (c32 key.2)) := hide fun W hW =>
        ⟨((hq1.below hW hq1.lt).cell 0).trans rfl, ((hq1.below hW hq1.lt).cell 1).trans rfl⟩
      have FL : Hid (∀ W, Below W1.heap.size W1 W → (Instr.lookup 97 (.map (some b)) (.agg #[c32 key.1, c32 key.2]) false).run Try.prog W = .ok (.pointer (some ⟨x.blk, 0, none⟩)) W) := hide fun W hW => by
        have := (hT1.below hW).map.lookup keyJ Try.underlying97 (a := key) trivial false (zero_entryp W)
        rw [ptrs_get, hget] at this
        exact this
      have FE : Hid (∀ W, Below W1.heap.size W1 W → EntIs W F1 (key, x)) := hide fun W hW => (hT1.below hW).ents _ hmem
      obtain ⟨Ap, cp, hpv, _⟩ := HE.out.pay
      obtain ⟨RJ, hRJ⟩ := jobVal (j := x.job) HE.out.len (v := x.pv) (by rw [show x.pv = .slice Ap x.K.length cp from hpv]; rfl)
      have HRJ := hide hRJ
      have HOwn : Hid (∀ W, Below W1.heap.size W1 W → Calls Try.prog 84 #[.agg RJ] W fun e w' => ∃ v' K' R', e = .returned (.agg R') ∧ JobVal x.job v' R' ∧ plainT K' = plainT x.K ∧ OwnPay W w' v' K' ∧ Below W.heap.size W w') := hide fun W hW =>
        own_any x.job HE.out.len x.pv RJ HRJ.out x.K W F1 ((FE.out W hW).pay) (modest_right HE.out.right)
      have HRl : Hid (∀ W, Below W1.heap.size W1 W → ∀ i u, (jobCells x.job x.pv)[i]? = some u → W.cell? ((⟨x.blk, 0, none⟩ : Addr).add i) = some u) := hide fun W hW i u hu => by
        rw [Addr.add_lit, Nat.zero_add, (FE.out W hW).blk.cell, List.getElem?_toArray]
        unfold entryCells
        rw [List.getElem?_append_left (List.getElem?_eq_some_iff.1 hu).1]; exact hu
      have HJi : Hid ((Try.prog.info? 75).map (·.size) = some (jobCells x.job x.pv).length) := hide (by rw [jobCells_len HE.out.len]; exact info_job)
      have HP0 : Hid (plainE (key, x) = (x.job, plainT x.K)) := hide rfl
      clear hTz hb1 hq1 hT1 hmem hget hRJ hpv hOz HI hLl
      go_upto_region 5 with (fail)
      rw [← hW1]
      clear hW1
      apply wp_region_relT 12 (C := fun W' => Below W1.heap.size W1 W') (M := fun W W' => Below W.heap.size W W') (ss := [_, _, _, _, _, _, _, _, _, _, _, _]) (by kernel_rfl) (by kernel_rfl) (by kernel_rfl) (by kernel_rfl) (Below.refl _ _).drew
      simp only [List.take_succ_cons, List.take_zero, List.drop_succ_cons, List.drop_zero]
      iterate 9 (first
        | (apply relWalk_const (fun W => Below.refl _ _)
           · (intro W9 hC hF
              clear hF
              have c0 := FC.out W9 hC
              obtain ⟨q0, q1⟩ := FK.out W9 hC
              have fl := FL.out W9 hC
              clear hC
              go_simp
              with_reducible exact rfl)
           (try simp only [Act.put, List.setIfInBounds_toArray, List.set_cons_zero, List.set_cons_succ])))
      apply relWalk_const (c := .agg RJ) (fun W => Below.refl _ _)
      · intro W9 hC hF
        clear hF
        rw [if_pos (wanted_none _ rfl)]
        exact gives_load_at 75 _ rfl ⟨x.blk, 0, none⟩ rfl (jobCells x.job x.pv) _ Try.underlying75 rfl HJi.out (HRl.out W9 hC) ⟨by rw [HRJ.out.val], rfl⟩
      (try simp only [Act.put, List.setIfInBounds_toArray, List.set_cons_zero, List.set_cons_succ])
      apply relWalk_rel (IsJob x.job) (OwnJob W1 x.job (plainT x.K)) ⟨_, none, 0, 0, (jobVal HE.out.len (v := .slice none 0 0) rfl).choose, rfl, (jobVal HE.out.len (v := .slice none 0 0) rfl).choose_spec⟩ OwnJob.later
      · go_simp
      · intro W hC hF
        clear hF
        refine gives_call rfl [.agg RJ] rfl (enters_of Try.func84 (by kernel_rfl) rfl) ?_
        refine (HOwn.out W hC).mono ?_
        rintro e w' ⟨v', K', R', rfl, hJV, hKp, ho, hb⟩
        obtain ⟨A', c', rfl⟩ := own_slice ho.own
        exact ⟨_, rfl, ⟨A', _, c', R', rfl, hJV⟩, ⟨_, R', K', rfl, hJV, hKp, ho.less hC.size⟩, below_next hC hb, hb⟩
      rintro u10 ⟨A10, n10, c10, R10, rfl, HJ10⟩
      (try simp only [Act.put, List.setIfInBounds_toArray, List.set_cons_zero, List.set_cons_succ])
      apply relWalk_rel OneOf (JobOne W1 x.job (plainT x.K)) ⟨_, 0, rfl⟩ JobOne.later
      · go_simp
      · intro W hC hF
        have h10 := hF.1 (by kernel_rfl)
        obtain ⟨v7, R7', K7, e7, hJ7, hK7, hO7⟩ := h10
        injection e7 with e7
        subst e7
        have hbb : Below W.heap.size W (W.alloc (.cells R10 75)) := (Below.refl _ _).alloc (Nat.le_refl _) _
        exact gives_build_job _ rfl R10 rfl HJ10.size ⟨⟨_, rfl⟩, ⟨W.heap.size, v7, R10, K7, rfl, Blk.new W _ _, hJ7, hK7, hO7.later hbb⟩, below_next hC hbb, hbb⟩
      rintro u11 ⟨r11, rfl⟩
      (try simp only [Act.put, List.setIfInBounds_toArray, List.set_cons_zero, List.set_cons_succ])
      refine relWalk_nil fun W2 hC hF => ?_
      have h11 : JobOne W1 x.job (plainT x.K) (.slice (some ⟨r11, 0, none⟩) 1 1) W2 := hF.1
      clear hF
      obtain ⟨r', v', R', K', e', hB', hJ', hK', hO'⟩ := h11
      obtain rfl : r11 = r' := by injection e' with e'; injection e' with e'; injection e'
      have HJ' := hide hJ'
      have HBk := hide hB'
      have HOp := hide (hO'.less2 HBx.out.size)
      have HI2 := hide (HI1.out.later hC)
      have HLn : Hid ((L ++ [(x.job, v', K')]).map plainJ = (M.take (k + 1)).map plainE) := hide (by rw [HTk.out, List.map_append, HL.out, HP0.out]; simp [plainJ, hK'])
      clear FC FK FL FE HOwn HRl hC hB' hJ' hK' hO' e' HI1 HBx HBw
      go_wp2_with (first
        | (at_builtin; refine wpList_append_job rfl (.tmp 13) (.tmp 24) rfl w1 _ L rfl HI2.out r11 x.job HE.out.len v' K' R' HJ'.out HOp.out rfl HBk.out HLl.out ?_; intro v4 w4 O4' hgr; have O4 := hide O4'; clear O4' hgr)
        | fail)
      go_roundw
      case rel => exact ⟨k + 1, _, by omega, by go_num, O4, HLn⟩
      case measure => simp [intOf]; omega
    · obtain rfl : k = n := by omega
      have HPl : Hid (L.map plainJ = M.map plainE) := hide (by rw [HL.out, HN.out, List.take_length])
      go_wp2
      go_ret
      exact ⟨_, _, rfl, HI.out.less HB1.out, HPl.out⟩
end Go.Proofs.Ytccpkafmbmkmfaa
