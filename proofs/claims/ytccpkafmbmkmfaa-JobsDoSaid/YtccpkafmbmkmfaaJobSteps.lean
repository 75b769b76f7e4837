/- The calls of miradorlaw29.JobsDo: how one lies in memory, and whether there is not too much of them. Condition: less than 2^63. The calls of miradorlaw29.JobsDo as an argument, opened. No condition. miradorlaw29.step, of an Add. Condition: at most 2^16 jobs, a payload that is not too much. miradorlaw29.step, of a Drop, a Mark, a Live. Condition: at most 2^16 jobs, a payload that is not too much. miradorlaw29.step, of an Evict, a Rest, a Clone. Condition: at most 2^16 jobs, a payload that is not too much. miradorlaw29.step, of any call. Condition: at most 2^16 jobs, a payload that is not too much. What the drawn regions of miradorlaw29.JobsDo hold on to. No condition. -/
import Derived.Test.YtccpkafmbmkmfaaJobFns3
import Derived.Test.YtccpkafmbmkmfaaOpenJob
namespace Go.Proofs.Ytccpkafmbmkmfaa
open Go.RowKit Go.Shelf
set_option linter.unusedVariables false
set_option linter.unusedSimpArgs false

structure OpM where
  kind : Int
  tier : Int
  j : JobM
  pv : Value
  K : List TierK
  n : BitVec 32
  id : List (BitVec 8)
  near : Bool
def opCells (o : OpM) : List Value := [ci o.kind, ci o.tier] ++ (jobCells o.j o.pv ++ ([c32 o.n] ++ (o.id.map c8 ++ [.bool o.near])))
theorem opCells_len {o : OpM} (h : o.j.breach.length = 32) (hi : o.id.length = 32) : (opCells o).length = 74 := by simp [opCells, jobCells_len h, hi]
theorem op_job {o : OpM} (h : o.j.breach.length = 32) (i : Nat) (u : Value) (hu : (jobCells o.j o.pv)[i]? = some u) : (opCells o)[2 + i]? = some u := by
  have hl := (List.getElem?_eq_some_iff.1 hu).1
  unfold opCells
  rw [List.getElem?_append_right (by simp), show 2 + i - [ci o.kind, ci o.tier].length = i by simp, List.getElem?_append_left hl]
  exact hu
theorem op_tail {o : OpM} (h : o.j.breach.length = 32) (i : Nat) : (opCells o)[40 + i]? = ([c32 o.n] ++ (o.id.map c8 ++ [.bool o.near]))[i]? := by
  unfold opCells
  rw [List.getElem?_append_right (by simp; omega), List.getElem?_append_right (by rw [jobCells_len h]; simp; omega), jobCells_len h]
  congr 1
  simp; omega
theorem op_id {o : OpM} (h : o.j.breach.length = 32) (i : Nat) (u : Value) (hu : (o.id.map c8)[i]? = some u) : (opCells o)[41 + i]? = some u := by
  rw [show 41 + i = 40 + (i + 1) by omega, op_tail h]
  simp only [List.cons_append, List.nil_append, List.getElem?_cons_succ]
  rw [List.getElem?_append_left (List.getElem?_eq_some_iff.1 hu).1]; exact hu
theorem op_n {o : OpM} (h : o.j.breach.length = 32) : (opCells o)[40]? = some (c32 o.n) := by
  have := op_tail h 0; simpa using this
theorem op_near {o : OpM} (h : o.j.breach.length = 32) (hi : o.id.length = 32) : (opCells o)[73]? = some (.bool o.near) := by
  rw [show 73 = 40 + 33 from rfl, op_tail h]
  simp only [List.cons_append, List.nil_append, List.getElem?_cons_succ]
  rw [List.getElem?_append_right (by simp [hi])]
  simp [hi]
structure OpVal (o : OpM) (R : Array Value) : Prop where
  val : R = (opCells o).toArray
  size : R.size = 74
  one : R.all (·.oneCell') = true
  job : ∀ i u, (jobCells o.j o.pv)[i]? = some u → R[2 + i]? = some u
  id_ : ∀ i u, (o.id.map c8)[i]? = some u → R[41 + i]? = some u
  kind : R[0]? = some (ci o.kind)
  tier : R[1]? = some (ci o.tier)
  ses : R[2]? = some (c32 o.j.ses)
  seq : R[3]? = some (c32 o.j.seq)
  pay : R[39]? = some o.pv
  n_ : R[40]? = some (c32 o.n)
  near_ : R[73]? = some (.bool o.near)
theorem opVal {o : OpM} (h : o.j.breach.length = 32) (hi : o.id.length = 32) (hv : o.pv.oneCell' = true) : ∃ R, OpVal o R := by
  obtain ⟨RJ, hRJ⟩ := jobVal (j := o.j) h hv
  have hjg : ∀ i u, RJ[i]? = some u → (jobCells o.j o.pv)[i]? = some u := fun i u hu => by rw [hRJ.val, List.getElem?_toArray] at hu; exact hu
  have hg : ∀ i u, (jobCells o.j o.pv)[i]? = some u → (opCells o).toArray[2 + i]? = some u := fun i u hu => by rw [List.getElem?_toArray]; exact op_job h i u hu
  refine ⟨(opCells o).toArray, rfl, by simpa using opCells_len h hi, ?_, hg, fun i u hu => by rw [List.getElem?_toArray]; exact op_id h i u hu, rfl, rfl, hg 0 _ (hjg _ _ hRJ.ses), hg 1 _ (hjg _ _ hRJ.seq), hg 37 _ (hjg _ _ hRJ.pay), by rw [List.getElem?_toArray]; exact op_n h, by rw [List.getElem?_toArray]; exact op_near h hi⟩
  rw [Array.all_eq_true_iff_forall_mem]
  intro u hu
  simp only [opCells, jobCells, jobHead, List.mem_toArray, List.mem_append, List.mem_cons, List.not_mem_nil, or_false, List.mem_map] at hu
  rcases hu with (rfl | rfl) | (((rfl | rfl) | ⟨y, _, rfl⟩ | rfl | rfl | rfl) | rfl) | rfl | ⟨y, _, rfl⟩ | rfl <;> first | rfl | exact hv
def opsC (L : List OpM) : List Value := L.flatMap opCells
theorem opsC_get (L : List OpM) (h : ∀ x ∈ L, x.j.breach.length = 32 ∧ x.id.length = 32) (k : Nat) (hk : k < L.length) (i : Nat) (u : Value) (hu : (opCells L[k])[i]? = some u) : (opsC L)[k * 74 + i]? = some u := by
  induction L generalizing k with
  | nil => simp at hk
  | cons x L ih =>
    have hx := h x (by simp)
    have e : opsC (x :: L) = opCells x ++ opsC L := by simp [opsC]
    cases k with
    | zero =>
      have hu' : (opCells x)[i]? = some u := hu
      rw [e, Nat.zero_mul, Nat.zero_add, List.getElem?_append_left (List.getElem?_eq_some_iff.1 hu').1]; exact hu'
    | succ k =>
      rw [e, List.getElem?_append_right (by rw [opCells_len hx.1 hx.2]; omega), opCells_len hx.1 hx.2, show (k + 1) * 74 + i - 74 = k * 74 + i by omega]
      exact ih (fun y hy => h y (by simp [hy])) k (by simpa using hk) hu
structure OpsAt (w : World) (S : Nat → Prop) (v : Value) (L : List OpM) : Prop where
  row : ∃ A c, v = .slice A L.length c ∧ L.length ≤ c ∧ ReadsS w S 74 A L.length (opsC L)
  len : ∀ x ∈ L, x.j.breach.length = 32 ∧ x.id.length = 32
  pay : ∀ x ∈ L, PayAt w S x.pv x.K
  most : ∀ x ∈ L, x.K.length ≤ 9223372036854775807
theorem OpsAt.below {w w' : World} {S : Nat → Prop} {v : Value} {L : List OpM} (h : OpsAt w S v L) (hb : Below w.heap.size w w') : OpsAt w' S v L := by
  obtain ⟨⟨A, c, e, h1, h2⟩, h3, h4, h5⟩ := h; exact ⟨⟨A, c, e, h1, h2.keep hb.size fun i hi _ => hb.block i hi⟩, h3, fun x hx => (h4 x hx).below hb, h5⟩
theorem OpsAt.keep {w w' : World} {S : Nat → Prop} {v : Value} {L : List OpM} (h : OpsAt w S v L) (hs : w.heap.size ≤ w'.heap.size) (hk : ∀ i, i < w.heap.size → S i → w'.heap[i]? = w.heap[i]?) : OpsAt w' S v L := by
  obtain ⟨⟨A, c, e, h1, h2⟩, h3, h4, h5⟩ := h; exact ⟨⟨A, c, e, h1, h2.keep hs hk⟩, h3, fun x hx => (h4 x hx).keep hs hk, h5⟩
theorem OpsAt.at_ {w : World} {S : Nat → Prop} {A : Option Addr} {n c k : Nat} {L : List OpM} (h : OpsAt w S (.slice A n c) L) (hk : k < L.length) :
    ∃ g o, A = some ⟨g, o, none⟩ ∧ S g ∧ g < w.heap.size ∧ ∀ i u, (opCells L[k])[i]? = some u → w.cell? ⟨g, o + k * 74 + i, none⟩ = some u := by
  obtain ⟨⟨A', c', e, h1, h2⟩, h3, _⟩ := h
  injection e with e1 e2 e3
  subst e1
  obtain ⟨g, o, rfl, hS, hg, hc⟩ := h2.2 (by omega)
  refine ⟨g, o, rfl, hS, hg, fun i u hu => ?_⟩
  have := hc _ _ (opsC_get L h3 k hk i u hu)
  rwa [← Nat.add_assoc] at this
theorem info_op : (Try.prog.info? 106).map (·.size) = some 74 := by kernel_rfl
theorem zero_op : ∃ Z : Array Value, (Try.prog.info? 106).map (·.zero) = some (some (.agg Z)) ∧ Z.size = 74 :=
  ⟨([ci 0, ci 0] ++ ((List.replicate 2 (c32 0)) ++ (List.replicate 32 (c8 0)) ++ [c32 0, c32 0, ci 0, .slice none 0 0]) ++ [c32 0] ++ List.replicate 32 (c8 0) ++ [Value.bool false]).toArray, by kernel_rfl, rfl⟩
/-- not too much -/
def smallP (L : List OpM) : Bool := L.all (fun x => fewP (plainT x.K)) && decide (L.length ≤ 60)
set_option maxRecDepth 100000 in
set_option maxHeartbeats 1600000 in
theorem small_any (v : Value) (L : List OpM) (w : World) (S : Nat → Prop) (h : OpsAt w S v L) (hl : L.length ≤ 9223372036854775807) :
    Calls Try.prog 61 #[v] w fun e w' => e = .returned (.bool (smallP L)) ∧ Below w.heap.size w w' := by
  obtain ⟨Z, hZ, hZs⟩ := zero_op
  have HZ := hide hZ
  have HZs := hide hZs
  have HP := hide h
  obtain ⟨⟨A, c, rfl, hc, _⟩, _, _⟩ := id h
  obtain ⟨n, hn⟩ : ∃ n, n = L.length := ⟨_, rfl⟩
  have HN := hide hn
  rw [← hn] at hc HP hl ⊢
  clear hn hZ hZs h
  go_enter Try.func61, Try.ntmps61
  go_wp2
  go_loopw [7] (fun i wr => ∃ (k : Nat), k ≤ n ∧ i = .int .i64 (k : Int) ∧ Hid (Below w.heap.size w wr) ∧ Hid ((L.take k).all (fun x => fewP (plainT x.K)) = true)) (fun i _ => n - (intOf i).toNat)
  case atStart => exact ⟨0, Nat.zero_le _, rfl, hide (Below.refl _ _), hide (by simp)⟩
  case round =>
    obtain ⟨wz, rfl⟩ : ∃ wz : World, wz = wr := ⟨_, rfl⟩
    obtain ⟨k, hk, rfl, HB, HF⟩ := hrel
    by_cases hlt : k < n
    · have hd1 : decide ((k : Int) < (n : Int)) = true := by simpa using hlt
      have hkL : k < L.length := by rw [← HN.out]; exact hlt
      have HPz := hide (HP.out.below HB.out)
      obtain ⟨ga, oa, rfl, _, hga, hcells⟩ := HPz.out.at_ (k := k) hkL
      have hMem : L[k] ∈ L := List.getElem_mem hkL
      obtain ⟨hLen, hLid⟩ := HPz.out.len _ hMem
      have hPay := HPz.out.pay _ hMem
      have hMost := HPz.out.most _ hMem
      have hTk : (L.take (k + 1)).all (fun x => fewP (plainT x.K)) = ((L.take k).all (fun x => fewP (plainT x.K)) && fewP (plainT L[k].K)) := by rw [List.take_succ_eq_append_getElem hkL, List.all_append]; simp
      have hAl : fewP (plainT L[k].K) = false → L.all (fun x => fewP (plainT x.K)) = false := fun hf => by
        rw [List.all_eq_false]; exact ⟨_, hMem, by simp [hf]⟩
      generalize (L[k]'hkL) = x at *
      obtain ⟨Ap, cp, hpv, _⟩ := id hPay
      obtain ⟨R, hR⟩ := opVal (o := x) hLen hLid (by rw [hpv]; rfl)
      have HIi : Hid ((Try.prog.info? 106).map (·.size) = some (opCells x).length) := hide (by rw [opCells_len hLen hLid]; exact info_op)
      obtain ⟨W2, hW2⟩ : ∃ W2, W2 = (wz.alloc (.cells Z 106)).setRow wz.heap.size R := ⟨_, rfl⟩
      have hb2 : Below wz.heap.size wz W2 := by rw [hW2]; exact below_setRow ((Below.refl _ _).alloc (Nat.le_refl _) _) (Nat.le_refl _) _
      have hq2 : Blk W2 wz.heap.size 106 R := by rw [hW2]; exact setRow_heap _ _ _ _ _ _ (Blk.new wz _ _)
      have HFew := hide (few13_any x.pv x.K W2 _ (hPay.below hb2) hMost)
      have c39 : W2.cell? ⟨wz.heap.size, 39, none⟩ = some x.pv := (hq2.cell 39).trans hR.pay
      have HB2 := hide (below_next HB.out hb2)
      have HRs := hide hR.val.symm
      have HR := hide hR
      have HCs := hide hcells
      have HTk := hide hTk
      have HAl : Hid (fewP (plainT x.K) = false → L.all (fun x => fewP (plainT x.K)) = false) := hide hAl
      have hk0 : (0 : Int) ≤ (k : Int) := by omega
      clear hMem hLen hLid hPay hMost hTk hpv hb2 hq2 hcells hga hR hAl
      replace hW2 := hide hW2.symm
      generalize hfe : fewP (plainT x.K) = fe at *
      cases fe
      · go_wp2_with (first
          | ((with_reducible show wpList _ _ _ (⟨_, .load 106 (.tmp 9), _, _, _, _⟩ :: _) _ _); refine wpList_load_at rfl 106 _ rfl ⟨ga, oa + k * 74, none⟩ rfl (opCells x) _ Try.underlying106 rfl HIi.out (fun i u hu => by rw [Addr.add_lit]; exact HCs.out i u hu) ?_; rw [HRs.out])
          | (refine wpList_alloc_is rfl 106 rfl Z HZ.out ?_)
          | ((with_reducible show wpList _ _ _ (⟨_, .store 106 _ _, _, _, _, _⟩ :: _) _ _); refine wpList_store_row rfl 106 _ _ rfl wz.heap.size rfl R rfl 106 _ (Blk.new wz _ _) (by rw [HR.out.size]; exact info_op) (by rw [HR.out.size]; exact HZs.out) HR.out.one ?_; rw [hW2.out])
          | (go_at_call 41; (with_reducible refine HFew.out.mono ?_); rintro e w4 ⟨rfl, hb4⟩; have HB4 := hide (below_next HB2.out hb4); clear hb4)
          | fail)
        go_ret
        refine ⟨?_, HB4.out⟩
        rw [show smallP L = false by unfold smallP; rw [HAl.out (by first | exact hfe | rfl | trivial)]; rfl]
        rfl
      · go_wp2_with (first
          | ((with_reducible show wpList _ _ _ (⟨_, .load 106 (.tmp 9), _, _, _, _⟩ :: _) _ _); refine wpList_load_at rfl 106 _ rfl ⟨ga, oa + k * 74, none⟩ rfl (opCells x) _ Try.underlying106 rfl HIi.out (fun i u hu => by rw [Addr.add_lit]; exact HCs.out i u hu) ?_; rw [HRs.out])
          | (refine wpList_alloc_is rfl 106 rfl Z HZ.out ?_)
          | ((with_reducible show wpList _ _ _ (⟨_, .store 106 _ _, _, _, _, _⟩ :: _) _ _); refine wpList_store_row rfl 106 _ _ rfl wz.heap.size rfl R rfl 106 _ (Blk.new wz _ _) (by rw [HR.out.size]; exact info_op) (by rw [HR.out.size]; exact HZs.out) HR.out.one ?_; rw [hW2.out])
          | (go_at_call 41; (with_reducible refine HFew.out.mono ?_); rintro e w4 ⟨rfl, hb4⟩; have HB4 := hide (below_next HB2.out hb4); clear hb4)
          | fail)
        go_roundw
        case rel => exact ⟨k + 1, by omega, by go_num, HB4, hide (by rw [HTk.out, HF.out]; rfl)⟩
        case measure => simp [intOf]; omega
    · obtain rfl : k = n := by omega
      have hd1 : decide ((k : Int) < (k : Int)) = false := by simp
      have HAl : Hid (L.all (fun x => fewP (plainT x.K)) = true) := hide (by have := HF.out; rwa [HN.out, List.take_length] at this)
      go_wp2
      go_ret
      have hd : decide ((k : Int) ≤ 60) = decide (k ≤ 60) := decide_eq_decide.2 ⟨fun h => by omega, fun h => by omega⟩
      have hs : smallP L = decide ((k : Int) ≤ 60) := by
        unfold smallP
        rw [HAl.out, ← HN.out, hd, Bool.true_and]
      rw [hs]
      exact ⟨rfl, HB.out⟩
end Go.Proofs.Ytccpkafmbmkmfaa
namespace Go.Proofs.Ytccpkafmbmkmfaa
open Go.ChangeShapes Go.WideShapes Go.ChangeAt Go.RowKit Go.Deep
set_option linter.unusedVariables false

abbrev OpS := { o : OpM // (o.j.breach.length = 32 ∧ o.id.length = 32) ∧ o.pv.oneCell' = true }
instance : Inhabited OpS := ⟨⟨⟨0, 0, zeroJ, .slice none 0 0, [], 0, List.replicate 32 0, false⟩, ⟨by simp [zeroJ], by simp⟩, rfl⟩⟩
theorem one_of {α : Type} (l : List α) (h : l.length = 1) : ∃ a, l = [a] := by
  match l, h with
  | [a], _ => exact ⟨a, rfl⟩
section
variable {H : Type} {enc : TypeId × Value → H} {w : World} {base : Nat} {held : Bool}
theorem open_ops {A : Option Addr} {n c : Nat} {d : DataW H} {p : List MemPlace} (h : DataW.Trod enc Try.prog w base (fun _ => true) held 103 (.slice A n c) d p) :
    ∃ L : List OpM, OpsAt w (fun i => i < w.heap.size) (.slice A n c) L ∧ L.length = n ∧ n ≤ 9223372036854775807 := by
  obtain ⟨K, h1, h2, h3, h4, h5⟩ := open_structs (fun o : OpS => opCells o.1) (fun o => PayAt w (fun i => i < w.heap.size) o.1.pv o.1.K ∧ o.1.K.length ≤ 9223372036854775807) 74 (by omega) (fun o => opCells_len o.2.1.1 o.2.1.2) Try.underlying103 (by kernel_rfl) (fun fuel cs x ht hl => by
    obtain ⟨xs, k, _, _, _, hlen, hfl⟩ := DataW.trod_struct Try.underlying106 ht
    have ci1 : Try.prog.cellsOf 3 = 1 := by kernel_rfl
    have cu : Try.prog.cellsOf 22 = 1 := by kernel_rfl
    have cI : Try.prog.cellsOf 70 = 32 := by kernel_rfl
    have cJ : Try.prog.cellsOf 75 = 38 := by kernel_rfl
    have cb : Try.prog.cellsOf 4 = 1 := by kernel_rfl
    have hx6 : xs.length = 6 := hlen
    have f0 : DataW.trod enc Try.prog w base (fun _ => true) held k 3 ((cs.drop 0).take (Try.prog.cellsOf 3)) = xs[0]? := hfl 0 _ rfl
    have f1 : DataW.trod enc Try.prog w base (fun _ => true) held k 3 ((cs.drop 1).take (Try.prog.cellsOf 3)) = xs[1]? := hfl 1 _ rfl
    have f2 : DataW.trod enc Try.prog w base (fun _ => true) held k 75 ((cs.drop 2).take (Try.prog.cellsOf 75)) = xs[2]? := hfl 2 _ rfl
    have f3 : DataW.trod enc Try.prog w base (fun _ => true) held k 22 ((cs.drop 40).take (Try.prog.cellsOf 22)) = xs[3]? := hfl 3 _ rfl
    have f4 : DataW.trod enc Try.prog w base (fun _ => true) held k 70 ((cs.drop 41).take (Try.prog.cellsOf 70)) = xs[4]? := hfl 4 _ rfl
    have f5 : DataW.trod enc Try.prog w base (fun _ => true) held k 4 ((cs.drop 73).take (Try.prog.cellsOf 4)) = xs[5]? := hfl 5 _ rfl
    rw [List.getElem?_eq_getElem (by omega)] at f0 f1 f2 f3 f4 f5
    rw [ci1] at f0 f1
    rw [cJ] at f2
    rw [cu] at f3
    rw [cI] at f4
    rw [cb] at f5
    obtain ⟨a0, q0⟩ := one_of ((cs.drop 0).take 1) (by simp [hl])
    obtain ⟨a1, q1⟩ := one_of ((cs.drop 1).take 1) (by simp [hl])
    obtain ⟨a3, q3⟩ := one_of ((cs.drop 40).take 1) (by simp [hl])
    obtain ⟨a5, q5⟩ := one_of ((cs.drop 73).take 1) (by simp [hl])
    have hcs : cs = (cs.drop 0).take 1 ++ ((cs.drop 1).take 1 ++ ((cs.drop 2).take 38 ++ ((cs.drop 40).take 1 ++ ((cs.drop 41).take 32 ++ (cs.drop 73).take 1)))) := by
      have e0 : cs.drop 0 = (cs.drop 0).take 1 ++ cs.drop 1 := by rw [show cs.drop 1 = (cs.drop 0).drop 1 by rw [List.drop_drop], List.take_append_drop]
      have e1 : cs.drop 1 = (cs.drop 1).take 1 ++ cs.drop 2 := by rw [show cs.drop 2 = (cs.drop 1).drop 1 by rw [List.drop_drop], List.take_append_drop]
      have e2 : cs.drop 2 = (cs.drop 2).take 38 ++ cs.drop 40 := by rw [show cs.drop 40 = (cs.drop 2).drop 38 by rw [List.drop_drop], List.take_append_drop]
      have e3 : cs.drop 40 = (cs.drop 40).take 1 ++ cs.drop 41 := by rw [show cs.drop 41 = (cs.drop 40).drop 1 by rw [List.drop_drop], List.take_append_drop]
      have e4 : cs.drop 41 = (cs.drop 41).take 32 ++ cs.drop 73 := by rw [show cs.drop 73 = (cs.drop 41).drop 32 by rw [List.drop_drop], List.take_append_drop]
      have e5 : (cs.drop 73).take 1 = cs.drop 73 := List.take_of_length_le (by simp [hl])
      rw [e5, ← e4, ← e3, ← e2, ← e1, ← e0, List.drop_zero]
    rw [q0] at f0
    rw [q1] at f1
    rw [q3] at f3
    rw [q5] at f5
    obtain ⟨i0, e0, _, w0⟩ := DataW.trod_int Try.underlying3 f0
    obtain ⟨i1, e1, _, w1⟩ := DataW.trod_int Try.underlying3 f1
    obtain ⟨i3, e3, _, w3⟩ := DataW.trod_int Try.underlying22 f3
    obtain ⟨x3, rfl⟩ := of_wf_u32 w3
    obtain ⟨b5, e5, _⟩ := DataW.trod_bool Try.underlying4 f5
    obtain ⟨j, v, K, hj, hjl, hv1, hP, hK, _, _⟩ := trod_job (cs := (cs.drop 2).take 38) (by simp [hl]) f2
    obtain ⟨id_, hid⟩ := trod_arr8J Try.underlying70 Try.underlying5 (by kernel_rfl) cI f4 (by simp [hl])
    have hidl : id_.length = 32 := by
      have := congrArg List.length hid
      simp [hl] at this
      exact this.symm
    simp at e0 e1 e3 e5
    refine ⟨⟨⟨i0, i1, j, v, K, x3, id_, b5⟩, ⟨hjl, hidl⟩, hv1⟩, ?_, hP, hK⟩
    rw [hcs, q0, q1, q3, q5, hj, hid, e0, e1, e3, e5]
    simp [opCells]) h
  subst h2
  refine ⟨K.map (·.1), ⟨⟨A, c, by simp, by simpa using h5, ?_⟩, ?_, ?_, ?_⟩, by simp, h4⟩
  · have : opsC (K.map (·.1)) = K.flatMap fun o => opCells o.1 := by unfold opsC; rw [List.flatMap_map]
    rw [this, List.length_map]
    exact ReadsS.of_reads h1 (by omega) (Nat.le_refl _)
  · intro x hx
    obtain ⟨y, _, rfl⟩ := List.mem_map.1 hx
    exact y.2.1
  · intro x hx
    obtain ⟨y, hy, rfl⟩ := List.mem_map.1 hx
    exact (h3 y hy).1
  · intro x hx
    obtain ⟨y, hy, rfl⟩ := List.mem_map.1 hx
    exact (h3 y hy).2
end
end Go.Proofs.Ytccpkafmbmkmfaa
namespace Go.Proofs.Ytccpkafmbmkmfaa
open Go.RowKit Go.Shelf
set_option linter.unusedVariables false
set_option linter.unusedSimpArgs false

/-- A TABLE AND A ROW OF JOBS: the table's blocks were made since w0, and nothing of the row lies in them -/
structure TabJ (w0 W : World) (TS : Nat → Prop) (g b : Nat) (M : List (KeyT × EntryK)) (v : Value) (L : List JobK) : Prop where
  bnd : ∀ i, TS i → w0.heap.size ≤ i ∧ i < W.heap.size
  tab : Tab W TS g b M
  jobs : JobsAt W (fun i => ¬ TS i) v L
  below : Below w0.heap.size w0 W
section
variable {w0 W W1 : World} {TS : Nat → Prop} {g b : Nat} {M M' : List (KeyT × EntryK)} {v u : Value} {L L' : List JobK}
theorem TabJ.later (h : TabJ w0 W TS g b M v L) (hb : Below W.heap.size W W1) : TabJ w0 W1 TS g b M v L :=
  ⟨fun i hi => ⟨(h.bnd i hi).1, Nat.lt_of_lt_of_le (h.bnd i hi).2 hb.size⟩, h.tab.below hb, h.jobs.below hb, below_next h.below hb⟩
theorem TabJ.row (h : TabJ w0 W TS g b M v L) (hm : MixJobs W W1 (fun i => ¬ TS i) u L') : TabJ w0 W1 TS g b M u L' :=
  ⟨(h.later hm.below).bnd, (h.later hm.below).tab, hm.jobs.mono fun i _ hs => by rcases hs with hs | hs; exact hs; exact fun e => by have := (h.bnd i e).2; omega, (h.later hm.below).below⟩
theorem TabJ.touch (h : TabJ w0 W TS g b M v L) (ht : Touch TS W W1) (hT : Tab W1 (fun i => TS i ∨ W.heap.size ≤ i) g b M') : TabJ w0 W1 (fun i => TS i ∨ (W.heap.size ≤ i ∧ i < W1.heap.size)) g b M' v L := by
  have hsz := ht.size
  have hs0 := h.below.size
  refine ⟨fun i hi => ?_, hT.mono_ fun i hi hs => hs.imp id fun e => ⟨e, hi⟩, ?_, h.below.trans (ht.below hs0 fun i hi hs => by have := (h.bnd i hs).1; omega)⟩
  · rcases hi with hi | hi
    · have := h.bnd i hi; omega
    · omega
  · refine ((h.jobs.mono (S' := fun i => ¬ TS i ∧ i < W.heap.size) fun i hi hs => ⟨hs, hi⟩).keep hsz fun i hi hs => ht.block i hi hs.1).mono fun i _ hs => ?_
    rintro (e | e)
    · exact hs.1 e
    · omega
theorem TabJ.touch_ (h : TabJ w0 W TS g b M v L) (ht : Touch TS W W1) (hT : Tab W1 TS g b M') : TabJ w0 W1 (fun i => TS i ∨ (W.heap.size ≤ i ∧ i < W1.heap.size)) g b M' v L :=
  h.touch ht (hT.mono_ fun i _ hs => .inl hs)
theorem TabJ.fresh {W2 W3 : World} {g' b' : Nat} {TS2 : Nat → Prop} (h : TabJ w0 W TS g b M v L) (hb : Below W.heap.size W W1) (hT : Tab W1 (fun i => W.heap.size ≤ i) g' b' M') (h2 : Touch TS W1 W2) (h3 : Touch TS2 W2 W3) (hTS2 : ∀ i, TS2 i → TS i ∨ W1.heap.size ≤ i) : TabJ w0 W3 (fun i => W.heap.size ≤ i ∧ i < W1.heap.size) g' b' M' v L := by
  have s1 := hb.size
  have s2 := h2.size
  have s3 := h3.size
  have s0 := h.below.size
  have hT' : Tab W1 (fun i => W.heap.size ≤ i ∧ i < W1.heap.size) g' b' M' := hT.mono_ fun i hi hs => ⟨hs, hi⟩
  have hN : ∀ i, i < W1.heap.size → ¬ TS i → W3.heap[i]? = W1.heap[i]? := fun i hi hs => (h3.block i (by omega) (fun e => by rcases hTS2 i e with e | e; exact hs e; omega)).trans (h2.block i hi hs)
  refine ⟨fun i hi => by omega, hT'.keep (by omega) fun i hi hs => hN i hi (fun e => by have := (h.bnd i e).2; omega), ?_, ?_⟩
  · have := ((h.jobs.mono (S' := fun i => ¬ TS i ∧ i < W.heap.size) fun i hi hs => ⟨hs, hi⟩).below hb)
    exact (this.keep (by omega) fun i hi hs => hN i hi hs.1).mono fun i _ hs e => by omega
  · refine ((below_next h.below hb).trans (h2.below (by omega) fun i hi hs => by have := (h.bnd i hs).1; omega)).trans (h3.below (by omega) fun i hi hs => ?_)
    rcases hTS2 i hs with e | e
    · have := (h.bnd i e).1; omega
    · omega
end
/-- what a call leaves: a table and a row that tell the same -/
def StepTo (w0 W : World) (TS : Nat → Prop) (n : Nat) (e : Ending) (W' : World) : Prop := ∃ TS' g' b' M' u L', e = .returned (.tuple #[.pointer (some ⟨g', 0, none⟩), u, .bool true]) ∧ TabJ w0 W' TS' g' b' M' u L' ∧ L'.map plainJ = M'.map plainE ∧ L'.length ≤ n + 1 ∧ Touch TS W W'
theorem info_jkey2 : (Try.prog.info? 68).map (·.size) = some 2 := by kernel_rfl
set_option maxRecDepth 100000 in
set_option maxHeartbeats 3200000 in
theorem step_bad (w0 W : World) (TS : Nat → Prop) (g b : Nat) (M : List (KeyT × EntryK)) (v : Value) (L : List JobK) (h : TabJ w0 W TS g b M v L) (E : L.map plainJ = M.map plainE) (o : OpM) (R : Array Value) (hR : OpVal o R) (ho : o.j.breach.length = 32) (hid : o.id.length = 32)
    (hP : PayAt W (fun i => ¬ TS i) o.pv o.K) (hm : Modest o.K) (hl : L.length ≤ 65536) (hk : o.kind = 0) (hr : rightJ o.j (plainT o.K) = false) :
    Calls Try.prog 62 #[.pointer (some ⟨g, 0, none⟩), v, .agg R] W fun e w' => StepTo w0 W TS L.length e w' := by
  obtain ⟨RJ, hRJ⟩ := jobVal (j := o.j) ho (v := o.pv) (by obtain ⟨_, _, e, _⟩ := hP; rw [e]; rfl)
  obtain ⟨RI, hRI⟩ : ∃ RI, IdVal o.id RI := idVal _ hid
  obtain ⟨W0, hW0⟩ : ∃ W0, W0 = W.alloc (.cells R 106) := ⟨_, rfl⟩
  have hs0 : W0.heap.size = W.heap.size + 1 := by rw [hW0]; simp
  obtain ⟨W1, hW1⟩ : ∃ W1, W1 = W0.alloc (.cells #[c32 o.j.ses, c32 o.j.seq] 68) := ⟨_, rfl⟩
  have hb1 : Below W.heap.size W W1 := by rw [hW1, hW0]; exact ((Below.refl _ _).alloc (Nat.le_refl _) _).alloc (by simp) _
  have hq0 : Blk W0 W.heap.size 106 R := by rw [hW0]; exact Blk.new W _ _
  have hq1 : Blk W1 W.heap.size 106 R := by rw [hW1]; exact hq0.alloc _
  have hk1 : Blk W1 (W.heap.size + 1) 68 #[c32 o.j.ses, c32 o.j.seq] := by rw [hW1, ← hs0]; exact Blk.new W0 _ _
  have p2 : W0.cell? ⟨W.heap.size, 2, none⟩ = some (c32 o.j.ses) := (hq0.cell 2).trans hR.ses
  have p3 : W0.cell? ⟨W.heap.size, 3, none⟩ = some (c32 o.j.seq) := (hq0.cell 3).trans hR.seq
  have hT1 := h.later hb1
  have HR := hide hR
  have HRJ := hide hRJ
  have HRI := hide hRI
  have HS0 := hide hs0
  have HQ := hide hq1
  have HK := hide hk1
  have HT := hide hT1
  have HP := hide (hP.below hb1)
  have HM := hide hm
  have HE := hide E
  have HH := hide ho
  have HPl := hide hT1.tab.plain
  have HRs := hide hRJ.val.symm
  have HRi := hide hRI.val.symm
  have HIj : Hid ((Try.prog.info? 75).map (·.size) = some (jobCells o.j o.pv).length) := hide (by rw [jobCells_len ho]; exact info_job)
  have HIi : Hid ((Try.prog.info? 70).map (·.size) = some (o.id.map c8).length) := hide (by rw [List.length_map, hid]; exact info_id)
  have HCj : Hid (∀ w2, Below W1.heap.size W1 w2 → ∀ i u, (jobCells o.j o.pv)[i]? = some u → w2.cell? ⟨W.heap.size, 2 + i, none⟩ = some u) := hide fun w2 hb i u hu => ((hq1.below hb hq1.lt).cell _).trans (hR.job i u hu)
  have HCi : Hid (∀ w2, Below W1.heap.size W1 w2 → ∀ i u, (o.id.map c8)[i]? = some u → w2.cell? ⟨W.heap.size, 41 + i, none⟩ = some u) := hide fun w2 hb i u hu => ((hq1.below hb hq1.lt).cell _).trans (hR.id_ i u hu)
  have HCk : Hid (∀ w2, Below W1.heap.size W1 w2 → w2.cell? ⟨W.heap.size + 1, 0, none⟩ = some (c32 o.j.ses) ∧ w2.cell? ⟨W.heap.size + 1, 1, none⟩ = some (c32 o.j.seq)) := hide fun w2 hb => ⟨((hk1.below hb hk1.lt).cell 0).trans rfl, ((hk1.below hb hk1.lt).cell 1).trans rfl⟩
  have HCo : Hid (∀ w2, Below W1.heap.size W1 w2 → w2.cell? ⟨W.heap.size, 1, none⟩ = some (ci o.tier) ∧ w2.cell? ⟨W.heap.size, 40, none⟩ = some (c32 o.n)) := hide fun w2 hb => ⟨((hq1.below hb hq1.lt).cell 1).trans hR.tier, ((hq1.below hb hq1.lt).cell 40).trans hR.n_⟩
  have a0 : W1.cell? ⟨W.heap.size, 0, none⟩ = some (ci o.kind) := (hq1.cell 0).trans hR.kind
  obtain ⟨a1, a40⟩ := HCo.out W1 (Below.refl _ _)
  obtain ⟨k0, k1⟩ := HCk.out W1 (Below.refl _ _)
  rw [hk] at a0
  have HRt := hide hr
  clear hr hk
  have CR := hide (refadd_bad v L o.j HH.out o.pv RJ HRJ.out o.K W1 (fun i => ¬ TS i) HT.out.jobs HP.out (by have := HM.out.1; omega) (by omega) HRt.out)
  clear hq0 hq1 hk1 hT1 hs0 hRJ hRI hP hm hR E
  replace hW0 := hide hW0.symm
  replace hW1 := hide hW1.symm
  go_enter Try.func62, Try.ntmps62
  go_upto_region 2 with (first | (rw [hW0.out]) | fail)
  rw [hW1.out, HS0.out]
  clear p2 p3
  go_wp2_with (first
    | ((with_reducible show wpList _ _ _ (⟨_, .load 75 _, _, _, _, _⟩ :: _) _ _); refine wpList_load_at rfl 75 _ rfl ⟨W.heap.size, 2, none⟩ rfl (jobCells o.j o.pv) _ Try.underlying75 rfl HIj.out (fun i u hu => by rw [Addr.add_lit]; exact HCj.out _ (by first | exact Below.refl _ _ | exact HB2.out) i u hu) ?_; rw [HRs.out])
    | (go_at_call 101; (with_reducible refine CR.out.mono ?_); rintro e w2 ⟨rfl, hb2⟩; have HB2 := hide hb2; have HT2 := hide (HT.out.later hb2); have HP2 := hide (HP.out.below hb2); have HPl2 := hide HT2.out.tab.plain; clear hb2; have CT := hide (jadd_bad w2 TS g b M o.j HH.out o.pv RJ HRJ.out o.K (fun i => ¬ TS i) HP2.out HM.out HRt.out HT2.out.tab))
    | (go_at_call 45; (with_reducible refine CT.out.mono ?_); rintro e w3 ⟨rfl, hb3⟩; have HB3 := hide hb3; clear hb3)
    | fail)
  go_ret3
  refine ⟨TS, _, _, M, _, L, rfl, HT2.out.later HB3.out, HE.out, Nat.le_succ _, ((Touch.of_below hb1).then_below HB2.out).then_below HB3.out⟩
set_option maxRecDepth 100000 in
set_option maxHeartbeats 3200000 in
theorem step_twice (w0 W : World) (TS : Nat → Prop) (g b : Nat) (M : List (KeyT × EntryK)) (v : Value) (L : List JobK) (h : TabJ w0 W TS g b M v L) (E : L.map plainJ = M.map plainE) (o : OpM) (R : Array Value) (hR : OpVal o R) (ho : o.j.breach.length = 32) (hid : o.id.length = 32)
    (hP : PayAt W (fun i => ¬ TS i) o.pv o.K) (hm : Modest o.K) (hl : L.length ≤ 65536) (hk : o.kind = 0) (hr : rightJ o.j (plainT o.K) = true) (x : EntryK) (hx : mget M (keyOfJ o.j) = some x) :
    Calls Try.prog 62 #[.pointer (some ⟨g, 0, none⟩), v, .agg R] W fun e w' => StepTo w0 W TS L.length e w' := by
  obtain ⟨RJ, hRJ⟩ := jobVal (j := o.j) ho (v := o.pv) (by obtain ⟨_, _, e, _⟩ := hP; rw [e]; rfl)
  obtain ⟨RI, hRI⟩ : ∃ RI, IdVal o.id RI := idVal _ hid
  obtain ⟨W0, hW0⟩ : ∃ W0, W0 = W.alloc (.cells R 106) := ⟨_, rfl⟩
  have hs0 : W0.heap.size = W.heap.size + 1 := by rw [hW0]; simp
  obtain ⟨W1, hW1⟩ : ∃ W1, W1 = W0.alloc (.cells #[c32 o.j.ses, c32 o.j.seq] 68) := ⟨_, rfl⟩
  have hb1 : Below W.heap.size W W1 := by rw [hW1, hW0]; exact ((Below.refl _ _).alloc (Nat.le_refl _) _).alloc (by simp) _
  have hq0 : Blk W0 W.heap.size 106 R := by rw [hW0]; exact Blk.new W _ _
  have hq1 : Blk W1 W.heap.size 106 R := by rw [hW1]; exact hq0.alloc _
  have hk1 : Blk W1 (W.heap.size + 1) 68 #[c32 o.j.ses, c32 o.j.seq] := by rw [hW1, ← hs0]; exact Blk.new W0 _ _
  have p2 : W0.cell? ⟨W.heap.size, 2, none⟩ = some (c32 o.j.ses) := (hq0.cell 2).trans hR.ses
  have p3 : W0.cell? ⟨W.heap.size, 3, none⟩ = some (c32 o.j.seq) := (hq0.cell 3).trans hR.seq
  have hT1 := h.later hb1
  have HR := hide hR
  have HRJ := hide hRJ
  have HRI := hide hRI
  have HS0 := hide hs0
  have HQ := hide hq1
  have HK := hide hk1
  have HT := hide hT1
  have HP := hide (hP.below hb1)
  have HM := hide hm
  have HE := hide E
  have HH := hide ho
  have HPl := hide hT1.tab.plain
  have HRs := hide hRJ.val.symm
  have HRi := hide hRI.val.symm
  have HIj : Hid ((Try.prog.info? 75).map (·.size) = some (jobCells o.j o.pv).length) := hide (by rw [jobCells_len ho]; exact info_job)
  have HIi : Hid ((Try.prog.info? 70).map (·.size) = some (o.id.map c8).length) := hide (by rw [List.length_map, hid]; exact info_id)
  have HCj : Hid (∀ w2, Below W1.heap.size W1 w2 → ∀ i u, (jobCells o.j o.pv)[i]? = some u → w2.cell? ⟨W.heap.size, 2 + i, none⟩ = some u) := hide fun w2 hb i u hu => ((hq1.below hb hq1.lt).cell _).trans (hR.job i u hu)
  have HCi : Hid (∀ w2, Below W1.heap.size W1 w2 → ∀ i u, (o.id.map c8)[i]? = some u → w2.cell? ⟨W.heap.size, 41 + i, none⟩ = some u) := hide fun w2 hb i u hu => ((hq1.below hb hq1.lt).cell _).trans (hR.id_ i u hu)
  have HCk : Hid (∀ w2, Below W1.heap.size W1 w2 → w2.cell? ⟨W.heap.size + 1, 0, none⟩ = some (c32 o.j.ses) ∧ w2.cell? ⟨W.heap.size + 1, 1, none⟩ = some (c32 o.j.seq)) := hide fun w2 hb => ⟨((hk1.below hb hk1.lt).cell 0).trans rfl, ((hk1.below hb hk1.lt).cell 1).trans rfl⟩
  have HCo : Hid (∀ w2, Below W1.heap.size W1 w2 → w2.cell? ⟨W.heap.size, 1, none⟩ = some (ci o.tier) ∧ w2.cell? ⟨W.heap.size, 40, none⟩ = some (c32 o.n)) := hide fun w2 hb => ⟨((hq1.below hb hq1.lt).cell 1).trans hR.tier, ((hq1.below hb hq1.lt).cell 40).trans hR.n_⟩
  have a0 : W1.cell? ⟨W.heap.size, 0, none⟩ = some (ci o.kind) := (hq1.cell 0).trans hR.kind
  obtain ⟨a1, a40⟩ := HCo.out W1 (Below.refl _ _)
  obtain ⟨k0, k1⟩ := HCk.out W1 (Below.refl _ _)
  rw [hk] at a0
  have HRt := hide hr
  clear hr hk
  have CR := hide (refadd_twice v L o.j HH.out o.pv RJ HRJ.out o.K W1 (fun i => ¬ TS i) HT.out.jobs HP.out (by have := HM.out.1; omega) (by omega) HRt.out (by obtain ⟨i, y, hy, _, hky, _⟩ := eqv_some HPl.out HE.out hx; exact List.mem_map.2 ⟨y, List.mem_of_getElem? hy, hky⟩))
  clear hq0 hq1 hk1 hT1 hs0 hRJ hRI hP hm hR E
  replace hW0 := hide hW0.symm
  replace hW1 := hide hW1.symm
  go_enter Try.func62, Try.ntmps62
  go_upto_region 2 with (first | (rw [hW0.out]) | fail)
  rw [hW1.out, HS0.out]
  clear p2 p3
  go_wp2_with (first
    | ((with_reducible show wpList _ _ _ (⟨_, .load 75 _, _, _, _, _⟩ :: _) _ _); refine wpList_load_at rfl 75 _ rfl ⟨W.heap.size, 2, none⟩ rfl (jobCells o.j o.pv) _ Try.underlying75 rfl HIj.out (fun i u hu => by rw [Addr.add_lit]; exact HCj.out _ (by first | exact Below.refl _ _ | exact HB2.out) i u hu) ?_; rw [HRs.out])
    | (go_at_call 101; (with_reducible refine CR.out.mono ?_); rintro e w2 ⟨rfl, hb2⟩; have HB2 := hide hb2; have HT2 := hide (HT.out.later hb2); have HP2 := hide (HP.out.below hb2); have HPl2 := hide HT2.out.tab.plain; clear hb2; have CT := hide (jadd_twice w2 TS g b M o.j HH.out o.pv RJ HRJ.out o.K (fun i => ¬ TS i) HP2.out HM.out HRt.out HT2.out.tab x hx))
    | (go_at_call 45; (with_reducible refine CT.out.mono ?_); rintro e w3 ⟨rfl, hb3⟩; have HB3 := hide hb3; clear hb3)
    | fail)
  go_ret3
  refine ⟨TS, _, _, M, _, L, rfl, HT2.out.later HB3.out, HE.out, Nat.le_succ _, ((Touch.of_below hb1).then_below HB2.out).then_below HB3.out⟩
set_option maxRecDepth 100000 in
set_option maxHeartbeats 3200000 in
theorem step_new (w0 W : World) (TS : Nat → Prop) (g b : Nat) (M : List (KeyT × EntryK)) (v : Value) (L : List JobK) (h : TabJ w0 W TS g b M v L) (E : L.map plainJ = M.map plainE) (o : OpM) (R : Array Value) (hR : OpVal o R) (ho : o.j.breach.length = 32) (hid : o.id.length = 32)
    (hP : PayAt W (fun i => ¬ TS i) o.pv o.K) (hm : Modest o.K) (hl : L.length ≤ 65536) (hk : o.kind = 0) (hr : rightJ o.j (plainT o.K) = true) (hx : mget M (keyOfJ o.j) = none) :
    Calls Try.prog 62 #[.pointer (some ⟨g, 0, none⟩), v, .agg R] W fun e w' => StepTo w0 W TS L.length e w' := by
  obtain ⟨RJ, hRJ⟩ := jobVal (j := o.j) ho (v := o.pv) (by obtain ⟨_, _, e, _⟩ := hP; rw [e]; rfl)
  obtain ⟨RI, hRI⟩ : ∃ RI, IdVal o.id RI := idVal _ hid
  obtain ⟨W0, hW0⟩ : ∃ W0, W0 = W.alloc (.cells R 106) := ⟨_, rfl⟩
  have hs0 : W0.heap.size = W.heap.size + 1 := by rw [hW0]; simp
  obtain ⟨W1, hW1⟩ : ∃ W1, W1 = W0.alloc (.cells #[c32 o.j.ses, c32 o.j.seq] 68) := ⟨_, rfl⟩
  have hb1 : Below W.heap.size W W1 := by rw [hW1, hW0]; exact ((Below.refl _ _).alloc (Nat.le_refl _) _).alloc (by simp) _
  have hq0 : Blk W0 W.heap.size 106 R := by rw [hW0]; exact Blk.new W _ _
  have hq1 : Blk W1 W.heap.size 106 R := by rw [hW1]; exact hq0.alloc _
  have hk1 : Blk W1 (W.heap.size + 1) 68 #[c32 o.j.ses, c32 o.j.seq] := by rw [hW1, ← hs0]; exact Blk.new W0 _ _
  have p2 : W0.cell? ⟨W.heap.size, 2, none⟩ = some (c32 o.j.ses) := (hq0.cell 2).trans hR.ses
  have p3 : W0.cell? ⟨W.heap.size, 3, none⟩ = some (c32 o.j.seq) := (hq0.cell 3).trans hR.seq
  have hT1 := h.later hb1
  have HR := hide hR
  have HRJ := hide hRJ
  have HRI := hide hRI
  have HS0 := hide hs0
  have HQ := hide hq1
  have HK := hide hk1
  have HT := hide hT1
  have HP := hide (hP.below hb1)
  have HM := hide hm
  have HE := hide E
  have HH := hide ho
  have HPl := hide hT1.tab.plain
  have HRs := hide hRJ.val.symm
  have HRi := hide hRI.val.symm
  have HIj : Hid ((Try.prog.info? 75).map (·.size) = some (jobCells o.j o.pv).length) := hide (by rw [jobCells_len ho]; exact info_job)
  have HIi : Hid ((Try.prog.info? 70).map (·.size) = some (o.id.map c8).length) := hide (by rw [List.length_map, hid]; exact info_id)
  have HCj : Hid (∀ w2, Below W1.heap.size W1 w2 → ∀ i u, (jobCells o.j o.pv)[i]? = some u → w2.cell? ⟨W.heap.size, 2 + i, none⟩ = some u) := hide fun w2 hb i u hu => ((hq1.below hb hq1.lt).cell _).trans (hR.job i u hu)
  have HCi : Hid (∀ w2, Below W1.heap.size W1 w2 → ∀ i u, (o.id.map c8)[i]? = some u → w2.cell? ⟨W.heap.size, 41 + i, none⟩ = some u) := hide fun w2 hb i u hu => ((hq1.below hb hq1.lt).cell _).trans (hR.id_ i u hu)
  have HCk : Hid (∀ w2, Below W1.heap.size W1 w2 → w2.cell? ⟨W.heap.size + 1, 0, none⟩ = some (c32 o.j.ses) ∧ w2.cell? ⟨W.heap.size + 1, 1, none⟩ = some (c32 o.j.seq)) := hide fun w2 hb => ⟨((hk1.below hb hk1.lt).cell 0).trans rfl, ((hk1.below hb hk1.lt).cell 1).trans rfl⟩
  have HCo : Hid (∀ w2, Below W1.heap.size W1 w2 → w2.cell? ⟨W.heap.size, 1, none⟩ = some (ci o.tier) ∧ w2.cell? ⟨W.heap.size, 40, none⟩ = some (c32 o.n)) := hide fun w2 hb => ⟨((hq1.below hb hq1.lt).cell 1).trans hR.tier, ((hq1.below hb hq1.lt).cell 40).trans hR.n_⟩
  have a0 : W1.cell? ⟨W.heap.size, 0, none⟩ = some (ci o.kind) := (hq1.cell 0).trans hR.kind
  obtain ⟨a1, a40⟩ := HCo.out W1 (Below.refl _ _)
  obtain ⟨k0, k1⟩ := HCk.out W1 (Below.refl _ _)
  rw [hk] at a0
  have HRt := hide hr
  clear hr hk
  have CR := hide (refadd_new v L o.j HH.out o.pv RJ HRJ.out o.K W1 (fun i => ¬ TS i) HT.out.jobs HP.out (by have := HM.out.1; omega) (by omega) HRt.out (eqv_none HPl.out HE.out hx))
  have HLn := hide (eqv_len E)
  clear hq0 hq1 hk1 hT1 hs0 hRJ hRI hP hm hR E
  replace hW0 := hide hW0.symm
  replace hW1 := hide hW1.symm
  go_enter Try.func62, Try.ntmps62
  go_upto_region 2 with (first | (rw [hW0.out]) | fail)
  rw [hW1.out, HS0.out]
  clear p2 p3
  go_wp2_with (first
    | ((with_reducible show wpList _ _ _ (⟨_, .load 75 _, _, _, _, _⟩ :: _) _ _); refine wpList_load_at rfl 75 _ rfl ⟨W.heap.size, 2, none⟩ rfl (jobCells o.j o.pv) _ Try.underlying75 rfl HIj.out (fun i u hu => by rw [Addr.add_lit]; exact HCj.out _ (by first | exact Below.refl _ _ | exact HX.out.below) i u hu) ?_; rw [HRs.out])
    | (go_at_call 101; (with_reducible refine CR.out.mono ?_); rintro e w2 ⟨u, rfl, hmx⟩; have HX := hide hmx; have HT2 := hide (HT.out.row hmx); have HP2 := hide (HP.out.below hmx.below); have CT := hide (jadd_new w2 TS g b M o.j HH.out o.pv RJ HRJ.out o.K (fun i => ¬ TS i) HP2.out HM.out HRt.out HT2.out.tab (by have := HLn.out; omega) hx); clear hmx)
    | (go_at_call 45; (with_reducible refine CT.out.mono ?_); rintro e w3 ⟨rfl, ht3, x, hxj, hxk, hT3⟩; have HT3 := hide ht3; have HXj := hide hxj; have HXk := hide hxk; have HTb := hide hT3; clear ht3 hxj hxk hT3)
    | fail)
  go_ret3
  refine ⟨_, _, _, _, _, _, rfl, HT2.out.touch HT3.out HTb.out, ?_, by simp, ((Touch.of_below hb1).then_below HX.out.below).trans HT3.out (fun _ _ e => e)⟩
  rw [List.map_append, List.map_append, HE.out]
  simp only [List.map_cons, List.map_nil, plainE, plainJ, HXj.out, HXk.out]
end Go.Proofs.Ytccpkafmbmkmfaa
namespace Go.Proofs.Ytccpkafmbmkmfaa
open Go.RowKit Go.Shelf
set_option linter.unusedVariables false
set_option linter.unusedSimpArgs false

set_option maxRecDepth 100000 in
set_option maxHeartbeats 3200000 in
theorem step_drop_none (w0 W : World) (TS : Nat → Prop) (g b : Nat) (M : List (KeyT × EntryK)) (v : Value) (L : List JobK) (h : TabJ w0 W TS g b M v L) (E : L.map plainJ = M.map plainE) (o : OpM) (R : Array Value) (hR : OpVal o R) (ho : o.j.breach.length = 32) (hid : o.id.length = 32)
    (hP : PayAt W (fun i => ¬ TS i) o.pv o.K) (hm : Modest o.K) (hl : L.length ≤ 65536) (hk : o.kind = 1) (hx : mget M (o.j.ses, o.j.seq) = none) :
    Calls Try.prog 62 #[.pointer (some ⟨g, 0, none⟩), v, .agg R] W fun e w' => StepTo w0 W TS L.length e w' := by
  obtain ⟨RJ, hRJ⟩ := jobVal (j := o.j) ho (v := o.pv) (by obtain ⟨_, _, e, _⟩ := hP; rw [e]; rfl)
  obtain ⟨RI, hRI⟩ : ∃ RI, IdVal o.id RI := idVal _ hid
  obtain ⟨W0, hW0⟩ : ∃ W0, W0 = W.alloc (.cells R 106) := ⟨_, rfl⟩
  have hs0 : W0.heap.size = W.heap.size + 1 := by rw [hW0]; simp
  obtain ⟨W1, hW1⟩ : ∃ W1, W1 = W0.alloc (.cells #[c32 o.j.ses, c32 o.j.seq] 68) := ⟨_, rfl⟩
  have hb1 : Below W.heap.size W W1 := by rw [hW1, hW0]; exact ((Below.refl _ _).alloc (Nat.le_refl _) _).alloc (by simp) _
  have hq0 : Blk W0 W.heap.size 106 R := by rw [hW0]; exact Blk.new W _ _
  have hq1 : Blk W1 W.heap.size 106 R := by rw [hW1]; exact hq0.alloc _
  have hk1 : Blk W1 (W.heap.size + 1) 68 #[c32 o.j.ses, c32 o.j.seq] := by rw [hW1, ← hs0]; exact Blk.new W0 _ _
  have p2 : W0.cell? ⟨W.heap.size, 2, none⟩ = some (c32 o.j.ses) := (hq0.cell 2).trans hR.ses
  have p3 : W0.cell? ⟨W.heap.size, 3, none⟩ = some (c32 o.j.seq) := (hq0.cell 3).trans hR.seq
  have hT1 := h.later hb1
  have HR := hide hR
  have HRJ := hide hRJ
  have HRI := hide hRI
  have HS0 := hide hs0
  have HQ := hide hq1
  have HK := hide hk1
  have HT := hide hT1
  have HP := hide (hP.below hb1)
  have HM := hide hm
  have HE := hide E
  have HH := hide ho
  have HPl := hide hT1.tab.plain
  have HRs := hide hRJ.val.symm
  have HRi := hide hRI.val.symm
  have HIj : Hid ((Try.prog.info? 75).map (·.size) = some (jobCells o.j o.pv).length) := hide (by rw [jobCells_len ho]; exact info_job)
  have HIi : Hid ((Try.prog.info? 70).map (·.size) = some (o.id.map c8).length) := hide (by rw [List.length_map, hid]; exact info_id)
  have HCj : Hid (∀ w2, Below W1.heap.size W1 w2 → ∀ i u, (jobCells o.j o.pv)[i]? = some u → w2.cell? ⟨W.heap.size, 2 + i, none⟩ = some u) := hide fun w2 hb i u hu => ((hq1.below hb hq1.lt).cell _).trans (hR.job i u hu)
  have HCi : Hid (∀ w2, Below W1.heap.size W1 w2 → ∀ i u, (o.id.map c8)[i]? = some u → w2.cell? ⟨W.heap.size, 41 + i, none⟩ = some u) := hide fun w2 hb i u hu => ((hq1.below hb hq1.lt).cell _).trans (hR.id_ i u hu)
  have HCk : Hid (∀ w2, Below W1.heap.size W1 w2 → w2.cell? ⟨W.heap.size + 1, 0, none⟩ = some (c32 o.j.ses) ∧ w2.cell? ⟨W.heap.size + 1, 1, none⟩ = some (c32 o.j.seq)) := hide fun w2 hb => ⟨((hk1.below hb hk1.lt).cell 0).trans rfl, ((hk1.below hb hk1.lt).cell 1).trans rfl⟩
  have HCo : Hid (∀ w2, Below W1.heap.size W1 w2 → w2.cell? ⟨W.heap.size, 1, none⟩ = some (ci o.tier) ∧ w2.cell? ⟨W.heap.size, 40, none⟩ = some (c32 o.n)) := hide fun w2 hb => ⟨((hq1.below hb hq1.lt).cell 1).trans hR.tier, ((hq1.below hb hq1.lt).cell 40).trans hR.n_⟩
  have a0 : W1.cell? ⟨W.heap.size, 0, none⟩ = some (ci o.kind) := (hq1.cell 0).trans hR.kind
  obtain ⟨a1, a40⟩ := HCo.out W1 (Below.refl _ _)
  obtain ⟨k0, k1⟩ := HCk.out W1 (Below.refl _ _)
  rw [hk] at a0
  have HLn := hide (eqv_len E)
  clear hk
  have HLs := hide (eqv_gone HPl.out HE.out hx)
  have CR := hide (refdrop_any v L (o.j.ses, o.j.seq) W1 (fun i => ¬ TS i) HT.out.jobs (by omega))
  unfold kf at CR
  dsimp only at CR
  clear hq0 hq1 hk1 hT1 hs0 hRJ hRI hP hm hR E
  replace hW0 := hide hW0.symm
  replace hW1 := hide hW1.symm
  go_enter Try.func62, Try.ntmps62
  go_upto_region 2 with (first | (rw [hW0.out]) | fail)
  rw [hW1.out, HS0.out]
  clear p2 p3
  go_wp2_with (first
    | (go_at_call 102; (with_reducible refine CR.out.mono ?_); rintro e w2 ⟨u, rfl, hmx⟩; have kk := HCk.out w2 hmx.below; obtain ⟨k0, k1⟩ := kk; have aa := HCo.out w2 hmx.below; obtain ⟨a1, a40⟩ := aa; have HX := hide hmx; have HT2 := hide (HT.out.row hmx); have CT := hide ((jdrop_none w2 TS g b M (o.j.ses, o.j.seq) HT2.out.tab hx)); clear hmx; unfold kf at CT; dsimp only at CT; rw [HLs.out])
    | (go_at_call 55; (with_reducible refine CT.out.mono ?_); rintro e w3 ⟨rfl, hb3⟩; have HB3 := hide hb3; clear hb3)
    | fail)
  go_ret3
  refine ⟨TS, _, _, M, _, dropK L (o.j.ses, o.j.seq), rfl, HT2.out.later HB3.out, ?_, ?_, ((Touch.of_below hb1).then_below HX.out.below).then_below HB3.out⟩
  · rw [eqv_drop HPl.out HE.out, show mdel M (o.j.ses, o.j.seq) = M from List.filter_eq_self.2 fun p hp => by simpa using mget_none.1 hx p hp]
  · exact Nat.le_succ_of_le (List.length_filter_le _ _)
set_option maxRecDepth 100000 in
set_option maxHeartbeats 3200000 in
theorem step_drop_some (w0 W : World) (TS : Nat → Prop) (g b : Nat) (M : List (KeyT × EntryK)) (v : Value) (L : List JobK) (h : TabJ w0 W TS g b M v L) (E : L.map plainJ = M.map plainE) (o : OpM) (R : Array Value) (hR : OpVal o R) (ho : o.j.breach.length = 32) (hid : o.id.length = 32)
    (hP : PayAt W (fun i => ¬ TS i) o.pv o.K) (hm : Modest o.K) (hl : L.length ≤ 65536) (hk : o.kind = 1) (x : EntryK) (hx : mget M (o.j.ses, o.j.seq) = some x) :
    Calls Try.prog 62 #[.pointer (some ⟨g, 0, none⟩), v, .agg R] W fun e w' => StepTo w0 W TS L.length e w' := by
  obtain ⟨RJ, hRJ⟩ := jobVal (j := o.j) ho (v := o.pv) (by obtain ⟨_, _, e, _⟩ := hP; rw [e]; rfl)
  obtain ⟨RI, hRI⟩ : ∃ RI, IdVal o.id RI := idVal _ hid
  obtain ⟨W0, hW0⟩ : ∃ W0, W0 = W.alloc (.cells R 106) := ⟨_, rfl⟩
  have hs0 : W0.heap.size = W.heap.size + 1 := by rw [hW0]; simp
  obtain ⟨W1, hW1⟩ : ∃ W1, W1 = W0.alloc (.cells #[c32 o.j.ses, c32 o.j.seq] 68) := ⟨_, rfl⟩
  have hb1 : Below W.heap.size W W1 := by rw [hW1, hW0]; exact ((Below.refl _ _).alloc (Nat.le_refl _) _).alloc (by simp) _
  have hq0 : Blk W0 W.heap.size 106 R := by rw [hW0]; exact Blk.new W _ _
  have hq1 : Blk W1 W.heap.size 106 R := by rw [hW1]; exact hq0.alloc _
  have hk1 : Blk W1 (W.heap.size + 1) 68 #[c32 o.j.ses, c32 o.j.seq] := by rw [hW1, ← hs0]; exact Blk.new W0 _ _
  have p2 : W0.cell? ⟨W.heap.size, 2, none⟩ = some (c32 o.j.ses) := (hq0.cell 2).trans hR.ses
  have p3 : W0.cell? ⟨W.heap.size, 3, none⟩ = some (c32 o.j.seq) := (hq0.cell 3).trans hR.seq
  have hT1 := h.later hb1
  have HR := hide hR
  have HRJ := hide hRJ
  have HRI := hide hRI
  have HS0 := hide hs0
  have HQ := hide hq1
  have HK := hide hk1
  have HT := hide hT1
  have HP := hide (hP.below hb1)
  have HM := hide hm
  have HE := hide E
  have HH := hide ho
  have HPl := hide hT1.tab.plain
  have HRs := hide hRJ.val.symm
  have HRi := hide hRI.val.symm
  have HIj : Hid ((Try.prog.info? 75).map (·.size) = some (jobCells o.j o.pv).length) := hide (by rw [jobCells_len ho]; exact info_job)
  have HIi : Hid ((Try.prog.info? 70).map (·.size) = some (o.id.map c8).length) := hide (by rw [List.length_map, hid]; exact info_id)
  have HCj : Hid (∀ w2, Below W1.heap.size W1 w2 → ∀ i u, (jobCells o.j o.pv)[i]? = some u → w2.cell? ⟨W.heap.size, 2 + i, none⟩ = some u) := hide fun w2 hb i u hu => ((hq1.below hb hq1.lt).cell _).trans (hR.job i u hu)
  have HCi : Hid (∀ w2, Below W1.heap.size W1 w2 → ∀ i u, (o.id.map c8)[i]? = some u → w2.cell? ⟨W.heap.size, 41 + i, none⟩ = some u) := hide fun w2 hb i u hu => ((hq1.below hb hq1.lt).cell _).trans (hR.id_ i u hu)
  have HCk : Hid (∀ w2, Below W1.heap.size W1 w2 → w2.cell? ⟨W.heap.size + 1, 0, none⟩ = some (c32 o.j.ses) ∧ w2.cell? ⟨W.heap.size + 1, 1, none⟩ = some (c32 o.j.seq)) := hide fun w2 hb => ⟨((hk1.below hb hk1.lt).cell 0).trans rfl, ((hk1.below hb hk1.lt).cell 1).trans rfl⟩
  have HCo : Hid (∀ w2, Below W1.heap.size W1 w2 → w2.cell? ⟨W.heap.size, 1, none⟩ = some (ci o.tier) ∧ w2.cell? ⟨W.heap.size, 40, none⟩ = some (c32 o.n)) := hide fun w2 hb => ⟨((hq1.below hb hq1.lt).cell 1).trans hR.tier, ((hq1.below hb hq1.lt).cell 40).trans hR.n_⟩
  have a0 : W1.cell? ⟨W.heap.size, 0, none⟩ = some (ci o.kind) := (hq1.cell 0).trans hR.kind
  obtain ⟨a1, a40⟩ := HCo.out W1 (Below.refl _ _)
  obtain ⟨k0, k1⟩ := HCk.out W1 (Below.refl _ _)
  rw [hk] at a0
  have HLn := hide (eqv_len E)
  clear hk
  have HLs := hide (eqv_less HPl.out HE.out hx)
  have CR := hide (refdrop_any v L (o.j.ses, o.j.seq) W1 (fun i => ¬ TS i) HT.out.jobs (by omega))
  unfold kf at CR
  dsimp only at CR
  clear hq0 hq1 hk1 hT1 hs0 hRJ hRI hP hm hR E
  replace hW0 := hide hW0.symm
  replace hW1 := hide hW1.symm
  go_enter Try.func62, Try.ntmps62
  go_upto_region 2 with (first | (rw [hW0.out]) | fail)
  rw [hW1.out, HS0.out]
  clear p2 p3
  go_wp2_with (first
    | (go_at_call 102; (with_reducible refine CR.out.mono ?_); rintro e w2 ⟨u, rfl, hmx⟩; have kk := HCk.out w2 hmx.below; obtain ⟨k0, k1⟩ := kk; have aa := HCo.out w2 hmx.below; obtain ⟨a1, a40⟩ := aa; have HX := hide hmx; have HT2 := hide (HT.out.row hmx); have CT := hide ((jdrop_some w2 TS g b M (o.j.ses, o.j.seq) x HT2.out.tab (by have := HLn.out; omega) hx)); clear hmx; unfold kf at CT; dsimp only at CT; rw [HLs.out])
    | (go_at_call 55; (with_reducible refine CT.out.mono ?_); rintro e w3 ⟨rfl, ht3, hT3⟩; have HT3 := hide ht3; have HTb := hide hT3; clear ht3 hT3)
    | fail)
  go_ret3
  exact ⟨_, _, _, _, _, dropK L (o.j.ses, o.j.seq), rfl, HT2.out.touch HT3.out HTb.out, eqv_drop HPl.out HE.out _, Nat.le_succ_of_le (List.length_filter_le _ _), ((Touch.of_below hb1).then_below HX.out.below).trans HT3.out (fun _ _ e => e)⟩
set_option maxRecDepth 100000 in
set_option maxHeartbeats 3200000 in
theorem step_mark_none (w0 W : World) (TS : Nat → Prop) (g b : Nat) (M : List (KeyT × EntryK)) (v : Value) (L : List JobK) (h : TabJ w0 W TS g b M v L) (E : L.map plainJ = M.map plainE) (o : OpM) (R : Array Value) (hR : OpVal o R) (ho : o.j.breach.length = 32) (hid : o.id.length = 32)
    (hP : PayAt W (fun i => ¬ TS i) o.pv o.K) (hm : Modest o.K) (hl : L.length ≤ 65536) (hk : o.kind = 2) (hx : mget M (o.j.ses, o.j.seq) = none) :
    Calls Try.prog 62 #[.pointer (some ⟨g, 0, none⟩), v, .agg R] W fun e w' => StepTo w0 W TS L.length e w' := by
  obtain ⟨RJ, hRJ⟩ := jobVal (j := o.j) ho (v := o.pv) (by obtain ⟨_, _, e, _⟩ := hP; rw [e]; rfl)
  obtain ⟨RI, hRI⟩ : ∃ RI, IdVal o.id RI := idVal _ hid
  obtain ⟨W0, hW0⟩ : ∃ W0, W0 = W.alloc (.cells R 106) := ⟨_, rfl⟩
  have hs0 : W0.heap.size = W.heap.size + 1 := by rw [hW0]; simp
  obtain ⟨W1, hW1⟩ : ∃ W1, W1 = W0.alloc (.cells #[c32 o.j.ses, c32 o.j.seq] 68) := ⟨_, rfl⟩
  have hb1 : Below W.heap.size W W1 := by rw [hW1, hW0]; exact ((Below.refl _ _).alloc (Nat.le_refl _) _).alloc (by simp) _
  have hq0 : Blk W0 W.heap.size 106 R := by rw [hW0]; exact Blk.new W _ _
  have hq1 : Blk W1 W.heap.size 106 R := by rw [hW1]; exact hq0.alloc _
  have hk1 : Blk W1 (W.heap.size + 1) 68 #[c32 o.j.ses, c32 o.j.seq] := by rw [hW1, ← hs0]; exact Blk.new W0 _ _
  have p2 : W0.cell? ⟨W.heap.size, 2, none⟩ = some (c32 o.j.ses) := (hq0.cell 2).trans hR.ses
  have p3 : W0.cell? ⟨W.heap.size, 3, none⟩ = some (c32 o.j.seq) := (hq0.cell 3).trans hR.seq
  have hT1 := h.later hb1
  have HR := hide hR
  have HRJ := hide hRJ
  have HRI := hide hRI
  have HS0 := hide hs0
  have HQ := hide hq1
  have HK := hide hk1
  have HT := hide hT1
  have HP := hide (hP.below hb1)
  have HM := hide hm
  have HE := hide E
  have HH := hide ho
  have HPl := hide hT1.tab.plain
  have HRs := hide hRJ.val.symm
  have HRi := hide hRI.val.symm
  have HIj : Hid ((Try.prog.info? 75).map (·.size) = some (jobCells o.j o.pv).length) := hide (by rw [jobCells_len ho]; exact info_job)
  have HIi : Hid ((Try.prog.info? 70).map (·.size) = some (o.id.map c8).length) := hide (by rw [List.length_map, hid]; exact info_id)
  have HCj : Hid (∀ w2, Below W1.heap.size W1 w2 → ∀ i u, (jobCells o.j o.pv)[i]? = some u → w2.cell? ⟨W.heap.size, 2 + i, none⟩ = some u) := hide fun w2 hb i u hu => ((hq1.below hb hq1.lt).cell _).trans (hR.job i u hu)
  have HCi : Hid (∀ w2, Below W1.heap.size W1 w2 → ∀ i u, (o.id.map c8)[i]? = some u → w2.cell? ⟨W.heap.size, 41 + i, none⟩ = some u) := hide fun w2 hb i u hu => ((hq1.below hb hq1.lt).cell _).trans (hR.id_ i u hu)
  have HCk : Hid (∀ w2, Below W1.heap.size W1 w2 → w2.cell? ⟨W.heap.size + 1, 0, none⟩ = some (c32 o.j.ses) ∧ w2.cell? ⟨W.heap.size + 1, 1, none⟩ = some (c32 o.j.seq)) := hide fun w2 hb => ⟨((hk1.below hb hk1.lt).cell 0).trans rfl, ((hk1.below hb hk1.lt).cell 1).trans rfl⟩
  have HCo : Hid (∀ w2, Below W1.heap.size W1 w2 → w2.cell? ⟨W.heap.size, 1, none⟩ = some (ci o.tier) ∧ w2.cell? ⟨W.heap.size, 40, none⟩ = some (c32 o.n)) := hide fun w2 hb => ⟨((hq1.below hb hq1.lt).cell 1).trans hR.tier, ((hq1.below hb hq1.lt).cell 40).trans hR.n_⟩
  have a0 : W1.cell? ⟨W.heap.size, 0, none⟩ = some (ci o.kind) := (hq1.cell 0).trans hR.kind
  obtain ⟨a1, a40⟩ := HCo.out W1 (Below.refl _ _)
  obtain ⟨k0, k1⟩ := HCk.out W1 (Below.refl _ _)
  rw [hk] at a0
  have HLn := hide (eqv_len E)
  clear hk
  have CR := hide (refmark_none v L (o.j.ses, o.j.seq) o.n W1 (fun i => ¬ TS i) HT.out.jobs (by omega) (eqv_none HPl.out HE.out hx))
  unfold kf at CR
  dsimp only at CR
  clear hq0 hq1 hk1 hT1 hs0 hRJ hRI hP hm hR E
  replace hW0 := hide hW0.symm
  replace hW1 := hide hW1.symm
  go_enter Try.func62, Try.ntmps62
  go_upto_region 2 with (first | (rw [hW0.out]) | fail)
  rw [hW1.out, HS0.out]
  clear p2 p3
  go_wp2_with (first
    | (go_at_call 103; (with_reducible refine CR.out.mono ?_); rintro e w2 ⟨rfl, hb2⟩; have kk := HCk.out w2 hb2; obtain ⟨k0, k1⟩ := kk; have aa := HCo.out w2 hb2; obtain ⟨a1, a40⟩ := aa; have HT2 := hide (HT.out.later hb2); have HB2 := hide hb2; have CT := hide (jmark_none w2 TS g b M (o.j.ses, o.j.seq) o.n HT2.out.tab hx); clear hb2; unfold kf at CT; dsimp only at CT)
    | (go_at_call 53; (with_reducible refine CT.out.mono ?_); rintro e w3 ⟨rfl, hb3⟩; have HB3 := hide hb3; clear hb3)
    | fail)
  go_ret3
  exact ⟨TS, _, _, M, _, L, rfl, HT2.out.later HB3.out, HE.out, Nat.le_succ _, ((Touch.of_below hb1).then_below HB2.out).then_below HB3.out⟩
set_option maxRecDepth 100000 in
set_option maxHeartbeats 3200000 in
theorem step_mark_some (w0 W : World) (TS : Nat → Prop) (g b : Nat) (M : List (KeyT × EntryK)) (v : Value) (L : List JobK) (h : TabJ w0 W TS g b M v L) (E : L.map plainJ = M.map plainE) (o : OpM) (R : Array Value) (hR : OpVal o R) (ho : o.j.breach.length = 32) (hid : o.id.length = 32)
    (hP : PayAt W (fun i => ¬ TS i) o.pv o.K) (hm : Modest o.K) (hl : L.length ≤ 65536) (hk : o.kind = 2) (x : EntryK) (hx : mget M (o.j.ses, o.j.seq) = some x) :
    Calls Try.prog 62 #[.pointer (some ⟨g, 0, none⟩), v, .agg R] W fun e w' => StepTo w0 W TS L.length e w' := by
  obtain ⟨RJ, hRJ⟩ := jobVal (j := o.j) ho (v := o.pv) (by obtain ⟨_, _, e, _⟩ := hP; rw [e]; rfl)
  obtain ⟨RI, hRI⟩ : ∃ RI, IdVal o.id RI := idVal _ hid
  obtain ⟨W0, hW0⟩ : ∃ W0, W0 = W.alloc (.cells R 106) := ⟨_, rfl⟩
  have hs0 : W0.heap.size = W.heap.size + 1 := by rw [hW0]; simp
  obtain ⟨W1, hW1⟩ : ∃ W1, W1 = W0.alloc (.cells #[c32 o.j.ses, c32 o.j.seq] 68) := ⟨_, rfl⟩
  have hb1 : Below W.heap.size W W1 := by rw [hW1, hW0]; exact ((Below.refl _ _).alloc (Nat.le_refl _) _).alloc (by simp) _
  have hq0 : Blk W0 W.heap.size 106 R := by rw [hW0]; exact Blk.new W _ _
  have hq1 : Blk W1 W.heap.size 106 R := by rw [hW1]; exact hq0.alloc _
  have hk1 : Blk W1 (W.heap.size + 1) 68 #[c32 o.j.ses, c32 o.j.seq] := by rw [hW1, ← hs0]; exact Blk.new W0 _ _
  have p2 : W0.cell? ⟨W.heap.size, 2, none⟩ = some (c32 o.j.ses) := (hq0.cell 2).trans hR.ses
  have p3 : W0.cell? ⟨W.heap.size, 3, none⟩ = some (c32 o.j.seq) := (hq0.cell 3).trans hR.seq
  have hT1 := h.later hb1
  have HR := hide hR
  have HRJ := hide hRJ
  have HRI := hide hRI
  have HS0 := hide hs0
  have HQ := hide hq1
  have HK := hide hk1
  have HT := hide hT1
  have HP := hide (hP.below hb1)
  have HM := hide hm
  have HE := hide E
  have HH := hide ho
  have HPl := hide hT1.tab.plain
  have HRs := hide hRJ.val.symm
  have HRi := hide hRI.val.symm
  have HIj : Hid ((Try.prog.info? 75).map (·.size) = some (jobCells o.j o.pv).length) := hide (by rw [jobCells_len ho]; exact info_job)
  have HIi : Hid ((Try.prog.info? 70).map (·.size) = some (o.id.map c8).length) := hide (by rw [List.length_map, hid]; exact info_id)
  have HCj : Hid (∀ w2, Below W1.heap.size W1 w2 → ∀ i u, (jobCells o.j o.pv)[i]? = some u → w2.cell? ⟨W.heap.size, 2 + i, none⟩ = some u) := hide fun w2 hb i u hu => ((hq1.below hb hq1.lt).cell _).trans (hR.job i u hu)
  have HCi : Hid (∀ w2, Below W1.heap.size W1 w2 → ∀ i u, (o.id.map c8)[i]? = some u → w2.cell? ⟨W.heap.size, 41 + i, none⟩ = some u) := hide fun w2 hb i u hu => ((hq1.below hb hq1.lt).cell _).trans (hR.id_ i u hu)
  have HCk : Hid (∀ w2, Below W1.heap.size W1 w2 → w2.cell? ⟨W.heap.size + 1, 0, none⟩ = some (c32 o.j.ses) ∧ w2.cell? ⟨W.heap.size + 1, 1, none⟩ = some (c32 o.j.seq)) := hide fun w2 hb => ⟨((hk1.below hb hk1.lt).cell 0).trans rfl, ((hk1.below hb hk1.lt).cell 1).trans rfl⟩
  have HCo : Hid (∀ w2, Below W1.heap.size W1 w2 → w2.cell? ⟨W.heap.size, 1, none⟩ = some (ci o.tier) ∧ w2.cell? ⟨W.heap.size, 40, none⟩ = some (c32 o.n)) := hide fun w2 hb => ⟨((hq1.below hb hq1.lt).cell 1).trans hR.tier, ((hq1.below hb hq1.lt).cell 40).trans hR.n_⟩
  have a0 : W1.cell? ⟨W.heap.size, 0, none⟩ = some (ci o.kind) := (hq1.cell 0).trans hR.kind
  obtain ⟨a1, a40⟩ := HCo.out W1 (Below.refl _ _)
  obtain ⟨k0, k1⟩ := HCk.out W1 (Below.refl _ _)
  rw [hk] at a0
  have HLn := hide (eqv_len E)
  clear hk
  obtain ⟨i, y, hy, hi, hky, hny, hyj, hyk⟩ := eqv_some HPl.out HE.out hx
  have HI := hide hi
  have HYj := hide hyj
  have HYk := hide hyk
  clear hi hyj hyk
  have CR := hide (refmark_some v L (o.j.ses, o.j.seq) o.n i y W1 (fun i => ¬ TS i) HT.out.jobs (by omega) hy hky hny)
  unfold kf at CR
  dsimp only at CR
  clear hq0 hq1 hk1 hT1 hs0 hRJ hRI hP hm hR E
  replace hW0 := hide hW0.symm
  replace hW1 := hide hW1.symm
  go_enter Try.func62, Try.ntmps62
  go_upto_region 2 with (first | (rw [hW0.out]) | fail)
  rw [hW1.out, HS0.out]
  clear p2 p3
  go_wp2_with (first
    | (go_at_call 103; (with_reducible refine CR.out.mono ?_); rintro e w2 ⟨u, rfl, hmx⟩; have kk := HCk.out w2 hmx.below; obtain ⟨k0, k1⟩ := kk; have aa := HCo.out w2 hmx.below; obtain ⟨a1, a40⟩ := aa; have HX := hide hmx; have HT2 := hide (HT.out.row hmx); have CT := hide (jmark_some w2 TS g b M (o.j.ses, o.j.seq) o.n x HT2.out.tab hx); clear hmx; unfold kf at CT; dsimp only at CT)
    | (go_at_call 53; (with_reducible refine CT.out.mono ?_); rintro e w3 ⟨rfl, hT3, ht3⟩; have HT3 := hide ht3; have HTb := hide hT3; clear ht3 hT3)
    | fail)
  go_ret3
  refine ⟨_, _, _, _, _, L.set i (markedJ y.1 o.n, y.2), rfl, HT2.out.touch_ HT3.out HTb.out, eqv_put (y := y) HPl.out HE.out hx HI.out ?_, by rw [List.length_set]; exact Nat.le_succ _, ((Touch.of_below hb1).then_below HX.out.below).trans HT3.out (fun _ _ e => e)⟩
  unfold plainJ
  simp only [HYj.out, HYk.out]
set_option maxRecDepth 100000 in
set_option maxHeartbeats 3200000 in
theorem step_live_none (w0 W : World) (TS : Nat → Prop) (g b : Nat) (M : List (KeyT × EntryK)) (v : Value) (L : List JobK) (h : TabJ w0 W TS g b M v L) (E : L.map plainJ = M.map plainE) (o : OpM) (R : Array Value) (hR : OpVal o R) (ho : o.j.breach.length = 32) (hid : o.id.length = 32)
    (hP : PayAt W (fun i => ¬ TS i) o.pv o.K) (hm : Modest o.K) (hl : L.length ≤ 65536) (hk : o.kind = 3) (hx : mget M (o.j.ses, o.j.seq) = none) :
    Calls Try.prog 62 #[.pointer (some ⟨g, 0, none⟩), v, .agg R] W fun e w' => StepTo w0 W TS L.length e w' := by
  obtain ⟨RJ, hRJ⟩ := jobVal (j := o.j) ho (v := o.pv) (by obtain ⟨_, _, e, _⟩ := hP; rw [e]; rfl)
  obtain ⟨RI, hRI⟩ : ∃ RI, IdVal o.id RI := idVal _ hid
  obtain ⟨W0, hW0⟩ : ∃ W0, W0 = W.alloc (.cells R 106) := ⟨_, rfl⟩
  have hs0 : W0.heap.size = W.heap.size + 1 := by rw [hW0]; simp
  obtain ⟨W1, hW1⟩ : ∃ W1, W1 = W0.alloc (.cells #[c32 o.j.ses, c32 o.j.seq] 68) := ⟨_, rfl⟩
  have hb1 : Below W.heap.size W W1 := by rw [hW1, hW0]; exact ((Below.refl _ _).alloc (Nat.le_refl _) _).alloc (by simp) _
  have hq0 : Blk W0 W.heap.size 106 R := by rw [hW0]; exact Blk.new W _ _
  have hq1 : Blk W1 W.heap.size 106 R := by rw [hW1]; exact hq0.alloc _
  have hk1 : Blk W1 (W.heap.size + 1) 68 #[c32 o.j.ses, c32 o.j.seq] := by rw [hW1, ← hs0]; exact Blk.new W0 _ _
  have p2 : W0.cell? ⟨W.heap.size, 2, none⟩ = some (c32 o.j.ses) := (hq0.cell 2).trans hR.ses
  have p3 : W0.cell? ⟨W.heap.size, 3, none⟩ = some (c32 o.j.seq) := (hq0.cell 3).trans hR.seq
  have hT1 := h.later hb1
  have HR := hide hR
  have HRJ := hide hRJ
  have HRI := hide hRI
  have HS0 := hide hs0
  have HQ := hide hq1
  have HK := hide hk1
  have HT := hide hT1
  have HP := hide (hP.below hb1)
  have HM := hide hm
  have HE := hide E
  have HH := hide ho
  have HPl := hide hT1.tab.plain
  have HRs := hide hRJ.val.symm
  have HRi := hide hRI.val.symm
  have HIj : Hid ((Try.prog.info? 75).map (·.size) = some (jobCells o.j o.pv).length) := hide (by rw [jobCells_len ho]; exact info_job)
  have HIi : Hid ((Try.prog.info? 70).map (·.size) = some (o.id.map c8).length) := hide (by rw [List.length_map, hid]; exact info_id)
  have HCj : Hid (∀ w2, Below W1.heap.size W1 w2 → ∀ i u, (jobCells o.j o.pv)[i]? = some u → w2.cell? ⟨W.heap.size, 2 + i, none⟩ = some u) := hide fun w2 hb i u hu => ((hq1.below hb hq1.lt).cell _).trans (hR.job i u hu)
  have HCi : Hid (∀ w2, Below W1.heap.size W1 w2 → ∀ i u, (o.id.map c8)[i]? = some u → w2.cell? ⟨W.heap.size, 41 + i, none⟩ = some u) := hide fun w2 hb i u hu => ((hq1.below hb hq1.lt).cell _).trans (hR.id_ i u hu)
  have HCk : Hid (∀ w2, Below W1.heap.size W1 w2 → w2.cell? ⟨W.heap.size + 1, 0, none⟩ = some (c32 o.j.ses) ∧ w2.cell? ⟨W.heap.size + 1, 1, none⟩ = some (c32 o.j.seq)) := hide fun w2 hb => ⟨((hk1.below hb hk1.lt).cell 0).trans rfl, ((hk1.below hb hk1.lt).cell 1).trans rfl⟩
  have HCo : Hid (∀ w2, Below W1.heap.size W1 w2 → w2.cell? ⟨W.heap.size, 1, none⟩ = some (ci o.tier) ∧ w2.cell? ⟨W.heap.size, 40, none⟩ = some (c32 o.n)) := hide fun w2 hb => ⟨((hq1.below hb hq1.lt).cell 1).trans hR.tier, ((hq1.below hb hq1.lt).cell 40).trans hR.n_⟩
  have a0 : W1.cell? ⟨W.heap.size, 0, none⟩ = some (ci o.kind) := (hq1.cell 0).trans hR.kind
  obtain ⟨a1, a40⟩ := HCo.out W1 (Below.refl _ _)
  obtain ⟨k0, k1⟩ := HCk.out W1 (Below.refl _ _)
  rw [hk] at a0
  have HLn := hide (eqv_len E)
  clear hk
  have CR := hide (reflive_none v L (o.j.ses, o.j.seq) o.tier W1 (fun i => ¬ TS i) HT.out.jobs (by omega) (eqv_none HPl.out HE.out hx))
  unfold kf at CR
  dsimp only at CR
  clear hq0 hq1 hk1 hT1 hs0 hRJ hRI hP hm hR E
  replace hW0 := hide hW0.symm
  replace hW1 := hide hW1.symm
  go_enter Try.func62, Try.ntmps62
  go_upto_region 2 with (first | (rw [hW0.out]) | fail)
  rw [hW1.out, HS0.out]
  clear p2 p3
  go_wp2_with (first
    | (go_at_call 104; (with_reducible refine CR.out.mono ?_); rintro e w2 ⟨rfl, hb2⟩; have kk := HCk.out w2 hb2; obtain ⟨k0, k1⟩ := kk; have aa := HCo.out w2 hb2; obtain ⟨a1, a40⟩ := aa; have HT2 := hide (HT.out.later hb2); have HB2 := hide hb2; have CT := hide (jlive_none w2 TS g b M (o.j.ses, o.j.seq) o.tier HT2.out.tab hx); clear hb2; unfold kf at CT; dsimp only at CT)
    | (go_at_call 50; (with_reducible refine CT.out.mono ?_); rintro e w3 ⟨rfl, hb3⟩; have HB3 := hide hb3; clear hb3)
    | fail)
  go_ret3
  exact ⟨TS, _, _, M, _, L, rfl, HT2.out.later HB3.out, HE.out, Nat.le_succ _, ((Touch.of_below hb1).then_below HB2.out).then_below HB3.out⟩
set_option maxRecDepth 100000 in
set_option maxHeartbeats 3200000 in
theorem step_live_mined (w0 W : World) (TS : Nat → Prop) (g b : Nat) (M : List (KeyT × EntryK)) (v : Value) (L : List JobK) (h : TabJ w0 W TS g b M v L) (E : L.map plainJ = M.map plainE) (o : OpM) (R : Array Value) (hR : OpVal o R) (ho : o.j.breach.length = 32) (hid : o.id.length = 32)
    (hP : PayAt W (fun i => ¬ TS i) o.pv o.K) (hm : Modest o.K) (hl : L.length ≤ 65536) (hk : o.kind = 3) (x : EntryK) (hx : mget M (o.j.ses, o.j.seq) = some x) (hmi : x.job.mined.toNat ≠ 0) :
    Calls Try.prog 62 #[.pointer (some ⟨g, 0, none⟩), v, .agg R] W fun e w' => StepTo w0 W TS L.length e w' := by
  obtain ⟨RJ, hRJ⟩ := jobVal (j := o.j) ho (v := o.pv) (by obtain ⟨_, _, e, _⟩ := hP; rw [e]; rfl)
  obtain ⟨RI, hRI⟩ : ∃ RI, IdVal o.id RI := idVal _ hid
  obtain ⟨W0, hW0⟩ : ∃ W0, W0 = W.alloc (.cells R 106) := ⟨_, rfl⟩
  have hs0 : W0.heap.size = W.heap.size + 1 := by rw [hW0]; simp
  obtain ⟨W1, hW1⟩ : ∃ W1, W1 = W0.alloc (.cells #[c32 o.j.ses, c32 o.j.seq] 68) := ⟨_, rfl⟩
  have hb1 : Below W.heap.size W W1 := by rw [hW1, hW0]; exact ((Below.refl _ _).alloc (Nat.le_refl _) _).alloc (by simp) _
  have hq0 : Blk W0 W.heap.size 106 R := by rw [hW0]; exact Blk.new W _ _
  have hq1 : Blk W1 W.heap.size 106 R := by rw [hW1]; exact hq0.alloc _
  have hk1 : Blk W1 (W.heap.size + 1) 68 #[c32 o.j.ses, c32 o.j.seq] := by rw [hW1, ← hs0]; exact Blk.new W0 _ _
  have p2 : W0.cell? ⟨W.heap.size, 2, none⟩ = some (c32 o.j.ses) := (hq0.cell 2).trans hR.ses
  have p3 : W0.cell? ⟨W.heap.size, 3, none⟩ = some (c32 o.j.seq) := (hq0.cell 3).trans hR.seq
  have hT1 := h.later hb1
  have HR := hide hR
  have HRJ := hide hRJ
  have HRI := hide hRI
  have HS0 := hide hs0
  have HQ := hide hq1
  have HK := hide hk1
  have HT := hide hT1
  have HP := hide (hP.below hb1)
  have HM := hide hm
  have HE := hide E
  have HH := hide ho
  have HPl := hide hT1.tab.plain
  have HRs := hide hRJ.val.symm
  have HRi := hide hRI.val.symm
  have HIj : Hid ((Try.prog.info? 75).map (·.size) = some (jobCells o.j o.pv).length) := hide (by rw [jobCells_len ho]; exact info_job)
  have HIi : Hid ((Try.prog.info? 70).map (·.size) = some (o.id.map c8).length) := hide (by rw [List.length_map, hid]; exact info_id)
  have HCj : Hid (∀ w2, Below W1.heap.size W1 w2 → ∀ i u, (jobCells o.j o.pv)[i]? = some u → w2.cell? ⟨W.heap.size, 2 + i, none⟩ = some u) := hide fun w2 hb i u hu => ((hq1.below hb hq1.lt).cell _).trans (hR.job i u hu)
  have HCi : Hid (∀ w2, Below W1.heap.size W1 w2 → ∀ i u, (o.id.map c8)[i]? = some u → w2.cell? ⟨W.heap.size, 41 + i, none⟩ = some u) := hide fun w2 hb i u hu => ((hq1.below hb hq1.lt).cell _).trans (hR.id_ i u hu)
  have HCk : Hid (∀ w2, Below W1.heap.size W1 w2 → w2.cell? ⟨W.heap.size + 1, 0, none⟩ = some (c32 o.j.ses) ∧ w2.cell? ⟨W.heap.size + 1, 1, none⟩ = some (c32 o.j.seq)) := hide fun w2 hb => ⟨((hk1.below hb hk1.lt).cell 0).trans rfl, ((hk1.below hb hk1.lt).cell 1).trans rfl⟩
  have HCo : Hid (∀ w2, Below W1.heap.size W1 w2 → w2.cell? ⟨W.heap.size, 1, none⟩ = some (ci o.tier) ∧ w2.cell? ⟨W.heap.size, 40, none⟩ = some (c32 o.n)) := hide fun w2 hb => ⟨((hq1.below hb hq1.lt).cell 1).trans hR.tier, ((hq1.below hb hq1.lt).cell 40).trans hR.n_⟩
  have a0 : W1.cell? ⟨W.heap.size, 0, none⟩ = some (ci o.kind) := (hq1.cell 0).trans hR.kind
  obtain ⟨a1, a40⟩ := HCo.out W1 (Below.refl _ _)
  obtain ⟨k0, k1⟩ := HCk.out W1 (Below.refl _ _)
  rw [hk] at a0
  have HLn := hide (eqv_len E)
  clear hk
  obtain ⟨i, y, hy, hi, hky, hny, hyj, hyk⟩ := eqv_some HPl.out HE.out hx
  have HI := hide hi
  have HYj := hide hyj
  have HYk := hide hyk
  clear hi hyj hyk
  have HYl : Hid (y.2.2.length = x.K.length) := hide (by have := congrArg List.length HYk.out; simpa [plainT] using this)
  have CR := hide (reflive_mined v L (o.j.ses, o.j.seq) o.tier i y W1 (fun i => ¬ TS i) HT.out.jobs (by omega) hy hky hny (by rw [HYj.out]; exact hmi))
  unfold kf at CR
  dsimp only at CR
  clear hq0 hq1 hk1 hT1 hs0 hRJ hRI hP hm hR E
  replace hW0 := hide hW0.symm
  replace hW1 := hide hW1.symm
  go_enter Try.func62, Try.ntmps62
  go_upto_region 2 with (first | (rw [hW0.out]) | fail)
  rw [hW1.out, HS0.out]
  clear p2 p3
  go_wp2_with (first
    | (go_at_call 104; (with_reducible refine CR.out.mono ?_); rintro e w2 ⟨rfl, hb2⟩; have kk := HCk.out w2 hb2; obtain ⟨k0, k1⟩ := kk; have aa := HCo.out w2 hb2; obtain ⟨a1, a40⟩ := aa; have HT2 := hide (HT.out.later hb2); have HB2 := hide hb2; have CT := hide (jlive_mined w2 TS g b M (o.j.ses, o.j.seq) o.tier x HT2.out.tab hx hmi); clear hb2; unfold kf at CT; dsimp only at CT)
    | (go_at_call 50; (with_reducible refine CT.out.mono ?_); rintro e w3 ⟨rfl, hb3⟩; have HB3 := hide hb3; clear hb3)
    | fail)
  go_ret3
  exact ⟨TS, _, _, M, _, L, rfl, HT2.out.later HB3.out, HE.out, Nat.le_succ _, ((Touch.of_below hb1).then_below HB2.out).then_below HB3.out⟩
set_option maxRecDepth 100000 in
set_option maxHeartbeats 3200000 in
theorem step_live_low (w0 W : World) (TS : Nat → Prop) (g b : Nat) (M : List (KeyT × EntryK)) (v : Value) (L : List JobK) (h : TabJ w0 W TS g b M v L) (E : L.map plainJ = M.map plainE) (o : OpM) (R : Array Value) (hR : OpVal o R) (ho : o.j.breach.length = 32) (hid : o.id.length = 32)
    (hP : PayAt W (fun i => ¬ TS i) o.pv o.K) (hm : Modest o.K) (hl : L.length ≤ 65536) (hk : o.kind = 3) (x : EntryK) (hx : mget M (o.j.ses, o.j.seq) = some x) (hmi : x.job.mined.toNat = 0) (ht : o.tier < -1) :
    Calls Try.prog 62 #[.pointer (some ⟨g, 0, none⟩), v, .agg R] W fun e w' => StepTo w0 W TS L.length e w' := by
  obtain ⟨RJ, hRJ⟩ := jobVal (j := o.j) ho (v := o.pv) (by obtain ⟨_, _, e, _⟩ := hP; rw [e]; rfl)
  obtain ⟨RI, hRI⟩ : ∃ RI, IdVal o.id RI := idVal _ hid
  obtain ⟨W0, hW0⟩ : ∃ W0, W0 = W.alloc (.cells R 106) := ⟨_, rfl⟩
  have hs0 : W0.heap.size = W.heap.size + 1 := by rw [hW0]; simp
  obtain ⟨W1, hW1⟩ : ∃ W1, W1 = W0.alloc (.cells #[c32 o.j.ses, c32 o.j.seq] 68) := ⟨_, rfl⟩
  have hb1 : Below W.heap.size W W1 := by rw [hW1, hW0]; exact ((Below.refl _ _).alloc (Nat.le_refl _) _).alloc (by simp) _
  have hq0 : Blk W0 W.heap.size 106 R := by rw [hW0]; exact Blk.new W _ _
  have hq1 : Blk W1 W.heap.size 106 R := by rw [hW1]; exact hq0.alloc _
  have hk1 : Blk W1 (W.heap.size + 1) 68 #[c32 o.j.ses, c32 o.j.seq] := by rw [hW1, ← hs0]; exact Blk.new W0 _ _
  have p2 : W0.cell? ⟨W.heap.size, 2, none⟩ = some (c32 o.j.ses) := (hq0.cell 2).trans hR.ses
  have p3 : W0.cell? ⟨W.heap.size, 3, none⟩ = some (c32 o.j.seq) := (hq0.cell 3).trans hR.seq
  have hT1 := h.later hb1
  have HR := hide hR
  have HRJ := hide hRJ
  have HRI := hide hRI
  have HS0 := hide hs0
  have HQ := hide hq1
  have HK := hide hk1
  have HT := hide hT1
  have HP := hide (hP.below hb1)
  have HM := hide hm
  have HE := hide E
  have HH := hide ho
  have HPl := hide hT1.tab.plain
  have HRs := hide hRJ.val.symm
  have HRi := hide hRI.val.symm
  have HIj : Hid ((Try.prog.info? 75).map (·.size) = some (jobCells o.j o.pv).length) := hide (by rw [jobCells_len ho]; exact info_job)
  have HIi : Hid ((Try.prog.info? 70).map (·.size) = some (o.id.map c8).length) := hide (by rw [List.length_map, hid]; exact info_id)
  have HCj : Hid (∀ w2, Below W1.heap.size W1 w2 → ∀ i u, (jobCells o.j o.pv)[i]? = some u → w2.cell? ⟨W.heap.size, 2 + i, none⟩ = some u) := hide fun w2 hb i u hu => ((hq1.below hb hq1.lt).cell _).trans (hR.job i u hu)
  have HCi : Hid (∀ w2, Below W1.heap.size W1 w2 → ∀ i u, (o.id.map c8)[i]? = some u → w2.cell? ⟨W.heap.size, 41 + i, none⟩ = some u) := hide fun w2 hb i u hu => ((hq1.below hb hq1.lt).cell _).trans (hR.id_ i u hu)
  have HCk : Hid (∀ w2, Below W1.heap.size W1 w2 → w2.cell? ⟨W.heap.size + 1, 0, none⟩ = some (c32 o.j.ses) ∧ w2.cell? ⟨W.heap.size + 1, 1, none⟩ = some (c32 o.j.seq)) := hide fun w2 hb => ⟨((hk1.below hb hk1.lt).cell 0).trans rfl, ((hk1.below hb hk1.lt).cell 1).trans rfl⟩
  have HCo : Hid (∀ w2, Below W1.heap.size W1 w2 → w2.cell? ⟨W.heap.size, 1, none⟩ = some (ci o.tier) ∧ w2.cell? ⟨W.heap.size, 40, none⟩ = some (c32 o.n)) := hide fun w2 hb => ⟨((hq1.below hb hq1.lt).cell 1).trans hR.tier, ((hq1.below hb hq1.lt).cell 40).trans hR.n_⟩
  have a0 : W1.cell? ⟨W.heap.size, 0, none⟩ = some (ci o.kind) := (hq1.cell 0).trans hR.kind
  obtain ⟨a1, a40⟩ := HCo.out W1 (Below.refl _ _)
  obtain ⟨k0, k1⟩ := HCk.out W1 (Below.refl _ _)
  rw [hk] at a0
  have HLn := hide (eqv_len E)
  clear hk
  obtain ⟨i, y, hy, hi, hky, hny, hyj, hyk⟩ := eqv_some HPl.out HE.out hx
  have HI := hide hi
  have HYj := hide hyj
  have HYk := hide hyk
  clear hi hyj hyk
  have HYl : Hid (y.2.2.length = x.K.length) := hide (by have := congrArg List.length HYk.out; simpa [plainT] using this)
  have CR := hide (reflive_low v L (o.j.ses, o.j.seq) o.tier i y W1 (fun i => ¬ TS i) HT.out.jobs (by omega) hy hky hny (by rw [HYj.out]; exact hmi) ht)
  unfold kf at CR
  dsimp only at CR
  clear hq0 hq1 hk1 hT1 hs0 hRJ hRI hP hm hR E
  replace hW0 := hide hW0.symm
  replace hW1 := hide hW1.symm
  go_enter Try.func62, Try.ntmps62
  go_upto_region 2 with (first | (rw [hW0.out]) | fail)
  rw [hW1.out, HS0.out]
  clear p2 p3
  go_wp2_with (first
    | (go_at_call 104; (with_reducible refine CR.out.mono ?_); rintro e w2 ⟨rfl, hb2⟩; have kk := HCk.out w2 hb2; obtain ⟨k0, k1⟩ := kk; have aa := HCo.out w2 hb2; obtain ⟨a1, a40⟩ := aa; have HT2 := hide (HT.out.later hb2); have HB2 := hide hb2; have CT := hide (jlive_no w2 TS g b M (o.j.ses, o.j.seq) o.tier x HT2.out.tab hx hmi (.inl ht)); clear hb2; unfold kf at CT; dsimp only at CT)
    | (go_at_call 50; (with_reducible refine CT.out.mono ?_); rintro e w3 ⟨rfl, hb3⟩; have HB3 := hide hb3; clear hb3)
    | fail)
  go_ret3
  exact ⟨TS, _, _, M, _, L, rfl, HT2.out.later HB3.out, HE.out, Nat.le_succ _, ((Touch.of_below hb1).then_below HB2.out).then_below HB3.out⟩
set_option maxRecDepth 100000 in
set_option maxHeartbeats 3200000 in
theorem step_live_high (w0 W : World) (TS : Nat → Prop) (g b : Nat) (M : List (KeyT × EntryK)) (v : Value) (L : List JobK) (h : TabJ w0 W TS g b M v L) (E : L.map plainJ = M.map plainE) (o : OpM) (R : Array Value) (hR : OpVal o R) (ho : o.j.breach.length = 32) (hid : o.id.length = 32)
    (hP : PayAt W (fun i => ¬ TS i) o.pv o.K) (hm : Modest o.K) (hl : L.length ≤ 65536) (hk : o.kind = 3) (x : EntryK) (hx : mget M (o.j.ses, o.j.seq) = some x) (hmi : x.job.mined.toNat = 0) (ht : -1 ≤ o.tier) (ht2 : (x.K.length : Int) ≤ o.tier) :
    Calls Try.prog 62 #[.pointer (some ⟨g, 0, none⟩), v, .agg R] W fun e w' => StepTo w0 W TS L.length e w' := by
  obtain ⟨RJ, hRJ⟩ := jobVal (j := o.j) ho (v := o.pv) (by obtain ⟨_, _, e, _⟩ := hP; rw [e]; rfl)
  obtain ⟨RI, hRI⟩ : ∃ RI, IdVal o.id RI := idVal _ hid
  obtain ⟨W0, hW0⟩ : ∃ W0, W0 = W.alloc (.cells R 106) := ⟨_, rfl⟩
  have hs0 : W0.heap.size = W.heap.size + 1 := by rw [hW0]; simp
  obtain ⟨W1, hW1⟩ : ∃ W1, W1 = W0.alloc (.cells #[c32 o.j.ses, c32 o.j.seq] 68) := ⟨_, rfl⟩
  have hb1 : Below W.heap.size W W1 := by rw [hW1, hW0]; exact ((Below.refl _ _).alloc (Nat.le_refl _) _).alloc (by simp) _
  have hq0 : Blk W0 W.heap.size 106 R := by rw [hW0]; exact Blk.new W _ _
  have hq1 : Blk W1 W.heap.size 106 R := by rw [hW1]; exact hq0.alloc _
  have hk1 : Blk W1 (W.heap.size + 1) 68 #[c32 o.j.ses, c32 o.j.seq] := by rw [hW1, ← hs0]; exact Blk.new W0 _ _
  have p2 : W0.cell? ⟨W.heap.size, 2, none⟩ = some (c32 o.j.ses) := (hq0.cell 2).trans hR.ses
  have p3 : W0.cell? ⟨W.heap.size, 3, none⟩ = some (c32 o.j.seq) := (hq0.cell 3).trans hR.seq
  have hT1 := h.later hb1
  have HR := hide hR
  have HRJ := hide hRJ
  have HRI := hide hRI
  have HS0 := hide hs0
  have HQ := hide hq1
  have HK := hide hk1
  have HT := hide hT1
  have HP := hide (hP.below hb1)
  have HM := hide hm
  have HE := hide E
  have HH := hide ho
  have HPl := hide hT1.tab.plain
  have HRs := hide hRJ.val.symm
  have HRi := hide hRI.val.symm
  have HIj : Hid ((Try.prog.info? 75).map (·.size) = some (jobCells o.j o.pv).length) := hide (by rw [jobCells_len ho]; exact info_job)
  have HIi : Hid ((Try.prog.info? 70).map (·.size) = some (o.id.map c8).length) := hide (by rw [List.length_map, hid]; exact info_id)
  have HCj : Hid (∀ w2, Below W1.heap.size W1 w2 → ∀ i u, (jobCells o.j o.pv)[i]? = some u → w2.cell? ⟨W.heap.size, 2 + i, none⟩ = some u) := hide fun w2 hb i u hu => ((hq1.below hb hq1.lt).cell _).trans (hR.job i u hu)
  have HCi : Hid (∀ w2, Below W1.heap.size W1 w2 → ∀ i u, (o.id.map c8)[i]? = some u → w2.cell? ⟨W.heap.size, 41 + i, none⟩ = some u) := hide fun w2 hb i u hu => ((hq1.below hb hq1.lt).cell _).trans (hR.id_ i u hu)
  have HCk : Hid (∀ w2, Below W1.heap.size W1 w2 → w2.cell? ⟨W.heap.size + 1, 0, none⟩ = some (c32 o.j.ses) ∧ w2.cell? ⟨W.heap.size + 1, 1, none⟩ = some (c32 o.j.seq)) := hide fun w2 hb => ⟨((hk1.below hb hk1.lt).cell 0).trans rfl, ((hk1.below hb hk1.lt).cell 1).trans rfl⟩
  have HCo : Hid (∀ w2, Below W1.heap.size W1 w2 → w2.cell? ⟨W.heap.size, 1, none⟩ = some (ci o.tier) ∧ w2.cell? ⟨W.heap.size, 40, none⟩ = some (c32 o.n)) := hide fun w2 hb => ⟨((hq1.below hb hq1.lt).cell 1).trans hR.tier, ((hq1.below hb hq1.lt).cell 40).trans hR.n_⟩
  have a0 : W1.cell? ⟨W.heap.size, 0, none⟩ = some (ci o.kind) := (hq1.cell 0).trans hR.kind
  obtain ⟨a1, a40⟩ := HCo.out W1 (Below.refl _ _)
  obtain ⟨k0, k1⟩ := HCk.out W1 (Below.refl _ _)
  rw [hk] at a0
  have HLn := hide (eqv_len E)
  clear hk
  obtain ⟨i, y, hy, hi, hky, hny, hyj, hyk⟩ := eqv_some HPl.out HE.out hx
  have HI := hide hi
  have HYj := hide hyj
  have HYk := hide hyk
  clear hi hyj hyk
  have HYl : Hid (y.2.2.length = x.K.length) := hide (by have := congrArg List.length HYk.out; simpa [plainT] using this)
  have CR := hide (reflive_high v L (o.j.ses, o.j.seq) o.tier i y W1 (fun i => ¬ TS i) HT.out.jobs (by omega) hy hky hny (by rw [HYj.out]; exact hmi) ht (by rw [HYl.out]; exact ht2))
  unfold kf at CR
  dsimp only at CR
  clear hq0 hq1 hk1 hT1 hs0 hRJ hRI hP hm hR E
  replace hW0 := hide hW0.symm
  replace hW1 := hide hW1.symm
  go_enter Try.func62, Try.ntmps62
  go_upto_region 2 with (first | (rw [hW0.out]) | fail)
  rw [hW1.out, HS0.out]
  clear p2 p3
  go_wp2_with (first
    | (go_at_call 104; (with_reducible refine CR.out.mono ?_); rintro e w2 ⟨rfl, hb2⟩; have kk := HCk.out w2 hb2; obtain ⟨k0, k1⟩ := kk; have aa := HCo.out w2 hb2; obtain ⟨a1, a40⟩ := aa; have HT2 := hide (HT.out.later hb2); have HB2 := hide hb2; have CT := hide (jlive_no w2 TS g b M (o.j.ses, o.j.seq) o.tier x HT2.out.tab hx hmi (.inr ht2)); clear hb2; unfold kf at CT; dsimp only at CT)
    | (go_at_call 50; (with_reducible refine CT.out.mono ?_); rintro e w3 ⟨rfl, hb3⟩; have HB3 := hide hb3; clear hb3)
    | fail)
  go_ret3
  exact ⟨TS, _, _, M, _, L, rfl, HT2.out.later HB3.out, HE.out, Nat.le_succ _, ((Touch.of_below hb1).then_below HB2.out).then_below HB3.out⟩
set_option maxRecDepth 100000 in
set_option maxHeartbeats 3200000 in
theorem step_live_yes (w0 W : World) (TS : Nat → Prop) (g b : Nat) (M : List (KeyT × EntryK)) (v : Value) (L : List JobK) (h : TabJ w0 W TS g b M v L) (E : L.map plainJ = M.map plainE) (o : OpM) (R : Array Value) (hR : OpVal o R) (ho : o.j.breach.length = 32) (hid : o.id.length = 32)
    (hP : PayAt W (fun i => ¬ TS i) o.pv o.K) (hm : Modest o.K) (hl : L.length ≤ 65536) (hk : o.kind = 3) (x : EntryK) (hx : mget M (o.j.ses, o.j.seq) = some x) (hmi : x.job.mined.toNat = 0) (ht : -1 ≤ o.tier) (ht2 : o.tier < (x.K.length : Int)) :
    Calls Try.prog 62 #[.pointer (some ⟨g, 0, none⟩), v, .agg R] W fun e w' => StepTo w0 W TS L.length e w' := by
  obtain ⟨RJ, hRJ⟩ := jobVal (j := o.j) ho (v := o.pv) (by obtain ⟨_, _, e, _⟩ := hP; rw [e]; rfl)
  obtain ⟨RI, hRI⟩ : ∃ RI, IdVal o.id RI := idVal _ hid
  obtain ⟨W0, hW0⟩ : ∃ W0, W0 = W.alloc (.cells R 106) := ⟨_, rfl⟩
  have hs0 : W0.heap.size = W.heap.size + 1 := by rw [hW0]; simp
  obtain ⟨W1, hW1⟩ : ∃ W1, W1 = W0.alloc (.cells #[c32 o.j.ses, c32 o.j.seq] 68) := ⟨_, rfl⟩
  have hb1 : Below W.heap.size W W1 := by rw [hW1, hW0]; exact ((Below.refl _ _).alloc (Nat.le_refl _) _).alloc (by simp) _
  have hq0 : Blk W0 W.heap.size 106 R := by rw [hW0]; exact Blk.new W _ _
  have hq1 : Blk W1 W.heap.size 106 R := by rw [hW1]; exact hq0.alloc _
  have hk1 : Blk W1 (W.heap.size + 1) 68 #[c32 o.j.ses, c32 o.j.seq] := by rw [hW1, ← hs0]; exact Blk.new W0 _ _
  have p2 : W0.cell? ⟨W.heap.size, 2, none⟩ = some (c32 o.j.ses) := (hq0.cell 2).trans hR.ses
  have p3 : W0.cell? ⟨W.heap.size, 3, none⟩ = some (c32 o.j.seq) := (hq0.cell 3).trans hR.seq
  have hT1 := h.later hb1
  have HR := hide hR
  have HRJ := hide hRJ
  have HRI := hide hRI
  have HS0 := hide hs0
  have HQ := hide hq1
  have HK := hide hk1
  have HT := hide hT1
  have HP := hide (hP.below hb1)
  have HM := hide hm
  have HE := hide E
  have HH := hide ho
  have HPl := hide hT1.tab.plain
  have HRs := hide hRJ.val.symm
  have HRi := hide hRI.val.symm
  have HIj : Hid ((Try.prog.info? 75).map (·.size) = some (jobCells o.j o.pv).length) := hide (by rw [jobCells_len ho]; exact info_job)
  have HIi : Hid ((Try.prog.info? 70).map (·.size) = some (o.id.map c8).length) := hide (by rw [List.length_map, hid]; exact info_id)
  have HCj : Hid (∀ w2, Below W1.heap.size W1 w2 → ∀ i u, (jobCells o.j o.pv)[i]? = some u → w2.cell? ⟨W.heap.size, 2 + i, none⟩ = some u) := hide fun w2 hb i u hu => ((hq1.below hb hq1.lt).cell _).trans (hR.job i u hu)
  have HCi : Hid (∀ w2, Below W1.heap.size W1 w2 → ∀ i u, (o.id.map c8)[i]? = some u → w2.cell? ⟨W.heap.size, 41 + i, none⟩ = some u) := hide fun w2 hb i u hu => ((hq1.below hb hq1.lt).cell _).trans (hR.id_ i u hu)
  have HCk : Hid (∀ w2, Below W1.heap.size W1 w2 → w2.cell? ⟨W.heap.size + 1, 0, none⟩ = some (c32 o.j.ses) ∧ w2.cell? ⟨W.heap.size + 1, 1, none⟩ = some (c32 o.j.seq)) := hide fun w2 hb => ⟨((hk1.below hb hk1.lt).cell 0).trans rfl, ((hk1.below hb hk1.lt).cell 1).trans rfl⟩
  have HCo : Hid (∀ w2, Below W1.heap.size W1 w2 → w2.cell? ⟨W.heap.size, 1, none⟩ = some (ci o.tier) ∧ w2.cell? ⟨W.heap.size, 40, none⟩ = some (c32 o.n)) := hide fun w2 hb => ⟨((hq1.below hb hq1.lt).cell 1).trans hR.tier, ((hq1.below hb hq1.lt).cell 40).trans hR.n_⟩
  have a0 : W1.cell? ⟨W.heap.size, 0, none⟩ = some (ci o.kind) := (hq1.cell 0).trans hR.kind
  obtain ⟨a1, a40⟩ := HCo.out W1 (Below.refl _ _)
  obtain ⟨k0, k1⟩ := HCk.out W1 (Below.refl _ _)
  rw [hk] at a0
  have HLn := hide (eqv_len E)
  clear hk
  obtain ⟨i, y, hy, hi, hky, hny, hyj, hyk⟩ := eqv_some HPl.out HE.out hx
  have HI := hide hi
  have HYj := hide hyj
  have HYk := hide hyk
  clear hi hyj hyk
  have HYl : Hid (y.2.2.length = x.K.length) := hide (by have := congrArg List.length HYk.out; simpa [plainT] using this)
  have CR := hide (reflive_yes v L (o.j.ses, o.j.seq) o.tier i y W1 (fun i => ¬ TS i) HT.out.jobs (by omega) hy hky hny (by rw [HYj.out]; exact hmi) ht (by rw [HYl.out]; exact ht2))
  unfold kf at CR
  dsimp only at CR
  clear hq0 hq1 hk1 hT1 hs0 hRJ hRI hP hm hR E
  replace hW0 := hide hW0.symm
  replace hW1 := hide hW1.symm
  go_enter Try.func62, Try.ntmps62
  go_upto_region 2 with (first | (rw [hW0.out]) | fail)
  rw [hW1.out, HS0.out]
  clear p2 p3
  go_wp2_with (first
    | (go_at_call 104; (with_reducible refine CR.out.mono ?_); rintro e w2 ⟨u, rfl, hmx⟩; have kk := HCk.out w2 hmx.below; obtain ⟨k0, k1⟩ := kk; have aa := HCo.out w2 hmx.below; obtain ⟨a1, a40⟩ := aa; have HX := hide hmx; have HT2 := hide (HT.out.row hmx); have CT := hide (jlive_yes w2 TS g b M (o.j.ses, o.j.seq) o.tier x HT2.out.tab hx ⟨hmi, ht, ht2⟩); clear hmx; unfold kf at CT; dsimp only at CT)
    | (go_at_call 50; (with_reducible refine CT.out.mono ?_); rintro e w3 ⟨rfl, hT3, ht3⟩; have HT3 := hide ht3; have HTb := hide hT3; clear ht3 hT3)
    | fail)
  go_ret3
  refine ⟨_, _, _, _, _, L.set i ({ y.1 with live := o.tier }, y.2), rfl, HT2.out.touch_ HT3.out HTb.out, eqv_put (y := y) HPl.out HE.out hx HI.out ?_, by rw [List.length_set]; exact Nat.le_succ _, ((Touch.of_below hb1).then_below HX.out.below).trans HT3.out (fun _ _ e => e)⟩
  unfold plainJ
  simp only [HYj.out, HYk.out]
end Go.Proofs.Ytccpkafmbmkmfaa
namespace Go.Proofs.Ytccpkafmbmkmfaa
open Go.RowKit Go.Shelf
set_option linter.unusedVariables false
set_option linter.unusedSimpArgs false

set_option maxRecDepth 100000 in
set_option maxHeartbeats 3200000 in
theorem step_evict (w0 W : World) (TS : Nat → Prop) (g b : Nat) (M : List (KeyT × EntryK)) (v : Value) (L : List JobK) (h : TabJ w0 W TS g b M v L) (E : L.map plainJ = M.map plainE) (o : OpM) (R : Array Value) (hR : OpVal o R) (ho : o.j.breach.length = 32) (hid : o.id.length = 32)
    (hP : PayAt W (fun i => ¬ TS i) o.pv o.K) (hm : Modest o.K) (hl : L.length ≤ 65536) (hk : o.kind = 4) :
    Calls Try.prog 62 #[.pointer (some ⟨g, 0, none⟩), v, .agg R] W fun e w' => StepTo w0 W TS L.length e w' := by
  obtain ⟨RJ, hRJ⟩ := jobVal (j := o.j) ho (v := o.pv) (by obtain ⟨_, _, e, _⟩ := hP; rw [e]; rfl)
  obtain ⟨RI, hRI⟩ : ∃ RI, IdVal o.id RI := idVal _ hid
  obtain ⟨W0, hW0⟩ : ∃ W0, W0 = W.alloc (.cells R 106) := ⟨_, rfl⟩
  have hs0 : W0.heap.size = W.heap.size + 1 := by rw [hW0]; simp
  obtain ⟨W1, hW1⟩ : ∃ W1, W1 = W0.alloc (.cells #[c32 o.j.ses, c32 o.j.seq] 68) := ⟨_, rfl⟩
  have hb1 : Below W.heap.size W W1 := by rw [hW1, hW0]; exact ((Below.refl _ _).alloc (Nat.le_refl _) _).alloc (by simp) _
  have hq0 : Blk W0 W.heap.size 106 R := by rw [hW0]; exact Blk.new W _ _
  have hq1 : Blk W1 W.heap.size 106 R := by rw [hW1]; exact hq0.alloc _
  have hk1 : Blk W1 (W.heap.size + 1) 68 #[c32 o.j.ses, c32 o.j.seq] := by rw [hW1, ← hs0]; exact Blk.new W0 _ _
  have p2 : W0.cell? ⟨W.heap.size, 2, none⟩ = some (c32 o.j.ses) := (hq0.cell 2).trans hR.ses
  have p3 : W0.cell? ⟨W.heap.size, 3, none⟩ = some (c32 o.j.seq) := (hq0.cell 3).trans hR.seq
  have hT1 := h.later hb1
  have HR := hide hR
  have HRJ := hide hRJ
  have HRI := hide hRI
  have HS0 := hide hs0
  have HQ := hide hq1
  have HK := hide hk1
  have HT := hide hT1
  have HP := hide (hP.below hb1)
  have HM := hide hm
  have HE := hide E
  have HH := hide ho
  have HPl := hide hT1.tab.plain
  have HRs := hide hRJ.val.symm
  have HRi := hide hRI.val.symm
  have HIj : Hid ((Try.prog.info? 75).map (·.size) = some (jobCells o.j o.pv).length) := hide (by rw [jobCells_len ho]; exact info_job)
  have HIi : Hid ((Try.prog.info? 70).map (·.size) = some (o.id.map c8).length) := hide (by rw [List.length_map, hid]; exact info_id)
  have HCj : Hid (∀ w2, Below W1.heap.size W1 w2 → ∀ i u, (jobCells o.j o.pv)[i]? = some u → w2.cell? ⟨W.heap.size, 2 + i, none⟩ = some u) := hide fun w2 hb i u hu => ((hq1.below hb hq1.lt).cell _).trans (hR.job i u hu)
  have HCi : Hid (∀ w2, Below W1.heap.size W1 w2 → ∀ i u, (o.id.map c8)[i]? = some u → w2.cell? ⟨W.heap.size, 41 + i, none⟩ = some u) := hide fun w2 hb i u hu => ((hq1.below hb hq1.lt).cell _).trans (hR.id_ i u hu)
  have HCk : Hid (∀ w2, Below W1.heap.size W1 w2 → w2.cell? ⟨W.heap.size + 1, 0, none⟩ = some (c32 o.j.ses) ∧ w2.cell? ⟨W.heap.size + 1, 1, none⟩ = some (c32 o.j.seq)) := hide fun w2 hb => ⟨((hk1.below hb hk1.lt).cell 0).trans rfl, ((hk1.below hb hk1.lt).cell 1).trans rfl⟩
  have HCo : Hid (∀ w2, Below W1.heap.size W1 w2 → w2.cell? ⟨W.heap.size, 1, none⟩ = some (ci o.tier) ∧ w2.cell? ⟨W.heap.size, 40, none⟩ = some (c32 o.n)) := hide fun w2 hb => ⟨((hq1.below hb hq1.lt).cell 1).trans hR.tier, ((hq1.below hb hq1.lt).cell 40).trans hR.n_⟩
  have a0 : W1.cell? ⟨W.heap.size, 0, none⟩ = some (ci o.kind) := (hq1.cell 0).trans hR.kind
  obtain ⟨a1, a40⟩ := HCo.out W1 (Below.refl _ _)
  obtain ⟨k0, k1⟩ := HCk.out W1 (Below.refl _ _)
  rw [hk] at a0
  have HLn := hide (eqv_len E)
  have HKs := hide (eqv_evict_keys hT1.tab.plain E o.id)
  have CR := hide (refevict_any v L o.id RI hid hRI W1 (fun i => ¬ TS i) HT.out.jobs (by omega) (fun y hy => by
    have hm2 : plainJ y ∈ M.map plainE := by rw [← E]; exact List.mem_map_of_mem hy
    obtain ⟨p, hp, e⟩ := List.mem_map.1 hm2
    have := hT1.tab.plain.right p hp
    have e1 := congrArg Prod.fst e
    have e2 := congrArg Prod.snd e
    dsimp only [plainE, plainJ] at e1 e2
    rw [← e1, ← e2]; exact this))
  have HID := hide hid
  clear hk
  clear hq0 hq1 hk1 hT1 hs0 hRJ hRI hP hm hR E
  replace hW0 := hide hW0.symm
  replace hW1 := hide hW1.symm
  go_enter Try.func62, Try.ntmps62
  go_upto_region 2 with (first | (rw [hW0.out]) | fail)
  rw [hW1.out, HS0.out]
  clear p2 p3
  go_wp2_with (first
    | ((with_reducible show wpList _ _ _ (⟨_, .load 70 _, _, _, _, _⟩ :: _) _ _); refine wpList_load_at rfl 70 _ rfl ⟨W.heap.size, 41, none⟩ rfl (o.id.map c8) _ Try.underlying70 rfl HIi.out (fun i u hu => by rw [Addr.add_lit]; exact HCi.out _ (by first | exact Below.refl _ _ | exact HX.out.below) i u hu) ?_; rw [HRi.out])
    | (go_at_call 105; (with_reducible refine CR.out.mono ?_); rintro e w2 ⟨u, ku, rfl, hmx, hku⟩; have HX := hide hmx; have HT2 := hide (HT.out.row hmx); have HKu := hide hku; have CT := hide (jevict_any w2 TS g b M o.id RI HID.out HRI.out HT2.out.tab (by have := HLn.out; omega)); clear hmx hku)
    | (go_at_call 51; (with_reducible refine CT.out.mono ?_); rintro e w3 ⟨tv, rfl, htv, hT3, ht3⟩; have HT3 := hide ht3; have HTb := hide hT3; have HK3 := hide (own_block HKu.out.own (w' := w3) fun r hr => ht3.block r (own_lt HKu.out.own hr).2 (fun e => by have := (HT.out.bnd r e).2; have := (own_lt HKu.out.own hr).1; omega)); obtain ⟨A3, c3, rfl⟩ := own_slice htv; obtain ⟨A4, c4, rfl⟩ := own_slice HK3.out; have HTv := hide htv;
        have CK := hide (keys25_any A3 _ c3 _ A4 _ c4 _ w3 _ _ (ReadsS.of_own htv) (ReadsS.of_own HK3.out) rfl rfl (by have := keysP_len M (evP o.id); have := HLn.out; omega)); rw [show decide (keysP M (evP o.id) = keysL L (evK o.id)) = true from decide_eq_true HKs.out.symm] at CK; clear htv hT3 ht3)
    | (go_at_call 52; (with_reducible refine CK.out.mono ?_); rintro e w4 ⟨rfl, hb4⟩; have HB4 := hide hb4; clear hb4)
    | fail)
  go_ret3
  exact ⟨_, _, _, _, _, L.map (evictK o.id), rfl, (HT2.out.touch_ HT3.out HTb.out).later HB4.out, eqv_evict HPl.out HE.out o.id, by rw [List.length_map]; exact Nat.le_succ _, (((Touch.of_below hb1).then_below HX.out.below).trans HT3.out (fun _ _ e => e)).then_below HB4.out⟩
set_option maxRecDepth 100000 in
set_option maxHeartbeats 3200000 in
theorem step_rest (w0 W : World) (TS : Nat → Prop) (g b : Nat) (M : List (KeyT × EntryK)) (v : Value) (L : List JobK) (h : TabJ w0 W TS g b M v L) (E : L.map plainJ = M.map plainE) (o : OpM) (R : Array Value) (hR : OpVal o R) (ho : o.j.breach.length = 32) (hid : o.id.length = 32)
    (hP : PayAt W (fun i => ¬ TS i) o.pv o.K) (hm : Modest o.K) (hl : L.length ≤ 65536) (hk : o.kind = 5) :
    Calls Try.prog 62 #[.pointer (some ⟨g, 0, none⟩), v, .agg R] W fun e w' => StepTo w0 W TS L.length e w' := by
  obtain ⟨RJ, hRJ⟩ := jobVal (j := o.j) ho (v := o.pv) (by obtain ⟨_, _, e, _⟩ := hP; rw [e]; rfl)
  obtain ⟨RI, hRI⟩ : ∃ RI, IdVal o.id RI := idVal _ hid
  obtain ⟨W0, hW0⟩ : ∃ W0, W0 = W.alloc (.cells R 106) := ⟨_, rfl⟩
  have hs0 : W0.heap.size = W.heap.size + 1 := by rw [hW0]; simp
  obtain ⟨W1, hW1⟩ : ∃ W1, W1 = W0.alloc (.cells #[c32 o.j.ses, c32 o.j.seq] 68) := ⟨_, rfl⟩
  have hb1 : Below W.heap.size W W1 := by rw [hW1, hW0]; exact ((Below.refl _ _).alloc (Nat.le_refl _) _).alloc (by simp) _
  have hq0 : Blk W0 W.heap.size 106 R := by rw [hW0]; exact Blk.new W _ _
  have hq1 : Blk W1 W.heap.size 106 R := by rw [hW1]; exact hq0.alloc _
  have hk1 : Blk W1 (W.heap.size + 1) 68 #[c32 o.j.ses, c32 o.j.seq] := by rw [hW1, ← hs0]; exact Blk.new W0 _ _
  have p2 : W0.cell? ⟨W.heap.size, 2, none⟩ = some (c32 o.j.ses) := (hq0.cell 2).trans hR.ses
  have p3 : W0.cell? ⟨W.heap.size, 3, none⟩ = some (c32 o.j.seq) := (hq0.cell 3).trans hR.seq
  have hT1 := h.later hb1
  have HR := hide hR
  have HRJ := hide hRJ
  have HRI := hide hRI
  have HS0 := hide hs0
  have HQ := hide hq1
  have HK := hide hk1
  have HT := hide hT1
  have HP := hide (hP.below hb1)
  have HM := hide hm
  have HE := hide E
  have HH := hide ho
  have HPl := hide hT1.tab.plain
  have HRs := hide hRJ.val.symm
  have HRi := hide hRI.val.symm
  have HIj : Hid ((Try.prog.info? 75).map (·.size) = some (jobCells o.j o.pv).length) := hide (by rw [jobCells_len ho]; exact info_job)
  have HIi : Hid ((Try.prog.info? 70).map (·.size) = some (o.id.map c8).length) := hide (by rw [List.length_map, hid]; exact info_id)
  have HCj : Hid (∀ w2, Below W1.heap.size W1 w2 → ∀ i u, (jobCells o.j o.pv)[i]? = some u → w2.cell? ⟨W.heap.size, 2 + i, none⟩ = some u) := hide fun w2 hb i u hu => ((hq1.below hb hq1.lt).cell _).trans (hR.job i u hu)
  have HCi : Hid (∀ w2, Below W1.heap.size W1 w2 → ∀ i u, (o.id.map c8)[i]? = some u → w2.cell? ⟨W.heap.size, 41 + i, none⟩ = some u) := hide fun w2 hb i u hu => ((hq1.below hb hq1.lt).cell _).trans (hR.id_ i u hu)
  have HCk : Hid (∀ w2, Below W1.heap.size W1 w2 → w2.cell? ⟨W.heap.size + 1, 0, none⟩ = some (c32 o.j.ses) ∧ w2.cell? ⟨W.heap.size + 1, 1, none⟩ = some (c32 o.j.seq)) := hide fun w2 hb => ⟨((hk1.below hb hk1.lt).cell 0).trans rfl, ((hk1.below hb hk1.lt).cell 1).trans rfl⟩
  have HCo : Hid (∀ w2, Below W1.heap.size W1 w2 → w2.cell? ⟨W.heap.size, 1, none⟩ = some (ci o.tier) ∧ w2.cell? ⟨W.heap.size, 40, none⟩ = some (c32 o.n)) := hide fun w2 hb => ⟨((hq1.below hb hq1.lt).cell 1).trans hR.tier, ((hq1.below hb hq1.lt).cell 40).trans hR.n_⟩
  have a0 : W1.cell? ⟨W.heap.size, 0, none⟩ = some (ci o.kind) := (hq1.cell 0).trans hR.kind
  obtain ⟨a1, a40⟩ := HCo.out W1 (Below.refl _ _)
  obtain ⟨k0, k1⟩ := HCk.out W1 (Below.refl _ _)
  rw [hk] at a0
  have HLn := hide (eqv_len E)
  have CT := hide (jrest_any W1 TS g b M hT1.tab (by have := HLn.out; omega))
  clear hk
  clear hq0 hq1 hk1 hT1 hs0 hRJ hRI hP hm hR E
  replace hW0 := hide hW0.symm
  replace hW1 := hide hW1.symm
  go_enter Try.func62, Try.ntmps62
  go_upto_region 2 with (first | (rw [hW0.out]) | fail)
  rw [hW1.out, HS0.out]
  clear p2 p3
  go_wp2_with (first
    | (go_at_call 54; (with_reducible refine CT.out.mono ?_); rintro e w2 ⟨rfl, hT2, ht2⟩; have HT2 := hide (HT.out.touch_ ht2 hT2); have HTt := hide ht2; have CR := hide (refrest_any v L w2 _ HT2.out.jobs (by omega)); clear hT2 ht2)
    | (go_at_call 106; (with_reducible refine CR.out.mono ?_); rintro e w3 ⟨u, rfl, hmx⟩; have HX := hide hmx; have HT3 := hide (HT2.out.row hmx); clear hmx)
    | fail)
  go_ret3
  exact ⟨_, _, _, _, _, L.map deadK, rfl, HT3.out, eqv_rest HE.out, by rw [List.length_map]; exact Nat.le_succ _, ((Touch.of_below hb1).trans HTt.out (fun _ _ e => e)).then_below HX.out.below⟩
set_option maxRecDepth 100000 in
set_option maxHeartbeats 3200000 in
theorem step_clone_none (w0 W : World) (TS : Nat → Prop) (g b : Nat) (M : List (KeyT × EntryK)) (v : Value) (L : List JobK) (h : TabJ w0 W TS g b M v L) (E : L.map plainJ = M.map plainE) (o : OpM) (R : Array Value) (hR : OpVal o R) (ho : o.j.breach.length = 32) (hid : o.id.length = 32)
    (hP : PayAt W (fun i => ¬ TS i) o.pv o.K) (hm : Modest o.K) (hl : L.length ≤ 65536) (hk : ∀ z : Int, 0 ≤ z → z ≤ 5 → o.kind ≠ z) (hx : mget M (o.j.ses, o.j.seq) = none) :
    Calls Try.prog 62 #[.pointer (some ⟨g, 0, none⟩), v, .agg R] W fun e w' => StepTo w0 W TS L.length e w' := by
  obtain ⟨RJ, hRJ⟩ := jobVal (j := o.j) ho (v := o.pv) (by obtain ⟨_, _, e, _⟩ := hP; rw [e]; rfl)
  obtain ⟨RI, hRI⟩ : ∃ RI, IdVal o.id RI := idVal _ hid
  obtain ⟨W0, hW0⟩ : ∃ W0, W0 = W.alloc (.cells R 106) := ⟨_, rfl⟩
  have hs0 : W0.heap.size = W.heap.size + 1 := by rw [hW0]; simp
  obtain ⟨W1, hW1⟩ : ∃ W1, W1 = W0.alloc (.cells #[c32 o.j.ses, c32 o.j.seq] 68) := ⟨_, rfl⟩
  have hb1 : Below W.heap.size W W1 := by rw [hW1, hW0]; exact ((Below.refl _ _).alloc (Nat.le_refl _) _).alloc (by simp) _
  have hq0 : Blk W0 W.heap.size 106 R := by rw [hW0]; exact Blk.new W _ _
  have hq1 : Blk W1 W.heap.size 106 R := by rw [hW1]; exact hq0.alloc _
  have hk1 : Blk W1 (W.heap.size + 1) 68 #[c32 o.j.ses, c32 o.j.seq] := by rw [hW1, ← hs0]; exact Blk.new W0 _ _
  have p2 : W0.cell? ⟨W.heap.size, 2, none⟩ = some (c32 o.j.ses) := (hq0.cell 2).trans hR.ses
  have p3 : W0.cell? ⟨W.heap.size, 3, none⟩ = some (c32 o.j.seq) := (hq0.cell 3).trans hR.seq
  have hT1 := h.later hb1
  have HR := hide hR
  have HRJ := hide hRJ
  have HRI := hide hRI
  have HS0 := hide hs0
  have HQ := hide hq1
  have HK := hide hk1
  have HT := hide hT1
  have HP := hide (hP.below hb1)
  have HM := hide hm
  have HE := hide E
  have HH := hide ho
  have HPl := hide hT1.tab.plain
  have HRs := hide hRJ.val.symm
  have HRi := hide hRI.val.symm
  have HIj : Hid ((Try.prog.info? 75).map (·.size) = some (jobCells o.j o.pv).length) := hide (by rw [jobCells_len ho]; exact info_job)
  have HIi : Hid ((Try.prog.info? 70).map (·.size) = some (o.id.map c8).length) := hide (by rw [List.length_map, hid]; exact info_id)
  have HCj : Hid (∀ w2, Below W1.heap.size W1 w2 → ∀ i u, (jobCells o.j o.pv)[i]? = some u → w2.cell? ⟨W.heap.size, 2 + i, none⟩ = some u) := hide fun w2 hb i u hu => ((hq1.below hb hq1.lt).cell _).trans (hR.job i u hu)
  have HCi : Hid (∀ w2, Below W1.heap.size W1 w2 → ∀ i u, (o.id.map c8)[i]? = some u → w2.cell? ⟨W.heap.size, 41 + i, none⟩ = some u) := hide fun w2 hb i u hu => ((hq1.below hb hq1.lt).cell _).trans (hR.id_ i u hu)
  have HCk : Hid (∀ w2, Below W1.heap.size W1 w2 → w2.cell? ⟨W.heap.size + 1, 0, none⟩ = some (c32 o.j.ses) ∧ w2.cell? ⟨W.heap.size + 1, 1, none⟩ = some (c32 o.j.seq)) := hide fun w2 hb => ⟨((hk1.below hb hk1.lt).cell 0).trans rfl, ((hk1.below hb hk1.lt).cell 1).trans rfl⟩
  have HCo : Hid (∀ w2, Below W1.heap.size W1 w2 → w2.cell? ⟨W.heap.size, 1, none⟩ = some (ci o.tier) ∧ w2.cell? ⟨W.heap.size, 40, none⟩ = some (c32 o.n)) := hide fun w2 hb => ⟨((hq1.below hb hq1.lt).cell 1).trans hR.tier, ((hq1.below hb hq1.lt).cell 40).trans hR.n_⟩
  have a0 : W1.cell? ⟨W.heap.size, 0, none⟩ = some (ci o.kind) := (hq1.cell 0).trans hR.kind
  obtain ⟨a1, a40⟩ := HCo.out W1 (Below.refl _ _)
  obtain ⟨k0, k1⟩ := HCk.out W1 (Below.refl _ _)
  have e0 : (o.kind == 0) = false := beq_eq_false_iff_ne.2 (hk 0 (by omega) (by omega))
  have e1 : (o.kind == 1) = false := beq_eq_false_iff_ne.2 (hk 1 (by omega) (by omega))
  have e2 : (o.kind == 2) = false := beq_eq_false_iff_ne.2 (hk 2 (by omega) (by omega))
  have e3 : (o.kind == 3) = false := beq_eq_false_iff_ne.2 (hk 3 (by omega) (by omega))
  have e4 : (o.kind == 4) = false := beq_eq_false_iff_ne.2 (hk 4 (by omega) (by omega))
  have e5 : (o.kind == 5) = false := beq_eq_false_iff_ne.2 (hk 5 (by omega) (by omega))
  have HLn := hide (eqv_len E)
  have CC := hide (jclone_any W1 TS g b M hT1.tab (by have := HLn.out; omega))
  clear hk
  clear hq0 hq1 hk1 hT1 hs0 hRJ hRI hP hm hR E
  replace hW0 := hide hW0.symm
  replace hW1 := hide hW1.symm
  go_enter Try.func62, Try.ntmps62
  go_upto_region 2 with (first | (rw [hW0.out]) | fail)
  rw [hW1.out, HS0.out]
  clear p2 p3
  go_wp2_with (first
    | (go_at_call 60; (with_reducible refine CC.out.mono ?_); rintro e w2 ⟨g', b', M', rfl, hb2, hT', hM'⟩; have kk := HCk.out w2 hb2; obtain ⟨k0, k1⟩ := kk; have HB2 := hide hb2; have HTn := hide hT'; have HMn := hide hM'; have HT2 := hide (HT.out.later hb2); have CD := hide (jdrop_none w2 TS g b M (o.j.ses, o.j.seq) HT2.out.tab hx); unfold kf at CD; dsimp only at CD; clear hb2 hT' hM')
    | (go_at_call 55; (with_reducible refine CD.out.mono ?_); rintro e w3 ⟨rfl, hb3⟩; have HT3 := hide (Touch.of_below (S := TS) hb3); have HTb := hide (HT2.out.tab.below hb3); have CE := hide (jrest_any w3 TS g b M HTb.out (by have := HLn.out; omega)); clear hb3)
    | (go_at_call 54; (with_reducible refine CE.out.mono ?_); rintro e w4 ⟨rfl, hT4, ht4⟩; have HT4 := hide ht4; clear hT4 ht4)
    | fail)
  go_ret3
  exact ⟨_, _, _, _, _, L, rfl, TabJ.fresh (TS2 := TS) HT.out HB2.out HTn.out HT3.out HT4.out (fun i e => .inl e), by rw [HMn.out]; exact HE.out, Nat.le_succ _, ((((Touch.of_below hb1).then_below HB2.out).trans HT3.out (fun _ _ e => e)).trans HT4.out (fun i hi e => by have := hb1.size; have := HB2.out.size; first | exact e | (rcases e with e | e; exact e; omega)))⟩
set_option maxRecDepth 100000 in
set_option maxHeartbeats 3200000 in
theorem step_clone_some (w0 W : World) (TS : Nat → Prop) (g b : Nat) (M : List (KeyT × EntryK)) (v : Value) (L : List JobK) (h : TabJ w0 W TS g b M v L) (E : L.map plainJ = M.map plainE) (o : OpM) (R : Array Value) (hR : OpVal o R) (ho : o.j.breach.length = 32) (hid : o.id.length = 32)
    (hP : PayAt W (fun i => ¬ TS i) o.pv o.K) (hm : Modest o.K) (hl : L.length ≤ 65536) (hk : ∀ z : Int, 0 ≤ z → z ≤ 5 → o.kind ≠ z) (x : EntryK) (hx : mget M (o.j.ses, o.j.seq) = some x) :
    Calls Try.prog 62 #[.pointer (some ⟨g, 0, none⟩), v, .agg R] W fun e w' => StepTo w0 W TS L.length e w' := by
  obtain ⟨RJ, hRJ⟩ := jobVal (j := o.j) ho (v := o.pv) (by obtain ⟨_, _, e, _⟩ := hP; rw [e]; rfl)
  obtain ⟨RI, hRI⟩ : ∃ RI, IdVal o.id RI := idVal _ hid
  obtain ⟨W0, hW0⟩ : ∃ W0, W0 = W.alloc (.cells R 106) := ⟨_, rfl⟩
  have hs0 : W0.heap.size = W.heap.size + 1 := by rw [hW0]; simp
  obtain ⟨W1, hW1⟩ : ∃ W1, W1 = W0.alloc (.cells #[c32 o.j.ses, c32 o.j.seq] 68) := ⟨_, rfl⟩
  have hb1 : Below W.heap.size W W1 := by rw [hW1, hW0]; exact ((Below.refl _ _).alloc (Nat.le_refl _) _).alloc (by simp) _
  have hq0 : Blk W0 W.heap.size 106 R := by rw [hW0]; exact Blk.new W _ _
  have hq1 : Blk W1 W.heap.size 106 R := by rw [hW1]; exact hq0.alloc _
  have hk1 : Blk W1 (W.heap.size + 1) 68 #[c32 o.j.ses, c32 o.j.seq] := by rw [hW1, ← hs0]; exact Blk.new W0 _ _
  have p2 : W0.cell? ⟨W.heap.size, 2, none⟩ = some (c32 o.j.ses) := (hq0.cell 2).trans hR.ses
  have p3 : W0.cell? ⟨W.heap.size, 3, none⟩ = some (c32 o.j.seq) := (hq0.cell 3).trans hR.seq
  have hT1 := h.later hb1
  have HR := hide hR
  have HRJ := hide hRJ
  have HRI := hide hRI
  have HS0 := hide hs0
  have HQ := hide hq1
  have HK := hide hk1
  have HT := hide hT1
  have HP := hide (hP.below hb1)
  have HM := hide hm
  have HE := hide E
  have HH := hide ho
  have HPl := hide hT1.tab.plain
  have HRs := hide hRJ.val.symm
  have HRi := hide hRI.val.symm
  have HIj : Hid ((Try.prog.info? 75).map (·.size) = some (jobCells o.j o.pv).length) := hide (by rw [jobCells_len ho]; exact info_job)
  have HIi : Hid ((Try.prog.info? 70).map (·.size) = some (o.id.map c8).length) := hide (by rw [List.length_map, hid]; exact info_id)
  have HCj : Hid (∀ w2, Below W1.heap.size W1 w2 → ∀ i u, (jobCells o.j o.pv)[i]? = some u → w2.cell? ⟨W.heap.size, 2 + i, none⟩ = some u) := hide fun w2 hb i u hu => ((hq1.below hb hq1.lt).cell _).trans (hR.job i u hu)
  have HCi : Hid (∀ w2, Below W1.heap.size W1 w2 → ∀ i u, (o.id.map c8)[i]? = some u → w2.cell? ⟨W.heap.size, 41 + i, none⟩ = some u) := hide fun w2 hb i u hu => ((hq1.below hb hq1.lt).cell _).trans (hR.id_ i u hu)
  have HCk : Hid (∀ w2, Below W1.heap.size W1 w2 → w2.cell? ⟨W.heap.size + 1, 0, none⟩ = some (c32 o.j.ses) ∧ w2.cell? ⟨W.heap.size + 1, 1, none⟩ = some (c32 o.j.seq)) := hide fun w2 hb => ⟨((hk1.below hb hk1.lt).cell 0).trans rfl, ((hk1.below hb hk1.lt).cell 1).trans rfl⟩
  have HCo : Hid (∀ w2, Below W1.heap.size W1 w2 → w2.cell? ⟨W.heap.size, 1, none⟩ = some (ci o.tier) ∧ w2.cell? ⟨W.heap.size, 40, none⟩ = some (c32 o.n)) := hide fun w2 hb => ⟨((hq1.below hb hq1.lt).cell 1).trans hR.tier, ((hq1.below hb hq1.lt).cell 40).trans hR.n_⟩
  have a0 : W1.cell? ⟨W.heap.size, 0, none⟩ = some (ci o.kind) := (hq1.cell 0).trans hR.kind
  obtain ⟨a1, a40⟩ := HCo.out W1 (Below.refl _ _)
  obtain ⟨k0, k1⟩ := HCk.out W1 (Below.refl _ _)
  have e0 : (o.kind == 0) = false := beq_eq_false_iff_ne.2 (hk 0 (by omega) (by omega))
  have e1 : (o.kind == 1) = false := beq_eq_false_iff_ne.2 (hk 1 (by omega) (by omega))
  have e2 : (o.kind == 2) = false := beq_eq_false_iff_ne.2 (hk 2 (by omega) (by omega))
  have e3 : (o.kind == 3) = false := beq_eq_false_iff_ne.2 (hk 3 (by omega) (by omega))
  have e4 : (o.kind == 4) = false := beq_eq_false_iff_ne.2 (hk 4 (by omega) (by omega))
  have e5 : (o.kind == 5) = false := beq_eq_false_iff_ne.2 (hk 5 (by omega) (by omega))
  have HLn := hide (eqv_len E)
  have CC := hide (jclone_any W1 TS g b M hT1.tab (by have := HLn.out; omega))
  clear hk
  clear hq0 hq1 hk1 hT1 hs0 hRJ hRI hP hm hR E
  replace hW0 := hide hW0.symm
  replace hW1 := hide hW1.symm
  go_enter Try.func62, Try.ntmps62
  go_upto_region 2 with (first | (rw [hW0.out]) | fail)
  rw [hW1.out, HS0.out]
  clear p2 p3
  go_wp2_with (first
    | (go_at_call 60; (with_reducible refine CC.out.mono ?_); rintro e w2 ⟨g', b', M', rfl, hb2, hT', hM'⟩; have kk := HCk.out w2 hb2; obtain ⟨k0, k1⟩ := kk; have HB2 := hide hb2; have HTn := hide hT'; have HMn := hide hM'; have HT2 := hide (HT.out.later hb2); have CD := hide (jdrop_some w2 TS g b M (o.j.ses, o.j.seq) x HT2.out.tab (by have := HLn.out; omega) hx); unfold kf at CD; dsimp only at CD; clear hb2 hT' hM')
    | (go_at_call 55; (with_reducible refine CD.out.mono ?_); rintro e w3 ⟨rfl, ht3, hT3⟩; have HT3 := hide ht3; have HTb := hide hT3; have CE := hide (jrest_any w3 _ g b (mdel M (o.j.ses, o.j.seq)) hT3 (by have := HLn.out; have : (mdel M (o.j.ses, o.j.seq)).length ≤ M.length := List.length_filter_le _ _; omega)); clear ht3 hT3)
    | (go_at_call 54; (with_reducible refine CE.out.mono ?_); rintro e w4 ⟨rfl, hT4, ht4⟩; have HT4 := hide ht4; clear hT4 ht4)
    | fail)
  go_ret3
  exact ⟨_, _, _, _, _, L, rfl, TabJ.fresh (TS2 := (fun i => TS i ∨ w2.heap.size ≤ i)) HT.out HB2.out HTn.out HT3.out HT4.out (fun i e => e), by rw [HMn.out]; exact HE.out, Nat.le_succ _, ((((Touch.of_below hb1).then_below HB2.out).trans HT3.out (fun _ _ e => e)).trans HT4.out (fun i hi e => by have := hb1.size; have := HB2.out.size; first | exact e | (rcases e with e | e; exact e; omega)))⟩
end Go.Proofs.Ytccpkafmbmkmfaa
namespace Go.Proofs.Ytccpkafmbmkmfaa
open Go.RowKit Go.Shelf
set_option linter.unusedVariables false
set_option linter.unusedSimpArgs false

theorem step_any (w0 W : World) (TS : Nat → Prop) (g b : Nat) (M : List (KeyT × EntryK)) (v : Value) (L : List JobK) (h : TabJ w0 W TS g b M v L) (E : L.map plainJ = M.map plainE) (o : OpM) (R : Array Value) (hR : OpVal o R) (ho : o.j.breach.length = 32) (hid : o.id.length = 32)
    (hP : PayAt W (fun i => ¬ TS i) o.pv o.K) (hm : Modest o.K) (hl : L.length ≤ 65536) :
    Calls Try.prog 62 #[.pointer (some ⟨g, 0, none⟩), v, .agg R] W fun e w' => StepTo w0 W TS L.length e w' := by
  by_cases h0 : o.kind = 0
  · cases hr : rightJ o.j (plainT o.K) with
    | false => exact step_bad w0 W TS g b M v L h E o R hR ho hid hP hm hl h0 hr
    | true =>
      cases hx : mget M (keyOfJ o.j) with
      | none => exact step_new w0 W TS g b M v L h E o R hR ho hid hP hm hl h0 hr hx
      | some x => exact step_twice w0 W TS g b M v L h E o R hR ho hid hP hm hl h0 hr x hx
  by_cases h1 : o.kind = 1
  · cases hx : mget M (o.j.ses, o.j.seq) with
    | none => exact step_drop_none w0 W TS g b M v L h E o R hR ho hid hP hm hl h1 hx
    | some x => exact step_drop_some w0 W TS g b M v L h E o R hR ho hid hP hm hl h1 x hx
  by_cases h2 : o.kind = 2
  · cases hx : mget M (o.j.ses, o.j.seq) with
    | none => exact step_mark_none w0 W TS g b M v L h E o R hR ho hid hP hm hl h2 hx
    | some x => exact step_mark_some w0 W TS g b M v L h E o R hR ho hid hP hm hl h2 x hx
  by_cases h3 : o.kind = 3
  · cases hx : mget M (o.j.ses, o.j.seq) with
    | none => exact step_live_none w0 W TS g b M v L h E o R hR ho hid hP hm hl h3 hx
    | some x =>
      by_cases hmi : x.job.mined.toNat = 0
      · by_cases ht : -1 ≤ o.tier
        · by_cases ht2 : o.tier < (x.K.length : Int)
          · exact step_live_yes w0 W TS g b M v L h E o R hR ho hid hP hm hl h3 x hx hmi ht ht2
          · exact step_live_high w0 W TS g b M v L h E o R hR ho hid hP hm hl h3 x hx hmi ht (by omega)
        · exact step_live_low w0 W TS g b M v L h E o R hR ho hid hP hm hl h3 x hx hmi (by omega)
      · exact step_live_mined w0 W TS g b M v L h E o R hR ho hid hP hm hl h3 x hx hmi
  by_cases h4 : o.kind = 4
  · exact step_evict w0 W TS g b M v L h E o R hR ho hid hP hm hl h4
  by_cases h5 : o.kind = 5
  · exact step_rest w0 W TS g b M v L h E o R hR ho hid hP hm hl h5
  have hk : ∀ z : Int, 0 ≤ z → z ≤ 5 → o.kind ≠ z := fun z _ _ e => by omega
  cases hx : mget M (o.j.ses, o.j.seq) with
  | none => exact step_clone_none w0 W TS g b M v L h E o R hR ho hid hP hm hl hk hx
  | some x => exact step_clone_some w0 W TS g b M v L h E o R hR ho hid hP hm hl hk x hx
end Go.Proofs.Ytccpkafmbmkmfaa
namespace Go.Proofs.Ytccpkafmbmkmfaa
open Go.RowKit Go.Shelf
set_option linter.unusedVariables false
set_option linter.unusedSimpArgs false

def KeysW (w3 : World) (KS : List KeyT) (u : Value) (W : World) : Prop := ∃ A c, u = .slice A KS.length c ∧ ReadsS W (fun i => w3.heap.size ≤ i) 2 A KS.length (keyC KS)
theorem KeysW.later {w3 : World} {KS : List KeyT} : ∀ (v : Value) (w w' : World), Below w.heap.size w w' → KeysW w3 KS v w → KeysW w3 KS v w' := by
  rintro v w w' hb ⟨A, c, e, h⟩; exact ⟨A, c, e, h.keep hb.size fun i hi _ => hb.block i hi⟩
theorem KeysW.of_own {w3 W w' : World} {KS : List KeyT} {A : Option Addr} {c : Nat} (ho : OwnKeys W w' (.slice A KS.length c) KS) (hs : w3.heap.size ≤ W.heap.size) : KeysW w3 KS (.slice A KS.length c) w' :=
  ⟨A, c, rfl, (ReadsS.of_own ho.own).mono fun i _ hi => Nat.le_trans hs (own_lt ho.own hi).1⟩
def JobsW (w3 : World) (M : List (KeyT × EntryK)) (u : Value) (W : World) : Prop := ∃ L9, JobsAt W (fun i => w3.heap.size ≤ i) u L9 ∧ L9.map plainJ = M.map plainE
theorem JobsW.later {w3 : World} {M : List (KeyT × EntryK)} : ∀ (v : Value) (w w' : World), Below w.heap.size w w' → JobsW w3 M v w → JobsW w3 M v w' := by
  rintro v w w' hb ⟨L9, h, e⟩; exact ⟨L9, h.below hb, e⟩
theorem JobsW.of_own {w3 W w' : World} {M : List (KeyT × EntryK)} {v : Value} {L9 : List JobK} (ho : OwnJobs W w' v L9) (e : L9.map plainJ = M.map plainE) (hs : w3.heap.size ≤ W.heap.size) : JobsW w3 M v w' :=
  ⟨L9, ho.jobs.mono fun i _ hi => Nat.le_trans hs hi.1, e⟩
theorem eqv_modest {M : List (KeyT × EntryK)} {L : List JobK} (H : Plain M) (E : L.map plainJ = M.map plainE) : ∀ x ∈ L, Modest x.2.2 := by
  intro x hx
  have hm2 : plainJ x ∈ M.map plainE := by rw [← E]; exact List.mem_map_of_mem hx
  obtain ⟨p, hp, e⟩ := List.mem_map.1 hm2
  have := H.right p hp
  have e1 := congrArg Prod.fst e
  have e2 := congrArg Prod.snd e
  dsimp only [plainE, plainJ] at e1 e2
  rw [e1, e2] at this
  exact modest_right this
theorem JobsW.most {M : List (KeyT × EntryK)} {L : List JobK} (E : L.map plainJ = M.map plainE) (H : Plain M) : ∀ x ∈ L, x.2.2.length ≤ 9223372036854775807 := fun x hx => by
  have := (eqv_modest H E x hx).1; omega
theorem jget_both (w : World) (S : Nat → Prop) (g b : Nat) (M : List (KeyT × EntryK)) (k : KeyT) (h : Tab w S g b M) :
    Calls Try.prog 46 #[.pointer (some ⟨g, 0, none⟩), kf k] w fun e w' => ∃ is jm jv RJ Kj, e = .returned (.tuple #[.agg RJ, .bool is]) ∧ JobVal jm jv RJ ∧ jm.breach.length = 32 ∧ PayAt w' (fun i => w.heap.size ≤ i) jv Kj ∧ Modest Kj ∧ Below w.heap.size w w' ∧
      (is = false → mget M k = none) ∧ (is = true → ∃ x, mget M k = some x ∧ jm = x.job ∧ plainT Kj = plainT x.K ∧ rightJ jm (plainT Kj) = true) := by
  cases hx : mget M k with
  | none =>
    refine (jget_none w S g b M k h hx).mono ?_
    rintro e w' ⟨Z, rfl, hJ, hb⟩
    exact ⟨false, zeroJ, .slice none 0 0, Z, [], rfl, hJ, by simp [zeroJ], ⟨none, 0, rfl, Nat.le_refl _, ⟨rfl, fun h => absurd h (Nat.lt_irrefl _)⟩, by simp⟩, ⟨by simp, by simp⟩, hb, fun _ => rfl, fun e => by cases e⟩
  | some x =>
    have hE : x.job.breach.length = 32 ∧ rightJ x.job (plainT x.K) = true := by
      obtain ⟨F, ov, h⟩ := h
      have := h.ents _ (mget_some hx)
      exact ⟨this.len, this.right⟩
    refine (jget_some w S g b M k x h hx).mono ?_
    rintro e w' ⟨v', K', R', rfl, hJ, hK, ho, hb⟩
    have hr : rightJ x.job (plainT K') = true := by rw [hK]; exact hE.2
    exact ⟨true, x.job, v', R', K', rfl, hJ, hE.1, ho.pay.mono fun i _ hi => hi.1, modest_right hr, hb, (fun e => by cases e), fun _ => ⟨x, rfl, rfl, hK, hr⟩⟩
end Go.Proofs.Ytccpkafmbmkmfaa
