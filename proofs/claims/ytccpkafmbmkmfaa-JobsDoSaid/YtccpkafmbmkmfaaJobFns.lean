/- A job as a value, and package jobs' own. Condition: a payload that is not too much. Package jobs' Right. No condition. The keys of package jobs' map. No condition. A table of package jobs in memory; New, absent, at. No condition. Package jobs' Mark and entry.live. No condition. Package jobs' Get. Condition: what stands there is not too much. Package jobs' Live of what was mined. No condition. -/
import Derived.Test.YtccpkafmbmkmfaaPayFns
import Derived.Test.YtccpkafmbmkmfaaOpen
import Derived.Test.YtccpkafmbmkmfaaMaps
import Derived.Test.YtccpkafmbmkmfaaProg
import Derived.DeepKeys5
import Derived.Test.YtccpkafmbmkmfaaRelLast
import Derived.WalkSpells
import Derived.BigQuiet
import Derived.Laws.ResultCell
namespace Go.Proofs.Ytccpkafmbmkmfaa
open Go.RowKit Go.Shelf
set_option linter.unusedVariables false
set_option linter.unusedSimpArgs false

/-- a job but for its tiers -/
structure JobM where
  ses : BitVec 32
  seq : BitVec 32
  breach : List (BitVec 8)
  height : BitVec 32
  mined : BitVec 32
  live : Int
/-- its cells, but for the last: that of its tiers -/
def jobHead (j : JobM) : List Value := [c32 j.ses, c32 j.seq] ++ (j.breach.map c8 ++ [c32 j.height, c32 j.mined, ci j.live])
def jobCells (j : JobM) (v : Value) : List Value := jobHead j ++ [v]
theorem jobHead_len {j : JobM} (h : j.breach.length = 32) : (jobHead j).length = 37 := by simp [jobHead, h]
/-- A JOB AS A VALUE -/
structure JobVal (j : JobM) (v : Value) (R : Array Value) : Prop where
  val : R = (jobCells j v).toArray
  size : R.size = 38
  one : R.all (·.oneCell') = true
  ses : R[0]? = some (c32 j.ses)
  seq : R[1]? = some (c32 j.seq)
  height : R[34]? = some (c32 j.height)
  mined : R[35]? = some (c32 j.mined)
  live : R[36]? = some (ci j.live)
  pay : R[37]? = some v
theorem job_get {j : JobM} (h : j.breach.length = 32) (v : Value) :
    (jobCells j v)[0]? = some (c32 j.ses) ∧ (jobCells j v)[1]? = some (c32 j.seq) ∧ (jobCells j v)[34]? = some (c32 j.height) ∧ (jobCells j v)[35]? = some (c32 j.mined) ∧ (jobCells j v)[36]? = some (ci j.live) ∧ (jobCells j v)[37]? = some v := by
  refine ⟨rfl, rfl, ?_, ?_, ?_, ?_⟩
  · simp [jobCells, jobHead, List.getElem?_append, h]
  · simp [jobCells, jobHead, List.getElem?_append, h]
  · simp [jobCells, jobHead, List.getElem?_append, h]
  · simp [jobCells, jobHead, List.getElem?_append, h]
theorem jobVal {j : JobM} (h : j.breach.length = 32) {v : Value} (hv : v.oneCell' = true) : ∃ R, JobVal j v R := by
  obtain ⟨h1, h2, h3, h4, h5, h6⟩ := job_get h v
  refine ⟨(jobCells j v).toArray, rfl, by simp [jobCells, jobHead_len h], ?_, ?_, ?_, ?_, ?_, ?_, ?_⟩
  · rw [Array.all_eq_true_iff_forall_mem]
    intro u hu
    simp only [jobCells, jobHead, List.mem_toArray, List.mem_append, List.mem_cons, List.not_mem_nil, or_false, List.mem_map] at hu
    rcases hu with ((rfl | rfl) | ⟨x, _, rfl⟩ | rfl | rfl | rfl) | rfl <;> first | rfl | exact hv
  all_goals rw [List.getElem?_toArray]
  · exact h1
  · exact h2
  · exact h3
  · exact h4
  · exact h5
  · exact h6
theorem JobVal.to {j : JobM} (h : j.breach.length = 32) {v v' : Value} {R : Array Value} (hR : JobVal j v R) (hv : v'.oneCell' = true) : JobVal j v' (R.setIfInBounds 37 v') := by
  obtain ⟨R', h'⟩ := jobVal h hv
  have : R.setIfInBounds 37 v' = R' := by
    rw [hR.val, h'.val]
    have e : ((jobHead j) ++ [v]).set 37 v' = (jobHead j) ++ [v'] := by
      rw [List.set_append_right _ _ (by rw [jobHead_len h]; omega), jobHead_len h]; rfl
    rw [List.setIfInBounds_toArray]
    exact congrArg _ e
  rw [this]; exact h'
theorem zero_job : ∃ Z : Array Value, (Try.prog.info? 75).map (·.zero) = some (some (.agg Z)) ∧ Z.size = 38 := ⟨((List.replicate 2 (c32 0)) ++ (List.replicate 32 (c8 0)) ++ [c32 0, c32 0, ci 0, .slice none 0 0]).toArray, by kernel_rfl, rfl⟩
theorem info_job : (Try.prog.info? 75).map (·.size) = some 38 := by kernel_rfl
set_option maxRecDepth 100000 in
set_option maxHeartbeats 800000 in
theorem own_any (j : JobM) (hj : j.breach.length = 32) (v : Value) (R : Array Value) (hR : JobVal j v R) (K : List TierK) (w : World) (S : Nat → Prop) (h : PayAt w S v K) (hm : Modest K) :
    Calls Try.prog 84 #[.agg R] w fun e w' => ∃ v' K' R', e = .returned (.agg R') ∧ JobVal j v' R' ∧ plainT K' = plainT K ∧ OwnPay w w' v' K' ∧ Below w.heap.size w w' := by
  obtain ⟨Z, hZ, hZs⟩ := zero_job
  have HZ := hide hZ
  obtain ⟨W0, hW0⟩ : ∃ W0, w.alloc (.cells R 75) = W0 := ⟨_, rfl⟩
  have hs0 : W0.heap.size = w.heap.size + 1 := by rw [← hW0]; simp
  obtain ⟨W1, hW1⟩ : ∃ W1, W0.alloc (.cells Z 75) = W1 := ⟨_, rfl⟩
  have hq0 : Blk W0 w.heap.size 75 R := by rw [← hW0]; exact Blk.new w _ R
  have hq1 : Blk W1 w.heap.size 75 R := by rw [← hW1]; exact hq0.alloc _
  have hr1 : Blk W1 (w.heap.size + 1) 75 Z := by rw [← hW1, ← hs0]; exact Blk.new W0 _ Z
  have hb1 : Below w.heap.size w W1 := by rw [← hW1, ← hW0]; exact ((Below.refl _ _).alloc (Nat.le_refl _) _).alloc (by simp) _
  have HC := hide (copy_any v K W1 S (h.below hb1) hm)
  have x37 : W1.cell? ⟨w.heap.size, 37, none⟩ = some v := (hq1.cell 37).trans hR.pay
  have HQ := hide hq1
  have HRb := hide hr1
  have HB := hide hb1
  have HR := hide hR
  replace hW0 := hide hW0
  replace hW1 := hide hW1
  have HS0 := hide hs0
  have HZs := hide hZs
  clear hq0 hq1 hr1 hb1 hR hZ hs0 hZs
  go_enter Try.func84, Try.ntmps84
  go_wp2_with (first
    | (refine wpList_alloc_is rfl 75 rfl Z HZ.out ?_; rw [hW0.out, hW1.out, HS0.out])
    | (go_at_call 112; (with_reducible refine HC.out.mono ?_); rintro e w3 ⟨v', K', rfl, hK, ho, hb3⟩; obtain ⟨A9, c9, rfl⟩ := own_slice ho.own; have HO := hide ho; have HK := hide hK; have HB3 := hide hb3; have HQ3 := hide (HQ.out.below hb3 HQ.out.lt); have HR3 := hide (HRb.out.below hb3 HRb.out.lt); have y37 : w3.cell? ⟨w.heap.size, 37, none⟩ = some v := (HQ3.out.cell 37).trans HR.out.pay; have f37 : w3.frozen? ⟨w.heap.size, 37, none⟩ = false := HQ3.out.frozen 37; clear ho hK hb3)
    | ((with_reducible show wpList _ _ _ (⟨_, .load 75 _, _, _, _, _⟩ :: _) _ _); refine wpList_load_row rfl 75 _ rfl w.heap.size rfl 75 (R.setIfInBounds 37 (.slice A9 K'.length c9)) (0, 0) _ (HQ3.out.set_ 37 _) Try.underlying75 rfl (by rw [Array.size_setIfInBounds, HR.out.size]; exact info_job) ?_)
    | ((with_reducible show wpList _ _ _ (⟨_, .store 75 _ _, _, _, _, _⟩ :: _) _ _); refine wpList_store_row rfl 75 _ _ rfl (w.heap.size + 1) rfl (R.setIfInBounds 37 (.slice A9 K'.length c9)) rfl 75 _ (HR3.out.far (p := ⟨w.heap.size, 37, none⟩) (Nat.succ_ne_self _) _) (by rw [(HR.out.to hj rfl).size]; exact info_job) (by rw [(HR.out.to hj rfl).size]; exact HZs.out) (HR.out.to hj rfl).one ?_)
    | fail)
  have HT := HR.out.to hj (v' := .slice A9 K'.length c9) rfl
  have hsz : w.heap.size + 1 < w3.heap.size := HR3.out.lt
  have hoth : ∀ i, i ≠ w.heap.size → i ≠ w.heap.size + 1 → ((w3.setCell ⟨w.heap.size, 37, none⟩ (.slice A9 K'.length c9)).setRow (w.heap.size + 1) (R.setIfInBounds 37 (.slice A9 K'.length c9))).heap[i]? = w3.heap[i]? := fun i h1 h2 => (setRow_other _ _ _ _ h2).trans (Below.heap_setCell _ _ _ _ h1)
  refine bodyPost_ret (v := .agg (R.setIfInBounds 37 (.slice A9 K'.length c9))) ?_ rfl ⟨_, K', _, rfl, HT, HK.out, ?_, ?_⟩
  · exact results_cell_row rfl _ _ (w.heap.size + 1) 75 _ (0, 0) _ rfl (setRow_heap _ _ _ _ _ _ (HR3.out.far (p := ⟨w.heap.size, 37, none⟩) (Nat.succ_ne_self _) _)) Try.underlying75 rfl (by rw [HT.size]; exact info_job)
  · have hsub : w.heap.size + 1 < W1.heap.size := HRb.out.lt
    refine ⟨own_less (own_block HO.out.own fun r hr => hoth r ?_ ?_) (by omega), fun p hp => own_less (own_block (HO.out.txs p hp) fun r hr => hoth r ?_ ?_) (by omega)⟩
    · have := (own_lt HO.out.own hr).1; omega
    · have := (own_lt HO.out.own hr).1; omega
    · have := (own_lt (HO.out.txs p hp) hr).1; omega
    · have := (own_lt (HO.out.txs p hp) hr).1; omega
  · exact below_setRow ((below_next HB.out HB3.out).setCell (p := ⟨w.heap.size, 37, none⟩) (Nat.le_refl _) _) (Nat.le_succ _) _
end Go.Proofs.Ytccpkafmbmkmfaa
namespace Go.Proofs.Ytccpkafmbmkmfaa
open Go.RowKit Go.Shelf
set_option linter.unusedVariables false
set_option linter.unusedSimpArgs false

def rightJ (j : JobM) (L : List TierV) : Bool :=
  rightP L && (!decide (j.height.toNat = 0) && (decide (-1 ≤ j.live) && (decide (j.live < (L.length : Int)) && (decide (j.mined.toNat = 0) || decide (j.live = -1)))))
set_option maxRecDepth 100000 in
set_option maxHeartbeats 1600000 in
theorem jright_any (j : JobM) (v : Value) (R : Array Value) (hR : JobVal j v R) (K : List TierK) (w : World) (S : Nat → Prop) (h : PayAt w S v K) :
    Calls Try.prog 68 #[.agg R] w fun e w' => e = .returned (.bool (rightJ j (plainT K))) ∧ Below w.heap.size w w' := by
  obtain ⟨W0, hW0⟩ : ∃ W0, w.alloc (.cells R 75) = W0 := ⟨_, rfl⟩
  have hq0 : Blk W0 w.heap.size 75 R := by rw [← hW0]; exact Blk.new w _ R
  have hb0 : Below w.heap.size w W0 := by rw [← hW0]; exact (Below.refl _ _).alloc (Nat.le_refl _) _
  have HC := hide (payright_any v K W0 S (h.below hb0))
  have HP := hide h
  obtain ⟨A, c, rfl, hc, _, _⟩ := h
  have hpl : (plainT K).length = K.length := by simp [plainT]
  have hrj : Hid (rightJ j (plainT K) = (rightP (plainT K) && (!decide (j.height.toNat = 0) && (decide (-1 ≤ j.live) && (decide (j.live < (K.length : Int)) && (decide (j.mined.toNat = 0) || decide (j.live = -1))))))) := hide (by unfold rightJ; rw [hpl])
  have x37 : W0.cell? ⟨w.heap.size, 37, none⟩ = some (.slice A K.length c) := (hq0.cell 37).trans hR.pay
  have HQ := hide hq0
  have HB := hide hb0
  have HR := hide hR
  replace hW0 := hide hW0
  obtain ⟨rp, hrp⟩ : ∃ rp, rp = rightP (plainT K) := ⟨_, rfl⟩
  rw [← hrp] at HC hrj
  clear hq0 hb0 hR hrp hpl
  generalize (plainT K) = L at *
  obtain ⟨ans, hans⟩ : ∃ ans, ans = rightJ j L := ⟨_, rfl⟩
  rw [← hans] at hrj ⊢
  clear hans
  have HX : Hid (∀ W, Below W0.heap.size W0 W → W.cell? ⟨w.heap.size, 34, none⟩ = some (c32 j.height) ∧ W.cell? ⟨w.heap.size, 35, none⟩ = some (c32 j.mined) ∧ W.cell? ⟨w.heap.size, 36, none⟩ = some (ci j.live) ∧ W.cell? ⟨w.heap.size, 37, none⟩ = some (.slice A K.length c)) := hide fun W hW => by
    have hB := HQ.out.below hW HQ.out.lt
    exact ⟨(hB.cell 34).trans HR.out.height, (hB.cell 35).trans HR.out.mined, (hB.cell 36).trans HR.out.live, (hB.cell 37).trans HR.out.pay⟩
  clear HR
  by_cases h0 : rp = false
  · subst h0
    have HF : Hid (ans = false) := hide (by rw [hrj.out]; rfl)
    go_enter Try.func68, Try.ntmps68
    go_upto_region 1 with (fail)
    rw [hW0.out]
    go_wp2_with (first
      | (go_at_call 108; (with_reducible refine HC.out.mono ?_); rintro e w3 ⟨rfl, hb3⟩; obtain ⟨y34, y35, y36, y37⟩ := HX.out w3 hb3; have HB3 := hide (below_next HB.out hb3); clear hb3)
      | fail)
    go_ret
    exact ⟨by rw [HF.out]; rfl, HB3.out⟩
  obtain rfl : rp = true := by simpa using h0
  clear h0
  by_cases h1 : j.height.toNat = 0
  · have e1 : ((j.height.toNat : Int) != 0) = false := by simp [h1]
    have HF : Hid (ans = false) := hide (by rw [hrj.out, decide_eq_true h1]; rfl)
    clear h1
    go_enter Try.func68, Try.ntmps68
    go_upto_region 1 with (fail)
    rw [hW0.out]
    go_wp2_with (first
      | (go_at_call 108; (with_reducible refine HC.out.mono ?_); rintro e w3 ⟨rfl, hb3⟩; obtain ⟨y34, y35, y36, y37⟩ := HX.out w3 hb3; have HB3 := hide (below_next HB.out hb3); clear hb3)
      | fail)
    go_ret
    exact ⟨by rw [HF.out]; rfl, HB3.out⟩
  have e1 : ((j.height.toNat : Int) != 0) = true := by simp; omega
  rw [decide_eq_false h1] at hrj
  clear h1
  by_cases h2 : ¬ -1 ≤ j.live
  · have e2 : decide (-1 ≤ j.live) = false := by simpa using h2
    have HF : Hid (ans = false) := hide (by rw [hrj.out, e2]; rfl)
    clear h2
    go_enter Try.func68, Try.ntmps68
    go_upto_region 1 with (fail)
    rw [hW0.out]
    go_wp2_with (first
      | (go_at_call 108; (with_reducible refine HC.out.mono ?_); rintro e w3 ⟨rfl, hb3⟩; obtain ⟨y34, y35, y36, y37⟩ := HX.out w3 hb3; have HB3 := hide (below_next HB.out hb3); clear hb3)
      | fail)
    go_ret
    exact ⟨by rw [HF.out]; rfl, HB3.out⟩
  replace h2 := Classical.not_not.1 h2
  have e2 : decide (-1 ≤ j.live) = true := by simpa using h2
  rw [e2] at hrj
  clear h2
  by_cases h3 : ¬ j.live < (K.length : Int)
  · have e3 : decide (j.live < (K.length : Int)) = false := by simpa using h3
    have HF : Hid (ans = false) := hide (by rw [hrj.out, e3]; rfl)
    clear h3
    go_enter Try.func68, Try.ntmps68
    go_upto_region 1 with (fail)
    rw [hW0.out]
    go_wp2_with (first
      | (go_at_call 108; (with_reducible refine HC.out.mono ?_); rintro e w3 ⟨rfl, hb3⟩; obtain ⟨y34, y35, y36, y37⟩ := HX.out w3 hb3; have HB3 := hide (below_next HB.out hb3); clear hb3)
      | fail)
    go_ret
    exact ⟨by rw [HF.out]; rfl, HB3.out⟩
  replace h3 := Classical.not_not.1 h3
  have e3 : decide (j.live < (K.length : Int)) = true := by simpa using h3
  rw [e3] at hrj
  clear h3
  by_cases h4 : j.mined.toNat = 0
  · have e4 : ((j.mined.toNat : Int) == 0) = true := by simp [h4]
    have HF : Hid (ans = true) := hide (by rw [hrj.out, decide_eq_true h4]; rfl)
    clear h4
    go_enter Try.func68, Try.ntmps68
    go_upto_region 1 with (fail)
    rw [hW0.out]
    go_wp2_with (first
      | (go_at_call 108; (with_reducible refine HC.out.mono ?_); rintro e w3 ⟨rfl, hb3⟩; obtain ⟨y34, y35, y36, y37⟩ := HX.out w3 hb3; have HB3 := hide (below_next HB.out hb3); clear hb3)
      | fail)
    go_ret
    exact ⟨by rw [HF.out]; rfl, HB3.out⟩
  have e4 : ((j.mined.toNat : Int) == 0) = false := by simp; omega
  rw [decide_eq_false h4] at hrj
  clear h4
  by_cases h5 : j.live = -1
  · have e5 : (j.live == -1) = true := by simpa using h5
    have HF : Hid (ans = true) := hide (by rw [hrj.out, decide_eq_true h5]; rfl)
    clear h5
    go_enter Try.func68, Try.ntmps68
    go_upto_region 1 with (fail)
    rw [hW0.out]
    go_wp2_with (first
      | (go_at_call 108; (with_reducible refine HC.out.mono ?_); rintro e w3 ⟨rfl, hb3⟩; obtain ⟨y34, y35, y36, y37⟩ := HX.out w3 hb3; have HB3 := hide (below_next HB.out hb3); clear hb3)
      | fail)
    go_ret
    exact ⟨by rw [HF.out]; rfl, HB3.out⟩
  have e5 : (j.live == -1) = false := by simpa using h5
  have HF : Hid (ans = false) := hide (by rw [hrj.out, decide_eq_false h5]; rfl)
  clear h5
  go_enter Try.func68, Try.ntmps68
  go_upto_region 1 with (fail)
  rw [hW0.out]
  go_wp2_with (first
    | (go_at_call 108; (with_reducible refine HC.out.mono ?_); rintro e w3 ⟨rfl, hb3⟩; obtain ⟨y34, y35, y36, y37⟩ := HX.out w3 hb3; have HB3 := hide (below_next HB.out hb3); clear hb3)
    | fail)
  go_ret
  exact ⟨by rw [HF.out]; rfl, HB3.out⟩
end Go.Proofs.Ytccpkafmbmkmfaa
namespace Go.Proofs.Ytccpkafmbmkmfaa
open Go.RowKit
set_option linter.unusedVariables false

abbrev KeyT := BitVec 32 × BitVec 32
def kf (k : KeyT) : Value := .agg #[c32 k.1, c32 k.2]
theorem kf_inj (a b : KeyT) (h : kf a = kf b) : a = b := by
  unfold kf at h
  injection h with h
  have h0 := congrArg (fun x : Array Value => x[0]?) h
  have h1 := congrArg (fun x : Array Value => x[1]?) h
  simp [c32] at h0 h1
  exact Prod.ext (BitVec.eq_of_toNat_eq (by omega)) (BitVec.eq_of_toNat_eq (by omega))
theorem laidOutJ : laidOutB Try.prog = true := by kernel_rfl
theorem key_reads (a : KeyT) : ∃ l, keyOf Try.prog 68 (kf a) = some l := by
  have hkt : Try.prog.keyType 68 = true := by kernel_rfl
  have hce : Try.prog.cellsOf 68 = 2 := by kernel_rfl
  have hc1 : Try.prog.cellsOf 22 = 1 := by kernel_rfl
  have w1 : (Lit.int .u32 (a.1.toNat : Int)).wf = true := WalkArith.wf_u32 (by have := a.1.isLt; omega)
  have w2 : (Lit.int .u32 (a.2.toNat : Int)).wf = true := WalkArith.wf_u32 (by have := a.2.isLt; omega)
  obtain ⟨m, hm⟩ : ∃ m, Try.prog.types.size = m + 1 := ⟨Try.prog.types.size - 1, by have : 0 < Try.prog.types.size := of_decide_eq_true (by kernel_rfl); omega⟩
  unfold keyOf kf
  simp only [Try.underlying68]
  rw [if_pos (by simp [hkt, Value.formed, Try.underlying68, hce]), hm]
  unfold Program.keyLits
  simp only [Try.underlying68, Value.cells]
  rw [if_pos ⟨by rw [hce]; rfl, by kernel_rfl⟩]
  simp [hc1, Program.keyLits, Try.underlying22, w1, w2]
theorem keyJ : KeyFn Try.prog 68 kf (fun _ => True) where
  keyed := Maps.Keyed.of_law (deep_law_laid (m := 4) laidOutJ (by omega) (of_decide_eq_true (by kernel_rfl)) (by kernel_rfl) (by kernel_rfl))
  reads := fun a _ => key_reads a
  inj := kf_inj
end Go.Proofs.Ytccpkafmbmkmfaa
namespace Go.Proofs.Ytccpkafmbmkmfaa
open Go.RowKit Go.Shelf
set_option linter.unusedVariables false
set_option linter.unusedSimpArgs false
attribute [local go_sem] Gives givesUpon
attribute [local irreducible] Gives

/-- an entry: where it stands, its job, what holds its tiers and their ids -/
structure EntryK where
  blk : Nat
  job : JobM
  pv : Value
  K : List TierK
  iv : Value
def entryCells (x : EntryK) : List Value := jobCells x.job x.pv ++ [x.iv]
def keyCells (M : List (KeyT × EntryK)) : List Value := M.flatMap fun p => [c32 p.1.1, c32 p.1.2]
def ptrs (M : List (KeyT × EntryK)) : List (KeyT × Value) := M.map fun p => (p.1, .pointer (some ⟨p.2.blk, 0, none⟩))
/-- a value is a slice of these ids, of blocks in S -/
def IdsAt (w : World) (S : Nat → Prop) (v : Value) (ids : List (List (BitVec 8))) : Prop := ∃ A c, v = .slice A ids.length c ∧ ReadsS w S 32 A ids.length (ids.flatten.map c8) ∧ ids.length ≤ c
/-- AN ENTRY STANDS AT ITS BLOCK; what it holds lies in blocks of F -/
structure EntIs (w : World) (F : Nat → Prop) (p : KeyT × EntryK) : Prop where
  blk : Blk w p.2.blk 130 (entryCells p.2).toArray
  len : p.2.job.breach.length = 32
  key : p.1 = (p.2.job.ses, p.2.job.seq)
  right : rightJ p.2.job (plainT p.2.K) = true
  pay : PayAt w F p.2.pv p.2.K
  ids : IdsAt w F p.2.iv (idsOf (plainT p.2.K))
/-- A TABLE: of blocks in S alone; what its entries hold lies in blocks of F -/
structure TabIs (w : World) (S F : Nat → Prop) (g b : Nat) (ov : Value) (M : List (KeyT × EntryK)) : Prop where
  head : Blk w g 99 #[.map (some b), ov]
  ord : w.ownsRow 0 68 2 ov M.length (keyCells M)
  map : MapIs w b kf (fun _ => True) (ptrs M)
  ents : ∀ p ∈ M, EntIs w F p
  sg : S g ∧ ¬ F g
  sb : S b ∧ ¬ F b
  so : ∀ r, ov.ownBlock = some r → S r ∧ ¬ F r
  se : ∀ p ∈ M, S p.2.blk ∧ ¬ F p.2.blk
  sf : ∀ i, F i → S i
  apart : ∀ p ∈ M, ∀ q ∈ M, p.1 ≠ q.1 → p.2.blk ≠ q.2.blk
/-- A TABLE OF THESE ENTRIES -/
def Tab (w : World) (S : Nat → Prop) (g b : Nat) (M : List (KeyT × EntryK)) : Prop := ∃ F ov, TabIs w S F g b ov M
section
variable {w w' : World} {S S' F F' : Nat → Prop} {g b : Nat} {ov v : Value} {M : List (KeyT × EntryK)}
theorem IdsAt.keep {ids : List (List (BitVec 8))} (h : IdsAt w F v ids) (hs : w.heap.size ≤ w'.heap.size) (hk : ∀ i, i < w.heap.size → F i → w'.heap[i]? = w.heap[i]?) : IdsAt w' F v ids := by
  obtain ⟨A, c, e, h1, h2⟩ := h; exact ⟨A, c, e, h1.keep hs hk, h2⟩
theorem IdsAt.mono {ids : List (List (BitVec 8))} (h : IdsAt w F v ids) (hS : ∀ i, i < w.heap.size → F i → F' i) : IdsAt w F' v ids := by
  obtain ⟨A, c, e, h1, h2⟩ := h; exact ⟨A, c, e, h1.mono hS, h2⟩
theorem EntIs.keep {p : KeyT × EntryK} (h : EntIs w F p) (hs : w.heap.size ≤ w'.heap.size) (hb : w'.heap[p.2.blk]? = w.heap[p.2.blk]?) (hk : ∀ i, i < w.heap.size → F i → w'.heap[i]? = w.heap[i]?) : EntIs w' F p :=
  ⟨hb.trans h.blk, h.len, h.key, h.right, h.pay.keep hs hk, h.ids.keep hs hk⟩
theorem EntIs.mono {p : KeyT × EntryK} (h : EntIs w F p) (hS : ∀ i, i < w.heap.size → F i → F' i) : EntIs w F' p := ⟨h.blk, h.len, h.key, h.right, h.pay.mono hS, h.ids.mono hS⟩
theorem TabIs.keep (h : TabIs w S F g b ov M) (hs : w.heap.size ≤ w'.heap.size) (hk : ∀ i, i < w.heap.size → S i → w'.heap[i]? = w.heap[i]?) : TabIs w' S F g b ov M :=
  ⟨(hk g h.head.lt h.sg.1).trans h.head, own_block h.ord fun r hr => hk r (own_lt h.ord hr).2 (h.so r hr).1, h.map.block (hk b h.map.lt h.sb.1), fun p hp => (h.ents p hp).keep hs (hk _ (h.ents p hp).blk.lt (h.se p hp).1) (fun i hi hf => hk i hi (h.sf i hf)), h.sg, h.sb, h.so, h.se, h.sf, h.apart⟩
theorem TabIs.below (h : TabIs w S F g b ov M) (hb : Below w.heap.size w w') : TabIs w' S F g b ov M := h.keep hb.size fun i hi _ => hb.block i hi
theorem Tab.keep (h : Tab w S g b M) (hs : w.heap.size ≤ w'.heap.size) (hk : ∀ i, i < w.heap.size → S i → w'.heap[i]? = w.heap[i]?) : Tab w' S g b M := by
  obtain ⟨F, ov, h⟩ := h; exact ⟨F, ov, h.keep hs hk⟩
theorem Tab.below (h : Tab w S g b M) (hb : Below w.heap.size w w') : Tab w' S g b M := by
  obtain ⟨F, ov, h⟩ := h; exact ⟨F, ov, h.below hb⟩
theorem Tab.lt (h : Tab w S g b M) : g < w.heap.size ∧ b < w.heap.size ∧ S g ∧ S b := by
  obtain ⟨F, ov, h⟩ := h; exact ⟨h.head.lt, h.map.lt, h.sg.1, h.sb.1⟩
theorem ptrs_keys (M : List (KeyT × EntryK)) : (ptrs M).map (·.1) = M.map (·.1) := by simp [ptrs]
theorem TabIs.keysM (h : TabIs w S F g b ov M) : MKeys M := by
  have := h.map.1
  unfold MKeys at this ⊢
  rw [ptrs_keys] at this; exact this
theorem ptrs_get (M : List (KeyT × EntryK)) (k : KeyT) : mget (ptrs M) k = (mget M k).map fun x => .pointer (some ⟨x.blk, 0, none⟩) := by
  induction M with
  | nil => rfl
  | cons p M ih =>
    unfold ptrs mget at ih ⊢
    rw [List.map_cons, List.find?_cons, List.find?_cons]
    by_cases h : p.1 = k
    · simp [h]
    · simp [h] at ih ⊢; simpa [List.find?_map] using ih
end
/-- what stands at a key, as a pointer -/
def ptrOf (o : Option EntryK) : Value := match o with | some x => .pointer (some ⟨x.blk, 0, none⟩) | none => .pointer none
theorem zero_entryp (w : World) : (zeroValue 125).run Try.prog w = .ok (.pointer none) w := by
  obtain ⟨i, hi, hz⟩ : ∃ i, Try.prog.info? 125 = some i ∧ i.zero = some (.pointer none) := by
    have h : (Try.prog.info? 125).map (·.zero) = some (some (.pointer none)) := by kernel_rfl
    simpa [Option.map_eq_some_iff] using h
  simp [zeroValue, typeInfo, hi, hz]
theorem absent_live (g b : Nat) (n : Value) (w : World) (h : Blk w g 99 #[.map (some b), n]) : Calls Try.prog 83 #[.pointer (some ⟨g, 0, none⟩)] w fun e w' => e = .returned (.bool false) ∧ w = w' := by
  have c0 : w.cell? ⟨g, 0, none⟩ = some (.map (some b)) := (h.cell 0).trans rfl
  clear h
  have HM := fun (w : World) (r : Option Nat) => run_eql_map_nil (P := Try.prog) w 97 68 125 r Try.underlying97
  go_enter Try.func83, Try.ntmps83
  go_wp2
  go_ret
  exact ⟨rfl, rfl⟩
theorem absent_blank (g : Nat) (n : Value) (w : World) (h : Blk w g 99 #[.map none, n]) : Calls Try.prog 83 #[.pointer (some ⟨g, 0, none⟩)] w fun e w' => e = .returned (.bool true) ∧ w = w' := by
  have c0 : w.cell? ⟨g, 0, none⟩ = some (.map none) := (h.cell 0).trans rfl
  clear h
  have HM := fun (w : World) (r : Option Nat) => run_eql_map_nil (P := Try.prog) w 97 68 125 r Try.underlying97
  go_enter Try.func83, Try.ntmps83
  go_wp2
  go_ret
  exact ⟨rfl, rfl⟩
theorem absent_nil (w : World) : Calls Try.prog 83 #[.pointer none] w fun e w' => e = .returned (.bool true) ∧ w = w' := by
  go_enter Try.func83, Try.ntmps83
  go_wp2
  go_ret
  exact ⟨rfl, rfl⟩
set_option maxHeartbeats 800000 in
theorem jnew_any (w : World) : Calls Try.prog 44 #[] w fun e w' => e = .returned (.pointer (some ⟨w.heap.size + 1, 0, none⟩)) ∧ Tab w' (fun i => w.heap.size ≤ i) (w.heap.size + 1) w.heap.size [] ∧ Below w.heap.size w w' := by
  have hmm := @run_makeMap Try.prog
  go_enter Try.func44, Try.ntmps44
  go_wp2
  go_ret
  refine ⟨rfl, ⟨fun _ => False, .slice none 0 0, ?_, World.ownsRow_nil _ _ _ _, (MapIs.made w kf _).alloc _, by simp, ⟨Nat.le_succ _, fun h => h⟩, ⟨Nat.le_refl _, fun h => h⟩, (fun r hr => by cases hr), by simp, (fun _ h => h.elim), by simp⟩, ((Below.refl _ _).alloc (Nat.le_refl _) _).alloc (by simp) _⟩
  have := Blk.new (w.alloc (.map #[] 0)) 99 #[.map (some w.heap.size), .slice none 0 0]
  rwa [World.size_alloc] at this
set_option maxRecDepth 100000 in
set_option maxHeartbeats 800000 in
theorem jat_live (w : World) (S : Nat → Prop) (g b : Nat) (M : List (KeyT × EntryK)) (k : KeyT) (h : Tab w S g b M) :
    Calls Try.prog 86 #[.pointer (some ⟨g, 0, none⟩), kf k] w fun e w' => e = .returned (ptrOf (mget M k)) ∧ Below w.heap.size w w' := by
  obtain ⟨F, ov, h⟩ := h
  obtain ⟨W0, hW0⟩ : ∃ W0, W0 = w.alloc (.cells #[c32 k.1, c32 k.2] 68) := ⟨_, rfl⟩
  have hb0 : Below w.heap.size w W0 := by rw [hW0]; exact (Below.refl _ _).alloc (Nat.le_refl _) _
  have hq0 : Blk W0 w.heap.size 68 #[c32 k.1, c32 k.2] := by rw [hW0]; exact Blk.new w _ _
  have h0 := h.below hb0
  have HN := hide (absent_live g b ov W0 h0.head)
  have FC : Hid (∀ W, Below W0.heap.size W0 W → W.cell? ⟨g, 0, none⟩ = some (.map (some b))) := hide fun W hW => ((h0.below hW).head.cell 0).trans rfl
  have FK : Hid (∀ W, Below W0.heap.size W0 W → W.cell? ⟨w.heap.size, 0, none⟩ = some (c32 k.1) ∧ W.cell? ⟨w.heap.size, 1, none⟩ = some (c32 k.2)) := hide fun W hW =>
    ⟨((hq0.below hW hq0.lt).cell 0).trans rfl, ((hq0.below hW hq0.lt).cell 1).trans rfl⟩
  obtain ⟨pv, hpv⟩ : ∃ pv, pv = ptrOf (mget M k) := ⟨_, rfl⟩
  have FL : Hid (∀ W, Below W0.heap.size W0 W → (Instr.lookup 97 (.map (some b)) (.agg #[c32 k.1, c32 k.2]) false).run Try.prog W = .ok pv W) := hide fun W hW => by
    have := (h0.below hW).map.lookup keyJ Try.underlying97 (a := k) trivial false (zero_entryp W)
    rw [ptrs_get] at this
    rw [hpv]
    refine this.trans ?_
    cases mget M k <;> rfl
  have HB := hide hb0
  rw [← hpv]
  clear hq0 h0 hb0 h hpv
  unfold kf
  go_enter Try.func86, Try.ntmps86
  go_upto_region 1 with (fail)
  rw [← hW0]
  clear hW0
  go_wp2_with (first
    | (go_at_call 83; (with_reducible refine HN.out.mono ?_); rintro e w0 ⟨rfl, rfl⟩)
    | fail)
  apply wp_region_rel (C := fun W' => Below W0.heap.size W0 W') (M := fun W W' => Below W.heap.size W W') (ss := [_, _, _, _, _, _, _]) (by kernel_rfl) (by kernel_rfl) (by kernel_rfl) (Below.refl _ _).drew
  repeat (first
    | (apply relWalk_const (fun W => Below.refl _ _)
       · (intro W9 hC hF
          clear hF
          have c0 := FC.out W9 hC
          obtain ⟨q0, q1⟩ := FK.out W9 hC
          have fl := FL.out W9 hC
          clear hC
          go_simp
          with_reducible exact rfl)
       (try simp only [Act.put, List.setIfInBounds_toArray, List.set_cons_zero, List.set_cons_succ])))
  refine relWalk_nil fun W9 hC hF => ?_
  clear hF
  go_wp2
  go_ret
  exact ⟨rfl, below_next HB.out hC⟩
end Go.Proofs.Ytccpkafmbmkmfaa
namespace Go.Proofs.Ytccpkafmbmkmfaa
open Go.RowKit Go.Shelf
set_option linter.unusedVariables false
set_option linter.unusedSimpArgs false

theorem entry_split (x : EntryK) : entryCells x = ([c32 x.job.ses, c32 x.job.seq] ++ x.job.breach.map c8) ++ [c32 x.job.height, c32 x.job.mined, ci x.job.live, x.pv, x.iv] := by simp [entryCells, jobCells, jobHead]
theorem entry_mined {x : EntryK} (h : x.job.breach.length = 32) (m : BitVec 32) : (entryCells x).toArray.setIfInBounds 35 (c32 m) = (entryCells { x with job := { x.job with mined := m } }).toArray := by
  rw [List.setIfInBounds_toArray, entry_split, entry_split, List.set_append_right _ _ (by simp [h])]
  simp [h]
theorem entry_live {x : EntryK} (h : x.job.breach.length = 32) (l : Int) : (entryCells x).toArray.setIfInBounds 36 (ci l) = (entryCells { x with job := { x.job with live := l } }).toArray := by
  rw [List.setIfInBounds_toArray, entry_split, entry_split, List.set_append_right _ _ (by simp [h])]
  simp [h]
theorem entry_get {x : EntryK} (h : x.job.breach.length = 32) : (entryCells x).toArray[34]? = some (c32 x.job.height) ∧ (entryCells x).toArray[35]? = some (c32 x.job.mined) ∧ (entryCells x).toArray[36]? = some (ci x.job.live) ∧ (entryCells x).toArray[37]? = some x.pv ∧ (entryCells x).toArray[38]? = some x.iv := by
  rw [entry_split]
  simp only [List.getElem?_toArray]
  refine ⟨?_, ?_, ?_, ?_, ?_⟩ <;> (rw [List.getElem?_append_right (by simp [h])]; simp [h])
theorem mput_some {M : List (KeyT × EntryK)} {k : KeyT} {x : EntryK} (hx : mget M k = some x) (x' : EntryK) : mput M k x' = M.map (fun p => if p.1 = k then (k, x') else p) := by
  unfold mput; rw [hx]; rfl
theorem mput_ptrs {M : List (KeyT × EntryK)} (hk : MKeys M) {k : KeyT} {x : EntryK} (hx : mget M k = some x) {x' : EntryK} (hb : x'.blk = x.blk) : ptrs (mput M k x') = ptrs M := by
  rw [mput_some hx]
  unfold ptrs
  rw [List.map_map]
  refine List.map_congr_left fun p hp => ?_
  simp only [Function.comp]
  split
  · rename_i e
    have : mget M k = some p.2 := mget_mem hk (by rw [← e]; exact hp)
    rw [hx] at this
    injection this with this
    rw [hb, this, e]
  · rfl
theorem mput_keyCells {M : List (KeyT × EntryK)} {k : KeyT} {x : EntryK} (hx : mget M k = some x) (x' : EntryK) : keyCells (mput M k x') = keyCells M ∧ (mput M k x').length = M.length := by
  rw [mput_some hx]
  refine ⟨?_, by simp⟩
  unfold keyCells
  rw [List.flatMap_map]
  congr 1
  funext p
  split
  · rename_i e; rw [e]
  · rfl
/-- an entry's job turns, all else stands -/
theorem TabIs.upd {w w' : World} {S F : Nat → Prop} {g b : Nat} {ov : Value} {M : List (KeyT × EntryK)} (h : TabIs w S F g b ov M) {k : KeyT} {x : EntryK} (hx : mget M k = some x) (j' : JobM) (hl : j'.breach.length = 32) (hkey : k = (j'.ses, j'.seq)) (hr : rightJ j' (plainT x.K) = true)
    (hB : Blk w' x.blk 130 (entryCells { x with job := j' }).toArray) (hs : w.heap.size ≤ w'.heap.size) (hoth : ∀ i, i < w.heap.size → i ≠ x.blk → w'.heap[i]? = w.heap[i]?) : TabIs w' S F g b ov (mput M k { x with job := j' }) := by
  have hm : (k, x) ∈ M := mget_some hx
  have hE := h.ents _ hm
  have hf : ∀ i, i < w.heap.size → F i → w'.heap[i]? = w.heap[i]? := fun i hi hf => hoth i hi (fun e => (h.se _ hm).2 (e ▸ hf))
  obtain ⟨e1, e2⟩ := mput_keyCells hx { x with job := j' }
  have hpe : ∀ p, p ∈ mput M k { x with job := j' } → p = (k, { x with job := j' }) ∨ (p ∈ M ∧ p.1 ≠ k) := fun p hp => mem_mput.1 hp
  refine ⟨(hoth g h.head.lt (fun e => hE.blk.ne_ h.head (by decide) e.symm)).trans h.head, ?_, ?_, fun p hp => ?_, h.sg, h.sb, h.so, fun p hp => ?_, h.sf, fun p hp q hq hpq => ?_⟩
  · rw [e1, e2]
    exact own_block h.ord fun r hr => hoth r (own_lt h.ord hr).2 (fun e => own_blk_ne h.ord hE.blk (by decide) (by rw [hr, e]))
  · rw [mput_ptrs h.keysM hx (x' := { x with job := j' }) rfl]
    exact h.map.block (hoth b h.map.lt (h.map.ne_blk hE.blk))
  · rcases hpe p hp with rfl | ⟨hp, hne⟩
    · exact ⟨hB, hl, hkey, hr, hE.pay.keep hs hf, hE.ids.keep hs hf⟩
    · exact (h.ents p hp).keep hs (hoth _ (h.ents p hp).blk.lt (h.apart p hp _ hm hne)) hf
  · rcases hpe p hp with rfl | ⟨hp, _⟩
    · exact h.se (k, x) hm
    · exact h.se p hp
  · rcases hpe p hp with rfl | ⟨hp, hpk⟩ <;> rcases hpe q hq with rfl | ⟨hq, hqk⟩
    · exact absurd rfl hpq
    · exact h.apart (k, x) hm q hq hpq
    · exact h.apart p hp (k, x) hm hpq
    · exact h.apart p hp q hq hpq
theorem ptrOf_none : ptrOf none = .pointer none := rfl
set_option maxRecDepth 100000 in
theorem jmark_none (w : World) (S : Nat → Prop) (g b : Nat) (M : List (KeyT × EntryK)) (k : KeyT) (m : BitVec 32) (h : Tab w S g b M) (hn : mget M k = none) :
    Calls Try.prog 53 #[.pointer (some ⟨g, 0, none⟩), kf k, .int .u32 (m.toNat : Int)] w fun e w' => e = .returned (.bool false) ∧ Below w.heap.size w w' := by
  obtain ⟨W0, hW0⟩ : ∃ W0, W0 = w.alloc (.cells #[c32 k.1, c32 k.2] 68) := ⟨_, rfl⟩
  have hb0 : Below w.heap.size w W0 := by rw [hW0]; exact (Below.refl _ _).alloc (Nat.le_refl _) _
  have hq0 : Blk W0 w.heap.size 68 #[c32 k.1, c32 k.2] := by rw [hW0]; exact Blk.new w _ _
  have q0 : W0.cell? ⟨w.heap.size, 0, none⟩ = some (c32 k.1) := (hq0.cell 0).trans rfl
  have q1 : W0.cell? ⟨w.heap.size, 1, none⟩ = some (c32 k.2) := (hq0.cell 1).trans rfl
  have HA := hide (jat_live W0 S g b M k (h.below hb0))
  rw [hn] at HA
  have HB := hide hb0
  clear hq0 hb0 h hn
  unfold kf at HA ⊢
  go_enter Try.func53, Try.ntmps53
  go_upto_region 1 with (fail)
  rw [← hW0]
  clear hW0
  go_wp2_with (first
    | (go_at_call 86; (with_reducible refine HA.out.mono ?_); rintro e w1 ⟨rfl, hb1⟩; rw [ptrOf_none]; have HB1 := hide (below_next HB.out hb1); clear hb1)
    | fail)
  go_ret
  exact ⟨rfl, HB1.out⟩
/-- what a Mark leaves -/
def markedJ (j : JobM) (m : BitVec 32) : JobM := { j with mined := m, live := -1 }
theorem right_marked {j : JobM} {L : List TierV} (h : rightJ j L = true) (m : BitVec 32) : rightJ (markedJ j m) L = true := by
  unfold rightJ at h ⊢
  simp only [Bool.and_eq_true, Bool.or_eq_true, decide_eq_true_eq] at h ⊢
  obtain ⟨h1, h2, h3, h4, _⟩ := h
  exact ⟨h1, h2, by simp [markedJ], by simp [markedJ]; omega, .inr rfl⟩
set_option maxRecDepth 100000 in
set_option maxHeartbeats 800000 in
theorem jmark_some (w : World) (S : Nat → Prop) (g b : Nat) (M : List (KeyT × EntryK)) (k : KeyT) (m : BitVec 32) (x : EntryK) (h : Tab w S g b M) (hx : mget M k = some x) :
    Calls Try.prog 53 #[.pointer (some ⟨g, 0, none⟩), kf k, .int .u32 (m.toNat : Int)] w fun e w' => e = .returned (.bool true) ∧ Tab w' S g b (mput M k { x with job := markedJ x.job m }) ∧ Touch S w w' := by
  obtain ⟨W0, hW0⟩ : ∃ W0, W0 = w.alloc (.cells #[c32 k.1, c32 k.2] 68) := ⟨_, rfl⟩
  have hb0 : Below w.heap.size w W0 := by rw [hW0]; exact (Below.refl _ _).alloc (Nat.le_refl _) _
  have hq0 : Blk W0 w.heap.size 68 #[c32 k.1, c32 k.2] := by rw [hW0]; exact Blk.new w _ _
  have q0 : W0.cell? ⟨w.heap.size, 0, none⟩ = some (c32 k.1) := (hq0.cell 0).trans rfl
  have q1 : W0.cell? ⟨w.heap.size, 1, none⟩ = some (c32 k.2) := (hq0.cell 1).trans rfl
  have HA := hide (jat_live W0 S g b M k (h.below hb0))
  rw [hx] at HA
  have HB := hide hb0
  have HX := hide hx
  obtain ⟨F, ov, h⟩ := h
  have HT := hide h
  have hm : (k, x) ∈ M := mget_some hx
  have HSe := hide (h.se _ hm)
  have HE0 := hide (h.ents _ hm)
  clear hq0 hb0 hx hm h
  unfold kf at HA ⊢
  go_enter Try.func53, Try.ntmps53
  go_upto_region 1 with (fail)
  rw [← hW0]
  clear hW0
  go_wp2_with (first
    | (go_at_call 86; (with_reducible refine HA.out.mono ?_); rintro e w1 ⟨rfl, hb1⟩; rw [show ptrOf (some x) = .pointer (some ⟨x.blk, 0, none⟩) from rfl]; have HB1 := hide (below_next HB.out hb1); have HBk := hide (HE0.out.blk.below HB1.out HE0.out.blk.lt); obtain ⟨g34, g35, g36, g37, g38⟩ := entry_get HE0.out.len; have y35 : w1.cell? ⟨x.blk, 35, none⟩ = some (c32 x.job.mined) := (HBk.out.cell 35).trans g35; have y36 : w1.cell? ⟨x.blk, 36, none⟩ = some (ci x.job.live) := (HBk.out.cell 36).trans g36; have f35 : w1.frozen? ⟨x.blk, 35, none⟩ = false := HBk.out.frozen 35; have f36 : w1.frozen? ⟨x.blk, 36, none⟩ = false := HBk.out.frozen 36; clear hb1 g34 g35 g36 g37 g38)
    | fail)
  go_ret
  refine ⟨rfl, ⟨F, ov, (HT.out.below HB1.out).upd HX.out (markedJ x.job m) HE0.out.len HE0.out.key (right_marked HE0.out.right m) ?_ (by simp) (fun i hi hne => (Below.heap_setCell _ _ _ _ hne).trans (Below.heap_setCell _ _ _ _ hne))⟩,
    ((Touch.of_below HB1.out).setCell (p := ⟨x.blk, 35, none⟩) HSe.out.1 _).setCell (p := ⟨x.blk, 36, none⟩) HSe.out.1 _⟩
  have := (HBk.out.set_ 35 (c32 m)).set_ 36 (ci (-1))
  rw [entry_mined HE0.out.len, entry_live (x := { x with job := { x.job with mined := m } }) HE0.out.len] at this
  exact this
end Go.Proofs.Ytccpkafmbmkmfaa
namespace Go.Proofs.Ytccpkafmbmkmfaa
open Go.RowKit Go.Shelf
set_option linter.unusedVariables false
set_option linter.unusedSimpArgs false

theorem results_cell_row_tmp {P : Program} {fn : Func} {p u : Tmp} {ty : TypeId} (h : fn.results = #[.cell p ty, .tmp u]) (tmps : Array Value) (w : World) (g : Nat) (t : TypeId) (cs : Array Value) (fr : Nat × Nat) (d : TypeDesc)
    (hp : tmps.getD p undef = .pointer (some ⟨g, 0, none⟩)) (hg : w.heap[g]? = some (.cells cs t fr))
    (hu : P.underlying ty = some d) (hd : (match d with | .struct _ | .array _ _ => true | _ => false) = true) (hi : (P.info? ty).map (·.size) = some cs.size) :
    (results fn tmps).run P w = .ok (.tuple #[.agg cs, tmps.getD u undef]) w := by
  rw [results_cell_tmp h, hp]
  simp [asAddr, run_loadVar_row w g t ty cs fr d hg hu hd hi, Result.andThen]
/-- a job that may be is not too much -/
theorem stepR_len : ∀ (L : List TierV) (o : Option (BitVec 32)), stepR o L = true → ∀ p ∈ L, p.2.length ≤ 64
  | [], _, _, p, hp => by cases hp
  | q :: L, o, h, p, hp => by
    simp only [stepR, Bool.and_eq_true, decide_eq_true_eq] at h
    rcases List.mem_cons.1 hp with rfl | hp
    · exact h.1.1.2
    · exact stepR_len L _ h.2 p hp
theorem modest_right {j : JobM} {K : List TierK} (h : rightJ j (plainT K) = true) : Modest K := by
  unfold rightJ rightP at h
  simp only [Bool.and_eq_true, decide_eq_true_eq] at h
  obtain ⟨⟨⟨_, h8⟩, hs⟩, _⟩ := h
  have hl : (plainT K).length = K.length := by simp [plainT]
  refine ⟨by omega, fun p hp => ?_⟩
  have := stepR_len _ _ hs (p.1, p.2.2) (List.mem_map.2 ⟨p, hp, rfl⟩)
  dsimp only at this
  omega
theorem OwnPay.less' {w0 w1 w : World} {v : Value} {K : List TierK} (h : OwnPay w1 w v K) (hs : w0.heap.size ≤ w1.heap.size) : OwnPay w0 w v K := ⟨own_less h.own hs, fun p hp => own_less (h.txs p hp) hs⟩
set_option maxRecDepth 100000 in
set_option maxHeartbeats 800000 in
theorem jget_some (w : World) (S : Nat → Prop) (g b : Nat) (M : List (KeyT × EntryK)) (k : KeyT) (x : EntryK) (h : Tab w S g b M) (hx : mget M k = some x) :
    Calls Try.prog 46 #[.pointer (some ⟨g, 0, none⟩), kf k] w fun e w' => ∃ v' K' R', e = .returned (.tuple #[.agg R', .bool true]) ∧ JobVal x.job v' R' ∧ plainT K' = plainT x.K ∧ OwnPay w w' v' K' ∧ Below w.heap.size w w' := by
  obtain ⟨Z, hZ, hZs⟩ := zero_job
  have HZ := hide hZ
  have HZs := hide hZs
  obtain ⟨W0, hW0⟩ : ∃ W0, W0 = w.alloc (.cells #[c32 k.1, c32 k.2] 68) := ⟨_, rfl⟩
  have hs0 : W0.heap.size = w.heap.size + 1 := by rw [hW0]; simp
  obtain ⟨W1, hW1⟩ : ∃ W1, W1 = W0.alloc (.cells Z 75) := ⟨_, rfl⟩
  have hb0 : Below w.heap.size w W1 := by rw [hW1, hW0]; exact ((Below.refl _ _).alloc (Nat.le_refl _) _).alloc (by simp) _
  have hq0 : Blk W1 w.heap.size 68 #[c32 k.1, c32 k.2] := by rw [hW1, hW0]; exact (Blk.new w _ _).alloc _
  have hr0 : Blk W1 (w.heap.size + 1) 75 Z := by rw [hW1, ← hs0]; exact Blk.new W0 _ _
  have q0 : W1.cell? ⟨w.heap.size, 0, none⟩ = some (c32 k.1) := (hq0.cell 0).trans rfl
  have q1 : W1.cell? ⟨w.heap.size, 1, none⟩ = some (c32 k.2) := (hq0.cell 1).trans rfl
  have HA := hide (jat_live W1 S g b M k (h.below hb0))
  rw [hx] at HA
  have HB := hide hb0
  have HR0 := hide hr0
  obtain ⟨F, ov, h⟩ := h
  have hm : (k, x) ∈ M := mget_some hx
  have HE0 := hide (h.ents _ hm)
  have HS0 := hide hs0
  obtain ⟨A, c, hv, _⟩ := HE0.out.pay
  obtain ⟨R, hR⟩ := jobVal (j := x.job) HE0.out.len (v := x.pv) (by rw [show x.pv = .slice A x.K.length c from hv]; rfl)
  have HR := hide hR
  have HRl : Hid (R = (jobCells x.job x.pv).toArray) := hide hR.val
  clear hq0 hr0 hb0 hx hm h hs0 hZ hZs hR hv
  replace hW0 := hide hW0.symm
  replace hW1 := hide hW1.symm
  unfold kf at HA ⊢
  go_enter Try.func46, Try.ntmps46
  go_wp2_with (first
    | (rw [hW0.out]; refine wpList_alloc_is rfl 75 rfl Z HZ.out ?_; rw [hW1.out, HS0.out])
    | (go_at_call 86; (with_reducible refine HA.out.mono ?_); rintro e w1 ⟨rfl, hb1⟩; rw [show ptrOf (some x) = .pointer (some ⟨x.blk, 0, none⟩) from rfl]; have HB1 := hide (below_next HB.out hb1); have HBk := hide (HE0.out.blk.below HB1.out HE0.out.blk.lt); have HR1 := hide (HR0.out.below hb1 HR0.out.lt); have HO := hide (own_any x.job HE0.out.len x.pv R HR.out x.K w1 F (HE0.out.pay.below HB1.out) (modest_right HE0.out.right)); clear hb1)
    | ((with_reducible show wpList _ _ _ (⟨_, .load 75 _, _, _, _, _⟩ :: _) _ _); refine wpList_load_at rfl 75 _ rfl ⟨x.blk, 0, none⟩ rfl (jobCells x.job x.pv) _ Try.underlying75 rfl (by rw [show (jobCells x.job x.pv).length = 38 by simp [jobCells, jobHead, HE0.out.len]]; exact info_job) (fun i u hu => by rw [Addr.add_lit, Nat.zero_add, HBk.out.cell, List.getElem?_toArray]; unfold entryCells; rw [List.getElem?_append_left (List.getElem?_eq_some_iff.1 hu).1]; exact hu) ?_; rw [← HRl.out])
    | (go_at_call 84; (with_reducible refine HO.out.mono ?_); rintro e w3 ⟨v', K', R', rfl, hJV, hK, ho, hb3⟩; have HJV := hide hJV; have HK := hide hK; have HO3 := hide ho; have HB3 := hide hb3; have HR3 := hide (HR1.out.below hb3 HR1.out.lt); clear hJV hK ho hb3)
    | ((with_reducible show wpList _ _ _ (⟨_, .store 75 _ _, _, _, _, _⟩ :: _) _ _); refine wpList_store_row rfl 75 _ _ rfl (w.heap.size + 1) rfl R' rfl 75 _ HR3.out (by rw [HJV.out.size]; exact info_job) (by rw [HJV.out.size]; exact HZs.out) HJV.out.one ?_)
    | fail)
  have hw1 : w.heap.size + 1 < w1.heap.size := HR1.out.lt
  have hoth : ∀ i, w1.heap.size ≤ i → i < w3.heap.size → (w3.setRow (w.heap.size + 1) R').heap[i]? = w3.heap[i]? := fun i h1 _ => setRow_other _ _ _ _ (by omega)
  refine bodyPost_ret (v := .tuple #[.agg R', .bool true]) ?_ rfl ⟨v', K', R', rfl, HJV.out, HK.out, (HO3.out.keep hoth).less' (by omega), below_setRow (below_next HB1.out HB3.out) (by omega) _⟩
  refine Eq.trans (results_cell_row_tmp rfl _ _ (w.heap.size + 1) 75 R' (0, 0) _ rfl (setRow_heap _ _ _ _ _ _ HR3.out) Try.underlying75 rfl (by rw [HJV.out.size]; exact info_job)) rfl
end Go.Proofs.Ytccpkafmbmkmfaa
namespace Go.Proofs.Ytccpkafmbmkmfaa
open Go.RowKit Go.Shelf
set_option linter.unusedVariables false
set_option linter.unusedSimpArgs false

set_option maxRecDepth 100000 in
set_option maxHeartbeats 800000 in
theorem jlive_mined (w : World) (S : Nat → Prop) (g b : Nat) (M : List (KeyT × EntryK)) (k : KeyT) (t : Int) (x : EntryK) (h : Tab w S g b M) (hx : mget M k = some x) (hm : x.job.mined.toNat ≠ 0) :
    Calls Try.prog 50 #[.pointer (some ⟨g, 0, none⟩), kf k, .int .i64 t] w fun e w' => e = .returned (.bool false) ∧ Below w.heap.size w w' := by
  obtain ⟨W0, hW0⟩ : ∃ W0, W0 = w.alloc (.cells #[c32 k.1, c32 k.2] 68) := ⟨_, rfl⟩
  have hb0 : Below w.heap.size w W0 := by rw [hW0]; exact (Below.refl _ _).alloc (Nat.le_refl _) _
  have hq0 : Blk W0 w.heap.size 68 #[c32 k.1, c32 k.2] := by rw [hW0]; exact Blk.new w _ _
  have q0 : W0.cell? ⟨w.heap.size, 0, none⟩ = some (c32 k.1) := (hq0.cell 0).trans rfl
  have q1 : W0.cell? ⟨w.heap.size, 1, none⟩ = some (c32 k.2) := (hq0.cell 1).trans rfl
  have HA := hide (jat_live W0 S g b M k (h.below hb0))
  rw [hx] at HA
  have HB := hide hb0
  obtain ⟨F, ov, h⟩ := h
  have HE0 := hide (h.ents _ (mget_some hx))
  have e1 : ((x.job.mined.toNat : Int) != 0) = true := by simp; omega
  clear hq0 hb0 hx h hm
  unfold kf at HA ⊢
  go_enter Try.func50, Try.ntmps50
  go_upto_region 1 with (fail)
  rw [← hW0]
  clear hW0
  go_wp2_with (first
    | (go_at_call 86; (with_reducible refine HA.out.mono ?_); rintro e w1 ⟨rfl, hb1⟩; rw [show ptrOf (some x) = .pointer (some ⟨x.blk, 0, none⟩) from rfl]; have HB1 := hide (below_next HB.out hb1); have HBk := hide (HE0.out.blk.below HB1.out HE0.out.blk.lt); have y35 : w1.cell? ⟨x.blk, 35, none⟩ = some (c32 x.job.mined) := (HBk.out.cell 35).trans (entry_get HE0.out.len).2.1; clear hb1)
    | fail)
  go_ret
  exact ⟨rfl, HB1.out⟩
end Go.Proofs.Ytccpkafmbmkmfaa
