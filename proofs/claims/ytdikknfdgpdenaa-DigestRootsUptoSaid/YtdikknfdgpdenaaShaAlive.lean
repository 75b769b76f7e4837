/- Chapter 02's example. No condition. -/
import Derived.Test.YtdikknfdgpdenaaShaRefSum
import Derived.Test.YtdikknfdgpdenaaShaJoin
import Derived.Lib.SlBytesConst
import Derived.Test.YtdikknfdgpdenaaIdEq
namespace Go.Proofs.Ytdikknfdgpdenaa
open Go.RowKit
set_option linter.unusedVariables false
set_option linter.unusedSimpArgs false

set_option maxRecDepth 100000 in
theorem sha_abc : (shaOf [97#8, 98#8, 99#8]).getD 0 0 = 186#8 ∧ (shaOf [97#8, 98#8, 99#8]).getD 1 0 = 120#8 ∧ (shaOf [97#8, 98#8, 99#8]).getD 31 0 = 173#8 := by decide +kernel
theorem row8_get {w : World} {g : Nat} {t : TypeId} {l : List (BitVec 8)} (h : Blk w g t (l.map c8).toArray) (k : Nat) (hk : k < l.length) : w.cell? ⟨g, k, none⟩ = some (c8 (l.getD k 0)) := by
  refine (h.cell k).trans ?_
  rw [List.getElem?_toArray, List.getElem?_map, List.getElem?_eq_getElem hk]
  simp [List.getD, hk]
theorem reads_row {w : World} {g : Nat} {t : TypeId} {cs : Array Value} {fz : Nat × Nat} (h : w.heap[g]? = some (.cells cs t fz)) : Reads w w.heap.size 1 (some ⟨g, 0, none⟩) cs.size cs.toList :=
  ⟨by simp, fun _ => ⟨_, rfl, (Array.getElem?_eq_some_iff.1 h).1, fun j u hu => by
    rw [Addr.add_lit, Nat.zero_add, cell_of_row w g j cs t fz h]
    simpa using hu⟩⟩
set_option maxRecDepth 100000 in
set_option maxHeartbeats 800000 in
theorem alive02_any (w : World) : Calls Try.prog 32 #[] w fun e w' => e = .returned (.bool true) ∧ Below w.heap.size w w' := by
  obtain ⟨Z, hZ, hZr⟩ := zero_id
  have f1 := Go.Lib.run_convert_bytes_const (P := Try.prog) w 29 5 #[.int .u8 97] 1 1 Try.underlying29 Try.underlying5
  have f2 : (convert 29 29 (.slice (some ⟨w.heap.size + 1, 0, none⟩) 2 2)).run Try.prog ((w.alloc (.cells #[.int .u8 97] 5 (1, 2))).alloc (.cells #[.int .u8 98, .int .u8 99] 5)) = .ok (.slice (some ⟨w.heap.size + 1, 0, none⟩) 2 2) ((w.alloc (.cells #[.int .u8 97] 5 (1, 2))).alloc (.cells #[.int .u8 98, .int .u8 99] 5 (2, 3))) := by
    have h := Go.Lib.run_convert_bytes_const (P := Try.prog) (w.alloc (.cells #[.int .u8 97] 5 (1, 2))) 29 5 #[.int .u8 98, .int .u8 99] 2 2 Try.underlying29 Try.underlying5
    rw [show (w.alloc (.cells #[.int .u8 97] 5 (1, 2))).heap.size = w.heap.size + 1 by simp] at h
    exact h
  obtain ⟨V, hV⟩ : ∃ V, ((w.alloc (.cells #[.int .u8 97] 5 (1, 2))).alloc (.cells #[.int .u8 98, .int .u8 99] 5 (2, 3))).alloc (.cells #[.slice (some ⟨w.heap.size, 0, none⟩) 1 1, .slice (some ⟨w.heap.size + 1, 0, none⟩) 2 2] 29) = V := ⟨_, rfl⟩
  have v1 : V.heap[w.heap.size]? = some (.cells #[.int .u8 97] 5 (1, 2)) := by rw [← hV]; show (((w.heap.push _).push _).push _)[_]? = _; simp only [Array.getElem?_push, Array.size_push]; rw [if_neg (by omega), if_neg (by omega)]; simp only [if_true]
  have v2 : V.heap[w.heap.size + 1]? = some (.cells #[.int .u8 98, .int .u8 99] 5 (2, 3)) := by rw [← hV]; show (((w.heap.push _).push _).push _)[_]? = _; simp only [Array.getElem?_push, Array.size_push]; rw [if_neg (by omega)]; simp only [if_true]
  have v3 : V.heap[w.heap.size + 2]? = some (.cells #[.slice (some ⟨w.heap.size, 0, none⟩) 1 1, .slice (some ⟨w.heap.size + 1, 0, none⟩) 2 2] 29) := by
    have hz : w.heap.size + 2 = ((w.heap.push (.cells #[.int .u8 97] 5 (1, 2))).push (.cells #[.int .u8 98, .int .u8 99] 5 (2, 3))).size := by simp only [Array.size_push]
    rw [← hV]
    show (((w.heap.push _).push _).push _)[_]? = _
    rw [hz]
    exact Array.getElem?_push_size
  have hVB : Below w.heap.size w V := by rw [← hV]; exact (((Below.refl _ w).alloc (Nat.le_refl _) _).alloc (by simp) _).alloc (by simp; omega) _
  obtain ⟨S, hS⟩ : ∃ S, S = shaOf [97#8, 98#8, 99#8] := ⟨_, rfl⟩
  have hSl : S.length = 32 := by rw [hS]; exact shaOf_len _
  obtain ⟨s0, s1, s31⟩ := sha_abc
  rw [← hS] at s0 s1 s31
  have r1 : Reads V V.heap.size 1 (some ⟨w.heap.size, 0, none⟩) 1 ([97#8].map c8) := reads_row v1
  have r2 : Reads V V.heap.size 1 (some ⟨w.heap.size + 1, 0, none⟩) 2 ([98#8, 99#8].map c8) := reads_row v2
  have r3 : Reads V V.heap.size 1 (some ⟨w.heap.size + 2, 0, none⟩) 2 [.slice (some ⟨w.heap.size, 0, none⟩) 1 1, .slice (some ⟨w.heap.size + 1, 0, none⟩) 2 2] := reads_row v3
  have rs : Rows8 V V.heap.size [.slice (some ⟨w.heap.size, 0, none⟩) 1 1, .slice (some ⟨w.heap.size + 1, 0, none⟩) 2 2] [[97#8], [98#8, 99#8]] := by
    refine ⟨rfl, fun i v p hv hp => ?_⟩
    match i with
    | 0 => cases hv; cases hp; exact ⟨_, _, _, rfl, r1, Nat.le_refl _⟩
    | 1 => cases hv; cases hp; exact ⟨_, _, _, rfl, r2, Nat.le_refl _⟩
    | _ + 2 => simp at hv
  have CS : Hid (Calls Try.prog 39 #[.slice (some ⟨w.heap.size + 2, 0, none⟩) 2 2] V fun e w' => e = .returned (.agg (S.map c8).toArray) ∧ Below V.heap.size V w') := hide (by have h := shasum_any _ _ 2 _ _ V r3 rs (by omega) (by decide); rw [show ([[97#8], [98#8, 99#8]] : List (List (BitVec 8))).flatten = [97#8, 98#8, 99#8] from rfl, ← hS] at h; exact h)
  have C0 : Hid (∀ w, Calls Try.prog 39 #[.slice none 0 0] w fun e w' => e = .returned (.agg ((shaOf []).map c8).toArray) ∧ Below w.heap.size w w') := hide (fun w => by have h := shasum_any none 0 0 [] [] w Reads.none_ ⟨rfl, fun i v p hv => by simp at hv⟩ (by omega) (by decide); rw [List.flatten_nil] at h; exact h)
  have CR : Hid (∀ w, Calls Try.prog 36 #[.slice none 0 0] w fun e w' => e = .returned (.agg ((shaOf []).map c8).toArray) ∧ Below w.heap.size w w') := hide (fun w => refsum_any none 0 0 [] w Reads.none_ (by omega))
  obtain ⟨R, hR⟩ : ∃ R, R = (S.map c8).toArray := ⟨_, rfl⟩
  have HRz : Hid (R.size = 32) := hide (by rw [hR]; simp [hSl])
  have HRi : Hid ((Try.prog.info? 44).map (·.size) = some R.size) := hide (by rw [HRz.out]; exact info_id)
  have HRo : Hid (R.all (·.oneCell') = true) := hide (by rw [hR]; exact oneCell_bytes _)
  have HZR : Hid (Z.size = R.size) := hide (by rw [HRz.out, hZr]; rfl)
  have HG : Hid (∀ (W : World) (g : Nat), Blk W g 44 R → W.cell? ⟨g, 0, none⟩ = some (.int .u8 186) ∧ W.cell? ⟨g, 1, none⟩ = some (.int .u8 120) ∧ W.cell? ⟨g, 31, none⟩ = some (.int .u8 173)) := hide (fun W g h => by
    rw [hR] at h
    refine ⟨?_, ?_, ?_⟩
    · rw [row8_get h 0 (by omega), s0]; rfl
    · rw [row8_get h 1 (by omega), s1]; rfl
    · rw [row8_get h 31 (by omega), s31]; rfl)
  rw [← hR] at CS
  obtain ⟨E, hE⟩ : ∃ E, E = ((shaOf []).map c8).toArray := ⟨_, rfl⟩
  rw [← hE] at C0 CR
  have hee : ∀ w : World, (Op.equalIn 10000 44 (.agg E) (.agg E)).run Try.prog w = .ok true w := fun w => by
    have h := eq_id (shaOf []) (shaOf []) (shaOf_len _) (shaOf_len _) w
    rw [← hE] at h; rw [h]; simp
  have HE : Hid (E.size = 32) := hide (by rw [hE]; simp [shaOf_len])
  replace hV := hide hV
  replace hVB := hide hVB
  replace hZ := hide hZ
  clear hR hE hS hSl s0 s1 s31 r1 r2 r3 rs v1 v2 v3 hZr
  go_enter Try.func32, Try.ntmps32
  go_wp2_with (first
    | (rw [hV.out]; go_at_call 39; refine CS.out.mono ?_; rintro e w1 ⟨rfl, hb1⟩; have B1 := hide (below_next hVB.out hb1); have BX := hide (below_setRow (B1.out.alloc B1.out.size (.cells Z 44)) B1.out.size R); have Q1 := hide (Blk.new w1 44 Z); have Q2 := hide (Q1.out.setRow_ R); have cc := HG.out _ _ Q2.out; obtain ⟨c0, c1, c31⟩ := cc; clear hb1)
    | (go_at_call 39; refine (C0.out _).mono ?_; rintro e w2 ⟨rfl, hb2⟩; have B2 := hide (below_next BX.out hb2); clear hb2)
    | (go_at_call 36; refine (CR.out _).mono ?_; rintro e w3 ⟨rfl, hb3⟩; have B3 := hide (below_next B2.out hb3); clear hb3)
    | ((with_reducible show wpList _ _ _ (⟨_, .alloc _, _, _, _, _⟩ :: _) _ _); refine wpList_alloc_is rfl 44 rfl Z hZ.out ?_)
    | ((with_reducible show wpList _ _ _ (⟨_, .store _ _ _, _, _, _, _⟩ :: _) _ _); refine wpList_store_row rfl 44 _ _ rfl w1.heap.size rfl R rfl 44 _ Q1.out HRi.out HZR.out HRo.out ?_))
  go_ret
  exact ⟨rfl, B3.out⟩
end Go.Proofs.Ytdikknfdgpdenaa
