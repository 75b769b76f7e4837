/- Package sha's Sum: the hash of parts. Condition: at most 1099511627000 bytes in all. -/
import Derived.Test.YtccpkafmbmkmfaaHashSum
import Derived.Test.YtccpkafmbmkmfaaRows8
namespace Go.Proofs.Ytccpkafmbmkmfaa
open Go.RowKit Go.Shelf
set_option linter.unusedVariables false
set_option linter.unusedSimpArgs false

set_option maxRecDepth 100000 in
set_option maxHeartbeats 400000 in
theorem shasum_any (A : Option Addr) (n c : Nat) (vs : List Value) (ps : List (List (BitVec 8))) (w : World) (hr : Reads w w.heap.size 1 A n vs) (hrs : Rows8 w w.heap.size vs ps) (hn : n ≤ 1099511627776) (hb : ps.flatten.length ≤ 1099511627000) :
    Calls Try.prog 121 #[.slice A n c] w fun e w' => e = .returned (.agg ((shaOf ps.flatten).map c8).toArray) ∧ Below w.heap.size w w' := by
  have hvl : vs.length = n := by have := hr.1; omega
  have hpl : ps.length = n := by have := hrs.1; omega
  obtain ⟨Z, hZ, hZr⟩ := zero_id
  obtain ⟨W0, hW0⟩ : ∃ W0, w.alloc (.cells Z 70) = W0 := ⟨_, rfl⟩
  have q1 : Blk W0 w.heap.size 70 Z := by rw [← hW0]; exact Blk.new w _ Z
  have hB0 : Below w.heap.size w W0 := by rw [← hW0]; exact (Below.refl _ w).alloc (Nat.le_refl _) _
  have hsz : W0.heap.size = w.heap.size + 1 := by rw [← hW0]; simp
  have HZ32 : Hid (Z.size = 32) := hide (by rw [hZr]; rfl)
  have HV := hide hvl
  have HP := hide hpl
  have HR := hide hr
  have HRS := hide hrs
  replace hZ := hide hZ
  replace hW0 := hide hW0
  replace q1 := hide q1
  replace hB0 := hide hB0
  clear hZr hvl hpl hr hrs
  go_enter Try.func121, Try.ntmps121
  go_wp2_with (first
    | (refine wpList_alloc_is rfl 70 rfl Z hZ.out ?_)
    | (rw [hW0.out]; go_at_call 126; refine (newhash_any _).mono ?_; rintro e w1 ⟨g', rfl, hg', hh1, hb1⟩; rw [hsz] at hg'; have HH1 := hide hh1; have HB1 := hide (hB0.out.trans (hb1.mono (by omega))); have Q1 := hide (q1.out.below hb1 (by omega)); clear hh1 hb1))
  go_loopw [9] (fun i wr => ∃ k : Nat, k ≤ n ∧ i = .int .i64 (k : Int) ∧ Hid (HashIs wr g' (ps.take k).flatten) ∧ Hid (Below w.heap.size w wr) ∧ Hid (Blk wr w.heap.size 70 Z)) (fun i _ => n - (intOf i).toNat)
  case atStart => exact ⟨0, by omega, rfl, HH1, HB1, Q1⟩
  case round =>
    obtain ⟨k, hk, rfl, HH, HB, HQ⟩ := hrel
    clear HH1 HB1 Q1
    by_cases hlt : k < n
    · have hd : decide ((k : Int) < (n : Int)) = true := by simp; omega
      have hkp : k < ps.length := by rw [HP.out]; exact hlt
      have hRw := HR.out.below HB.out
      obtain ⟨bA, oA, rfl, hbA⟩ := hRw.addr' (by omega)
      obtain ⟨Ak, m, ck, hcell, hrk, hmk⟩ := rows_at hRw (HRS.out.below HB.out) hkp
      have hgrow := HB.out.size
      have HRK := hide (hrk.more hgrow)
      have hAk : Hid (∀ ad, Ak = some ad → 0 < m → ad.block < w.heap.size) := hide (fun ad e hm => by
        obtain ⟨ad', e', hb', _⟩ := hrk.2 hm
        rw [e] at e'; cases e'; exact hb')
      have hlen := flatten_take_len ps k hkp
      have hml : ps[k].length = m := hrk.len
      have HN := hide (flatten_take ps k hkp)
      have HB64 : Hid ((ps.take k).flatten.length + m ≤ 1099511627776) := hide (by omega)
      have hk0 : (0 : Int) ≤ (k : Int) := by omega
      have hk1 : (k : Int) < (n : Int) := by omega
      generalize hPk : ps[k] = P at *
      clear hlen hml hrk hRw hkp hPk
      go_wp2_with (go_at_call 127; refine (write_any g' Ak m ck _ P wr HH.out HRK.out (fun hm ad e => by have := hAk.out ad e hm; omega) HB64.out).mono ?_; rintro e w3 ⟨rfl, hh3, gb3⟩; have HH3 := hide hh3; have HB3 := hide (HB.out.grown gb3 hgrow (fun q e => by cases e; omega)); have HQ3 := hide (HQ.out.grown gb3 (by intro e; cases e; omega)); clear hh3 gb3)
      go_roundw
      case rel => exact ⟨k + 1, hlt, int_succ k, by rw [HN.out]; exact HH3, HB3, HQ3⟩
      case measure => simp [intOf]; omega
    · obtain rfl : k = n := by omega
      have hd : decide ((k : Int) < (k : Int)) = false := by simp
      have HF : Hid ((ps.take k).flatten = ps.flatten) := hide (by rw [List.take_of_length_le (Nat.le_of_eq HP.out)])
      rw [HF.out] at HH
      obtain ⟨WL, hWL⟩ : ∃ WL, WL = ((shaOf ps.flatten).map c8).toArray := ⟨_, rfl⟩
      have hWLl : WL.size = 32 := by rw [hWL, List.size_toArray, List.length_map, shaOf_len]
      have HI : Hid ((Try.prog.info? 70).map (·.size) = some WL.size) := hide (by rw [hWLl]; exact info_id)
      have HWO : Hid (WL.all (·.oneCell') = true) := hide (by rw [hWL]; exact oneCell_bytes _)
      have HZs : Hid (Z.size = WL.size) := hide (by rw [HZ32.out, hWLl])
      have HC : Hid (Calls Try.prog 128 #[.pointer (some ⟨g', 0, none⟩)] wr fun e w' => e = .returned (.agg WL) ∧ Below wr.heap.size wr w') := hide (by rw [hWL]; exact hashsum_any g' _ wr HH.out hb)
      replace hWL := hide hWL
      have hgrow := HB.out.size
      have hwlt := HQ.out.lt
      clear hWLl hk hlt
      go_wp2_with (first
        | (go_at_call 128; refine HC.out.mono ?_; rintro e w5 ⟨rfl, hb5⟩; have HB5 := hide (HB.out.trans (hb5.mono hgrow)); have HQ5 := hide (HQ.out.below hb5 hwlt); clear hb5)
        | ((with_reducible show wpList _ _ _ (⟨_, .store _ _ _, _, _, _, _⟩ :: _) _ _); refine wpList_store_row rfl 70 _ _ rfl w.heap.size rfl WL rfl 70 _ HQ5.out HI.out HZs.out HWO.out ?_))
      refine bodyPost_ret (v := .agg WL) ?_ rfl ⟨by rw [hWL.out], ?_⟩
      · exact results_cell_row rfl _ _ w.heap.size 70 WL (0, 0) _ rfl (setRow_heap _ _ _ _ _ _ HQ5.out) Try.underlying70 rfl HI.out
      · exact below_setRow HB5.out (Nat.le_refl _) _
end Go.Proofs.Ytccpkafmbmkmfaa
