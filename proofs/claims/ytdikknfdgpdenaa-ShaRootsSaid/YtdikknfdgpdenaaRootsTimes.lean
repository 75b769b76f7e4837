/- Chapter 02's reference: numbers by digits of 16 bits. Condition: at most 100 digits. -/
import Derived.Test.YtdikknfdgpdenaaRootsPrime
import Derived.Test.YtdikknfdgpdenaaRelStage
namespace Go.Proofs.Ytdikknfdgpdenaa
open Go.RowKit
set_option linter.unusedVariables false
set_option linter.unusedSimpArgs false
attribute [local go_sem] Gives givesUpon
attribute [local irreducible] Gives

abbrev cu (x : Nat) : Value := .int .u64 (x : Int)
theorem info_u64 : (Try.prog.info? 48).map (fun i => (i.zero, i.size, i.bytes)) = some (some (.int .u64 0), 1, 8) := by kernel_rfl
theorem made_u64 (n : Nat) (hn : n ≤ 1099511627776) (w : World) : (Instr.makeSlice 92 (.int .i64 (n : Int)) (.int .i64 (n : Int))).run Try.prog w = .ok (.slice (some ⟨w.heap.size, 0, none⟩) n n) (w.alloc (.cells (List.replicate n (cu 0)).toArray 48)) := by
  obtain ⟨i0, hi, hz0, hz1, hz2⟩ := info_parts info_u64
  have := run_make (P := Try.prog) w 92 48 i0 (.int .u64 0) Try.underlying92 hi hz0 .i64 .i64 n n (by omega) (by omega) (by rw [hz2]; omega) (by omega)
  rw [hz1] at this
  rw [this]
  congr 4
  rw [madeCells]
  apply Array.ext
  · simp
  · intro i h1 h2
    simp [Value.cells, Nat.mod_one]
theorem Blk.rowu {w : World} {g : Nat} {t : TypeId} {l : List Nat} (h : Blk w g t (l.map cu).toArray) : Reads w w.heap.size 1 (some ⟨g, 0, none⟩) l.length (l.map cu) := by
  have := reads_row h
  simpa using this
/-- digits, of a number -/
def DigitsOf (w : World) (A : Option Addr) (n : Nat) (l : List Nat) (v : Nat) : Prop := Reads w w.heap.size 1 A n (l.map cu) ∧ l.length = n ∧ (∀ d ∈ l, d < 65536) ∧ valOf l = v
theorem DigitsOf.later {w w' : World} {A : Option Addr} {n v : Nat} {l : List Nat} (h : DigitsOf w A n l v) (hb : Below w.heap.size w w') : DigitsOf w' A n l v := ⟨h.1.later hb, h.2⟩
set_option maxRecDepth 100000 in
theorem digits_any (n : Nat) (hn : n < 281474976710656) (w : World) : Calls Try.prog 70 #[.int .u64 (n : Int)] w fun e w' => ∃ A c l, e = .returned (.slice A 3 c) ∧ DigitsOf w' A 3 l n ∧ Below w.heap.size w w' := by
  obtain ⟨a, ha⟩ : ∃ a, a = n % 65536 := ⟨_, rfl⟩
  obtain ⟨b, hb⟩ : ∃ b, b = n / 65536 := ⟨_, rfl⟩
  obtain ⟨c, hc⟩ : ∃ c, c = b % 65536 := ⟨_, rfl⟩
  obtain ⟨d, hd⟩ : ∃ d, d = b / 65536 := ⟨_, rfl⟩
  have e1 : (n : Int) % 65536 = (a : Int) := by omega
  have e2 : (n : Int) / 65536 = (b : Int) := by omega
  have e3 : (b : Int) % 65536 = (c : Int) := by omega
  have e4 : (b : Int) / 65536 = (d : Int) := by omega
  have hn1 : (n : Int) < 281474976710656 := by omega
  have HV : Hid (valOf [a, c, d] = n ∧ ∀ x ∈ [a, c, d], x < 65536) := hide (by
    refine ⟨by simp [valOf]; omega, fun x hx => ?_⟩
    simp at hx
    rcases hx with rfl | rfl | rfl <;> omega)
  have HB := hide (Blk.new w 48 ([a, c, d].map cu).toArray)
  have HL := hide ((Below.refl w.heap.size w).alloc (Nat.le_refl _) (.cells ([a, c, d].map cu).toArray 48))
  clear ha hb hc hd
  go_enter Try.func70, Try.ntmps70
  go_wp2
  go_ret
  exact ⟨_, _, [a, c, d], rfl, ⟨HB.out.rowu, rfl, HV.out.2, HV.out.1⟩, HL.out⟩
def TimesI (w : World) (g : Nat) (o : List Nat) (W : World) : Prop := Below w.heap.size w W ∧ Blk W g 48 (o.map cu).toArray
theorem digit_at (o : List Nat) (p : Nat) (hp : p < o.length) : (o.map cu).toArray[p]? = some (cu (o.getD p 0)) := by
  rw [List.getElem?_toArray, List.getElem?_map, List.getElem?_eq_getElem hp]
  simp [List.getD, hp]
theorem digit_lt {o : List Nat} (h : ∀ d ∈ o, d < 65536) (p : Nat) : o.getD p 0 < 65536 := by
  simp only [List.getD]
  cases hp : o[p]? with
  | none => simp
  | some d => exact h d (List.mem_of_getElem? hp)
theorem digit_set {o : List Nat} (h : ∀ d ∈ o, d < 65536) (p r : Nat) (hr : r < 65536) : ∀ d ∈ o.set p r, d < 65536 := fun d hd => by
  rcases List.mem_or_eq_of_mem_set hd with h1 | h1
  · exact h d h1
  · omega
theorem zero_set {o : List Nat} {b : Nat} (h : ∀ j, b ≤ j → o.getD j 0 = 0) (p r b' : Nat) (hb : b ≤ b') (hp : p < b') : ∀ j, b' ≤ j → (o.set p r).getD j 0 = 0 := fun j hj => by
  simp only [List.getD, List.getElem?_set_ne (show p ≠ j by omega)]
  exact h j (by omega)
theorem Blk.setu {w : World} {g p r : Nat} {t : TypeId} {o : List Nat} (h : Blk w g t (o.map cu).toArray) : Blk (w.setCell ⟨g, p, none⟩ (cu r)) g t ((o.set p r).map cu).toArray := by
  have := h.set_ p (cu r)
  rw [List.setIfInBounds_toArray, ← List.map_set] at this
  exact this
theorem reads_digit {w : World} {A : Option Addr} {n : Nat} {l : List Nat} (h : Reads w w.heap.size 1 A n (l.map cu)) {k : Nat} (hk : k < l.length) : ∃ g off, A = some ⟨g, off, none⟩ ∧ g < w.heap.size ∧ w.cell? ⟨g, off + k, none⟩ = some (cu (l.getD k 0)) := by
  have hn : l.length = n := h.len
  obtain ⟨g, off, rfl, hg⟩ := h.addr' (by omega)
  obtain ⟨ad, e, _, hc⟩ := h.get hk
  cases e
  rw [Addr.add_lit] at hc
  exact ⟨g, off, rfl, hg, by rw [hc]; simp [List.getD, hk]⟩
set_option maxRecDepth 100000 in
set_option maxHeartbeats 1600000 in
theorem times_any (A1 : Option Addr) (n1 c1 : Nat) (l1 : List Nat) (v1 : Nat) (A2 : Option Addr) (n2 c2 : Nat) (l2 : List Nat) (v2 : Nat) (w : World) (h1 : DigitsOf w A1 n1 l1 v1) (h2 : DigitsOf w A2 n2 l2 v2) (hn1 : n1 ≤ 100) (hn2 : n2 ≤ 100) :
    Calls Try.prog 71 #[.slice A1 n1 c1, .slice A2 n2 c2] w fun e w' => ∃ A c l, e = .returned (.slice A (n1 + n2) c) ∧ DigitsOf w' A (n1 + n2) l (v1 * v2) ∧ Below w.heap.size w w' := by
  obtain ⟨r1, len1, d1, hv1⟩ := h1
  obtain ⟨r2, len2, d2, hv2⟩ := h2
  obtain ⟨m, hm⟩ : ∃ m, m = n1 + n2 := ⟨_, rfl⟩
  have em : (n1 : Int) + (n2 : Int) = (m : Int) := by omega
  have hm2 : m ≤ 200 := by omega
  obtain ⟨Z, hZ⟩ : ∃ Z, Z = (List.replicate m (cu 0)).toArray := ⟨_, rfl⟩
  have hmk : ∀ w, (Instr.makeSlice 92 (.int .i64 (m : Int)) (.int .i64 (m : Int))).run Try.prog w = .ok (.slice (some ⟨w.heap.size, 0, none⟩) m m) (w.alloc (.cells Z 48)) := fun w => by rw [hZ]; exact made_u64 m (by omega) w
  have HB0 := hide ((Below.refl w.heap.size w).alloc (Nat.le_refl _) (.cells Z 48))
  have HQ0 : Hid (Blk (w.alloc (.cells Z 48)) w.heap.size 48 ((List.replicate m 0).map cu).toArray) := hide (by
    have h := Blk.new w 48 Z
    rw [hZ] at h ⊢
    rw [List.map_replicate]; exact h)
  have HM := hide hm
  have R1 := hide r1
  have R2 := hide r2
  have L1 := hide len1
  have L2 := hide len2
  have D1 := hide d1
  have D2 := hide d2
  have V12 : Hid (valOf l1 * valOf l2 = v1 * v2) := hide (by rw [hv1, hv2])
  clear hZ hm r1 r2 len1 len2 d1 d2 hv1 hv2
  go_enter Try.func71, Try.ntmps71
  go_wp2
  clear hmk em
  go_loopw [6] (fun y wr => ∃ (i : Nat) (o : List Nat), i ≤ n1 ∧ y = .int .i64 (i : Int) ∧ Hid (Blk wr w.heap.size 48 (o.map cu).toArray) ∧ Hid (o.length = m) ∧ Hid (∀ d ∈ o, d < 65536) ∧ Hid (∀ j, i + n2 ≤ j → o.getD j 0 = 0) ∧ Hid (valOf o = valOf (l1.take i) * valOf l2) ∧ Hid (Below w.heap.size w wr)) (fun y _ => n1 - (intOf y).toNat)
  case atStart => exact ⟨0, List.replicate m 0, by omega, rfl, HQ0, hide (by simp), hide (fun d hd => by rw [List.eq_of_mem_replicate hd]; omega), hide (fun j _ => by simp [List.getD, List.getElem?_replicate]; split <;> rfl), hide (by rw [valOf_zeros]; simp [valOf]), HB0⟩
  case round =>
    obtain ⟨i, o, hi, rfl, HQ, HOL, HOD, HOZ, HOV, HB⟩ := hrel
    clear HQ0 HB0
    obtain ⟨wz, rfl⟩ : ∃ wz : World, wz = wr := ⟨_, rfl⟩
    by_cases hlt : i < n1
    · have hd : decide ((i : Int) < (n1 : Int)) = true := by simp; omega
      obtain ⟨x, hx⟩ : ∃ x, x = l1.getD i 0 := ⟨_, rfl⟩
      have hi0 : (0 : Int) ≤ (i : Int) := by omega
      have hi1 : (i : Int) < (n1 : Int) := by omega
      have hx65 : x < 65536 := by rw [hx]; simp only [List.getD, List.getElem?_eq_getElem (show i < l1.length by rw [L1.out]; exact hlt), Option.getD_some]; exact D1.out _ (List.getElem_mem _)
      obtain ⟨V0, hV0⟩ : ∃ V0, V0 = valOf o := ⟨_, rfl⟩
      replace hV0 := hide hV0
      have HX := hide hx
      clear hx
      go_wp2
      go_loopw [7, 8] (fun x' y wr => ∃ (k c : Nat) (o : List Nat), k ≤ n2 ∧ c < 65536 ∧ x' = .int .u64 (c : Int) ∧ y = .int .i64 (k : Int) ∧ Hid (Blk wr w.heap.size 48 (o.map cu).toArray) ∧ Hid (o.length = m) ∧ Hid (∀ d ∈ o, d < 65536) ∧ Hid (∀ j, i + n2 ≤ j → o.getD j 0 = 0) ∧ Hid (valOf o + 65536 ^ (i + k) * c = V0 + 65536 ^ i * (x * valOf (l2.take k))) ∧ Hid (Below w.heap.size w wr)) (fun _ y _ => n2 - (intOf y).toNat)
      case atStart => exact ⟨0, 0, o, by omega, by omega, rfl, rfl, HQ, HOL, HOD, HOZ, hide (by rw [hV0.out]; simp [valOf]), HB⟩
      case round =>
        obtain ⟨k, c, o2, hk, hc65, rfl, rfl, HQ2, HOL2, HOD2, HOZ2, HOV2, HB2⟩ := hrel
        clear HQ HOL HOD HOZ HB
        by_cases hlt2 : k < n2
        · have hd2 : decide ((k : Int) < (n2 : Int)) = true := by simp; omega
          obtain ⟨p, hp⟩ : ∃ p, p = i + k := ⟨_, rfl⟩
          have eik : (i : Int) + (k : Int) = (p : Int) := by omega
          have eikw := IntWalk.i64_in (p : Int) (by omega)
          have hMM := HM.out
          have hp0 : (0 : Int) ≤ (p : Int) := by omega
          have hp1 : (p : Int) < (m : Int) := by omega
          have hk0 : (0 : Int) ≤ (k : Int) := by omega
          have hk1 : (k : Int) < (n2 : Int) := by omega
          obtain ⟨g1, f1, rfl, hg1, hc1⟩ := reads_digit R1.out (k := i) (by rw [L1.out]; exact hlt)
          obtain ⟨g2, f2, rfl, hg2, hc2⟩ := reads_digit R2.out (k := k) (by rw [L2.out]; exact hlt2)
          rw [← HX.out] at hc1
          have hy65 := digit_lt D2.out k
          have hv65 := digit_lt HOD2.out p
          obtain ⟨y, hy⟩ : ∃ y, y = l2.getD k 0 := ⟨_, rfl⟩
          obtain ⟨v, hv⟩ : ∃ v, v = o2.getD p 0 := ⟨_, rfl⟩
          rw [← hy] at hc2 hy65
          rw [← hv] at hv65
          have HC3 : Hid (∀ W, Blk W w.heap.size 48 (o2.map cu).toArray → W.cell? ⟨w.heap.size, p, none⟩ = some (cu v)) := hide (fun W h => by rw [hv]; exact (h.cell p).trans (digit_at o2 p (by rw [HOL2.out]; omega)))
          have htb := times_bound hv65 hx65 hy65 hc65
          obtain ⟨s, hs⟩ : ∃ s, s = x * y := ⟨_, rfl⟩
          have hsb : s < 4294967296 := by rw [hs]; omega
          have es : (x : Int) * (y : Int) = (s : Int) := by rw [hs]; simp
          have esw := u64_in (s : Int) (by omega)
          obtain ⟨os, hos⟩ : ∃ os, os = v + s := ⟨_, rfl⟩
          have eos : (v : Int) + (s : Int) = (os : Int) := by omega
          have eosw := u64_in (os : Int) (by omega)
          obtain ⟨t, ht⟩ : ∃ t, t = os + c := ⟨_, rfl⟩
          have et : (os : Int) + (c : Int) = (t : Int) := by omega
          have htt : t < 4294967296 := by rw [ht, hos, hs]; exact htb
          have etw := u64_in (t : Int) (by omega)
          obtain ⟨r, hr⟩ : ∃ r, r = t % 65536 := ⟨_, rfl⟩
          obtain ⟨q, hq⟩ : ∃ q, q = t / 65536 := ⟨_, rfl⟩
          have er : (t : Int) % 65536 = (r : Int) := by omega
          have eq : (t : Int) / 65536 = (q : Int) := by omega
          have hr65 : r < 65536 := by omega
          have hq65 : q < 65536 := by omega
          have HNX : Hid (valOf (o2.set p r) + 65536 ^ (i + (k + 1)) * q = V0 + 65536 ^ i * (x * valOf (l2.take (k + 1)))) := hide (by
            rw [hq, hr, hp]
            refine times_round o2 _ l2 i k x c t V0 (by rw [L2.out]; exact hlt2) (by rw [HOL2.out]; omega) ?_ rfl HOV2.out
            rw [ht, hos, hs, hv, hy, hp])
          have HP := hide hp
          replace hc1 := hide hc1
          replace hc2 := hide hc2
          clear hy hv hs hos ht hr hq htb hp hMM HOV2
          go_wp2_with fail
          apply wp_region_stage (hv := []) (I := TimesI w w.heap.size o2) (C := fun W => True) (ss := [_, _, _, _, _, _, _, _, _, _, _, _, _, _, _, _, _, _, _]) (by kernel_rfl) (by kernel_rfl) (by kernel_rfl) (by kernel_rfl) ⟨HB2.out.drew, HQ2.out.drew⟩ trivial
          repeat (first
            | (apply stWalk_light
               · rfl
               · (intro W hI
                  have q1 := (hI.1.cell (p := ⟨g1, f1 + i, none⟩) hg1).trans hc1.out
                  have q2 := (hI.1.cell (p := ⟨g2, f2 + k, none⟩) hg2).trans hc2.out
                  have q3 := HC3.out W hI.2
                  go_simp
                  with_reducible exact rfl)
               (try simp only [Act.put, List.setIfInBounds_toArray, List.set_cons_zero, List.set_cons_succ])))
          refine stWalk_nil ?_
          intro W2 hI hC
          have HB3 := hide hI.1
          have HQ3 := hide hI.2
          have q3 := HC3.out W2 hI.2
          have f3 := HQ3.out.frozen p
          clear hI hC HB2 HQ2
          go_wp2_with fail
          go_roundw
          case rel => exact ⟨k + 1, q, o2.set p r, hlt2, hq65, rfl, int_succ k, hide (HQ3.out.setu), hide (by rw [List.length_set]; exact HOL2.out), hide (digit_set HOD2.out p r hr65), hide (zero_set HOZ2.out p r _ (Nat.le_refl _) (by have := HP.out; omega)), HNX, hide (HB3.out.setCell (p := ⟨w.heap.size, p, none⟩) (Nat.le_refl _) _)⟩
          case measure => simp [intOf]; omega
        · obtain rfl : k = n2 := by omega
          have hd2 : decide ((k : Int) < (k : Int)) = false := by simp
          obtain ⟨p, hp⟩ : ∃ p, p = i + k := ⟨_, rfl⟩
          have eik : (i : Int) + (k : Int) = (p : Int) := by omega
          have hMM := HM.out
          have hp0 : (0 : Int) ≤ (p : Int) := by omega
          have hp1 : (p : Int) < (m : Int) := by omega
          have HEND : Hid (valOf (o2.set p c) = valOf (l1.take (i + 1)) * valOf l2) := hide (by
            rw [hp]
            have hV := hV0.out
            rw [HOV.out] at hV
            have h := HOV2.out
            rw [hV, HX.out] at h
            have e2 : k = l2.length := L2.out.symm
            refine times_end o2 _ l1 l2 i c (by rw [L1.out]; exact hlt) (by rw [HOL2.out, ← e2]; omega) (by rw [← e2]) (HOZ2.out _ (by omega)) ?_
            rw [← e2]; exact h)
          have q3 : wr.cell? ⟨w.heap.size, p, none⟩ = some (cu (o2.getD p 0)) := (HQ2.out.cell p).trans (digit_at o2 p (by rw [HOL2.out]; omega))
          have f3 := HQ2.out.frozen p
          have HP := hide hp
          clear hp hMM
          go_wp2_with fail
          go_roundw
          case rel => exact ⟨i + 1, o2.set p c, hlt, int_succ i, hide (HQ2.out.setu), hide (by rw [List.length_set]; exact HOL2.out), hide (digit_set HOD2.out p c hc65), hide (zero_set HOZ2.out p c _ (by omega) (by have := HP.out; omega)), HEND, hide (HB2.out.setCell (p := ⟨w.heap.size, p, none⟩) (Nat.le_refl _) _)⟩
          case measure => simp [intOf]; omega
    · obtain rfl : i = n1 := by omega
      have hd : decide ((i : Int) < (i : Int)) = false := by simp
      have hRow := HQ.out.rowu
      rw [HOL.out] at hRow
      have hV := HOV.out
      rw [List.take_of_length_le (Nat.le_of_eq L1.out), V12.out] at hV
      replace hV := hide hV
      replace hRow := hide hRow
      go_wp2
      go_ret
      exact ⟨_, m, o, by rw [← HM.out]; rfl, ⟨by rw [← HM.out]; exact hRow.out, by rw [← HM.out]; exact HOL.out, HOD.out, hV.out⟩, HB.out⟩
end Go.Proofs.Ytdikknfdgpdenaa
