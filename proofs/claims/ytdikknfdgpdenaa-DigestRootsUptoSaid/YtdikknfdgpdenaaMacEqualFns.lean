/- Package mac's Equal and Check, and chapter 03's Same. Condition: of at most 2^30 bytes. -/
import Derived.Test.YtdikknfdgpdenaaMacRef
import Derived.WideShapes
namespace Go.Proofs.Ytdikknfdgpdenaa
open Go.RowKit
set_option linter.unusedVariables false
set_option linter.unusedSimpArgs false
attribute [local go_sem] Gives givesUpon
attribute [local irreducible] Gives

theorem or_xor_zero (o x y : BitVec 8) : o ||| (x ^^^ y) = 0#8 ↔ o = 0#8 ∧ x = y := by
  rw [BitVec.or_eq_zero_iff]
  constructor
  · rintro ⟨h1, h2⟩
    refine ⟨h1, ?_⟩
    have := congrArg (· ^^^ y) h2
    simpa [BitVec.xor_assoc] using this
  · rintro ⟨h1, rfl⟩
    exact ⟨h1, BitVec.xor_self⟩
theorem take_eq_succ (a b : List (BitVec 8)) (k : Nat) (ha : k < a.length) (hb : k < b.length) : a.take (k + 1) = b.take (k + 1) ↔ a.take k = b.take k ∧ a[k] = b[k] := by
  rw [List.take_succ_eq_append_getElem ha, List.take_succ_eq_append_getElem hb]
  constructor
  · intro h
    have h1 := List.append_inj h (by simp; omega)
    exact ⟨h1.1, by simpa using h1.2⟩
  · rintro ⟨h1, h2⟩; rw [h1, h2]
theorem zero_u8 (o : BitVec 8) : ((o.toNat : Int) == 0) = decide (o = 0#8) := by
  rw [Bool.eq_iff_iff, beq_iff_eq, decide_eq_true_eq, ← BitVec.toNat_inj]
  simp
set_option maxRecDepth 100000 in
set_option maxHeartbeats 1600000 in
theorem equal_any (A : Option Addr) (n c : Nat) (a : List (BitVec 8)) (A1 : Option Addr) (n1 c1 : Nat) (b : List (BitVec 8)) (w : World) (hr : Reads w w.heap.size 1 A n (a.map c8)) (hr1 : Reads w w.heap.size 1 A1 n1 (b.map c8)) (hn : n ≤ 9223372036854775807) (hn1 : n1 ≤ 9223372036854775807) :
    Calls Try.prog 50 #[.slice A n c, .slice A1 n1 c1] w fun e w' => e = .returned (.bool (decide (a = b))) ∧ Below w.heap.size w w' := by
  have hl : a.length = n := hr.len
  have hl1 : b.length = n1 := hr1.len
  by_cases hnn : n = n1
  · subst hnn
    have HL := hide hl
    have HL1 := hide hl1
    have HR := hide hr
    have HR1 := hide hr1
    clear hl hl1 hr hr1
    go_enter Try.func50, Try.ntmps50
    go_wp2
    go_loopw [5, 14] (fun v i wr => ∃ (k : Nat) (o : BitVec 8), k ≤ n ∧ i = .int .i64 (k : Int) ∧ v = .int .u8 (o.toNat : Int) ∧ Hid (o = 0#8 ↔ a.take k = b.take k) ∧ Hid (Below w.heap.size w wr)) (fun _ i _ => n - (intOf i).toNat)
    case atStart => exact ⟨0, 0#8, by omega, rfl, rfl, hide (by simp), hide (Below.refl _ _)⟩
    case round =>
      obtain ⟨k, o, hk, rfl, rfl, ho, hB⟩ := hrel
      by_cases hlt : k < n
      · have hd : decide ((k : Int) < (n : Int)) = true := by simp; omega
        obtain ⟨g, off, rfl, hg⟩ := HR.out.addr' (by omega)
        obtain ⟨g1, off1, rfl, hg1⟩ := HR1.out.addr' (by omega)
        obtain ⟨x, hxx⟩ : ∃ x, x = a[k]'(by rw [HL.out]; exact hlt) := ⟨_, rfl⟩
        obtain ⟨y, hyy⟩ : ∃ y, y = b[k]'(by rw [HL1.out]; exact hlt) := ⟨_, rfl⟩
        have hc0 : w.cell? ⟨g, off + k, none⟩ = some (c8 x) := by
          obtain ⟨ad, e, _, hc⟩ := HR.out.get (k := k) (by rw [HL.out]; exact hlt)
          cases e; rw [Addr.add_lit] at hc; rw [hc, hxx]
        have hc1 : w.cell? ⟨g1, off1 + k, none⟩ = some (c8 y) := by
          obtain ⟨ad, e, _, hc⟩ := HR1.out.get (k := k) (by rw [HL1.out]; exact hlt)
          cases e; rw [Addr.add_lit] at hc; rw [hc, hyy]
        obtain ⟨z, hzz⟩ : ∃ z, z = x ^^^ y := ⟨_, rfl⟩
        obtain ⟨q, hqq⟩ : ∃ q, q = o ||| z := ⟨_, rfl⟩
        have HN : Hid (q = 0#8 ↔ a.take (k + 1) = b.take (k + 1)) := hide (by rw [hqq, hzz, or_xor_zero, take_eq_succ a b k (by rw [HL.out]; exact hlt) (by rw [HL1.out]; exact hlt), ho.out, hxx, hyy])
        have hx := xor_u8 x y
        rw [← hzz] at hx
        have hz := or_u8 o z
        rw [← hqq] at hz
        have hk0 : (0 : Int) ≤ (k : Int) := by omega
        have hk1 : (k : Int) < (n : Int) := by omega
        replace hc0 := hide hc0
        replace hc1 := hide hc1
        clear hxx hyy ho hzz hqq
        go_wp2_with fail
        apply wp_region_stage (hv := []) (I := fun W => Below w.heap.size w W) (C := fun W => True) (ss := [_, _, _, _, _, _, _, _, _, _, _, _]) (by kernel_rfl) (by kernel_rfl) (by kernel_rfl) (by kernel_rfl) hB.out.drew trivial
        repeat (first
          | (apply stWalk_light
             · rfl
             · (intro W hI
                have q0 := (hI.cell (p := ⟨g, off + k, none⟩) hg).trans hc0.out
                have q1 := (hI.cell (p := ⟨g1, off1 + k, none⟩) hg1).trans hc1.out
                go_simp
                with_reducible exact rfl)
             (try simp only [Act.put, List.setIfInBounds_toArray, List.set_cons_zero, List.set_cons_succ])))
        refine stWalk_nil ?_
        intro W2 hI hC
        have HB2 := hide hI
        clear hI hC
        go_wp2_with fail
        go_roundw
        case rel => exact ⟨k + 1, q, hlt, int_succ k, rfl, HN, HB2⟩
        case measure => simp [intOf]; omega
      · obtain rfl : k = n := by omega
        have hd : decide ((k : Int) < (k : Int)) = false := by simp
        have HF : Hid (decide (a = b) = decide (o = 0#8)) := hide (by
          have h := ho.out
          rw [List.take_of_length_le (Nat.le_of_eq HL.out), List.take_of_length_le (Nat.le_of_eq HL1.out)] at h
          rw [decide_eq_decide]; exact h.symm)
        have hz := zero_u8 o
        clear ho
        go_wp2
        go_ret
        exact ⟨by rw [HF.out]; rfl, hB.out⟩
  · have hd : ((n : Int) != (n1 : Int)) = true := by rw [bne_iff_ne]; omega
    have hne : decide (a = b) = false := by rw [decide_eq_false_iff_not]; rintro rfl; omega
    rw [hne]
    clear hne hl hl1 hnn hr hr1
    go_enter Try.func50, Try.ntmps50
    go_wp2
    go_ret
    exact ⟨rfl, Below.refl _ _⟩
theorem strOf_inj {a b : List (BitVec 8)} (h : strOf a = strOf b) : a = b := by
  have h2 := congrArg (fun s => s.data.toList) h
  simp only [strOf_toList] at h2
  exact (List.map_inj_right (fun _ _ h => by simpa using congrArg UInt8.toBitVec h)).1 h2
theorem strOf_eq (a b : List (BitVec 8)) : ((strOf a).toList == (strOf b).toList) = decide (a = b) := by
  rw [Bool.eq_iff_iff, beq_iff_eq, decide_eq_true_eq]
  constructor
  · intro h
    rw [ByteArray.toList_eq, ByteArray.toList_eq] at h
    exact strOf_inj (Go.WideShapes.bytes_inj h)
  · intro h; rw [h]
set_option maxRecDepth 100000 in
theorem same_any (A : Option Addr) (n c : Nat) (a : List (BitVec 8)) (A1 : Option Addr) (n1 c1 : Nat) (b : List (BitVec 8)) (w : World) (hr : Reads w w.heap.size 1 A n (a.map c8)) (hr1 : Reads w w.heap.size 1 A1 n1 (b.map c8)) :
    Calls Try.prog 49 #[.slice A n c, .slice A1 n1 c1] w fun e w' => e = .returned (.bool (decide (a = b))) ∧ w = w' := by
  have s1 := run_str (P := Try.prog) w _ _ _ Try.underlying29 Try.underlying5 Try.underlying9 _ _ _ c _ hr
  have s2 := run_str (P := Try.prog) w _ _ _ Try.underlying29 Try.underlying5 Try.underlying9 _ _ _ c1 _ hr1
  have HS := hide (strOf_eq a b)
  clear hr hr1
  go_enter Try.func49, Try.ntmps49
  go_wp2
  go_ret
  exact ⟨by rw [← HS.out]; rfl, rfl⟩
end Go.Proofs.Ytdikknfdgpdenaa
