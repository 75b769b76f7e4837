/- Package sha's end and Sum. Condition: at most 2^40 bytes were told. -/
import Derived.Test.YtccpkafmbmkmfaaHashMore
namespace Go.Proofs.Ytccpkafmbmkmfaa
open Go.RowKit Go.Shelf
set_option linter.unusedVariables false
set_option linter.unusedSimpArgs false

/-- how many noughts stand behind -/
def zerosN (n : Nat) : Nat := (119 - n % 64) % 64
theorem own_below {w w' : World} {base n : Nat} {e : TypeId} {v : Value} {xs : List Value} (h : w.ownsRow base e 1 v n xs) (hb : Below w.heap.size w w') : w'.ownsRow base e 1 v n xs := by
  refine ⟨h.1, h.2.imp id fun ⟨g, cap, cur, h1, h2, h3, h4⟩ => ⟨g, cap, cur, h1, h2, (hb.block g (Array.getElem?_eq_some_iff.1 h3).1).trans h3, h4⟩⟩
/-- a number of 64 bits as two cells -/
theorem two_cells (n : Nat) (h : n < 18446744073709551616) : #[Value.int .u32 ((n : Int) / 4294967296), Value.int .u32 ((n : Int) % 4294967296)] = ((two32 n).map c32).toArray := by
  have e1 : (n : Int) / 4294967296 = ((BitVec.ofNat 32 (n / 4294967296)).toNat : Int) := by rw [BitVec.toNat_ofNat]; omega
  have e2 : (n : Int) % 4294967296 = ((BitVec.ofNat 32 n).toNat : Int) := by rw [BitVec.toNat_ofNat]; omega
  rw [e1, e2]; rfl
theorem tail_is (n : Nat) (h : n ≤ 1099511627776) : (([128#8] ++ List.replicate (zerosN n) 0#8).map c8 ++ (bytesOf (two32 (8 * n))).map c8) = (tailOf n).map c8 := by
  have e : 8 * n % 18446744073709551616 = 8 * n := by omega
  unfold tailOf zerosN
  rw [e, ← List.map_append]; rfl
set_option maxRecDepth 100000 in
set_option maxHeartbeats 800000 in
theorem end_any (g : Nat) (bs : List (BitVec 8)) (w : World) (hh : HashIs w g bs) (hb : bs.length ≤ 1099511627776) :
    Calls Try.prog 132 #[.pointer (some ⟨g, 0, none⟩)] w fun e w' => ∃ A m c, e = .returned (.slice A m c) ∧ w'.ownsRow w.heap.size 5 1 (.slice A m c) m ((tailOf bs.length).map c8) ∧ Below w.heap.size w w' := by
  obtain ⟨i0, hi0, hz0, hz1, hz2⟩ := info_parts info_u8
  obtain ⟨A0, n0, c0, h1, h2, h3, h4⟩ := hh
  have hn0 : n0 = bs.length % 64 := by have := h2.len; rw [restOf_len] at this; omega
  have hgs := h1.lt
  have K8 : Hid (∀ W, Below w.heap.size w W → W.cell? ⟨g, 8, none⟩ = some (.slice A0 n0 c0)) := hide (fun W h => (h.cell (p := ⟨g, 8, none⟩) hgs).trans (h1.cell 8))
  have K9 : Hid (∀ W, Below w.heap.size w W → W.cell? ⟨g, 9, none⟩ = some (.int .u64 (bs.length : Int))) := hide (fun W h => (h.cell (p := ⟨g, 9, none⟩) hgs).trans (h1.cell 9))
  have hn63 : n0 ≤ 63 := by omega
  have HZ : Hid (zerosN bs.length = (119 - n0) % 64) := hide (by unfold zerosN; rw [hn0])
  have hz63 : zerosN bs.length ≤ 63 := by unfold zerosN; omega
  replace hn0 := hide hn0
  clear h1 h2 h4
  have o1 : (w.alloc (.cells #[.int .u8 128] 5)).ownsRow w.heap.size 5 1 (.slice (some ⟨w.heap.size, 0, none⟩) 1 1) 1 (([128#8] ++ List.replicate 0 0#8).map c8) :=
    ⟨rfl, .inr ⟨w.heap.size, 1, #[.int .u8 128], rfl, Nat.le_refl _, heap_alloc_last _ _, Nat.le_refl _, by simp [maxLen], rfl, rfl⟩⟩
  have B1 : Below w.heap.size w (w.alloc (.cells #[.int .u8 128] 5)) := (Below.refl _ w).alloc (Nat.le_refl _) _
  replace o1 := hide o1
  replace B1 := hide B1
  go_enter Try.func132, Try.ntmps132
  go_wp2
  go_loopw [3] (fun v wr => ∃ k A q c, v = .slice A q c ∧ (q ≤ k + 1 ∧ k + 1 ≤ q) ∧ k ≤ 63 ∧ k ≤ zerosN bs.length ∧ Hid (wr.ownsRow w.heap.size 5 1 (.slice A q c) q (([128#8] ++ List.replicate k 0#8).map c8)) ∧ Hid (Below w.heap.size w wr)) (fun v _ => 65 - lenOf v)
  case atStart => exact ⟨0, _, 1, 1, rfl, ⟨by omega, by omega⟩, by omega, Nat.zero_le _, o1, B1⟩
  case round =>
    obtain ⟨k, A, q, c, rfl, ⟨hq1, hq2⟩, hk63, hkz, ho, hB⟩ := hrel
    clear o1 B1
    have x8 := K8.out wr hB.out
    have hgr := hB.out.size
    by_cases hlt : k < zerosN bs.length
    · have ht : (((n0 : Int) + (q : Int) + 8) % 64 != 0) = true := by
        have := HZ.out; rw [bne_iff_ne]; omega
      have HR : Hid (Reads (wr.alloc (.cells #[.int .u8 0] 5)) (wr.alloc (.cells #[.int .u8 0] 5)).heap.size 1 (some ⟨wr.heap.size, 0, none⟩) 1 (([0#8] : List (BitVec 8)).map c8)) := hide ((Reads.new wr 5 #[c8 0#8]).more (by simp))
      have HOA := hide (ho.out.alloc (.cells #[.int .u8 0] 5))
      have HBA := hide (hB.out.alloc hgr (.cells #[.int .u8 0] 5))
      have HZs : k + 1 ≤ zerosN bs.length := hlt
      go_wp2_with (at_builtin; refine wpList_append_any _ rfl (.tmp 17) (.tmp 18) 78 rfl w.heap.size 5 i0 _ 1 1 Try.underlying78 hi0 hz0 hz1 hz2 rfl (by omega) _ q _ rfl HOA.out _ _ 1 1 _ rfl HR.out (oneCell_c8 _) (by simp only [maxLen]; omega) (by omega) HBA.out.size ?_; intro v5 W5 own5 grow5 _; have b5 := below_appended HBA.out HBA.out.size HOA.out (Nat.le_refl _) grow5; obtain ⟨A5, c5, rfl⟩ := own_slice own5; rw [← List.map_append, List.append_assoc, ← List.replicate_succ'] at own5; replace own5 := hide own5; replace b5 := hide b5; clear grow5)
      go_roundw
      case rel => exact ⟨k + 1, A5, q + 1, c5, rfl, ⟨by omega, by omega⟩, by omega, HZs, own5, b5⟩
      case measure => simp [lenOf]; omega
    · obtain rfl : k = zerosN bs.length := by omega
      have ht : (((n0 : Int) + (q : Int) + 8) % 64 != 0) = false := by
        have h1 := HZ.out
        have : ((n0 : Int) + (q : Int) + 8) % 64 = 0 := by omega
        rw [this]; rfl
      have x9 := K9.out wr hB.out
      have hcs := two_cells (8 * bs.length) (by omega)
      have hnn : ((8 * bs.length : Nat) : Int) = 8 * (bs.length : Int) := by omega
      rw [hnn] at hcs
      have HBy : Hid (Reads (wr.alloc (.cells #[.int .u32 (8 * (bs.length : Int) / 4294967296), .int .u32 (8 * (bs.length : Int) % 4294967296)] 22)) (wr.alloc (.cells #[.int .u32 (8 * (bs.length : Int) / 4294967296), .int .u32 (8 * (bs.length : Int) % 4294967296)] 22)).heap.size 1 (some ⟨wr.heap.size, 0, none⟩) 2 ((two32 (8 * bs.length)).map c32)) := hide (by
        rw [hcs]
        exact (Reads.new wr 22 ((two32 (8 * bs.length)).map c32).toArray).more (by simp))
      have HOA := hide (own_below ho.out ((Below.refl _ wr).alloc (Nat.le_refl _) (.cells #[.int .u32 (8 * (bs.length : Int) / 4294967296), .int .u32 (8 * (bs.length : Int) % 4294967296)] 22)))
      have HBA := hide (hB.out.alloc hgr (.cells #[.int .u32 (8 * (bs.length : Int) / 4294967296), .int .u32 (8 * (bs.length : Int) % 4294967296)] 22))
      have HT := hide (tail_is bs.length hb)
      clear hcs hnn
      go_wp2_with (first
        | (go_at_call 133; refine (bytes_any _ 2 2 _ _ HBy.out (by omega)).mono ?_; rintro e w6 ⟨A6, c6, rfl, own6, hb6⟩; have HO6 := hide (own_below HOA.out hb6); have HB6 := hide (HBA.out.trans (hb6.mono HBA.out.size)); have HR6 := hide (Reads.of_own own6); clear own6 hb6)
        | (at_builtin; refine wpList_append_any _ rfl (.tmp 25) (.tmp 32) 78 rfl w.heap.size 5 i0 _ 1 1 Try.underlying78 hi0 hz0 hz1 hz2 rfl (by omega) _ q _ rfl HO6.out _ A6 (4 * 2) c6 _ rfl HR6.out (oneCell_c8 _) (by simp only [maxLen]; omega) (by omega) HB6.out.size ?_; intro v7 W7 own7 grow7 _; have b7 := below_appended HB6.out HB6.out.size HO6.out (Nat.le_refl _) grow7; rw [HT.out] at own7; obtain ⟨A7, c7, rfl⟩ := own_slice own7; replace own7 := hide own7; replace b7 := hide b7; clear grow7))
      go_ret
      exact ⟨A7, q + 4 * 2, c7, rfl, own7.out, b7.out⟩
end Go.Proofs.Ytccpkafmbmkmfaa
