/- Chapter 02's reference: what stands behind all bytes. Condition: at most 2^40 bytes. -/
import Derived.Test.YtccpkafmbmkmfaaShaRefs
import Derived.Test.YtccpkafmbmkmfaaHashEnd
namespace Go.Proofs.Ytccpkafmbmkmfaa
open Go.RowKit
set_option linter.unusedVariables false
set_option linter.unusedSimpArgs false

/-- the first bytes of a number, the highest one first -/
def be8 (N k : Nat) : List (BitVec 8) := (List.range k).map fun j => BitVec.ofNat 8 (N / 2 ^ (8 * (7 - j)))
theorem be8_succ (N k : Nat) : be8 N (k + 1) = be8 N k ++ [BitVec.ofNat 8 (N / 2 ^ (8 * (7 - k)))] := by simp [be8, List.range_succ]
theorem be8_all (N : Nat) (h : N < 18446744073709551616) : be8 N 8 = bytesOf (two32 N) := by
  have e : ∀ m j : Nat, j = 24 ∨ j = 16 ∨ j = 8 → ((BitVec.ofNat 32 m) >>> j).setWidth 8 = BitVec.ofNat 8 (m / 2 ^ j) := fun m j hj => by
    apply BitVec.eq_of_toNat_eq
    rw [BitVec.toNat_setWidth, BitVec.toNat_ushiftRight, BitVec.toNat_ofNat, BitVec.toNat_ofNat, Nat.shiftRight_eq_div_pow]
    rcases hj with rfl | rfl | rfl <;> omega
  have e0 : ∀ m : Nat, (BitVec.ofNat 32 m).setWidth 8 = BitVec.ofNat 8 m := fun m => by
    apply BitVec.eq_of_toNat_eq
    rw [BitVec.toNat_setWidth, BitVec.toNat_ofNat, BitVec.toNat_ofNat]; omega
  have d : ∀ a b : Nat, N / 2 ^ a / 2 ^ b = N / 2 ^ (a + b) := fun a b => by rw [Nat.div_div_eq_div_mul, ← Nat.pow_add]
  simp only [be8, bytesOf, two32, bytes4, List.flatMap_cons, List.flatMap_nil, List.append_nil, List.cons_append, List.nil_append, e _ 24 (.inl rfl), e _ 16 (.inr (.inl rfl)), e _ 8 (.inr (.inr rfl)), e0,
    show (4294967296 : Nat) = 2 ^ 32 from rfl, d]
  simp [List.range_succ]
theorem byte_be (N k : Nat) (q : Int) (hq : (N : Int) / 2 ^ (8 * (7 - k)) % 256 = q) : Value.int .u8 q = c8 (BitVec.ofNat 8 (N / 2 ^ (8 * (7 - k)))) := by
  rw [← hq]
  apply int_u8
  rw [BitVec.toNat_ofNat]
  have : (N : Int) / 2 ^ (8 * (7 - k)) = ((N / 2 ^ (8 * (7 - k)) : Nat) : Int) := by simp
  rw [this]; omega
/-- a new row of one byte -/
theorem one_byte (w : World) (x : BitVec 8) : Reads (w.alloc (.cells #[c8 x] 5)) (w.alloc (.cells #[c8 x] 5)).heap.size 1 (some ⟨w.heap.size, 0, none⟩) 1 ([x].map c8) := (Reads.new w 5 #[c8 x]).more (by simp)
set_option maxRecDepth 100000 in
set_option maxHeartbeats 1600000 in
theorem padded_any (A : Option Addr) (n c : Nat) (bs : List (BitVec 8)) (w : World) (hr : Reads w w.heap.size 1 A n (bs.map c8)) (hn : n ≤ 1099511627776) :
    Calls Try.prog 115 #[.slice A n c] w fun e w' => ∃ A' m c', e = .returned (.slice A' m c') ∧ w'.ownsRow w.heap.size 5 1 (.slice A' m c') m ((paddedOf bs).map c8) ∧ Below w.heap.size w w' := by
  obtain ⟨i0, hi0, hz0, hz1, hz2⟩ := info_parts info_u8
  have hl : bs.length = n := hr.len
  have HL := hide hl
  clear hl
  have o1 : (w.alloc (.cells #[] 5)).ownsRow w.heap.size 5 1 (.slice (some ⟨w.heap.size, 0, none⟩) 0 0) 0 [] :=
    ⟨rfl, .inr ⟨w.heap.size, 0, #[], rfl, Nat.le_refl _, heap_alloc_last _ _, Nat.le_refl _, by simp [maxLen], rfl, rfl⟩⟩
  have B1 : Below w.heap.size w (w.alloc (.cells #[] 5)) := (Below.refl _ w).alloc (Nat.le_refl _) _
  have R1 := hide ((hr.below B1).more (B' := (w.alloc (.cells #[] 5)).heap.size) (by simp))
  replace o1 := hide o1
  replace B1 := hide B1
  clear hr
  go_enter Try.func115, Try.ntmps115
  go_wp2_with (first
    | (at_builtin; refine wpList_append_any _ rfl (.tmp 6) (.tmp 7) 78 rfl w.heap.size 5 i0 _ 1 1 Try.underlying78 hi0 hz0 hz1 hz2 rfl (by omega) _ 0 [] rfl o1.out _ A n c _ rfl R1.out (oneCell_c8 _) (by simp only [maxLen]; omega) (by omega) B1.out.size ?_; intro v2 W2 own2 grow2 _; have b2 := below_appended B1.out B1.out.size o1.out (Nat.le_refl _) grow2; simp only [Nat.zero_add, List.nil_append] at own2; obtain ⟨A2, c2, rfl⟩ := own_slice own2; have o2 := hide (own2.alloc (.cells #[.int .u8 128] 5)); have B2 := hide (b2.alloc b2.size (.cells #[.int .u8 128] 5)); have R2 := hide (one_byte W2 128#8); clear own2 b2 grow2)
    | (at_builtin; refine wpList_append_any _ rfl (.tmp 9) (.tmp 10) 78 rfl w.heap.size 5 i0 _ 1 1 Try.underlying78 hi0 hz0 hz1 hz2 rfl (by omega) _ n _ rfl o2.out _ _ 1 1 _ rfl R2.out (oneCell_c8 _) (by simp only [maxLen]; omega) (by omega) B2.out.size ?_; intro v3 W3 own3 grow3 _; have b3 := below_appended B2.out B2.out.size o2.out (Nat.le_refl _) grow3; obtain ⟨A3, c3, rfl⟩ := own_slice own3; rw [← List.map_append] at own3; have o3 := hide own3; have B3 := hide b3; clear own3 b3 grow3))
  clear o1 B1 R1 o2 B2 R2
  go_loopw [3] (fun v wr => ∃ k A q c, v = .slice A q c ∧ (q ≤ n + 1 + k ∧ n + 1 + k ≤ q) ∧ k ≤ zerosN n ∧ Hid (wr.ownsRow w.heap.size 5 1 (.slice A q c) q ((bs ++ [128#8] ++ List.replicate k 0#8).map c8)) ∧ Hid (Below w.heap.size w wr)) (fun v _ => n + 66 - lenOf v)
  case atStart => exact ⟨0, A3, n + 1, c3, rfl, ⟨by omega, by omega⟩, Nat.zero_le _, by simpa using o3, B3⟩
  case round =>
    obtain ⟨k, A4, q, c4, rfl, ⟨hq1, hq2⟩, hkz, ho, hB⟩ := hrel
    clear o3 B3
    have hgr := hB.out.size
    have hz63 : zerosN n ≤ 63 := by unfold zerosN; omega
    have HZ : Hid (zerosN n = (119 - n % 64) % 64) := hide rfl
    by_cases hlt : k < zerosN n
    · have ht : ((q : Int) % 64 != 56) = true := by have := HZ.out; rw [bne_iff_ne]; omega
      have HR := hide (one_byte wr 0#8)
      have HOA := hide (ho.out.alloc (.cells #[.int .u8 0] 5))
      have HBA := hide (hB.out.alloc hgr (.cells #[.int .u8 0] 5))
      have HZs : k + 1 ≤ zerosN n := hlt
      go_wp2_with (at_builtin; refine wpList_append_any _ rfl (.tmp 16) (.tmp 17) 78 rfl w.heap.size 5 i0 _ 1 1 Try.underlying78 hi0 hz0 hz1 hz2 rfl (by omega) _ q _ rfl HOA.out _ _ 1 1 _ rfl HR.out (oneCell_c8 _) (by simp only [maxLen]; omega) (by omega) HBA.out.size ?_; intro v5 W5 own5 grow5 _; have b5 := below_appended HBA.out HBA.out.size HOA.out (Nat.le_refl _) grow5; obtain ⟨A5, c5, rfl⟩ := own_slice own5; rw [← List.map_append, List.append_assoc, ← List.replicate_succ'] at own5; replace own5 := hide own5; replace b5 := hide b5; clear grow5)
      go_roundw
      case rel => exact ⟨k + 1, A5, q + 1, c5, rfl, ⟨by omega, by omega⟩, HZs, own5, b5⟩
      case measure => simp [lenOf]; omega
    · obtain rfl : k = zerosN n := by omega
      have ht : ((q : Int) % 64 != 56) = false := by
        have := HZ.out
        have h2 : (q : Int) % 64 = 56 := by omega
        rw [h2]; rfl
      obtain ⟨N, hN⟩ : ∃ N, N = 8 * n := ⟨_, rfl⟩
      have eN : (8 * (n : Int)) = (N : Int) := by omega
      have hN64 : N < 18446744073709551616 := by omega
      have HN := hide hN
      clear hN hlt hkz
      have HP : Hid (paddedOf bs = bs ++ [128#8] ++ List.replicate (zerosN n) 0#8 ++ be8 N 8) := hide (by rw [paddedOf, HL.out, be8_all N hN64, HN.out]; simp only [tailOf, zerosN, Nat.mod_eq_of_lt (show 8 * n < 18446744073709551616 by omega), List.append_assoc, List.cons_append, List.nil_append])
      have HB8 := hide (rfl : be8 N 0 = [])
      have HKs : Hid (∀ k q : Nat, k < 8 → q = n + 1 + zerosN n + k → q + 1 ≤ maxLen ∧ (q + 1) * 1 ≤ 140737488355328) := hide (fun k q h1 h2 => by simp only [maxLen]; omega)
      have ho8 : Hid (wr.ownsRow w.heap.size 5 1 (.slice A4 q c4) q ((bs ++ [128#8] ++ List.replicate (zerosN n) 0#8 ++ be8 N 0).map c8)) := hide (by simpa [be8] using ho.out)
      clear ho
      go_wp2
      go_loopw [3, 5] (fun v i wr2 => ∃ (k : Nat) (A : Option Addr) (q c : Nat), v = .slice A q c ∧ i = .int .i64 (7 - (k : Int)) ∧ (q ≤ n + 1 + zerosN n + k ∧ n + 1 + zerosN n + k ≤ q) ∧ k ≤ 8 ∧ Hid (wr2.ownsRow w.heap.size 5 1 (.slice A q c) q ((bs ++ [128#8] ++ List.replicate (zerosN n) 0#8 ++ be8 N k).map c8)) ∧ Hid (Below w.heap.size w wr2)) (fun _ i _ => (intOf i + 1).toNat)
      case atStart => exact ⟨0, A4, q, c4, rfl, rfl, ⟨by omega, by omega⟩, by omega, ho8, hB⟩
      case round =>
        obtain ⟨k, A6, q6, c6, rfl, rfl, ⟨hqa, hqb⟩, hk8, ho6, hB6⟩ := hrel
        clear ho8 hB hgr hz63
        have hg6 := hB6.out.size
        have hm6 := fun h => HKs.out k q6 h (by omega)
        have HN64 := hide hN64
        have HN64 := hide hN64
        have HN64 := hide hN64
        clear hN64
        rcases (by omega : k = 0 ∨ k = 1 ∨ k = 2 ∨ k = 3 ∨ k = 4 ∨ k = 5 ∨ k = 6 ∨ k = 7 ∨ k = 8) with rfl | rfl | rfl | rfl | rfl | rfl | rfl | rfl | rfl
        · have hm7 := hm6 (by omega)
          have HC : Hid (Value.int .u8 ((N : Int) / 72057594037927936) = c8 (BitVec.ofNat 8 (N / 2 ^ (8 * (7 - 0))))) := hide (byte_be N 0 _ (by have := HN64.out; have := HN.out; simp only [Nat.reduceSub, Nat.reduceMul]; omega))
          have HR := one_byte wr (BitVec.ofNat 8 (N / 2 ^ (8 * (7 - 0))))
          rw [← HC.out] at HR
          replace HR := hide HR
          have HOA := hide (ho6.out.alloc (.cells #[Value.int .u8 ((N : Int) / 72057594037927936)] 5))
          have HBA := hide (hB6.out.alloc hg6 (.cells #[Value.int .u8 ((N : Int) / 72057594037927936)] 5))
          go_wp2_with (at_builtin; refine wpList_append_any _ rfl (.tmp 27) (.tmp 33) 78 rfl w.heap.size 5 i0 _ 1 1 Try.underlying78 hi0 hz0 hz1 hz2 rfl (by omega) _ q6 _ rfl HOA.out _ _ 1 1 _ rfl HR.out (oneCell_c8 _) hm7.1 hm7.2 HBA.out.size ?_; intro v7 W7 own7 grow7 _; have b7 := below_appended HBA.out HBA.out.size HOA.out (Nat.le_refl _) grow7; obtain ⟨A7, c7, rfl⟩ := own_slice own7; rw [← List.map_append, List.append_assoc, ← be8_succ N 0] at own7; replace own7 := hide own7; replace b7 := hide b7; clear grow7)
          go_roundw
          case rel => exact ⟨1, A7, q6 + 1, c7, rfl, rfl, ⟨by omega, by omega⟩, by omega, own7, b7⟩
          case measure => simp [intOf]
        · have hm7 := hm6 (by omega)
          have HC : Hid (Value.int .u8 ((N : Int) / 281474976710656) = c8 (BitVec.ofNat 8 (N / 2 ^ (8 * (7 - 1))))) := hide (byte_be N 1 _ (by have := HN64.out; have := HN.out; simp only [Nat.reduceSub, Nat.reduceMul]; omega))
          have HR := one_byte wr (BitVec.ofNat 8 (N / 2 ^ (8 * (7 - 1))))
          rw [← HC.out] at HR
          replace HR := hide HR
          have HOA := hide (ho6.out.alloc (.cells #[Value.int .u8 ((N : Int) / 281474976710656)] 5))
          have HBA := hide (hB6.out.alloc hg6 (.cells #[Value.int .u8 ((N : Int) / 281474976710656)] 5))
          go_wp2_with (at_builtin; refine wpList_append_any _ rfl (.tmp 27) (.tmp 33) 78 rfl w.heap.size 5 i0 _ 1 1 Try.underlying78 hi0 hz0 hz1 hz2 rfl (by omega) _ q6 _ rfl HOA.out _ _ 1 1 _ rfl HR.out (oneCell_c8 _) hm7.1 hm7.2 HBA.out.size ?_; intro v7 W7 own7 grow7 _; have b7 := below_appended HBA.out HBA.out.size HOA.out (Nat.le_refl _) grow7; obtain ⟨A7, c7, rfl⟩ := own_slice own7; rw [← List.map_append, List.append_assoc, ← be8_succ N 1] at own7; replace own7 := hide own7; replace b7 := hide b7; clear grow7)
          go_roundw
          case rel => exact ⟨2, A7, q6 + 1, c7, rfl, rfl, ⟨by omega, by omega⟩, by omega, own7, b7⟩
          case measure => simp [intOf]
        · have hm7 := hm6 (by omega)
          have HC : Hid (Value.int .u8 ((N : Int) / 1099511627776) = c8 (BitVec.ofNat 8 (N / 2 ^ (8 * (7 - 2))))) := hide (byte_be N 2 _ (by have := HN64.out; have := HN.out; simp only [Nat.reduceSub, Nat.reduceMul]; omega))
          have HR := one_byte wr (BitVec.ofNat 8 (N / 2 ^ (8 * (7 - 2))))
          rw [← HC.out] at HR
          replace HR := hide HR
          have HOA := hide (ho6.out.alloc (.cells #[Value.int .u8 ((N : Int) / 1099511627776)] 5))
          have HBA := hide (hB6.out.alloc hg6 (.cells #[Value.int .u8 ((N : Int) / 1099511627776)] 5))
          go_wp2_with (at_builtin; refine wpList_append_any _ rfl (.tmp 27) (.tmp 33) 78 rfl w.heap.size 5 i0 _ 1 1 Try.underlying78 hi0 hz0 hz1 hz2 rfl (by omega) _ q6 _ rfl HOA.out _ _ 1 1 _ rfl HR.out (oneCell_c8 _) hm7.1 hm7.2 HBA.out.size ?_; intro v7 W7 own7 grow7 _; have b7 := below_appended HBA.out HBA.out.size HOA.out (Nat.le_refl _) grow7; obtain ⟨A7, c7, rfl⟩ := own_slice own7; rw [← List.map_append, List.append_assoc, ← be8_succ N 2] at own7; replace own7 := hide own7; replace b7 := hide b7; clear grow7)
          go_roundw
          case rel => exact ⟨3, A7, q6 + 1, c7, rfl, rfl, ⟨by omega, by omega⟩, by omega, own7, b7⟩
          case measure => simp [intOf]
        · have hm7 := hm6 (by omega)
          have HC : Hid (Value.int .u8 ((N : Int) / 4294967296 % 256) = c8 (BitVec.ofNat 8 (N / 2 ^ (8 * (7 - 3))))) := hide (byte_be N 3 _ (by have := HN64.out; have := HN.out; simp only [Nat.reduceSub, Nat.reduceMul]; omega))
          have HR := one_byte wr (BitVec.ofNat 8 (N / 2 ^ (8 * (7 - 3))))
          rw [← HC.out] at HR
          replace HR := hide HR
          have HOA := hide (ho6.out.alloc (.cells #[Value.int .u8 ((N : Int) / 4294967296 % 256)] 5))
          have HBA := hide (hB6.out.alloc hg6 (.cells #[Value.int .u8 ((N : Int) / 4294967296 % 256)] 5))
          go_wp2_with (at_builtin; refine wpList_append_any _ rfl (.tmp 27) (.tmp 33) 78 rfl w.heap.size 5 i0 _ 1 1 Try.underlying78 hi0 hz0 hz1 hz2 rfl (by omega) _ q6 _ rfl HOA.out _ _ 1 1 _ rfl HR.out (oneCell_c8 _) hm7.1 hm7.2 HBA.out.size ?_; intro v7 W7 own7 grow7 _; have b7 := below_appended HBA.out HBA.out.size HOA.out (Nat.le_refl _) grow7; obtain ⟨A7, c7, rfl⟩ := own_slice own7; rw [← List.map_append, List.append_assoc, ← be8_succ N 3] at own7; replace own7 := hide own7; replace b7 := hide b7; clear grow7)
          go_roundw
          case rel => exact ⟨4, A7, q6 + 1, c7, rfl, rfl, ⟨by omega, by omega⟩, by omega, own7, b7⟩
          case measure => simp [intOf]
        · have hm7 := hm6 (by omega)
          have HC : Hid (Value.int .u8 ((N : Int) / 16777216 % 256) = c8 (BitVec.ofNat 8 (N / 2 ^ (8 * (7 - 4))))) := hide (byte_be N 4 _ (by have := HN64.out; have := HN.out; simp only [Nat.reduceSub, Nat.reduceMul]; omega))
          have HR := one_byte wr (BitVec.ofNat 8 (N / 2 ^ (8 * (7 - 4))))
          rw [← HC.out] at HR
          replace HR := hide HR
          have HOA := hide (ho6.out.alloc (.cells #[Value.int .u8 ((N : Int) / 16777216 % 256)] 5))
          have HBA := hide (hB6.out.alloc hg6 (.cells #[Value.int .u8 ((N : Int) / 16777216 % 256)] 5))
          go_wp2_with (at_builtin; refine wpList_append_any _ rfl (.tmp 27) (.tmp 33) 78 rfl w.heap.size 5 i0 _ 1 1 Try.underlying78 hi0 hz0 hz1 hz2 rfl (by omega) _ q6 _ rfl HOA.out _ _ 1 1 _ rfl HR.out (oneCell_c8 _) hm7.1 hm7.2 HBA.out.size ?_; intro v7 W7 own7 grow7 _; have b7 := below_appended HBA.out HBA.out.size HOA.out (Nat.le_refl _) grow7; obtain ⟨A7, c7, rfl⟩ := own_slice own7; rw [← List.map_append, List.append_assoc, ← be8_succ N 4] at own7; replace own7 := hide own7; replace b7 := hide b7; clear grow7)
          go_roundw
          case rel => exact ⟨5, A7, q6 + 1, c7, rfl, rfl, ⟨by omega, by omega⟩, by omega, own7, b7⟩
          case measure => simp [intOf]
        · have hm7 := hm6 (by omega)
          have HC : Hid (Value.int .u8 ((N : Int) / 65536 % 256) = c8 (BitVec.ofNat 8 (N / 2 ^ (8 * (7 - 5))))) := hide (byte_be N 5 _ (by have := HN64.out; have := HN.out; simp only [Nat.reduceSub, Nat.reduceMul]; omega))
          have HR := one_byte wr (BitVec.ofNat 8 (N / 2 ^ (8 * (7 - 5))))
          rw [← HC.out] at HR
          replace HR := hide HR
          have HOA := hide (ho6.out.alloc (.cells #[Value.int .u8 ((N : Int) / 65536 % 256)] 5))
          have HBA := hide (hB6.out.alloc hg6 (.cells #[Value.int .u8 ((N : Int) / 65536 % 256)] 5))
          go_wp2_with (at_builtin; refine wpList_append_any _ rfl (.tmp 27) (.tmp 33) 78 rfl w.heap.size 5 i0 _ 1 1 Try.underlying78 hi0 hz0 hz1 hz2 rfl (by omega) _ q6 _ rfl HOA.out _ _ 1 1 _ rfl HR.out (oneCell_c8 _) hm7.1 hm7.2 HBA.out.size ?_; intro v7 W7 own7 grow7 _; have b7 := below_appended HBA.out HBA.out.size HOA.out (Nat.le_refl _) grow7; obtain ⟨A7, c7, rfl⟩ := own_slice own7; rw [← List.map_append, List.append_assoc, ← be8_succ N 5] at own7; replace own7 := hide own7; replace b7 := hide b7; clear grow7)
          go_roundw
          case rel => exact ⟨6, A7, q6 + 1, c7, rfl, rfl, ⟨by omega, by omega⟩, by omega, own7, b7⟩
          case measure => simp [intOf]
        · have hm7 := hm6 (by omega)
          have HC : Hid (Value.int .u8 ((N : Int) / 256 % 256) = c8 (BitVec.ofNat 8 (N / 2 ^ (8 * (7 - 6))))) := hide (byte_be N 6 _ (by have := HN64.out; have := HN.out; simp only [Nat.reduceSub, Nat.reduceMul]; omega))
          have HR := one_byte wr (BitVec.ofNat 8 (N / 2 ^ (8 * (7 - 6))))
          rw [← HC.out] at HR
          replace HR := hide HR
          have HOA := hide (ho6.out.alloc (.cells #[Value.int .u8 ((N : Int) / 256 % 256)] 5))
          have HBA := hide (hB6.out.alloc hg6 (.cells #[Value.int .u8 ((N : Int) / 256 % 256)] 5))
          go_wp2_with (at_builtin; refine wpList_append_any _ rfl (.tmp 27) (.tmp 33) 78 rfl w.heap.size 5 i0 _ 1 1 Try.underlying78 hi0 hz0 hz1 hz2 rfl (by omega) _ q6 _ rfl HOA.out _ _ 1 1 _ rfl HR.out (oneCell_c8 _) hm7.1 hm7.2 HBA.out.size ?_; intro v7 W7 own7 grow7 _; have b7 := below_appended HBA.out HBA.out.size HOA.out (Nat.le_refl _) grow7; obtain ⟨A7, c7, rfl⟩ := own_slice own7; rw [← List.map_append, List.append_assoc, ← be8_succ N 6] at own7; replace own7 := hide own7; replace b7 := hide b7; clear grow7)
          go_roundw
          case rel => exact ⟨7, A7, q6 + 1, c7, rfl, rfl, ⟨by omega, by omega⟩, by omega, own7, b7⟩
          case measure => simp [intOf]
        · have hm7 := hm6 (by omega)
          have HC : Hid (Value.int .u8 ((N : Int) % 256) = c8 (BitVec.ofNat 8 (N / 2 ^ (8 * (7 - 7))))) := hide (byte_be N 7 _ (by have := HN64.out; have := HN.out; simp only [Nat.reduceSub, Nat.reduceMul]; omega))
          have HR := one_byte wr (BitVec.ofNat 8 (N / 2 ^ (8 * (7 - 7))))
          rw [← HC.out] at HR
          replace HR := hide HR
          have HOA := hide (ho6.out.alloc (.cells #[Value.int .u8 ((N : Int) % 256)] 5))
          have HBA := hide (hB6.out.alloc hg6 (.cells #[Value.int .u8 ((N : Int) % 256)] 5))
          go_wp2_with (at_builtin; refine wpList_append_any _ rfl (.tmp 27) (.tmp 33) 78 rfl w.heap.size 5 i0 _ 1 1 Try.underlying78 hi0 hz0 hz1 hz2 rfl (by omega) _ q6 _ rfl HOA.out _ _ 1 1 _ rfl HR.out (oneCell_c8 _) hm7.1 hm7.2 HBA.out.size ?_; intro v7 W7 own7 grow7 _; have b7 := below_appended HBA.out HBA.out.size HOA.out (Nat.le_refl _) grow7; obtain ⟨A7, c7, rfl⟩ := own_slice own7; rw [← List.map_append, List.append_assoc, ← be8_succ N 7] at own7; replace own7 := hide own7; replace b7 := hide b7; clear grow7)
          go_roundw
          case rel => exact ⟨8, A7, q6 + 1, c7, rfl, rfl, ⟨by omega, by omega⟩, by omega, own7, b7⟩
          case measure => simp [intOf]
        · go_wp2
          go_ret
          rw [HP.out]
          exact ⟨A6, q6, c6, rfl, ho6.out, hB6.out⟩
end Go.Proofs.Ytccpkafmbmkmfaa
