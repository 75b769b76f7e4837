/- Chapter 03's reference of what is derived. Condition: of at most 1000 bytes. -/
import Derived.Test.YtdikknfdgpdenaaMacDerive
namespace Go.Proofs.Ytdikknfdgpdenaa
open Go.RowKit
set_option linter.unusedVariables false
set_option linter.unusedSimpArgs false

set_option maxRecDepth 100000 in
set_option maxHeartbeats 1600000 in
theorem refderive_any (A : Option Addr) (n c : Nat) (bs : List (BitVec 8)) (s : ByteArray) (many : Int) (w : World) (hr : Reads w w.heap.size 1 A n (bs.map c8)) (hn : n ≤ 1000) (hs : s.size ≤ 1000) (m : Nat) (hm : m = (min (max many 0) 8192).toNat) :
    Calls Try.prog 52 #[.slice A n c, .string s, .int .i64 many] w fun e w' => ∃ A' c', e = .returned (.slice A' m c') ∧ m ≤ c' ∧ Reads w' w'.heap.size 1 A' m (((derOf bs (textOf s)).take m).map c8) ∧ Below w.heap.size w w' := by
  obtain ⟨i0, hi0, hz0, hz1, hz2⟩ := info_parts info_u8
  obtain ⟨Z, hZ, hZs⟩ := zeroId
  obtain ⟨M, hM⟩ : ∃ M : Int, M = min many 8192 := ⟨_, rfl⟩
  have hmM : m = M.toNat := by omega
  have hM8 : M ≤ 8192 := by omega
  obtain ⟨lb, hlb⟩ : ∃ lb, lb = textOf s := ⟨_, rfl⟩
  have HR := hide hr
  have HLB := hide hlb
  have HM := hide hM
  replace hZ := hide hZ
  replace hZs := hide hZs
  have HmM := hide hmM
  have hm8 : m ≤ 8192 := by omega
  clear hr hm hlb hM hmM
  go_enter Try.func52, Try.ntmps52
  go_upto_if 12 with fail
  go_cut [2] (fun s2 wx => s2 = .int .i64 M ∧ w = wx)
  case first =>
    by_cases hb : 8192 < many
    · have e : M = 8192 := by have := HM.out; omega
      go_wp2_with fail
      go_meet
      exact ⟨by rw [e], rfl⟩
    · have e : M = many := by have := HM.out; omega
      go_wp2_with fail
      go_meet
      exact ⟨by rw [e], rfl⟩
  case rest =>
    obtain ⟨rfl, rfl⟩ := hcut
    go_wp2
    go_loopw [7, 8] (fun v i wr => ∃ (k q : Nat) (A : Option Addr) (c : Nat), k ≤ 256 ∧ v = .slice A q c ∧ i = .int .i64 (k : Int) ∧ (q ≤ 32 * k ∧ 32 * k ≤ q) ∧ Hid (wr.ownsRow w.heap.size 5 1 (.slice A q c) q ((derN bs lb k).map c8)) ∧ Hid (Below w.heap.size w wr)) (fun _ i _ => 257 - (intOf i).toNat)
    case atStart => exact ⟨0, 0, none, 0, by omega, rfl, rfl, ⟨by omega, by omega⟩, hide (World.ownsRow_nil _ _ _ _), hide (Below.refl _ _)⟩
    case round =>
      obtain ⟨k, q, A3, c3, hk, rfl, rfl, ⟨hq1, hq2⟩, ho, hB⟩ := hrel
      by_cases hlt : (q : Int) < M
      · have hd : decide ((q : Int) < M) = true := by simp; omega
        have hk256 : k < 256 := by omega
        have hk0 : (0 : Int) ≤ (k : Int) := by omega
        have hk1 : (k : Int) < 256 := by omega
        obtain ⟨cap, W1, hcv, hcap, hb1, hs1, hr1, hsp⟩ := text_conv wr s
        rw [← HLB.out] at hr1
        obtain ⟨R, hR⟩ := idVal (macOf bs (lb ++ [BitVec.ofNat 8 k])) (macOf_len _ _)
        have Br := hide (hb1.alloc hb1.size (.cells #[.int .u8 (k : Int)] 5))
        have Ra := hide (hr1.later ((Below.refl W1.heap.size W1).alloc (Nat.le_refl _) (.cells #[.int .u8 (k : Int)] 5)))
        have Rb : Hid (Reads (W1.alloc (.cells #[.int .u8 (k : Int)] 5)) (W1.alloc (.cells #[.int .u8 (k : Int)] 5)).heap.size 1 (some ⟨W1.heap.size, 0, none⟩) 1 [.int .u8 (k : Int)]) := hide ((Reads.new W1 5 #[.int .u8 (k : Int)]).more (by simp))
        have hsz : wr.heap.size < (W1.alloc (.cells #[.int .u8 (k : Int)] 5)).heap.size := by rw [World.size_alloc]; omega
        have Hsp : Hid (∀ j, s.size ≤ j → j < cap → ((W1.alloc (.cells #[.int .u8 (k : Int)] 5)).cell? ⟨wr.heap.size, j, none⟩).isSome = true ∧ (W1.alloc (.cells #[.int .u8 (k : Int)] 5)).frozen? ⟨wr.heap.size, j, none⟩ = false) := hide (fun j h1 h2 => by
          have hb2 := (Below.refl W1.heap.size W1).alloc (Nat.le_refl _) (.cells #[.int .u8 (k : Int)] 5)
          rw [hb2.cell (p := ⟨wr.heap.size, j, none⟩) (by show wr.heap.size < W1.heap.size; omega), hb2.frozen (p := ⟨wr.heap.size, j, none⟩) (by show wr.heap.size < W1.heap.size; omega)]
          exact hsp j h1 h2)
        have HN := hide (derN_succ bs lb k)
        have HBK := hide (byte_k hk256)
        replace hsz := hide hsz
        replace hR := hide hR
        clear hb1 hs1 hr1 hsp
        have HRO : Hid (∀ A' c' W, Below w.heap.size w W → Reads W W.heap.size 1 A' (s.size + 1) ((lb ++ [BitVec.ofNat 8 k]).map c8) → Calls Try.prog 47 #[.slice A n c, .slice A' (s.size + 1) c'] W fun e w' => e = .returned (.agg R) ∧ Below W.heap.size W w') := hide (fun A' c' W hb h => by
          rw [hR.out.val]; exact refof_any A n c bs A' (s.size + 1) c' _ W ((HR.out.below hb).more hb.size) (by omega) h (by omega))
        go_wp2_with (first
          | (at_builtin; refine wpList_append_text rfl (.tmp 18) (.tmp 21) 29 rfl 5 i0 _ Try.underlying29 hi0 hz0 hz1 hz2 rfl wr.heap.size s.size cap (lb.map c8) rfl hcap hsz.out Ra.out Hsp.out _ 1 ⟨W1.heap.size, 0, none⟩ (.int .u8 (k : Int)) rfl Rb.out rfl (by omega) ?_; intro A6 c6 w6 r6 g6; have Br6 := hide (Br.out.grown g6 (Nat.le_of_lt hsz.out) (fun q e => by cases e; exact Nat.le_refl _)); rw [HBK.out] at r6; have R6 : Hid (Reads w6 w6.heap.size 1 A6 (s.size + 1) ((lb ++ [BitVec.ofNat 8 k]).map c8)) := hide (by rw [List.map_append]; exact r6); have B6 := hide (below_next hB.out Br6.out); clear r6 g6)
          | (go_at_call 47; (with_reducible refine (HRO.out A6 c6 w6 B6.out R6.out).mono ?_); rintro e w2 ⟨rfl, hb2⟩; have Br2 := hide (below_next Br6.out hb2); clear hb2)
          | ((with_reducible show wpList _ _ _ (⟨_, .alloc 44, _, _, _, _⟩ :: _) _ _); refine wpList_alloc_is rfl 44 rfl Z hZ.out ?_; have K1 := hide (Blk.new w2 44 Z); have Br3 := hide (Br2.out.alloc Br2.out.size (.cells Z 44)))
          | ((with_reducible show wpList _ _ _ (⟨_, .store _ _ _, _, _, _, _⟩ :: _) _ _); refine wpList_store_row rfl 44 _ _ rfl w2.heap.size rfl R rfl 44 _ K1.out hR.out.info (hZs.out.trans hR.out.size.symm) hR.out.one ?_; have K2 := hide (K1.out.setRow_ R); have Br4 := hide (below_setRow Br3.out Br2.out.size R); have O4 := hide (own_below ho.out Br4.out); have B4 := hide (hB.out.trans (Br4.out.mono hB.out.size)); have R4 := hide (K2.out.id8 hR.out); generalize (w2.alloc (.cells Z 44)).setRow w2.heap.size R = w3 at *)
          | (at_builtin; refine wpList_append_any _ rfl (.tmp 26) (.tmp 27) 29 rfl w.heap.size 5 i0 _ 1 1 Try.underlying29 hi0 hz0 hz1 hz2 rfl (by omega) _ q _ rfl O4.out _ (some ⟨w2.heap.size, 0, none⟩) 32 32 _ rfl R4.out (oneCell_c8 _) (by simp only [maxLen]; omega) (by omega) B4.out.size ?_; intro v5 W5 own5 grow5 hob; clear hob; have b5 := hide (below_appended B4.out B4.out.size O4.out (Nat.le_refl _) grow5); obtain ⟨A5, c5, rfl⟩ := own_slice own5; rw [← List.map_append, ← HN.out] at own5; replace own5 := hide own5; clear grow5))
        go_roundw
        case rel => exact ⟨k + 1, q + 32, A5, c5, hk256, rfl, int_succ k, ⟨by omega, by omega⟩, own5, b5⟩
        case measure => simp [intOf]; omega
      · have hd : decide ((q : Int) < M) = false := by simp; omega
        by_cases hM0 : M < 0
        · have hd0 : decide (M < 0) = true := by simp; omega
          have hm0 : m = 0 := by have := HmM.out; omega
          clear HmM
          have HZ0 : Hid (Reads wr wr.heap.size 1 none m (((derOf bs (textOf s)).take m).map c8)) := hide (by rw [hm0]; simp only [List.take_zero, List.map_nil]; exact Reads.none_)
          have HM0 := hide hm0
          clear hm0
          go_wp2
          go_ret
          exact ⟨none, 0, by rw [HM0.out]; rfl, Nat.le_of_eq HM0.out, by rw [← List.map_take]; exact HZ0.out, hB.out⟩
        · have hd0 : decide (M < 0) = false := by simp; omega
          have hcp := own_cap ho.out
          have hMm : M = (m : Int) := by have := HmM.out; omega
          have hmq : m ≤ q := by omega
          clear HM HmM
          subst hMm
          have hmc : (m : Int) ≤ (c3 : Int) := by omega
          have hm0 : (0 : Int) ≤ (m : Int) := by omega
          have RR := hide (reads_upto (Reads.of_own ho.out) hmq)
          rw [derOf_take bs lb k m hk (by omega), HLB.out] at RR
          have hmc' : m ≤ c3 := by omega
          go_wp2
          go_ret
          exact ⟨A3, c3, rfl, hmc', by rw [← List.map_take]; exact RR.out, hB.out⟩
end Go.Proofs.Ytdikknfdgpdenaa
