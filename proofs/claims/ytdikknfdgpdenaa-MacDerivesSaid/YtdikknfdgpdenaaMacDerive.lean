/- Package mac's Derive, and chapter 03's reference of it. Condition: of at most 2^30 bytes. -/
import Derived.Test.YtdikknfdgpdenaaMacAlive
import Derived.Lib.ConvBytes
import Derived.ArgAppend
namespace Go.Proofs.Ytdikknfdgpdenaa
open Go.RowKit
set_option linter.unusedVariables false
set_option linter.unusedSimpArgs false

/-- a text's bytes -/
def textOf (s : ByteArray) : List (BitVec 8) := s.data.toList.map UInt8.toBitVec
theorem textOf_len (s : ByteArray) : (textOf s).length = s.size := by rw [textOf, List.length_map]; rfl
/-- the tags, one behind the other -/
def derN (key lb : List (BitVec 8)) (k : Nat) : List (BitVec 8) := (List.range k).flatMap fun n => macOf key (lb ++ [BitVec.ofNat 8 n])
theorem derN_succ (key lb : List (BitVec 8)) (k : Nat) : derN key lb (k + 1) = derN key lb k ++ macOf key (lb ++ [BitVec.ofNat 8 k]) := by simp [derN, List.range_succ]
theorem derN_len (key lb : List (BitVec 8)) (k : Nat) : (derN key lb k).length = 32 * k := by
  induction k with
  | zero => rfl
  | succ k ih => rw [derN_succ, List.length_append, ih, macOf_len]; omega
theorem derN_add (key lb : List (BitVec 8)) (k j : Nat) : ∃ t, derN key lb (k + j) = derN key lb k ++ t := by
  induction j with
  | zero => exact ⟨[], by simp⟩
  | succ j ih => obtain ⟨t, h⟩ := ih; exact ⟨t ++ macOf key (lb ++ [BitVec.ofNat 8 (k + j)]), by rw [← Nat.add_assoc, derN_succ, h, List.append_assoc]⟩
/-- all that may be derived -/
def derOf (key lb : List (BitVec 8)) : List (BitVec 8) := derN key lb 256
theorem derOf_take (key lb : List (BitVec 8)) (k m : Nat) (hk : k ≤ 256) (hm : m ≤ 32 * k) : (derN key lb k).take m = (derOf key lb).take m := by
  obtain ⟨t, h⟩ := derN_add key lb k (256 - k)
  rw [derOf, show 256 = k + (256 - k) by omega, h, List.take_append_of_le_length (by rw [derN_len]; exact hm)]
theorem text_conv (w : World) (s : ByteArray) : ∃ cap W', (convert 9 29 (.string s)).run Try.prog w = .ok (.slice (some ⟨w.heap.size, 0, none⟩) s.size cap) W' ∧ s.size ≤ cap ∧ Below w.heap.size w W' ∧ W'.heap.size = w.heap.size + 1 ∧
    Reads W' W'.heap.size 1 (some ⟨w.heap.size, 0, none⟩) s.size ((textOf s).map c8) ∧ ∀ j, s.size ≤ j → j < cap → (W'.cell? ⟨w.heap.size, j, none⟩).isSome = true ∧ W'.frozen? ⟨w.heap.size, j, none⟩ = false := by
  have hrun := Go.Lib.run_convert_string_bytes (P := Try.prog) w 9 29 5 s Try.underlying9 Try.underlying29 Try.underlying5
  have hge := grownCap_ge w s.size 0 5
  have hh := Go.Lib.bytesWorld_at_new w 5 s
  have hz := Go.Lib.bytesWorld_size w 5 s
  have hcs : (Go.Lib.bytesCells w 5 s).size = grownCap w s.size 0 5 := by
    simp only [Go.Lib.bytesCells, Array.size_append, Array.size_map, Array.size_replicate]; have : s.data.size = s.size := rfl; omega
  refine ⟨_, _, hrun, hge, ⟨rfl, rfl, rfl, by rw [hz]; omega, fun i hi => Go.Lib.bytesWorld_at_old w _ s i hi⟩, hz, ⟨by simp [textOf_len], fun _ => ⟨_, rfl, by rw [hz]; show w.heap.size < _; omega, fun j u hu => ?_⟩⟩, fun j h1 h2 => ?_⟩
  · have hj : j < s.size := by
      have := (List.getElem?_eq_some_iff.1 hu).1
      simpa [textOf_len] using this
    rw [Addr.add_lit, Nat.zero_add, Go.Lib.bytesWorld_cell w _ s j hj, ← hu]
    have hj' : j < s.data.size := hj
    have hd : s.data[j]? = some s.data[j] := Array.getElem?_eq_getElem hj'
    simp only [textOf, List.map_map, List.getElem?_map, Array.getElem?_toList, List.getD_eq_getElem?_getD, hd]
    rfl
  · constructor
    · rw [cell_of_row _ _ j _ _ _ hh]
      rw [Array.getElem?_eq_getElem (by omega)]; rfl
    · simp only [World.frozen?, hh]
      rw [hcs]
      simp; omega
/-- one byte more behind a text that was turned into bytes -/
theorem run_append_text (w : World) (t ty e : TypeId) (i : TypeInfo) (z : Value) (ht : Try.prog.underlying t = some (.slice e)) (hi : Try.prog.info? e = some i) (hz : i.zero = some z) (hsize : i.size = 1) (hby : i.bytes = 1) (hzs : z.cells.size = 1)
    (g n cap : Nat) (olds : List Value) (hnc : n ≤ cap) (hg : g < w.heap.size) (hr : Reads w w.heap.size 1 (some ⟨g, 0, none⟩) n olds) (hsp : ∀ j, n ≤ j → j < cap → (w.cell? ⟨g, j, none⟩).isSome = true ∧ w.frozen? ⟨g, j, none⟩ = false)
    (B c : Nat) (ad : Addr) (x : Value) (hx : Reads w B 1 (some ad) 1 [x]) (h1 : x.oneCell' = true) (hn : n ≤ 1099511627776) :
    ∃ A c' w', (Builtin.append_ #[t, t] ty #[.slice (some ⟨g, 0, none⟩) n cap, .slice (some ad) 1 c]).run Try.prog w = .ok (.slice A (n + 1) c') w' ∧ Reads w' w'.heap.size 1 A (n + 1) (olds ++ [x]) ∧ w.grownBy w' (some g) := by
  have hol : olds.length = n := by have := hr.1; omega
  have hxc : ∀ j u, ([x] : List Value)[j]? = some u → w.cell? (ad.add j) = some u := by
    obtain ⟨ad', e', _, hc⟩ := hx.2 (by omega)
    cases e'; exact hc
  have hoc : ∀ j u, olds[j]? = some u → w.cell? ((⟨g, 0, none⟩ : Addr).add j) = some u := by
    intro j u hu
    obtain ⟨ad', e', _, hc⟩ := hr.2 (by have := (List.getElem?_eq_some_iff.1 hu).1; omega)
    cases e'; exact hc j u hu
  by_cases hroom : n + 1 ≤ cap
  · have h := run_append_room_cells (P := Try.prog) w t ty e i ht hi g 0 n cap ad 1 c [x] (by simp [hsize]) hxc (by simpa using h1) hroom (by
      intro j hj
      simp at hj; subst hj
      rw [hsize, Nat.mul_one, Nat.zero_add, Nat.add_zero]; exact (hsp n (Nat.le_refl _) hroom).1) (by
      intro j hj
      simp at hj; subst hj
      rw [hsize, Nat.mul_one, Nat.zero_add, Nat.add_zero]; exact (hsp n (Nat.le_refl _) hroom).2)
    rw [hsize, Nat.mul_one, Nat.zero_add] at h
    have hs : w.setCells g n [x] = w.setCell ⟨g, n, none⟩ x := rfl
    rw [hs] at h
    refine ⟨_, _, _, h, ⟨by simp [hol], fun _ => ⟨_, rfl, by simpa using hg, fun j u hu => ?_⟩⟩, ⟨rfl, rfl, rfl, by simp, fun k hk hne => Below.heap_setCell w _ x k (fun e => hne (by rw [e]))⟩⟩
    have hj : j < n + 1 := by
      have := (List.getElem?_eq_some_iff.1 hu).1
      simpa [hol] using this
    rw [Addr.add_lit, Nat.zero_add]
    by_cases hjn : j = n
    · subst hjn
      rw [List.getElem?_append_right (by omega), hol, Nat.sub_self] at hu
      have hu : x = u := by simpa using hu
      subst hu
      obtain ⟨y, hy⟩ := Option.isSome_iff_exists.1 (hsp j (Nat.le_refl _) hroom).1
      exact World.cell?_setCell_same w ⟨g, j, none⟩ x hy
    · rw [World.cell?_setCell_other w ⟨g, n, none⟩ ⟨g, j, none⟩ x (fun e => by have h := congrArg Addr.off e; dsimp only at h; omega)]
      rw [List.getElem?_append_left (by omega)] at hu
      have := hoc j u hu
      rwa [Addr.add_lit, Nat.zero_add] at this
  · obtain ⟨v', w', hrun, own, gb⟩ := run_append_arg_grows (P := Try.prog) w t ty e i z 1 1 ht hi hz hsize hby hzs (by omega) ⟨g, 0, none⟩ n cap olds (by rw [hol]; omega) hoc ad 1 c [x] (by simp) hxc (by omega) (by unfold maxLen; omega) (by omega)
    obtain ⟨A, c', rfl⟩ := own_slice own
    exact ⟨A, c', w', hrun, Reads.of_own own, ⟨gb.os, gb.tape, gb.output, gb.size, fun k hk _ => gb.block k hk (by simp)⟩⟩
theorem reads_upto {w : World} {B n m : Nat} {A : Option Addr} {α : Type} {f : α → Value} {xs : List α} (h : Reads w B 1 A n (xs.map f)) (hm : m ≤ n) : Reads w B 1 A m ((xs.take m).map f) := by
  rw [List.map_take]
  refine ⟨by have := h.1; rw [List.length_take]; omega, fun hn => ?_⟩
  obtain ⟨ad, e, hb, hc⟩ := h.2 (by omega)
  refine ⟨ad, e, hb, fun j u hu => hc j u ?_⟩
  have hj : j < m := by
    have := (List.getElem?_eq_some_iff.1 hu).1
    rw [List.length_take] at this; omega
  rw [List.getElem?_take_of_lt hj] at hu
  exact hu
theorem wpList_append_text {w : World} {ops : Array Oper} {rest : List Oper} {o : Oper} {a : Act} {Q : Exit → Act → World → Prop} (hgd : o.guard = none) (s x : Operand) (t : TypeId)
    (ho : o.op = .call { callee := .builtin .append, args := #[s, x], argTypes := #[t, t] })
    (e : TypeId) (i : TypeInfo) (z : Value) (ht : Try.prog.underlying t = some (.slice e)) (hi : Try.prog.info? e = some i) (hz : i.zero = some z) (hsize : i.size = 1) (hby : i.bytes = 1) (hzs : z.cells.size = 1)
    (g n cap : Nat) (olds : List Value) (hs : a.eval s = .slice (some ⟨g, 0, none⟩) n cap) (hnc : n ≤ cap) (hg : g < w.heap.size) (hr : Reads w w.heap.size 1 (some ⟨g, 0, none⟩) n olds) (hsp : ∀ j, n ≤ j → j < cap → (w.cell? ⟨g, j, none⟩).isSome = true ∧ w.frozen? ⟨g, j, none⟩ = false)
    (B c : Nat) (ad : Addr) (y : Value) (hx' : a.eval x = .slice (some ad) 1 c) (hx : Reads w B 1 (some ad) 1 [y]) (h1 : y.oneCell' = true) (hn : n ≤ 1099511627776)
    (h : ∀ A c' w', Reads w' w'.heap.size 1 A (n + 1) (olds ++ [y]) → w.grownBy w' (some g) → wpList Try.prog ops Q rest (a.put o.dst (.slice A (n + 1) c')) w') : wpList Try.prog ops Q (o :: rest) a w := by
  obtain ⟨A, c', w', hrun, h2, h3⟩ := run_append_text w t o.type e i z ht hi hz hsize hby hzs g n cap olds hnc hg hr hsp B c ad y hx h1 hn
  refine wpList_plain hgd fun _ hK => ?_
  unfold Oper.wp execOp
  simp only [ho, resolve, invoke, builtin, Sem.run_bind, Sem.run_pure, Result.andThen_ok, List.map_toArray, List.map_cons, List.map_nil, hs, hx', hrun]
  exact hK _ _ (h A c' w' h2 h3)
theorem byte_k {k : Nat} (hk : k < 256) : Value.int .u8 (k : Int) = c8 (BitVec.ofNat 8 k) := by
  apply int_u8
  rw [BitVec.toNat_ofNat]; omega
/-- a tag of a text and a byte, built in place -/
theorem oftext_any {W : World} {A : Option Addr} {n c : Nat} {bs : List (BitVec 8)} {A1 : Option Addr} {n1 c1 k : Nat} {tb : List (BitVec 8)} (hk : k < 256) (hr : Reads W W.heap.size 1 A n (bs.map c8)) (hc : n ≤ c) (hn : n ≤ 1000)
    (hr1 : Reads W W.heap.size 1 A1 n1 (tb.map c8)) (hc1 : n1 ≤ c1) (hn1 : n1 ≤ 1000) (cc : Nat) :
    Calls Try.prog 46 #[.slice A n c, .slice (some ⟨W.heap.size + 1, 0, none⟩) 2 cc] ((W.alloc (.cells #[.int .u8 (k : Int)] 5)).alloc (.cells #[.slice A1 n1 c1, .slice (some ⟨W.heap.size, 0, none⟩) 1 1] 29)) fun e w' => e = .returned (.agg ((macOf bs (tb ++ [BitVec.ofNat 8 k])).map c8).toArray) ∧ Below W.heap.size W w' := by
  have hb1 := (Below.refl W.heap.size W).alloc (Nat.le_refl _) (.cells #[.int .u8 (k : Int)] 5)
  have ho := one_byte W (BitVec.ofNat 8 k)
  have hbk := byte_k hk
  have ho' : Reads (W.alloc (.cells #[.int .u8 (k : Int)] 5)) (W.alloc (.cells #[.int .u8 (k : Int)] 5)).heap.size 1 (some ⟨W.heap.size, 0, none⟩) 1 ([BitVec.ofNat 8 k].map c8) := by rw [hbk]; exact ho
  obtain ⟨q1, q2⟩ := rows_2 (hr1.later hb1) hc1 ho' (Nat.le_refl _) 29
  have l1 : tb.length = n1 := hr1.len
  have hb := hb1.alloc hb1.size (.cells #[.slice A1 n1 c1, .slice (some ⟨W.heap.size, 0, none⟩) 1 1] 29)
  have h := macof_any A n c bs _ 2 cc _ _ _ (hr.later hb) hc (by omega) q1 q2 (by omega) (by simp; omega)
  rw [show ([tb, [BitVec.ofNat 8 k]] : List (List (BitVec 8))).flatten = tb ++ [BitVec.ofNat 8 k] by simp] at h
  rw [show (W.alloc (.cells #[.int .u8 (k : Int)] 5)).heap.size = W.heap.size + 1 from by simp] at h
  exact h.mono (fun e w' ⟨h1, h2⟩ => ⟨h1, hb.trans (h2.mono (by simp; omega))⟩)
set_option maxRecDepth 100000 in
set_option maxHeartbeats 1600000 in
theorem derive_any (A : Option Addr) (n c : Nat) (bs : List (BitVec 8)) (s : ByteArray) (many : Int) (w : World) (hr : Reads w w.heap.size 1 A n (bs.map c8)) (hc : n ≤ c) (hn : n ≤ 1000) (hs : s.size ≤ 1000) (h1 : -9223372036854775808 ≤ many) (h2 : many ≤ 9223372036854775807) (m : Nat) (hm : m = (min (max many 0) 8192).toNat) :
    Calls Try.prog 51 #[.slice A n c, .string s, .int .i64 many] w fun e w' => ∃ A' c', e = .returned (.slice A' m c') ∧ m ≤ c' ∧ Reads w' w'.heap.size 1 A' m (((derOf bs (textOf s)).take m).map c8) ∧ Below w.heap.size w w' := by
  obtain ⟨i0, hi0, hz0, hz1, hz2⟩ := info_parts info_u8
  obtain ⟨Z, hZ, hZs⟩ := zeroId
  have hmm : (if 8192 < (if many < 0 then 0 else many) then 8192 else (if many < 0 then 0 else many)) = (m : Int) := by
    rw [hm]
    split <;> split <;> omega
  have hm8 : m ≤ 8192 := by omega
  obtain ⟨lb, hlb⟩ : ∃ lb, lb = textOf s := ⟨_, rfl⟩
  have HR := hide hr
  have HLB := hide hlb
  replace hZ := hide hZ
  replace hZs := hide hZs
  clear hr hm hlb
  go_enter Try.func51, Try.ntmps51
  go_upto_region 3 with fail
  clear hmm h1 h2
  generalize (if many < 0 then (0 : Int) else many) = zz
  go_wp2
  go_loopw [7, 8] (fun v i wr => ∃ (k q : Nat) (A : Option Addr) (c : Nat), k ≤ 256 ∧ v = .slice A q c ∧ i = .int .i64 (k : Int) ∧ (q ≤ 32 * k ∧ 32 * k ≤ q) ∧ Hid (wr.ownsRow w.heap.size 5 1 (.slice A q c) q ((derN bs lb k).map c8)) ∧ Hid (Below w.heap.size w wr)) (fun _ i _ => 257 - (intOf i).toNat)
  case atStart => exact ⟨0, 0, none, 0, by omega, rfl, rfl, ⟨by omega, by omega⟩, hide (World.ownsRow_nil _ _ _ _), hide (Below.refl _ _)⟩
  case round =>
    obtain ⟨k, q, A3, c3, hk, rfl, rfl, ⟨hq1, hq2⟩, ho, hB⟩ := hrel
    by_cases hlt : q < m
    · have hd : decide ((q : Int) < (m : Int)) = true := by simp; omega
      have hk256 : k < 256 := by omega
      have hk0 : (0 : Int) ≤ (k : Int) := by omega
      have hk1 : (k : Int) < 256 := by omega
      obtain ⟨cap, W1, hcv, hcap, hb1, hs1, hr1, _⟩ := text_conv wr s
      rw [← HLB.out] at hr1
      obtain ⟨R, hR⟩ := idVal (macOf bs (lb ++ [BitVec.ofNat 8 k])) (macOf_len _ _)
      have B1 := hide (below_next hB.out hb1)
      have HOF := hide (oftext_any hk256 ((HR.out.below B1.out).more B1.out.size) hc hn hr1 hcap (by omega) 2)
      rw [← hR.val] at HOF
      have HN := hide (derN_succ bs lb k)
      have Br := hide hb1
      replace hR := hide hR
      clear hb1 hs1 hr1
      go_wp2_with (first
        | (go_at_call 46; (with_reducible refine HOF.out.mono ?_); rintro e w2 ⟨rfl, hb2⟩; have Br2 := hide (below_next Br.out hb2); clear hb2)
        | ((with_reducible show wpList _ _ _ (⟨_, .alloc 44, _, _, _, _⟩ :: _) _ _); refine wpList_alloc_is rfl 44 rfl Z hZ.out ?_; have K1 := hide (Blk.new w2 44 Z); have Br3 := hide (Br2.out.alloc Br2.out.size (.cells Z 44)))
        | ((with_reducible show wpList _ _ _ (⟨_, .store _ _ _, _, _, _, _⟩ :: _) _ _); refine wpList_store_row rfl 44 _ _ rfl w2.heap.size rfl R rfl 44 _ K1.out hR.out.info (hZs.out.trans hR.out.size.symm) hR.out.one ?_; have K2 := hide (K1.out.setRow_ R); have Br4 := hide (below_setRow Br3.out Br2.out.size R); have O4 := hide (own_below ho.out Br4.out); have B4 := hide (hB.out.trans (Br4.out.mono hB.out.size)); have R4 := hide (K2.out.id8 hR.out); generalize (w2.alloc (.cells Z 44)).setRow w2.heap.size R = w3 at *)
        | (at_builtin; refine wpList_append_any _ rfl (.tmp 27) (.tmp 28) 29 rfl w.heap.size 5 i0 _ 1 1 Try.underlying29 hi0 hz0 hz1 hz2 rfl (by omega) _ q _ rfl O4.out _ (some ⟨w2.heap.size, 0, none⟩) 32 32 _ rfl R4.out (oneCell_c8 _) (by simp only [maxLen]; omega) (by omega) B4.out.size ?_; intro v5 W5 own5 grow5 hob; clear hob; have b5 := hide (below_appended B4.out B4.out.size O4.out (Nat.le_refl _) grow5); obtain ⟨A5, c5, rfl⟩ := own_slice own5; rw [← List.map_append, ← HN.out] at own5; replace own5 := hide own5; clear grow5))
      go_roundw
      case rel => exact ⟨k + 1, q + 32, A5, c5, hk256, rfl, int_succ k, ⟨by omega, by omega⟩, own5, b5⟩
      case measure => simp [intOf]; omega
    · have hd : decide ((q : Int) < (m : Int)) = false := by simp; omega
      have hcp := own_cap ho.out
      have hmc : (m : Int) ≤ (c3 : Int) := by omega
      have hm0 : (0 : Int) ≤ (m : Int) := by omega
      have RR := hide (reads_upto (Reads.of_own ho.out) (show m ≤ q by omega))
      rw [derOf_take bs lb k m hk (by omega), HLB.out] at RR
      have hmc' : m ≤ c3 := by omega
      go_wp2
      go_ret
      exact ⟨A3, c3, rfl, hmc', RR.out, hB.out⟩
end Go.Proofs.Ytdikknfdgpdenaa
