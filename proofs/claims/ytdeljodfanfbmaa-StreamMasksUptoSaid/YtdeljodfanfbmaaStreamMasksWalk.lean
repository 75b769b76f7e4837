/- The walk of StreamMasks. Condition: at most 1048576 pieces and bytes in all. -/
import Derived.Test.YtdeljodfanfbmaaStreamPlacesWalk
import Derived.Test.YtdeljodfanfbmaaRowsFew
namespace Go.Proofs.Ytdeljodfanfbmaa
open Go.RowKit Go.Shelf
set_option linter.unusedVariables false
set_option linter.unusedSimpArgs false
attribute [local go_sem] Gives givesUpon
attribute [local irreducible] Gives

theorem add64 (x : BitVec 64) (n : Nat) (hn : n ≤ 1099511627776) : ((x.toNat : Int) + (n : Int)) % 18446744073709551616 = ((x + BitVec.ofNat 64 n).toNat : Int) := by
  rw [BitVec.toNat_add, BitVec.toNat_ofNat]; omega
theorem add64w (x : BitVec 64) (n : Nat) (hn : n ≤ 1099511627776) : IntKind.u64.wrap ((x.toNat : Int) + (n : Int)) = ((x + BitVec.ofNat 64 n).toNat : Int) := (show IntKind.u64.wrap ((x.toNat : Int) + (n : Int)) = ((x.toNat : Int) + (n : Int)) % 18446744073709551616 from rfl).trans (add64 x n hn)
theorem own_grownR {w w' : World} {base n : Nat} {e : TypeId} {v : Value} {xs : List Value} {row : Option Nat} (h : w.ownsRow base e 1 v n xs) (hg : w.grownBy w' row) (hk : ∀ g, v.ownBlock = some g → row ≠ some g) : w'.ownsRow base e 1 v n xs := by
  refine ⟨h.1, ?_⟩
  rcases h.2 with h | ⟨g, cap, cur, h1, h2, h3⟩
  · exact .inl h
  · refine .inr ⟨g, cap, cur, h1, h2, ?_⟩
    have hne : some g ≠ row := fun e => hk g (by rw [h1]; rfl) e.symm
    first
      | exact ⟨(hg.block g (by have := h3.1; exact Blk.lt this) hne).trans h3.1, h3.2⟩
      | exact (hg.block g (Blk.lt h3) hne).trans h3
theorem StreamIs.grownR {w w' : World} {gs base n : Nat} {ks : List (BitVec 8)} {pl : BitVec 64} {v : Value} {xs : List Value} (h : StreamIs w gs ks pl) (ho : w.ownsRow base 5 1 v n xs) (hg : w.grownBy w' v.ownBlock) : StreamIs w' gs ks pl := by
  rcases ho.2 with ⟨rfl, _⟩ | ⟨g, cap, cur, rfl, h2, h3, _⟩
  · refine h.below ⟨hg.os, hg.tape, hg.output, hg.size, fun k hk => hg.block k hk (by simp [Value.ownBlock])⟩
  · exact h.grown hg h3 (by decide) (by decide) (by decide)
/-- a stream, a key, all bytes, and what was masked of them -/
def MskI (w : World) (gs B1 B2 : Nat) (ks : List (BitVec 8)) (KV : Array Value) (Aa : Option Addr) (ca : Nat) (N : List (BitVec 8)) (pl : BitVec 64) (Ao : Option Addr) (co : Nat) (O : List (BitVec 8)) (W : World) : Prop :=
  PlI w gs ks KV pl W ∧ B2 ≤ W.heap.size ∧ W.ownsRow B1 5 1 (.slice Aa N.length ca) N.length (N.map c8) ∧ (∀ g, (Value.slice Aa N.length ca).ownBlock = some g → g < B2) ∧ W.ownsRow B2 5 1 (.slice Ao O.length co) O.length (O.map c8)
theorem own_ne_stream {w : World} {gs base n : Nat} {ks : List (BitVec 8)} {pl : BitVec 64} {v : Value} {xs : List Value} (h : StreamIs w gs ks pl) (ho : w.ownsRow base 5 1 v n xs) : v.ownBlock ≠ some gs := by
  obtain ⟨_, _, _, _, hb, _⟩ := h
  exact own_blk_ne ho hb (by decide)
section
variable {w W W' : World} {gs B1 B2 : Nat} {ks : List (BitVec 8)} {KV : Array Value} {Aa Ao : Option Addr} {ca co : Nat} {N O : List (BitVec 8)} {pl pl' : BitVec 64}
theorem MskI.below (h : MskI w gs B1 B2 ks KV Aa ca N pl Ao co O W) (hb : Below W.heap.size W W') : MskI w gs B1 B2 ks KV Aa ca N pl Ao co O W' :=
  ⟨h.1.below hb, Nat.le_trans h.2.1 hb.size, own_under h.2.2.1 hb, h.2.2.2.1, own_under h.2.2.2.2 hb⟩
theorem MskI.grown (h : MskI w gs B1 B2 ks KV Aa ca N pl Ao co O W) (hs : StreamIs W' gs ks pl') (hg : W.grownBy W' (some gs)) (hn : w.heap.size < gs) : MskI w gs B1 B2 ks KV Aa ca N pl' Ao co O W' :=
  ⟨h.1.grown hs hg hn, Nat.le_trans h.2.1 hg.size, own_grown h.2.2.1 hg (own_ne_stream h.1.1 h.2.2.1), h.2.2.2.1, own_grown h.2.2.2.2 hg (own_ne_stream h.1.1 h.2.2.2.2)⟩
theorem MskI.drew (h : MskI w gs B1 B2 ks KV Aa ca N pl Ao co O W) : MskI w gs B1 B2 ks KV Aa ca N pl Ao co O W.drew := ⟨h.1.drew, h.2.1, h.2.2.1, h.2.2.2.1, h.2.2.2.2⟩
theorem MskI.stream (h : MskI w gs B1 B2 ks KV Aa ca N pl Ao co O W) : StreamIs W gs ks pl := h.1.1
theorem MskI.out_ (h : MskI w gs B1 B2 ks KV Aa ca N pl Ao co O W) : W.ownsRow B2 5 1 (.slice Ao O.length co) O.length (O.map c8) := h.2.2.2.2
theorem MskI.le (h : MskI w gs B1 B2 ks KV Aa ca N pl Ao co O W) : B2 ≤ W.heap.size := h.2.1
theorem MskI.bel (h : MskI w gs B1 B2 ks KV Aa ca N pl Ao co O W) : Below w.heap.size w W := h.1.2.2
theorem MskI.appended {A5 : Option Addr} {c5 : Nat} {O5 : List (BitVec 8)} (h : MskI w gs B1 B2 ks KV Aa ca N pl Ao co O W) (hB : w.heap.size ≤ B2) (hk : w.heap.size < B2) (hg : W.grownBy W' (Value.slice Ao O.length co).ownBlock) (own : W'.ownsRow B2 5 1 (.slice A5 O5.length c5) O5.length (O5.map c8)) : MskI w gs B1 B2 ks KV Aa ca N pl A5 c5 O5 W' := by
  obtain ⟨⟨h1, h2, h3⟩, h4, h5, h6, h7⟩ := h
  have hlo : ∀ g, (Value.slice Ao O.length co).ownBlock = some g → B2 ≤ g := by
    intro g e
    rcases h7.2 with ⟨h0, _⟩ | ⟨k, cap, cur, hv, hb, _⟩
    · rw [h0] at e; simp [Value.ownBlock] at e
    · rw [hv] at e; simp [Value.ownBlock] at e; omega
  refine ⟨⟨h1.grownR h7 hg, h2.grown hg (fun e => by have := hlo _ e.symm; omega), h3.grown hg (by omega) (fun q e => by have := hlo q e; omega)⟩, Nat.le_trans h4 hg.size, own_grownR h5 hg (fun g e e2 => by have := h6 g e; have := hlo g e2; omega), h6, own⟩
end
/-- the same, wherever the stream stands -/
def MskF (w : World) (gs B1 B2 : Nat) (ks : List (BitVec 8)) (KV : Array Value) (Aa : Option Addr) (ca : Nat) (N : List (BitVec 8)) (Ao : Option Addr) (co : Nat) (O : List (BitVec 8)) (W : World) : Prop := ∃ pl, MskI w gs B1 B2 ks KV Aa ca N pl Ao co O W
/-- a row of one's own, apart from the stream -/
def OwnR (gs n : Nat) (N : List (BitVec 8)) (v : Value) (W : World) : Prop := ∃ B A c, v = .slice A n c ∧ W.ownsRow B 5 1 (.slice A n c) n (N.map c8) ∧ (Value.slice A n c).ownBlock ≠ some gs
theorem OwnR.grown {gs n : Nat} {N : List (BitVec 8)} {v : Value} {W W' : World} (hg : W.grownBy W' (some gs)) (h : OwnR gs n N v W) : OwnR gs n N v W' := by
  obtain ⟨B, A, c, h1, h2, h3⟩ := h
  exact ⟨B, A, c, h1, own_grown h2 hg h3, h3⟩
set_option maxRecDepth 100000 in
set_option maxHeartbeats 6400000 in
theorem streamMasks_core (w : World) (key : List (BitVec 8)) (KV : Array Value) (hkl : key.length = 32) (hKV : KV = (key.map c8).toArray) (at_ : BitVec 64) (A2 : Option Addr) (n2 c2 : Nat) (vs : List Value) (ps : List (List (BitVec 8))) (r2 : Reads w w.heap.size 1 A2 n2 vs) (rs2 : Rows8 w w.heap.size vs ps) (k2 : n2 ≤ c2) (hb2 : ps.length + ps.flatten.length ≤ 1048576) :
    Calls Try.prog 12 #[.agg KV, .int .u64 (at_.toNat : Int), .slice A2 n2 c2] w fun e w' => e = .returned (.bool true) ∧ Below w.heap.size w w' := by
  have hb0 := (Below.refl w.heap.size w).alloc (Nat.le_refl _) (.cells KV 44)
  have P0 := Blk.new w 44 KV
  have HFew := hide (few_any A2 n2 c2 vs ps 300 (w.alloc (.cells KV 44)) ((r2.below hb0).more hb0.size) ((rs2.below hb0).more hb0.size) (by omega))
  by_cases hs : ps.length + ps.flatten.length ≤ 300
  · have hd : decide (((ps.length + ps.flatten.length : Nat) : Int) ≤ 300) = true := decide_eq_true (by omega)
    rw [hd] at HFew
    have hpl : ps.length = n2 := by have := rs2.1; have := r2.1; omega
    have hn2 : n2 ≤ 300 := by omega
    obtain ⟨i0, hi0, hz0, hz1, hz2⟩ := info_parts info_u8
    obtain ⟨ks, hks⟩ : ∃ ks, ks = keysOf sub8 key := ⟨_, rfl⟩
    have HN : Hid (Calls Try.prog 45 #[.slice (some ⟨w.heap.size, 0, none⟩) 32 32] (w.alloc (.cells KV 44)) fun e w' => ∃ g, e = .returned (.tuple #[.pointer (some ⟨g, 0, none⟩), .int .i64 0]) ∧ w.heap.size < g ∧ PlI w g ks KV 0#64 w') := hide (by
      refine (newstream_any _ 32 key _ ((hKV ▸ P0).key8 hkl |> fun h => (by rw [hKV]; exact h)) (by omega)).mono ?_
      rintro e w' ⟨g, rfl, hg, hs, hb⟩
      exact ⟨g, rfl, Nat.lt_of_lt_of_le P0.lt hg, by rw [hks]; exact hs, P0.below hb P0.lt, hb0.trans (hb.mono hb0.size)⟩)
    have HPl0 : Hid (∀ g W, PlI w g ks KV 0#64 W → Calls Try.prog 46 #[.pointer (some ⟨g, 0, none⟩)] W fun e w' => e = .returned (.int .u64 0) ∧ W = w') := hide fun g W h => place_any g ks 0#64 W h.1
    obtain ⟨N, hN⟩ : ∃ N, N = ps.flatten := ⟨_, rfl⟩
    have hNl : N.length ≤ 300 := by rw [hN]; omega
    have HJ : Hid (∀ g W, PlI w g ks KV 0#64 W → Calls Try.prog 47 #[.slice A2 n2 c2] W fun e w' => ∃ A' c', e = .returned (.slice A' N.length c') ∧ PlI w g ks KV 0#64 w' ∧ w'.ownsRow W.heap.size 5 1 (.slice A' N.length c') N.length (N.map c8)) := hide fun g W h => by
      refine (join_any A2 n2 c2 vs ps W ((r2.below h.2.2).more h.2.2.size) ((rs2.below h.2.2).more h.2.2.size) (by omega) (by omega)).mono ?_
      rintro e w' ⟨A', q, c', rfl, own, hb⟩
      rw [← hN] at own
      have hq : N.length = q := by have := own.1; simpa using this
      subst hq
      exact ⟨A', c', rfl, h.below hb, own⟩
    have HSk : Hid (∀ (g : Nat) (pl m : BitVec 64) (W : World), StreamIs W g ks pl → Calls Try.prog 48 #[.pointer (some ⟨g, 0, none⟩), .int .u64 (m.toNat : Int)] W fun e w' => e = .returned (.tuple #[]) ∧ StreamIs w' g ks m ∧ W.grownBy w' (some g)) := hide fun g pl m W h => seek_any g ks pl m W h
    have HRM : Hid (∀ (g : Nat) (pl : BitVec 64) (A : Option Addr) (c B : Nat) (W : World), PlI w g ks KV pl W → W.ownsRow B 5 1 (.slice A N.length c) N.length (N.map c8) → Calls Try.prog 50 #[.slice (some ⟨w.heap.size, 0, none⟩) 32 32, .int .u64 (at_.toNat : Int), .slice A N.length c] W fun e w' => ∃ A' c', e = .returned (.slice A' N.length c') ∧ Reads w' w'.heap.size 1 A' N.length ((maskL ks at_ N).map c8) ∧ Below W.heap.size W w') := hide fun g pl A c B W h own => by
      have hk := (hKV ▸ h.2.1).key8 hkl
      refine (refmask_any _ 32 key at_ A N.length c N W (by rw [hKV] at *; exact hk) (Reads.of_own own) (by omega)).mono ?_
      rintro e w' ⟨A', c', rfl, own', hb⟩
      rw [← hks] at own'
      exact ⟨A', c', rfl, Reads.of_own own', hb⟩
    have HP := hide hpl
    have HR := hide r2
    have HRS := hide rs2
    have HNe := hide hN
    clear hkl hKV hks hb0 P0 hd hs hb2 r2 rs2 hpl hN
    go_enter Try.func12, Try.ntmps12
    go_wp2_with (first
      | (go_at_call 43; (with_reducible refine HFew.out.mono ?_); rintro e w1 ⟨rfl, rfl⟩)
      | (go_at_call 45; (with_reducible refine HN.out.mono ?_); rintro e w1 ⟨gs, rfl, hgs, hp1⟩; have P1 := hide hp1; clear hp1)
      | (go_at_call 46; (with_reducible refine (HPl0.out gs w1 P1.out).mono ?_); rintro e w2 ⟨rfl, rfl⟩)
      | (go_at_call 47; (with_reducible refine (HJ.out gs w1 P1.out).mono ?_); rintro e w3 ⟨Aa, ca, rfl, hp3, own3⟩; have I3 : Hid (MskI w gs w1.heap.size w3.heap.size ks KV Aa ca N 0#64 none 0 [] w3) := hide ⟨hp3, Nat.le_refl _, own3, fun g e => (by rcases own3.2 with ⟨h0, _⟩ | ⟨k, cap, cur, hv, _, hh, _⟩; rw [h0] at e; simp [Value.ownBlock] at e; rw [hv] at e; have := Blk.lt hh; simp [Value.ownBlock] at e; omega), World.ownsRow_nil _ _ _ _⟩; clear hp3 own3)
      | (go_at_call 48; (with_reducible refine (HSk.out gs _ at_ w3 I3.out.stream).mono ?_); rintro e w4 ⟨rfl, hs4, hg4⟩; have I4 := hide (I3.out.grown hs4 hg4 hgs); clear hs4 hg4))
    have hw3 : w.heap.size < w3.heap.size := by have := I3.out.1.2.1.lt; exact this
    have hw3' : w.heap.size ≤ w3.heap.size := Nat.le_of_lt hw3
    clear P1 I3 HN HPl0 HJ HFew
    go_loopw [10, 40] (fun o v wr => ∃ (k : Nat) (A : Option Addr) (c q : Nat), k ≤ n2 ∧ v = .int .i64 (k : Int) ∧ o = .slice A q c ∧ Hid (q = (maskL ks at_ (ps.take k).flatten).length) ∧ Hid (MskI w gs w1.heap.size w3.heap.size ks KV Aa ca N (at_ + BitVec.ofNat 64 (ps.take k).flatten.length) A c (maskL ks at_ (ps.take k).flatten) wr)) (fun _ v _ => n2 - (intOf v).toNat)
    case atStart =>
      have e : at_ + BitVec.ofNat 64 ((ps.take 0).flatten.length) = at_ := by simp
      exact ⟨0, none, 0, 0, by omega, rfl, rfl, hide rfl, hide (by rw [e]; exact I4.out)⟩
    case round =>
      obtain ⟨k, Ao, co, q, hk, rfl, rfl, hq, HI⟩ := hrel
      clear I4
      by_cases hlt : k < n2
      · have hd : decide ((k : Int) < (n2 : Int)) = true := by simp; omega
        have hkp : k < ps.length := by rw [HP.out]; exact hlt
        obtain ⟨bA, oA, rfl, hbA⟩ := HR.out.addr' (by omega)
        obtain ⟨Ak, m, ck, hcell0, hrk, hmk⟩ := rows_at HR.out HRS.out hkp
        have hcell := (HI.out.bel.cell (p := ⟨bA, oA + k, none⟩) hbA).trans hcell0
        have HRK := hide ((hrk.below HI.out.bel).more HI.out.bel.size)
        have hml : ps[k].length = m := hrk.len
        have hlen := flatten_take_len ps k hkp
        have hNe := flatten_take ps k hkp
        obtain ⟨T, hT⟩ : ∃ T, T = (ps.take k).flatten := ⟨_, rfl⟩
        obtain ⟨P, hP⟩ : ∃ P, P = ps[k] := ⟨_, rfl⟩
        rw [← hT] at HI hq hlen hNe
        rw [← hP] at hml hlen hNe HRK
        obtain ⟨pl, hpl⟩ : ∃ pl, pl = at_ + BitVec.ofNat 64 T.length := ⟨_, rfl⟩
        have HX : Hid (maskL ks at_ (ps.take (k + 1)).flatten = maskL ks at_ T ++ maskL ks pl P) := hide (by rw [hNe, hpl]; exact maskL_append ks at_ T P)
        have HPL : Hid (at_ + BitVec.ofNat 64 (ps.take (k + 1)).flatten.length = pl + BitVec.ofNat 64 m) := hide (by rw [hNe, List.length_append, hml, hpl, BitVec.add_assoc, BitVec.ofNat_add])
        have hqt : q = T.length := by rw [hq.out, maskL_len]
        have hqm : q + m ≤ 300 := by have := HNe.out; rw [this] at hNl; omega
        rw [← hpl] at HI
        obtain ⟨O, hO⟩ : ∃ O, O = maskL ks at_ T := ⟨_, rfl⟩
        rw [← hO] at HI hq HX
        obtain ⟨M, hM⟩ : ∃ M, M = maskL ks pl P := ⟨_, rfl⟩
        have HMl : Hid (M.length = m) := hide (by rw [hM, maskL_len, hml])
        have hMk := mask_any gs ks pl Ak m ck P wr HI.out.stream HRK.out (by omega)
        rw [← hM] at HX hMk
        have HMk := hide hMk
        have k0 : (0 : Int) ≤ (k : Int) := by omega
        have k1 : (k : Int) < (n2 : Int) := by omega
        have hql := hq.out
        subst hql
        clear hcell0 hrk hmk hml hlen hNe hT hP hpl hqt hO hM hMk hq
        go_wp2_with (first
          | (go_at_call 49; (with_reducible refine HMk.out.mono ?_); rintro e w5 ⟨A5, c5, rfl, own5, hs5, hg5⟩; have I5 := hide (HI.out.grown hs5 hg5 hgs); have O5 := hide I5.out.out_; have R5 := hide (Reads.of_own own5); have HG5 := hide I5.out.le; clear own5 hs5 hg5)
          | (at_builtin; refine wpList_append_any _ rfl (.tmp 44) (.tmp 47) 51 rfl w3.heap.size 5 i0 _ 1 1 Try.underlying51 hi0 hz0 hz1 hz2 rfl (by omega) _ O.length _ rfl O5.out _ A5 m c5 _ rfl R5.out (oneCell_c8 _) (by simp only [maxLen]; omega) (by omega) HG5.out ?_; intro v7 W7 own7 grow7 _; obtain ⟨A7, c7, rfl⟩ := own_slice own7; rw [← List.map_append, ← HX.out] at own7; have hl7 : O.length + m = (maskL ks at_ (ps.take (k + 1)).flatten).length := (by rw [HX.out, List.length_append, HMl.out]); have HL7 := hide hl7; have I7 : Hid (MskI w gs w1.heap.size w3.heap.size ks KV Aa ca N (pl + BitVec.ofNat 64 m) A7 c7 (maskL ks at_ (ps.take (k + 1)).flatten) W7) := hide (I5.out.appended hw3' hw3 grow7 (by rw [← hl7]; exact own7)); clear own7 grow7 hl7))
        go_roundw
        case rel => exact ⟨k + 1, A7, c7, O.length + m, hlt, int_succ k, rfl, HL7, by rw [HPL.out]; exact I7⟩
        case measure => simp [intOf]; omega
      · obtain rfl : k = n2 := by omega
        have hd : decide ((k : Int) < (k : Int)) = false := by simp
        have hF : (ps.take k).flatten = N := by rw [List.take_of_length_le (Nat.le_of_eq HP.out), HNe.out]
        rw [hF] at hq HI
        obtain ⟨O, hO⟩ : ∃ O, O = maskL ks at_ N := ⟨_, rfl⟩
        rw [← hO] at hq HI
        obtain ⟨pl, hpl⟩ : ∃ pl, pl = at_ + BitVec.ofNat 64 N.length := ⟨_, rfl⟩
        rw [← hpl] at HI
        have hOl : O.length = N.length := by rw [hO, maskL_len]
        have hql : q = N.length := by rw [hq.out, hOl]
        subst hql
        have HOM : Hid (maskL ks at_ O = N) := hide (by rw [hO]; exact maskL_maskL ks at_ N)
        have hp1 : ((at_.toNat : Int) + (N.length : Int)) % 18446744073709551616 = (pl.toNat : Int) := by rw [hpl]; exact add64 at_ N.length (by omega)
        have hp2 : IntKind.u64.wrap ((at_.toNat : Int) + (N.length : Int)) = (pl.toNat : Int) := by rw [hpl]; exact add64w at_ N.length (by omega)
        have hp3 : IntKind.u64.wrap (N.length : Int) = (N.length : Int) := by rw [IntKind.wrap_u64]; omega
        have HF3 := hide (And.intro hp1 (And.intro hp2 hp3))
        have HOl := hide hOl
        have HRM2 : Hid (∀ W, Below wr.heap.size wr W → Calls Try.prog 50 #[.slice (some ⟨w.heap.size, 0, none⟩) 32 32, .int .u64 (at_.toNat : Int), .slice Aa N.length ca] W fun e w' => ∃ A' c', e = .returned (.slice A' N.length c') ∧ Reads w' w'.heap.size 1 A' N.length (O.map c8) ∧ Below W.heap.size W w') := hide fun W h => by
          have h2 := HI.out.below h
          rw [hO]; exact HRM.out gs pl Aa ca _ W h2.1 h2.2.2.1
        have S1 : Hid (∀ W, Below wr.heap.size wr W → Sem.run Try.prog (convert 51 9 (.slice Ao N.length co)) W = .ok (.string (strOf O)) W) := hide fun W h => by
          have h2 := (HI.out.below h).out_
          rw [hOl] at h2
          exact run_str W _ _ _ Try.underlying51 Try.underlying5 Try.underlying9 _ _ _ _ _ (Reads.of_own h2)
        have HPW : Hid (∀ W, Below wr.heap.size wr W → Calls Try.prog 46 #[.pointer (some ⟨gs, 0, none⟩)] W fun e w' => e = .returned (.int .u64 (pl.toNat : Int)) ∧ Below W.heap.size W w') := hide fun W h => by
          refine (place_any gs ks pl W (HI.out.below h).stream).mono ?_
          rintro e w' ⟨rfl, rfl⟩
          exact ⟨rfl, Below.refl _ _⟩
        clear HRM hF hO hpl hOl hp1 hp2 hp3 hq
        go_wp2
        apply wp_region_relT 18 (C := fun W => Below wr.heap.size wr W) (M := fun W W' => Below W.heap.size W W') (ss := [_, _, _, _, _, _, _, _, _, _, _, _, _, _, _, _, _, _]) (by kernel_rfl) (by kernel_rfl) (by kernel_rfl) (by kernel_rfl) (Below.refl _ _).drew
        simp only [List.take_succ_cons, List.take_zero, List.drop_succ_cons, List.drop_zero]
        repeat (first
          | (apply relWalk_const (fun W => Below.refl _ _)
             · (intro W hC hF
                clear hF
                obtain ⟨i1, i2, i3⟩ := HF3.out
                have s1 := S1.out W hC
                go_simp
                with_reducible exact rfl)
             (try simp only [Act.put, List.setIfInBounds_toArray, List.set_cons_zero, List.set_cons_succ])))
        refine relWalk_rel (fun v => v = .int .u64 (pl.toNat : Int)) (fun _ _ => True) ⟨_, rfl⟩ (fun _ _ _ _ _ => trivial) (by rfl) ?_ ?_
        · intro W hC hF
          refine gives_call rfl [.pointer (some ⟨gs, 0, none⟩)] rfl (enters_of Try.func46 (by kernel_rfl) rfl) ?_
          refine (HPW.out W hC).mono ?_
          rintro e w' ⟨rfl, hb⟩
          exact ⟨_, rfl, rfl, trivial, below_next hC hb, hb⟩
        rintro v rfl
        (try simp only [Act.put, List.setIfInBounds_toArray, List.set_cons_zero, List.set_cons_succ])
        repeat (first
          | (apply relWalk_const (fun W => Below.refl _ _)
             · (intro W hC hF
                clear hF
                obtain ⟨i1, i2, i3⟩ := HF3.out
                have s1 := S1.out W hC
                go_simp
                with_reducible exact rfl)
             (try simp only [Act.put, List.setIfInBounds_toArray, List.set_cons_zero, List.set_cons_succ])))
        refine relWalk_rel (fun v => ∃ A c, v = .slice A N.length c) (SliceOf8 N.length O) ⟨_, none, 0, rfl⟩ (fun v w w' hb h => SliceOf8.later v w w' hb h) (by rfl) ?_ ?_
        · intro W hC hF
          refine gives_call rfl [.slice (some ⟨w.heap.size, 0, none⟩) 32 32, .int .u64 (at_.toNat : Int), .slice Aa N.length ca] rfl (enters_of Try.func50 (by kernel_rfl) rfl) ?_
          refine (HRM2.out W hC).mono ?_
          rintro e w' ⟨A4, c4, rfl, hr4, hb⟩
          exact ⟨_, rfl, ⟨A4, c4, rfl⟩, ⟨rfl, hr4⟩, below_next hC hb, hb⟩
        rintro v ⟨A4, c4, rfl⟩
        (try simp only [Act.put, List.setIfInBounds_toArray, List.set_cons_zero, List.set_cons_succ])
        apply relWalk_const (fun W => Below.refl _ _)
        · intro W hC hF
          have h4 := run_str (P := Try.prog) W _ _ _ Try.underlying51 Try.underlying5 Try.underlying9 _ _ _ c4 _ (hF.1 (by kernel_rfl)).2
          clear hF
          go_simp
          exact rfl
        (try simp only [Act.put, List.setIfInBounds_toArray, List.set_cons_zero, List.set_cons_succ])
        repeat (first
          | (apply relWalk_const (fun W => Below.refl _ _)
             · (intro W hC hF
                clear hF
                go_simp
                with_reducible exact rfl)
             (try simp only [Act.put, List.setIfInBounds_toArray, List.set_cons_zero, List.set_cons_succ])))
        apply relWalk_nil
        intro W4 hC hF
        clear hF
        have I5 := hide (HI.out.below hC)
        clear hC HI S1 HRM2 HPW HF3
        go_wp2_with (go_at_call 48; (with_reducible refine (HSk.out gs _ at_ W4 I5.out.stream).mono ?_); rintro e w6 ⟨rfl, hs6, hg6⟩; have I6 := hide (I5.out.grown hs6 hg6 hgs); clear hs6 hg6)
        have HMO : Hid (∀ W, MskF w gs w1.heap.size w3.heap.size ks KV Aa ca N Ao co O W → StreamIs W gs ks at_ → Calls Try.prog 49 #[.pointer (some ⟨gs, 0, none⟩), .slice Ao N.length co] W fun e w' => ∃ v, e = .returned v ∧ (∃ A c, v = .slice A N.length c) ∧ OwnR gs N.length N v w' ∧ MskF w gs w1.heap.size w3.heap.size ks KV Aa ca N Ao co O w' ∧ W.grownBy w' (some gs)) := hide fun W h hst => by
          obtain ⟨pl, h⟩ := h
          have ho := h.out_
          rw [HOl.out] at ho
          refine (mask_any gs ks at_ Ao N.length co O W hst (Reads.of_own ho) (by omega)).mono ?_
          rintro e w' ⟨A', c', rfl, own, hs, hg⟩
          rw [HOM.out] at own
          exact ⟨_, rfl, ⟨A', c', rfl⟩, ⟨_, A', c', rfl, own, own_ne_stream hs own⟩, ⟨_, h.grown hs hg hgs⟩, hg⟩
        have S2 : Hid (∀ W, MskF w gs w1.heap.size w3.heap.size ks KV Aa ca N Ao co O W → Sem.run Try.prog (convert 51 9 (.slice Aa N.length ca)) W = .ok (.string (strOf N)) W) := hide fun W h => by
          obtain ⟨pl, h⟩ := h
          exact run_str W _ _ _ Try.underlying51 Try.underlying5 Try.underlying9 _ _ _ _ _ (Reads.of_own h.2.2.1)
        have I7 : Hid (MskI w gs w1.heap.size w3.heap.size ks KV Aa ca N at_ Ao co O w6.drew) := hide I6.out.drew
        clear I5 I6
        apply wp_region_stage (hv := [2, 3, 8]) (I := MskF w gs w1.heap.size w3.heap.size ks KV Aa ca N Ao co O) (C := fun W => StreamIs W gs ks at_) (ss := [_, _, _, _, _, _, _, _, _, _, _]) (by kernel_rfl) (by kernel_rfl) (by kernel_rfl) (by kernel_rfl) ⟨_, I7.out⟩ I7.out.stream
        repeat (first
          | (apply stWalk_light
             · rfl
             · (intro W hI
                have s2 := S2.out W hI
                go_simp
                with_reducible exact rfl)
             (try simp only [Act.put, List.setIfInBounds_toArray, List.set_cons_zero, List.set_cons_succ])))
        refine stWalk_turn (fun v => ∃ A c, v = .slice A N.length c) (fun v W => OwnR gs N.length N v W) (by rfl) ⟨_, none, 0, rfl⟩ (by rfl) ?_ ?_
        · intro W hI hC
          refine gives_call rfl [.pointer (some ⟨gs, 0, none⟩), .slice Ao N.length co] rfl (enters_of Try.func49 (by kernel_rfl) rfl) ?_
          refine (HMO.out W hI hC).mono ?_
          rintro e w' ⟨v, rfl, h1, h2, h3, h4⟩
          exact ⟨_, rfl, h1, h3, h2⟩
        rintro v ⟨A8, c8_, rfl⟩
        (try simp only [Act.put, List.setIfInBounds_toArray, List.set_cons_zero, List.set_cons_succ])
        apply stWalk_turnc (c := .string (strOf N)) (fun _ => True)
        · rfl
        · rfl
        · intro W hI hC
          obtain ⟨B9, A9, c9, he, own9, _⟩ := hC
          obtain ⟨rfl, rfl⟩ : A8 = A9 ∧ c8_ = c9 := by injection he with he1 _ he2; exact ⟨he1, he2⟩
          have h4 := run_str (P := Try.prog) W _ _ _ Try.underlying51 Try.underlying5 Try.underlying9 _ _ _ c8_ _ (Reads.of_own own9)
          have HI9 := hide hI
          clear own9 he hI
          go_simp
          exact HI9.out
        (try simp only [Act.put, List.setIfInBounds_toArray, List.set_cons_zero, List.set_cons_succ])
        repeat (first
          | (apply stWalk_light
             · rfl
             · (intro W hI
                have s2 := S2.out W hI
                go_simp
                with_reducible exact rfl)
             (try simp only [Act.put, List.setIfInBounds_toArray, List.set_cons_zero, List.set_cons_succ])))
        apply stWalk_turnc (c := .bool true) (fun _ => True)
        · rfl
        · rfl
        · intro W hI hC
          refine gives_call rfl [] rfl (enters_of Try.func44 (by kernel_rfl) rfl) ?_
          refine (alive07_any W).mono ?_
          rintro e w' ⟨rfl, hb⟩
          obtain ⟨pl, hI⟩ := hI
          exact ⟨_, rfl, rfl, ⟨_, hI.below hb⟩, trivial⟩
        (try simp only [Act.put, List.setIfInBounds_toArray, List.set_cons_zero, List.set_cons_succ])
        repeat (first
          | (apply stWalk_light
             · rfl
             · (intro W hI
                go_simp
                with_reducible exact rfl)
             (try simp only [Act.put, List.setIfInBounds_toArray, List.set_cons_zero, List.set_cons_succ])))
        refine stWalk_nil ?_
        intro W hI hC
        have hend : Hid (Below w.heap.size w W) := hide (by obtain ⟨pl, h⟩ := hI; exact h.bel)
        clear hI hC
        go_wp2
        go_ret
        exact ⟨rfl, hend.out⟩
  · have hd : decide (((ps.length + ps.flatten.length : Nat) : Int) ≤ 300) = false := decide_eq_false (by omega)
    rw [hd] at HFew
    have HB0 := hide hb0
    clear hd hs hb2 r2 rs2 hb0 P0 hKV hkl
    go_enter Try.func12, Try.ntmps12
    go_wp2_with (first
      | (go_at_call 43; (with_reducible refine HFew.out.mono ?_); rintro e w1 ⟨rfl, rfl⟩)
      | (go_at_call 44; (with_reducible refine (alive07_any _).mono ?_); rintro e w7 ⟨rfl, hb7⟩; have B7 := hide (below_next HB0.out hb7); clear hb7))
    go_ret
    exact ⟨rfl, B7.out⟩
theorem streamMasks_walk (w : World) (b0 : List (BitVec 8)) (l0 : b0.length = 32) (x1 : BitVec 64) (A2 : Option Addr) (n2 c2 : Nat) (vs2 : List Value) (ps2 : List (List (BitVec 8))) (r2 : Reads w w.heap.size 1 A2 n2 vs2) (rs2 : Rows8 w w.heap.size vs2 ps2) (m2 : n2 ≤ 9223372036854775807) (k2 : n2 ≤ c2) (b2 : ps2.length + ps2.flatten.length ≤ 1048576) :
    Calls Try.prog 12 #[.agg (b0.map c8).toArray, .int .u64 (x1.toNat : Int), .slice A2 n2 c2] w fun e w' => e = .returned (.bool true) ∧ Below w.heap.size w w' :=
  streamMasks_core w b0 _ l0 rfl x1 A2 n2 c2 vs2 ps2 r2 rs2 k2 b2
end Go.Proofs.Ytdeljodfanfbmaa
