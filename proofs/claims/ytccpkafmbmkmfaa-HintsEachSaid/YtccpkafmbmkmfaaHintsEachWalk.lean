/- The walk of miradorlaw24.HintsEach. No condition. -/
import Derived.Test.YtccpkafmbmkmfaaHintsLenBool
import Derived.Test.YtccpkafmbmkmfaaHintsAlive
import Derived.Test.YtccpkafmbmkmfaaRefKeys
import Derived.RangeFuncWrites
namespace Go.Proofs.Ytccpkafmbmkmfaa
open Go.RowKit Go.Shelf
set_option linter.unusedVariables false
set_option linter.unusedSimpArgs false
attribute [local go_sem] Oper.semAt_some
attribute [local go_sem] Gives givesUpon
attribute [local irreducible] Gives

theorem seq1_nil (f : Nat) (c : Array Value) (W : World) : Sem.run Try.prog (binOp BinOp.eql 41 (.func (.func f) #[] c) .nilFunc) W = .ok (.bool false) W := by kernel_rfl
theorem keysP_nodup (ks : List Int) : (keysP ks).Nodup := by
  suffices h : ∀ (r : List Int), (keysP r.reverse).Nodup by simpa using h ks.reverse
  intro r
  induction r with
  | nil => simp [keysP]
  | cons a r ih =>
    rw [List.reverse_cons, keysP_snoc]
    split
    · exact ih
    · rename_i h
      refine List.nodup_append.2 ⟨ih, by simp, fun x hx y hy => ?_⟩
      simp only [List.mem_singleton] at hy
      subst hy
      exact fun e => h (e ▸ hx)
theorem keysP_len (ks : List Int) : (keysP ks).length ≤ ks.length := by
  suffices h : ∀ (r : List Int), (keysP r.reverse).length ≤ r.length by simpa using h ks.reverse
  intro r
  induction r with
  | nil => simp [keysP]
  | cons a r ih =>
    rw [List.reverse_cons, keysP_snoc]
    split
    · simp; omega
    · simp; omega
/-- the index when so many numbers have been noted for true -/
def EachC (xs : List Int) (C : Noted Bool) : Prop := valsOf C true = xs ∧ totalOf C = xs.length
theorem EachC.nil : EachC [] [] := ⟨rfl, rfl⟩
theorem EachC.note {xs : List Int} {C : Noted Bool} (h : EachC xs C) (hk : MKeys C) (v : Int) : EachC (if v ∈ xs then xs else xs ++ [v]) (hBool.noteC C true v) := by
  obtain ⟨h1, h2⟩ := h
  unfold EachC
  rw [hBool.vals_note hk, hBool.total_note hk, h1]
  by_cases hm : v ∈ xs
  · simp [hm, h1, h2]
  · simp [hm, h1, h2]
theorem EachC.strike {xs : List Int} {C : Noted Bool} (h : EachC xs C) (hk : MKeys C) (v : Int) (hv : v ∈ xs) : EachC (xs.erase v) (hBool.strikeC C true v) := by
  obtain ⟨h1, h2⟩ := h
  have h3 := hBool.total_strike hk true v
  have h4 := List.length_erase_of_mem hv
  refine ⟨by rw [hBool.vals_strike hk, if_pos rfl, h1], ?_⟩
  rw [h1, if_pos hv] at h3
  omega
theorem box_two (w : World) (t1 t2 : TypeId) (c1 : Array Value) (v : Value) : ((w.alloc (.cells c1 t1)).alloc (.cells #[v] t2)).cell? ⟨w.heap.size + 1, 0, none⟩ = some v := by
  obtain ⟨V, hV, _, _, h2, _⟩ := blks2 w t1 t2 c1 #[v]
  rw [hV]; exact (h2.cell 0).trans rfl
theorem free_two (w : World) (t1 t2 : TypeId) (c1 : Array Value) (v : Value) : ((w.alloc (.cells c1 t1)).alloc (.cells #[v] t2)).frozen? ⟨w.heap.size + 1, 0, none⟩ = false := by
  obtain ⟨V, hV, _, _, h2, _⟩ := blks2 w t1 t2 c1 #[v]
  rw [hV]; exact h2.frozen 0
theorem below_two (w : World) (o1 o2 : Obj) : Below w.heap.size w ((w.alloc o1).alloc o2) := ((Below.refl _ w).alloc (Nat.le_refl _) _).alloc (by simp) _
set_option maxRecDepth 100000 in
theorem hintsEach_big (A : Option Addr) (n c q : Nat) (hn : 100 < n) (w : World) :
    Calls Try.prog 5 #[.slice A n c, .int .u8 (q : Int)] w fun e w' => e = .returned (.bool true) ∧ Below w.heap.size w w' := by
  have hd : decide ((100 : Int) < (n : Int)) = true := by simp; omega
  go_enter Try.func5, Try.ntmps5
  go_wp2_with (go_at_call 19; with_reducible refine (alive24_any _).mono ?_; rintro e w1 ⟨rfl, hb1⟩; have B1 := hide (below_next (below_two w (.cells #[.int .u8 (q : Int)] 5) (.cells #[.bool false] 4)) hb1); have k1 : w1.cell? ⟨w.heap.size + 1, 0, none⟩ = some (.bool false) := (hb1.cell (p := ⟨w.heap.size + 1, 0, none⟩) (by simp)).trans (box_two _ _ _ _ _); have f1 : w1.frozen? ⟨w.heap.size + 1, 0, none⟩ = false := (hb1.frozen (p := ⟨w.heap.size + 1, 0, none⟩) (by simp)).trans (free_two _ _ _ _ _); clear hb1)
  refine ⟨rfl, .bool true, ?_, rfl, B1.out.setCell (p := ⟨w.heap.size + 1, 0, none⟩) (by dsimp only; omega) _⟩
  have k2 := World.cell?_setCell_same' w1 ⟨w.heap.size + 1, 0, none⟩ (.bool true) (by rw [k1]; rfl)
  simp [results, Try.f5, go_sem, k2]
def EachK (n0 x3 : Nat) (i : Nat) : Prop := (i = n0 ∨ i = n0 + 1) ∨ i = x3
theorem EachC.more {xs ys : List Int} {C : Noted Bool} (h : EachC xs C) (e : xs = ys) : EachC ys C := e ▸ h
theorem drop_erase (xs : List Int) (k : Nat) (hk : k < xs.length) : (xs.drop k).erase xs[k] = xs.drop (k + 1) := by
  rw [List.drop_eq_getElem_cons hk, List.erase_cons_head]
theorem pre_next {xs pre : List Int} (h : pre <+: xs) (hk : pre.length < xs.length) : pre ++ [xs[pre.length]] <+: xs := by
  obtain ⟨t, rfl⟩ := h
  cases t with
  | nil => simp at hk
  | cons y t => simp
theorem pre_not {xs pre : List Int} {x : Int} (hx : ∀ h : pre.length < xs.length, x ≠ xs[pre.length]) : ¬ pre ++ [x] <+: xs := by
  rintro ⟨t, e⟩
  have hlt : pre.length < xs.length := by rw [← e]; simp
  refine hx hlt ?_
  simp only [← e]
  simp
/-- between two rounds: what is left in the index, what lies as it lay, how many have come -/
structure EachI (w W0 : World) (K3 : Nat → Prop) (g b Bn : Nat) (xs : List Int) (q : Nat) (pre : List Int) (W : World) : Prop where
  live : ∃ C, EachC (xs.drop pre.length) C ∧ hBool.Live w W K3 g b C
  spared : hBool.Spared (fun i => K3 i ∧ i ≠ Bn) W0 W
  cnt : Blk W Bn 3 #[.int .i64 (pre.length : Int)]
  pre_ : pre <+: xs
  le : pre.length ≤ q
theorem EachI.below {w W0 W : World} {K3 : Nat → Prop} {g b Bn : Nat} {xs : List Int} {q : Nat} {pre : List Int} (h : EachI w W0 K3 g b Bn xs q pre W) : Below w.heap.size w W := by
  obtain ⟨C, _, hl⟩ := h.live; exact hl.below
theorem EachI.own {w W0 : World} {K3 : Nat → Prop} {g b Bn : Nat} {xs : List Int} {q : Nat} (hb : b < W0.heap.size) (hK : ∀ i, K3 i → i < W0.heap.size) (hn : Bn < W0.heap.size) (hw : w.heap.size ≤ W0.heap.size) {pre : List Int} {A B : World} {row : Option Nat}
    (h : EachI w W0 K3 g b Bn xs q pre A) (hg : A.grownBy B row) (hr : ∀ r, row = some r → W0.heap.size ≤ r ∧ ∃ o : Obj, A.heap[r]? = some o ∧ o.isCells = false) : EachI w W0 K3 g b Bn xs q pre B := by
  obtain ⟨⟨C, hC, hl⟩, h2, h3, h4, h5⟩ := h
  refine ⟨⟨C, hC, hl.own hg fun r e => ⟨by have := (hr r e).1; omega, fun e' => by have := (hr r e).1; omega, (hr r e).2⟩⟩, ⟨Nat.le_trans h2.1 hg.size, fun i hi hk => (hg.block i (Nat.lt_of_lt_of_le hi h2.1) (fun e => ?_)).trans (h2.2 i hi hk)⟩, h3.grown hg (fun e => ?_), h4, h5⟩
  · have := (hr i e.symm).1; omega
  · have := (hr Bn e.symm).1; omega
theorem touch_from {g b B : Nat} {W W' : World} (h : Touch (fun i => i = g ∨ i = b) W W') (hg : g < B) (hb : b < B) : KeepsFrom B W W' ∧ hBool.KpC B W W' :=
  ⟨⟨h.size, fun k o hk ho _ => (h.block k (Array.getElem?_eq_some_iff.1 ho).1 (fun e => by omega)).trans ho⟩, fun i cs t fr hi hA => h.block i (Array.getElem?_eq_some_iff.1 hA).1 (fun e => by omega)⟩
theorem kp_set {B q i : Nat} {u : Value} {W : World} (hq : q < B) : hBool.KpC B W (W.setCell ⟨q, i, none⟩ u) := fun j cs t fr hj hA => Below.heap_setCell _ _ _ _ (fun e => by have e : j = q := e; omega)
set_option maxRecDepth 100000 in
set_option maxHeartbeats 3200000 in
theorem hintsEach_in (A : Option Addr) (n c q : Nat) (zs : List Int) (hq : q < 256) (hn : n ≤ 100) (w : World) (hr : Reads w w.heap.size 1 A n (zs.map ci)) (hz : InI zs) :
    CallsIn Fence.wide 6 Try.prog 5 #[.slice A n c, .int .u8 (q : Int)] w fun e w' => e = .returned (.bool true) ∧ Below w.heap.size w w' := by
  have hl := hr.len
  have HL := hide hl
  have HR := hide hr
  have HZ := hide hz
  clear hl hr hz
  refine callsIn_of_wp_marks Try.func5 rfl trivial ?_ rfl
  simp only [Try.ntmps5, List.size_toArray, List.length_cons, List.length_nil, Nat.reduceAdd, Nat.reduceSub, Array.replicate_succ, Array.replicate_zero, List.push_toArray, List.append_toArray, List.nil_append, List.cons_append]
  refine wpIn_wide.2 ?_
  have hd : decide ((100 : Int) < (n : Int)) = false := by simp; omega
  have SN := seq1_nil
  have HB2 := hide (below_two w (.cells #[.int .u8 (q : Int)] 5) (.cells #[.bool false] 4))
  have HT2 : Hid (hBool.There ((w.alloc (.cells #[.int .u8 (q : Int)] 5)).alloc (.cells #[.bool false] 4)) (fun i => i = w.heap.size ∨ i = w.heap.size + 1)) := hide fun i hi => by simp; omega
  go_wp2_with (first
    | (go_at_call 20; (with_reducible refine (hBool.live_new' HB2.out HT2.out).mono ?_); rintro e w3 ⟨g, b, rfl, hl3, hb3, hg3, hbm3⟩; replace hl3 := hide hl3; replace hb3 := hide hb3)
    | fail)
  obtain ⟨V, hV, szV, v1, v2, hBV⟩ := blks2 w 5 4 #[.int .u8 (q : Int)] #[.bool false]
  rw [hV] at hb3 hg3 hbm3
  rw [szV] at hg3 hbm3
  have q1 := v1.below hb3.out (by omega)
  have q2 := v2.below hb3.out (by omega)
  have sz3 := hb3.out.size
  rw [szV] at sz3
  have hl3' := hl3.out.more (K' := EachK w.heap.size w3.heap.size) (by intro i hi hni; rcases hi with hi | hi; exact absurd hi hni; omega)
  obtain ⟨W4, hW4⟩ : ∃ W4, W4 = w3.alloc (.cells #[.pointer (some ⟨g, 0, none⟩)] 36) := ⟨_, rfl⟩
  have H4 := hide (hl3'.later (W' := W4) (by rw [hW4]; exact (Below.refl _ _).alloc (Nat.le_refl _) _))
  have p1 := hide (q1.alloc (.cells #[.pointer (some ⟨g, 0, none⟩)] 36))
  have p2 := hide (q2.alloc (.cells #[.pointer (some ⟨g, 0, none⟩)] 36))
  have p3 := hide (Blk.new w3 36 #[.pointer (some ⟨g, 0, none⟩)])
  rw [← hW4] at p1 p2 p3 ⊢
  have sz4 : W4.heap.size = w3.heap.size + 1 := by rw [hW4]; simp
  clear q1 q2 hl3' hl3 hb3 hBV v1 v2 hV szV V HB2 HT2 hW4
  generalize w3.heap.size = x3 at *
  clear w3
  have HTh : Hid (∀ wr : World, hBool.Spared (EachK w.heap.size x3) W4 wr → hBool.There wr (EachK w.heap.size x3)) := hide fun wr hs i hi => by
    have := hs.1
    rcases hi with (hi | hi) | hi <;> omega
  go_loopw [7, 21] (fun x i wr => ∃ (k : Nat) (C : Noted Bool), k ≤ n ∧ i = .int .i64 (k : Int) ∧ Hid (EachC (keysP (zs.take k)) C) ∧ Hid (hBool.Live w wr (EachK w.heap.size x3) g b C) ∧ Hid (hBool.Spared (EachK w.heap.size x3) W4 wr)) (fun _ i _ => n - (intOf i).toNat)
  case atStart => exact ⟨0, [], Nat.zero_le _, rfl, hide EachC.nil, H4, hide (hBool.Spared.refl _ _)⟩
  case round =>
    obtain ⟨k, C, hk, rfl, HC, HV, HS⟩ := hrel
    have B0 := HV.out.below
    have p3' := HS.out.blk p3.out (.inr rfl)
    have c3 : wr.cell? ⟨x3, 0, none⟩ = some (.pointer (some ⟨g, 0, none⟩)) := (p3'.cell 0).trans rfl
    have hkl := hide (show totalOf C ≤ 100 from by rw [HC.out.2]; exact Nat.le_trans (keysP_len _) (Nat.le_trans (List.length_take_le _ _) (by omega)))
    by_cases hlt : k < n
    · have hd1 : decide ((k : Int) < (n : Int)) = true := by simpa using hlt
      obtain ⟨ga, oa, rfl, hga⟩ := HR.out.addr' (by omega)
      obtain ⟨ad, e, _, hc⟩ := HR.out.get (k := k) (by rw [HL.out]; exact hlt)
      cases e
      rw [Addr.add_lit] at hc
      replace hc := (B0.cell (p := ⟨ga, oa + k, none⟩) hga).trans hc
      have hzb := HZ.out _ (List.getElem_mem (show k < zs.length by rw [HL.out]; exact hlt))
      have HN := hide (show keysP (zs.take (k + 1)) = if (zs[k]'(by rw [HL.out]; exact hlt)) ∈ keysP (zs.take k) then keysP (zs.take k) else keysP (zs.take k) ++ [zs[k]'(by rw [HL.out]; exact hlt)] from by rw [List.take_succ_eq_append_getElem (by rw [HL.out]; exact hlt), keysP_snoc])
      generalize (zs[k]'(by rw [HL.out]; exact hlt)) = v at *
      have HCall := hide (hBool.live_note true trivial v hzb HV.out (by have := hkl.out; omega) (HTh.out wr HS.out))
      replace p3' := hide p3'
      replace B0 := hide B0
      go_wp2_with (first
        | (go_at_call 21; (with_reducible refine HCall.out.mono ?_); rintro e w5 ⟨rfl, hl5, hs5⟩; have HL5 := hide hl5; have HS5 := hide (HS.out.trans hs5); clear hl5 hs5)
        | fail)
      go_roundw
      case rel => exact ⟨k + 1, _, by omega, by go_num, hide (by rw [HN.out]; exact HC.out.note HV.out.keys v), HL5, HS5⟩
      case measure => simp [intOf]; omega
    · obtain rfl : k = n := by omega
      have e0 : zs.take k = zs := List.take_of_length_le (by rw [HL.out]; exact Nat.le_refl _)
      rw [e0] at HC
      clear e0
      obtain ⟨xs, hxs⟩ : ∃ xs, xs = keysP zs := ⟨_, rfl⟩
      have HX := hide hxs
      have HNd := hide (show xs.Nodup by rw [hxs]; exact keysP_nodup zs)
      rw [← hxs] at HC
      clear hxs
      have hxl : xs.length ≤ 100 := by rw [← HC.out.2]; exact hkl.out
      have HAt := hide (hBool.live_at true trivial HV.out (by have := hkl.out; omega))
      rw [HC.out.1] at HAt
      have HM := hide (HV.out.more (K' := fun i => EachK w.heap.size x3 i ∨ wr.heap.size ≤ i) (fun i hi hni => hi.resolve_left hni))
      replace p3' := hide p3'
      replace B0 := hide B0
      go_wp2_with (first
        | (go_at_call 22; (with_reducible refine HAt.out.mono ?_); rintro e w6 ⟨v6, rfl, ho6, hb6⟩; obtain ⟨A6, c6, rfl⟩ := own_slice ho6; replace ho6 := hide ho6; replace hb6 := hide hb6; have c3' : w6.cell? ⟨x3, 0, none⟩ = some (.pointer (some ⟨g, 0, none⟩)) := ((p3'.out.below hb6.out p3'.out.lt).cell 0).trans rfl; have hx6 : x3 < w6.heap.size := Nat.lt_of_lt_of_le p3'.out.lt hb6.out.size)
        | (go_at_call 23; (with_reducible refine (hBool.each_any _ _ _).mono ?_); rintro e w' ⟨rfl, rfl⟩)
        | fail)
      obtain ⟨W0, hW0, szW, b1, b2, b3, b4, hB0⟩ := blks4 w6 35 36 4 3 #[.slice A6 xs.length c6] #[.pointer (some ⟨g, 0, none⟩)] #[.bool true] #[.int .i64 0]
      clear SN
      change Code.wp _ _ _ _ ((((w6.alloc (.cells #[.slice A6 xs.length c6] 35)).alloc (.cells #[.pointer (some ⟨g, 0, none⟩)] 36)).alloc (.cells #[.bool true] 4)).alloc (.cells #[.int .i64 0] 3))
      rw [hW0]
      have hbw : Below wr.heap.size wr W0 := below_next hb6.out hB0
      have sw6 := hb6.out.size
      have e1 := hide ((HS.out.blk p1.out (.inl (.inl rfl))).below hbw (Blk.lt (HS.out.blk p1.out (.inl (.inl rfl)))))
      have e2 := hide ((HS.out.blk p2.out (.inl (.inr rfl))).below hbw (Blk.lt (HS.out.blk p2.out (.inl (.inr rfl)))))
      have e3 := hide (p3'.out.below hbw p3'.out.lt)
      have HR6 := hide (fun r (hr : (Value.slice A6 xs.length c6).ownBlock = some r) => (own_lt ho6.out hr).2)
      have HO := hide (own_block ho6.out fun r hr => hB0.block r (own_lt ho6.out hr).2)
      obtain ⟨K3, hK3⟩ : ∃ K3, K3 = fun i => EachK w.heap.size x3 i ∨ (wr.heap.size ≤ i ∧ i < W0.heap.size) := ⟨_, rfl⟩
      have HK3 := hide ((HM.out.later hbw).more (K' := fun i => EachK w.heap.size x3 i ∨ (wr.heap.size ≤ i ∧ i < W0.heap.size)) (fun i hi hni => absurd (hi.imp id fun h => h.1) hni))
      have hTl := hide (hBool.live_tells true trivial HK3.out (by have := hkl.out; omega))
      rw [HC.out.1] at hTl
      have hxr : x3 < wr.heap.size := p3'.out.lt
      have hwx : w.heap.size ≤ wr.heap.size := B0.out.size
      have hgb := HK3.out.blocks
      have hkK : Hid (∀ i, K3 i → i < W0.heap.size) := hide fun i hi => by
        rw [hK3] at hi
        rcases hi with ((hi | hi) | hi) | hi <;> omega
      have HIx := hide (show InI xs from fun y hy => HZ.out y (by rw [HX.out, keysP_mem] at hy; exact hy))
      have kq : Hid (K3 w.heap.size ∧ K3 (w.heap.size + 1) ∧ K3 x3 ∧ ∀ i, wr.heap.size ≤ i → i < W0.heap.size → K3 i) := hide (by
        rw [hK3]; exact ⟨.inl (.inl (.inl rfl)), .inl (.inl (.inr rfl)), .inl (.inr rfl), fun i h1 h2 => .inr ⟨h1, h2⟩⟩)
      rw [← hK3] at HK3
      clear hK3 hW0 hb6 ho6 HM HAt p1 p2 p3 p3' c3 c3' hx6 HS HV HTh H4 hkl HX HZ
      have hstops := hide (hBool.each1_stops 5 (by omega) (w6.heap.size + 1) (w6.heap.size + 2) (some ⟨g, 0, none⟩) true xs HIx.out (by omega) (hBool.KpC W0.heap.size) W0 (fun A B h i cs t fr hi hA => h i cs t fr hi hA) (by omega) (by omega) ((b2.cell 0).trans rfl) ((b3.cell 0).trans rfl) hTl.out)
      generalize w6.heap.size = p6 at *
      generalize wr.heap.size = p5 at *
      refine (wpIn_wide (n := 6)).1 ?_
      refine wpIn_rangeFunc_ownG rfl (by omega) (gf := 77) (lb := #[.pointer (some ⟨p6 + 1, 0, none⟩), .pointer (some ⟨p6 + 2, 0, none⟩)]) rfl trivial (enters_of Try.func77 (by kernel_rfl) rfl)
        hstops.out hBool.KpC.trans hBool.KpC.book (Below.refl _ _) (fun _ => rfl)
        (EachI w W0 K3 g b (p6 + 3) xs q)
        (fun c pre W => (c = .ret ∧ ¬ pre <+: xs) ∨ (c = .exit 2 ∧ EachI w W0 K3 g b (p6 + 3) xs q pre.dropLast W ∧ pre.dropLast.length = q ∧ pre ≠ []))
        ?hI ?hIx ?h0 ?a1 ?assign ?body ?done ?stop
      case hI => exact fun s A B row hs hg hr => hs.own (by omega) hkK.out (by omega) (by omega) hg hr
      case hIx =>
        intro c s A B row hs hg hr
        rcases hs with hs | ⟨h1, h2, h3⟩
        · exact .inl hs
        · exact .inr ⟨h1, h2.own (by omega) hkK.out (by omega) (by omega) hg hr, h3⟩
      case h0 => exact ⟨⟨C, by simpa using HC.out, HK3.out⟩, hBool.Spared.refl _ _, b4, List.nil_prefix, Nat.zero_le _⟩
      case assign =>
        intro l x W K hK
        gi_wp2
        exact hK
      case body =>
        clear b2 b3 b4 HC HK3 hTl hstops
        rintro l pre x W hI hlen
        have sW := hI.spared.1
        have d1 : Blk W w.heap.size 5 #[.int .u8 (q : Int)] := hI.spared.blk e1.out ⟨kq.out.1, by omega⟩
        have d2 : Blk W (w.heap.size + 1) 4 #[.bool false] := hI.spared.blk e2.out ⟨kq.out.2.1, by omega⟩
        have d3 : Blk W x3 36 #[.pointer (some ⟨g, 0, none⟩)] := hI.spared.blk e3.out ⟨kq.out.2.2.1, by omega⟩
        have d4 : Blk W p6 35 #[.slice A6 xs.length c6] := hI.spared.blk b1 ⟨kq.out.2.2.2 p6 (by omega) (by omega), by omega⟩
        have k1 : W.cell? ⟨w.heap.size, 0, none⟩ = some (.int .u8 (q : Int)) := (d1.cell 0).trans rfl
        have k2 : W.cell? ⟨w.heap.size + 1, 0, none⟩ = some (.bool false) := (d2.cell 0).trans rfl
        have f2 := d2.frozen 0
        have k3 : W.cell? ⟨x3, 0, none⟩ = some (.pointer (some ⟨g, 0, none⟩)) := (d3.cell 0).trans rfl
        have k4 : W.cell? ⟨p6, 0, none⟩ = some (.slice A6 xs.length c6) := (d4.cell 0).trans rfl
        have k5 : W.cell? ⟨p6 + 3, 0, none⟩ = some (.int .i64 (pre.length : Int)) := (hI.cnt.cell 0).trans rfl
        have f5 := hI.cnt.frozen 0
        have hpl := hI.le
        replace hI := hide hI
        clear d1 d2 d3 d4
        by_cases hk : pre.length = q
        · have hk' : (q : Int) ≤ (pre.length : Int) := by omega
          have HQ := hide hk
          clear hk
          gi_wp2
          exact ⟨KeepsFrom.refl _ _, .inr ⟨rfl, by simpa using hI.out, by simpa using HQ.out, by simp⟩⟩
        · have hk' : (pre.length : Int) < (q : Int) := by omega
          have HQ := hide (show pre.length < q by omega)
          clear hk
          by_cases hlx : pre.length < xs.length
          · have hl1 : (pre.length : Int) < (xs.length : Int) := by omega
            obtain ⟨r6, er, hr6, hc6, _⟩ := hBool.own_cell HO.out hlx
            subst er
            have h6 : r6 < W0.heap.size := (own_lt HO.out (r := r6) rfl).2
            have k6 : W.cell? ⟨r6, pre.length, none⟩ = some (ci xs[pre.length]) := (World.cell?_of_block (a := ⟨r6, pre.length, none⟩) (hI.out.spared.2 r6 h6 ⟨kq.out.2.2.2 r6 hr6 h6, by have := HR6.out r6 rfl; omega⟩)).trans hc6
            by_cases hx : x = xs[pre.length]
            · subst hx
              have hx' : (xs[pre.length] != xs[pre.length]) = false := by simp
              obtain ⟨C2, hC2, hL2⟩ := hI.out.live
              have hmem : xs[pre.length] ∈ valsOf C2 true := by rw [hC2.1, List.drop_eq_getElem_cons hlx]; exact List.mem_cons_self
              have htot : totalOf C2 ≤ 100 := by rw [hC2.2, List.length_drop]; omega
              have HSt := hide (hBool.live_strike true trivial xs[pre.length] (HIx.out _ (List.getElem_mem hlx)) hL2 (by omega) (fun i hi => Nat.lt_of_lt_of_le (hkK.out i hi) sW))
              rw [decide_eq_true hmem] at HSt
              have HC3 := hide (show EachC (xs.drop (pre.length + 1)) (hBool.strikeC C2 true xs[pre.length]) from (hC2.strike hL2.keys _ (by rw [← hC2.1]; exact hmem)).more (drop_erase xs pre.length hlx))
              have HPre := hide (pre_next hI.out.pre_ hlx)
              have HBn := hide (kq.out.2.2.2 (p6 + 3) (by omega) (by omega))
              clear hmem htot hC2 hL2
              generalize xs[pre.length] = y at *
              gi_wp2_with (refine ⟨trivial, ?_⟩; gi_at_call 24; refine (CallsIn.inRound l (callsIn_wide.2 HSt.out)).mono ?_; rintro e w5 ⟨rfl, hl5, hs5, ht5⟩; have c5 := hs5.blk hI.out.cnt HBn.out; have k5' : w5.cell? ⟨p6 + 3, 0, none⟩ = some (.int .i64 (pre.length : Int)) := (c5.cell 0).trans rfl; have f5' := c5.frozen 0; replace hl5 := hide hl5; replace hs5 := hide hs5; replace ht5 := hide ht5; replace c5 := hide c5)
              have ⟨q1, q2⟩ := touch_from (B := W0.heap.size) ht5.out (by have := hgb.1; omega) (by have := hgb.2.1; omega)
              refine ⟨q1.trans ((KeepsOthers.setCell _ _ _).from _), q2.trans (kp_set (by omega)), ?_, ?_, ?_, HPre.out, by have := HQ.out; simp; omega⟩
              · refine ⟨_, ?_, hl5.out.set HBn.out (by omega) 0 _⟩
                simpa using HC3.out
              · refine (hI.out.spared.trans ⟨hs5.out.1, fun i hi hk => hs5.out.2 i hi hk.1⟩).trans ⟨by simp, fun i hi hk => Below.heap_setCell _ _ _ _ hk.2⟩
              · have := c5.out.set_ 0 (.int .i64 ((pre.length : Int) + 1))
                simpa using this
            · have hx' : (x != xs[pre.length]) = true := by simpa using hx
              have HX := hide (pre_not (xs := xs) (pre := pre) (x := x) fun h => hx)
              clear hx
              generalize xs[pre.length] = y at *
              gi_wp2
              refine ⟨trivial, ?_⟩
              gi_wp2
              exact ⟨(KeepsOthers.setCell _ _ _).from _, .inl ⟨rfl, HX.out⟩⟩
          · exact absurd hlen hlx
      case stop =>
        clear b2 b3 b4 HC HK3 hTl hstops
        rintro D c pre W hD hsp hIx hK
        rcases hIx with ⟨_, hn2⟩ | ⟨rfl, hI, hlq, hne⟩
        · exact absurd hsp hn2
        obtain ⟨m, hml⟩ : ∃ m, m = pre.dropLast.length := ⟨_, rfl⟩
        have hmq : m ≤ q ∧ (m = q ∨ m = xs.length) := ⟨by omega, .inl (by omega)⟩
        clear hlq
        have hmx : m < xs.length := by
          have h1 := hsp.length_le
          have h2 : 0 < pre.length := List.length_pos_iff.2 hne
          rw [hml, List.length_dropLast]; omega
        have HI := hide hI
        clear hI
        gi_wp2
        have sW := HI.out.spared.1
        have d1 : Blk W w.heap.size 5 #[.int .u8 (q : Int)] := HI.out.spared.blk e1.out ⟨kq.out.1, by omega⟩
        have d2 : Blk W (w.heap.size + 1) 4 #[.bool false] := HI.out.spared.blk e2.out ⟨kq.out.2.1, by omega⟩
        have d3 : Blk W x3 36 #[.pointer (some ⟨g, 0, none⟩)] := HI.out.spared.blk e3.out ⟨kq.out.2.2.1, by omega⟩
        have d4 : Blk W p6 35 #[.slice A6 xs.length c6] := HI.out.spared.blk b1 ⟨kq.out.2.2.2 p6 (by omega) (by omega), by omega⟩
        have k1 : W.cell? ⟨w.heap.size, 0, none⟩ = some (.int .u8 (q : Int)) := (d1.cell 0).trans rfl
        have k3 : W.cell? ⟨x3, 0, none⟩ = some (.pointer (some ⟨g, 0, none⟩)) := (d3.cell 0).trans rfl
        have k4 : W.cell? ⟨p6, 0, none⟩ = some (.slice A6 xs.length c6) := (d4.cell 0).trans rfl
        have k5 : W.cell? ⟨p6 + 3, 0, none⟩ = some (.int .i64 (m : Int)) := by rw [hml]; exact (HI.out.cnt.cell 0).trans rfl
        have D2 := hide d2
        obtain ⟨C2, hC2, hL2⟩ := HI.out.live
        have htot : (totalOf C2 : Int) = (xs.length : Int) - (m : Int) := by rw [hC2.2, List.length_drop, ← hml]; omega
        have HLen : Hid (∀ W', Below W.heap.size W W' → Calls Try.prog 25 #[.pointer (some ⟨g, 0, none⟩)] W' fun e w' => e = .returned (.int .i64 ((xs.length : Int) - (m : Int))) ∧ W' = w') := hide fun W' hb => by
          obtain ⟨S, _, h2, _⟩ := hL2.later hb
          rw [← htot]; exact hBool.len_live W' S g b C2 h2
        have BW := hide hL2.below
        clear htot hC2 hL2 d1 d2 d3 d4
        have l1 : w.heap.size < W.heap.size := by omega
        have l3 : x3 < W.heap.size := by omega
        have l4 : p6 < W.heap.size := by omega
        have l5 : p6 + 3 < W.heap.size := by omega
        have hwq : IntKind.i64.wrap (q : Int) = (q : Int) := IntWalk.i64_in _ (by omega)
        have hif : (if q < xs.length then (q : Int) else (xs.length : Int)) = (m : Int) := by split <;> omega
        have hmm : ((m : Int) == (m : Int)) = true := by simp
        have HW := hide hwq
        have HI2 := hide hif
        have HWs := hide (show IntKind.i64.wrap ((xs.length : Int) - (m : Int)) = (xs.length : Int) - (m : Int) from IntWalk.i64_in _ (by omega))
        clear hwq hif
        have heq : ((xs.length : Int) - (m : Int) == (xs.length : Int) - (m : Int)) = true := by simp
        have hms : (m : Int) ≤ (xs.length : Int) := by omega
        have hm0 : (m : Int) ≤ 100 := by omega
        have HML := hide hml
        clear hml
        go_wp2_with fail
        apply wp_region_last 19 _ (hv := [17]) (I := fun W9 => Below W.heap.size W W9) (C := fun W9 => True) (ss := [_, _, _, _, _, _, _, _, _, _, _, _, _, _, _, _, _, _, _]) rfl (by kernel_rfl) (by kernel_rfl) (by kernel_rfl) (by kernel_rfl) (by kernel_rfl) (by kernel_rfl) (Below.refl _ _).drew trivial
        simp only [List.take_succ_cons, List.take_zero]
        iterate 9 (first
          | (apply stWalk_light
             · rfl
             · (intro W9 hI9
                have g1 := (hI9.cell (p := ⟨w.heap.size, 0, none⟩) l1).trans k1
                have g3 := (hI9.cell (p := ⟨x3, 0, none⟩) l3).trans k3
                have g4 := (hI9.cell (p := ⟨p6, 0, none⟩) l4).trans k4
                have g5 := (hI9.cell (p := ⟨p6 + 3, 0, none⟩) l5).trans k5
                clear hI9
                have hwq := HW.out
                have hif := HI2.out
                have hws := HWs.out
                go_simp
                with_reducible exact rfl)
             (try simp only [Act.put, List.setIfInBounds_toArray, List.set_cons_zero, List.set_cons_succ])))
        apply stWalk_light (c := .int .i64 ((xs.length : Int) - (m : Int)))
        · rfl
        · intro W9 hI9
          rw [if_pos]
          · refine gives_call rfl [.pointer (some ⟨g, 0, none⟩)] rfl (enters_of Try.func25 (by kernel_rfl) rfl) ?_
            exact (HLen.out W9 hI9).mono fun e w' ⟨he, hw⟩ => ⟨_, he, rfl, hw.symm⟩
          · go_simp
        (try simp only [Act.put, List.setIfInBounds_toArray, List.set_cons_zero, List.set_cons_succ])
        iterate 7 (first
          | (apply stWalk_light
             · rfl
             · (intro W9 hI9
                have g1 := (hI9.cell (p := ⟨w.heap.size, 0, none⟩) l1).trans k1
                have g3 := (hI9.cell (p := ⟨x3, 0, none⟩) l3).trans k3
                have g4 := (hI9.cell (p := ⟨p6, 0, none⟩) l4).trans k4
                have g5 := (hI9.cell (p := ⟨p6 + 3, 0, none⟩) l5).trans k5
                clear hI9
                have hwq := HW.out
                have hif := HI2.out
                have hws := HWs.out
                go_simp
                with_reducible exact rfl)
             (try simp only [Act.put, List.setIfInBounds_toArray, List.set_cons_zero, List.set_cons_succ])))
        apply stWalk_turnc (c := .bool true) (fun W9 => True)
        · rfl
        · go_simp
        · intro W9 hI9 hC9
          refine gives_call rfl [] rfl (enters_of Try.func19 (by kernel_rfl) rfl) ?_
          exact (alive24_any W9).mono fun e w' ⟨he, hb⟩ => ⟨_, he, rfl, below_next hI9 hb, trivial⟩
        (try simp only [Act.put, List.setIfInBounds_toArray, List.set_cons_zero, List.set_cons_succ])
        iterate 1 (first
          | (apply stWalk_light
             · rfl
             · (intro W9 hI9
                clear hI9
                go_simp
                with_reducible exact rfl)
             (try simp only [Act.put, List.setIfInBounds_toArray, List.set_cons_zero, List.set_cons_succ])))
        refine stWalk_nil fun W9 hI9 hC9 => ⟨rfl, ?_⟩
        have D9 := D2.out.below hI9 (by omega)
        have c9 : W9.cell? ⟨w.heap.size + 1, 0, none⟩ = some (.bool false) := (D9.cell 0).trans rfl
        have f9 := D9.frozen 0
        have HK9 := hide ((hI9.block D (Array.getElem?_eq_some_iff.1 hK).1).trans hK)
        have HB9 := hide (below_then BW.out BW.out.size hI9)
        replace D9 := hide D9
        clear hI9 hC9
        go_simp
        (try simp only [Act.put, List.setIfInBounds_toArray, List.set_cons_zero, List.set_cons_succ])
        go_wp2
        have hK' := (KeepsOthers.setCell W9 ⟨w.heap.size + 1, 0, none⟩ (.bool true)).same D _ HK9.out rfl
        have hput := grownBy_putObj' (W9.setCell ⟨w.heap.size + 1, 0, none⟩ (.bool true)) D (.deferred none)
        have hc5 := ((D9.out.set_ 0 (.bool true)).grown hput (by intro e; cases e; omega)).cell 0
        refine ⟨by simp, .inl ⟨_, _, rfl, run_takeDeferred hK', ?_⟩⟩
        refine ⟨.bool true, ?_, rfl, (HB9.out.setCell (p := ⟨w.heap.size + 1, 0, none⟩) (by dsimp only; omega) _).trans (belowK_b (w := w) (Nat.le_refl _) _ D _ _ (by omega) hK' rfl rfl)⟩
        simp [results, Try.f5, go_sem, hc5]
      case done =>
        clear b2 b3 b4 HC HK3 hTl hstops
        rintro D ys W hD rfl hI hK
        obtain ⟨m, hml⟩ : ∃ m, m = ys.length := ⟨_, rfl⟩
        have hmq : m ≤ q ∧ (m = q ∨ m = ys.length) := ⟨by rw [hml]; exact hI.le, .inr hml⟩
        have hmx : m ≤ ys.length := by omega
        have HI := hide hI
        clear hI
        have sW := HI.out.spared.1
        have d1 : Blk W w.heap.size 5 #[.int .u8 (q : Int)] := HI.out.spared.blk e1.out ⟨kq.out.1, by omega⟩
        have d2 : Blk W (w.heap.size + 1) 4 #[.bool false] := HI.out.spared.blk e2.out ⟨kq.out.2.1, by omega⟩
        have d3 : Blk W x3 36 #[.pointer (some ⟨g, 0, none⟩)] := HI.out.spared.blk e3.out ⟨kq.out.2.2.1, by omega⟩
        have d4 : Blk W p6 35 #[.slice A6 ys.length c6] := HI.out.spared.blk b1 ⟨kq.out.2.2.2 p6 (by omega) (by omega), by omega⟩
        have k1 : W.cell? ⟨w.heap.size, 0, none⟩ = some (.int .u8 (q : Int)) := (d1.cell 0).trans rfl
        have k3 : W.cell? ⟨x3, 0, none⟩ = some (.pointer (some ⟨g, 0, none⟩)) := (d3.cell 0).trans rfl
        have k4 : W.cell? ⟨p6, 0, none⟩ = some (.slice A6 ys.length c6) := (d4.cell 0).trans rfl
        have k5 : W.cell? ⟨p6 + 3, 0, none⟩ = some (.int .i64 (m : Int)) := by rw [hml]; exact (HI.out.cnt.cell 0).trans rfl
        have D2 := hide d2
        obtain ⟨C2, hC2, hL2⟩ := HI.out.live
        have htot : (totalOf C2 : Int) = (ys.length : Int) - (m : Int) := by rw [hC2.2, List.length_drop, ← hml]; omega
        have HLen : Hid (∀ W', Below W.heap.size W W' → Calls Try.prog 25 #[.pointer (some ⟨g, 0, none⟩)] W' fun e w' => e = .returned (.int .i64 ((ys.length : Int) - (m : Int))) ∧ W' = w') := hide fun W' hb => by
          obtain ⟨S, _, h2, _⟩ := hL2.later hb
          rw [← htot]; exact hBool.len_live W' S g b C2 h2
        have BW := hide hL2.below
        clear htot hC2 hL2 d1 d2 d3 d4
        have l1 : w.heap.size < W.heap.size := by omega
        have l3 : x3 < W.heap.size := by omega
        have l4 : p6 < W.heap.size := by omega
        have l5 : p6 + 3 < W.heap.size := by omega
        have hwq : IntKind.i64.wrap (q : Int) = (q : Int) := IntWalk.i64_in _ (by omega)
        have hif : (if q < ys.length then (q : Int) else (ys.length : Int)) = (m : Int) := by split <;> omega
        have hmm : ((m : Int) == (m : Int)) = true := by simp
        have HW := hide hwq
        have HI2 := hide hif
        have HWs := hide (show IntKind.i64.wrap ((ys.length : Int) - (m : Int)) = (ys.length : Int) - (m : Int) from IntWalk.i64_in _ (by omega))
        clear hwq hif
        have heq : ((ys.length : Int) - (m : Int) == (ys.length : Int) - (m : Int)) = true := by simp
        have hms : (m : Int) ≤ (ys.length : Int) := by omega
        have hm0 : (m : Int) ≤ 100 := by omega
        have HML := hide hml
        clear hml
        go_wp2_with fail
        apply wp_region_last 19 _ (hv := [17]) (I := fun W9 => Below W.heap.size W W9) (C := fun W9 => True) (ss := [_, _, _, _, _, _, _, _, _, _, _, _, _, _, _, _, _, _, _]) rfl (by kernel_rfl) (by kernel_rfl) (by kernel_rfl) (by kernel_rfl) (by kernel_rfl) (by kernel_rfl) (Below.refl _ _).drew trivial
        simp only [List.take_succ_cons, List.take_zero]
        iterate 9 (first
          | (apply stWalk_light
             · rfl
             · (intro W9 hI9
                have g1 := (hI9.cell (p := ⟨w.heap.size, 0, none⟩) l1).trans k1
                have g3 := (hI9.cell (p := ⟨x3, 0, none⟩) l3).trans k3
                have g4 := (hI9.cell (p := ⟨p6, 0, none⟩) l4).trans k4
                have g5 := (hI9.cell (p := ⟨p6 + 3, 0, none⟩) l5).trans k5
                clear hI9
                have hwq := HW.out
                have hif := HI2.out
                have hws := HWs.out
                go_simp
                with_reducible exact rfl)
             (try simp only [Act.put, List.setIfInBounds_toArray, List.set_cons_zero, List.set_cons_succ])))
        apply stWalk_light (c := .int .i64 ((ys.length : Int) - (m : Int)))
        · rfl
        · intro W9 hI9
          rw [if_pos]
          · refine gives_call rfl [.pointer (some ⟨g, 0, none⟩)] rfl (enters_of Try.func25 (by kernel_rfl) rfl) ?_
            exact (HLen.out W9 hI9).mono fun e w' ⟨he, hw⟩ => ⟨_, he, rfl, hw.symm⟩
          · go_simp
        (try simp only [Act.put, List.setIfInBounds_toArray, List.set_cons_zero, List.set_cons_succ])
        iterate 7 (first
          | (apply stWalk_light
             · rfl
             · (intro W9 hI9
                have g1 := (hI9.cell (p := ⟨w.heap.size, 0, none⟩) l1).trans k1
                have g3 := (hI9.cell (p := ⟨x3, 0, none⟩) l3).trans k3
                have g4 := (hI9.cell (p := ⟨p6, 0, none⟩) l4).trans k4
                have g5 := (hI9.cell (p := ⟨p6 + 3, 0, none⟩) l5).trans k5
                clear hI9
                have hwq := HW.out
                have hif := HI2.out
                have hws := HWs.out
                go_simp
                with_reducible exact rfl)
             (try simp only [Act.put, List.setIfInBounds_toArray, List.set_cons_zero, List.set_cons_succ])))
        apply stWalk_turnc (c := .bool true) (fun W9 => True)
        · rfl
        · go_simp
        · intro W9 hI9 hC9
          refine gives_call rfl [] rfl (enters_of Try.func19 (by kernel_rfl) rfl) ?_
          exact (alive24_any W9).mono fun e w' ⟨he, hb⟩ => ⟨_, he, rfl, below_next hI9 hb, trivial⟩
        (try simp only [Act.put, List.setIfInBounds_toArray, List.set_cons_zero, List.set_cons_succ])
        iterate 1 (first
          | (apply stWalk_light
             · rfl
             · (intro W9 hI9
                clear hI9
                go_simp
                with_reducible exact rfl)
             (try simp only [Act.put, List.setIfInBounds_toArray, List.set_cons_zero, List.set_cons_succ])))
        refine stWalk_nil fun W9 hI9 hC9 => ⟨rfl, ?_⟩
        have D9 := D2.out.below hI9 (by omega)
        have c9 : W9.cell? ⟨w.heap.size + 1, 0, none⟩ = some (.bool false) := (D9.cell 0).trans rfl
        have f9 := D9.frozen 0
        have HK9 := hide ((hI9.block D (Array.getElem?_eq_some_iff.1 hK).1).trans hK)
        have HB9 := hide (below_then BW.out BW.out.size hI9)
        replace D9 := hide D9
        clear hI9 hC9
        go_simp
        (try simp only [Act.put, List.setIfInBounds_toArray, List.set_cons_zero, List.set_cons_succ])
        go_wp2
        have hK' := (KeepsOthers.setCell W9 ⟨w.heap.size + 1, 0, none⟩ (.bool true)).same D _ HK9.out rfl
        have hput := grownBy_putObj' (W9.setCell ⟨w.heap.size + 1, 0, none⟩ (.bool true)) D (.deferred none)
        have hc5 := ((D9.out.set_ 0 (.bool true)).grown hput (by intro e; cases e; omega)).cell 0
        refine ⟨by simp, .inl ⟨_, _, rfl, run_takeDeferred hK', ?_⟩⟩
        refine ⟨.bool true, ?_, rfl, (HB9.out.setCell (p := ⟨w.heap.size + 1, 0, none⟩) (by dsimp only; omega) _).trans (belowK_b (w := w) (Nat.le_refl _) _ D _ _ (by omega) hK' rfl rfl)⟩
        simp [results, Try.f5, go_sem, hc5]
theorem hintsEach_walk (w : World) (A0 : Option Addr) (n0 c0 : Nat) (zs0 : List Int) (r0 : Reads w w.heap.size 1 A0 n0 (zs0.map ci)) (m0 : n0 ≤ 9223372036854775807) (k0 : n0 ≤ c0) (b0 : ∀ z ∈ zs0, -9223372036854775808 ≤ z ∧ z ≤ 9223372036854775807) (x1 : BitVec 8) :
    Calls Try.prog 5 #[.slice A0 n0 c0, .int .u8 (x1.toNat : Int)] w fun e w' => e = .returned (.bool true) ∧ Below w.heap.size w w' := by
  by_cases h : n0 ≤ 100
  · exact callsIn_wide.1 (hintsEach_in A0 n0 c0 x1.toNat zs0 x1.isLt h w r0 b0)
  · exact hintsEach_big A0 n0 c0 x1.toNat (by omega) w
end Go.Proofs.Ytccpkafmbmkmfaa
