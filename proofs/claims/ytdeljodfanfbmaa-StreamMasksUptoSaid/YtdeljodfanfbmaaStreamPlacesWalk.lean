/- The walk of StreamPlaces. No condition. -/
import Derived.Test.YtdeljodfanfbmaaStreamAlive
import Derived.Test.YtdeljodfanfbmaaStreamAll
import Derived.Test.YtdeljodfanfbmaaCipherEncryptsWalk
namespace Go.Proofs.Ytdeljodfanfbmaa
open Go.RowKit Go.Shelf
set_option linter.unusedVariables false
set_option linter.unusedSimpArgs false
attribute [local go_sem] Gives givesUpon
attribute [local irreducible] Gives

theorem mask_two (ks : List (BitVec 8)) (n : BitVec 64) : maskL ks n [0#8, 0#8] = [streamAt ks n.toNat, streamAt ks (n + 1#64).toNat] := by
  have e : fromL ks n 2 = [streamAt ks (n + BitVec.ofNat 64 0).toNat, streamAt ks (n + BitVec.ofNat 64 1).toNat] := rfl
  rw [maskL, show [0#8, 0#8].length = 2 from rfl, e, show n + BitVec.ofNat 64 0 = n by simp, show BitVec.ofNat 64 1 = 1#64 from rfl]
  generalize streamAt ks n.toNat = a
  generalize streamAt ks (n + 1#64).toNat = b
  simp [xorL]
theorem from_one (ks : List (BitVec 8)) (n : BitVec 64) : fromL ks n 1 = [streamAt ks n.toNat] := by
  have e : fromL ks n 1 = [streamAt ks (n + BitVec.ofNat 64 0).toNat] := rfl
  rw [e, show n + BitVec.ofNat 64 0 = n by simp]
theorem inc64t (x : BitVec 64) : ((x.toNat : Int) + 2) % 18446744073709551616 = ((x + 2#64).toNat : Int) := by
  rw [BitVec.toNat_add]
  have : (2#64 : BitVec 64).toNat = 2 := rfl
  rw [this]; omega
theorem inc64u (x : BitVec 64) : IntKind.u64.wrap ((x.toNat : Int) + 2) = ((x + 2#64).toNat : Int) := (show IntKind.u64.wrap ((x.toNat : Int) + 2) = ((x.toNat : Int) + 2) % 18446744073709551616 from rfl).trans (inc64t x)
/-- a stream at a place, a key, and what lies on -/
def PlI (w : World) (gs : Nat) (ks : List (BitVec 8)) (KV : Array Value) (pl : BitVec 64) (W : World) : Prop := StreamIs W gs ks pl ∧ Blk W w.heap.size 44 KV ∧ Below w.heap.size w W
theorem PlI.below {w W W' : World} {gs : Nat} {ks : List (BitVec 8)} {KV : Array Value} {pl : BitVec 64} (h : PlI w gs ks KV pl W) (hb : Below W.heap.size W W') : PlI w gs ks KV pl W' :=
  ⟨h.1.below hb, h.2.1.below hb h.2.1.lt, below_next h.2.2 hb⟩
theorem PlI.grown {w W W' : World} {gs : Nat} {ks : List (BitVec 8)} {KV : Array Value} {pl pl' : BitVec 64} (h : PlI w gs ks KV pl W) (hs : StreamIs W' gs ks pl') (hg : W.grownBy W' (some gs)) (hn : w.heap.size < gs) : PlI w gs ks KV pl' W' :=
  ⟨hs, h.2.1.grown hg (by simp; omega), below_stream h.2.2 hg (by omega)⟩
/-- a slice of one byte, apart from the stream -/
def OneAt (gs : Nat) (f : BitVec 8) (v : Value) (W : World) : Prop := ∃ g c, v = .slice (some ⟨g, 0, none⟩) 1 c ∧ g ≠ gs ∧ g < W.heap.size ∧ W.cell? ⟨g, 0, none⟩ = some (c8 f)
theorem OneAt.grown {gs : Nat} {f : BitVec 8} {v : Value} {W W' : World} (hg : W.grownBy W' (some gs)) (h : OneAt gs f v W) : OneAt gs f v W' := by
  obtain ⟨g, c, h1, h2, h3, h4⟩ := h
  exact ⟨g, c, h1, h2, Nat.lt_of_lt_of_le h3 hg.size, (World.cell?_of_block (hg.block g h3 (by simpa using h2))).trans h4⟩
/-- the address of a byte, apart from the stream -/
def PtrAt (gs : Nat) (f : BitVec 8) (v : Value) (W : World) : Prop := ∃ g, v = .pointer (some ⟨g, 0, none⟩) ∧ g ≠ gs ∧ g < W.heap.size ∧ W.cell? ⟨g, 0, none⟩ = some (c8 f)
theorem PtrAt.grown {gs : Nat} {f : BitVec 8} {v : Value} {W W' : World} (hg : W.grownBy W' (some gs)) (h : PtrAt gs f v W) : PtrAt gs f v W' := by
  obtain ⟨g, h1, h2, h3, h4⟩ := h
  exact ⟨g, h1, h2, Nat.lt_of_lt_of_le h3 hg.size, (World.cell?_of_block (hg.block g h3 (by simpa using h2))).trans h4⟩
theorem PlI.drew {w W : World} {gs : Nat} {ks : List (BitVec 8)} {KV : Array Value} {pl : BitVec 64} (h : PlI w gs ks KV pl W) : PlI w gs ks KV pl W.drew := ⟨h.1, h.2.1, h.2.2.drew⟩
/-- two bytes, apart from the stream -/
def TwoI (w : World) (gs gy : Nat) (ks : List (BitVec 8)) (KV : Array Value) (pl : BitVec 64) (x y : BitVec 8) (W : World) : Prop := PlI w gs ks KV pl W ∧ gy < W.heap.size ∧ W.cell? ⟨gy, 0, none⟩ = some (c8 x) ∧ W.cell? ⟨gy, 1, none⟩ = some (c8 y)
theorem TwoI.below {w W W' : World} {gs gy : Nat} {ks : List (BitVec 8)} {KV : Array Value} {pl : BitVec 64} {x y : BitVec 8} (h : TwoI w gs gy ks KV pl x y W) (hb : Below W.heap.size W W') : TwoI w gs gy ks KV pl x y W' :=
  ⟨h.1.below hb, Nat.lt_of_lt_of_le h.2.1 hb.size, (hb.cell (p := ⟨gy, 0, none⟩) h.2.1).trans h.2.2.1, (hb.cell (p := ⟨gy, 1, none⟩) h.2.1).trans h.2.2.2⟩
theorem TwoI.grown {w W W' : World} {gs gy : Nat} {ks : List (BitVec 8)} {KV : Array Value} {pl : BitVec 64} {x y : BitVec 8} (h : TwoI w gs gy ks KV pl x y W) (hs : StreamIs W' gs ks pl) (hg : W.grownBy W' (some gs)) (hn : w.heap.size < gs) (hy : gy ≠ gs) : TwoI w gs gy ks KV pl x y W' :=
  ⟨h.1.grown hs hg hn, Nat.lt_of_lt_of_le h.2.1 hg.size, (World.cell?_of_block (hg.block gy h.2.1 (by simpa using hy))).trans h.2.2.1, (World.cell?_of_block (hg.block gy h.2.1 (by simpa using hy))).trans h.2.2.2⟩
theorem TwoI.drew {w W : World} {gs gy : Nat} {ks : List (BitVec 8)} {KV : Array Value} {pl : BitVec 64} {x y : BitVec 8} (h : TwoI w gs gy ks KV pl x y W) : TwoI w gs gy ks KV pl x y W.drew := ⟨h.1.drew, h.2.1, h.2.2.1, h.2.2.2⟩
set_option maxRecDepth 100000 in
set_option maxHeartbeats 3200000 in
theorem streamPlaces_core (w : World) (key : List (BitVec 8)) (KV : Array Value) (hkl : key.length = 32) (hKV : KV = (key.map c8).toArray) (at_ n : BitVec 64) :
    Calls Try.prog 13 #[.agg KV, .int .u64 (at_.toNat : Int), .int .u64 (n.toNat : Int)] w fun e w' => e = .returned (.bool true) ∧ Below w.heap.size w w' := by
  obtain ⟨ks, hks⟩ : ∃ ks, ks = keysOf sub8 key := ⟨_, rfl⟩
  obtain ⟨x, hx⟩ : ∃ x, x = streamAt ks n.toNat := ⟨_, rfl⟩
  obtain ⟨n1, hn1⟩ : ∃ m, m = n + 1#64 := ⟨_, rfl⟩
  obtain ⟨n2, hn2⟩ : ∃ m, m = n + 2#64 := ⟨_, rfl⟩
  obtain ⟨y, hy⟩ : ∃ y, y = streamAt ks n1.toNat := ⟨_, rfl⟩
  have hmt : maskL ks n [0#8, 0#8] = [x, y] := by rw [mask_two, hx, hy, hn1]
  have P0 := Blk.new w 44 KV
  have hb0 := (Below.refl w.heap.size w).alloc (Nat.le_refl _) (.cells KV 44)
  have HN : Hid (Calls Try.prog 45 #[.slice (some ⟨w.heap.size, 0, none⟩) 32 32] (w.alloc (.cells KV 44)) fun e w' => ∃ g, e = .returned (.tuple #[.pointer (some ⟨g, 0, none⟩), .int .i64 0]) ∧ w.heap.size < g ∧ PlI w g ks KV 0#64 w') := hide (by
    refine (newstream_any _ 32 key _ ((hKV ▸ P0).key8 hkl |> fun h => (by rw [hKV]; exact h)) (by omega)).mono ?_
    rintro e w' ⟨g, rfl, hg, hs, hb⟩
    exact ⟨g, rfl, Nat.lt_of_lt_of_le P0.lt hg, by rw [hks]; exact hs, P0.below hb P0.lt, hb0.trans (hb.mono hb0.size)⟩)
  have HSk : Hid (∀ (g : Nat) (pl m : BitVec 64) (W : World), w.heap.size < g → PlI w g ks KV pl W → Calls Try.prog 48 #[.pointer (some ⟨g, 0, none⟩), .int .u64 (m.toNat : Int)] W fun e w' => e = .returned (.tuple #[]) ∧ PlI w g ks KV m w') := hide fun g pl m W hg h => by
    refine (seek_any g ks pl m W h.1).mono ?_
    rintro e w' ⟨rfl, hs, hgr⟩
    exact ⟨rfl, h.grown hs hgr hg⟩
  have HAt : Hid (∀ (g : Nat) (pl m : BitVec 64) (W : World), w.heap.size < g → PlI w g ks KV pl W → Calls Try.prog 51 #[.pointer (some ⟨g, 0, none⟩), .int .u64 (m.toNat : Int)] W fun e w' => e = .returned (c8 (streamAt ks m.toNat)) ∧ StreamIs w' g ks pl ∧ W.grownBy w' (some g)) := hide fun g pl m W hg h => at_any g ks pl m W h.1
  have HFr : Hid (∀ (g : Nat) (pl m : BitVec 64) (W : World), w.heap.size < g → PlI w g ks KV pl W → Calls Try.prog 52 #[.slice (some ⟨w.heap.size, 0, none⟩) 32 32, .int .u64 (m.toNat : Int), .int .i64 1] W fun e w' => ∃ v, e = .returned v ∧ (∃ g c, v = .slice (some ⟨g, 0, none⟩) 1 c) ∧ OneAt g (streamAt ks m.toNat) v w' ∧ PlI w g ks KV pl w' ∧ W.grownBy w' (some g)) := hide fun g pl m W hg h => by
    have hk := (hKV ▸ h.2.1).key8 hkl
    refine (reffrom_any _ 32 key m 1 W (by rw [hKV] at *; exact hk) (by omega)).mono ?_
    rintro e w' ⟨A', c', rfl, own, hb⟩
    rw [← hks, from_one] at own
    obtain ⟨g1, rfl, hg1, cs, hcs⟩ := own_at own (by omega)
    have hgl := h.1.lt
    exact ⟨_, rfl, ⟨g1, c', rfl⟩, ⟨g1, c', rfl, by omega, hcs.lt, own_cell8 own rfl⟩, h.below hb, gb_of hb _⟩
  have HMk : Hid (∀ (g : Nat) (W : World), w.heap.size < g → PlI w g ks KV n W → Calls Try.prog 49 #[.pointer (some ⟨g, 0, none⟩), .slice (some ⟨W.heap.size, 0, none⟩) 2 2] (W.alloc (.cells #[.int .u8 0, .int .u8 0] 5)) fun e w' => ∃ gy c', e = .returned (.slice (some ⟨gy, 0, none⟩) 2 c') ∧ gy ≠ g ∧ TwoI w g gy ks KV n2 x y w') := hide fun g W hg h => by
    have hb := (Below.refl W.heap.size W).alloc (Nat.le_refl _) (.cells #[.int .u8 0, .int .u8 0] 5)
    have hr := (Reads.new W 5 #[.int .u8 0, .int .u8 0]).more (show W.heap.size + 1 ≤ (W.alloc (.cells #[.int .u8 0, .int .u8 0] 5)).heap.size by simp)
    have h2 := h.below hb
    refine (mask_any g ks n _ 2 2 [0#8, 0#8] _ h2.1 hr (by omega)).mono ?_
    rintro e w' ⟨A', c', rfl, own, hs, hgr⟩
    rw [hmt] at own
    rw [show n + BitVec.ofNat 64 2 = n2 by rw [hn2]] at hs
    obtain ⟨gy, rfl, hgy, cs, hcs⟩ := own_at own (by omega)
    have hgl := h2.1.lt
    exact ⟨gy, c', rfl, by omega, h2.grown hs hgr hg, hcs.lt, own_cell8 own rfl, own_cell8 own rfl⟩
  have hi1 : ((n.toNat : Int) + 1) % 18446744073709551616 = (n1.toNat : Int) := by rw [hn1]; exact inc64 n
  have hi2 : IntKind.u64.wrap ((n.toNat : Int) + 1) = (n1.toNat : Int) := by rw [hn1]; exact inc64w n
  have hi3 : ((n.toNat : Int) + 2) % 18446744073709551616 = (n2.toNat : Int) := by rw [hn2]; exact inc64t n
  have hi4 : IntKind.u64.wrap ((n.toNat : Int) + 2) = (n2.toNat : Int) := by rw [hn2]; exact inc64u n
  have HI := hide (And.intro hi1 (And.intro hi2 (And.intro hi3 hi4)))
  replace hx := hide hx
  replace hy := hide hy
  clear hkl hKV hks hn1 hn2 hmt P0 hb0 hi1 hi2 hi3 hi4
  go_enter Try.func13, Try.ntmps13
  go_wp2_with (first
    | (go_at_call 45; (with_reducible refine HN.out.mono ?_); rintro e w1 ⟨gs, rfl, hgs, hp1⟩; have P1 := hide hp1; clear hp1)
    | (go_at_call 48; (with_reducible refine (HSk.out gs _ at_ w1 hgs P1.out).mono ?_); rintro e w2 ⟨rfl, hp2⟩; have P2 := hide hp2; clear hp2)
    | (go_at_call 51; (with_reducible refine (HAt.out gs _ n w2 hgs P2.out).mono ?_); rintro e w3 ⟨rfl, hs3, hg3⟩; have P3 := hide (P2.out.grown hs3 hg3 hgs); clear hs3 hg3))
  rw [← hx.out]
  apply wp_region_relT 26 (C := PlI w gs ks KV at_) (M := fun W W' => W.grownBy W' (some gs)) (ss := [_, _, _, _, _, _, _, _, _, _, _, _, _, _, _, _, _, _, _, _, _, _, _, _, _, _]) (by kernel_rfl) (by kernel_rfl) (by kernel_rfl) (by kernel_rfl) P3.out.drew
  simp only [List.take_succ_cons, List.take_zero, List.drop_succ_cons, List.drop_zero]
  repeat (first
    | (apply relWalk_const (fun W => World.grownBy.refl W _)
       · (intro W hC hF
          clear hF
          go_simp
          with_reducible exact rfl)
       (try simp only [Act.put, List.setIfInBounds_toArray, List.set_cons_zero, List.set_cons_succ])))
  apply relWalk_const (fun W => World.grownBy.refl W _)
  · intro W hC hF
    rw [if_pos (by first | exact wanted_none _ rfl | rfl)]
    refine gives_call rfl [.pointer (some ⟨gs, 0, none⟩)] rfl (enters_of Try.func46 (by kernel_rfl) rfl) ?_
    refine (place_any gs ks at_ W hC.1).mono ?_
    rintro e w' ⟨rfl, rfl⟩
    exact ⟨_, rfl, rfl, rfl⟩
  (try simp only [Act.put, List.setIfInBounds_toArray, List.set_cons_zero, List.set_cons_succ])
  repeat (first
    | (apply relWalk_const (fun W => World.grownBy.refl W _)
       · (intro W hC hF
          clear hF
          go_simp
          with_reducible exact rfl)
       (try simp only [Act.put, List.setIfInBounds_toArray, List.set_cons_zero, List.set_cons_succ])))
  refine relWalk_rel (fun v => ∃ g c, v = .slice (some ⟨g, 0, none⟩) 1 c) (OneAt gs x) ⟨_, 0, 0, rfl⟩ (fun v w w' hb h => OneAt.grown hb h) (by rfl) ?_ ?_
  · intro W hC hF
    refine gives_call rfl [.slice (some ⟨w.heap.size, 0, none⟩) 32 32, .int .u64 (n.toNat : Int), .int .i64 1] rfl (enters_of Try.func52 (by kernel_rfl) rfl) ?_
    refine (HFr.out gs at_ n W hgs hC).mono ?_
    rintro e w' ⟨v, rfl, h1, h2, h3, h4⟩
    exact ⟨_, rfl, h1, by rw [hx.out]; exact h2, h3, h4⟩
  rintro v ⟨g8, c8_, rfl⟩
  (try simp only [Act.put, List.setIfInBounds_toArray, List.set_cons_zero, List.set_cons_succ])
  refine relWalk_rel (fun v => ∃ g, v = .pointer (some ⟨g, 0, none⟩)) (PtrAt gs x) ⟨_, 0, rfl⟩ (fun v w w' hb h => PtrAt.grown hb h) (by rfl) ?_ ?_
  · intro W hC hF
    obtain ⟨g9, c9, he, q1, q2, q3⟩ := hF.1 (by kernel_rfl)
    obtain ⟨rfl, rfl⟩ : g8 = g9 ∧ c8_ = c9 := by injection he with he1 _ he2; injection he1 with he1; injection he1 with he1; exact ⟨he1, he2⟩
    have hp : PtrAt gs x (.pointer (some ⟨g8, 0, none⟩)) W := ⟨g8, rfl, q1, q2, q3⟩
    have HP := hide hp
    have HC := hide hC
    clear hF he q3 hp hC
    go_simp
    exact ⟨HP.out, HC.out, World.grownBy.refl W _⟩
  rintro v ⟨g7, rfl⟩
  (try simp only [Act.put, List.setIfInBounds_toArray, List.set_cons_zero, List.set_cons_succ])
  apply relWalk_const (fun W => World.grownBy.refl W _)
  · intro W hC hF
    obtain ⟨g9, he, _, _, hc9⟩ := hF.1 (by kernel_rfl)
    obtain rfl : g7 = g9 := by injection he with he1; injection he1 with he1; injection he1
    clear hF he
    go_simp
    with_reducible exact rfl
  (try simp only [Act.put, List.setIfInBounds_toArray, List.set_cons_zero, List.set_cons_succ])
  repeat (first
    | (apply relWalk_const (fun W => World.grownBy.refl W _)
       · (intro W hC hF
          clear hF
          obtain ⟨i1, i2, i3, i4⟩ := HI.out
          go_simp
          with_reducible exact rfl)
       (try simp only [Act.put, List.setIfInBounds_toArray, List.set_cons_zero, List.set_cons_succ])))
  refine relWalk_rel (fun v => v = c8 y) (fun _ _ => True) ⟨_, rfl⟩ (fun _ _ _ _ _ => trivial) (by rfl) ?_ ?_
  · intro W hC hF
    refine gives_call rfl [.pointer (some ⟨gs, 0, none⟩), .int .u64 (n1.toNat : Int)] rfl (enters_of Try.func51 (by kernel_rfl) rfl) ?_
    refine (HAt.out gs at_ n1 W hgs hC).mono ?_
    rintro e w' ⟨rfl, h1, h2⟩
    exact ⟨_, rfl, by rw [hy.out], trivial, hC.grown h1 h2 hgs, h2⟩
  rintro v rfl
  (try simp only [Act.put, List.setIfInBounds_toArray, List.set_cons_zero, List.set_cons_succ])
  repeat (first
    | (apply relWalk_const (fun W => World.grownBy.refl W _)
       · (intro W hC hF
          clear hF
          obtain ⟨i1, i2, i3, i4⟩ := HI.out
          go_simp
          with_reducible exact rfl)
       (try simp only [Act.put, List.setIfInBounds_toArray, List.set_cons_zero, List.set_cons_succ])))
  refine relWalk_rel (fun v => ∃ g c, v = .slice (some ⟨g, 0, none⟩) 1 c) (OneAt gs y) ⟨_, 0, 0, rfl⟩ (fun v w w' hb h => OneAt.grown hb h) (by rfl) ?_ ?_
  · intro W hC hF
    refine gives_call rfl [.slice (some ⟨w.heap.size, 0, none⟩) 32 32, .int .u64 (n1.toNat : Int), .int .i64 1] rfl (enters_of Try.func52 (by kernel_rfl) rfl) ?_
    refine (HFr.out gs at_ n1 W hgs hC).mono ?_
    rintro e w' ⟨v, rfl, h1, h2, h3, h4⟩
    exact ⟨_, rfl, h1, by rw [hy.out]; exact h2, h3, h4⟩
  rintro v ⟨g8, c8_, rfl⟩
  (try simp only [Act.put, List.setIfInBounds_toArray, List.set_cons_zero, List.set_cons_succ])
  refine relWalk_rel (fun v => ∃ g, v = .pointer (some ⟨g, 0, none⟩)) (PtrAt gs y) ⟨_, 0, rfl⟩ (fun v w w' hb h => PtrAt.grown hb h) (by rfl) ?_ ?_
  · intro W hC hF
    obtain ⟨g9, c9, he, q1, q2, q3⟩ := hF.1 (by kernel_rfl)
    obtain ⟨rfl, rfl⟩ : g8 = g9 ∧ c8_ = c9 := by injection he with he1 _ he2; injection he1 with he1; injection he1 with he1; exact ⟨he1, he2⟩
    have hp : PtrAt gs y (.pointer (some ⟨g8, 0, none⟩)) W := ⟨g8, rfl, q1, q2, q3⟩
    have HP := hide hp
    have HC := hide hC
    clear hF he q3 hp hC
    go_simp
    exact ⟨HP.out, HC.out, World.grownBy.refl W _⟩
  rintro v ⟨g7, rfl⟩
  (try simp only [Act.put, List.setIfInBounds_toArray, List.set_cons_zero, List.set_cons_succ])
  apply relWalk_const (fun W => World.grownBy.refl W _)
  · intro W hC hF
    obtain ⟨g9, he, _, _, hc9⟩ := hF.1 (by kernel_rfl)
    obtain rfl : g7 = g9 := by injection he with he1; injection he1 with he1; injection he1
    clear hF he
    go_simp
    with_reducible exact rfl
  (try simp only [Act.put, List.setIfInBounds_toArray, List.set_cons_zero, List.set_cons_succ])
  repeat (first
    | (apply relWalk_const (fun W => World.grownBy.refl W _)
       · (intro W hC hF
          clear hF
          go_simp
          with_reducible exact rfl)
       (try simp only [Act.put, List.setIfInBounds_toArray, List.set_cons_zero, List.set_cons_succ])))
  apply relWalk_nil
  intro W4 hC hF
  clear hF
  have P4 := hide hC
  clear hC P1 P2 P3
  go_wp2_with (first
    | (go_at_call 48; (with_reducible refine (HSk.out gs _ n W4 hgs P4.out).mono ?_); rintro e w5 ⟨rfl, hp5⟩; have P5 := hide hp5; clear hp5)
    | (go_at_call 49; (with_reducible refine (HMk.out gs w5 hgs P5.out).mono ?_); rintro e w6 ⟨gy, cy, rfl, hgy, ht⟩; have T6 := hide ht; clear ht))
  apply wp_region_relT 30 (C := TwoI w gs gy ks KV n2 x y) (M := fun W W' => W.grownBy W' (some gs)) (ss := [_, _, _, _, _, _, _, _, _, _, _, _, _, _, _, _, _, _, _, _, _, _, _, _, _, _, _, _, _, _]) (by kernel_rfl) (by kernel_rfl) (by kernel_rfl) (by kernel_rfl) T6.out.drew
  simp only [List.take_succ_cons, List.take_zero, List.drop_succ_cons, List.drop_zero]
  repeat (first
    | (apply relWalk_const (fun W => World.grownBy.refl W _)
       · (intro W hC hF
          clear hF
          have d0 := hC.2.2.1
          have d1 := hC.2.2.2
          obtain ⟨i1, i2, i3, i4⟩ := HI.out
          go_simp
          with_reducible exact rfl)
       (try simp only [Act.put, List.setIfInBounds_toArray, List.set_cons_zero, List.set_cons_succ])))
  refine relWalk_rel (fun v => v = c8 y) (fun _ _ => True) ⟨_, rfl⟩ (fun _ _ _ _ _ => trivial) (by rfl) ?_ ?_
  · intro W hC hF
    refine gives_call rfl [.pointer (some ⟨gs, 0, none⟩), .int .u64 (n1.toNat : Int)] rfl (enters_of Try.func51 (by kernel_rfl) rfl) ?_
    refine (HAt.out gs n2 n1 W hgs hC.1).mono ?_
    rintro e w' ⟨rfl, h1, h2⟩
    exact ⟨_, rfl, by rw [hy.out], trivial, hC.grown h1 h2 hgs hgy, h2⟩
  rintro v rfl
  (try simp only [Act.put, List.setIfInBounds_toArray, List.set_cons_zero, List.set_cons_succ])
  repeat (first
    | (apply relWalk_const (fun W => World.grownBy.refl W _)
       · (intro W hC hF
          clear hF
          have d0 := hC.2.2.1
          have d1 := hC.2.2.2
          obtain ⟨i1, i2, i3, i4⟩ := HI.out
          go_simp
          with_reducible exact rfl)
       (try simp only [Act.put, List.setIfInBounds_toArray, List.set_cons_zero, List.set_cons_succ])))
  apply relWalk_const (fun W => World.grownBy.refl W _)
  · intro W hC hF
    rw [if_pos (by first | exact wanted_none _ rfl | rfl)]
    refine gives_call rfl [.pointer (some ⟨gs, 0, none⟩)] rfl (enters_of Try.func46 (by kernel_rfl) rfl) ?_
    refine (place_any gs ks n2 W hC.1.1).mono ?_
    rintro e w' ⟨rfl, rfl⟩
    exact ⟨_, rfl, rfl, rfl⟩
  (try simp only [Act.put, List.setIfInBounds_toArray, List.set_cons_zero, List.set_cons_succ])
  repeat (first
    | (apply relWalk_const (fun W => World.grownBy.refl W _)
       · (intro W hC hF
          clear hF
          have d0 := hC.2.2.1
          have d1 := hC.2.2.2
          obtain ⟨i1, i2, i3, i4⟩ := HI.out
          go_simp
          with_reducible exact rfl)
       (try simp only [Act.put, List.setIfInBounds_toArray, List.set_cons_zero, List.set_cons_succ])))
  refine relWalk_rel (fun v => v = .bool true) (fun _ _ => True) ⟨_, rfl⟩ (fun _ _ _ _ _ => trivial) (by rfl) ?_ ?_
  · intro W hC hF
    refine gives_call rfl [] rfl (enters_of Try.func44 (by kernel_rfl) rfl) ?_
    refine (alive07_any W).mono ?_
    rintro e w' ⟨rfl, hb⟩
    exact ⟨_, rfl, rfl, trivial, hC.below hb, gb_of hb _⟩
  rintro v rfl
  (try simp only [Act.put, List.setIfInBounds_toArray, List.set_cons_zero, List.set_cons_succ])
  repeat (first
    | (apply relWalk_const (fun W => World.grownBy.refl W _)
       · (intro W hC hF
          clear hF
          go_simp
          with_reducible exact rfl)
       (try simp only [Act.put, List.setIfInBounds_toArray, List.set_cons_zero, List.set_cons_succ])))
  apply relWalk_nil
  intro W hC hF
  clear hF
  have hend := hide hC.1.2.2
  clear hC
  go_wp2
  go_ret
  exact ⟨rfl, hend.out⟩
theorem streamPlaces_walk (w : World) (b0 : List (BitVec 8)) (l0 : b0.length = 32) (x1 : BitVec 64) (x2 : BitVec 64) :
    Calls Try.prog 13 #[.agg (b0.map c8).toArray, .int .u64 (x1.toNat : Int), .int .u64 (x2.toNat : Int)] w fun e w' => e = .returned (.bool true) ∧ Below w.heap.size w w' :=
  streamPlaces_core w b0 _ l0 rfl x1 x2
end Go.Proofs.Ytdeljodfanfbmaa
