/- Package sha's Clone and end. Condition: at most 2^40 bytes were told. -/
import Derived.Test.YtccpkafmbmkmfaaHashWrite
import Derived.Test.YtccpkafmbmkmfaaWBytes
namespace Go.Proofs.Ytccpkafmbmkmfaa
open Go.RowKit Go.Shelf
set_option linter.unusedVariables false
set_option linter.unusedSimpArgs false

theorem write_nil (v : Value) (w : World) : Calls Try.prog 127 #[.pointer none, v] w fun e w' => e = .returned (.int .i64 0) ∧ w = w' := by
  go_enter Try.func127, Try.ntmps127
  go_wp2
  go_ret
  exact ⟨rfl, rfl⟩
theorem clone_nil (w : World) : Calls Try.prog 131 #[.pointer none] w fun e w' => e = .returned (.pointer none) ∧ w = w' := by
  go_enter Try.func131, Try.ntmps131
  go_wp2
  go_ret
  exact ⟨rfl, rfl⟩
theorem info_hash : (Try.prog.info? 175).map (·.size) = some 10 := by kernel_rfl
theorem zero_hash : ∃ Z : Array Value, (Try.prog.info? 175).map (·.zero) = some (some (.agg Z)) ∧ Z.size = 10 := ⟨hashCells ⟨0, 0, 0, 0, 0, 0, 0, 0⟩ (.slice none 0 0) 0, by kernel_rfl, rfl⟩
theorem hashCells_one (v : V8) (A : Option Addr) (n c m : Nat) : (hashCells v (.slice A n c) m).all (·.oneCell') = true := by
  rw [Array.all_eq_true_iff_forall_mem]
  intro u hu
  simp only [hashCells, List.mem_toArray, List.mem_append, List.mem_cons, List.not_mem_nil, or_false] at hu
  rcases hu with hu | rfl | rfl
  · obtain ⟨x, _, rfl⟩ := List.mem_map.1 hu; rfl
  · rfl
  · rfl
set_option maxRecDepth 100000 in
theorem clone_any (g : Nat) (bs : List (BitVec 8)) (w : World) (hh : HashIs w g bs) (hb : bs.length ≤ 1099511627776) : Calls Try.prog 131 #[.pointer (some ⟨g, 0, none⟩)] w (MadeHash bs w) := by
  obtain ⟨i0, hi0, hz0, hz1, hz2⟩ := info_parts info_u8
  obtain ⟨Z, hZ, hZs⟩ := zero_hash
  obtain ⟨A0, n0, c0, h1, h2, h3, h4⟩ := hh
  have hgs := h1.lt
  have hn0 : n0 ≤ 63 := by have := h2.len; rw [restOf_len] at this; omega
  obtain ⟨C, hC⟩ : ∃ C, C = hashCells (stateV bs) (.slice A0 n0 c0) bs.length := ⟨_, rfl⟩
  have hCs : C.size = 10 := by rw [hC]; rfl
  have HI : Hid ((Try.prog.info? 175).map (·.size) = some C.size) := hide (by rw [hCs]; exact info_hash)
  have HO := hide (show C.all (·.oneCell') = true by rw [hC]; exact hashCells_one _ _ _ _ _)
  have HZC := hide (show Z.size = C.size by rw [hZs, hCs])
  rw [← hC] at h1
  have x8 : w.cell? ⟨g, 8, none⟩ = some (.slice A0 n0 c0) := (h1.cell 8).trans (by rw [hC]; rfl)
  have h8 : (hashCells (stateV bs) (.slice A0 n0 c0) bs.length)[8]? = some (.slice A0 n0 c0) := rfl
  -- the new block, as the walk makes it
  have k1 : Blk ((w.alloc (.cells Z 175)).setRow w.heap.size C) w.heap.size 175 C := (Blk.new w _ Z).setRow_ C
  have hB1 : Below w.heap.size w ((w.alloc (.cells Z 175)).setRow w.heap.size C) := below_setRow ((Below.refl _ w).alloc (Nat.le_refl _) _) (Nat.le_refl _) _
  have hz1' : ((w.alloc (.cells Z 175)).setRow w.heap.size C).heap.size = w.heap.size + 1 := by simp
  have kz : Blk (w.alloc (.cells Z 175)) w.heap.size 175 Z := Blk.new w _ Z
  replace hC := hide hC
  replace h1 := hide h1
  replace k1 := hide k1
  replace hB1 := hide hB1
  replace hz1' := hide hz1'
  replace kz := hide kz
  replace hZ := hide hZ
  clear hCs h8 hZs
  go_enter Try.func131, Try.ntmps131
  go_wp2_with (first
    | ((with_reducible show wpList _ _ _ (⟨_, .load 175 _, _, _, _, _⟩ :: _) _ _); refine wpList_load_row rfl 175 _ rfl g rfl 175 C (0, 0) _ h1.out Try.underlying175 rfl HI.out ?_)
    | (refine wpList_alloc_is rfl 175 rfl Z hZ.out ?_)
    | ((with_reducible show wpList _ _ _ (⟨_, .store 175 _ _, _, _, _, _⟩ :: _) _ _); refine wpList_store_row rfl 175 _ _ rfl w.heap.size rfl C rfl 175 Z kz.out HI.out HZC.out HO.out ?_; generalize (w.alloc (.cells Z 175)).setRow w.heap.size C = W1 at *; replace x8 := (hB1.out.cell (p := ⟨g, 8, none⟩) hgs).trans x8)
    | (at_builtin; refine wpList_append_any _ rfl (.const (.slice none 0 0)) (.tmp 12) 78 rfl w.heap.size 5 i0 _ 1 1 Try.underlying78 hi0 hz0 hz1 hz2 rfl (by omega) (.slice none 0 0) 0 [] rfl (World.ownsRow_nil _ _ _ _) _ A0 n0 c0 _ rfl (h2.later hB1.out) (oneCell_c8 _) (by simp only [maxLen]; omega) (by omega) hB1.out.size ?_; intro v5 W5 own5 grow5 _; have b5 := hB1.out.grown grow5 hB1.out.size (by intro k e; cases e); have k5 := k1.out.grown grow5 (by intro e; cases e); simp only [Nat.zero_add, List.nil_append] at own5; obtain ⟨A5, c5, rfl⟩ := own_slice own5; have y8 : W5.cell? ⟨w.heap.size, 8, none⟩ = some (.slice A0 n0 c0) := (k5.cell 8).trans (by rw [hC.out]; rfl); have f8 := k5.frozen 8; have q5 := hide own5; replace b5 := hide b5; replace k5 := hide k5; clear own5 grow5))
  go_ret
  have R5 := Reads.of_own q5.out
  have nc5 := own_cap q5.out
  have ge5 := own_ge q5.out
  have B6 := k5.out.set_ 8 (.slice A5 n0 c5)
  rw [hC.out, hashCells_rest] at B6
  have hA5 : ∀ ad, A5 = some ad → ad.block ≠ w.heap.size := fun ad e => by obtain ⟨_, cs, hcs⟩ := ge5 ad e; exact Blk.ne_ hcs k5.out (by decide)
  refine ⟨w.heap.size, rfl, Nat.le_refl _, ⟨A5, n0, c5, B6, R5.apart (gb_cell _ _ _ _) (fun _ => hA5), nc5, fun ad e => ?_⟩, b5.out.setCell (p := ⟨w.heap.size, 8, none⟩) (Nat.le_refl _) _⟩
  obtain ⟨_, cs, hcs⟩ := ge5 ad e
  exact ⟨cs, hcs.far (fun e' => hA5 ad e e') _⟩
end Go.Proofs.Ytccpkafmbmkmfaa
