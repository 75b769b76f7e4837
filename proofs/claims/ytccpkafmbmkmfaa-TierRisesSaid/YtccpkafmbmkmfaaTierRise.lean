/- Package tier's Rise: the iterator's contract. No condition but that arguments fit their kinds. -/
import Derived.WalkMore
import Derived.Test.YtccpkafmbmkmfaaTierFirst
namespace Go.Proofs.Ytccpkafmbmkmfaa
open Go.RowKit Go.Shelf
set_option linter.unusedVariables false
attribute [local go_sem] Oper.semAt_some

/-- what a round must keep: this cell -/
def KeepsCell (p : Addr) (v : Value) (A B : World) : Prop := A.cell? p = some v → B.cell? p = some v
theorem keepsCell_t {p : Addr} {v : Value} {A B C : World} (h : KeepsCell p v A B) (k : KeepsCell p v B C) : KeepsCell p v A C := fun a => k (h a)
/-- a tier that is due at a height that there is -/
abbrev Tier (b : Nat) (s m : Int) := { k : Nat // (k : Int) < m ∧ (b : Int) + farS s * k ≤ 4294967295 }
def tierRow {b : Nat} {s m : Int} (x : Tier b s m) : Array Value := #[.int .u32 ((b : Int) + farS s * (x.1 : Int)), .int .i64 (x.1 : Int)]
def InRow {b : Nat} {s m : Int} (xs : List (Tier b s m)) : Prop := xs.map (·.1) = List.range xs.length
theorem inRow_nil {b : Nat} {s m : Int} : InRow ([] : List (Tier b s m)) := rfl
theorem inRow_snoc {b : Nat} {s m : Int} {pre : List (Tier b s m)} {x : Tier b s m} (h : InRow pre) (hx : x.1 = pre.length) : InRow (pre ++ [x]) := by
  unfold InRow at h ⊢
  simp [h, hx, List.range_succ]
theorem rise_any (b : Nat) (s m : Int) (w : World) :
    Calls Try.prog 17 #[.int .u32 (b : Int), .int .i64 s, .int .i64 m] w fun e w' =>
      e = .returned (.func (.func 70) #[] #[.pointer (some ⟨w.heap.size + 1, 0, none⟩), .pointer (some ⟨w.heap.size, 0, none⟩), .pointer (some ⟨w.heap.size + 2, 0, none⟩)]) ∧
      w' = ((w.alloc (.cells #[.int .u32 (b : Int)] 22)).alloc (.cells #[.int .i64 s] 3)).alloc (.cells #[.int .i64 m] 3) := by
  go_enter Try.func17, Try.ntmps17
  go_wp2
  go_ret
  exact ⟨rfl, rfl⟩
/-- how the height goes on -/
theorem rise_step (A b f k G : Int) (h : b + f * k = A) (hA0 : 0 ≤ A) (hA : A ≤ 4294967295) (hG : G = min f 4294967296) : min (A + G) 4294967296 = min (b + f * (k + 1)) 4294967296 := by
  rw [Int.mul_add, Int.mul_one]
  omega
theorem rise_step2 (A b f : Int) (k : Nat) (G : Int) (h : b + f * (k : Int) = A) (hA0 : 0 ≤ A) (hA : A ≤ 4294967295) (hG : G = min f 4294967296) : min (A + G) 4294967296 = min (b + f * ((k + 1 : Nat) : Int)) 4294967296 := by
  rw [rise_step A b f k G h hA0 hA hG, Int.natCast_add, Int.natCast_one]
theorem rise_nat (A : Nat) (G : Int) (h : 0 ≤ G) : ∃ A1 : Nat, (A1 : Int) = min ((A : Int) + G) 4294967296 := ⟨(min ((A : Int) + G) 4294967296).toNat, Int.toNat_of_nonneg (by omega)⟩
theorem rise_val {A A1 : Nat} {G V : Int} (hv : V = min ((A : Int) + G) 4294967296) (HQ : Hid ((A1 : Int) = min ((A : Int) + G) 4294967296)) : Value.int .u64 V = Value.int .u64 (A1 : Int) := by rw [hv, HQ.out]
theorem rise_val1 {A A1 : Nat} {G : Int} (h : (A : Int) + G ≤ 4294967296) (HQ : Hid ((A1 : Int) = min ((A : Int) + G) 4294967296)) : Value.int .u64 ((A : Int) + G) = Value.int .u64 (A1 : Int) := rise_val (by omega) HQ
theorem rise_val2 {A A1 : Nat} {G : Int} (h : 4294967296 < (A : Int) + G) (HQ : Hid ((A1 : Int) = min ((A : Int) + G) 4294967296)) : Value.int .u64 4294967296 = Value.int .u64 (A1 : Int) := rise_val (by omega) HQ
theorem int_succ (k : Nat) : Value.int .i64 ((k : Int) + 1) = Value.int .i64 ((k + 1 : Nat) : Int) := by rw [Int.natCast_add]; rfl
theorem int_lt_succ {k : Nat} {m : Int} (h : (k : Int) < m) : ((k + 1 : Nat) : Int) ≤ m := by omega
theorem rise_le {A A1 : Nat} {G : Int} (HQ : Hid ((A1 : Int) = min ((A : Int) + G) 4294967296)) : A1 ≤ 4294967296 := by have := HQ.out; omega
theorem rise_eq {b A A1 k : Nat} {s G : Int} (HQ : Hid ((A1 : Int) = min ((A : Int) + G) 4294967296)) (HS : Hid (min ((A : Int) + G) 4294967296 = min ((b : Int) + farS s * ((k + 1 : Nat) : Int)) 4294967296)) : Hid ((A1 : Int) = min ((b : Int) + farS s * ((k + 1 : Nat) : Int)) 4294967296) := hide (HQ.out.trans HS.out)
theorem wpIn_scope_wide {n : Nat} {P : Program} {c : Code} {Q : Exit → Act → World → Prop} {a : Act} {w : World} (h : c.wpIn Fence.wide n P (Exit.noGoto Q) a w) : (Code.scope c).wpIn Fence.wide n P Q a w :=
  wpIn_wide.2 (wp_scope_straight (wpIn_wide.1 h))
theorem wpIn_label_wide {n : Nat} {P : Program} {l : Nat} {Q : Exit → Act → World → Prop} {a : Act} {w : World} (h : Q .normal a w) : (Code.label l).wpIn Fence.wide n P Q a w :=
  wpIn_wide.2 (wp_label h)
set_option maxRecDepth 100000 in
set_option maxHeartbeats 400000 in
theorem rise_stops (n : Nat) (hn : 1 ≤ n) (Bs Bb Bm b : Nat) (s m : Int) (hb : b ≤ 4294967295) (s0 : -9223372036854775808 ≤ s) (s1 : s ≤ 9223372036854775807) (m1 : m ≤ 300)
    (w : World) (ls : Bs < w.heap.size) (lb : Bb < w.heap.size) (lm : Bm < w.heap.size) (cs0 : w.cell? ⟨Bs, 0, none⟩ = some (.int .i64 s)) (cb0 : w.cell? ⟨Bb, 0, none⟩ = some (.int .u32 (b : Int))) (cm0 : w.cell? ⟨Bm, 0, none⟩ = some (.int .i64 m)) :
    SeqStopsK Fence.wide n Try.prog 70 #[.pointer (some ⟨Bs, 0, none⟩), .pointer (some ⟨Bb, 0, none⟩), .pointer (some ⟨Bm, 0, none⟩)] (tierRow (b := b) (s := s) (m := m)) (KeepsCell ⟨Bm, 0, none⟩ (.int .i64 m))
      (fun xs => InRow xs ∧ (m ≤ (xs.length : Int) ∨ 4294967295 < (b : Int) + farS s * (xs.length : Int))) InRow m.toNat w := fun l J Jx W hW _ _ hY h0 => by
  have cs := (hW.cell (p := ⟨Bs, 0, none⟩) ls).trans cs0
  have cb := (hW.cell (p := ⟨Bb, 0, none⟩) lb).trans cb0
  have cm := (hW.cell (p := ⟨Bm, 0, none⟩) lm).trans cm0
  clear cs0 cb0 cm0 hW
  refine callsIn_of_wp Try.func70 rfl trivial ?_ rfl
  simp only [Try.ntmps70, List.size_toArray, List.length_cons, List.length_nil, Nat.reduceAdd, Nat.reduceSub, Array.replicate_succ, Array.replicate_zero, List.push_toArray, List.append_toArray, List.nil_append, List.cons_append]
  refine wpIn_scope_wide ?_
  have hf1 := farS_pos s
  by_cases c3 : s < 1
  · have GE : (1 : Int) = min (farS s) 4294967296 := by simp [farS, c3]; decide
    have GEH := hide GE
    clear GE
    gi_wp2
    refine wpIn_label_wide ?_
    gi_wp2
    gi_loopw [6, 7] (fun a i wr => ∃ k A : Nat, i = .int .i64 (k : Int) ∧ a = .int .u64 (A : Int) ∧ A ≤ 4294967296 ∧ (k = 0 ∨ (k : Int) ≤ m) ∧ Hid ((A : Int) = min ((b : Int) + farS s * (k : Int)) 4294967296) ∧ wr.cell? ⟨Bm, 0, none⟩ = some (.int .i64 m) ∧ ∃ pre : List (Tier b s m), Hid (pre.length = k ∧ InRow pre) ∧ J pre wr) (fun a i wr => m.toNat - (intOf i).toNat)
    case atStart => exact ⟨0, b, rfl, rfl, by omega, .inl rfl, hide (by simp; omega), cm, [], hide ⟨rfl, inRow_nil⟩, h0⟩
    case round =>
      obtain ⟨k, A, rfl, rfl, hA, hk, HA, cm1, pre, HP, hJ1⟩ := hrel
      by_cases hlt : (k : Int) < m
      · by_cases h1 : 4294967295 < (A : Int)
        · have HX := hide (show 4294967295 < (b : Int) + farS s * (k : Int) from by have := HA.out; omega)
          gi_wp2
          refine ⟨fun _ h => (by cases h), ?_⟩
          gi_wp2
          (try rw [Exit.noGoto_normal])
          go_end0
          exact ⟨⟨_, rfl⟩, .inl ⟨pre, ⟨HP.out.2, .inr (by rw [HP.out.1]; exact HX.out)⟩, hJ1⟩⟩
        · have h1' : (A : Int) ≤ 4294967295 := by omega
          have hE := (show (b : Int) + farS s * (k : Int) = (A : Int) from by have := HA.out; omega)
          have hA8 : (A : Int) % 4294967296 = (A : Int) := by omega
          obtain ⟨x, hx⟩ : ∃ x : Tier b s m, x.1 = k := ⟨⟨k, hlt, by omega⟩, rfl⟩
          obtain ⟨fn, tmps, assign, body, hy, hR⟩ := hY pre x wr hJ1 (by rw [HP.out.1]; omega)
          dsimp only [tierRow] at hy
          rw [hx, hE] at hy
          have HX := hide hx
          clear hx
          have HS := hide (rise_step2 (A : Int) b (farS s) k (1 : Int) hE (by omega) h1' GEH.out)
          clear hE
          obtain ⟨A1, hA1⟩ : ∃ A1 : Nat, (A1 : Int) = min ((A : Int) + (1 : Int)) 4294967296 := rise_nat A (1 : Int) (by omega)
          have HQ := hide hA1
          clear hA1
          by_cases h2 : (A : Int) + (1 : Int) ≤ 4294967296
          · gi_wp2
            refine hR.mono ?_
            rintro e W3 (⟨rfl, hJ3, hk3⟩ | ⟨rfl, hJx3⟩)
            · have cm3 := hk3 cm1
              clear hk3 hR hy hY
              gi_wp2
              go_roundw
              case rel =>
                exact ⟨k + 1, A1, int_succ k, rise_val1 h2 HQ, rise_le HQ, .inr (int_lt_succ hlt), rise_eq HQ HS, cm3, pre ++ [x], hide ⟨by simp [HP.out.1], inRow_snoc HP.out.2 (HX.out.trans HP.out.1.symm)⟩, hJ3⟩
              case measure => simp [intOf]; omega
            · gi_wp2
              (try rw [Exit.noGoto_normal])
              go_end0
              exact ⟨⟨_, rfl⟩, .inr ⟨_, inRow_snoc HP.out.2 (HX.out.trans HP.out.1.symm), hJx3⟩⟩
          · gi_wp2
            refine hR.mono ?_
            rintro e W3 (⟨rfl, hJ3, hk3⟩ | ⟨rfl, hJx3⟩)
            · have cm3 := hk3 cm1
              clear hk3 hR hy hY
              gi_wp2
              go_roundw
              case rel =>
                exact ⟨k + 1, A1, int_succ k, rise_val2 h2 HQ, rise_le HQ, .inr (int_lt_succ hlt), rise_eq HQ HS, cm3, pre ++ [x], hide ⟨by simp [HP.out.1], inRow_snoc HP.out.2 (HX.out.trans HP.out.1.symm)⟩, hJ3⟩
              case measure => simp [intOf]; omega
            · gi_wp2
              (try rw [Exit.noGoto_normal])
              go_end0
              exact ⟨⟨_, rfl⟩, .inr ⟨_, inRow_snoc HP.out.2 (HX.out.trans HP.out.1.symm), hJx3⟩⟩
      · gi_wp2
        (try rw [Exit.noGoto_normal])
        go_end0
        exact ⟨⟨_, rfl⟩, .inl ⟨pre, ⟨HP.out.2, .inl (by rw [HP.out.1]; omega)⟩, hJ1⟩⟩
  · have c3' : 1 ≤ s := by omega
    by_cases c4 : s ≤ 4294967296
    · have GE : s = min (farS s) 4294967296 := by simp [farS, c3]; omega
      have GEH := hide GE
      clear GE
      gi_wp2
      refine wpIn_label_wide ?_
      gi_wp2
      gi_loopw [6, 7] (fun a i wr => ∃ k A : Nat, i = .int .i64 (k : Int) ∧ a = .int .u64 (A : Int) ∧ A ≤ 4294967296 ∧ (k = 0 ∨ (k : Int) ≤ m) ∧ Hid ((A : Int) = min ((b : Int) + farS s * (k : Int)) 4294967296) ∧ wr.cell? ⟨Bm, 0, none⟩ = some (.int .i64 m) ∧ ∃ pre : List (Tier b s m), Hid (pre.length = k ∧ InRow pre) ∧ J pre wr) (fun a i wr => m.toNat - (intOf i).toNat)
      case atStart => exact ⟨0, b, rfl, rfl, by omega, .inl rfl, hide (by simp; omega), cm, [], hide ⟨rfl, inRow_nil⟩, h0⟩
      case round =>
        obtain ⟨k, A, rfl, rfl, hA, hk, HA, cm1, pre, HP, hJ1⟩ := hrel
        by_cases hlt : (k : Int) < m
        · by_cases h1 : 4294967295 < (A : Int)
          · have HX := hide (show 4294967295 < (b : Int) + farS s * (k : Int) from by have := HA.out; omega)
            gi_wp2
            refine ⟨fun _ h => (by cases h), ?_⟩
            gi_wp2
            (try rw [Exit.noGoto_normal])
            go_end0
            exact ⟨⟨_, rfl⟩, .inl ⟨pre, ⟨HP.out.2, .inr (by rw [HP.out.1]; exact HX.out)⟩, hJ1⟩⟩
          · have h1' : (A : Int) ≤ 4294967295 := by omega
            have hE := (show (b : Int) + farS s * (k : Int) = (A : Int) from by have := HA.out; omega)
            have hA8 : (A : Int) % 4294967296 = (A : Int) := by omega
            obtain ⟨x, hx⟩ : ∃ x : Tier b s m, x.1 = k := ⟨⟨k, hlt, by omega⟩, rfl⟩
            obtain ⟨fn, tmps, assign, body, hy, hR⟩ := hY pre x wr hJ1 (by rw [HP.out.1]; omega)
            dsimp only [tierRow] at hy
            rw [hx, hE] at hy
            have HX := hide hx
            clear hx
            have HS := hide (rise_step2 (A : Int) b (farS s) k s hE (by omega) h1' GEH.out)
            clear hE
            obtain ⟨A1, hA1⟩ : ∃ A1 : Nat, (A1 : Int) = min ((A : Int) + s) 4294967296 := rise_nat A s (by omega)
            have HQ := hide hA1
            clear hA1
            by_cases h2 : (A : Int) + s ≤ 4294967296
            · gi_wp2
              refine hR.mono ?_
              rintro e W3 (⟨rfl, hJ3, hk3⟩ | ⟨rfl, hJx3⟩)
              · have cm3 := hk3 cm1
                clear hk3 hR hy hY
                gi_wp2
                go_roundw
                case rel =>
                  exact ⟨k + 1, A1, int_succ k, rise_val1 h2 HQ, rise_le HQ, .inr (int_lt_succ hlt), rise_eq HQ HS, cm3, pre ++ [x], hide ⟨by simp [HP.out.1], inRow_snoc HP.out.2 (HX.out.trans HP.out.1.symm)⟩, hJ3⟩
                case measure => simp [intOf]; omega
              · gi_wp2
                (try rw [Exit.noGoto_normal])
                go_end0
                exact ⟨⟨_, rfl⟩, .inr ⟨_, inRow_snoc HP.out.2 (HX.out.trans HP.out.1.symm), hJx3⟩⟩
            · gi_wp2
              refine hR.mono ?_
              rintro e W3 (⟨rfl, hJ3, hk3⟩ | ⟨rfl, hJx3⟩)
              · have cm3 := hk3 cm1
                clear hk3 hR hy hY
                gi_wp2
                go_roundw
                case rel =>
                  exact ⟨k + 1, A1, int_succ k, rise_val2 h2 HQ, rise_le HQ, .inr (int_lt_succ hlt), rise_eq HQ HS, cm3, pre ++ [x], hide ⟨by simp [HP.out.1], inRow_snoc HP.out.2 (HX.out.trans HP.out.1.symm)⟩, hJ3⟩
                case measure => simp [intOf]; omega
              · gi_wp2
                (try rw [Exit.noGoto_normal])
                go_end0
                exact ⟨⟨_, rfl⟩, .inr ⟨_, inRow_snoc HP.out.2 (HX.out.trans HP.out.1.symm), hJx3⟩⟩
        · gi_wp2
          (try rw [Exit.noGoto_normal])
          go_end0
          exact ⟨⟨_, rfl⟩, .inl ⟨pre, ⟨HP.out.2, .inl (by rw [HP.out.1]; omega)⟩, hJ1⟩⟩
    · have c4' : 4294967296 < s := by omega
      have GE : (4294967296 : Int) = min (farS s) 4294967296 := by simp [farS, c3]; omega
      have GEH := hide GE
      clear GE
      gi_wp2
      refine wpIn_label_wide ?_
      gi_wp2
      gi_loopw [6, 7] (fun a i wr => ∃ k A : Nat, i = .int .i64 (k : Int) ∧ a = .int .u64 (A : Int) ∧ A ≤ 4294967296 ∧ (k = 0 ∨ (k : Int) ≤ m) ∧ Hid ((A : Int) = min ((b : Int) + farS s * (k : Int)) 4294967296) ∧ wr.cell? ⟨Bm, 0, none⟩ = some (.int .i64 m) ∧ ∃ pre : List (Tier b s m), Hid (pre.length = k ∧ InRow pre) ∧ J pre wr) (fun a i wr => m.toNat - (intOf i).toNat)
      case atStart => exact ⟨0, b, rfl, rfl, by omega, .inl rfl, hide (by simp; omega), cm, [], hide ⟨rfl, inRow_nil⟩, h0⟩
      case round =>
        obtain ⟨k, A, rfl, rfl, hA, hk, HA, cm1, pre, HP, hJ1⟩ := hrel
        by_cases hlt : (k : Int) < m
        · by_cases h1 : 4294967295 < (A : Int)
          · have HX := hide (show 4294967295 < (b : Int) + farS s * (k : Int) from by have := HA.out; omega)
            gi_wp2
            refine ⟨fun _ h => (by cases h), ?_⟩
            gi_wp2
            (try rw [Exit.noGoto_normal])
            go_end0
            exact ⟨⟨_, rfl⟩, .inl ⟨pre, ⟨HP.out.2, .inr (by rw [HP.out.1]; exact HX.out)⟩, hJ1⟩⟩
          · have h1' : (A : Int) ≤ 4294967295 := by omega
            have hE := (show (b : Int) + farS s * (k : Int) = (A : Int) from by have := HA.out; omega)
            have hA8 : (A : Int) % 4294967296 = (A : Int) := by omega
            obtain ⟨x, hx⟩ : ∃ x : Tier b s m, x.1 = k := ⟨⟨k, hlt, by omega⟩, rfl⟩
            obtain ⟨fn, tmps, assign, body, hy, hR⟩ := hY pre x wr hJ1 (by rw [HP.out.1]; omega)
            dsimp only [tierRow] at hy
            rw [hx, hE] at hy
            have HX := hide hx
            clear hx
            have HS := hide (rise_step2 (A : Int) b (farS s) k (4294967296 : Int) hE (by omega) h1' GEH.out)
            clear hE
            obtain ⟨A1, hA1⟩ : ∃ A1 : Nat, (A1 : Int) = min ((A : Int) + (4294967296 : Int)) 4294967296 := rise_nat A (4294967296 : Int) (by omega)
            have HQ := hide hA1
            clear hA1
            by_cases h2 : (A : Int) + (4294967296 : Int) ≤ 4294967296
            · gi_wp2
              refine hR.mono ?_
              rintro e W3 (⟨rfl, hJ3, hk3⟩ | ⟨rfl, hJx3⟩)
              · have cm3 := hk3 cm1
                clear hk3 hR hy hY
                gi_wp2
                go_roundw
                case rel =>
                  exact ⟨k + 1, A1, int_succ k, rise_val1 h2 HQ, rise_le HQ, .inr (int_lt_succ hlt), rise_eq HQ HS, cm3, pre ++ [x], hide ⟨by simp [HP.out.1], inRow_snoc HP.out.2 (HX.out.trans HP.out.1.symm)⟩, hJ3⟩
                case measure => simp [intOf]; omega
              · gi_wp2
                (try rw [Exit.noGoto_normal])
                go_end0
                exact ⟨⟨_, rfl⟩, .inr ⟨_, inRow_snoc HP.out.2 (HX.out.trans HP.out.1.symm), hJx3⟩⟩
            · gi_wp2
              refine hR.mono ?_
              rintro e W3 (⟨rfl, hJ3, hk3⟩ | ⟨rfl, hJx3⟩)
              · have cm3 := hk3 cm1
                clear hk3 hR hy hY
                gi_wp2
                go_roundw
                case rel =>
                  exact ⟨k + 1, A1, int_succ k, rise_val2 h2 HQ, rise_le HQ, .inr (int_lt_succ hlt), rise_eq HQ HS, cm3, pre ++ [x], hide ⟨by simp [HP.out.1], inRow_snoc HP.out.2 (HX.out.trans HP.out.1.symm)⟩, hJ3⟩
                case measure => simp [intOf]; omega
              · gi_wp2
                (try rw [Exit.noGoto_normal])
                go_end0
                exact ⟨⟨_, rfl⟩, .inr ⟨_, inRow_snoc HP.out.2 (HX.out.trans HP.out.1.symm), hJx3⟩⟩
        · gi_wp2
          (try rw [Exit.noGoto_normal])
          go_end0
          exact ⟨⟨_, rfl⟩, .inl ⟨pre, ⟨HP.out.2, .inl (by rw [HP.out.1]; omega)⟩, hJ1⟩⟩
end Go.Proofs.Ytccpkafmbmkmfaa
