/- The walk of the law ShaApart: a clone goes its own way. No condition. -/
import Derived.Test.YtdikknfdgpdenaaShaAlive
namespace Go.Proofs.Ytdikknfdgpdenaa
open Go.RowKit
set_option linter.unusedVariables false
set_option linter.unusedSimpArgs false

theorem rows2 {W : World} {A1 A2 : Option Addr} {n1 c1 n2 c2 : Nat} {b1 b2 : List (BitVec 8)} (r1 : Reads W W.heap.size 1 A1 n1 (b1.map c8)) (h1 : n1 ≤ c1) (r2 : Reads W W.heap.size 1 A2 n2 (b2.map c8)) (h2 : n2 ≤ c2) (t : TypeId) :
    Reads (W.alloc (.cells #[.slice A1 n1 c1, .slice A2 n2 c2] t)) (W.alloc (.cells #[.slice A1 n1 c1, .slice A2 n2 c2] t)).heap.size 1 (some ⟨W.heap.size, 0, none⟩) 2 [.slice A1 n1 c1, .slice A2 n2 c2] ∧
    Rows8 (W.alloc (.cells #[.slice A1 n1 c1, .slice A2 n2 c2] t)) (W.alloc (.cells #[.slice A1 n1 c1, .slice A2 n2 c2] t)).heap.size [.slice A1 n1 c1, .slice A2 n2 c2] [b1, b2] := by
  have hb := (Below.refl W.heap.size W).alloc (Nat.le_refl _) (.cells #[.slice A1 n1 c1, .slice A2 n2 c2] t)
  refine ⟨(Reads.new W t #[.slice A1 n1 c1, .slice A2 n2 c2]).more (by simp), rfl, fun i v p hv hp => ?_⟩
  match i with
  | 0 => cases hv; cases hp; exact ⟨_, _, _, rfl, r1.later hb, h1⟩
  | 1 => cases hv; cases hp; exact ⟨_, _, _, rfl, r2.later hb, h2⟩
  | _ + 2 => simp at hv
/-- two parts, built in place, joined -/
theorem join2_any {w W : World} {A1 A2 : Option Addr} {n1 c1 n2 c2 : Nat} {b1 b2 : List (BitVec 8)} (r1 : Reads w w.heap.size 1 A1 n1 (b1.map c8)) (h1 : n1 ≤ c1) (r2 : Reads w w.heap.size 1 A2 n2 (b2.map c8)) (h2 : n2 ≤ c2) (hl : n1 + n2 ≤ 1099511627776) (hB : Below w.heap.size w W) (c : Nat) :
    Calls Try.prog 37 #[.slice (some ⟨W.heap.size, 0, none⟩) 2 c] (W.alloc (.cells #[.slice A1 n1 c1, .slice A2 n2 c2] 29)) fun e w' => ∃ A' c', e = .returned (.slice A' (n1 + n2) c') ∧ Reads w' w'.heap.size 1 A' (n1 + n2) ((b1 ++ b2).map c8) ∧ Below W.heap.size W w' := by
  obtain ⟨q1, q2⟩ := rows2 ((r1.below hB).more hB.size) h1 ((r2.below hB).more hB.size) h2 29
  have l1 : b1.length = n1 := r1.len
  have l2 : b2.length = n2 := r2.len
  have e : ([b1, b2] : List (List (BitVec 8))).flatten = b1 ++ b2 := by simp
  have h := join_any _ 2 c _ _ _ q1 q2 (by omega) (by rw [e, List.length_append, l1, l2]; exact hl)
  rw [e] at h
  refine h.mono ?_
  rintro e w' ⟨A', m, c', rfl, own, hb⟩
  have hr := Reads.of_own own
  have hm : m = n1 + n2 := by have := hr.len; rw [List.length_append, l1, l2] at this; omega
  subst hm
  exact ⟨A', c', rfl, hr, ((Below.refl W.heap.size W).alloc (Nat.le_refl _) _).trans (hb.mono (by simp))⟩
/-- a slice of the caller's lies ahead of a block of one's own -/
theorem ahead {w : World} {A : Option Addr} {n g : Nat} {l : List (BitVec 8)} (h : Reads w w.heap.size 1 A n (l.map c8)) (hg : w.heap.size ≤ g) : 0 < n → ∀ ad, A = some ad → ad.block ≠ g := fun hn ad e => by
  obtain ⟨ad', e', hb, _⟩ := h.2 hn
  rw [e] at e'; cases e'; omega
set_option maxRecDepth 100000 in
set_option maxHeartbeats 1600000 in
theorem shaApart_walk (w : World) (A0 : Option Addr) (n0 c0 : Nat) (bs0 : List (BitVec 8)) (r0 : Reads w w.heap.size 1 A0 n0 (bs0.map c8)) (m0 : n0 ≤ 9223372036854775807) (k0 : n0 ≤ c0) (A1 : Option Addr) (n1 c1 : Nat) (bs1 : List (BitVec 8)) (r1 : Reads w w.heap.size 1 A1 n1 (bs1.map c8)) (m1 : n1 ≤ 9223372036854775807) (k1 : n1 ≤ c1) (A2 : Option Addr) (n2 c2 : Nat) (bs2 : List (BitVec 8)) (r2 : Reads w w.heap.size 1 A2 n2 (bs2.map c8)) (m2 : n2 ≤ 9223372036854775807) (k2 : n2 ≤ c2) :
    Calls Try.prog 7 #[.slice A0 n0 c0, .slice A1 n1 c1, .slice A2 n2 c2] w fun e w' => e = .returned (.bool true) ∧ Below w.heap.size w w' := by
  by_cases hs : n0 ≤ 400 ∧ n1 ≤ 400 ∧ n2 ≤ 400
  · obtain ⟨s0, s1, s2⟩ := hs
    have l0 : bs0.length = n0 := r0.len
    have l1 : bs1.length = n1 := r1.len
    have l2 : bs2.length = n2 := r2.len
    obtain ⟨F, hF⟩ : ∃ F : List (BitVec 8) → Array Value, F = fun l => ((shaOf l).map c8).toArray := ⟨_, rfl⟩
    have hee : ∀ (l : List (BitVec 8)) (w : World), (Op.equalIn 10000 44 (.agg (F l)) (.agg (F l))).run Try.prog w = .ok true w := fun l w => by
      have h := eq_id (shaOf l) (shaOf l) (shaOf_len _) (shaOf_len _) w
      rw [hF]; dsimp only; rw [h]; simp
    have HS : Hid (∀ g bs W, HashIs W g bs → bs.length ≤ 1099511627000 → Calls Try.prog 35 #[.pointer (some ⟨g, 0, none⟩)] W fun e w' => e = .returned (.agg (F bs)) ∧ Below W.heap.size W w') := hide (fun g bs W h hb => by rw [hF]; exact hashsum_any g bs W h hb)
    have HN : Hid (∀ W, Calls Try.prog 35 #[.pointer none] W fun e w' => e = .returned (.agg (F [])) ∧ Below W.heap.size W w') := hide (fun W => by rw [hF]; exact hashsum_nil W)
    have HRS : Hid (∀ A n c bs W, Reads W W.heap.size 1 A n (bs.map c8) → n ≤ 1099511627776 → Calls Try.prog 36 #[.slice A n c] W fun e w' => e = .returned (.agg (F bs)) ∧ Below W.heap.size W w') := hide (fun A n c bs W h hn => by rw [hF]; exact refsum_any A n c bs W h hn)
    clear hF
    replace r0 := hide r0
    replace r1 := hide r1
    replace r2 := hide r2
    go_enter Try.func7, Try.ntmps7
    go_wp2_with (first
      | (go_at_call 33; (with_reducible refine (newhash_any _).mono ?_); rintro e w1 ⟨g, rfl, hg, hh1, hb1⟩; have H1 := hide hh1; have B1 := hide hb1; clear hh1 hb1)
      | (go_at_call 34; (with_reducible refine (write_any g A0 n0 c0 [] bs0 w1 H1.out ((r0.out.below B1.out).more B1.out.size) (ahead r0.out hg) (by simp; omega)).mono ?_); rintro e w2 ⟨rfl, hh2, gb2⟩; rw [List.nil_append] at hh2; have H2 := hide hh2; have B2 := hide (B1.out.grown gb2 B1.out.size (fun q e => by cases e; exact hg)); clear hh2 gb2)
      | (go_at_call 40; (with_reducible refine (clone_any g bs0 w2 H2.out (by omega)).mono ?_); rintro e w3 ⟨x, rfl, hx, hhx, hb3⟩; have HG3 := hide (H2.out.below hb3); have HX3 := hide hhx; have B3 := hide (B2.out.trans (hb3.mono B2.out.size)); have hgx : g ≠ x := (by have := H2.out.lt; omega); have hxw : w.heap.size ≤ x := Nat.le_trans B2.out.size hx; clear hhx hb3)
      | (go_at_call 34; (with_reducible refine (write_any g A1 n1 c1 bs0 bs1 w3 HG3.out ((r1.out.below B3.out).more B3.out.size) (ahead r1.out hg) (by omega)).mono ?_); rintro e w4 ⟨rfl, hh4, gb4⟩; have HG4 := hide hh4; have HX4 := hide (by obtain ⟨_, _, _, hk, _⟩ := HG3.out; exact HX3.out.grown gb4 hk hgx); have B4 := hide (B3.out.grown gb4 B3.out.size (fun q e => by cases e; exact hg)); clear hh4 gb4)
      | (go_at_call 34; (with_reducible refine (write_any x A2 n2 c2 bs0 bs2 w4 HX4.out ((r2.out.below B4.out).more B4.out.size) (ahead r2.out hxw) (by omega)).mono ?_); rintro e w5 ⟨rfl, hh5, gb5⟩; have HX5 := hide hh5; have HG5 := hide (by obtain ⟨_, _, _, hk, _⟩ := HX4.out; exact HG4.out.grown gb5 hk hgx.symm); have B5 := hide (B4.out.grown gb5 B4.out.size (fun q e => by cases e; exact hxw)); clear hh5 gb5)
      | (go_at_call 35; (with_reducible refine (HS.out g (bs0 ++ bs1) w5 HG5.out (by rw [List.length_append]; omega)).mono ?_); rintro e w6 ⟨rfl, hb6⟩; have B6 := hide (below_next B5.out hb6); have HX6 := hide (HX5.out.below hb6); clear hb6)
      | (go_at_call 37; (with_reducible refine (join2_any r0.out k0 r1.out k1 (by omega) B6.out _).mono ?_); rintro e w7 ⟨A7, c7, rfl, hr7, hb7⟩; have B7 := hide (below_next B6.out hb7); have R7 := hide hr7; have HX7 := hide (HX6.out.below hb7); clear hr7 hb7)
      | (go_at_call 36; (with_reducible refine (HRS.out A7 _ c7 (bs0 ++ bs1) w7 R7.out (by omega)).mono ?_); rintro e w8 ⟨rfl, hb8⟩; have B8 := hide (below_next B7.out hb8); have HX8 := hide (HX7.out.below hb8); clear hb8)
      | (go_at_call 35; (with_reducible refine (HS.out x (bs0 ++ bs2) w8 HX8.out (by rw [List.length_append]; omega)).mono ?_); rintro e w9 ⟨rfl, hb9⟩; have B9 := hide (below_next B8.out hb9); clear hb9)
      | (go_at_call 37; (with_reducible refine (join2_any r0.out k0 r2.out k2 (by omega) B9.out _).mono ?_); rintro e w10 ⟨A10, c10, rfl, hr10, hb10⟩; have B10 := hide (below_next B9.out hb10); have R10 := hide hr10; clear hr10 hb10)
      | (go_at_call 36; (with_reducible refine (HRS.out A10 _ c10 (bs0 ++ bs2) w10 R10.out (by omega)).mono ?_); rintro e w11 ⟨rfl, hb11⟩; have B11 := hide (below_next B10.out hb11); clear hb11)
      | (go_at_call 35; (with_reducible refine (HN.out w11).mono ?_); rintro e w12 ⟨rfl, hb12⟩; have B12 := hide (below_next B11.out hb12); clear hb12)
      | (go_at_call 36; (with_reducible refine (HRS.out none 0 0 [] w12 Reads.none_ (by omega)).mono ?_); rintro e w13 ⟨rfl, hb13⟩; have B13 := hide (below_next B12.out hb13); clear hb13)
      | (go_at_call 34; (with_reducible refine (write_nil _ w13).mono ?_); rintro e w14 ⟨rfl, rfl⟩)
      | (go_at_call 38; (with_reducible refine (hashlen_nil w13).mono ?_); rintro e w15 ⟨rfl, rfl⟩)
      | (go_at_call 40; (with_reducible refine (clone_nil w13).mono ?_); rintro e w16 ⟨rfl, rfl⟩)
      | (go_at_call 32; (with_reducible refine (alive02_any w13).mono ?_); rintro e w17 ⟨rfl, hb17⟩; have B17 := hide (below_next B13.out hb17); clear hb17))
    go_ret
    exact ⟨rfl, B17.out⟩
  · have HA := hide (alive02_any w)
    replace r0 := hide r0
    replace r1 := hide r1
    replace r2 := hide r2
    by_cases h0 : n0 ≤ 400
    · by_cases h1 : n1 ≤ 400
      · have h2 : ¬ n2 ≤ 400 := fun h => hs ⟨h0, h1, h⟩
        clear hs
        go_enter Try.func7, Try.ntmps7
        go_wp2_with (go_at_call 32; refine HA.out.mono ?_; rintro e w1 ⟨rfl, hb1⟩)
        go_ret
        exact ⟨rfl, hb1⟩
      · clear hs
        go_enter Try.func7, Try.ntmps7
        go_wp2_with (go_at_call 32; refine HA.out.mono ?_; rintro e w1 ⟨rfl, hb1⟩)
        go_ret
        exact ⟨rfl, hb1⟩
    · clear hs
      go_enter Try.func7, Try.ntmps7
      go_wp2_with (go_at_call 32; refine HA.out.mono ?_; rintro e w1 ⟨rfl, hb1⟩)
      go_ret
      exact ⟨rfl, hb1⟩
end Go.Proofs.Ytdikknfdgpdenaa
