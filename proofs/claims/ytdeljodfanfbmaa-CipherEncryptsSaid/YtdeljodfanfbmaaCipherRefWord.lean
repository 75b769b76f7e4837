/- Chapter 06's reference: a word substituted by the table. No condition. -/
import Derived.Test.YtdeljodfanfbmaaCipherRefMix
namespace Go.Proofs.Ytdeljodfanfbmaa
open Go.RowKit
set_option linter.unusedVariables false
set_option linter.unusedSimpArgs false

/-- all substitutes -/
def tabL : List (BitVec 8) := (List.range 256).map fun x => sub8 (BitVec.ofNat 8 x)
theorem tabL_len : tabL.length = 256 := by simp [tabL]
theorem tabL_get (n : Nat) (h : n < 256) : tabL[n]? = some (BitVec.ofNat 8 (sub n)) := by
  rw [tabL, List.getElem?_map, List.getElem?_range h, Option.map_some, sub8, BitVec.toNat_ofNat, Nat.mod_eq_of_lt (by omega)]
theorem c8_nat (s : Nat) (h : s < 256) : c8 (BitVec.ofNat 8 s) = .int .u8 (s : Int) := by
  show Value.int .u8 ((BitVec.ofNat 8 s).toNat : Int) = _
  rw [BitVec.toNat_ofNat, Nat.mod_eq_of_lt (by omega)]
set_option maxRecDepth 100000 in
set_option maxHeartbeats 1600000 in
theorem refword06_any (A : Option Addr) (c : Nat) (x : BitVec 32) (w : World) (hr : Reads w w.heap.size 1 A 256 (tabL.map c8)) :
    Calls Try.prog 68 #[.slice A 256 c, c32 x] w fun e w' => e = .returned (c32 (subX sub8 x)) ∧ w = w' := by
  have hv : c32 (subX sub8 x) = .int .u32 (subW x.toNat : Int) := by show Value.int .u32 ((subX sub8 x).toNat : Int) = _; rw [subX_nat]
  rw [hv]
  obtain ⟨n, hn⟩ : ∃ n, n = x.toNat := ⟨_, rfl⟩
  have hx := x.isLt
  rw [← hn] at hx ⊢
  rw [show c32 x = .int .u32 (n : Int) by rw [hn]]
  clear hn hv
  obtain ⟨ga, oa, rfl, hga⟩ := reads_at hr (by omega)
  have HG : Hid (∀ j s, j < 256 → sub j = s → w.cell? ⟨ga, oa + j, none⟩ = some (.int .u8 (s : Int))) := hide fun j s hj hs => by
    subst hs
    rw [← c8_nat (sub j) (sub_lt j hj)]
    exact reads_cell8 hr (tabL_get j hj)
  obtain ⟨j3, h3⟩ : ∃ j, j = n / 16777216 := ⟨_, rfl⟩
  obtain ⟨j2, h2⟩ : ∃ j, j = n / 65536 % 256 := ⟨_, rfl⟩
  obtain ⟨j1, h1⟩ : ∃ j, j = n / 256 % 256 := ⟨_, rfl⟩
  obtain ⟨j0, h0⟩ : ∃ j, j = n % 256 := ⟨_, rfl⟩
  have HE : Hid (subW n = sub j3 * 16777216 + sub j2 * 65536 + sub j1 * 256 + sub j0) := hide (by rw [h3, h2, h1, h0]; rfl)
  have g3 : j3 < 256 := by omega
  have g2 : j2 < 256 := by omega
  have g1 : j1 < 256 := by omega
  have g0 : j0 < 256 := by omega
  have b3 := sub_lt j3 g3
  have b2 := sub_lt j2 g2
  have b1 := sub_lt j1 g1
  have b0 := sub_lt j0 g0
  obtain ⟨s3, hs3⟩ : ∃ s, s = sub j3 := ⟨_, rfl⟩
  obtain ⟨s2, hs2⟩ : ∃ s, s = sub j2 := ⟨_, rfl⟩
  obtain ⟨s1, hs1⟩ : ∃ s, s = sub j1 := ⟨_, rfl⟩
  obtain ⟨s0, hs0⟩ : ∃ s, s = sub j0 := ⟨_, rfl⟩
  rw [← hs3] at b3 HE
  rw [← hs2] at b2 HE
  rw [← hs1] at b1 HE
  rw [← hs0] at b0 HE
  have q3 := hide (HG.out j3 s3 g3 hs3.symm)
  have q2 := hide (HG.out j2 s2 g2 hs2.symm)
  have q1 := hide (HG.out j1 s1 g1 hs1.symm)
  have q0 := hide (HG.out j0 s0 g0 hs0.symm)
  have e3 : (n : Int) / 16777216 = (j3 : Int) := by omega
  have e3' : (j3 : Int) % 256 = (j3 : Int) := by omega
  have e2 : (n : Int) / 65536 % 256 = (j2 : Int) := by omega
  have e1 : (n : Int) / 256 % 256 = (j1 : Int) := by omega
  have e0 : (n : Int) % 256 = (j0 : Int) := by omega
  have i3 : (j3 : Int) < 256 := by omega
  have i2 : (j2 : Int) < 256 := by omega
  have i1 : (j1 : Int) < 256 := by omega
  have i0 : (j0 : Int) < 256 := by omega
  have k3 : (0 : Int) ≤ (j3 : Int) := by omega
  have k2 : (0 : Int) ≤ (j2 : Int) := by omega
  have k1 : (0 : Int) ≤ (j1 : Int) := by omega
  have k0 : (0 : Int) ≤ (j0 : Int) := by omega
  replace e3 := hide e3
  replace e3' := hide e3'
  replace e2 := hide e2
  replace e1 := hide e1
  replace e0 := hide e0
  generalize subW n = S at *
  clear hr h3 h2 h1 h0 hs3 hs2 hs1 hs0
  go_enter Try.func68, Try.ntmps68
  go_wp2
  go_loop [5, 6] (fun o i => ∃ k : Nat, k ≤ 4 ∧ i = .int .i64 (3 - (k : Int)) ∧ o = .int .u32 (if k = 0 then (0 : Int) else if k = 1 then (s3 : Int) else if k = 2 then (256 * s3 + s2 : Int) else if k = 3 then 256 * (256 * s3 + s2) + s1 else S)) (fun _ i => (intOf i + 1).toNat)
  case atStart => exact ⟨0, by omega, rfl, rfl⟩
  case round =>
    obtain ⟨k, hk, rfl, rfl⟩ := hrel
    rcases (by omega : k = 0 ∨ k = 1 ∨ k = 2 ∨ k = 3 ∨ k = 4) with rfl | rfl | rfl | rfl | rfl
    · have d := e3.out
      have d' := e3'.out
      have q := q3.out
      go_wp2
      go_round
      case rel => exact ⟨1, by omega, rfl, by first | rfl | simp⟩
      case measure => simp [intOf]
    · have d := e2.out
      have q := q2.out
      go_wp2
      go_round
      case rel => exact ⟨2, by omega, rfl, by first | rfl | simp⟩
      case measure => simp [intOf]
    · have d := e1.out
      have q := q1.out
      go_wp2
      go_round
      case rel => exact ⟨3, by omega, rfl, by first | rfl | simp⟩
      case measure => simp [intOf]
    · have d := e0.out
      have q := q0.out
      go_wp2
      go_round
      case rel => exact ⟨4, by omega, rfl, by rw [HE.out]; simp; omega⟩
      case measure => simp [intOf]
    · go_wp2
      go_ret
      exact ⟨rfl, rfl⟩
end Go.Proofs.Ytdeljodfanfbmaa
