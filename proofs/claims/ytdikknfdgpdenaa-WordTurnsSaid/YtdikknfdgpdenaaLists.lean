/- Lists of words and bytes as cells; the bytes of words. No condition. -/
import Derived.Test.YtdikknfdgpdenaaMem
import Derived.Test.YtdikknfdgpdenaaWord
import Derived.Laws.IdiomStrings
namespace Go.Proofs.Ytdikknfdgpdenaa
open Go.RowKit
set_option linter.unusedVariables false

abbrev c32 (x : BitVec 32) : Value := .int .u32 (x.toNat : Int)
abbrev c8 (x : BitVec 8) : Value := .int .u8 (x.toNat : Int)

theorem Reads.get {w : World} {B n k : Nat} {A : Option Addr} {α : Type} {f : α → Value} {l : List α} (h : Reads w B 1 A n (l.map f)) (hk : k < l.length) :
    ∃ ad, A = some ad ∧ ad.block < B ∧ w.cell? (ad.add k) = some (f l[k]) := by
  have hn : l.length = n := by simpa using h.1
  obtain ⟨ad, e, hb, hc⟩ := h.2 (by omega)
  exact ⟨ad, e, hb, hc k _ (by simp [hk])⟩
theorem Reads.len {w : World} {B n : Nat} {A : Option Addr} {α : Type} {f : α → Value} {l : List α} (h : Reads w B 1 A n (l.map f)) : l.length = n := by simpa using h.1

/-- a word's four bytes, the highest first -/
def bytes4 (x : BitVec 32) : List (BitVec 8) := [(x >>> 24).setWidth 8, (x >>> 16).setWidth 8, (x >>> 8).setWidth 8, x.setWidth 8]
def bytesOf (l : List (BitVec 32)) : List (BitVec 8) := l.flatMap bytes4
theorem bytesOf_length (l : List (BitVec 32)) : (bytesOf l).length = 4 * l.length := by
  induction l with
  | nil => rfl
  | cons x l ih => simp [bytesOf, bytes4] at ih ⊢; omega
theorem bytesOf_snoc (l : List (BitVec 32)) (x : BitVec 32) : bytesOf (l ++ [x]) = bytesOf l ++ bytes4 x := by simp [bytesOf]
theorem bytesOf_take (l : List (BitVec 32)) (k : Nat) (h : k < l.length) : bytesOf (l.take (k + 1)) = bytesOf (l.take k) ++ bytes4 l[k] := by
  rw [List.take_succ_eq_append_getElem h, bytesOf_snoc]
theorem byte_shr (x : BitVec 32) (k : Nat) : (x.toNat : Int) / 2 ^ k % 256 = (((x >>> k).setWidth 8).toNat : Int) := by
  rw [BitVec.toNat_setWidth, BitVec.toNat_ushiftRight, Nat.shiftRight_eq_div_pow]; simp
theorem byte_low (x : BitVec 32) : (x.toNat : Int) % 256 = ((x.setWidth 8).toNat : Int) := by
  rw [BitVec.toNat_setWidth]; simp
theorem bytes4_cells (x : BitVec 32) : (bytes4 x).map c8 = [.int .u8 ((x.toNat : Int) / 16777216 % 256), .int .u8 ((x.toNat : Int) / 65536 % 256), .int .u8 ((x.toNat : Int) / 256 % 256), .int .u8 ((x.toNat : Int) % 256)] := by
  have h1 := byte_shr x 24
  have h2 := byte_shr x 16
  have h3 := byte_shr x 8
  have h4 := byte_low x
  simp only [bytes4, List.map_cons, List.map_nil, c8]
  rw [← h1, ← h2, ← h3, ← h4]
  rfl
theorem bytes4_cells' (x : BitVec 32) : [.int .u8 ((x.toNat : Int) / 16777216), .int .u8 ((x.toNat : Int) / 65536 % 256), .int .u8 ((x.toNat : Int) / 256 % 256), .int .u8 ((x.toNat : Int) % 256)] = (bytes4 x).map c8 := by
  rw [bytes4_cells]
  have := x.isLt
  have e : (x.toNat : Int) / 16777216 % 256 = (x.toNat : Int) / 16777216 := by omega
  rw [e]
theorem bytes_next (ws : List (BitVec 32)) (k : Nat) (h : k < ws.length) : (bytesOf (ws.take k)).map c8 ++ (bytes4 ws[k]).map c8 = (bytesOf (ws.take (k + 1))).map c8 := by
  rw [bytesOf_take ws k h, List.map_append]
/-- the text that bytes make -/
def strOf (bs : List (BitVec 8)) : ByteArray := ⟨(bs.map UInt8.ofBitVec).toArray⟩
theorem strOf_toList (bs : List (BitVec 8)) : (strOf bs).data.toList = bs.map UInt8.ofBitVec := by simp [strOf]
theorem run_str {P : Program} (w : World) (src dst e : TypeId) (hs : P.underlying src = some (.slice e)) (he : P.underlying e = some (.int .u8)) (hd : P.underlying dst = some .string)
    (B : Nat) (A : Option Addr) (n c : Nat) (bs : List (BitVec 8)) (hr : Reads w B 1 A n (bs.map c8)) : (convert src dst (.slice A n c)).run P w = .ok (.string (strOf bs)) w := by
  have hn := hr.len
  cases A with
  | none =>
    have h0 : n = 0 := by
      rcases Nat.eq_zero_or_pos n with h | h
      · exact h
      · obtain ⟨ad, e, _⟩ := hr.2 h; cases e
    subst h0
    obtain rfl := List.eq_nil_of_length_eq_zero hn
    rw [run_convert_bytes_string w src dst e none 0 c hs he hd]
    simp [Conv.bytesToString]
    rfl
  | some ad =>
    have hl : (bs.map UInt8.ofBitVec).length = n := by simpa using hn
    rw [← hl]
    refine run_convert_bytes_back w src dst e ad c (bs.map UInt8.ofBitVec) hs he hd (fun j hj => ?_)
    have hj' : j < bs.length := by simpa using hj
    obtain ⟨ad', e', _, hc⟩ := hr.get hj'
    cases e'
    rw [hc]
    simp [c8]
end Go.Proofs.Ytdikknfdgpdenaa
