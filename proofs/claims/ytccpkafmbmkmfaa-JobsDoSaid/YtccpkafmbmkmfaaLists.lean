/- Lists of words and bytes as cells; the bytes of words. No condition. -/
import Derived.Test.YtccpkafmbmkmfaaMem
import Derived.Test.YtccpkafmbmkmfaaWord
import Derived.Laws.IdiomStrings
namespace Go.Proofs.Ytccpkafmbmkmfaa
open Go.RowKit
set_option linter.unusedVariables false

abbrev c32 (x : BitVec 32) : Value := .int .u32 (x.toNat : Int)
abbrev c8 (x : BitVec 8) : Value := .int .u8 (x.toNat : Int)

theorem Reads.get {w : World} {B n k : Nat} {A : Option Addr} {α : Type} {f : α → Value} {l : List α} (h : Reads w B 1 A n (l.map f)) (hk : k < l.length) :
    ∃ ad, A = some ad ∧ ad.block < B ∧ w.cell? (ad.add k) = some (f l[k]) := by
  have hn : l.length = n := by simpa using h.1
  obtain ⟨ad, e, hb, hc⟩ := h.2 (by omega)
  exact ⟨ad, e, hb, hc k _ (by simp [hk])⟩
theorem Reads.len {w : World} {B n : Nat} {A : Option Addr} {α : Type} {f : α → Value} {l : List α} (h : Reads w B 1 A n (l.map f)) : l.length = n := by simpa using h.1

/-- a word's four bytes, the highest first -/
def bytes4 (x : BitVec 32) : List (BitVec 8) := [(x >>> 24).setWidth 8, (x >>> 16).setWidth 8, (x >>> 8).setWidth 8, x.setWidth 8]
def bytesOf (l : List (BitVec 32)) : List (BitVec 8) := l.flatMap bytes4
theorem bytesOf_length (l : List (BitVec 32)) : (bytesOf l).length = 4 * l.length := by
  induction l with
  | nil => rfl
  | cons x l ih => simp [bytesOf, bytes4] at ih ⊢; omega
theorem bytesOf_snoc (l : List (BitVec 32)) (x : BitVec 32) : bytesOf (l ++ [x]) = bytesOf l ++ bytes4 x := by simp [bytesOf]
theorem bytesOf_take (l : List (BitVec 32)) (k : Nat) (h : k < l.length) : bytesOf (l.take (k + 1)) = bytesOf (l.take k) ++ bytes4 l[k] := by
  rw [List.take_succ_eq_append_getElem h, bytesOf_snoc]
theorem byte_shr (x : BitVec 32) (k : Nat) : (x.toNat : Int) / 2 ^ k % 256 = (((x >>> k).setWidth 8).toNat : Int) := by
  rw [BitVec.toNat_setWidth, BitVec.toNat_ushiftRight, Nat.shiftRight_eq_div_pow]; simp
theorem byte_low (x : BitVec 32) : (x.toNat : Int) % 256 = ((x.setWidth 8).toNat : Int) := by
  rw [BitVec.toNat_setWidth]; simp
theorem bytes4_cells (x : BitVec 32) : (bytes4 x).map c8 = [.int .u8 ((x.toNat : Int) / 16777216 % 256), .int .u8 ((x.toNat : Int) / 65536 % 256), .int .u8 ((x.toNat : Int) / 256 % 256), .int .u8 ((x.toNat : Int) % 256)] := by
  have h1 := byte_shr x 24
  have h2 := byte_shr x 16
  have h3 := byte_shr x 8
  have h4 := byte_low x
  simp only [bytes4, List.map_cons, List.map_nil, c8]
  rw [← h1, ← h2, ← h3, ← h4]
  rfl
theorem bytes4_cells' (x : BitVec 32) : [.int .u8 ((x.toNat : Int) / 16777216), .int .u8 ((x.toNat : Int) / 65536 % 256), .int .u8 ((x.toNat : Int) / 256 % 256), .int .u8 ((x.toNat : Int) % 256)] = (bytes4 x).map c8 := by
  rw [bytes4_cells]
  have := x.isLt
  have e : (x.toNat : Int) / 16777216 % 256 = (x.toNat : Int) / 16777216 := by omega
  rw [e]
theorem bytes_next (ws : List (BitVec 32)) (k : Nat) (h : k < ws.length) : (bytesOf (ws.take k)).map c8 ++ (bytes4 ws[k]).map c8 = (bytesOf (ws.take (k + 1))).map c8 := by
  rw [bytesOf_take ws k h, List.map_append]
/-- a word of four bytes, the highest first -/
def w4 (a b c d : BitVec 8) : BitVec 32 := BitVec.ofNat 32 (a.toNat * 16777216 + b.toNat * 65536 + c.toNat * 256 + d.toNat)
theorem w4_toNat (a b c d : BitVec 8) : (w4 a b c d).toNat = a.toNat * 16777216 + b.toNat * 65536 + c.toNat * 256 + d.toNat := by
  have := a.isLt; have := b.isLt; have := c.isLt; have := d.isLt
  rw [w4, BitVec.toNat_ofNat]; omega
def wordsOf : List (BitVec 8) → List (BitVec 32)
  | a :: b :: c :: d :: t => w4 a b c d :: wordsOf t
  | _ => []
theorem wordsOf_nil : wordsOf [] = [] := rfl
theorem wordsOf_append (l m : List (BitVec 8)) (k : Nat) (h : l.length = 4 * k) : wordsOf (l ++ m) = wordsOf l ++ wordsOf m := by
  induction k generalizing l with
  | zero => obtain rfl := List.eq_nil_of_length_eq_zero (by omega : l.length = 0); simp [wordsOf]
  | succ k ih =>
    match l, h with
    | a :: b :: c :: d :: t, h => simp [wordsOf, ih t (by simp at h; omega)]
theorem wordsOf_length (l : List (BitVec 8)) (k : Nat) (h : l.length = 4 * k) : (wordsOf l).length = k := by
  induction k generalizing l with
  | zero => obtain rfl := List.eq_nil_of_length_eq_zero (by omega : l.length = 0); simp [wordsOf]
  | succ k ih =>
    match l, h with
    | a :: b :: c :: d :: t, h => simp [wordsOf, ih t (by simp at h; omega)]
theorem wordsOf_take (l : List (BitVec 8)) (k : Nat) (h : 4 * k + 3 < l.length) : wordsOf (l.take (4 * (k + 1))) = wordsOf (l.take (4 * k)) ++ [w4 l[4 * k] l[4 * k + 1] l[4 * k + 2] l[4 * k + 3]] := by
  have e : l.take (4 * (k + 1)) = l.take (4 * k) ++ [l[4 * k], l[4 * k + 1], l[4 * k + 2], l[4 * k + 3]] := by
    have e1 : 4 * (k + 1) = 4 * k + 1 + 1 + 1 + 1 := by omega
    rw [e1, List.take_succ_eq_append_getElem (by omega), List.take_succ_eq_append_getElem (by omega), List.take_succ_eq_append_getElem (by omega), List.take_succ_eq_append_getElem (by omega)]
    simp only [List.append_assoc, List.cons_append, List.nil_append]
  rw [e, wordsOf_append _ _ k (by simp; omega)]
  rfl
theorem w4_bytes4 (x : BitVec 32) : w4 ((x >>> 24).setWidth 8) ((x >>> 16).setWidth 8) ((x >>> 8).setWidth 8) (x.setWidth 8) = x := by
  apply BitVec.eq_of_toNat_eq
  rw [w4_toNat]
  have h1 := byte_shr x 24
  have h2 := byte_shr x 16
  have h3 := byte_shr x 8
  have h4 := byte_low x
  have := x.isLt
  omega
theorem wordsOf_bytesOf (l : List (BitVec 32)) : wordsOf (bytesOf l) = l := by
  induction l with
  | nil => rfl
  | cons x l ih =>
    have e : bytesOf (x :: l) = bytes4 x ++ bytesOf l := by simp [bytesOf]
    rw [e, wordsOf_append _ _ 1 rfl, ih]
    simp [bytes4, wordsOf, w4_bytes4]
theorem bytes4_w4 (a b c d : BitVec 8) : bytes4 (w4 a b c d) = [a, b, c, d] := by
  have h1 := byte_shr (w4 a b c d) 24
  have h2 := byte_shr (w4 a b c d) 16
  have h3 := byte_shr (w4 a b c d) 8
  have h4 := byte_low (w4 a b c d)
  rw [w4_toNat] at h1 h2 h3 h4
  have := a.isLt; have := b.isLt; have := c.isLt; have := d.isLt
  simp only [bytes4, List.cons.injEq, and_true]
  refine ⟨?_, ?_, ?_, ?_⟩ <;> apply BitVec.eq_of_toNat_eq <;> omega
theorem bytesOf_wordsOf (l : List (BitVec 8)) (k : Nat) (h : l.length = 4 * k) : bytesOf (wordsOf l) = l := by
  induction k generalizing l with
  | zero => obtain rfl := List.eq_nil_of_length_eq_zero (by omega : l.length = 0); simp [wordsOf, bytesOf]
  | succ k ih =>
    match l, h with
    | a :: b :: c :: d :: t, h =>
      have := ih t (by simp at h; omega)
      have e : bytesOf (w4 a b c d :: wordsOf t) = bytes4 (w4 a b c d) ++ bytesOf (wordsOf t) := by simp [bytesOf]
      rw [wordsOf, e, this, bytes4_w4]
      rfl
/-- as the walks spell a word of four bytes -/
theorem w4_or (a b c d : BitVec 8) : bits .or .u32 (bits .or .u32 (bits .or .u32 ((a.toNat : Int) * 16777216) ((b.toNat : Int) * 65536)) ((c.toNat : Int) * 256)) (d.toNat : Int) = ((w4 a b c d).toNat : Int) := by
  have ha := a.isLt; have hb := b.isLt; have hc := c.isLt; have hd := d.isLt
  have e1 : (a.toNat : Int) * 16777216 = ((a.toNat * 16777216 : Nat) : Int) := by omega
  have e2 : (b.toNat : Int) * 65536 = ((b.toNat * 65536 : Nat) : Int) := by omega
  have e3 : (c.toNat : Int) * 256 = ((c.toNat * 256 : Nat) : Int) := by omega
  have o1 : a.toNat * 16777216 ||| b.toNat * 65536 = a.toNat * 16777216 + b.toNat * 65536 := by
    have := or_disj a.toNat (b.toNat * 65536) 24 (by omega)
    rw [Nat.mul_comm] at this; exact this
  have o2 : (a.toNat * 16777216 + b.toNat * 65536) ||| c.toNat * 256 = a.toNat * 16777216 + b.toNat * 65536 + c.toNat * 256 := by
    have := or_disj (a.toNat * 256 + b.toNat) (c.toNat * 256) 16 (by omega)
    have e : 2 ^ 16 * (a.toNat * 256 + b.toNat) = a.toNat * 16777216 + b.toNat * 65536 := by omega
    rw [e] at this; exact this
  have o3 : (a.toNat * 16777216 + b.toNat * 65536 + c.toNat * 256) ||| d.toNat = a.toNat * 16777216 + b.toNat * 65536 + c.toNat * 256 + d.toNat := by
    have := or_disj (a.toNat * 65536 + b.toNat * 256 + c.toNat) d.toNat 8 (by omega)
    have e : 2 ^ 8 * (a.toNat * 65536 + b.toNat * 256 + c.toNat) = a.toNat * 16777216 + b.toNat * 65536 + c.toNat * 256 := by omega
    rw [e] at this; exact this
  rw [e1, e2, e3, u32_or_nat _ _ (by omega) (by omega), o1, u32_or_nat _ _ (by omega) (by omega), o2, u32_or_nat _ _ (by omega) (by omega), o3, w4_toNat]
theorem w4_wrap (a b c d : BitVec 8) : bits .or .u32 (bits .or .u32 (bits .or .u32 (IntKind.u32.wrap (IntKind.u32.wrap (a.toNat : Int) * 16777216)) (IntKind.u32.wrap (IntKind.u32.wrap (b.toNat : Int) * 65536))) (IntKind.u32.wrap (IntKind.u32.wrap (c.toNat : Int) * 256))) (IntKind.u32.wrap (d.toNat : Int)) = ((w4 a b c d).toNat : Int) := by
  have ha := a.isLt; have hb := b.isLt; have hc := c.isLt; have hd := d.isLt
  have e (x : BitVec 8) : IntKind.u32.wrap (x.toNat : Int) = (x.toNat : Int) := IntWalk.u32_in _ (by have := x.isLt; omega)
  rw [e, e, e, e, IntWalk.u32_in _ (by omega), IntWalk.u32_in _ (by omega), IntWalk.u32_in _ (by omega), w4_or]
/-- the text that bytes make -/
def strOf (bs : List (BitVec 8)) : ByteArray := ⟨(bs.map UInt8.ofBitVec).toArray⟩
theorem strOf_toList (bs : List (BitVec 8)) : (strOf bs).data.toList = bs.map UInt8.ofBitVec := by simp [strOf]
theorem run_str {P : Program} (w : World) (src dst e : TypeId) (hs : P.underlying src = some (.slice e)) (he : P.underlying e = some (.int .u8)) (hd : P.underlying dst = some .string)
    (B : Nat) (A : Option Addr) (n c : Nat) (bs : List (BitVec 8)) (hr : Reads w B 1 A n (bs.map c8)) : (convert src dst (.slice A n c)).run P w = .ok (.string (strOf bs)) w := by
  have hn := hr.len
  cases A with
  | none =>
    have h0 : n = 0 := by
      rcases Nat.eq_zero_or_pos n with h | h
      · exact h
      · obtain ⟨ad, e, _⟩ := hr.2 h; cases e
    subst h0
    obtain rfl := List.eq_nil_of_length_eq_zero hn
    rw [run_convert_bytes_string w src dst e none 0 c hs he hd]
    simp [Conv.bytesToString]
    rfl
  | some ad =>
    have hl : (bs.map UInt8.ofBitVec).length = n := by simpa using hn
    rw [← hl]
    refine run_convert_bytes_back w src dst e ad c (bs.map UInt8.ofBitVec) hs he hd (fun j hj => ?_)
    have hj' : j < bs.length := by simpa using hj
    obtain ⟨ad', e', _, hc⟩ := hr.get hj'
    cases e'
    rw [hc]
    simp [c8]
/-- the sum of words -/
def sumW (l : List (BitVec 32)) : BitVec 32 := l.foldl (· + ·) 0
theorem sumW_take (l : List (BitVec 32)) (k : Nat) (h : k < l.length) : sumW (l.take (k + 1)) = sumW (l.take k) + l[k] := by
  rw [List.take_succ_eq_append_getElem h, sumW, List.foldl_append]; rfl
theorem sumW_step (l : List (BitVec 32)) (k : Nat) (h : k < l.length) : (((sumW (l.take k)).toNat : Int) + (l[k].toNat : Int)) % 4294967296 = ((sumW (l.take (k + 1))).toNat : Int) := by
  rw [sumW_take l k h, add_u32]
theorem int_eq_iff (x y : BitVec 32) : ((x.toNat : Int) == (y.toNat : Int)) = (x == y) := by
  rw [Bool.eq_iff_iff, beq_iff_eq, beq_iff_eq, ← BitVec.toNat_inj]; omega
/-- of a value: it is a slice of n bytes, that reads as l -/
def SliceOf8 (n : Nat) (l : List (BitVec 8)) : Value → World → Prop
  | .slice A m _, W => m = n ∧ Reads W W.heap.size 1 A n (l.map c8)
  | _, _ => False
/-- of a value: it is a slice of n words, that reads as l -/
def SliceOf32 (n : Nat) (l : List (BitVec 32)) : Value → World → Prop
  | .slice A m _, W => m = n ∧ Reads W W.heap.size 1 A n (l.map c32)
  | _, _ => False
theorem SliceOf32.later {n : Nat} {l : List (BitVec 32)} : ∀ (v : Value) (w w' : World), Below w.heap.size w w' → SliceOf32 n l v w → SliceOf32 n l v w' := by
  intro v w w' hb h
  cases v <;> simp only [SliceOf32] at h ⊢
  exact ⟨h.1, (h.2.below hb).more hb.size⟩
theorem SliceOf8.later {n : Nat} {l : List (BitVec 8)} : ∀ (v : Value) (w w' : World), Below w.heap.size w w' → SliceOf8 n l v w → SliceOf8 n l v w' := by
  intro v w w' hb h
  cases v <;> simp only [SliceOf8] at h ⊢
  exact ⟨h.1, (h.2.below hb).more hb.size⟩
end Go.Proofs.Ytccpkafmbmkmfaa
