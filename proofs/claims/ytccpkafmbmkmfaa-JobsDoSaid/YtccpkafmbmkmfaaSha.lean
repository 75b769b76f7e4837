/- The hash of chapter 02, plain: a piece's words, the rounds, what stands behind all bytes, and the hash of any bytes. No condition. -/
import Derived.Test.YtccpkafmbmkmfaaLists
namespace Go.Proofs.Ytccpkafmbmkmfaa
open Go.RowKit
set_option linter.unusedVariables false

def shaK : List (BitVec 32) := [1116352408#32, 1899447441#32, 3049323471#32, 3921009573#32, 961987163#32, 1508970993#32, 2453635748#32, 2870763221#32, 3624381080#32, 310598401#32, 607225278#32, 1426881987#32, 1925078388#32, 2162078206#32, 2614888103#32, 3248222580#32, 3835390401#32, 4022224774#32, 264347078#32, 604807628#32, 770255983#32, 1249150122#32, 1555081692#32, 1996064986#32, 2554220882#32, 2821834349#32, 2952996808#32, 3210313671#32, 3336571891#32, 3584528711#32, 113926993#32, 338241895#32, 666307205#32, 773529912#32, 1294757372#32, 1396182291#32, 1695183700#32, 1986661051#32, 2177026350#32, 2456956037#32, 2730485921#32, 2820302411#32, 3259730800#32, 3345764771#32, 3516065817#32, 3600352804#32, 4094571909#32, 275423344#32, 430227734#32, 506948616#32, 659060556#32, 883997877#32, 958139571#32, 1322822218#32, 1537002063#32, 1747873779#32, 1955562222#32, 2024104815#32, 2227730452#32, 2361852424#32, 2428436474#32, 2756734187#32, 3204031479#32, 3329325298#32]
/-- eight words -/
structure V8 where
  a : BitVec 32
  b : BitVec 32
  c : BitVec 32
  d : BitVec 32
  e : BitVec 32
  f : BitVec 32
  g : BitVec 32
  h : BitVec 32
def V8.list (v : V8) : List (BitVec 32) := [v.a, v.b, v.c, v.d, v.e, v.f, v.g, v.h]
def shaH : V8 := ⟨1779033703#32, 3144134277#32, 1013904242#32, 2773480762#32, 1359893119#32, 2600822924#32, 528734635#32, 1541459225#32⟩
theorem V8.list_len (v : V8) : v.list.length = 8 := rfl
theorem shaK_len : shaK.length = 64 := rfl
def sg0 (x : BitVec 32) : BitVec 32 := rotr x 7 ^^^ rotr x 18 ^^^ (x >>> 3)
def sg1 (x : BitVec 32) : BitVec 32 := rotr x 17 ^^^ rotr x 19 ^^^ (x >>> 10)
def bg0 (x : BitVec 32) : BitVec 32 := rotr x 2 ^^^ rotr x 13 ^^^ rotr x 22
def bg1 (x : BitVec 32) : BitVec 32 := rotr x 6 ^^^ rotr x 11 ^^^ rotr x 25
/-- the word behind so many -/
def nextW (w : List (BitVec 32)) : BitVec 32 := sg1 (w.getD (w.length - 2) 0) + w.getD (w.length - 7) 0 + sg0 (w.getD (w.length - 15) 0) + w.getD (w.length - 16) 0
def sched (l : List (BitVec 32)) : Nat → List (BitVec 32)
  | 0 => l
  | n + 1 => sched l n ++ [nextW (sched l n)]
theorem sched_len (l : List (BitVec 32)) (n : Nat) : (sched l n).length = l.length + n := by
  induction n with
  | zero => rfl
  | succ n ih => simp [sched, ih]; omega
/-- the words of a piece of 64 bytes -/
def words64 (b : List (BitVec 8)) : List (BitVec 32) := sched (wordsOf b) 48
def t1Of (v : V8) (k w : BitVec 32) : BitVec 32 := v.h + bg1 v.e + choose v.e v.f v.g + k + w
def t2Of (v : V8) : BitVec 32 := bg0 v.a + majority v.a v.b v.c
def rnd (v : V8) (k w : BitVec 32) : V8 := ⟨t1Of v k w + t2Of v, v.a, v.b, v.c, v.d + t1Of v k w, v.e, v.f, v.g⟩
def rnds (ws : List (BitVec 32)) (s : V8) : Nat → V8
  | 0 => s
  | k + 1 => rnd (rnds ws s k) (shaK.getD k 0) (ws.getD k 0)
def addV (s v : V8) : V8 := ⟨s.a + v.a, s.b + v.b, s.c + v.c, s.d + v.d, s.e + v.e, s.f + v.f, s.g + v.g, s.h + v.h⟩
def takeV (s : V8) (b : List (BitVec 8)) : V8 := addV s (rnds (words64 b) s 64)
/-- behind the first n pieces -/
def runV (s : V8) (bs : List (BitVec 8)) : Nat → V8
  | 0 => s
  | n + 1 => takeV (runV s bs n) ((bs.drop (64 * n)).take 64)
theorem runV_append (s : V8) (bs cs : List (BitVec 8)) (n : Nat) (h : 64 * n ≤ bs.length) : runV s (bs ++ cs) n = runV s bs n := by
  induction n with
  | zero => rfl
  | succ n ih =>
    simp only [runV]
    rw [ih (by omega), List.drop_append_of_le_length (by omega), List.take_append_of_le_length (by rw [List.length_drop]; omega)]
/-- a number of 64 bits as two words -/
def two32 (n : Nat) : List (BitVec 32) := [BitVec.ofNat 32 (n / 4294967296), BitVec.ofNat 32 n]
/-- what stands behind so many bytes -/
def tailOf (n : Nat) : List (BitVec 8) := (128#8 :: List.replicate ((119 - n % 64) % 64) 0#8) ++ bytesOf (two32 (8 * n % 18446744073709551616))
def paddedOf (bs : List (BitVec 8)) : List (BitVec 8) := bs ++ tailOf bs.length
theorem tailOf_len (n : Nat) : (tailOf n).length = 9 + (119 - n % 64) % 64 := by
  simp [tailOf, bytesOf_length, two32]; omega
theorem padded_len (bs : List (BitVec 8)) : (paddedOf bs).length % 64 = 0 := by
  simp only [paddedOf, List.length_append, tailOf_len]; omega
def shaV (bs : List (BitVec 8)) : V8 := runV shaH (paddedOf bs) ((paddedOf bs).length / 64)
/-- the hash of bytes -/
def shaOf (bs : List (BitVec 8)) : List (BitVec 8) := bytesOf (shaV bs).list
theorem shaOf_len (bs : List (BitVec 8)) : (shaOf bs).length = 32 := by simp [shaOf, bytesOf_length, V8.list]
/-- a hash that was told these bytes -/
def stateV (bs : List (BitVec 8)) : V8 := runV shaH bs (bs.length / 64)
def restOf (bs : List (BitVec 8)) : List (BitVec 8) := bs.drop (64 * (bs.length / 64))
theorem restOf_len (bs : List (BitVec 8)) : (restOf bs).length = bs.length % 64 := by simp [restOf]; omega
/-! the reference's spellings -/
theorem choose_ref (x y z : BitVec 32) : (x &&& y) ^^^ ((4294967295#32 ^^^ x) &&& z) = choose x y z := by
  refine BitVec.eq_of_getLsbD_eq fun i hi => ?_
  rw [choose_bit]
  have h1 : (4294967295#32).getLsbD i = true := by
    have : (4294967295#32) = BitVec.allOnes 32 := rfl
    rw [this, BitVec.getLsbD_allOnes]; simp [hi]
  simp only [BitVec.getLsbD_xor, BitVec.getLsbD_and, h1]
  cases x.getLsbD i <;> cases y.getLsbD i <;> cases z.getLsbD i <;> rfl
theorem majority_ref (x y z : BitVec 32) : (x &&& y) ^^^ (x &&& z) ^^^ (y &&& z) = majority x y z := by
  refine BitVec.eq_of_getLsbD_eq fun i hi => ?_
  rw [majority_bit]
  simp only [BitVec.getLsbD_xor, BitVec.getLsbD_and]
  cases x.getLsbD i <;> cases y.getLsbD i <;> cases z.getLsbD i <;> rfl
end Go.Proofs.Ytccpkafmbmkmfaa
