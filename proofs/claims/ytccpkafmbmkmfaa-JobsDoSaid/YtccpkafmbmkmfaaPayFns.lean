/- A payload in memory: its tiers, and each tier's transaction. No condition. Package payload's Copy. Condition: at most 2^20 tiers, each of at most 2^32 bytes. Package payload's TxID. Condition: at most 2^32 bytes. Rows of ids, and package payload's IDs. Condition: at most 2^20 tiers of at most 2^32 bytes. Package payload's Right. No condition. -/
import Derived.Test.YtccpkafmbmkmfaaTouch
import Derived.Test.YtccpkafmbmkmfaaRows8
import Derived.Test.YtccpkafmbmkmfaaRelLast
import Derived.Test.YtccpkafmbmkmfaaGives
import Derived.Test.YtccpkafmbmkmfaaArr
import Derived.Great.BuildSlice
import Derived.Maps.Range
import Derived.Laws.CopyOwn
import Derived.Test.YtccpkafmbmkmfaaProg
import Derived.Deep.Cut
import Derived.Test.YtccpkafmbmkmfaaShaSum
import Derived.Great.FillDense
import Derived.BigQuiet
namespace Go.Proofs.Ytccpkafmbmkmfaa
open Go.RowKit
set_option linter.unusedVariables false
set_option linter.unusedSimpArgs false

/-- a slice that reads as these cells, of blocks in S -/
def ReadsS (w : World) (S : Nat → Prop) (size : Nat) (A : Option Addr) (n : Nat) (xs : List Value) : Prop :=
  xs.length = n * size ∧ (0 < n → ∃ g o, A = some ⟨g, o, none⟩ ∧ S g ∧ g < w.heap.size ∧ ∀ j u, xs[j]? = some u → w.cell? ⟨g, o + j, none⟩ = some u)
section
variable {w w' : World} {S S' : Nat → Prop} {size n : Nat} {A : Option Addr} {xs : List Value}
theorem ReadsS.reads (h : ReadsS w S size A n xs) : Reads w w.heap.size size A n xs :=
  ⟨h.1, fun hn => by
    obtain ⟨g, o, rfl, _, hg, hc⟩ := h.2 hn
    exact ⟨_, rfl, hg, fun j u hu => by rw [Addr.add_lit]; exact hc j u hu⟩⟩
theorem ReadsS.keep (h : ReadsS w S size A n xs) (hs : w.heap.size ≤ w'.heap.size) (hk : ∀ i, i < w.heap.size → S i → w'.heap[i]? = w.heap[i]?) : ReadsS w' S size A n xs :=
  ⟨h.1, fun hn => by
    obtain ⟨g, o, rfl, hS, hg, hc⟩ := h.2 hn
    exact ⟨g, o, rfl, hS, Nat.lt_of_lt_of_le hg hs, fun j u hu => (World.cell?_of_block (a := ⟨g, o + j, none⟩) (hk g hg hS)).trans (hc j u hu)⟩⟩
theorem ReadsS.mono (h : ReadsS w S size A n xs) (hS : ∀ i, i < w.heap.size → S i → S' i) : ReadsS w S' size A n xs :=
  ⟨h.1, fun hn => by
    obtain ⟨g, o, rfl, hs, hg, hc⟩ := h.2 hn
    exact ⟨g, o, rfl, hS g hg hs, hg, hc⟩⟩
theorem ReadsS.of_reads {B : Nat} (h : Reads w B size A n xs) (hz : 0 < size) (hB : B ≤ w.heap.size) : ReadsS w (fun i => i < B) size A n xs :=
  ⟨h.1, fun hn => by
    obtain ⟨⟨g, o, sp⟩, rfl, hb, hc⟩ := h.2 hn
    have hl : 0 < xs.length := by rw [h.1]; exact Nat.mul_pos hn hz
    have h0 := hc 0 _ (List.getElem?_eq_getElem hl)
    have hs : sp = none := by
      have := World.cell?_spot h0
      simpa [Addr.add] using this
    subst hs
    exact ⟨g, o, rfl, hb, Nat.lt_of_lt_of_le hb hB, fun j u hu => by have := hc j u hu; rwa [Addr.add_lit] at this⟩⟩
theorem ReadsS.of_own {base : Nat} {e : TypeId} {c : Nat} (h : w.ownsRow base e size (.slice A n c) n xs) : ReadsS w (fun i => (Value.slice A n c).ownBlock = some i) size A n xs :=
  ⟨h.1, fun hn => by
    obtain ⟨g, cap, hv, _, hlt⟩ := h.form hn
    have hA : A = some ⟨g, 0, none⟩ := by injection hv
    subst hA
    exact ⟨g, 0, rfl, rfl, hlt, fun j u hu => by have := h.cells (g := g) rfl j u hu; rwa [Addr.add_lit] at this⟩⟩
end

/-- rows of unlike elements lie in unlike blocks -/
theorem own_own_ne {w : World} {b1 b2 s1 s2 n1 n2 : Nat} {e1 e2 : TypeId} {v1 v2 : Value} {xs1 xs2 : List Value} (h : w.ownsRow b1 e1 s1 v1 n1 xs1) (k : w.ownsRow b2 e2 s2 v2 n2 xs2) (hne : e2 ≠ e1) {r : Nat} (hr : v1.ownBlock = some r) : v2.ownBlock ≠ some r := by
  rcases h.2 with ⟨rfl, _⟩ | ⟨g, cap, cur, rfl, _, hh, _⟩
  · cases hr
  · have : g = r := by simpa [Value.ownBlock] using hr
    subst this
    exact own_blk_ne k (show Blk w g e1 cur from hh) hne
/-- a tier: its fee, and the bytes of its transaction -/
abbrev TierV := BitVec 32 × List (BitVec 8)
/-- .. with the slice that holds them -/
abbrev TierK := BitVec 32 × (Value × List (BitVec 8))
def plainT (K : List TierK) : List TierV := K.map fun p => (p.1, p.2.2)
def tierCells (K : List TierK) : List Value := K.flatMap fun p => [c32 p.1, p.2.1]
theorem tierCells_len (K : List TierK) : (tierCells K).length = K.length * 2 := by
  induction K with
  | nil => rfl
  | cons p K ih => simp only [tierCells, List.flatMap_cons, List.length_append, List.length_cons, List.length_nil] at ih ⊢; omega
theorem tierCells_append (K L : List TierK) : tierCells (K ++ L) = tierCells K ++ tierCells L := by simp [tierCells]
theorem tierCells_get (K : List TierK) (k : Nat) (h : k < K.length) : (tierCells K)[k * 2]? = some (c32 K[k].1) ∧ (tierCells K)[k * 2 + 1]? = some K[k].2.1 := by
  induction K generalizing k with
  | nil => simp at h
  | cons p K ih =>
    have e : tierCells (p :: K) = [c32 p.1, p.2.1] ++ tierCells K := by simp [tierCells]
    rw [e]
    cases k with
    | zero => exact ⟨rfl, rfl⟩
    | succ k =>
      have := ih k (by simpa using h)
      rw [List.getElem?_append_right (by simp; omega), List.getElem?_append_right (by simp; omega)]
      have e1 : (k + 1) * 2 - [c32 p.1, p.2.1].length = k * 2 := by simp; omega
      have e2 : (k + 1) * 2 + 1 - [c32 p.1, p.2.1].length = k * 2 + 1 := by simp; omega
      rw [e1, e2]
      simpa using this
/-- a value is a slice of these bytes, of blocks in S -/
def TxAt (w : World) (S : Nat → Prop) (v : Value) (bs : List (BitVec 8)) : Prop := ∃ A c, v = .slice A bs.length c ∧ ReadsS w S 1 A bs.length (bs.map c8) ∧ bs.length ≤ c
/-- A VALUE IS A SLICE OF THESE TIERS, of blocks in S -/
def PayAt (w : World) (S : Nat → Prop) (v : Value) (K : List TierK) : Prop := ∃ A c, v = .slice A K.length c ∧ K.length ≤ c ∧ ReadsS w S 2 A K.length (tierCells K) ∧ ∀ p ∈ K, TxAt w S p.2.1 p.2.2
section
variable {w w' : World} {S S' : Nat → Prop} {v : Value} {bs : List (BitVec 8)} {K : List TierK}
theorem TxAt.keep (h : TxAt w S v bs) (hs : w.heap.size ≤ w'.heap.size) (hk : ∀ i, i < w.heap.size → S i → w'.heap[i]? = w.heap[i]?) : TxAt w' S v bs := by
  obtain ⟨A, c, e, h1, h2⟩ := h; exact ⟨A, c, e, h1.keep hs hk, h2⟩
theorem TxAt.mono (h : TxAt w S v bs) (hS : ∀ i, i < w.heap.size → S i → S' i) : TxAt w S' v bs := by
  obtain ⟨A, c, e, h1, h2⟩ := h; exact ⟨A, c, e, h1.mono hS, h2⟩
theorem TxAt.row8 (h : TxAt w S v bs) : Row8 w w.heap.size v bs := by
  obtain ⟨A, c, e, h1, h2⟩ := h; exact ⟨A, _, c, e, h1.reads, h2⟩
theorem PayAt.keep (h : PayAt w S v K) (hs : w.heap.size ≤ w'.heap.size) (hk : ∀ i, i < w.heap.size → S i → w'.heap[i]? = w.heap[i]?) : PayAt w' S v K := by
  obtain ⟨A, c, e, h1, h2, h3⟩ := h; exact ⟨A, c, e, h1, h2.keep hs hk, fun p hp => (h3 p hp).keep hs hk⟩
theorem PayAt.below (h : PayAt w S v K) (hb : Below w.heap.size w w') : PayAt w' S v K := h.keep hb.size fun i hi _ => hb.block i hi
theorem PayAt.mono (h : PayAt w S v K) (hS : ∀ i, i < w.heap.size → S i → S' i) : PayAt w S' v K := by
  obtain ⟨A, c, e, h1, h2, h3⟩ := h; exact ⟨A, c, e, h1, h2.mono hS, fun p hp => (h3 p hp).mono hS⟩
theorem PayAt.tx (h : PayAt w S v K) {p : TierK} (hp : p ∈ K) : TxAt w S p.2.1 p.2.2 := by
  obtain ⟨A, c, e, h1, h2, h3⟩ := h; exact h3 p hp
/-- the k-th tier, where it stands -/
theorem PayAt.at_ {A : Option Addr} {n c k : Nat} (h : PayAt w S (.slice A n c) K) (hk : k < K.length) :
    ∃ g o, A = some ⟨g, o, none⟩ ∧ g < w.heap.size ∧ w.cell? ⟨g, o + k * 2, none⟩ = some (c32 K[k].1) ∧ w.cell? ⟨g, o + k * 2 + 1, none⟩ = some K[k].2.1 := by
  obtain ⟨A', c', e, h1, h2, _⟩ := h
  injection e with e1 e2 e3
  subst e1
  obtain ⟨g, o, rfl, _, hg, hc⟩ := h2.2 (by omega)
  obtain ⟨g1, g2⟩ := tierCells_get K k hk
  exact ⟨g, o, rfl, hg, hc _ _ g1, by have := hc _ _ g2; rwa [← Nat.add_assoc] at this⟩
end

/-- A PAYLOAD OF A CALL'S OWN, made since w0 -/
structure OwnPay (w0 w : World) (v : Value) (K : List TierK) : Prop where
  own : w.ownsRow w0.heap.size 80 2 v K.length (tierCells K)
  txs : ∀ p ∈ K, w.ownsRow w0.heap.size 5 1 p.2.1 p.2.2.length (p.2.2.map c8)
section
variable {w0 w w' : World} {v : Value} {K : List TierK}
theorem OwnPay.keep (h : OwnPay w0 w v K) (hk : ∀ i, w0.heap.size ≤ i → i < w.heap.size → w'.heap[i]? = w.heap[i]?) : OwnPay w0 w' v K :=
  ⟨own_block h.own fun r hr => hk r (own_lt h.own hr).1 (own_lt h.own hr).2, fun p hp => own_block (h.txs p hp) fun r hr => hk r (own_lt (h.txs p hp) hr).1 (own_lt (h.txs p hp) hr).2⟩
theorem OwnPay.later (h : OwnPay w0 w v K) (hb : Below w.heap.size w w') : OwnPay w0 w' v K := h.keep fun i _ hi => hb.block i hi
theorem OwnPay.none_ : OwnPay w0 w (.slice none 0 0) [] := ⟨World.ownsRow_nil _ _ _ _, by simp⟩
theorem OwnPay.pay (h : OwnPay w0 w v K) : PayAt w (fun i => w0.heap.size ≤ i ∧ i < w.heap.size) v K := by
  obtain ⟨A, c, rfl⟩ := own_slice h.own
  refine ⟨A, c, rfl, own_cap h.own, (ReadsS.of_own h.own).mono fun i _ hi => own_lt h.own hi, fun p hp => ?_⟩
  have ho := h.txs p hp
  obtain ⟨A', c', e⟩ := own_slice ho
  rw [e] at ho ⊢
  exact ⟨A', c', rfl, (ReadsS.of_own ho).mono fun i _ hi => own_lt ho hi, own_cap ho⟩
end

theorem info_tier : (Try.prog.info? 80).map (fun i => (i.zero, i.size, i.bytes)) = some (some (.agg #[.int .u32 0, .slice none 0 0]), 2, 32) := by kernel_rfl
theorem pinfo_byte : (Try.prog.info? 5).map (fun i => (i.zero, i.size, i.bytes)) = some (some (.int .u8 0), 1, 1) := by kernel_rfl
theorem run_build_tier (w : World) (f u : Value) : (Instr.buildSlice 71 1 #[(0, .agg #[f, u])]).run Try.prog w = .ok (.slice (some ⟨w.heap.size, 0, none⟩) 1 1) (w.alloc (.cells #[f, u] 80)) := by
  obtain ⟨i, hi, hz0, hz1, hz2⟩ := info_parts info_tier
  refine run_buildSlice w 71 80 1 _ #[f, u] i _ Try.underlying71 hi hz0 (by rw [hz1]; decide) (by rw [hz1]; decide) ?_
  rw [hz1]
  simp [Instr.fill, Value.cells]
  apply Array.ext
  · simp
  · intro i h1 h2
    have : i = 0 ∨ i = 1 := by simp at h2; omega
    rcases this with rfl | rfl <;> simp
theorem gives_build_tier {o : Oper} {a : Act} {w : World} {X : Value → World → Prop} (y : Operand) (ho : o.op = .buildSlice 71 1 #[(0, y)]) (f u : Value) (hx : a.eval y = .agg #[f, u])
    (h : X (.slice (some ⟨w.heap.size, 0, none⟩) 1 1) (w.alloc (.cells #[f, u] 80))) : Gives Try.prog o a w X := by
  unfold Gives execOp
  simp only [ho, Sem.run_bind, List.map_toArray, List.map_cons, List.map_nil, hx, run_build_tier w f u, Result.andThen_ok, givesUpon]
  exact h
/-- an append, whatever the rows hold -/
theorem gives_append_of {P : Program} {w : World} {o : Oper} {a : Act} {X : Value → World → Prop} (s x : Operand) (t : TypeId)
    (ho : o.op = .call { callee := .builtin .append, args := #[s, x], argTypes := #[t, t] })
    (base : Nat) (e : TypeId) (z : Value) (size bytes : Nat) (ht : P.underlying t = some (.slice e)) (hi : (P.info? e).map (fun i => (i.zero, i.size, i.bytes)) = some (some z, size, bytes)) (hzs : z.cells.size = size) (hsz : 0 < size)
    (v : Value) (n : Nat) (xs : List Value) (hs : a.eval s = v) (hown : w.ownsRow base e size v n xs)
    (B : Nat) (A : Option Addr) (m c : Nat) (news : List Value) (hx : a.eval x = .slice A m c) (hr : Reads w B size A m news) (h1 : ∀ u ∈ news, u.oneCell' = true)
    (h63 : n + m ≤ maxLen) (hbytes : (n + m) * bytes ≤ 140737488355328) (hbase : base ≤ w.heap.size)
    (h : ∀ v' w', w'.ownsRow base e size v' (n + m) (xs ++ news) → w.grownBy w' v.ownBlock → (v'.ownBlock = v.ownBlock ∨ v'.ownBlock = some w.heap.size) → X v' w') : Gives P o a w X := by
  obtain ⟨i, hi, hz, hz1, hz2⟩ := info_parts hi
  obtain ⟨v', w', hrun, h2, h3, h4⟩ := run_append_any (P := P) w base t o.type e i z size bytes ht hi hz hz1 hz2 hzs hsz v n xs hown B A m c news hr h1 h63 hbytes hbase
  unfold Gives execOp
  simp only [ho, resolve, invoke, builtin, Sem.run_bind, Sem.run_pure, Result.andThen_ok, List.map_toArray, List.map_cons, List.map_nil, hs, hx, hrun, givesUpon]
  exact h v' w' h2 h3 h4
/-- a store into a block of one cell -/
theorem gives_store_one {P : Program} {o : Oper} {a : Act} {w : World} {X : Value → World → Prop} (ty : TypeId) (x y : Operand) (ho : o.op = .store ty x y) (g : Nat) (hx : a.eval x = .pointer (some ⟨g, 0, none⟩)) (v : Value) (hy : a.eval y = v) (h1 : v.oneCell' = true)
    (t : TypeId) (old : Value) (hg : w.heap[g]? = some (.cells #[old] t (0, 0))) (hi : (P.info? ty).map (·.size) = some 1) (h : X undef (w.setRow g #[v])) : Gives P o a w X := by
  unfold Gives execOp
  simp only [ho, hx, hy, Instr.storeAt, Instr.sureAddr, Sem.run_bind, Sem.run_pure, Result.andThen_ok, run_storeVar_one w g t ty old _ hg hi h1, givesUpon]
  exact h
theorem plainT_take (K : List TierK) (k : Nat) (h : k < K.length) : (plainT K).take (k + 1) = (plainT K).take k ++ [(K[k].1, K[k].2.2)] := by
  unfold plainT
  rw [List.take_succ_eq_append_getElem (by simpa using h)]
  simp
theorem grown_drew' (w : World) (row : Option Nat) : w.grownBy w.drew row := ⟨rfl, rfl, rfl, Nat.le_refl _, fun _ _ _ => rfl⟩
theorem grown_trans' {a b c : World} {row row' : Option Nat} (h : a.grownBy b row) (k : b.grownBy c row') (hr : ∀ j, row' = some j → a.heap.size ≤ j ∨ row = some j) : a.grownBy c row := h.andThen k hr
end Go.Proofs.Ytccpkafmbmkmfaa
namespace Go.Proofs.Ytccpkafmbmkmfaa
open Go.RowKit
set_option linter.unusedVariables false
set_option linter.unusedSimpArgs false
attribute [local go_sem] Gives givesUpon
attribute [local irreducible] Gives

/-- no payload is too much -/
def Modest (K : List TierK) : Prop := K.length ≤ 1048576 ∧ ∀ p ∈ K, p.2.2.length ≤ 4294967296
def RowOf (n : Nat) (u : Value) : Prop := ∃ A c, u = .slice A n c
def OneOf (u : Value) : Prop := ∃ r, u = .slice (some ⟨r, 0, none⟩) 1 1
def TxNew (w1 : World) (bs : List (BitVec 8)) (u : Value) (W : World) : Prop := W.ownsRow w1.heap.size 5 1 u bs.length (bs.map c8) ∧ w1.grownBy W none
def TierMade (n : Nat) (f : Value) (u : Value) : Prop := ∃ A c, u = .agg #[f, .slice A n c]
def TierOf (w1 : World) (bs : List (BitVec 8)) (f : Value) (u : Value) (W : World) : Prop := ∃ x, u = .agg #[f, x] ∧ TxNew w1 bs x W
def TierNew (w1 : World) (bs : List (BitVec 8)) (f : Value) (u : Value) (W : World) : Prop :=
  ∃ r x, u = .slice (some ⟨r, 0, none⟩) 1 1 ∧ w1.heap.size ≤ r ∧ Blk W r 80 #[f, x] ∧ TxNew w1 bs x W
def TierAdded (w0 w1 : World) (K : List TierK) (fee : BitVec 32) (bs : List (BitVec 8)) (rb : Option Nat) (u : Value) (W : World) : Prop :=
  ∃ x, W.ownsRow w0.heap.size 80 2 u (K.length + 1) (tierCells (K ++ [(fee, (x, bs))])) ∧ W.ownsRow w1.heap.size 5 1 x bs.length (bs.map c8) ∧ (u.ownBlock = rb ∨ ∃ r, u.ownBlock = some r ∧ w1.heap.size ≤ r)
/-- between two tiers -/
structure CopyI (w W : World) (p : Nat) (v' : Value) (K K' : List TierK) (k : Nat) : Prop where
  below : Below w.heap.size w W
  pay : OwnPay w W v' K'
  blk : Blk W p 73 #[v']
  plain : plainT K' = (plainT K).take k
  res : Blk W (w.heap.size + 1) 73 #[.slice none 0 0]
set_option maxRecDepth 100000 in
set_option maxHeartbeats 1600000 in
theorem copy_any (v : Value) (K : List TierK) (w : World) (S : Nat → Prop) (h : PayAt w S v K) (hm : Modest K) :
    Calls Try.prog 112 #[.agg #[v]] w fun e w' => ∃ v' K', e = .returned (.agg #[v']) ∧ plainT K' = plainT K ∧ OwnPay w w' v' K' ∧ Below w.heap.size w w' := by
  have HP := hide h
  obtain ⟨A, c, rfl, hc, _, _⟩ := h
  obtain ⟨n, hn⟩ : ∃ n, n = K.length := ⟨_, rfl⟩
  have HN := hide hn
  have HM := hide hm
  rw [← hn] at hc HP ⊢
  have hn1 : n ≤ 1048576 := by rw [hn]; exact hm.1
  clear hm hn
  go_enter Try.func112, Try.ntmps112
  go_wp2
  go_loopw [9] (fun i wr => ∃ (k : Nat) (v' : Value) (K' : List TierK), k ≤ n ∧ i = .int .i64 (k : Int) ∧ Hid (CopyI w wr (w.heap.size + 2) v' K K' k)) (fun i _ => n - (intOf i).toNat)
  case atStart =>
    refine ⟨0, .slice none 0 0, [], Nat.zero_le _, rfl, hide ⟨?_, OwnPay.none_, ?_, by simp [plainT], ?_⟩⟩
    · exact (((Below.refl _ _).alloc (Nat.le_refl _) _).alloc (by simp) _).alloc (by simp; omega) _
    · have := Blk.new ((w.alloc (.cells #[.slice A n c] 73)).alloc (.cells #[.slice none 0 0] 73)) 73 #[.slice none 0 0]
      simpa using this
    · have := (Blk.new (w.alloc (.cells #[.slice A n c] 73)) 73 #[.slice none 0 0]).alloc (.cells #[.slice none 0 0] 73)
      simpa using this
  case round =>
    obtain ⟨wz, rfl⟩ : ∃ wz : World, wz = wr := ⟨_, rfl⟩
    obtain ⟨k, v', K', hk, rfl, HI⟩ := hrel
    by_cases hlt : k < n
    · have hd1 : decide ((k : Int) < (n : Int)) = true := by simpa using hlt
      have hkK : k < K.length := by rw [← HN.out]; exact hlt
      obtain ⟨ga, oa, rfl, hga, c1, c2⟩ := HP.out.at_ (k := k) hkK
      replace c1 := (HI.out.below.cell (p := ⟨ga, oa + k * 2, none⟩) hga).trans c1
      replace c2 := (HI.out.below.cell (p := ⟨ga, oa + k * 2 + 1, none⟩) hga).trans c2
      have HTx := HP.out.tx (List.getElem_mem hkK)
      have hbl := HM.out.2 _ (List.getElem_mem hkK)
      have HPl := hide (plainT_take K k hkK)
      generalize (K[k]'hkK) = p at *
      obtain ⟨fee, u, bs⟩ := p
      obtain ⟨A2, c2', e2, hr2, _⟩ := HTx
      dsimp only at e2 c1 c2 hbl HPl hr2
      subst e2
      have hk0 : (0 : Int) ≤ (k : Int) := by omega
      have hKl : K'.length = k := by
        have := congrArg List.length HI.out.plain
        simp [plainT] at this; omega
      obtain ⟨q, hq⟩ : ∃ q, q = wz.heap.size := ⟨_, rfl⟩
      obtain ⟨W1, hW1⟩ : ∃ W1, W1 = wz.alloc (.cells #[c32 fee, .slice A2 bs.length c2'] 80) := ⟨_, rfl⟩
      have hb1 : Below wz.heap.size wz W1 := by rw [hW1]; exact (Below.refl _ _).alloc (Nat.le_refl _) _
      have hB5 : Blk W1 q 80 #[c32 fee, .slice A2 bs.length c2'] := by rw [hW1, hq]; exact Blk.new wz _ _
      obtain ⟨rb, hrb⟩ : ∃ rb, rb = v'.ownBlock := ⟨_, rfl⟩
      have HRb := hide hrb
      have HP1 := hide (HI.out.pay.later hb1)
      have HBl := hide (below_next HI.out.below hb1)
      have HBp := hide (show Blk W1 (w.heap.size + 2) 73 #[v'] from (hb1.block _ HI.out.blk.lt).trans HI.out.blk)
      have HBr := hide (show Blk W1 (w.heap.size + 1) 73 #[.slice none 0 0] from (hb1.block _ HI.out.res.lt).trans HI.out.res)
      have HPk := hide HI.out.plain
      have HRb2 := hide (show ∀ r, rb = some r → r < q ∧ w.heap.size ≤ r from fun r hr => by rw [hq]; have := own_lt HI.out.pay.own (by rw [← hrb]; exact hr); exact ⟨this.2, this.1⟩)
      have HNe : Hid (∀ g cs, Blk W1 g 73 cs → some g ≠ rb) := hide fun g cs hg e => own_blk_ne HP1.out.own hg (by decide) (by rw [← hrb]; exact e.symm)
      have FP : Hid (∀ W, W1.grownBy W rb → W.cell? ⟨w.heap.size + 1 + 1, 0, none⟩ = some v') := hide fun W hW =>
        (World.cell?_of_block (a := ⟨w.heap.size + 2, 0, none⟩) (hW.block _ HBp.out.lt (HNe.out _ _ HBp.out))).trans ((HBp.out.cell 0).trans rfl)
      have HQn : Hid (some q ≠ rb) := hide fun e => by have := (HRb2.out q e.symm).1; omega
      have F0 : Hid (∀ W, W1.grownBy W rb → W.cell? ⟨q, 0, none⟩ = some (c32 fee)) := hide fun W hW =>
        (World.cell?_of_block (a := ⟨q, 0, none⟩) (hW.block _ hB5.lt HQn.out)).trans ((hB5.cell 0).trans rfl)
      have F1 : Hid (∀ W, W1.grownBy W rb → W.cell? ⟨q, 1, none⟩ = some (.slice A2 bs.length c2')) := hide fun W hW =>
        (World.cell?_of_block (a := ⟨q, 1, none⟩) (hW.block _ hB5.lt HQn.out)).trans ((hB5.cell 1).trans rfl)
      have HRd : Hid (∀ W, W1.grownBy W rb → Reads W w.heap.size 1 A2 bs.length (bs.map c8)) := hide fun W hW => ((hr2.reads).below HBl.out).grown hW HBl.out.size (fun g e => (HRb2.out g e).2)
      have HKl := hide hKl
      clear hB5 hr2 HI hrb hb1 hKl
      go_upto_region 5 with (fail)
      rw [← hW1, ← hq]
      clear hW1 hq
      apply wp_region_last 11 _ (hv := [6, 7, 8, 9]) (I := fun W => W1.grownBy W rb) (C := fun W => W1.grownBy W none) (ss := [_, _, _, _, _, _, _, _, _, _, _]) rfl (by kernel_rfl) (by kernel_rfl) (by kernel_rfl) (by kernel_rfl) (by kernel_rfl) (by kernel_rfl) (grown_drew' W1 rb) (grown_drew' W1 none)
      simp only [List.take_succ_cons, List.take_zero]
      repeat (first
        | (apply stWalk_light
           · rfl
           · (intro W hI
              have c0 := FP.out W hI
              have d0 := F0.out W hI
              have d1 := F1.out W hI
              clear hI
              go_simp
              with_reducible exact rfl)
           (try simp only [Act.put, List.setIfInBounds_toArray, List.set_cons_zero, List.set_cons_succ])))
      apply stWalk_turn (RowOf bs.length) (TxNew W1 bs)
      · rfl
      · exact ⟨_, none, 0, rfl⟩
      · rfl
      · intro W hI hC
        refine gives_append_of _ _ 78 rfl W1.heap.size 5 _ 1 1 Try.underlying78 pinfo_byte rfl (by omega) (.slice none 0 0) 0 [] rfl (World.ownsRow_nil _ _ _ _) w.heap.size A2 bs.length c2' (bs.map c8) rfl (HRd.out W hI) (by intro u hu; obtain ⟨z, _, rfl⟩ := List.mem_map.1 hu; rfl) (by simp only [maxLen]; omega) (by omega) hI.size ?_
        intro x W' ho hg _
        rw [Nat.zero_add, List.nil_append] at ho
        obtain ⟨A6, c6, rfl⟩ := own_slice ho
        exact ⟨⟨A6, c6, rfl⟩, grown_trans' hI hg (by simp [Value.ownBlock]), ho, grown_trans' hC hg (by simp [Value.ownBlock])⟩
      rintro x ⟨A6, c6, rfl⟩
      (try simp only [Act.put, List.setIfInBounds_toArray, List.set_cons_zero, List.set_cons_succ])
      apply stWalk_turn (TierMade bs.length (c32 fee)) (TierOf W1 bs (c32 fee))
      · rfl
      · exact ⟨_, none, 0, rfl⟩
      · rfl
      · intro W hI hC
        have HC6 := hide hC
        have HI6 := hide hI
        clear hI hC
        go_simp
        exact ⟨⟨A6, c6, rfl⟩, HI6.out, _, rfl, HC6.out⟩
      rintro x ⟨A8, c8', rfl⟩
      (try simp only [Act.put, List.setIfInBounds_toArray, List.set_cons_zero, List.set_cons_succ])
      apply stWalk_turn OneOf (TierNew W1 bs (c32 fee))
      · rfl
      · exact ⟨_, 0, rfl⟩
      · rfl
      · intro W hI hC
        obtain ⟨y, e, hC⟩ := hC
        injection e with e
        have e : y = .slice A8 bs.length c8' := by have := congrArg (fun a : Array Value => a[1]?) e; simpa using this.symm
        subst e
        refine gives_build_tier _ rfl (c32 fee) (.slice A8 bs.length c8') rfl ⟨⟨_, rfl⟩, grown_trans' hI (World.grownBy_alloc W _ none) (by simp), _, _, rfl, hI.size, Blk.new W _ _, own_block hC.1 fun r hr => Below.heap_alloc W _ r (own_lt hC.1 hr).2, grown_trans' hC.2 (World.grownBy_alloc W _ none) (by simp)⟩
      rintro x ⟨r, rfl⟩
      (try simp only [Act.put, List.setIfInBounds_toArray, List.set_cons_zero, List.set_cons_succ])
      apply stWalk_turn (RowOf (K'.length + 1)) (TierAdded w W1 K' fee bs rb)
      · rfl
      · exact ⟨_, none, 0, rfl⟩
      · rfl
      · intro W hI hC
        obtain ⟨r', y, e, hr, hB, hx, hg0⟩ := hC
        cases e
        have hown := own_block HP1.out.own fun i hi => hg0.block i (own_lt HP1.out.own hi).2 (by simp)
        have hy1 : y.oneCell' = true := by obtain ⟨A, c, rfl⟩ := own_slice hx; rfl
        refine gives_append_of _ _ 71 rfl w.heap.size 80 _ 2 32 Try.underlying71 info_tier rfl (by omega) v' K'.length (tierCells K') rfl hown (r + 1) (some ⟨r, 0, none⟩) 1 1 [c32 fee, y] rfl ⟨rfl, fun _ => ⟨_, rfl, by simp, fun j x hx => ?_⟩⟩ (by simp [hy1]; rfl) (by have := HKl.out; simp only [maxLen]; omega) (by have := HKl.out; omega) (Nat.le_trans HBl.out.size hI.size) ?_
        · rw [Addr.add_lit, Nat.zero_add, hB.cell]
          simpa using hx
        · intro v2 W' ho hg hat
          obtain ⟨A7, c7, rfl⟩ := own_slice ho
          refine ⟨⟨A7, c7, rfl⟩, grown_trans' hI hg (fun j e => .inr (by rw [HRb.out]; exact e)), y, by rw [tierCells_append]; exact ho, own_block hx fun i hi => hg.block i (own_lt hx hi).2 (fun e => ?_), ?_⟩
          · have h1 := own_lt hx hi
            have h2 := own_lt HP1.out.own e.symm
            omega
          · rcases hat with e | e
            · exact .inl (by rw [HRb.out]; exact e)
            · exact .inr ⟨_, e, hI.size⟩
      rintro x ⟨A7, c7, rfl⟩
      (try simp only [Act.put, List.setIfInBounds_toArray, List.set_cons_zero, List.set_cons_succ])
      apply stWalk_light
      · rfl
      · intro W hI
        go_simp
        with_reducible exact rfl
      (try simp only [Act.put, List.setIfInBounds_toArray, List.set_cons_zero, List.set_cons_succ])
      refine stWalk_nil fun W hI hC => ⟨rfl, ?_⟩
      have hBp := (hI.block _ HBp.out.lt (HNe.out _ _ HBp.out)).trans HBp.out
      refine gives_store_one _ _ _ rfl (w.heap.size + 2) rfl (.slice A7 (K'.length + 1) c7) rfl rfl 73 v' hBp (by kernel_rfl) ?_
      obtain ⟨y, ho, hx, hat⟩ := hC
      have hoth : ∀ i, i ≠ w.heap.size + 2 → (W.setRow (w.heap.size + 2) #[Value.slice A7 (K'.length + 1) c7]).heap[i]? = W.heap[i]? := fun i hi => setRow_other _ _ _ _ hi
      have HI2 := hide (show CopyI w (W.setRow (w.heap.size + 2) #[Value.slice A7 (K'.length + 1) c7]) (w.heap.size + 2) (Value.slice A7 (K'.length + 1) c7) K (K' ++ [(fee, (y, bs))]) (k + 1) from by
        refine ⟨below_setRow (HBl.out.grown hI HBl.out.size (fun g e => (HRb2.out g e).2)) (by omega) _, ⟨?_, fun p hp => ?_⟩, setRow_heap _ _ _ _ _ _ hBp, ?_, ?_⟩
        · have := own_block (w' := W.setRow (w.heap.size + 2) #[Value.slice A7 (K'.length + 1) c7]) ho fun r hr => hoth r (fun e => own_blk_ne ho hBp (by decide) (by rw [hr, e]))
          simpa using this
        · have hp' : W.ownsRow w.heap.size 5 1 p.2.1 p.2.2.length (p.2.2.map c8) := by
            rcases List.mem_append.1 hp with hp | hp
            · have h1 := HP1.out.txs p hp
              refine own_block h1 fun r hr => hI.block r (own_lt h1 hr).2 (fun e => own_own_ne h1 HP1.out.own (by decide) hr (by rw [← HRb.out]; exact e.symm))
            · simp only [List.mem_singleton] at hp
              subst hp
              exact own_less hx HBl.out.size
          exact own_block hp' fun r hr => hoth r (fun e => own_blk_ne hp' hBp (by decide) (by rw [hr, e]))
        · rw [HPl.out, ← HPk.out]; simp [plainT]
        · exact (hoth _ (by omega)).trans ((hI.block _ HBr.out.lt (HNe.out _ _ HBr.out)).trans HBr.out))
      clear ho hx hat
      clear hI hBp hoth
      (try simp only [Act.put, List.setIfInBounds_toArray, List.set_cons_zero, List.set_cons_succ])
      go_wp2
      go_roundw
      case rel => exact ⟨k + 1, _, _, by omega, by go_num, HI2⟩
      case measure => simp [intOf]; omega
    · obtain rfl : k = n := by omega
      have cP : wz.cell? ⟨w.heap.size + 1 + 1, 0, none⟩ = some v' := (HI.out.blk.cell 0).trans rfl
      have cR : wz.cell? ⟨w.heap.size + 1, 0, none⟩ = some (.slice none 0 0) := (HI.out.res.cell 0).trans rfl
      have fR : wz.frozen? ⟨w.heap.size + 1, 0, none⟩ = false := HI.out.res.frozen 0
      obtain ⟨A5, c5, rfl⟩ := own_slice HI.out.pay.own
      have HPl : Hid (plainT K' = plainT K) := hide (by rw [HI.out.plain, HN.out]; exact List.take_of_length_le (by simp [plainT]))
      have HP2 := hide HI.out.pay
      have HB2 := hide HI.out.below
      have hBr := HI.out.res
      have HBr := hide hBr
      clear HI hBr
      go_wp2
      have hoth : ∀ i, i ≠ w.heap.size + 1 → (wz.setCell ⟨w.heap.size + 1, 0, none⟩ (.slice A5 K'.length c5)).heap[i]? = wz.heap[i]? := fun i hi => Below.heap_setCell _ _ _ _ hi
      refine bodyPost_ret (v := .agg #[.slice A5 K'.length c5]) ?_ rfl ⟨_, K', rfl, HPl.out, ?_, ?_⟩
      · exact results_cell_row rfl _ _ (w.heap.size + 1) 73 #[.slice A5 K'.length c5] (0, 0) _ rfl (HBr.out.set_ 0 _) Try.underlying73 rfl (by kernel_rfl)
      · exact ⟨own_block HP2.out.own fun r hr => hoth r (fun e => own_blk_ne HP2.out.own HBr.out (by decide) (by rw [hr, e])), fun p hp => own_block (HP2.out.txs p hp) fun r hr => hoth r (fun e => own_blk_ne (HP2.out.txs p hp) HBr.out (by decide) (by rw [hr, e]))⟩
      · exact HB2.out.setCell (p := ⟨w.heap.size + 1, 0, none⟩) (Nat.le_succ _) _
end Go.Proofs.Ytccpkafmbmkmfaa
namespace Go.Proofs.Ytccpkafmbmkmfaa
open Go.RowKit Go.Shelf
set_option linter.unusedVariables false
set_option linter.unusedSimpArgs false

set_option maxRecDepth 100000 in
theorem txid_any (v : Value) (bs : List (BitVec 8)) (w : World) (S : Nat → Prop) (h : TxAt w S v bs) (hb : bs.length ≤ 4294967296) :
    Calls Try.prog 113 #[v] w fun e w' => e = .returned (.agg ((shaOf bs).map c8).toArray) ∧ Below w.heap.size w w' := by
  obtain ⟨Z, hZ, hZr⟩ := zero_id
  obtain ⟨A, c, rfl, hr, hc⟩ := h
  have HZ32 : Hid (Z.size = 32) := hide (by rw [hZr]; rfl)
  replace hZ := hide hZ
  obtain ⟨W0, hW0⟩ : ∃ W0, w.alloc (.cells Z 70) = W0 := ⟨_, rfl⟩
  have HQ := hide (show Blk W0 w.heap.size 70 Z by rw [← hW0]; exact Blk.new w _ Z)
  have HB0 := hide (show Below w.heap.size w W0 by rw [← hW0]; exact (Below.refl _ _).alloc (Nat.le_refl _) _)
  obtain ⟨W1, hW1⟩ : ∃ W1, W0.alloc (.cells #[.slice A bs.length c] 78) = W1 := ⟨_, rfl⟩
  have HB1 := hide (show Below W0.heap.size W0 W1 by rw [← hW1]; exact (Below.refl _ _).alloc (Nat.le_refl _) _)
  have HQ1 := hide (HQ.out.below HB1.out HQ.out.lt)
  have hbl := Blk.new W0 78 #[.slice A bs.length c]
  rw [hW1] at hbl
  have HRow := hide ((show TxAt w S (.slice A bs.length c) bs from ⟨A, c, rfl, hr, hc⟩).keep (HB0.out.trans (HB1.out.mono HB0.out.size)).size (fun i hi _ => (HB0.out.trans (HB1.out.mono HB0.out.size)).block i hi)).row8
  have HS := hide (shasum_any (some ⟨W0.heap.size, 0, none⟩) 1 1 [.slice A bs.length c] [bs] W1 ⟨rfl, fun _ => ⟨_, rfl, hbl.lt, fun j u hu => by rw [Addr.add_lit, Nat.zero_add, hbl.cell]; simpa using hu⟩⟩ ⟨rfl, fun i v p hv hp => by
    cases i with
    | zero => simp at hv hp; subst hv hp; exact HRow.out
    | succ i => simp at hv⟩ (by omega) (by simp; omega))
  obtain ⟨WL, hWL⟩ : ∃ WL, WL = ((shaOf bs).map c8).toArray := ⟨_, rfl⟩
  have hWLl : WL.size = 32 := by rw [hWL, List.size_toArray, List.length_map, shaOf_len]
  have HI : Hid ((Try.prog.info? 70).map (·.size) = some WL.size) := hide (by rw [hWLl]; exact info_id)
  have HWO : Hid (WL.all (·.oneCell') = true) := hide (by rw [hWL]; exact oneCell_bytes _)
  have HZs : Hid (Z.size = WL.size) := hide (by rw [HZ32.out, hWLl])
  rw [show [bs].flatten = bs by simp, ← hWL] at HS
  replace hWL := hide hWL
  replace hW0 := hide hW0
  replace hW1 := hide hW1
  clear hZr hbl hWLl hr
  go_enter Try.func113, Try.ntmps113
  go_wp2_with (first
    | (refine wpList_alloc_is rfl 70 rfl Z hZ.out ?_; rw [hW0.out])
    | (rw [hW1.out]; go_at_call 121; (with_reducible refine HS.out.mono ?_); rintro e w3 ⟨rfl, hb3⟩; have HB3 := hide (HB0.out.trans ((HB1.out.trans (hb3.mono HB1.out.size)).mono HB0.out.size)); have HQ3 := hide (HQ1.out.below hb3 HQ1.out.lt); clear hb3)
    | ((with_reducible show wpList _ _ _ (⟨_, .store _ _ _, _, _, _, _⟩ :: _) _ _); refine wpList_store_row rfl 70 _ _ rfl w.heap.size rfl WL rfl 70 _ HQ3.out HI.out HZs.out HWO.out ?_))
  refine bodyPost_ret (v := .agg WL) ?_ rfl ⟨by rw [hWL.out], ?_⟩
  · exact results_cell_row rfl _ _ w.heap.size 70 WL (0, 0) _ rfl (setRow_heap _ _ _ _ _ _ HQ3.out) Try.underlying70 rfl HI.out
  · exact below_setRow HB3.out (Nat.le_refl _) _
end Go.Proofs.Ytccpkafmbmkmfaa
namespace Go.Proofs.Ytccpkafmbmkmfaa
open Go.RowKit Go.Shelf
set_option linter.unusedVariables false
set_option linter.unusedSimpArgs false

/-- rows of 32 bytes -/
def Ids (l : List (List (BitVec 8))) : Prop := ∀ x ∈ l, x.length = 32
theorem Ids.nil : Ids [] := by intro x h; cases h
theorem Ids.cons {x : List (BitVec 8)} {l : List (List (BitVec 8))} (hx : x.length = 32) (h : Ids l) : Ids (x :: l) := by
  intro y hy
  rcases List.mem_cons.1 hy with rfl | hy
  · exact hx
  · exact h y hy
theorem Ids.append {l m : List (List (BitVec 8))} (h : Ids l) (k : Ids m) : Ids (l ++ m) := by
  intro y hy
  rcases List.mem_append.1 hy with hy | hy
  · exact h y hy
  · exact k y hy
theorem Ids.drop {l : List (List (BitVec 8))} (h : Ids l) (k : Nat) : Ids (l.drop k) := fun x hx => h x (List.mem_of_mem_drop hx)
theorem Ids.take {l : List (List (BitVec 8))} (h : Ids l) (k : Nat) : Ids (l.take k) := fun x hx => h x (List.mem_of_mem_take hx)
theorem Ids.flat_len {l : List (List (BitVec 8))} (h : Ids l) : l.flatten.length = l.length * 32 := by
  induction l with
  | nil => rfl
  | cons x l ih =>
    rw [List.flatten_cons, List.length_append, h x (by simp), ih (fun y hy => h y (by simp [hy])), List.length_cons]; omega
theorem Ids.flat_drop {l : List (List (BitVec 8))} (h : Ids l) (k : Nat) : (l.drop k).flatten = l.flatten.drop (k * 32) := by
  induction l generalizing k with
  | nil => simp
  | cons x l ih =>
    cases k with
    | zero => simp
    | succ k =>
      have hx := h x (by simp)
      rw [List.drop_succ_cons, ih (fun y hy => h y (by simp [hy])) k, List.flatten_cons, List.drop_append, hx]
      rw [show x.drop ((k + 1) * 32) = [] from List.drop_eq_nil_of_le (by omega), List.nil_append]
      congr 1; omega
theorem Ids.flat_get {l : List (List (BitVec 8))} (h : Ids l) (k j : Nat) (x : List (BitVec 8)) (hx : l[k]? = some x) (hj : j < 32) : l.flatten[k * 32 + j]? = x[j]? := by
  have hk : k < l.length := (List.getElem?_eq_some_iff.1 hx).1
  have e : l.flatten[k * 32 + j]? = (l.flatten.drop (k * 32))[j]? := by rw [List.getElem?_drop]
  rw [e, ← h.flat_drop, List.drop_eq_getElem_cons hk, List.flatten_cons]
  have hx' : l[k] = x := (List.getElem?_eq_some_iff.1 hx).2
  rw [hx', List.getElem?_append_left (by rw [h x (by rw [← hx']; exact List.getElem_mem _)]; exact hj)]
/-- a row of 32 bytes, as a value -/
structure IdVal (l : List (BitVec 8)) (R : Array Value) : Prop where
  val : R = (l.map c8).toArray
  size : R.size = 32
  info : (Try.prog.info? 70).map (·.size) = some R.size
  one : R.all (·.oneCell') = true
theorem idVal (l : List (BitVec 8)) (h : l.length = 32) : ∃ R, IdVal l R := by
  refine ⟨(l.map c8).toArray, rfl, by simp [h], ?_, oneCell_bytes _⟩
  rw [show ((l.map c8).toArray).size = 32 by simp [h]]
  exact info_id
theorem zeroId : ∃ Z : Array Value, (Try.prog.info? 70).map (·.zero) = some (some (.agg Z)) ∧ Z.size = 32 := by
  obtain ⟨Z, h, hr⟩ := zero_id
  exact ⟨Z, h, by rw [hr]; rfl⟩
theorem info_idfull : (Try.prog.info? 70).map (fun i => (i.zero, i.size, i.bytes)) = some (some (.agg (List.replicate 32 (c8 0)).toArray), 32, 32) := by kernel_rfl
theorem fill_id (R : Array Value) (hR : R.size = 32) (cells : Array Value) (hc : cells.size = 32) : Instr.fill (fun i => some (i * 32, 32)) cells [(0, .agg R)] = some R := by
  have h := Great.fill_whole (s := 32) (by omega) [Value.agg R] cells (by intro v hv; simp at hv; subst hv; exact hR) (by simp [hc])
  simpa [Value.cells] using h
theorem run_build_id (w : World) (R : Array Value) (hR : R.size = 32) : (Instr.buildSlice 127 1 #[(0, .agg R)]).run Try.prog w = .ok (.slice (some ⟨w.heap.size, 0, none⟩) 1 1) (w.alloc (.cells R 70)) := by
  obtain ⟨i, hi, hz0, hz1, hz2⟩ := info_parts info_idfull
  refine run_buildSlice w 127 70 1 _ R i _ Try.underlying127 hi hz0 (by rw [hz1]; decide) (by rw [hz1]; decide) ?_
  rw [hz1]
  exact fill_id R hR _ (by simp)
theorem wpList_build_id {ops : Array Oper} {rest : List Oper} {o : Oper} {a : Act} {w : World} {Q : Exit → Act → World → Prop} (hgd : o.guard = none) (x : Operand) (ho : o.op = .buildSlice 127 1 #[(0, x)]) (R : Array Value) (hx : a.eval x = .agg R) (hR : R.size = 32)
    (h : wpList Try.prog ops Q rest (a.put o.dst (.slice (some ⟨w.heap.size, 0, none⟩) 1 1)) (w.alloc (.cells R 70))) : wpList Try.prog ops Q (o :: rest) a w := by
  refine wpList_plain hgd fun _ hK => ?_
  unfold Oper.wp execOp
  simp only [ho, Sem.run_bind, List.map_toArray, List.map_cons, List.map_nil, hx, run_build_id w R hR, Result.andThen_ok]
  exact hK _ _ h
theorem gives_build_id {o : Oper} {a : Act} {w : World} {X : Value → World → Prop} (x : Operand) (ho : o.op = .buildSlice 127 1 #[(0, x)]) (R : Array Value) (hx : a.eval x = .agg R) (hR : R.size = 32)
    (h : X (.slice (some ⟨w.heap.size, 0, none⟩) 1 1) (w.alloc (.cells R 70))) : Gives Try.prog o a w X := by
  unfold Gives execOp
  simp only [ho, Sem.run_bind, List.map_toArray, List.map_cons, List.map_nil, hx, run_build_id w R hR, Result.andThen_ok, givesUpon]
  exact h
/-- a block of 32 bytes as a row of one id -/
theorem reads_blk_id {W : World} {g : Nat} {q : List (BitVec 8)} {R : Array Value} (h : Blk W g 70 R) (hq : q.length = 32) (hR : IdVal q R) : Reads W W.heap.size 32 (some ⟨g, 0, none⟩) 1 (([q].flatten).map c8) :=
  ⟨by simp [hq], fun _ => ⟨_, rfl, h.lt, fun j v hv => by
    rw [Addr.add_lit, Nat.zero_add, h.cell, hR.val, List.getElem?_toArray]
    simpa using hv⟩⟩
/-- a row of ids of one's own, made since w0 -/
structure OwnIds (w0 w : World) (v : Value) (ids : List (List (BitVec 8))) : Prop where
  hid : Ids ids
  own : w.ownsRow w0.heap.size 70 32 v ids.length (ids.flatten.map c8)
  below : Below w0.heap.size w0 w
theorem OwnIds.none_ {w0 w : World} (h : Below w0.heap.size w0 w) : OwnIds w0 w (.slice none 0 0) [] := ⟨Ids.nil, ⟨rfl, .inl ⟨rfl, rfl⟩⟩, h⟩
theorem OwnIds.later {w0 w w' : World} {v : Value} {ids : List (List (BitVec 8))} (h : OwnIds w0 w v ids) (hb : Below w.heap.size w w') : OwnIds w0 w' v ids :=
  ⟨h.hid, ⟨h.own.1, h.own.2.imp id fun ⟨g, cap, cur, h1, h2, h3, h4⟩ => ⟨g, cap, cur, h1, h2, (hb.block g (Array.getElem?_eq_some_iff.1 h3).1).trans h3, h4⟩⟩, below_next h.below hb⟩
theorem OwnIds.slice {w0 w : World} {v : Value} {ids : List (List (BitVec 8))} (h : OwnIds w0 w v ids) : ∃ A c, v = .slice A ids.length c ∧ ids.length ≤ c := by
  obtain ⟨A, c, rfl⟩ := own_slice h.own
  exact ⟨A, c, rfl, own_cap h.own⟩
theorem OwnIds.reads {w0 w : World} {A : Option Addr} {n c : Nat} {ids : List (List (BitVec 8))} (h : OwnIds w0 w (.slice A n c) ids) : Reads w w.heap.size 32 A ids.length (ids.flatten.map c8) := by
  obtain ⟨A', c', e, _⟩ := h.slice
  injection e with e1 e2 e3
  have := h.own
  rw [e2] at this
  exact Reads.of_own this
/-- a row that is read, and is not this one -/
def FarIds (w : World) (v : Value) (A : Option Addr) (n : Nat) (ids : List (List (BitVec 8))) : Prop := Reads w w.heap.size 32 A n (ids.flatten.map c8) ∧ ∀ ad, A = some ad → some ad.block ≠ v.ownBlock
theorem FarIds.reads {w : World} {v : Value} {A : Option Addr} {n : Nat} {ids : List (List (BitVec 8))} (h : FarIds w v A n ids) : Reads w w.heap.size 32 A n (ids.flatten.map c8) := h.1
theorem FarIds.later {w w' : World} {v : Value} {A : Option Addr} {n : Nat} {ids : List (List (BitVec 8))} (h : FarIds w v A n ids) (hb : Below w.heap.size w w') : FarIds w' v A n ids := ⟨h.1.later hb, h.2⟩
theorem FarIds.grown {w w' : World} {v v' : Value} {A : Option Addr} {n : Nat} {ids : List (List (BitVec 8))} (h : FarIds w v A n ids) (hn : 0 < n) (hg : w.grownBy w' v.ownBlock) (hv : v'.ownBlock = v.ownBlock ∨ v'.ownBlock = some w.heap.size) : FarIds w' v' A n ids := by
  obtain ⟨ad, rfl, hb, hc⟩ := h.1.2 hn
  have hf := h.2 ad rfl
  refine ⟨⟨h.1.1, fun _ => ⟨ad, rfl, Nat.lt_of_lt_of_le hb hg.size, fun j u hu => ?_⟩⟩, fun ad' e => ?_⟩
  · refine (World.cell?_of_block (hg.block _ ?_ ?_)).trans (hc j u hu)
    · rw [block_of_add]; exact hb
    · rw [block_of_add]; exact hf
  · cases e
    rcases hv with hv | hv
    · rw [hv]; exact hf
    · rw [hv]; intro e; injection e; omega
theorem OwnIds.far {w0 w w' : World} {v : Value} {ids : List (List (BitVec 8))} (h : OwnIds w0 w v ids) {A : Option Addr} {n c : Nat} {ids' : List (List (BitVec 8))} (k : OwnIds w w' (.slice A n c) ids') : FarIds w' v A ids'.length ids' := by
  refine ⟨k.reads, fun ad e hx => ?_⟩
  subst e
  rcases k.own.2 with ⟨e, _⟩ | ⟨g, cap, cur, e, hb, _⟩
  · cases e
  · injection e with e1
    cases e1
    rcases h.own.2 with ⟨rfl, _⟩ | ⟨g', cap', cur', rfl, _, h3, _⟩
    · simp [Value.ownBlock] at hx
    · simp [Value.ownBlock] at hx
      have := (Array.getElem?_eq_some_iff.1 h3).1
      omega
theorem OwnIds.grown {w0 w w' : World} {v v' : Value} {ids new : List (List (BitVec 8))} (h : OwnIds w0 w v ids) (hn : Ids new) {m : Nat} (hm : new.length = m) (own : w'.ownsRow w0.heap.size 70 32 v' (ids.length + m) (ids.flatten.map c8 ++ new.flatten.map c8)) (grow : w.grownBy w' v.ownBlock) : OwnIds w0 w' v' (ids ++ new) := by
  refine ⟨h.hid.append hn, ?_, below_appended h.below h.below.size h.own (Nat.le_refl _) grow⟩
  rw [List.length_append, List.flatten_append, List.map_append, hm]; exact own
theorem wpList_append_ids {ops : Array Oper} {rest : List Oper} {o : Oper} {a : Act} {w : World} {Q : Exit → Act → World → Prop} (hgd : o.guard = none) (s x : Operand)
    (ho : o.op = .call { callee := .builtin .append, args := #[s, x], argTypes := #[127, 127] }) (w0 : World) (v : Value) (ids : List (List (BitVec 8))) (hs : a.eval s = v) (h : OwnIds w0 w v ids)
    (A : Option Addr) (m c : Nat) (new : List (List (BitVec 8))) (hx : a.eval x = .slice A m c) (B : Nat) (hr : Reads w B 32 A m (new.flatten.map c8)) (hid : Ids new) (hm : new.length = m) (hb : ids.length + m ≤ 1099511627776)
    (hK : ∀ v' w', OwnIds w0 w' v' (ids ++ new) → w.grownBy w' v.ownBlock → (v'.ownBlock = v.ownBlock ∨ v'.ownBlock = some w.heap.size) → wpList Try.prog ops Q rest (a.put o.dst v') w') : wpList Try.prog ops Q (o :: rest) a w := by
  obtain ⟨i, hi, hz0, hz1, hz2⟩ := info_parts info_idfull
  refine wpList_append_any w hgd s x 127 ho w0.heap.size 70 i _ 32 32 Try.underlying127 hi hz0 hz1 hz2 (by simp [Value.cells]) (by omega) v ids.length _ hs h.own B A m c _ hx hr (oneCell_c8 _) (by simp only [maxLen]; omega) (by omega) h.below.size ?_
  intro v' w' own grow hv
  exact hK v' w' (h.grown hid hm own grow) grow hv
theorem gives_append_ids {o : Oper} {a : Act} {w : World} {X : Value → World → Prop} (s x : Operand)
    (ho : o.op = .call { callee := .builtin .append, args := #[s, x], argTypes := #[127, 127] }) (w0 : World) (v : Value) (ids : List (List (BitVec 8))) (hs : a.eval s = v) (h : OwnIds w0 w v ids)
    (A : Option Addr) (m c : Nat) (new : List (List (BitVec 8))) (hx : a.eval x = .slice A m c) (B : Nat) (hr : Reads w B 32 A m (new.flatten.map c8)) (hid : Ids new) (hm : new.length = m) (hb : ids.length + m ≤ 1099511627776)
    (hK : ∀ v' w', OwnIds w0 w' v' (ids ++ new) → w.grownBy w' v.ownBlock → X v' w') : Gives Try.prog o a w X := by
  obtain ⟨i, hi, hz0, hz1, hz2⟩ := info_parts info_idfull
  refine gives_append_of s x 127 ho w0.heap.size 70 _ 32 32 Try.underlying127 info_idfull (by simp [Value.cells]) (by omega) v ids.length _ hs h.own B A m c _ hx hr (oneCell_c8 _) (by simp only [maxLen]; omega) (by omega) h.below.size ?_
  intro v' w' own grow _
  exact hK v' w' (h.grown hid hm own grow) grow
/-- the k-th id of a row -/
theorem reads_id_at {w : World} {B n k : Nat} {A : Option Addr} {ids : List (List (BitVec 8))} (h : Reads w B 32 A n (ids.flatten.map c8)) (hid : Ids ids) (q : List (BitVec 8)) (hq : ids[k]? = some q) (hk : k < n) :
    ∃ g o, A = some ⟨g, o, none⟩ ∧ g < B ∧ ∀ j v, (q.map c8)[j]? = some v → w.cell? ((⟨g, o, none⟩ : Addr).add (k * 32 + j)) = some v := by
  have hn : ids.length = n := by have := h.1; rw [List.length_map, hid.flat_len] at this; omega
  obtain ⟨⟨g, o, sp⟩, rfl, hb, hc⟩ := h.2 (by omega)
  have hs : sp = none := by
    have h0 := hc 0 ((ids.flatten.map c8)[0]'(by rw [List.length_map, hid.flat_len]; omega)) (by simp)
    have := World.cell?_spot h0
    simpa [Addr.add] using this
  subst hs
  refine ⟨g, o, rfl, hb, fun j v hv => hc _ v ?_⟩
  have hql : q.length = 32 := hid q (List.mem_of_getElem? hq)
  have hj : j < 32 := by have := (List.getElem?_eq_some_iff.1 hv).1; rwa [List.length_map, hql] at this
  rw [List.getElem?_map, hid.flat_get k j q hq hj, ← List.getElem?_map]; exact hv

theorem ids_one {q : List (BitVec 8)} (h : q.length = 32) : Ids [q] := Ids.cons h Ids.nil
/-- the ids of the transactions of tiers -/
def idsOf (L : List TierV) : List (List (BitVec 8)) := L.map fun p => shaOf p.2
theorem ids_idsOf (L : List TierV) : Ids (idsOf L) := by
  intro x hx
  obtain ⟨p, _, rfl⟩ := List.mem_map.1 hx
  exact shaOf_len _
set_option maxRecDepth 100000 in
set_option maxHeartbeats 1600000 in
theorem ids_any (v : Value) (K : List TierK) (w : World) (S : Nat → Prop) (h : PayAt w S v K) (hm : Modest K) :
    Calls Try.prog 85 #[.agg #[v]] w fun e w' => ∃ u, e = .returned u ∧ OwnIds w w' u (idsOf (plainT K)) := by
  have HP := hide h
  obtain ⟨A, c, rfl, hc, _, _⟩ := h
  obtain ⟨n, hn⟩ : ∃ n, n = K.length := ⟨_, rfl⟩
  have HN := hide hn
  have HM := hide hm
  rw [← hn] at hc HP ⊢
  have hn1 : n ≤ 1048576 := by rw [hn]; exact hm.1
  clear hm hn
  go_enter Try.func85, Try.ntmps85
  go_wp2
  go_loopw [3, 9] (fun x i wr => ∃ (k : Nat), k ≤ n ∧ i = .int .i64 (k : Int) ∧ Hid (OwnIds w wr x (idsOf ((plainT K).take k)))) (fun _ i _ => n - (intOf i).toNat)
  case atStart =>
    refine ⟨0, Nat.zero_le _, rfl, hide ?_⟩
    simp only [List.take_zero, idsOf, List.map_nil]
    exact OwnIds.none_ ((Below.refl _ _).alloc (Nat.le_refl _) _)
  case round =>
    obtain ⟨wz, rfl⟩ : ∃ wz : World, wz = wr := ⟨_, rfl⟩
    obtain ⟨k, hk, rfl, HI⟩ := hrel
    by_cases hlt : k < n
    · have hd1 : decide ((k : Int) < (n : Int)) = true := by simpa using hlt
      have hkK : k < K.length := by rw [← HN.out]; exact hlt
      obtain ⟨ga, oa, rfl, hga, c1, c2⟩ := HP.out.at_ (k := k) hkK
      replace c1 := (HI.out.below.cell (p := ⟨ga, oa + k * 2, none⟩) hga).trans c1
      replace c2 := (HI.out.below.cell (p := ⟨ga, oa + k * 2 + 1, none⟩) hga).trans c2
      have HTx := hide (HP.out.tx (List.getElem_mem hkK))
      have hbl := HM.out.2 _ (List.getElem_mem hkK)
      have HPl := hide (plainT_take K k hkK)
      generalize (K[k]'hkK) = p at *
      obtain ⟨fee, u, bs⟩ := p
      dsimp only at c1 c2 hbl HPl HTx
      obtain ⟨A2, c2', e2, hr2, hc2⟩ := HTx.out
      subst e2
      have hk0 : (0 : Int) ≤ (k : Int) := by omega
      clear hr2 hc2
      have hil : (idsOf ((plainT K).take k)).length = k := by simp [idsOf, plainT, List.length_take]; omega
      obtain ⟨ids, hids⟩ : ∃ ids, ids = idsOf ((plainT K).take k) := ⟨_, rfl⟩
      have HIds : Hid (idsOf ((plainT K).take (k + 1)) = ids ++ [shaOf bs]) := hide (by rw [HPl.out, hids]; simp [idsOf])
      rw [← hids] at HI hil
      obtain ⟨A3, c3, rfl, _⟩ := HI.out.slice
      obtain ⟨R, hR⟩ := idVal (shaOf bs) (shaOf_len _)
      have HRv := hide hR
      have HIl := hide hil
      have HTxW : Hid (∀ W, Below wz.heap.size wz W → TxAt W S (.slice A2 bs.length c2') bs) := hide fun W hW => HTx.out.keep (below_next HI.out.below hW).size (fun i hi _ => (below_next HI.out.below hW).block i hi)
      clear hids hil hR
      go_upto_region 5 with (fail)
      obtain ⟨W1, hW1⟩ : ∃ W1, W1 = wz.alloc (.cells #[c32 fee, .slice A2 bs.length c2'] 80) := ⟨_, rfl⟩
      have hb1 : Below wz.heap.size wz W1 := by rw [hW1]; exact (Below.refl _ _).alloc (Nat.le_refl _) _
      have d1 : W1.cell? ⟨wz.heap.size, 1, none⟩ = some (.slice A2 bs.length c2') := by rw [hW1]; exact ((Blk.new wz _ _).cell 1).trans rfl
      have HI1 := hide (HI.out.later hb1)
      have HT := hide (txid_any _ bs W1 S (HTxW.out W1 hb1) hbl)
      rw [show ((shaOf bs).map c8).toArray = R from HRv.out.val.symm] at HT
      rw [← hW1]
      clear hW1 hb1 HI
      go_wp2_with (first
        | (go_at_call 113; (with_reducible refine HT.out.mono ?_); rintro e w3 ⟨rfl, hb3⟩; have HI3 := hide (HI1.out.later hb3); clear hb3)
        | ((with_reducible show wpList _ _ _ (⟨_, .buildSlice _ _ _, _, _, _, _⟩ :: _) _ _); refine wpList_build_id rfl _ rfl R rfl HRv.out.size ?_)
        | (at_builtin; refine wpList_append_ids rfl (.tmp 13) (.tmp 17) rfl w _ ids rfl (HI3.out.later ((Below.refl _ _).alloc (Nat.le_refl _) _)) _ 1 1 [shaOf bs] rfl _ (reads_blk_id (Blk.new _ _ R) (shaOf_len _) HRv.out) (ids_one (shaOf_len _)) rfl (by have := HIl.out; omega) ?_; intro v4 w4 O4' _ _; rw [← HIds.out] at O4'; have O4 := hide O4'; clear O4')
        | fail)
      go_roundw
      case rel => exact ⟨k + 1, by omega, by go_num, O4⟩
      case measure => simp [intOf]; omega
    · obtain rfl : k = n := by omega
      have HPl : Hid (idsOf ((plainT K).take k) = idsOf (plainT K)) := hide (by rw [HN.out, List.take_of_length_le (by simp [plainT])])
      rw [HPl.out] at HI
      go_wp2
      go_ret
      exact ⟨_, rfl, HI.out⟩
end Go.Proofs.Ytccpkafmbmkmfaa
namespace Go.Proofs.Ytccpkafmbmkmfaa
open Go.RowKit
set_option linter.unusedVariables false
set_option linter.unusedSimpArgs false

/-- do fees rise, and are there from 1 to 64 bytes of each? -/
def stepR : Option (BitVec 32) → List TierV → Bool
  | _, [] => true
  | prev, p :: r => (decide (1 ≤ p.2.length) && decide (p.2.length ≤ 64) && (match prev with | none => true | some q => decide (q.toNat < p.1.toNat))) && stepR (some p.1) r
def rightP (L : List TierV) : Bool := decide (1 ≤ L.length) && decide (L.length ≤ 8) && stepR none L
def prevF (L : List TierV) (k : Nat) : Option (BitVec 32) := if k = 0 then none else (L[k - 1]?).map (·.1)
theorem stepR_at (L : List TierV) (k : Nat) (h : k < L.length) : stepR (prevF L k) (L.drop k) =
    ((decide (1 ≤ L[k].2.length) && decide (L[k].2.length ≤ 64) && (match prevF L k with | none => true | some q => decide (q.toNat < L[k].1.toNat))) && stepR (prevF L (k + 1)) (L.drop (k + 1))) := by
  rw [List.drop_eq_getElem_cons h]
  have : prevF L (k + 1) = some L[k].1 := by simp [prevF, h]
  rw [this]; rfl

set_option maxRecDepth 100000 in
set_option maxHeartbeats 1600000 in
theorem payright_any (v : Value) (K : List TierK) (w : World) (S : Nat → Prop) (h : PayAt w S v K) :
    Calls Try.prog 108 #[.agg #[v]] w fun e w' => e = .returned (.bool (rightP (plainT K))) ∧ Below w.heap.size w w' := by
  have HP := hide h
  obtain ⟨A, c, rfl, hc, _, _⟩ := h
  obtain ⟨n, hn⟩ : ∃ n, n = K.length := ⟨_, rfl⟩
  have HN := hide hn
  have HNp : Hid (n = (plainT K).length) := hide (by rw [hn]; simp [plainT])
  rw [← hn] at hc HP ⊢
  clear hn
  by_cases h1 : n < 1
  · have d1 : decide ((n : Int) < 1) = true := by simp; omega
    have HR : Hid (rightP (plainT K) = false) := hide (by unfold rightP; rw [← HNp.out, decide_eq_false (by omega)]; rfl)
    go_enter Try.func108, Try.ntmps108
    go_wp2
    go_ret
    exact ⟨by rw [HR.out]; rfl, (Below.refl _ _).alloc (Nat.le_refl _) _⟩
  by_cases h2 : 8 < n
  · have d1 : decide ((n : Int) < 1) = false := by simp; omega
    have d2 : decide ((8 : Int) < (n : Int)) = true := by simp; omega
    have HR : Hid (rightP (plainT K) = false) := hide (by unfold rightP; rw [← HNp.out, decide_eq_false (show ¬ n ≤ 8 by omega)]; simp)
    go_enter Try.func108, Try.ntmps108
    go_wp2
    go_ret
    exact ⟨by rw [HR.out]; rfl, (Below.refl _ _).alloc (Nat.le_refl _) _⟩
  have d1 : decide ((n : Int) < 1) = false := by simp; omega
  have d2 : decide ((8 : Int) < (n : Int)) = false := by simp; omega
  have HR : Hid (rightP (plainT K) = stepR none (plainT K)) := hide (by unfold rightP; rw [← HNp.out, decide_eq_true (show n ≤ 8 by omega), decide_eq_true (show 1 ≤ n by omega)]; rfl)
  go_enter Try.func108, Try.ntmps108
  go_wp2
  clear d1 d2
  go_loopw [18] (fun i wr => ∃ (k : Nat), k ≤ n ∧ i = .int .i64 (k : Int) ∧ Hid (Below w.heap.size w wr) ∧ Hid (Blk wr w.heap.size 73 #[.slice A n c]) ∧ Hid (rightP (plainT K) = stepR (prevF (plainT K) k) ((plainT K).drop k))) (fun i _ => n - (intOf i).toNat)
  case atStart => exact ⟨0, Nat.zero_le _, rfl, hide ((Below.refl _ _).alloc (Nat.le_refl _) _), hide (Blk.new w _ _), hide (by rw [HR.out]; rfl)⟩
  case round =>
    obtain ⟨wz, rfl⟩ : ∃ wz : World, wz = wr := ⟨_, rfl⟩
    obtain ⟨k, hk, rfl, HB, HX, HS⟩ := hrel
    by_cases hlt : k < n
    · have hd1 : decide ((k : Int) < (n : Int)) = true := by simpa using hlt
      have hkK : k < K.length := by rw [← HN.out]; exact hlt
      obtain ⟨ga, oa, rfl, hga, c1, c2⟩ := HP.out.at_ (k := k) hkK
      have hst := HS.out.trans (stepR_at (plainT K) k (by rw [← HNp.out]; exact hlt))
      have HC0 : Hid (∀ j, j < K.length → ∀ (h : j < K.length), w.cell? ⟨ga, oa + j * 2, none⟩ = some (c32 K[j].1)) := hide fun j hj h => by
        obtain ⟨g', o', e, _, h1, _⟩ := HP.out.at_ (k := j) hj
        cases e
        exact h1
      replace c1 := (HB.out.cell (p := ⟨ga, oa + k * 2, none⟩) hga).trans c1
      replace c2 := (HB.out.cell (p := ⟨ga, oa + k * 2 + 1, none⟩) hga).trans c2
      have HTx := HP.out.tx (List.getElem_mem hkK)
      have hpl : (plainT K)[k]'(by rw [← HNp.out]; exact hlt) = (K[k].1, K[k].2.2) := by simp [plainT]
      rw [hpl] at hst
      have hk0 : (0 : Int) ≤ (k : Int) := by omega
      have hprev : prevF (plainT K) k = if h : k = 0 then none else some (K[k - 1]'(by omega)).1 := by
        unfold prevF
        split
        · rfl
        · simp [plainT, show k - 1 < K.length by omega]
      generalize hp : (K[k]'hkK) = p at *
      obtain ⟨fee, u, bs⟩ := p
      obtain ⟨A2, c2', e2, _, _⟩ := HTx
      dsimp only at e2 c1 c2 hst
      subst e2
      clear hpl hp
      have HX1 : Hid (∀ q, Below wz.heap.size wz ((wz.alloc (.cells #[c32 fee, .slice A2 bs.length c2'] 80)).drewN q)) := hide fun q => below_drewN ((Below.refl _ _).alloc (Nat.le_refl _) _) q
      have HX0 := hide (show Below wz.heap.size wz (wz.alloc (.cells #[c32 fee, .slice A2 bs.length c2'] 80)) from (Below.refl _ _).alloc (Nat.le_refl _) _)
      by_cases ha : bs.length < 1
      · have e1 : decide ((bs.length : Int) < 1) = true := by simp; omega
        rw [decide_eq_false (show ¬ 1 ≤ bs.length by omega)] at hst
        have HF := hide hst
        clear hst hprev HS
        go_upto_region 6 with (fail)
        go_quiet (fail)
        go_wp2
        go_ret
        exact ⟨by rw [HF.out]; rfl, below_next HB.out (HX1.out _)⟩
      have e1 : decide ((bs.length : Int) < 1) = false := by simp; omega
      rw [decide_eq_true (show 1 ≤ bs.length by omega)] at hst
      by_cases hb : 64 < bs.length
      · have e2 : decide ((64 : Int) < (bs.length : Int)) = true := by simp; omega
        rw [decide_eq_false (show ¬ bs.length ≤ 64 by omega)] at hst
        have HF := hide hst
        clear hst hprev HS
        go_upto_region 6 with (fail)
        go_quiet (fail)
        go_wp2
        go_ret
        exact ⟨by rw [HF.out]; rfl, below_next HB.out (HX1.out _)⟩
      have e2 : decide ((64 : Int) < (bs.length : Int)) = false := by simp; omega
      rw [decide_eq_true (show bs.length ≤ 64 by omega)] at hst
      have HXn : Hid (∀ q, Blk ((wz.alloc (.cells #[c32 fee, .slice A2 bs.length c2'] 80)).drewN q) w.heap.size 73 #[.slice (some ⟨ga, oa, none⟩) n c]) := hide fun q => HX.out.below (HX1.out q) HX.out.lt
      have HBn : Hid (∀ q, Below w.heap.size w ((wz.alloc (.cells #[c32 fee, .slice A2 bs.length c2'] 80)).drewN q)) := hide fun q => below_next HB.out (HX1.out q)
      by_cases hk1 : k = 0
      · have e3 : decide (0 < k) = false := by simp; omega
        rw [hprev, dif_pos hk1] at hst
        have HF := hide hst
        clear hst hprev HS hk1
        go_upto_region 6 with (fail)
        go_quiet (fail)
        go_wp2
        go_roundw
        case rel => exact ⟨k + 1, by omega, by go_num, hide (HBn.out _), hide (HXn.out _), hide (by rw [HF.out]; rfl)⟩
        case measure => simp [intOf]; omega
      have e3 : decide (0 < k) = true := by simp; omega
      have c0 := ((below_next HB.out HX0.out).cell (p := ⟨ga, oa + (k - 1) * 2, none⟩) hga).trans (HC0.out (k - 1) (by omega) (by omega))
      rw [hprev, dif_neg hk1] at hst
      generalize (K[k - 1]'(by omega)).1 = q at *
      obtain ⟨k', rfl⟩ : ∃ k', k = k' + 1 := ⟨k - 1, by omega⟩
      rw [show k' + 1 - 1 = k' by omega] at c0
      have e5 : ((k' + 1 : Nat) : Int) - 1 = (k' : Int) := by omega
      have z1 : (0 : Int) ≤ (k' : Int) := by omega
      have z2 : (k' : Int) < (n : Int) := by omega
      have z3 : k' < n := by omega
      have e6 : IntKind.i64.wrap (k' : Int) = (k' : Int) := IntWalk.i64_in _ (by omega)
      have x1 : (wz.alloc (.cells #[c32 fee, .slice A2 bs.length c2'] 80)).cell? ⟨w.heap.size, 0, none⟩ = some (.slice (some ⟨ga, oa, none⟩) n c) := ((HXn.out 0).cell 0).trans rfl
      by_cases hq : q.toNat < fee.toNat
      · have e4 : decide (fee.toNat ≤ q.toNat) = false := by simp; omega
        dsimp only at hst
        rw [decide_eq_true hq] at hst
        have HF := hide hst
        clear hst hprev HS
        go_upto_region 6 with (fail)
        go_quiet (fail)
        go_wp2
        go_roundw
        case rel => exact ⟨k' + 1 + 1, by omega, by go_num, hide (HBn.out _), hide (HXn.out _), hide (by rw [HF.out]; rfl)⟩
        case measure => simp [intOf]; omega
      · have e4 : decide (fee.toNat ≤ q.toNat) = true := by simp; omega
        dsimp only at hst
        rw [decide_eq_false hq] at hst
        have HF := hide hst
        clear hst hprev HS
        go_upto_region 6 with (fail)
        go_quiet (fail)
        go_wp2
        go_ret
        exact ⟨by rw [HF.out]; rfl, HBn.out _⟩
    · obtain rfl : k = n := by omega
      have HF : Hid (rightP (plainT K) = true) := hide (by rw [HS.out, HNp.out]; simp [stepR])
      go_wp2
      go_ret
      exact ⟨by rw [HF.out]; rfl, HB.out⟩
end Go.Proofs.Ytccpkafmbmkmfaa
