/-
  No cell of these rows narrows 'for every input' (looked for: loops, veiled, ifaces, maps, wideKeys, modest, calm, conditions, laid).
  DERIVED. THE GIVEN ROWS OF THIS SEAT. 12 by the template 'for every input the law returns true; each argument reads behind the call as it read before'; 0 by the template 'total and deterministic' (their statements: YtdeljodfanfbmaaTotals.lean).
  GIVEN WITH THE SEED: the statements are not yours to turn. If you find one false, say at which input.
  Laid BY PROGRAM, IN A SANDBOX (cutbox-rows.mjs): the forced cells as the released guide's own fill.sh prints them over the translation 65a796c5580fcb3e… (all of the seat's roots in one cut). By AI agents, Wed Nov 11 2026. No macro, syntax, notation, axiom, sorry.
-/
import Derived.Test.YtdeljodfanfbmaaChecked
import GoSem.Claim
import GoSem.ClaimJoined
import GoSem.ClaimMapViews
import Derived.JoinedTies
import Derived.KernelRfl
namespace Go.Proofs.Ytdeljodfanfbmaa
/- THE CELL 'sum', in the pinned program and in every row, IS THE sha256 OF THE DUMP (.gsa) THAT YtdeljodfanfbmaaProg.lean LOADS. Nothing in Lean hashes anything: it is a label: what it is worth is what the hold of that sum in a sandbox is worth. -/
noncomputable def Try.pinned : Pinned := { name := "ytdeljodfanfbmaa", sum := "65a796c5580fcb3e24b0ff0feb7a89529fe127b9b374717819ad9c20e0351d36", checked := Try.checked }
namespace Rows
def none {H : Type} : Left H := { results := [], args := [] }

/-- 'miradorlaw04.FieldTells': WHATEVER THE INPUT: true; the input reads as it did. -/
def fieldTellsSpec : ChangeSpec := { name := "fieldTells", fn := fun _ => fun
  | [d1, d2] => { results := [.lit (.bool true)], args := [d1, d2] }
  | _ => none }
def fieldTellsRow : OpenClaim := { program := "ytdeljodfanfbmaa", sum := "65a796c5580fcb3e24b0ff0feb7a89529fe127b9b374717819ad9c20e0351d36", func := "mirador/miradorlaw04.FieldTells", spec := "fieldTells", apart := false }
def FieldTellsSaid : Prop := fieldTellsRow.holds Try.pinned (OpenSpec.ofChange fieldTellsSpec)

/-- ITS FALSE NEIGHBOUR: 'it returns false'. Refute it at one input. -/
def fieldTellsWrong : ChangeSpec := { name := "fieldTells", fn := fun _ => fun
  | [d1, d2] => { results := [.lit (.bool false)], args := [d1, d2] }
  | _ => none }
def FieldTellsWrongFalsely : Prop := fieldTellsRow.holds Try.pinned (OpenSpec.ofChange fieldTellsWrong)

/-- 'miradorlaw04.FieldLaws': WHATEVER THE INPUT: true; the input reads as it did. -/
def fieldLawsSpec : ChangeSpec := { name := "fieldLaws", fn := fun _ => fun
  | [d1, d2, d3] => { results := [.lit (.bool true)], args := [d1, d2, d3] }
  | _ => none }
def fieldLawsRow : OpenClaim := { program := "ytdeljodfanfbmaa", sum := "65a796c5580fcb3e24b0ff0feb7a89529fe127b9b374717819ad9c20e0351d36", func := "mirador/miradorlaw04.FieldLaws", spec := "fieldLaws", apart := false }
def FieldLawsSaid : Prop := fieldLawsRow.holds Try.pinned (OpenSpec.ofChange fieldLawsSpec)

/-- ITS FALSE NEIGHBOUR: 'it returns false'. Refute it at one input. -/
def fieldLawsWrong : ChangeSpec := { name := "fieldLaws", fn := fun _ => fun
  | [d1, d2, d3] => { results := [.lit (.bool false)], args := [d1, d2, d3] }
  | _ => none }
def FieldLawsWrongFalsely : Prop := fieldLawsRow.holds Try.pinned (OpenSpec.ofChange fieldLawsWrong)

/-- 'miradorlaw04.FieldPowers': WHATEVER THE INPUT: true; the input reads as it did. -/
def fieldPowersSpec : ChangeSpec := { name := "fieldPowers", fn := fun _ => fun
  | [d1, d2, d3] => { results := [.lit (.bool true)], args := [d1, d2, d3] }
  | _ => none }
def fieldPowersRow : OpenClaim := { program := "ytdeljodfanfbmaa", sum := "65a796c5580fcb3e24b0ff0feb7a89529fe127b9b374717819ad9c20e0351d36", func := "mirador/miradorlaw04.FieldPowers", spec := "fieldPowers", apart := false }
def FieldPowersSaid : Prop := fieldPowersRow.holds Try.pinned (OpenSpec.ofChange fieldPowersSpec)

/-- ITS FALSE NEIGHBOUR: 'it returns false'. Refute it at one input. -/
def fieldPowersWrong : ChangeSpec := { name := "fieldPowers", fn := fun _ => fun
  | [d1, d2, d3] => { results := [.lit (.bool false)], args := [d1, d2, d3] }
  | _ => none }
def FieldPowersWrongFalsely : Prop := fieldPowersRow.holds Try.pinned (OpenSpec.ofChange fieldPowersWrong)

/-- 'miradorlaw05.BoxTells': WHATEVER THE INPUT: true; the input reads as it did. -/
def boxTellsSpec : ChangeSpec := { name := "boxTells", fn := fun _ => fun
  | [d1, d2] => { results := [.lit (.bool true)], args := [d1, d2] }
  | _ => none }
def boxTellsRow : OpenClaim := { program := "ytdeljodfanfbmaa", sum := "65a796c5580fcb3e24b0ff0feb7a89529fe127b9b374717819ad9c20e0351d36", func := "mirador/miradorlaw05.BoxTells", spec := "boxTells", unfollowed := true, recurses := true, apart := false }
def BoxTellsSaid : Prop := boxTellsRow.holds Try.pinned (OpenSpec.ofChange boxTellsSpec)

/-- ITS FALSE NEIGHBOUR: 'it returns false'. Refute it at one input. -/
def boxTellsWrong : ChangeSpec := { name := "boxTells", fn := fun _ => fun
  | [d1, d2] => { results := [.lit (.bool false)], args := [d1, d2] }
  | _ => none }
def BoxTellsWrongFalsely : Prop := boxTellsRow.holds Try.pinned (OpenSpec.ofChange boxTellsWrong)

/-- 'miradorlaw05.BoxOnce': WHATEVER THE INPUT: true; the input reads as it did. -/
def boxOnceSpec : ChangeSpec := { name := "boxOnce", fn := fun _ => fun
  | [d] => { results := [.lit (.bool true)], args := [d] }
  | _ => none }
def boxOnceRow : OpenClaim := { program := "ytdeljodfanfbmaa", sum := "65a796c5580fcb3e24b0ff0feb7a89529fe127b9b374717819ad9c20e0351d36", func := "mirador/miradorlaw05.BoxOnce", spec := "boxOnce", unfollowed := true, recurses := true, apart := false }
def BoxOnceSaid : Prop := boxOnceRow.holds Try.pinned (OpenSpec.ofChange boxOnceSpec)

/-- ITS FALSE NEIGHBOUR: 'it returns false'. Refute it at one input. -/
def boxOnceWrong : ChangeSpec := { name := "boxOnce", fn := fun _ => fun
  | [d] => { results := [.lit (.bool false)], args := [d] }
  | _ => none }
def BoxOnceWrongFalsely : Prop := boxOnceRow.holds Try.pinned (OpenSpec.ofChange boxOnceWrong)

/-- 'miradorlaw05.BoxNil': WHATEVER THE INPUT: true; the input reads as it did. -/
def boxNilSpec : ChangeSpec := { name := "boxNil", fn := fun _ => fun
  | [d1, d2] => { results := [.lit (.bool true)], args := [d1, d2] }
  | _ => none }
def boxNilRow : OpenClaim := { program := "ytdeljodfanfbmaa", sum := "65a796c5580fcb3e24b0ff0feb7a89529fe127b9b374717819ad9c20e0351d36", func := "mirador/miradorlaw05.BoxNil", spec := "boxNil", unfollowed := true, recurses := true, apart := false }
def BoxNilSaid : Prop := boxNilRow.holds Try.pinned (OpenSpec.ofChange boxNilSpec)

/-- ITS FALSE NEIGHBOUR: 'it returns false'. Refute it at one input. -/
def boxNilWrong : ChangeSpec := { name := "boxNil", fn := fun _ => fun
  | [d1, d2] => { results := [.lit (.bool false)], args := [d1, d2] }
  | _ => none }
def BoxNilWrongFalsely : Prop := boxNilRow.holds Try.pinned (OpenSpec.ofChange boxNilWrong)

/-- 'miradorlaw06.CipherEncrypts': WHATEVER THE INPUT: true; the input reads as it did. -/
def cipherEncryptsSpec : ChangeSpec := { name := "cipherEncrypts", fn := fun _ => fun
  | [d1, d2] => { results := [.lit (.bool true)], args := [d1, d2] }
  | _ => none }
def cipherEncryptsRow : OpenClaim := { program := "ytdeljodfanfbmaa", sum := "65a796c5580fcb3e24b0ff0feb7a89529fe127b9b374717819ad9c20e0351d36", func := "mirador/miradorlaw06.CipherEncrypts", spec := "cipherEncrypts", unfollowed := true, recurses := true, apart := false }
def CipherEncryptsSaid : Prop := cipherEncryptsRow.holds Try.pinned (OpenSpec.ofChange cipherEncryptsSpec)

/-- ITS FALSE NEIGHBOUR: 'it returns false'. Refute it at one input. -/
def cipherEncryptsWrong : ChangeSpec := { name := "cipherEncrypts", fn := fun _ => fun
  | [d1, d2] => { results := [.lit (.bool false)], args := [d1, d2] }
  | _ => none }
def CipherEncryptsWrongFalsely : Prop := cipherEncryptsRow.holds Try.pinned (OpenSpec.ofChange cipherEncryptsWrong)

/-- 'miradorlaw06.CipherKeys': WHATEVER THE INPUT: true; the input reads as it did. -/
def cipherKeysSpec : ChangeSpec := { name := "cipherKeys", fn := fun _ => fun
  | [d1, d2] => { results := [.lit (.bool true)], args := [d1, d2] }
  | _ => none }
def cipherKeysRow : OpenClaim := { program := "ytdeljodfanfbmaa", sum := "65a796c5580fcb3e24b0ff0feb7a89529fe127b9b374717819ad9c20e0351d36", func := "mirador/miradorlaw06.CipherKeys", spec := "cipherKeys", unfollowed := true, recurses := true, apart := false }
def CipherKeysSaid : Prop := cipherKeysRow.holds Try.pinned (OpenSpec.ofChange cipherKeysSpec)

/-- ITS FALSE NEIGHBOUR: 'it returns false'. Refute it at one input. -/
def cipherKeysWrong : ChangeSpec := { name := "cipherKeys", fn := fun _ => fun
  | [d1, d2] => { results := [.lit (.bool false)], args := [d1, d2] }
  | _ => none }
def CipherKeysWrongFalsely : Prop := cipherKeysRow.holds Try.pinned (OpenSpec.ofChange cipherKeysWrong)

/-- 'miradorlaw06.CipherMixes': WHATEVER THE INPUT: true; the input reads as it did. -/
def cipherMixesSpec : ChangeSpec := { name := "cipherMixes", fn := fun _ => fun
  | [d1, d2] => { results := [.lit (.bool true)], args := [d1, d2] }
  | _ => none }
def cipherMixesRow : OpenClaim := { program := "ytdeljodfanfbmaa", sum := "65a796c5580fcb3e24b0ff0feb7a89529fe127b9b374717819ad9c20e0351d36", func := "mirador/miradorlaw06.CipherMixes", spec := "cipherMixes", unfollowed := true, recurses := true, apart := false }
def CipherMixesSaid : Prop := cipherMixesRow.holds Try.pinned (OpenSpec.ofChange cipherMixesSpec)

/-- ITS FALSE NEIGHBOUR: 'it returns false'. Refute it at one input. -/
def cipherMixesWrong : ChangeSpec := { name := "cipherMixes", fn := fun _ => fun
  | [d1, d2] => { results := [.lit (.bool false)], args := [d1, d2] }
  | _ => none }
def CipherMixesWrongFalsely : Prop := cipherMixesRow.holds Try.pinned (OpenSpec.ofChange cipherMixesWrong)

/-- 'miradorlaw07.StreamMasks': WHATEVER THE INPUT: true; the input reads as it did. -/
def streamMasksSpec : ChangeSpec := { name := "streamMasks", fn := fun _ => fun
  | [d1, d2, d3] => { results := [.lit (.bool true)], args := [d1, d2, d3] }
  | _ => none }
def streamMasksRow : OpenClaim := { program := "ytdeljodfanfbmaa", sum := "65a796c5580fcb3e24b0ff0feb7a89529fe127b9b374717819ad9c20e0351d36", func := "mirador/miradorlaw07.StreamMasks", spec := "streamMasks", unfollowed := true, recurses := true, apart := false }
def StreamMasksSaid : Prop := streamMasksRow.holds Try.pinned (OpenSpec.ofChange streamMasksSpec)

/-- ITS FALSE NEIGHBOUR: 'it returns false'. Refute it at one input. -/
def streamMasksWrong : ChangeSpec := { name := "streamMasks", fn := fun _ => fun
  | [d1, d2, d3] => { results := [.lit (.bool false)], args := [d1, d2, d3] }
  | _ => none }
def StreamMasksWrongFalsely : Prop := streamMasksRow.holds Try.pinned (OpenSpec.ofChange streamMasksWrong)

/-- 'miradorlaw07.StreamPlaces': WHATEVER THE INPUT: true; the input reads as it did. -/
def streamPlacesSpec : ChangeSpec := { name := "streamPlaces", fn := fun _ => fun
  | [d1, d2, d3] => { results := [.lit (.bool true)], args := [d1, d2, d3] }
  | _ => none }
def streamPlacesRow : OpenClaim := { program := "ytdeljodfanfbmaa", sum := "65a796c5580fcb3e24b0ff0feb7a89529fe127b9b374717819ad9c20e0351d36", func := "mirador/miradorlaw07.StreamPlaces", spec := "streamPlaces", unfollowed := true, recurses := true, apart := false }
def StreamPlacesSaid : Prop := streamPlacesRow.holds Try.pinned (OpenSpec.ofChange streamPlacesSpec)

/-- ITS FALSE NEIGHBOUR: 'it returns false'. Refute it at one input. -/
def streamPlacesWrong : ChangeSpec := { name := "streamPlaces", fn := fun _ => fun
  | [d1, d2, d3] => { results := [.lit (.bool false)], args := [d1, d2, d3] }
  | _ => none }
def StreamPlacesWrongFalsely : Prop := streamPlacesRow.holds Try.pinned (OpenSpec.ofChange streamPlacesWrong)

/-- 'miradorlaw07.StreamKeys': WHATEVER THE INPUT: true; the input reads as it did. -/
def streamKeysSpec : ChangeSpec := { name := "streamKeys", fn := fun _ => fun
  | [d1, d2, d3] => { results := [.lit (.bool true)], args := [d1, d2, d3] }
  | _ => none }
def streamKeysRow : OpenClaim := { program := "ytdeljodfanfbmaa", sum := "65a796c5580fcb3e24b0ff0feb7a89529fe127b9b374717819ad9c20e0351d36", func := "mirador/miradorlaw07.StreamKeys", spec := "streamKeys", unfollowed := true, recurses := true, apart := false }
def StreamKeysSaid : Prop := streamKeysRow.holds Try.pinned (OpenSpec.ofChange streamKeysSpec)

/-- ITS FALSE NEIGHBOUR: 'it returns false'. Refute it at one input. -/
def streamKeysWrong : ChangeSpec := { name := "streamKeys", fn := fun _ => fun
  | [d1, d2, d3] => { results := [.lit (.bool false)], args := [d1, d2, d3] }
  | _ => none }
def StreamKeysWrongFalsely : Prop := streamKeysRow.holds Try.pinned (OpenSpec.ofChange streamKeysWrong)

/- THE SECOND FORM. 'bulk': how many values and letters a reading holds, each counted each time it is reached (what is shared counts as often as it is met; a slice's spare places count too). A statement '..UptoSaid' is the law's where the arguments, and the package variables that the reading takes, are together of bulk at most 1048576: NARROWER than '..Said'. Prove '..Said' where nothing that the law and all that it calls make is longer than what came in: it says more and counts as full. Else prove '..UptoSaid'. A law counts once. -/
mutual
def uptoBulk {H : Type} : DataW H → Nat
  | .lit (.string bytes) => bytes.length + 1
  | .lit _ => 1
  | .nil => 1
  | .ptr d => uptoBulk d + 1
  | .slice elems spare => uptoBulkAll elems + uptoBulkAll spare + 1
  | .agg parts => uptoBulkAll parts + 1
  | .iface _ d => uptoBulk d + 1
  | .map entries => uptoBulkEntries entries + 1
  | .held _ => 1
def uptoBulkAll {H : Type} : List (DataW H) → Nat
  | [] => 0
  | d :: r => uptoBulk d + uptoBulkAll r
def uptoBulkEntries {H : Type} : List (Lit × DataW H) → Nat
  | [] => 0
  | x :: r => uptoBulkEntry x + uptoBulkEntries r
def uptoBulkEntry {H : Type} : Lit × DataW H → Nat
  | (.string bytes, d) => bytes.length + uptoBulk d + 1
  | (_, d) => uptoBulk d + 1
 end
def uptoSmall : (H : Type) → List (DataW H) → Bool := fun _ ds => decide (uptoBulkAll ds ≤ 1048576)
def OpenSpec.upto (s : _root_.Go.ChangeSpec) : _root_.Go.OpenSpec := { _root_.Go.OpenSpec.ofChange s with cond := some uptoSmall }

/-- 'miradorlaw04.FieldTells', WHERE WHAT IT READS IS OF BULK AT MOST 1048576: true; the input reads as it did. -/
def fieldTellsUptoRow : OpenClaim := { program := "ytdeljodfanfbmaa", sum := "65a796c5580fcb3e24b0ff0feb7a89529fe127b9b374717819ad9c20e0351d36", func := "mirador/miradorlaw04.FieldTells", spec := "fieldTells", apart := false, narrowed := true }
def FieldTellsUptoSaid : Prop := fieldTellsUptoRow.holds Try.pinned (OpenSpec.upto fieldTellsSpec)

/-- 'miradorlaw04.FieldLaws', WHERE WHAT IT READS IS OF BULK AT MOST 1048576: true; the input reads as it did. -/
def fieldLawsUptoRow : OpenClaim := { program := "ytdeljodfanfbmaa", sum := "65a796c5580fcb3e24b0ff0feb7a89529fe127b9b374717819ad9c20e0351d36", func := "mirador/miradorlaw04.FieldLaws", spec := "fieldLaws", apart := false, narrowed := true }
def FieldLawsUptoSaid : Prop := fieldLawsUptoRow.holds Try.pinned (OpenSpec.upto fieldLawsSpec)

/-- 'miradorlaw04.FieldPowers', WHERE WHAT IT READS IS OF BULK AT MOST 1048576: true; the input reads as it did. -/
def fieldPowersUptoRow : OpenClaim := { program := "ytdeljodfanfbmaa", sum := "65a796c5580fcb3e24b0ff0feb7a89529fe127b9b374717819ad9c20e0351d36", func := "mirador/miradorlaw04.FieldPowers", spec := "fieldPowers", apart := false, narrowed := true }
def FieldPowersUptoSaid : Prop := fieldPowersUptoRow.holds Try.pinned (OpenSpec.upto fieldPowersSpec)

/-- 'miradorlaw05.BoxTells', WHERE WHAT IT READS IS OF BULK AT MOST 1048576: true; the input reads as it did. -/
def boxTellsUptoRow : OpenClaim := { program := "ytdeljodfanfbmaa", sum := "65a796c5580fcb3e24b0ff0feb7a89529fe127b9b374717819ad9c20e0351d36", func := "mirador/miradorlaw05.BoxTells", spec := "boxTells", unfollowed := true, recurses := true, apart := false, narrowed := true }
def BoxTellsUptoSaid : Prop := boxTellsUptoRow.holds Try.pinned (OpenSpec.upto boxTellsSpec)

/-- 'miradorlaw05.BoxOnce', WHERE WHAT IT READS IS OF BULK AT MOST 1048576: true; the input reads as it did. -/
def boxOnceUptoRow : OpenClaim := { program := "ytdeljodfanfbmaa", sum := "65a796c5580fcb3e24b0ff0feb7a89529fe127b9b374717819ad9c20e0351d36", func := "mirador/miradorlaw05.BoxOnce", spec := "boxOnce", unfollowed := true, recurses := true, apart := false, narrowed := true }
def BoxOnceUptoSaid : Prop := boxOnceUptoRow.holds Try.pinned (OpenSpec.upto boxOnceSpec)

/-- 'miradorlaw05.BoxNil', WHERE WHAT IT READS IS OF BULK AT MOST 1048576: true; the input reads as it did. -/
def boxNilUptoRow : OpenClaim := { program := "ytdeljodfanfbmaa", sum := "65a796c5580fcb3e24b0ff0feb7a89529fe127b9b374717819ad9c20e0351d36", func := "mirador/miradorlaw05.BoxNil", spec := "boxNil", unfollowed := true, recurses := true, apart := false, narrowed := true }
def BoxNilUptoSaid : Prop := boxNilUptoRow.holds Try.pinned (OpenSpec.upto boxNilSpec)

/-- 'miradorlaw06.CipherEncrypts', WHERE WHAT IT READS IS OF BULK AT MOST 1048576: true; the input reads as it did. -/
def cipherEncryptsUptoRow : OpenClaim := { program := "ytdeljodfanfbmaa", sum := "65a796c5580fcb3e24b0ff0feb7a89529fe127b9b374717819ad9c20e0351d36", func := "mirador/miradorlaw06.CipherEncrypts", spec := "cipherEncrypts", unfollowed := true, recurses := true, apart := false, narrowed := true }
def CipherEncryptsUptoSaid : Prop := cipherEncryptsUptoRow.holds Try.pinned (OpenSpec.upto cipherEncryptsSpec)

/-- 'miradorlaw06.CipherKeys', WHERE WHAT IT READS IS OF BULK AT MOST 1048576: true; the input reads as it did. -/
def cipherKeysUptoRow : OpenClaim := { program := "ytdeljodfanfbmaa", sum := "65a796c5580fcb3e24b0ff0feb7a89529fe127b9b374717819ad9c20e0351d36", func := "mirador/miradorlaw06.CipherKeys", spec := "cipherKeys", unfollowed := true, recurses := true, apart := false, narrowed := true }
def CipherKeysUptoSaid : Prop := cipherKeysUptoRow.holds Try.pinned (OpenSpec.upto cipherKeysSpec)

/-- 'miradorlaw06.CipherMixes', WHERE WHAT IT READS IS OF BULK AT MOST 1048576: true; the input reads as it did. -/
def cipherMixesUptoRow : OpenClaim := { program := "ytdeljodfanfbmaa", sum := "65a796c5580fcb3e24b0ff0feb7a89529fe127b9b374717819ad9c20e0351d36", func := "mirador/miradorlaw06.CipherMixes", spec := "cipherMixes", unfollowed := true, recurses := true, apart := false, narrowed := true }
def CipherMixesUptoSaid : Prop := cipherMixesUptoRow.holds Try.pinned (OpenSpec.upto cipherMixesSpec)

/-- 'miradorlaw07.StreamMasks', WHERE WHAT IT READS IS OF BULK AT MOST 1048576: true; the input reads as it did. -/
def streamMasksUptoRow : OpenClaim := { program := "ytdeljodfanfbmaa", sum := "65a796c5580fcb3e24b0ff0feb7a89529fe127b9b374717819ad9c20e0351d36", func := "mirador/miradorlaw07.StreamMasks", spec := "streamMasks", unfollowed := true, recurses := true, apart := false, narrowed := true }
def StreamMasksUptoSaid : Prop := streamMasksUptoRow.holds Try.pinned (OpenSpec.upto streamMasksSpec)

/-- 'miradorlaw07.StreamPlaces', WHERE WHAT IT READS IS OF BULK AT MOST 1048576: true; the input reads as it did. -/
def streamPlacesUptoRow : OpenClaim := { program := "ytdeljodfanfbmaa", sum := "65a796c5580fcb3e24b0ff0feb7a89529fe127b9b374717819ad9c20e0351d36", func := "mirador/miradorlaw07.StreamPlaces", spec := "streamPlaces", unfollowed := true, recurses := true, apart := false, narrowed := true }
def StreamPlacesUptoSaid : Prop := streamPlacesUptoRow.holds Try.pinned (OpenSpec.upto streamPlacesSpec)

/-- 'miradorlaw07.StreamKeys', WHERE WHAT IT READS IS OF BULK AT MOST 1048576: true; the input reads as it did. -/
def streamKeysUptoRow : OpenClaim := { program := "ytdeljodfanfbmaa", sum := "65a796c5580fcb3e24b0ff0feb7a89529fe127b9b374717819ad9c20e0351d36", func := "mirador/miradorlaw07.StreamKeys", spec := "streamKeys", unfollowed := true, recurses := true, apart := false, narrowed := true }
def StreamKeysUptoSaid : Prop := streamKeysUptoRow.holds Try.pinned (OpenSpec.upto streamKeysSpec)

end Rows
end Go.Proofs.Ytdeljodfanfbmaa
