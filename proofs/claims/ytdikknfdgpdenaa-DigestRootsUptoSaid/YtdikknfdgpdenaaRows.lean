/-
  No cell of these rows narrows 'for every input' (looked for: loops, veiled, ifaces, maps, wideKeys, modest, calm, conditions, laid).
  DERIVED. THE GIVEN ROWS OF THIS SEAT. 12 by the template 'for every input the law returns true; each argument reads behind the call as it read before'; 0 by the template 'total and deterministic' (their statements: YtdikknfdgpdenaaTotals.lean).
  GIVEN WITH THE SEED: the statements are not yours to turn. If you find one false, say at which input.
  Laid BY PROGRAM, IN A SANDBOX (cutbox-rows.mjs): the forced cells as the released guide's own fill.sh prints them over the translation c317031e84eb8fa6… (all of the seat's roots in one cut). By AI agents, Wed Nov 11 2026. No macro, syntax, notation, axiom, sorry.
-/
import Derived.Test.YtdikknfdgpdenaaChecked
import GoSem.Claim
import GoSem.ClaimJoined
import GoSem.ClaimMapViews
import Derived.JoinedTies
import Derived.KernelRfl
namespace Go.Proofs.Ytdikknfdgpdenaa
/- THE CELL 'sum', in the pinned program and in every row, IS THE sha256 OF THE DUMP (.gsa) THAT YtdikknfdgpdenaaProg.lean LOADS. Nothing in Lean hashes anything: it is a label: what it is worth is what the hold of that sum in a sandbox is worth. -/
noncomputable def Try.pinned : Pinned := { name := "ytdikknfdgpdenaa", sum := "c317031e84eb8fa66571a02dcb7c9db9ebb497d0d7b38b527d307fb57fc9b9bd", checked := Try.checked }
namespace Rows
def none {H : Type} : Left H := { results := [], args := [] }

/-- 'miradorlaw01.WordPicks': WHATEVER THE INPUT: true; the input reads as it did. -/
def wordPicksSpec : ChangeSpec := { name := "wordPicks", fn := fun _ => fun
  | [d1, d2, d3] => { results := [.lit (.bool true)], args := [d1, d2, d3] }
  | _ => none }
def wordPicksRow : OpenClaim := { program := "ytdikknfdgpdenaa", sum := "c317031e84eb8fa66571a02dcb7c9db9ebb497d0d7b38b527d307fb57fc9b9bd", func := "mirador/miradorlaw01.WordPicks", spec := "wordPicks", apart := false }
def WordPicksSaid : Prop := wordPicksRow.holds Try.pinned (OpenSpec.ofChange wordPicksSpec)

/-- ITS FALSE NEIGHBOUR: 'it returns false'. Refute it at one input. -/
def wordPicksWrong : ChangeSpec := { name := "wordPicks", fn := fun _ => fun
  | [d1, d2, d3] => { results := [.lit (.bool false)], args := [d1, d2, d3] }
  | _ => none }
def WordPicksWrongFalsely : Prop := wordPicksRow.holds Try.pinned (OpenSpec.ofChange wordPicksWrong)

/-- 'miradorlaw01.WordTurns': WHATEVER THE INPUT: true; the input reads as it did. -/
def wordTurnsSpec : ChangeSpec := { name := "wordTurns", fn := fun _ => fun
  | [d1, d2] => { results := [.lit (.bool true)], args := [d1, d2] }
  | _ => none }
def wordTurnsRow : OpenClaim := { program := "ytdikknfdgpdenaa", sum := "c317031e84eb8fa66571a02dcb7c9db9ebb497d0d7b38b527d307fb57fc9b9bd", func := "mirador/miradorlaw01.WordTurns", spec := "wordTurns", apart := false }
def WordTurnsSaid : Prop := wordTurnsRow.holds Try.pinned (OpenSpec.ofChange wordTurnsSpec)

/-- ITS FALSE NEIGHBOUR: 'it returns false'. Refute it at one input. -/
def wordTurnsWrong : ChangeSpec := { name := "wordTurns", fn := fun _ => fun
  | [d1, d2] => { results := [.lit (.bool false)], args := [d1, d2] }
  | _ => none }
def WordTurnsWrongFalsely : Prop := wordTurnsRow.holds Try.pinned (OpenSpec.ofChange wordTurnsWrong)

/-- 'miradorlaw01.WordBytes': WHATEVER THE INPUT: true; the input reads as it did. -/
def wordBytesSpec : ChangeSpec := { name := "wordBytes", fn := fun _ => fun
  | [d1, d2] => { results := [.lit (.bool true)], args := [d1, d2] }
  | _ => none }
def wordBytesRow : OpenClaim := { program := "ytdikknfdgpdenaa", sum := "c317031e84eb8fa66571a02dcb7c9db9ebb497d0d7b38b527d307fb57fc9b9bd", func := "mirador/miradorlaw01.WordBytes", spec := "wordBytes", apart := false }
def WordBytesSaid : Prop := wordBytesRow.holds Try.pinned (OpenSpec.ofChange wordBytesSpec)

/-- ITS FALSE NEIGHBOUR: 'it returns false'. Refute it at one input. -/
def wordBytesWrong : ChangeSpec := { name := "wordBytes", fn := fun _ => fun
  | [d1, d2] => { results := [.lit (.bool false)], args := [d1, d2] }
  | _ => none }
def WordBytesWrongFalsely : Prop := wordBytesRow.holds Try.pinned (OpenSpec.ofChange wordBytesWrong)

/-- 'miradorlaw02.ShaSums': WHATEVER THE INPUT: true; the input reads as it did. -/
def shaSumsSpec : ChangeSpec := { name := "shaSums", fn := fun _ => fun
  | [d] => { results := [.lit (.bool true)], args := [d] }
  | _ => none }
def shaSumsRow : OpenClaim := { program := "ytdikknfdgpdenaa", sum := "c317031e84eb8fa66571a02dcb7c9db9ebb497d0d7b38b527d307fb57fc9b9bd", func := "mirador/miradorlaw02.ShaSums", spec := "shaSums", apart := false }
def ShaSumsSaid : Prop := shaSumsRow.holds Try.pinned (OpenSpec.ofChange shaSumsSpec)

/-- ITS FALSE NEIGHBOUR: 'it returns false'. Refute it at one input. -/
def shaSumsWrong : ChangeSpec := { name := "shaSums", fn := fun _ => fun
  | [d] => { results := [.lit (.bool false)], args := [d] }
  | _ => none }
def ShaSumsWrongFalsely : Prop := shaSumsRow.holds Try.pinned (OpenSpec.ofChange shaSumsWrong)

/-- 'miradorlaw02.ShaApart': WHATEVER THE INPUT: true; the input reads as it did. -/
def shaApartSpec : ChangeSpec := { name := "shaApart", fn := fun _ => fun
  | [d1, d2, d3] => { results := [.lit (.bool true)], args := [d1, d2, d3] }
  | _ => none }
def shaApartRow : OpenClaim := { program := "ytdikknfdgpdenaa", sum := "c317031e84eb8fa66571a02dcb7c9db9ebb497d0d7b38b527d307fb57fc9b9bd", func := "mirador/miradorlaw02.ShaApart", spec := "shaApart", apart := false }
def ShaApartSaid : Prop := shaApartRow.holds Try.pinned (OpenSpec.ofChange shaApartSpec)

/-- ITS FALSE NEIGHBOUR: 'it returns false'. Refute it at one input. -/
def shaApartWrong : ChangeSpec := { name := "shaApart", fn := fun _ => fun
  | [d1, d2, d3] => { results := [.lit (.bool false)], args := [d1, d2, d3] }
  | _ => none }
def ShaApartWrongFalsely : Prop := shaApartRow.holds Try.pinned (OpenSpec.ofChange shaApartWrong)

/-- 'miradorlaw02.ShaRoots': WHATEVER THE INPUT: true; the input reads as it did. -/
def shaRootsSpec : ChangeSpec := { name := "shaRoots", fn := fun _ => fun
  | [d] => { results := [.lit (.bool true)], args := [d] }
  | _ => none }
def shaRootsRow : OpenClaim := { program := "ytdikknfdgpdenaa", sum := "c317031e84eb8fa66571a02dcb7c9db9ebb497d0d7b38b527d307fb57fc9b9bd", func := "mirador/miradorlaw02.ShaRoots", spec := "shaRoots", apart := false }
def ShaRootsSaid : Prop := shaRootsRow.holds Try.pinned (OpenSpec.ofChange shaRootsSpec)

/-- ITS FALSE NEIGHBOUR: 'it returns false'. Refute it at one input. -/
def shaRootsWrong : ChangeSpec := { name := "shaRoots", fn := fun _ => fun
  | [d] => { results := [.lit (.bool false)], args := [d] }
  | _ => none }
def ShaRootsWrongFalsely : Prop := shaRootsRow.holds Try.pinned (OpenSpec.ofChange shaRootsWrong)

/-- 'miradorlaw03.MacTells': WHATEVER THE INPUT: true; the input reads as it did. -/
def macTellsSpec : ChangeSpec := { name := "macTells", fn := fun _ => fun
  | [d1, d2, d3] => { results := [.lit (.bool true)], args := [d1, d2, d3] }
  | _ => none }
def macTellsRow : OpenClaim := { program := "ytdikknfdgpdenaa", sum := "c317031e84eb8fa66571a02dcb7c9db9ebb497d0d7b38b527d307fb57fc9b9bd", func := "mirador/miradorlaw03.MacTells", spec := "macTells", apart := false }
def MacTellsSaid : Prop := macTellsRow.holds Try.pinned (OpenSpec.ofChange macTellsSpec)

/-- ITS FALSE NEIGHBOUR: 'it returns false'. Refute it at one input. -/
def macTellsWrong : ChangeSpec := { name := "macTells", fn := fun _ => fun
  | [d1, d2, d3] => { results := [.lit (.bool false)], args := [d1, d2, d3] }
  | _ => none }
def MacTellsWrongFalsely : Prop := macTellsRow.holds Try.pinned (OpenSpec.ofChange macTellsWrong)

/-- 'miradorlaw03.MacTurned': WHATEVER THE INPUT: true; the input reads as it did. -/
def macTurnedSpec : ChangeSpec := { name := "macTurned", fn := fun _ => fun
  | [d1, d2, d3] => { results := [.lit (.bool true)], args := [d1, d2, d3] }
  | _ => none }
def macTurnedRow : OpenClaim := { program := "ytdikknfdgpdenaa", sum := "c317031e84eb8fa66571a02dcb7c9db9ebb497d0d7b38b527d307fb57fc9b9bd", func := "mirador/miradorlaw03.MacTurned", spec := "macTurned", apart := false }
def MacTurnedSaid : Prop := macTurnedRow.holds Try.pinned (OpenSpec.ofChange macTurnedSpec)

/-- ITS FALSE NEIGHBOUR: 'it returns false'. Refute it at one input. -/
def macTurnedWrong : ChangeSpec := { name := "macTurned", fn := fun _ => fun
  | [d1, d2, d3] => { results := [.lit (.bool false)], args := [d1, d2, d3] }
  | _ => none }
def MacTurnedWrongFalsely : Prop := macTurnedRow.holds Try.pinned (OpenSpec.ofChange macTurnedWrong)

/-- 'miradorlaw03.MacEqual': WHATEVER THE INPUT: true; the input reads as it did. -/
def macEqualSpec : ChangeSpec := { name := "macEqual", fn := fun _ => fun
  | [d1, d2] => { results := [.lit (.bool true)], args := [d1, d2] }
  | _ => none }
def macEqualRow : OpenClaim := { program := "ytdikknfdgpdenaa", sum := "c317031e84eb8fa66571a02dcb7c9db9ebb497d0d7b38b527d307fb57fc9b9bd", func := "mirador/miradorlaw03.MacEqual", spec := "macEqual", apart := false }
def MacEqualSaid : Prop := macEqualRow.holds Try.pinned (OpenSpec.ofChange macEqualSpec)

/-- ITS FALSE NEIGHBOUR: 'it returns false'. Refute it at one input. -/
def macEqualWrong : ChangeSpec := { name := "macEqual", fn := fun _ => fun
  | [d1, d2] => { results := [.lit (.bool false)], args := [d1, d2] }
  | _ => none }
def MacEqualWrongFalsely : Prop := macEqualRow.holds Try.pinned (OpenSpec.ofChange macEqualWrong)

/-- 'miradorlaw03.MacDerives': WHATEVER THE INPUT: true; the input reads as it did. -/
def macDerivesSpec : ChangeSpec := { name := "macDerives", fn := fun _ => fun
  | [d1, d2, d3] => { results := [.lit (.bool true)], args := [d1, d2, d3] }
  | _ => none }
def macDerivesRow : OpenClaim := { program := "ytdikknfdgpdenaa", sum := "c317031e84eb8fa66571a02dcb7c9db9ebb497d0d7b38b527d307fb57fc9b9bd", func := "mirador/miradorlaw03.MacDerives", spec := "macDerives", apart := false }
def MacDerivesSaid : Prop := macDerivesRow.holds Try.pinned (OpenSpec.ofChange macDerivesSpec)

/-- ITS FALSE NEIGHBOUR: 'it returns false'. Refute it at one input. -/
def macDerivesWrong : ChangeSpec := { name := "macDerives", fn := fun _ => fun
  | [d1, d2, d3] => { results := [.lit (.bool false)], args := [d1, d2, d3] }
  | _ => none }
def MacDerivesWrongFalsely : Prop := macDerivesRow.holds Try.pinned (OpenSpec.ofChange macDerivesWrong)

/-- 'miradorlaw44.DigestRoots': WHATEVER THE INPUT: true; the input reads as it did. -/
def digestRootsSpec : ChangeSpec := { name := "digestRoots", fn := fun _ => fun
  | [d1, d2] => { results := [.lit (.bool true)], args := [d1, d2] }
  | _ => none }
def digestRootsRow : OpenClaim := { program := "ytdikknfdgpdenaa", sum := "c317031e84eb8fa66571a02dcb7c9db9ebb497d0d7b38b527d307fb57fc9b9bd", func := "mirador/miradorlaw44.DigestRoots", spec := "digestRoots", unfollowed := true, recurses := true, apart := false }
def DigestRootsSaid : Prop := digestRootsRow.holds Try.pinned (OpenSpec.ofChange digestRootsSpec)

/-- ITS FALSE NEIGHBOUR: 'it returns false'. Refute it at one input. -/
def digestRootsWrong : ChangeSpec := { name := "digestRoots", fn := fun _ => fun
  | [d1, d2] => { results := [.lit (.bool false)], args := [d1, d2] }
  | _ => none }
def DigestRootsWrongFalsely : Prop := digestRootsRow.holds Try.pinned (OpenSpec.ofChange digestRootsWrong)

/-- 'miradorlaw44.DigestChecks': WHATEVER THE INPUT: true; the input reads as it did. -/
def digestChecksSpec : ChangeSpec := { name := "digestChecks", fn := fun _ => fun
  | [d] => { results := [.lit (.bool true)], args := [d] }
  | _ => none }
def digestChecksRow : OpenClaim := { program := "ytdikknfdgpdenaa", sum := "c317031e84eb8fa66571a02dcb7c9db9ebb497d0d7b38b527d307fb57fc9b9bd", func := "mirador/miradorlaw44.DigestChecks", spec := "digestChecks", unfollowed := true, recurses := true, apart := false }
def DigestChecksSaid : Prop := digestChecksRow.holds Try.pinned (OpenSpec.ofChange digestChecksSpec)

/-- ITS FALSE NEIGHBOUR: 'it returns false'. Refute it at one input. -/
def digestChecksWrong : ChangeSpec := { name := "digestChecks", fn := fun _ => fun
  | [d] => { results := [.lit (.bool false)], args := [d] }
  | _ => none }
def DigestChecksWrongFalsely : Prop := digestChecksRow.holds Try.pinned (OpenSpec.ofChange digestChecksWrong)

/- THE SECOND FORM. 'bulk': how many values and letters a reading holds, each counted each time it is reached (what is shared counts as often as it is met; a slice's spare places count too). A statement '..UptoSaid' is the law's where the arguments, and the package variables that the reading takes, are together of bulk at most 1048576: NARROWER than '..Said'. Prove '..Said' where nothing that the law and all that it calls make is longer than what came in: it says more and counts as full. Else prove '..UptoSaid'. A law counts once. -/
mutual
def uptoBulk {H : Type} : DataW H → Nat
  | .lit (.string bytes) => bytes.length + 1
  | .lit _ => 1
  | .nil => 1
  | .ptr d => uptoBulk d + 1
  | .slice elems spare => uptoBulkAll elems + uptoBulkAll spare + 1
  | .agg parts => uptoBulkAll parts + 1
  | .iface _ d => uptoBulk d + 1
  | .map entries => uptoBulkEntries entries + 1
  | .held _ => 1
def uptoBulkAll {H : Type} : List (DataW H) → Nat
  | [] => 0
  | d :: r => uptoBulk d + uptoBulkAll r
def uptoBulkEntries {H : Type} : List (Lit × DataW H) → Nat
  | [] => 0
  | x :: r => uptoBulkEntry x + uptoBulkEntries r
def uptoBulkEntry {H : Type} : Lit × DataW H → Nat
  | (.string bytes, d) => bytes.length + uptoBulk d + 1
  | (_, d) => uptoBulk d + 1
 end
def uptoSmall : (H : Type) → List (DataW H) → Bool := fun _ ds => decide (uptoBulkAll ds ≤ 1048576)
def OpenSpec.upto (s : _root_.Go.ChangeSpec) : _root_.Go.OpenSpec := { _root_.Go.OpenSpec.ofChange s with cond := some uptoSmall }

/-- 'miradorlaw01.WordPicks', WHERE WHAT IT READS IS OF BULK AT MOST 1048576: true; the input reads as it did. -/
def wordPicksUptoRow : OpenClaim := { program := "ytdikknfdgpdenaa", sum := "c317031e84eb8fa66571a02dcb7c9db9ebb497d0d7b38b527d307fb57fc9b9bd", func := "mirador/miradorlaw01.WordPicks", spec := "wordPicks", apart := false, narrowed := true }
def WordPicksUptoSaid : Prop := wordPicksUptoRow.holds Try.pinned (OpenSpec.upto wordPicksSpec)

/-- 'miradorlaw01.WordTurns', WHERE WHAT IT READS IS OF BULK AT MOST 1048576: true; the input reads as it did. -/
def wordTurnsUptoRow : OpenClaim := { program := "ytdikknfdgpdenaa", sum := "c317031e84eb8fa66571a02dcb7c9db9ebb497d0d7b38b527d307fb57fc9b9bd", func := "mirador/miradorlaw01.WordTurns", spec := "wordTurns", apart := false, narrowed := true }
def WordTurnsUptoSaid : Prop := wordTurnsUptoRow.holds Try.pinned (OpenSpec.upto wordTurnsSpec)

/-- 'miradorlaw01.WordBytes', WHERE WHAT IT READS IS OF BULK AT MOST 1048576: true; the input reads as it did. -/
def wordBytesUptoRow : OpenClaim := { program := "ytdikknfdgpdenaa", sum := "c317031e84eb8fa66571a02dcb7c9db9ebb497d0d7b38b527d307fb57fc9b9bd", func := "mirador/miradorlaw01.WordBytes", spec := "wordBytes", apart := false, narrowed := true }
def WordBytesUptoSaid : Prop := wordBytesUptoRow.holds Try.pinned (OpenSpec.upto wordBytesSpec)

/-- 'miradorlaw02.ShaSums', WHERE WHAT IT READS IS OF BULK AT MOST 1048576: true; the input reads as it did. -/
def shaSumsUptoRow : OpenClaim := { program := "ytdikknfdgpdenaa", sum := "c317031e84eb8fa66571a02dcb7c9db9ebb497d0d7b38b527d307fb57fc9b9bd", func := "mirador/miradorlaw02.ShaSums", spec := "shaSums", apart := false, narrowed := true }
def ShaSumsUptoSaid : Prop := shaSumsUptoRow.holds Try.pinned (OpenSpec.upto shaSumsSpec)

/-- 'miradorlaw02.ShaApart', WHERE WHAT IT READS IS OF BULK AT MOST 1048576: true; the input reads as it did. -/
def shaApartUptoRow : OpenClaim := { program := "ytdikknfdgpdenaa", sum := "c317031e84eb8fa66571a02dcb7c9db9ebb497d0d7b38b527d307fb57fc9b9bd", func := "mirador/miradorlaw02.ShaApart", spec := "shaApart", apart := false, narrowed := true }
def ShaApartUptoSaid : Prop := shaApartUptoRow.holds Try.pinned (OpenSpec.upto shaApartSpec)

/-- 'miradorlaw02.ShaRoots', WHERE WHAT IT READS IS OF BULK AT MOST 1048576: true; the input reads as it did. -/
def shaRootsUptoRow : OpenClaim := { program := "ytdikknfdgpdenaa", sum := "c317031e84eb8fa66571a02dcb7c9db9ebb497d0d7b38b527d307fb57fc9b9bd", func := "mirador/miradorlaw02.ShaRoots", spec := "shaRoots", apart := false, narrowed := true }
def ShaRootsUptoSaid : Prop := shaRootsUptoRow.holds Try.pinned (OpenSpec.upto shaRootsSpec)

/-- 'miradorlaw03.MacTells', WHERE WHAT IT READS IS OF BULK AT MOST 1048576: true; the input reads as it did. -/
def macTellsUptoRow : OpenClaim := { program := "ytdikknfdgpdenaa", sum := "c317031e84eb8fa66571a02dcb7c9db9ebb497d0d7b38b527d307fb57fc9b9bd", func := "mirador/miradorlaw03.MacTells", spec := "macTells", apart := false, narrowed := true }
def MacTellsUptoSaid : Prop := macTellsUptoRow.holds Try.pinned (OpenSpec.upto macTellsSpec)

/-- 'miradorlaw03.MacTurned', WHERE WHAT IT READS IS OF BULK AT MOST 1048576: true; the input reads as it did. -/
def macTurnedUptoRow : OpenClaim := { program := "ytdikknfdgpdenaa", sum := "c317031e84eb8fa66571a02dcb7c9db9ebb497d0d7b38b527d307fb57fc9b9bd", func := "mirador/miradorlaw03.MacTurned", spec := "macTurned", apart := false, narrowed := true }
def MacTurnedUptoSaid : Prop := macTurnedUptoRow.holds Try.pinned (OpenSpec.upto macTurnedSpec)

/-- 'miradorlaw03.MacEqual', WHERE WHAT IT READS IS OF BULK AT MOST 1048576: true; the input reads as it did. -/
def macEqualUptoRow : OpenClaim := { program := "ytdikknfdgpdenaa", sum := "c317031e84eb8fa66571a02dcb7c9db9ebb497d0d7b38b527d307fb57fc9b9bd", func := "mirador/miradorlaw03.MacEqual", spec := "macEqual", apart := false, narrowed := true }
def MacEqualUptoSaid : Prop := macEqualUptoRow.holds Try.pinned (OpenSpec.upto macEqualSpec)

/-- 'miradorlaw03.MacDerives', WHERE WHAT IT READS IS OF BULK AT MOST 1048576: true; the input reads as it did. -/
def macDerivesUptoRow : OpenClaim := { program := "ytdikknfdgpdenaa", sum := "c317031e84eb8fa66571a02dcb7c9db9ebb497d0d7b38b527d307fb57fc9b9bd", func := "mirador/miradorlaw03.MacDerives", spec := "macDerives", apart := false, narrowed := true }
def MacDerivesUptoSaid : Prop := macDerivesUptoRow.holds Try.pinned (OpenSpec.upto macDerivesSpec)

/-- 'miradorlaw44.DigestRoots', WHERE WHAT IT READS IS OF BULK AT MOST 1048576: true; the input reads as it did. -/
def digestRootsUptoRow : OpenClaim := { program := "ytdikknfdgpdenaa", sum := "c317031e84eb8fa66571a02dcb7c9db9ebb497d0d7b38b527d307fb57fc9b9bd", func := "mirador/miradorlaw44.DigestRoots", spec := "digestRoots", unfollowed := true, recurses := true, apart := false, narrowed := true }
def DigestRootsUptoSaid : Prop := digestRootsUptoRow.holds Try.pinned (OpenSpec.upto digestRootsSpec)

/-- 'miradorlaw44.DigestChecks', WHERE WHAT IT READS IS OF BULK AT MOST 1048576: true; the input reads as it did. -/
def digestChecksUptoRow : OpenClaim := { program := "ytdikknfdgpdenaa", sum := "c317031e84eb8fa66571a02dcb7c9db9ebb497d0d7b38b527d307fb57fc9b9bd", func := "mirador/miradorlaw44.DigestChecks", spec := "digestChecks", unfollowed := true, recurses := true, apart := false, narrowed := true }
def DigestChecksUptoSaid : Prop := digestChecksUptoRow.holds Try.pinned (OpenSpec.upto digestChecksSpec)

end Rows
end Go.Proofs.Ytdikknfdgpdenaa
