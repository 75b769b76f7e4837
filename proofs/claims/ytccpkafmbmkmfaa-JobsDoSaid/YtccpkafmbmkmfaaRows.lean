/-
  No cell of these rows narrows 'for every input' (looked for: loops, veiled, ifaces, maps, wideKeys, modest, calm, conditions, laid).
  DERIVED. THE GIVEN ROWS OF THIS SEAT. 10 by the template 'for every input the law returns true; each argument reads behind the call as it read before'; 0 by the template 'total and deterministic' (their statements: YtccpkafmbmkmfaaTotals.lean).
  GIVEN WITH THE SEED: the statements are not yours to turn. If you find one false, say at which input.
  Laid BY PROGRAM, IN A SANDBOX (cutbox-rows.mjs): the forced cells as the released guide's own fill.sh prints them over the translation bb7db8c079889ea9… (all of the seat's roots in one cut). By AI agents, Wed Nov 11 2026. No macro, syntax, notation, axiom, sorry.
-/
import Derived.Test.YtccpkafmbmkmfaaChecked
import GoSem.Claim
import GoSem.ClaimJoined
import GoSem.ClaimMapViews
import Derived.JoinedTies
import Derived.KernelRfl
namespace Go.Proofs.Ytccpkafmbmkmfaa
/- THE CELL 'sum', in the pinned program and in every row, IS THE sha256 OF THE DUMP (.gsa) THAT YtccpkafmbmkmfaaProg.lean LOADS. Nothing in Lean hashes anything: it is a label: what it is worth is what the hold of that sum in a sandbox is worth. -/
noncomputable def Try.pinned : Pinned := { name := "ytccpkafmbmkmfaa", sum := "bb7db8c079889ea98c0bb9f909c463593827e351df9d6be6daf859b04f77f8d6", checked := Try.checked }
namespace Rows
def none {H : Type} : Left H := { results := [], args := [] }

/-- 'miradorlaw28.TierTells': WHATEVER THE INPUT: true; the input reads as it did. -/
def tierTellsSpec : ChangeSpec := { name := "tierTells", fn := fun _ => fun
  | [d] => { results := [.lit (.bool true)], args := [d] }
  | _ => none }
def tierTellsRow : OpenClaim := { program := "ytccpkafmbmkmfaa", sum := "bb7db8c079889ea98c0bb9f909c463593827e351df9d6be6daf859b04f77f8d6", func := "mirador/miradorlaw28.TierTells", spec := "tierTells", plainKeys := false, apart := false }
def TierTellsSaid : Prop := tierTellsRow.holds Try.pinned (OpenSpec.ofChange tierTellsSpec)

/-- ITS FALSE NEIGHBOUR: 'it returns false'. Refute it at one input. -/
def tierTellsWrong : ChangeSpec := { name := "tierTells", fn := fun _ => fun
  | [d] => { results := [.lit (.bool false)], args := [d] }
  | _ => none }
def TierTellsWrongFalsely : Prop := tierTellsRow.holds Try.pinned (OpenSpec.ofChange tierTellsWrong)

/-- 'miradorlaw28.TierRises': WHATEVER THE INPUT: true; the input reads as it did. -/
def tierRisesSpec : ChangeSpec := { name := "tierRises", fn := fun _ => fun
  | [d1, d2] => { results := [.lit (.bool true)], args := [d1, d2] }
  | _ => none }
def tierRisesRow : OpenClaim := { program := "ytccpkafmbmkmfaa", sum := "bb7db8c079889ea98c0bb9f909c463593827e351df9d6be6daf859b04f77f8d6", func := "mirador/miradorlaw28.TierRises", spec := "tierRises", unfollowed := true, recurses := true, plainKeys := false, apart := false }
def TierRisesSaid : Prop := tierRisesRow.holds Try.pinned (OpenSpec.ofChange tierRisesSpec)

/-- ITS FALSE NEIGHBOUR: 'it returns false'. Refute it at one input. -/
def tierRisesWrong : ChangeSpec := { name := "tierRises", fn := fun _ => fun
  | [d1, d2] => { results := [.lit (.bool false)], args := [d1, d2] }
  | _ => none }
def TierRisesWrongFalsely : Prop := tierRisesRow.holds Try.pinned (OpenSpec.ofChange tierRisesWrong)

/-- 'miradorlaw24.HintsEach': WHATEVER THE INPUT: true; the input reads as it did. -/
def hintsEachSpec : ChangeSpec := { name := "hintsEach", fn := fun _ => fun
  | [d1, d2] => { results := [.lit (.bool true)], args := [d1, d2] }
  | _ => none }
def hintsEachRow : OpenClaim := { program := "ytccpkafmbmkmfaa", sum := "bb7db8c079889ea98c0bb9f909c463593827e351df9d6be6daf859b04f77f8d6", func := "mirador/miradorlaw24.HintsEach", spec := "hintsEach", unfollowed := true, recurses := true, plainKeys := false, apart := false }
def HintsEachSaid : Prop := hintsEachRow.holds Try.pinned (OpenSpec.ofChange hintsEachSpec)

/-- ITS FALSE NEIGHBOUR: 'it returns false'. Refute it at one input. -/
def hintsEachWrong : ChangeSpec := { name := "hintsEach", fn := fun _ => fun
  | [d1, d2] => { results := [.lit (.bool false)], args := [d1, d2] }
  | _ => none }
def HintsEachWrongFalsely : Prop := hintsEachRow.holds Try.pinned (OpenSpec.ofChange hintsEachWrong)

/-- 'miradorlaw24.HintsGone': WHATEVER THE INPUT: true; the input reads as it did. -/
def hintsGoneSpec : ChangeSpec := { name := "hintsGone", fn := fun _ => fun
  | [d1, d2] => { results := [.lit (.bool true)], args := [d1, d2] }
  | _ => none }
def hintsGoneRow : OpenClaim := { program := "ytccpkafmbmkmfaa", sum := "bb7db8c079889ea98c0bb9f909c463593827e351df9d6be6daf859b04f77f8d6", func := "mirador/miradorlaw24.HintsGone", spec := "hintsGone", unfollowed := true, recurses := true, plainKeys := false, apart := false }
def HintsGoneSaid : Prop := hintsGoneRow.holds Try.pinned (OpenSpec.ofChange hintsGoneSpec)

/-- ITS FALSE NEIGHBOUR: 'it returns false'. Refute it at one input. -/
def hintsGoneWrong : ChangeSpec := { name := "hintsGone", fn := fun _ => fun
  | [d1, d2] => { results := [.lit (.bool false)], args := [d1, d2] }
  | _ => none }
def HintsGoneWrongFalsely : Prop := hintsGoneRow.holds Try.pinned (OpenSpec.ofChange hintsGoneWrong)

/-- 'miradorlaw24.HintsDo': WHATEVER THE INPUT: true; the input reads as it did. -/
def hintsDoSpec : ChangeSpec := { name := "hintsDo", fn := fun _ => fun
  | [d] => { results := [.lit (.bool true)], args := [d] }
  | _ => none }
def hintsDoRow : OpenClaim := { program := "ytccpkafmbmkmfaa", sum := "bb7db8c079889ea98c0bb9f909c463593827e351df9d6be6daf859b04f77f8d6", func := "mirador/miradorlaw24.HintsDo", spec := "hintsDo", unfollowed := true, recurses := true, plainKeys := false, apart := false }
def HintsDoSaid : Prop := hintsDoRow.holds Try.pinned (OpenSpec.ofChange hintsDoSpec)

/-- ITS FALSE NEIGHBOUR: 'it returns false'. Refute it at one input. -/
def hintsDoWrong : ChangeSpec := { name := "hintsDo", fn := fun _ => fun
  | [d] => { results := [.lit (.bool false)], args := [d] }
  | _ => none }
def HintsDoWrongFalsely : Prop := hintsDoRow.holds Try.pinned (OpenSpec.ofChange hintsDoWrong)

/-- 'miradorlaw24.HintsNil': WHATEVER THE INPUT: true; the input reads as it did. -/
def hintsNilSpec : ChangeSpec := { name := "hintsNil", fn := fun _ => fun
  | [d1, d2] => { results := [.lit (.bool true)], args := [d1, d2] }
  | _ => none }
def hintsNilRow : OpenClaim := { program := "ytccpkafmbmkmfaa", sum := "bb7db8c079889ea98c0bb9f909c463593827e351df9d6be6daf859b04f77f8d6", func := "mirador/miradorlaw24.HintsNil", spec := "hintsNil", unfollowed := true, recurses := true, plainKeys := false, apart := false }
def HintsNilSaid : Prop := hintsNilRow.holds Try.pinned (OpenSpec.ofChange hintsNilSpec)

/-- ITS FALSE NEIGHBOUR: 'it returns false'. Refute it at one input. -/
def hintsNilWrong : ChangeSpec := { name := "hintsNil", fn := fun _ => fun
  | [d1, d2] => { results := [.lit (.bool false)], args := [d1, d2] }
  | _ => none }
def HintsNilWrongFalsely : Prop := hintsNilRow.holds Try.pinned (OpenSpec.ofChange hintsNilWrong)

/-- 'miradorlaw29.JobsApart': WHATEVER THE INPUT: true; the input reads as it did. -/
def jobsApartSpec : ChangeSpec := { name := "jobsApart", fn := fun _ => fun
  | [d] => { results := [.lit (.bool true)], args := [d] }
  | _ => none }
def jobsApartRow : OpenClaim := { program := "ytccpkafmbmkmfaa", sum := "bb7db8c079889ea98c0bb9f909c463593827e351df9d6be6daf859b04f77f8d6", func := "mirador/miradorlaw29.JobsApart", spec := "jobsApart", unfollowed := true, recurses := true, plainKeys := false, apart := false }
def JobsApartSaid : Prop := jobsApartRow.holds Try.pinned (OpenSpec.ofChange jobsApartSpec)

/-- ITS FALSE NEIGHBOUR: 'it returns false'. Refute it at one input. -/
def jobsApartWrong : ChangeSpec := { name := "jobsApart", fn := fun _ => fun
  | [d] => { results := [.lit (.bool false)], args := [d] }
  | _ => none }
def JobsApartWrongFalsely : Prop := jobsApartRow.holds Try.pinned (OpenSpec.ofChange jobsApartWrong)

/-- 'miradorlaw29.JobsLive': WHATEVER THE INPUT: true; the input reads as it did. -/
def jobsLiveSpec : ChangeSpec := { name := "jobsLive", fn := fun _ => fun
  | [d1, d2, d3] => { results := [.lit (.bool true)], args := [d1, d2, d3] }
  | _ => none }
def jobsLiveRow : OpenClaim := { program := "ytccpkafmbmkmfaa", sum := "bb7db8c079889ea98c0bb9f909c463593827e351df9d6be6daf859b04f77f8d6", func := "mirador/miradorlaw29.JobsLive", spec := "jobsLive", unfollowed := true, recurses := true, plainKeys := false, apart := false }
def JobsLiveSaid : Prop := jobsLiveRow.holds Try.pinned (OpenSpec.ofChange jobsLiveSpec)

/-- ITS FALSE NEIGHBOUR: 'it returns false'. Refute it at one input. -/
def jobsLiveWrong : ChangeSpec := { name := "jobsLive", fn := fun _ => fun
  | [d1, d2, d3] => { results := [.lit (.bool false)], args := [d1, d2, d3] }
  | _ => none }
def JobsLiveWrongFalsely : Prop := jobsLiveRow.holds Try.pinned (OpenSpec.ofChange jobsLiveWrong)

/-- 'miradorlaw29.JobsNil': WHATEVER THE INPUT: true; the input reads as it did. -/
def jobsNilSpec : ChangeSpec := { name := "jobsNil", fn := fun _ => fun
  | [d1, d2, d3] => { results := [.lit (.bool true)], args := [d1, d2, d3] }
  | _ => none }
def jobsNilRow : OpenClaim := { program := "ytccpkafmbmkmfaa", sum := "bb7db8c079889ea98c0bb9f909c463593827e351df9d6be6daf859b04f77f8d6", func := "mirador/miradorlaw29.JobsNil", spec := "jobsNil", unfollowed := true, recurses := true, plainKeys := false, apart := false }
def JobsNilSaid : Prop := jobsNilRow.holds Try.pinned (OpenSpec.ofChange jobsNilSpec)

/-- ITS FALSE NEIGHBOUR: 'it returns false'. Refute it at one input. -/
def jobsNilWrong : ChangeSpec := { name := "jobsNil", fn := fun _ => fun
  | [d1, d2, d3] => { results := [.lit (.bool false)], args := [d1, d2, d3] }
  | _ => none }
def JobsNilWrongFalsely : Prop := jobsNilRow.holds Try.pinned (OpenSpec.ofChange jobsNilWrong)

/-- 'miradorlaw29.JobsDo': WHATEVER THE INPUT: true; the input reads as it did. -/
def jobsDoSpec : ChangeSpec := { name := "jobsDo", fn := fun _ => fun
  | [d] => { results := [.lit (.bool true)], args := [d] }
  | _ => none }
def jobsDoRow : OpenClaim := { program := "ytccpkafmbmkmfaa", sum := "bb7db8c079889ea98c0bb9f909c463593827e351df9d6be6daf859b04f77f8d6", func := "mirador/miradorlaw29.JobsDo", spec := "jobsDo", unfollowed := true, recurses := true, plainKeys := false, apart := false }
def JobsDoSaid : Prop := jobsDoRow.holds Try.pinned (OpenSpec.ofChange jobsDoSpec)

/-- ITS FALSE NEIGHBOUR: 'it returns false'. Refute it at one input. -/
def jobsDoWrong : ChangeSpec := { name := "jobsDo", fn := fun _ => fun
  | [d] => { results := [.lit (.bool false)], args := [d] }
  | _ => none }
def JobsDoWrongFalsely : Prop := jobsDoRow.holds Try.pinned (OpenSpec.ofChange jobsDoWrong)

/- THE SECOND FORM. 'bulk': how many values and letters a reading holds, each counted each time it is reached (what is shared counts as often as it is met; a slice's spare places count too). A statement '..UptoSaid' is the law's where the arguments, and the package variables that the reading takes, are together of bulk at most 1048576: NARROWER than '..Said'. Prove '..Said' where nothing that the law and all that it calls make is longer than what came in: it says more and counts as full. Else prove '..UptoSaid'. A law counts once. -/
mutual
def uptoBulk {H : Type} : DataW H → Nat
  | .lit (.string bytes) => bytes.length + 1
  | .lit _ => 1
  | .nil => 1
  | .ptr d => uptoBulk d + 1
  | .slice elems spare => uptoBulkAll elems + uptoBulkAll spare + 1
  | .agg parts => uptoBulkAll parts + 1
  | .iface _ d => uptoBulk d + 1
  | .map entries => uptoBulkEntries entries + 1
  | .held _ => 1
def uptoBulkAll {H : Type} : List (DataW H) → Nat
  | [] => 0
  | d :: r => uptoBulk d + uptoBulkAll r
def uptoBulkEntries {H : Type} : List (Lit × DataW H) → Nat
  | [] => 0
  | x :: r => uptoBulkEntry x + uptoBulkEntries r
def uptoBulkEntry {H : Type} : Lit × DataW H → Nat
  | (.string bytes, d) => bytes.length + uptoBulk d + 1
  | (_, d) => uptoBulk d + 1
 end
def uptoSmall : (H : Type) → List (DataW H) → Bool := fun _ ds => decide (uptoBulkAll ds ≤ 1048576)
def OpenSpec.upto (s : _root_.Go.ChangeSpec) : _root_.Go.OpenSpec := { _root_.Go.OpenSpec.ofChange s with cond := some uptoSmall }

/-- 'miradorlaw28.TierTells', WHERE WHAT IT READS IS OF BULK AT MOST 1048576: true; the input reads as it did. -/
def tierTellsUptoRow : OpenClaim := { program := "ytccpkafmbmkmfaa", sum := "bb7db8c079889ea98c0bb9f909c463593827e351df9d6be6daf859b04f77f8d6", func := "mirador/miradorlaw28.TierTells", spec := "tierTells", plainKeys := false, apart := false, narrowed := true }
def TierTellsUptoSaid : Prop := tierTellsUptoRow.holds Try.pinned (OpenSpec.upto tierTellsSpec)

/-- 'miradorlaw28.TierRises', WHERE WHAT IT READS IS OF BULK AT MOST 1048576: true; the input reads as it did. -/
def tierRisesUptoRow : OpenClaim := { program := "ytccpkafmbmkmfaa", sum := "bb7db8c079889ea98c0bb9f909c463593827e351df9d6be6daf859b04f77f8d6", func := "mirador/miradorlaw28.TierRises", spec := "tierRises", unfollowed := true, recurses := true, plainKeys := false, apart := false, narrowed := true }
def TierRisesUptoSaid : Prop := tierRisesUptoRow.holds Try.pinned (OpenSpec.upto tierRisesSpec)

/-- 'miradorlaw24.HintsEach', WHERE WHAT IT READS IS OF BULK AT MOST 1048576: true; the input reads as it did. -/
def hintsEachUptoRow : OpenClaim := { program := "ytccpkafmbmkmfaa", sum := "bb7db8c079889ea98c0bb9f909c463593827e351df9d6be6daf859b04f77f8d6", func := "mirador/miradorlaw24.HintsEach", spec := "hintsEach", unfollowed := true, recurses := true, plainKeys := false, apart := false, narrowed := true }
def HintsEachUptoSaid : Prop := hintsEachUptoRow.holds Try.pinned (OpenSpec.upto hintsEachSpec)

/-- 'miradorlaw24.HintsGone', WHERE WHAT IT READS IS OF BULK AT MOST 1048576: true; the input reads as it did. -/
def hintsGoneUptoRow : OpenClaim := { program := "ytccpkafmbmkmfaa", sum := "bb7db8c079889ea98c0bb9f909c463593827e351df9d6be6daf859b04f77f8d6", func := "mirador/miradorlaw24.HintsGone", spec := "hintsGone", unfollowed := true, recurses := true, plainKeys := false, apart := false, narrowed := true }
def HintsGoneUptoSaid : Prop := hintsGoneUptoRow.holds Try.pinned (OpenSpec.upto hintsGoneSpec)

/-- 'miradorlaw24.HintsDo', WHERE WHAT IT READS IS OF BULK AT MOST 1048576: true; the input reads as it did. -/
def hintsDoUptoRow : OpenClaim := { program := "ytccpkafmbmkmfaa", sum := "bb7db8c079889ea98c0bb9f909c463593827e351df9d6be6daf859b04f77f8d6", func := "mirador/miradorlaw24.HintsDo", spec := "hintsDo", unfollowed := true, recurses := true, plainKeys := false, apart := false, narrowed := true }
def HintsDoUptoSaid : Prop := hintsDoUptoRow.holds Try.pinned (OpenSpec.upto hintsDoSpec)

/-- 'miradorlaw24.HintsNil', WHERE WHAT IT READS IS OF BULK AT MOST 1048576: true; the input reads as it did. -/
def hintsNilUptoRow : OpenClaim := { program := "ytccpkafmbmkmfaa", sum := "bb7db8c079889ea98c0bb9f909c463593827e351df9d6be6daf859b04f77f8d6", func := "mirador/miradorlaw24.HintsNil", spec := "hintsNil", unfollowed := true, recurses := true, plainKeys := false, apart := false, narrowed := true }
def HintsNilUptoSaid : Prop := hintsNilUptoRow.holds Try.pinned (OpenSpec.upto hintsNilSpec)

/-- 'miradorlaw29.JobsApart', WHERE WHAT IT READS IS OF BULK AT MOST 1048576: true; the input reads as it did. -/
def jobsApartUptoRow : OpenClaim := { program := "ytccpkafmbmkmfaa", sum := "bb7db8c079889ea98c0bb9f909c463593827e351df9d6be6daf859b04f77f8d6", func := "mirador/miradorlaw29.JobsApart", spec := "jobsApart", unfollowed := true, recurses := true, plainKeys := false, apart := false, narrowed := true }
def JobsApartUptoSaid : Prop := jobsApartUptoRow.holds Try.pinned (OpenSpec.upto jobsApartSpec)

/-- 'miradorlaw29.JobsLive', WHERE WHAT IT READS IS OF BULK AT MOST 1048576: true; the input reads as it did. -/
def jobsLiveUptoRow : OpenClaim := { program := "ytccpkafmbmkmfaa", sum := "bb7db8c079889ea98c0bb9f909c463593827e351df9d6be6daf859b04f77f8d6", func := "mirador/miradorlaw29.JobsLive", spec := "jobsLive", unfollowed := true, recurses := true, plainKeys := false, apart := false, narrowed := true }
def JobsLiveUptoSaid : Prop := jobsLiveUptoRow.holds Try.pinned (OpenSpec.upto jobsLiveSpec)

/-- 'miradorlaw29.JobsNil', WHERE WHAT IT READS IS OF BULK AT MOST 1048576: true; the input reads as it did. -/
def jobsNilUptoRow : OpenClaim := { program := "ytccpkafmbmkmfaa", sum := "bb7db8c079889ea98c0bb9f909c463593827e351df9d6be6daf859b04f77f8d6", func := "mirador/miradorlaw29.JobsNil", spec := "jobsNil", unfollowed := true, recurses := true, plainKeys := false, apart := false, narrowed := true }
def JobsNilUptoSaid : Prop := jobsNilUptoRow.holds Try.pinned (OpenSpec.upto jobsNilSpec)

/-- 'miradorlaw29.JobsDo', WHERE WHAT IT READS IS OF BULK AT MOST 1048576: true; the input reads as it did. -/
def jobsDoUptoRow : OpenClaim := { program := "ytccpkafmbmkmfaa", sum := "bb7db8c079889ea98c0bb9f909c463593827e351df9d6be6daf859b04f77f8d6", func := "mirador/miradorlaw29.JobsDo", spec := "jobsDo", unfollowed := true, recurses := true, plainKeys := false, apart := false, narrowed := true }
def JobsDoUptoSaid : Prop := jobsDoUptoRow.holds Try.pinned (OpenSpec.upto jobsDoSpec)

end Rows
end Go.Proofs.Ytccpkafmbmkmfaa
