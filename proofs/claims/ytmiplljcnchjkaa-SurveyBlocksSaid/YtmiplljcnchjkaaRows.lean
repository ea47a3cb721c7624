/-
  No cell of these rows narrows 'for every input' (looked for: loops, veiled, ifaces, maps, wideKeys, modest, calm, conditions, laid).
  DERIVED. THE GIVEN ROWS OF THIS SEAT. 9 by the template 'for every input the law returns true; each argument reads behind the call as it read before'; 0 by the template 'total and deterministic' (their statements: YtmiplljcnchjkaaTotals.lean).
  GIVEN WITH THE SEED: the statements are not yours to turn. If you find one false, say at which input.
  Laid BY PROGRAM, IN A SANDBOX (cutbox-rows.mjs): the forced cells as the released guide's own fill.sh prints them over the translation 44ca3d13bfa94c27… (all of the seat's roots in one cut). By AI agents, Wed Nov 11 2026. No macro, syntax, notation, axiom, sorry.
-/
import Derived.Test.YtmiplljcnchjkaaChecked
import GoSem.Claim
import GoSem.ClaimJoined
import GoSem.ClaimMapViews
import Derived.JoinedTies
import Derived.KernelRfl
namespace Go.Proofs.Ytmiplljcnchjkaa
/- THE CELL 'sum', in the pinned program and in every row, IS THE sha256 OF THE DUMP (.gsa) THAT YtmiplljcnchjkaaProg.lean LOADS. Nothing in Lean hashes anything: it is a label: what it is worth is what the hold of that sum in a sandbox is worth. -/
noncomputable def Try.pinned : Pinned := { name := "ytmiplljcnchjkaa", sum := "44ca3d13bfa94c27c0f4a588f6668bbf85f2dea477cd9d5c77f09a1144834cc4", checked := Try.checked }
namespace Rows
def none {H : Type} : Left H := { results := [], args := [] }

/-- 'theodolitelaw05.RootTells': WHATEVER THE INPUT: true; the input reads as it did. -/
def rootTellsSpec : ChangeSpec := { name := "rootTells", fn := fun _ => fun
  | [d] => { results := [.lit (.bool true)], args := [d] }
  | _ => none }
def rootTellsRow : OpenClaim := { program := "ytmiplljcnchjkaa", sum := "44ca3d13bfa94c27c0f4a588f6668bbf85f2dea477cd9d5c77f09a1144834cc4", func := "theodolite/theodolitelaw05.RootTells", spec := "rootTells", inPlace := ["math/bits.Sub64", "math/bits.Add64"], apart := false }
def RootTellsSaid : Prop := rootTellsRow.holds Try.pinned (OpenSpec.ofChange rootTellsSpec)

/-- ITS FALSE NEIGHBOUR: 'it returns false'. Refute it at one input. -/
def rootTellsWrong : ChangeSpec := { name := "rootTells", fn := fun _ => fun
  | [d] => { results := [.lit (.bool false)], args := [d] }
  | _ => none }
def RootTellsWrongFalsely : Prop := rootTellsRow.holds Try.pinned (OpenSpec.ofChange rootTellsWrong)

/-- 'theodolitelaw05.RootWide': WHATEVER THE INPUT: true; the input reads as it did. -/
def rootWideSpec : ChangeSpec := { name := "rootWide", fn := fun _ => fun
  | [d] => { results := [.lit (.bool true)], args := [d] }
  | _ => none }
def rootWideRow : OpenClaim := { program := "ytmiplljcnchjkaa", sum := "44ca3d13bfa94c27c0f4a588f6668bbf85f2dea477cd9d5c77f09a1144834cc4", func := "theodolite/theodolitelaw05.RootWide", spec := "rootWide", inPlace := ["math/bits.Sub64", "math/bits.Add64"], apart := false }
def RootWideSaid : Prop := rootWideRow.holds Try.pinned (OpenSpec.ofChange rootWideSpec)

/-- ITS FALSE NEIGHBOUR: 'it returns false'. Refute it at one input. -/
def rootWideWrong : ChangeSpec := { name := "rootWide", fn := fun _ => fun
  | [d] => { results := [.lit (.bool false)], args := [d] }
  | _ => none }
def RootWideWrongFalsely : Prop := rootWideRow.holds Try.pinned (OpenSpec.ofChange rootWideWrong)

/-- 'theodolitelaw05.RootHypot': WHATEVER THE INPUT: true; the input reads as it did. -/
def rootHypotSpec : ChangeSpec := { name := "rootHypot", fn := fun _ => fun
  | [d1, d2] => { results := [.lit (.bool true)], args := [d1, d2] }
  | _ => none }
def rootHypotRow : OpenClaim := { program := "ytmiplljcnchjkaa", sum := "44ca3d13bfa94c27c0f4a588f6668bbf85f2dea477cd9d5c77f09a1144834cc4", func := "theodolite/theodolitelaw05.RootHypot", spec := "rootHypot", inPlace := ["math/bits.Sub64", "math/bits.Add64"], apart := false }
def RootHypotSaid : Prop := rootHypotRow.holds Try.pinned (OpenSpec.ofChange rootHypotSpec)

/-- ITS FALSE NEIGHBOUR: 'it returns false'. Refute it at one input. -/
def rootHypotWrong : ChangeSpec := { name := "rootHypot", fn := fun _ => fun
  | [d1, d2] => { results := [.lit (.bool false)], args := [d1, d2] }
  | _ => none }
def RootHypotWrongFalsely : Prop := rootHypotRow.holds Try.pinned (OpenSpec.ofChange rootHypotWrong)

/-- 'theodolitelaw05.RootPowers': WHATEVER THE INPUT: true; the input reads as it did. -/
def rootPowersSpec : ChangeSpec := { name := "rootPowers", fn := fun _ => fun
  | [d1, d2] => { results := [.lit (.bool true)], args := [d1, d2] }
  | _ => none }
def rootPowersRow : OpenClaim := { program := "ytmiplljcnchjkaa", sum := "44ca3d13bfa94c27c0f4a588f6668bbf85f2dea477cd9d5c77f09a1144834cc4", func := "theodolite/theodolitelaw05.RootPowers", spec := "rootPowers", inPlace := ["math/bits.Sub64", "math/bits.Add64"], apart := false }
def RootPowersSaid : Prop := rootPowersRow.holds Try.pinned (OpenSpec.ofChange rootPowersSpec)

/-- ITS FALSE NEIGHBOUR: 'it returns false'. Refute it at one input. -/
def rootPowersWrong : ChangeSpec := { name := "rootPowers", fn := fun _ => fun
  | [d1, d2] => { results := [.lit (.bool false)], args := [d1, d2] }
  | _ => none }
def RootPowersWrongFalsely : Prop := rootPowersRow.holds Try.pinned (OpenSpec.ofChange rootPowersWrong)

/-- 'theodolitelaw05.RootGcd': WHATEVER THE INPUT: true; the input reads as it did. -/
def rootGcdSpec : ChangeSpec := { name := "rootGcd", fn := fun _ => fun
  | [d1, d2] => { results := [.lit (.bool true)], args := [d1, d2] }
  | _ => none }
def rootGcdRow : OpenClaim := { program := "ytmiplljcnchjkaa", sum := "44ca3d13bfa94c27c0f4a588f6668bbf85f2dea477cd9d5c77f09a1144834cc4", func := "theodolite/theodolitelaw05.RootGcd", spec := "rootGcd", inPlace := ["math/bits.Sub64", "math/bits.Add64"], apart := false }
def RootGcdSaid : Prop := rootGcdRow.holds Try.pinned (OpenSpec.ofChange rootGcdSpec)

/-- ITS FALSE NEIGHBOUR: 'it returns false'. Refute it at one input. -/
def rootGcdWrong : ChangeSpec := { name := "rootGcd", fn := fun _ => fun
  | [d1, d2] => { results := [.lit (.bool false)], args := [d1, d2] }
  | _ => none }
def RootGcdWrongFalsely : Prop := rootGcdRow.holds Try.pinned (OpenSpec.ofChange rootGcdWrong)

/-- 'theodolitelaw38.SurveyBlocks': WHATEVER THE INPUT: true; the input reads as it did. -/
def surveyBlocksSpec : ChangeSpec := { name := "surveyBlocks", fn := fun _ => fun
  | [d1, d2, d3, d4] => { results := [.lit (.bool true)], args := [d1, d2, d3, d4] }
  | _ => none }
def surveyBlocksRow : OpenClaim := { program := "ytmiplljcnchjkaa", sum := "44ca3d13bfa94c27c0f4a588f6668bbf85f2dea477cd9d5c77f09a1144834cc4", func := "theodolite/theodolitelaw38.SurveyBlocks", spec := "surveyBlocks", inPlace := ["math/bits.Sub64"], unfollowed := true, recurses := true, named := ["math/bits.divideError", "math/bits.overflowError"], apart := false }
def SurveyBlocksSaid : Prop := surveyBlocksRow.holds Try.pinned (OpenSpec.ofChange surveyBlocksSpec)

/-- ITS FALSE NEIGHBOUR: 'it returns false'. Refute it at one input. -/
def surveyBlocksWrong : ChangeSpec := { name := "surveyBlocks", fn := fun _ => fun
  | [d1, d2, d3, d4] => { results := [.lit (.bool false)], args := [d1, d2, d3, d4] }
  | _ => none }
def SurveyBlocksWrongFalsely : Prop := surveyBlocksRow.holds Try.pinned (OpenSpec.ofChange surveyBlocksWrong)

/-- 'theodolitelaw38.SurveyInfo': WHATEVER THE INPUT: true; the input reads as it did. -/
def surveyInfoSpec : ChangeSpec := { name := "surveyInfo", fn := fun _ => fun
  | [d1, d2, d3] => { results := [.lit (.bool true)], args := [d1, d2, d3] }
  | _ => none }
def surveyInfoRow : OpenClaim := { program := "ytmiplljcnchjkaa", sum := "44ca3d13bfa94c27c0f4a588f6668bbf85f2dea477cd9d5c77f09a1144834cc4", func := "theodolite/theodolitelaw38.SurveyInfo", spec := "surveyInfo", inPlace := ["math/bits.Sub64"], unfollowed := true, recurses := true, named := ["math/bits.divideError", "math/bits.overflowError"], apart := false }
def SurveyInfoSaid : Prop := surveyInfoRow.holds Try.pinned (OpenSpec.ofChange surveyInfoSpec)

/-- ITS FALSE NEIGHBOUR: 'it returns false'. Refute it at one input. -/
def surveyInfoWrong : ChangeSpec := { name := "surveyInfo", fn := fun _ => fun
  | [d1, d2, d3] => { results := [.lit (.bool false)], args := [d1, d2, d3] }
  | _ => none }
def SurveyInfoWrongFalsely : Prop := surveyInfoRow.holds Try.pinned (OpenSpec.ofChange surveyInfoWrong)

/-- 'theodolitelaw38.SurveyRanks': WHATEVER THE INPUT: true; the input reads as it did. -/
def surveyRanksSpec : ChangeSpec := { name := "surveyRanks", fn := fun _ => fun
  | [d1, d2] => { results := [.lit (.bool true)], args := [d1, d2] }
  | _ => none }
def surveyRanksRow : OpenClaim := { program := "ytmiplljcnchjkaa", sum := "44ca3d13bfa94c27c0f4a588f6668bbf85f2dea477cd9d5c77f09a1144834cc4", func := "theodolite/theodolitelaw38.SurveyRanks", spec := "surveyRanks", inPlace := ["math/bits.Sub64"], unfollowed := true, recurses := true, named := ["math/bits.divideError", "math/bits.overflowError"], apart := false }
def SurveyRanksSaid : Prop := surveyRanksRow.holds Try.pinned (OpenSpec.ofChange surveyRanksSpec)

/-- ITS FALSE NEIGHBOUR: 'it returns false'. Refute it at one input. -/
def surveyRanksWrong : ChangeSpec := { name := "surveyRanks", fn := fun _ => fun
  | [d1, d2] => { results := [.lit (.bool false)], args := [d1, d2] }
  | _ => none }
def SurveyRanksWrongFalsely : Prop := surveyRanksRow.holds Try.pinned (OpenSpec.ofChange surveyRanksWrong)

/-- 'theodolitelaw38.SurveyPicks': WHATEVER THE INPUT: true; the input reads as it did. -/
def surveyPicksSpec : ChangeSpec := { name := "surveyPicks", fn := fun _ => fun
  | [d1, d2, d3] => { results := [.lit (.bool true)], args := [d1, d2, d3] }
  | _ => none }
def surveyPicksRow : OpenClaim := { program := "ytmiplljcnchjkaa", sum := "44ca3d13bfa94c27c0f4a588f6668bbf85f2dea477cd9d5c77f09a1144834cc4", func := "theodolite/theodolitelaw38.SurveyPicks", spec := "surveyPicks", inPlace := ["math/bits.Sub64"], unfollowed := true, recurses := true, named := ["math/bits.divideError", "math/bits.overflowError"], apart := false }
def SurveyPicksSaid : Prop := surveyPicksRow.holds Try.pinned (OpenSpec.ofChange surveyPicksSpec)

/-- ITS FALSE NEIGHBOUR: 'it returns false'. Refute it at one input. -/
def surveyPicksWrong : ChangeSpec := { name := "surveyPicks", fn := fun _ => fun
  | [d1, d2, d3] => { results := [.lit (.bool false)], args := [d1, d2, d3] }
  | _ => none }
def SurveyPicksWrongFalsely : Prop := surveyPicksRow.holds Try.pinned (OpenSpec.ofChange surveyPicksWrong)

/- THE SECOND FORM. 'bulk': how many values and letters a reading holds, each counted each time it is reached (what is shared counts as often as it is met; a slice's spare places count too). A statement '..UptoSaid' is the law's where the arguments, and the package variables that the reading takes, are together of bulk at most 1048576: NARROWER than '..Said'. Prove '..Said' where nothing that the law and all that it calls make is longer than what came in: it says more and counts as full. Else prove '..UptoSaid'. A law counts once. -/
mutual
def uptoBulk {H : Type} : DataW H → Nat
  | .lit (.string bytes) => bytes.length + 1
  | .lit _ => 1
  | .nil => 1
  | .ptr d => uptoBulk d + 1
  | .slice elems spare => uptoBulkAll elems + uptoBulkAll spare + 1
  | .agg parts => uptoBulkAll parts + 1
  | .iface _ d => uptoBulk d + 1
  | .map entries => uptoBulkEntries entries + 1
  | .held _ => 1
def uptoBulkAll {H : Type} : List (DataW H) → Nat
  | [] => 0
  | d :: r => uptoBulk d + uptoBulkAll r
def uptoBulkEntries {H : Type} : List (Lit × DataW H) → Nat
  | [] => 0
  | x :: r => uptoBulkEntry x + uptoBulkEntries r
def uptoBulkEntry {H : Type} : Lit × DataW H → Nat
  | (.string bytes, d) => bytes.length + uptoBulk d + 1
  | (_, d) => uptoBulk d + 1
 end
def uptoSmall : (H : Type) → List (DataW H) → Bool := fun _ ds => decide (uptoBulkAll ds ≤ 1048576)
def OpenSpec.upto (s : _root_.Go.ChangeSpec) : _root_.Go.OpenSpec := { _root_.Go.OpenSpec.ofChange s with cond := some uptoSmall }

/-- 'theodolitelaw05.RootTells', WHERE WHAT IT READS IS OF BULK AT MOST 1048576: true; the input reads as it did. -/
def rootTellsUptoRow : OpenClaim := { program := "ytmiplljcnchjkaa", sum := "44ca3d13bfa94c27c0f4a588f6668bbf85f2dea477cd9d5c77f09a1144834cc4", func := "theodolite/theodolitelaw05.RootTells", spec := "rootTells", inPlace := ["math/bits.Sub64", "math/bits.Add64"], apart := false, narrowed := true }
def RootTellsUptoSaid : Prop := rootTellsUptoRow.holds Try.pinned (OpenSpec.upto rootTellsSpec)

/-- 'theodolitelaw05.RootWide', WHERE WHAT IT READS IS OF BULK AT MOST 1048576: true; the input reads as it did. -/
def rootWideUptoRow : OpenClaim := { program := "ytmiplljcnchjkaa", sum := "44ca3d13bfa94c27c0f4a588f6668bbf85f2dea477cd9d5c77f09a1144834cc4", func := "theodolite/theodolitelaw05.RootWide", spec := "rootWide", inPlace := ["math/bits.Sub64", "math/bits.Add64"], apart := false, narrowed := true }
def RootWideUptoSaid : Prop := rootWideUptoRow.holds Try.pinned (OpenSpec.upto rootWideSpec)

/-- 'theodolitelaw05.RootHypot', WHERE WHAT IT READS IS OF BULK AT MOST 1048576: true; the input reads as it did. -/
def rootHypotUptoRow : OpenClaim := { program := "ytmiplljcnchjkaa", sum := "44ca3d13bfa94c27c0f4a588f6668bbf85f2dea477cd9d5c77f09a1144834cc4", func := "theodolite/theodolitelaw05.RootHypot", spec := "rootHypot", inPlace := ["math/bits.Sub64", "math/bits.Add64"], apart := false, narrowed := true }
def RootHypotUptoSaid : Prop := rootHypotUptoRow.holds Try.pinned (OpenSpec.upto rootHypotSpec)

/-- 'theodolitelaw05.RootPowers', WHERE WHAT IT READS IS OF BULK AT MOST 1048576: true; the input reads as it did. -/
def rootPowersUptoRow : OpenClaim := { program := "ytmiplljcnchjkaa", sum := "44ca3d13bfa94c27c0f4a588f6668bbf85f2dea477cd9d5c77f09a1144834cc4", func := "theodolite/theodolitelaw05.RootPowers", spec := "rootPowers", inPlace := ["math/bits.Sub64", "math/bits.Add64"], apart := false, narrowed := true }
def RootPowersUptoSaid : Prop := rootPowersUptoRow.holds Try.pinned (OpenSpec.upto rootPowersSpec)

/-- 'theodolitelaw05.RootGcd', WHERE WHAT IT READS IS OF BULK AT MOST 1048576: true; the input reads as it did. -/
def rootGcdUptoRow : OpenClaim := { program := "ytmiplljcnchjkaa", sum := "44ca3d13bfa94c27c0f4a588f6668bbf85f2dea477cd9d5c77f09a1144834cc4", func := "theodolite/theodolitelaw05.RootGcd", spec := "rootGcd", inPlace := ["math/bits.Sub64", "math/bits.Add64"], apart := false, narrowed := true }
def RootGcdUptoSaid : Prop := rootGcdUptoRow.holds Try.pinned (OpenSpec.upto rootGcdSpec)

/-- 'theodolitelaw38.SurveyBlocks', WHERE WHAT IT READS IS OF BULK AT MOST 1048576: true; the input reads as it did. -/
def surveyBlocksUptoRow : OpenClaim := { program := "ytmiplljcnchjkaa", sum := "44ca3d13bfa94c27c0f4a588f6668bbf85f2dea477cd9d5c77f09a1144834cc4", func := "theodolite/theodolitelaw38.SurveyBlocks", spec := "surveyBlocks", inPlace := ["math/bits.Sub64"], unfollowed := true, recurses := true, named := ["math/bits.divideError", "math/bits.overflowError"], apart := false, narrowed := true }
def SurveyBlocksUptoSaid : Prop := surveyBlocksUptoRow.holds Try.pinned (OpenSpec.upto surveyBlocksSpec)

/-- 'theodolitelaw38.SurveyInfo', WHERE WHAT IT READS IS OF BULK AT MOST 1048576: true; the input reads as it did. -/
def surveyInfoUptoRow : OpenClaim := { program := "ytmiplljcnchjkaa", sum := "44ca3d13bfa94c27c0f4a588f6668bbf85f2dea477cd9d5c77f09a1144834cc4", func := "theodolite/theodolitelaw38.SurveyInfo", spec := "surveyInfo", inPlace := ["math/bits.Sub64"], unfollowed := true, recurses := true, named := ["math/bits.divideError", "math/bits.overflowError"], apart := false, narrowed := true }
def SurveyInfoUptoSaid : Prop := surveyInfoUptoRow.holds Try.pinned (OpenSpec.upto surveyInfoSpec)

/-- 'theodolitelaw38.SurveyRanks', WHERE WHAT IT READS IS OF BULK AT MOST 1048576: true; the input reads as it did. -/
def surveyRanksUptoRow : OpenClaim := { program := "ytmiplljcnchjkaa", sum := "44ca3d13bfa94c27c0f4a588f6668bbf85f2dea477cd9d5c77f09a1144834cc4", func := "theodolite/theodolitelaw38.SurveyRanks", spec := "surveyRanks", inPlace := ["math/bits.Sub64"], unfollowed := true, recurses := true, named := ["math/bits.divideError", "math/bits.overflowError"], apart := false, narrowed := true }
def SurveyRanksUptoSaid : Prop := surveyRanksUptoRow.holds Try.pinned (OpenSpec.upto surveyRanksSpec)

/-- 'theodolitelaw38.SurveyPicks', WHERE WHAT IT READS IS OF BULK AT MOST 1048576: true; the input reads as it did. -/
def surveyPicksUptoRow : OpenClaim := { program := "ytmiplljcnchjkaa", sum := "44ca3d13bfa94c27c0f4a588f6668bbf85f2dea477cd9d5c77f09a1144834cc4", func := "theodolite/theodolitelaw38.SurveyPicks", spec := "surveyPicks", inPlace := ["math/bits.Sub64"], unfollowed := true, recurses := true, named := ["math/bits.divideError", "math/bits.overflowError"], apart := false, narrowed := true }
def SurveyPicksUptoSaid : Prop := surveyPicksUptoRow.holds Try.pinned (OpenSpec.upto surveyPicksSpec)

end Rows
end Go.Proofs.Ytmiplljcnchjkaa
