/-
  No cell of these rows narrows 'for every input' (looked for: loops, veiled, ifaces, maps, wideKeys, modest, calm, conditions, laid).
  DERIVED. THE GIVEN ROWS OF THIS SEAT. 9 by the template 'for every input the law returns true; each argument reads behind the call as it read before'; 0 by the template 'total and deterministic' (their statements: YtijijfggppnbpaaTotals.lean).
  GIVEN WITH THE SEED: the statements are not yours to turn. If you find one false, say at which input.
  Laid BY PROGRAM, IN A SANDBOX (cutbox-rows.mjs): the forced cells as the released guide's own fill.sh prints them over the translation 5d914d434358e92f… (all of the seat's roots in one cut). By AI agents, Wed Nov 11 2026. No macro, syntax, notation, axiom, sorry.
-/
import Derived.Test.YtijijfggppnbpaaChecked
import GoSem.Claim
import GoSem.ClaimJoined
import GoSem.ClaimMapViews
import Derived.JoinedTies
import Derived.KernelRfl
namespace Go.Proofs.Ytijijfggppnbpaa
/- THE CELL 'sum', in the pinned program and in every row, IS THE sha256 OF THE DUMP (.gsa) THAT YtijijfggppnbpaaProg.lean LOADS. Nothing in Lean hashes anything: it is a label: what it is worth is what the hold of that sum in a sandbox is worth. -/
noncomputable def Try.pinned : Pinned := { name := "ytijijfggppnbpaa", sum := "5d914d434358e92f7a1319c4c1ad3b66cf4c13a67da4771fc50af86aeae0951f", checked := Try.checked }
namespace Rows
def none {H : Type} : Left H := { results := [], args := [] }

/-- 'theodolitelaw12.FramePuts': WHATEVER THE INPUT: true; the input reads as it did. -/
def framePutsSpec : ChangeSpec := { name := "framePuts", fn := fun _ => fun
  | [d] => { results := [.lit (.bool true)], args := [d] }
  | _ => none }
def framePutsRow : OpenClaim := { program := "ytijijfggppnbpaa", sum := "5d914d434358e92f7a1319c4c1ad3b66cf4c13a67da4771fc50af86aeae0951f", func := "theodolite/theodolitelaw12.FramePuts", spec := "framePuts", unfollowed := true, recurses := true, apart := false }
def FramePutsSaid : Prop := framePutsRow.holds Try.pinned (OpenSpec.ofChange framePutsSpec)

/-- ITS FALSE NEIGHBOUR: 'it returns false'. Refute it at one input. -/
def framePutsWrong : ChangeSpec := { name := "framePuts", fn := fun _ => fun
  | [d] => { results := [.lit (.bool false)], args := [d] }
  | _ => none }
def FramePutsWrongFalsely : Prop := framePutsRow.holds Try.pinned (OpenSpec.ofChange framePutsWrong)

/-- 'theodolitelaw12.FrameFirsts': WHATEVER THE INPUT: true; the input reads as it did. -/
def frameFirstsSpec : ChangeSpec := { name := "frameFirsts", fn := fun _ => fun
  | [d] => { results := [.lit (.bool true)], args := [d] }
  | _ => none }
def frameFirstsRow : OpenClaim := { program := "ytijijfggppnbpaa", sum := "5d914d434358e92f7a1319c4c1ad3b66cf4c13a67da4771fc50af86aeae0951f", func := "theodolite/theodolitelaw12.FrameFirsts", spec := "frameFirsts", unfollowed := true, recurses := true, apart := false }
def FrameFirstsSaid : Prop := frameFirstsRow.holds Try.pinned (OpenSpec.ofChange frameFirstsSpec)

/-- ITS FALSE NEIGHBOUR: 'it returns false'. Refute it at one input. -/
def frameFirstsWrong : ChangeSpec := { name := "frameFirsts", fn := fun _ => fun
  | [d] => { results := [.lit (.bool false)], args := [d] }
  | _ => none }
def FrameFirstsWrongFalsely : Prop := frameFirstsRow.holds Try.pinned (OpenSpec.ofChange frameFirstsWrong)

/-- 'theodolitelaw12.FrameFinds': WHATEVER THE INPUT: true; the input reads as it did. -/
def frameFindsSpec : ChangeSpec := { name := "frameFinds", fn := fun _ => fun
  | [d] => { results := [.lit (.bool true)], args := [d] }
  | _ => none }
def frameFindsRow : OpenClaim := { program := "ytijijfggppnbpaa", sum := "5d914d434358e92f7a1319c4c1ad3b66cf4c13a67da4771fc50af86aeae0951f", func := "theodolite/theodolitelaw12.FrameFinds", spec := "frameFinds", unfollowed := true, recurses := true, apart := false }
def FrameFindsSaid : Prop := frameFindsRow.holds Try.pinned (OpenSpec.ofChange frameFindsSpec)

/-- ITS FALSE NEIGHBOUR: 'it returns false'. Refute it at one input. -/
def frameFindsWrong : ChangeSpec := { name := "frameFinds", fn := fun _ => fun
  | [d] => { results := [.lit (.bool false)], args := [d] }
  | _ => none }
def FrameFindsWrongFalsely : Prop := frameFindsRow.holds Try.pinned (OpenSpec.ofChange frameFindsWrong)

/-- 'theodolitelaw12.FrameFeeds': WHATEVER THE INPUT: true; the input reads as it did. -/
def frameFeedsSpec : ChangeSpec := { name := "frameFeeds", fn := fun _ => fun
  | [d1, d2] => { results := [.lit (.bool true)], args := [d1, d2] }
  | _ => none }
def frameFeedsRow : OpenClaim := { program := "ytijijfggppnbpaa", sum := "5d914d434358e92f7a1319c4c1ad3b66cf4c13a67da4771fc50af86aeae0951f", func := "theodolite/theodolitelaw12.FrameFeeds", spec := "frameFeeds", unfollowed := true, recurses := true, apart := false }
def FrameFeedsSaid : Prop := frameFeedsRow.holds Try.pinned (OpenSpec.ofChange frameFeedsSpec)

/-- ITS FALSE NEIGHBOUR: 'it returns false'. Refute it at one input. -/
def frameFeedsWrong : ChangeSpec := { name := "frameFeeds", fn := fun _ => fun
  | [d1, d2] => { results := [.lit (.bool false)], args := [d1, d2] }
  | _ => none }
def FrameFeedsWrongFalsely : Prop := frameFeedsRow.holds Try.pinned (OpenSpec.ofChange frameFeedsWrong)

/-- 'theodolitelaw42.TextNumbers': WHATEVER THE INPUT: true; the input reads as it did. -/
def textNumbersSpec : ChangeSpec := { name := "textNumbers", fn := fun _ => fun
  | [d1, d2, d3] => { results := [.lit (.bool true)], args := [d1, d2, d3] }
  | _ => none }
def textNumbersRow : OpenClaim := { program := "ytijijfggppnbpaa", sum := "5d914d434358e92f7a1319c4c1ad3b66cf4c13a67da4771fc50af86aeae0951f", func := "theodolite/theodolitelaw42.TextNumbers", spec := "textNumbers", recurses := true, apart := false }
def TextNumbersSaid : Prop := textNumbersRow.holds Try.pinned (OpenSpec.ofChange textNumbersSpec)

/-- ITS FALSE NEIGHBOUR: 'it returns false'. Refute it at one input. -/
def textNumbersWrong : ChangeSpec := { name := "textNumbers", fn := fun _ => fun
  | [d1, d2, d3] => { results := [.lit (.bool false)], args := [d1, d2, d3] }
  | _ => none }
def TextNumbersWrongFalsely : Prop := textNumbersRow.holds Try.pinned (OpenSpec.ofChange textNumbersWrong)

/-- 'theodolitelaw42.TextPuts': WHATEVER THE INPUT: true; the input reads as it did. -/
def textPutsSpec : ChangeSpec := { name := "textPuts", fn := fun _ => fun
  | [d] => { results := [.lit (.bool true)], args := [d] }
  | _ => none }
def textPutsRow : OpenClaim := { program := "ytijijfggppnbpaa", sum := "5d914d434358e92f7a1319c4c1ad3b66cf4c13a67da4771fc50af86aeae0951f", func := "theodolite/theodolitelaw42.TextPuts", spec := "textPuts", recurses := true, apart := false }
def TextPutsSaid : Prop := textPutsRow.holds Try.pinned (OpenSpec.ofChange textPutsSpec)

/-- ITS FALSE NEIGHBOUR: 'it returns false'. Refute it at one input. -/
def textPutsWrong : ChangeSpec := { name := "textPuts", fn := fun _ => fun
  | [d] => { results := [.lit (.bool false)], args := [d] }
  | _ => none }
def TextPutsWrongFalsely : Prop := textPutsRow.holds Try.pinned (OpenSpec.ofChange textPutsWrong)

/-- 'theodolitelaw42.TextOne': WHATEVER THE INPUT: true; the input reads as it did. -/
def textOneSpec : ChangeSpec := { name := "textOne", fn := fun _ => fun
  | [d] => { results := [.lit (.bool true)], args := [d] }
  | _ => none }
def textOneRow : OpenClaim := { program := "ytijijfggppnbpaa", sum := "5d914d434358e92f7a1319c4c1ad3b66cf4c13a67da4771fc50af86aeae0951f", func := "theodolite/theodolitelaw42.TextOne", spec := "textOne", recurses := true, apart := false }
def TextOneSaid : Prop := textOneRow.holds Try.pinned (OpenSpec.ofChange textOneSpec)

/-- ITS FALSE NEIGHBOUR: 'it returns false'. Refute it at one input. -/
def textOneWrong : ChangeSpec := { name := "textOne", fn := fun _ => fun
  | [d] => { results := [.lit (.bool false)], args := [d] }
  | _ => none }
def TextOneWrongFalsely : Prop := textOneRow.holds Try.pinned (OpenSpec.ofChange textOneWrong)

/-- 'theodolitelaw30.RecorderDoes': WHATEVER THE INPUT: true; the input reads as it did. -/
def recorderDoesSpec : ChangeSpec := { name := "recorderDoes", fn := fun _ => fun
  | [d1, d2, d3] => { results := [.lit (.bool true)], args := [d1, d2, d3] }
  | _ => none }
def recorderDoesRow : OpenClaim := { program := "ytijijfggppnbpaa", sum := "5d914d434358e92f7a1319c4c1ad3b66cf4c13a67da4771fc50af86aeae0951f", func := "theodolite/theodolitelaw30.RecorderDoes", spec := "recorderDoes", unfollowed := true, recurses := true, apart := false }
def RecorderDoesSaid : Prop := recorderDoesRow.holds Try.pinned (OpenSpec.ofChange recorderDoesSpec)

/-- ITS FALSE NEIGHBOUR: 'it returns false'. Refute it at one input. -/
def recorderDoesWrong : ChangeSpec := { name := "recorderDoes", fn := fun _ => fun
  | [d1, d2, d3] => { results := [.lit (.bool false)], args := [d1, d2, d3] }
  | _ => none }
def RecorderDoesWrongFalsely : Prop := recorderDoesRow.holds Try.pinned (OpenSpec.ofChange recorderDoesWrong)

/-- 'theodolitelaw30.RecorderBack': WHATEVER THE INPUT: true; the input reads as it did. -/
def recorderBackSpec : ChangeSpec := { name := "recorderBack", fn := fun _ => fun
  | [d1, d2, d3, d4] => { results := [.lit (.bool true)], args := [d1, d2, d3, d4] }
  | _ => none }
def recorderBackRow : OpenClaim := { program := "ytijijfggppnbpaa", sum := "5d914d434358e92f7a1319c4c1ad3b66cf4c13a67da4771fc50af86aeae0951f", func := "theodolite/theodolitelaw30.RecorderBack", spec := "recorderBack", unfollowed := true, recurses := true, apart := false }
def RecorderBackSaid : Prop := recorderBackRow.holds Try.pinned (OpenSpec.ofChange recorderBackSpec)

/-- ITS FALSE NEIGHBOUR: 'it returns false'. Refute it at one input. -/
def recorderBackWrong : ChangeSpec := { name := "recorderBack", fn := fun _ => fun
  | [d1, d2, d3, d4] => { results := [.lit (.bool false)], args := [d1, d2, d3, d4] }
  | _ => none }
def RecorderBackWrongFalsely : Prop := recorderBackRow.holds Try.pinned (OpenSpec.ofChange recorderBackWrong)

/- THE SECOND FORM. 'bulk': how many values and letters a reading holds, each counted each time it is reached (what is shared counts as often as it is met; a slice's spare places count too). A statement '..UptoSaid' is the law's where the arguments, and the package variables that the reading takes, are together of bulk at most 1048576: NARROWER than '..Said'. Prove '..Said' where nothing that the law and all that it calls make is longer than what came in: it says more and counts as full. Else prove '..UptoSaid'. A law counts once. -/
mutual
def uptoBulk {H : Type} : DataW H → Nat
  | .lit (.string bytes) => bytes.length + 1
  | .lit _ => 1
  | .nil => 1
  | .ptr d => uptoBulk d + 1
  | .slice elems spare => uptoBulkAll elems + uptoBulkAll spare + 1
  | .agg parts => uptoBulkAll parts + 1
  | .iface _ d => uptoBulk d + 1
  | .map entries => uptoBulkEntries entries + 1
  | .held _ => 1
def uptoBulkAll {H : Type} : List (DataW H) → Nat
  | [] => 0
  | d :: r => uptoBulk d + uptoBulkAll r
def uptoBulkEntries {H : Type} : List (Lit × DataW H) → Nat
  | [] => 0
  | x :: r => uptoBulkEntry x + uptoBulkEntries r
def uptoBulkEntry {H : Type} : Lit × DataW H → Nat
  | (.string bytes, d) => bytes.length + uptoBulk d + 1
  | (_, d) => uptoBulk d + 1
 end
def uptoSmall : (H : Type) → List (DataW H) → Bool := fun _ ds => decide (uptoBulkAll ds ≤ 1048576)
def OpenSpec.upto (s : _root_.Go.ChangeSpec) : _root_.Go.OpenSpec := { _root_.Go.OpenSpec.ofChange s with cond := some uptoSmall }

/-- 'theodolitelaw12.FramePuts', WHERE WHAT IT READS IS OF BULK AT MOST 1048576: true; the input reads as it did. -/
def framePutsUptoRow : OpenClaim := { program := "ytijijfggppnbpaa", sum := "5d914d434358e92f7a1319c4c1ad3b66cf4c13a67da4771fc50af86aeae0951f", func := "theodolite/theodolitelaw12.FramePuts", spec := "framePuts", unfollowed := true, recurses := true, apart := false, narrowed := true }
def FramePutsUptoSaid : Prop := framePutsUptoRow.holds Try.pinned (OpenSpec.upto framePutsSpec)

/-- 'theodolitelaw12.FrameFirsts', WHERE WHAT IT READS IS OF BULK AT MOST 1048576: true; the input reads as it did. -/
def frameFirstsUptoRow : OpenClaim := { program := "ytijijfggppnbpaa", sum := "5d914d434358e92f7a1319c4c1ad3b66cf4c13a67da4771fc50af86aeae0951f", func := "theodolite/theodolitelaw12.FrameFirsts", spec := "frameFirsts", unfollowed := true, recurses := true, apart := false, narrowed := true }
def FrameFirstsUptoSaid : Prop := frameFirstsUptoRow.holds Try.pinned (OpenSpec.upto frameFirstsSpec)

/-- 'theodolitelaw12.FrameFinds', WHERE WHAT IT READS IS OF BULK AT MOST 1048576: true; the input reads as it did. -/
def frameFindsUptoRow : OpenClaim := { program := "ytijijfggppnbpaa", sum := "5d914d434358e92f7a1319c4c1ad3b66cf4c13a67da4771fc50af86aeae0951f", func := "theodolite/theodolitelaw12.FrameFinds", spec := "frameFinds", unfollowed := true, recurses := true, apart := false, narrowed := true }
def FrameFindsUptoSaid : Prop := frameFindsUptoRow.holds Try.pinned (OpenSpec.upto frameFindsSpec)

/-- 'theodolitelaw12.FrameFeeds', WHERE WHAT IT READS IS OF BULK AT MOST 1048576: true; the input reads as it did. -/
def frameFeedsUptoRow : OpenClaim := { program := "ytijijfggppnbpaa", sum := "5d914d434358e92f7a1319c4c1ad3b66cf4c13a67da4771fc50af86aeae0951f", func := "theodolite/theodolitelaw12.FrameFeeds", spec := "frameFeeds", unfollowed := true, recurses := true, apart := false, narrowed := true }
def FrameFeedsUptoSaid : Prop := frameFeedsUptoRow.holds Try.pinned (OpenSpec.upto frameFeedsSpec)

/-- 'theodolitelaw42.TextNumbers', WHERE WHAT IT READS IS OF BULK AT MOST 1048576: true; the input reads as it did. -/
def textNumbersUptoRow : OpenClaim := { program := "ytijijfggppnbpaa", sum := "5d914d434358e92f7a1319c4c1ad3b66cf4c13a67da4771fc50af86aeae0951f", func := "theodolite/theodolitelaw42.TextNumbers", spec := "textNumbers", recurses := true, apart := false, narrowed := true }
def TextNumbersUptoSaid : Prop := textNumbersUptoRow.holds Try.pinned (OpenSpec.upto textNumbersSpec)

/-- 'theodolitelaw42.TextPuts', WHERE WHAT IT READS IS OF BULK AT MOST 1048576: true; the input reads as it did. -/
def textPutsUptoRow : OpenClaim := { program := "ytijijfggppnbpaa", sum := "5d914d434358e92f7a1319c4c1ad3b66cf4c13a67da4771fc50af86aeae0951f", func := "theodolite/theodolitelaw42.TextPuts", spec := "textPuts", recurses := true, apart := false, narrowed := true }
def TextPutsUptoSaid : Prop := textPutsUptoRow.holds Try.pinned (OpenSpec.upto textPutsSpec)

/-- 'theodolitelaw42.TextOne', WHERE WHAT IT READS IS OF BULK AT MOST 1048576: true; the input reads as it did. -/
def textOneUptoRow : OpenClaim := { program := "ytijijfggppnbpaa", sum := "5d914d434358e92f7a1319c4c1ad3b66cf4c13a67da4771fc50af86aeae0951f", func := "theodolite/theodolitelaw42.TextOne", spec := "textOne", recurses := true, apart := false, narrowed := true }
def TextOneUptoSaid : Prop := textOneUptoRow.holds Try.pinned (OpenSpec.upto textOneSpec)

/-- 'theodolitelaw30.RecorderDoes', WHERE WHAT IT READS IS OF BULK AT MOST 1048576: true; the input reads as it did. -/
def recorderDoesUptoRow : OpenClaim := { program := "ytijijfggppnbpaa", sum := "5d914d434358e92f7a1319c4c1ad3b66cf4c13a67da4771fc50af86aeae0951f", func := "theodolite/theodolitelaw30.RecorderDoes", spec := "recorderDoes", unfollowed := true, recurses := true, apart := false, narrowed := true }
def RecorderDoesUptoSaid : Prop := recorderDoesUptoRow.holds Try.pinned (OpenSpec.upto recorderDoesSpec)

/-- 'theodolitelaw30.RecorderBack', WHERE WHAT IT READS IS OF BULK AT MOST 1048576: true; the input reads as it did. -/
def recorderBackUptoRow : OpenClaim := { program := "ytijijfggppnbpaa", sum := "5d914d434358e92f7a1319c4c1ad3b66cf4c13a67da4771fc50af86aeae0951f", func := "theodolite/theodolitelaw30.RecorderBack", spec := "recorderBack", unfollowed := true, recurses := true, apart := false, narrowed := true }
def RecorderBackUptoSaid : Prop := recorderBackUptoRow.holds Try.pinned (OpenSpec.upto recorderBackSpec)

end Rows
end Go.Proofs.Ytijijfggppnbpaa
