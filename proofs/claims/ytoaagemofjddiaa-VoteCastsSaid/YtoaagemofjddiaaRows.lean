/-
  No cell of these rows narrows 'for every input' (looked for: loops, veiled, ifaces, maps, wideKeys, modest, calm, conditions, laid).
  DERIVED. THE GIVEN ROWS OF THIS SEAT. 8 by the template 'for every input the law returns true; each argument reads behind the call as it read before'; 0 by the template 'total and deterministic' (their statements: YtoaagemofjddiaaTotals.lean).
  GIVEN WITH THE SEED: the statements are not yours to turn. If you find one false, say at which input.
  Laid BY PROGRAM, IN A SANDBOX (cutbox-rows.mjs): the forced cells as the released guide's own fill.sh prints them over the translation 839a922a6005ce56… (all of the seat's roots in one cut). By AI agents, Wed Nov 11 2026. No macro, syntax, notation, axiom, sorry.
-/
import Derived.Test.YtoaagemofjddiaaChecked
import GoSem.Claim
import GoSem.ClaimJoined
import GoSem.ClaimMapViews
import Derived.JoinedTies
import Derived.KernelRfl
namespace Go.Proofs.Ytoaagemofjddiaa
/- THE CELL 'sum', in the pinned program and in every row, IS THE sha256 OF THE DUMP (.gsa) THAT YtoaagemofjddiaaProg.lean LOADS. Nothing in Lean hashes anything: it is a label: what it is worth is what the hold of that sum in a sandbox is worth. -/
noncomputable def Try.pinned : Pinned := { name := "ytoaagemofjddiaa", sum := "839a922a6005ce564463d1c1be37c180a411913559e948ad269d5a4a41eb8006", checked := Try.checked }
namespace Rows
def none {H : Type} : Left H := { results := [], args := [] }

/-- 'theodolitelaw36.PyramidCells': WHATEVER THE INPUT: true; the input reads as it did. -/
def pyramidCellsSpec : ChangeSpec := { name := "pyramidCells", fn := fun _ => fun
  | [d1, d2, d3, d4, d5, d6, d7] => { results := [.lit (.bool true)], args := [d1, d2, d3, d4, d5, d6, d7] }
  | _ => none }
def pyramidCellsRow : OpenClaim := { program := "ytoaagemofjddiaa", sum := "839a922a6005ce564463d1c1be37c180a411913559e948ad269d5a4a41eb8006", func := "theodolite/theodolitelaw36.PyramidCells", spec := "pyramidCells", unfollowed := true, recurses := true, apart := false }
def PyramidCellsSaid : Prop := pyramidCellsRow.holds Try.pinned (OpenSpec.ofChange pyramidCellsSpec)

/-- ITS FALSE NEIGHBOUR: 'it returns false'. Refute it at one input. -/
def pyramidCellsWrong : ChangeSpec := { name := "pyramidCells", fn := fun _ => fun
  | [d1, d2, d3, d4, d5, d6, d7] => { results := [.lit (.bool false)], args := [d1, d2, d3, d4, d5, d6, d7] }
  | _ => none }
def PyramidCellsWrongFalsely : Prop := pyramidCellsRow.holds Try.pinned (OpenSpec.ofChange pyramidCellsWrong)

/-- 'theodolitelaw36.PyramidOver': WHATEVER THE INPUT: true; the input reads as it did. -/
def pyramidOverSpec : ChangeSpec := { name := "pyramidOver", fn := fun _ => fun
  | [d1, d2, d3, d4, d5] => { results := [.lit (.bool true)], args := [d1, d2, d3, d4, d5] }
  | _ => none }
def pyramidOverRow : OpenClaim := { program := "ytoaagemofjddiaa", sum := "839a922a6005ce564463d1c1be37c180a411913559e948ad269d5a4a41eb8006", func := "theodolite/theodolitelaw36.PyramidOver", spec := "pyramidOver", unfollowed := true, recurses := true, apart := false }
def PyramidOverSaid : Prop := pyramidOverRow.holds Try.pinned (OpenSpec.ofChange pyramidOverSpec)

/-- ITS FALSE NEIGHBOUR: 'it returns false'. Refute it at one input. -/
def pyramidOverWrong : ChangeSpec := { name := "pyramidOver", fn := fun _ => fun
  | [d1, d2, d3, d4, d5] => { results := [.lit (.bool false)], args := [d1, d2, d3, d4, d5] }
  | _ => none }
def PyramidOverWrongFalsely : Prop := pyramidOverRow.holds Try.pinned (OpenSpec.ofChange pyramidOverWrong)

/-- 'theodolitelaw36.PyramidFew': WHATEVER THE INPUT: true; the input reads as it did. -/
def pyramidFewSpec : ChangeSpec := { name := "pyramidFew", fn := fun _ => fun
  | [d1, d2, d3, d4] => { results := [.lit (.bool true)], args := [d1, d2, d3, d4] }
  | _ => none }
def pyramidFewRow : OpenClaim := { program := "ytoaagemofjddiaa", sum := "839a922a6005ce564463d1c1be37c180a411913559e948ad269d5a4a41eb8006", func := "theodolite/theodolitelaw36.PyramidFew", spec := "pyramidFew", unfollowed := true, recurses := true, apart := false }
def PyramidFewSaid : Prop := pyramidFewRow.holds Try.pinned (OpenSpec.ofChange pyramidFewSpec)

/-- ITS FALSE NEIGHBOUR: 'it returns false'. Refute it at one input. -/
def pyramidFewWrong : ChangeSpec := { name := "pyramidFew", fn := fun _ => fun
  | [d1, d2, d3, d4] => { results := [.lit (.bool false)], args := [d1, d2, d3, d4] }
  | _ => none }
def PyramidFewWrongFalsely : Prop := pyramidFewRow.holds Try.pinned (OpenSpec.ofChange pyramidFewWrong)

/-- 'theodolitelaw36.PyramidJoins': WHATEVER THE INPUT: true; the input reads as it did. -/
def pyramidJoinsSpec : ChangeSpec := { name := "pyramidJoins", fn := fun _ => fun
  | [d1, d2, d3, d4, d5] => { results := [.lit (.bool true)], args := [d1, d2, d3, d4, d5] }
  | _ => none }
def pyramidJoinsRow : OpenClaim := { program := "ytoaagemofjddiaa", sum := "839a922a6005ce564463d1c1be37c180a411913559e948ad269d5a4a41eb8006", func := "theodolite/theodolitelaw36.PyramidJoins", spec := "pyramidJoins", unfollowed := true, recurses := true, apart := false }
def PyramidJoinsSaid : Prop := pyramidJoinsRow.holds Try.pinned (OpenSpec.ofChange pyramidJoinsSpec)

/-- ITS FALSE NEIGHBOUR: 'it returns false'. Refute it at one input. -/
def pyramidJoinsWrong : ChangeSpec := { name := "pyramidJoins", fn := fun _ => fun
  | [d1, d2, d3, d4, d5] => { results := [.lit (.bool false)], args := [d1, d2, d3, d4, d5] }
  | _ => none }
def PyramidJoinsWrongFalsely : Prop := pyramidJoinsRow.holds Try.pinned (OpenSpec.ofChange pyramidJoinsWrong)

/-- 'theodolitelaw36.PyramidAbove': WHATEVER THE INPUT: true; the input reads as it did. -/
def pyramidAboveSpec : ChangeSpec := { name := "pyramidAbove", fn := fun _ => fun
  | [d1, d2, d3, d4] => { results := [.lit (.bool true)], args := [d1, d2, d3, d4] }
  | _ => none }
def pyramidAboveRow : OpenClaim := { program := "ytoaagemofjddiaa", sum := "839a922a6005ce564463d1c1be37c180a411913559e948ad269d5a4a41eb8006", func := "theodolite/theodolitelaw36.PyramidAbove", spec := "pyramidAbove", unfollowed := true, recurses := true, apart := false }
def PyramidAboveSaid : Prop := pyramidAboveRow.holds Try.pinned (OpenSpec.ofChange pyramidAboveSpec)

/-- ITS FALSE NEIGHBOUR: 'it returns false'. Refute it at one input. -/
def pyramidAboveWrong : ChangeSpec := { name := "pyramidAbove", fn := fun _ => fun
  | [d1, d2, d3, d4] => { results := [.lit (.bool false)], args := [d1, d2, d3, d4] }
  | _ => none }
def PyramidAboveWrongFalsely : Prop := pyramidAboveRow.holds Try.pinned (OpenSpec.ofChange pyramidAboveWrong)

/-- 'theodolitelaw29.VoteMiddle': WHATEVER THE INPUT: true; the input reads as it did. -/
def voteMiddleSpec : ChangeSpec := { name := "voteMiddle", fn := fun _ => fun
  | [d] => { results := [.lit (.bool true)], args := [d] }
  | _ => none }
def voteMiddleRow : OpenClaim := { program := "ytoaagemofjddiaa", sum := "839a922a6005ce564463d1c1be37c180a411913559e948ad269d5a4a41eb8006", func := "theodolite/theodolitelaw29.VoteMiddle", spec := "voteMiddle", recurses := true, apart := false }
def VoteMiddleSaid : Prop := voteMiddleRow.holds Try.pinned (OpenSpec.ofChange voteMiddleSpec)

/-- ITS FALSE NEIGHBOUR: 'it returns false'. Refute it at one input. -/
def voteMiddleWrong : ChangeSpec := { name := "voteMiddle", fn := fun _ => fun
  | [d] => { results := [.lit (.bool false)], args := [d] }
  | _ => none }
def VoteMiddleWrongFalsely : Prop := voteMiddleRow.holds Try.pinned (OpenSpec.ofChange voteMiddleWrong)

/-- 'theodolitelaw29.VoteCasts': WHATEVER THE INPUT: true; the input reads as it did. -/
def voteCastsSpec : ChangeSpec := { name := "voteCasts", fn := fun _ => fun
  | [d1, d2, d3, d4] => { results := [.lit (.bool true)], args := [d1, d2, d3, d4] }
  | _ => none }
def voteCastsRow : OpenClaim := { program := "ytoaagemofjddiaa", sum := "839a922a6005ce564463d1c1be37c180a411913559e948ad269d5a4a41eb8006", func := "theodolite/theodolitelaw29.VoteCasts", spec := "voteCasts", recurses := true, apart := false }
def VoteCastsSaid : Prop := voteCastsRow.holds Try.pinned (OpenSpec.ofChange voteCastsSpec)

/-- ITS FALSE NEIGHBOUR: 'it returns false'. Refute it at one input. -/
def voteCastsWrong : ChangeSpec := { name := "voteCasts", fn := fun _ => fun
  | [d1, d2, d3, d4] => { results := [.lit (.bool false)], args := [d1, d2, d3, d4] }
  | _ => none }
def VoteCastsWrongFalsely : Prop := voteCastsRow.holds Try.pinned (OpenSpec.ofChange voteCastsWrong)

/-- 'theodolitelaw29.VoteHolds': WHATEVER THE INPUT: true; the input reads as it did. -/
def voteHoldsSpec : ChangeSpec := { name := "voteHolds", fn := fun _ => fun
  | [d1, d2, d3, d4] => { results := [.lit (.bool true)], args := [d1, d2, d3, d4] }
  | _ => none }
def voteHoldsRow : OpenClaim := { program := "ytoaagemofjddiaa", sum := "839a922a6005ce564463d1c1be37c180a411913559e948ad269d5a4a41eb8006", func := "theodolite/theodolitelaw29.VoteHolds", spec := "voteHolds", recurses := true, apart := false }
def VoteHoldsSaid : Prop := voteHoldsRow.holds Try.pinned (OpenSpec.ofChange voteHoldsSpec)

/-- ITS FALSE NEIGHBOUR: 'it returns false'. Refute it at one input. -/
def voteHoldsWrong : ChangeSpec := { name := "voteHolds", fn := fun _ => fun
  | [d1, d2, d3, d4] => { results := [.lit (.bool false)], args := [d1, d2, d3, d4] }
  | _ => none }
def VoteHoldsWrongFalsely : Prop := voteHoldsRow.holds Try.pinned (OpenSpec.ofChange voteHoldsWrong)

/- THE SECOND FORM. 'bulk': how many values and letters a reading holds, each counted each time it is reached (what is shared counts as often as it is met; a slice's spare places count too). A statement '..UptoSaid' is the law's where the arguments, and the package variables that the reading takes, are together of bulk at most 1048576: NARROWER than '..Said'. Prove '..Said' where nothing that the law and all that it calls make is longer than what came in: it says more and counts as full. Else prove '..UptoSaid'. A law counts once. -/
mutual
def uptoBulk {H : Type} : DataW H → Nat
  | .lit (.string bytes) => bytes.length + 1
  | .lit _ => 1
  | .nil => 1
  | .ptr d => uptoBulk d + 1
  | .slice elems spare => uptoBulkAll elems + uptoBulkAll spare + 1
  | .agg parts => uptoBulkAll parts + 1
  | .iface _ d => uptoBulk d + 1
  | .map entries => uptoBulkEntries entries + 1
  | .held _ => 1
def uptoBulkAll {H : Type} : List (DataW H) → Nat
  | [] => 0
  | d :: r => uptoBulk d + uptoBulkAll r
def uptoBulkEntries {H : Type} : List (Lit × DataW H) → Nat
  | [] => 0
  | x :: r => uptoBulkEntry x + uptoBulkEntries r
def uptoBulkEntry {H : Type} : Lit × DataW H → Nat
  | (.string bytes, d) => bytes.length + uptoBulk d + 1
  | (_, d) => uptoBulk d + 1
 end
def uptoSmall : (H : Type) → List (DataW H) → Bool := fun _ ds => decide (uptoBulkAll ds ≤ 1048576)
def OpenSpec.upto (s : _root_.Go.ChangeSpec) : _root_.Go.OpenSpec := { _root_.Go.OpenSpec.ofChange s with cond := some uptoSmall }

/-- 'theodolitelaw36.PyramidCells', WHERE WHAT IT READS IS OF BULK AT MOST 1048576: true; the input reads as it did. -/
def pyramidCellsUptoRow : OpenClaim := { program := "ytoaagemofjddiaa", sum := "839a922a6005ce564463d1c1be37c180a411913559e948ad269d5a4a41eb8006", func := "theodolite/theodolitelaw36.PyramidCells", spec := "pyramidCells", unfollowed := true, recurses := true, apart := false, narrowed := true }
def PyramidCellsUptoSaid : Prop := pyramidCellsUptoRow.holds Try.pinned (OpenSpec.upto pyramidCellsSpec)

/-- 'theodolitelaw36.PyramidOver', WHERE WHAT IT READS IS OF BULK AT MOST 1048576: true; the input reads as it did. -/
def pyramidOverUptoRow : OpenClaim := { program := "ytoaagemofjddiaa", sum := "839a922a6005ce564463d1c1be37c180a411913559e948ad269d5a4a41eb8006", func := "theodolite/theodolitelaw36.PyramidOver", spec := "pyramidOver", unfollowed := true, recurses := true, apart := false, narrowed := true }
def PyramidOverUptoSaid : Prop := pyramidOverUptoRow.holds Try.pinned (OpenSpec.upto pyramidOverSpec)

/-- 'theodolitelaw36.PyramidFew', WHERE WHAT IT READS IS OF BULK AT MOST 1048576: true; the input reads as it did. -/
def pyramidFewUptoRow : OpenClaim := { program := "ytoaagemofjddiaa", sum := "839a922a6005ce564463d1c1be37c180a411913559e948ad269d5a4a41eb8006", func := "theodolite/theodolitelaw36.PyramidFew", spec := "pyramidFew", unfollowed := true, recurses := true, apart := false, narrowed := true }
def PyramidFewUptoSaid : Prop := pyramidFewUptoRow.holds Try.pinned (OpenSpec.upto pyramidFewSpec)

/-- 'theodolitelaw36.PyramidJoins', WHERE WHAT IT READS IS OF BULK AT MOST 1048576: true; the input reads as it did. -/
def pyramidJoinsUptoRow : OpenClaim := { program := "ytoaagemofjddiaa", sum := "839a922a6005ce564463d1c1be37c180a411913559e948ad269d5a4a41eb8006", func := "theodolite/theodolitelaw36.PyramidJoins", spec := "pyramidJoins", unfollowed := true, recurses := true, apart := false, narrowed := true }
def PyramidJoinsUptoSaid : Prop := pyramidJoinsUptoRow.holds Try.pinned (OpenSpec.upto pyramidJoinsSpec)

/-- 'theodolitelaw36.PyramidAbove', WHERE WHAT IT READS IS OF BULK AT MOST 1048576: true; the input reads as it did. -/
def pyramidAboveUptoRow : OpenClaim := { program := "ytoaagemofjddiaa", sum := "839a922a6005ce564463d1c1be37c180a411913559e948ad269d5a4a41eb8006", func := "theodolite/theodolitelaw36.PyramidAbove", spec := "pyramidAbove", unfollowed := true, recurses := true, apart := false, narrowed := true }
def PyramidAboveUptoSaid : Prop := pyramidAboveUptoRow.holds Try.pinned (OpenSpec.upto pyramidAboveSpec)

/-- 'theodolitelaw29.VoteMiddle', WHERE WHAT IT READS IS OF BULK AT MOST 1048576: true; the input reads as it did. -/
def voteMiddleUptoRow : OpenClaim := { program := "ytoaagemofjddiaa", sum := "839a922a6005ce564463d1c1be37c180a411913559e948ad269d5a4a41eb8006", func := "theodolite/theodolitelaw29.VoteMiddle", spec := "voteMiddle", recurses := true, apart := false, narrowed := true }
def VoteMiddleUptoSaid : Prop := voteMiddleUptoRow.holds Try.pinned (OpenSpec.upto voteMiddleSpec)

/-- 'theodolitelaw29.VoteCasts', WHERE WHAT IT READS IS OF BULK AT MOST 1048576: true; the input reads as it did. -/
def voteCastsUptoRow : OpenClaim := { program := "ytoaagemofjddiaa", sum := "839a922a6005ce564463d1c1be37c180a411913559e948ad269d5a4a41eb8006", func := "theodolite/theodolitelaw29.VoteCasts", spec := "voteCasts", recurses := true, apart := false, narrowed := true }
def VoteCastsUptoSaid : Prop := voteCastsUptoRow.holds Try.pinned (OpenSpec.upto voteCastsSpec)

/-- 'theodolitelaw29.VoteHolds', WHERE WHAT IT READS IS OF BULK AT MOST 1048576: true; the input reads as it did. -/
def voteHoldsUptoRow : OpenClaim := { program := "ytoaagemofjddiaa", sum := "839a922a6005ce564463d1c1be37c180a411913559e948ad269d5a4a41eb8006", func := "theodolite/theodolitelaw29.VoteHolds", spec := "voteHolds", recurses := true, apart := false, narrowed := true }
def VoteHoldsUptoSaid : Prop := voteHoldsUptoRow.holds Try.pinned (OpenSpec.upto voteHoldsSpec)

end Rows
end Go.Proofs.Ytoaagemofjddiaa
