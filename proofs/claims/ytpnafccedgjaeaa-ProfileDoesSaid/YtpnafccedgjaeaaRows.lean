/-
  No cell of these rows narrows 'for every input' (looked for: loops, veiled, ifaces, maps, wideKeys, modest, calm, conditions, laid).
  DERIVED. THE GIVEN ROWS OF THIS SEAT. 11 by the template 'for every input the law returns true; each argument reads behind the call as it read before'; 0 by the template 'total and deterministic' (their statements: YtpnafccedgjaeaaTotals.lean).
  GIVEN WITH THE SEED: the statements are not yours to turn. If you find one false, say at which input.
  Laid BY PROGRAM, IN A SANDBOX (cutbox-rows.mjs): the forced cells as the released guide's own fill.sh prints them over the translation 0189c3f90cfa3dd5… (all of the seat's roots in one cut). By AI agents, Wed Nov 11 2026. No macro, syntax, notation, axiom, sorry.
-/
import Derived.Test.YtpnafccedgjaeaaChecked
import GoSem.Claim
import GoSem.ClaimJoined
import GoSem.ClaimMapViews
import Derived.JoinedTies
import Derived.KernelRfl
namespace Go.Proofs.Ytpnafccedgjaeaa
/- THE CELL 'sum', in the pinned program and in every row, IS THE sha256 OF THE DUMP (.gsa) THAT YtpnafccedgjaeaaProg.lean LOADS. Nothing in Lean hashes anything: it is a label: what it is worth is what the hold of that sum in a sandbox is worth. -/
noncomputable def Try.pinned : Pinned := { name := "ytpnafccedgjaeaa", sum := "0189c3f90cfa3dd51012a5223a5d0fbdb4d362008095a92e216ed842b31b04af", checked := Try.checked }
namespace Rows
def none {H : Type} : Left H := { results := [], args := [] }

/-- 'theodolitelaw02.CrcSums': WHATEVER THE INPUT: true; the input reads as it did. -/
def crcSumsSpec : ChangeSpec := { name := "crcSums", fn := fun _ => fun
  | [d] => { results := [.lit (.bool true)], args := [d] }
  | _ => none }
def crcSumsRow : OpenClaim := { program := "ytpnafccedgjaeaa", sum := "0189c3f90cfa3dd51012a5223a5d0fbdb4d362008095a92e216ed842b31b04af", func := "theodolite/theodolitelaw02.CrcSums", spec := "crcSums", unfollowed := true, recurses := true, apart := false }
def CrcSumsSaid : Prop := crcSumsRow.holds Try.pinned (OpenSpec.ofChange crcSumsSpec)

/-- ITS FALSE NEIGHBOUR: 'it returns false'. Refute it at one input. -/
def crcSumsWrong : ChangeSpec := { name := "crcSums", fn := fun _ => fun
  | [d] => { results := [.lit (.bool false)], args := [d] }
  | _ => none }
def CrcSumsWrongFalsely : Prop := crcSumsRow.holds Try.pinned (OpenSpec.ofChange crcSumsWrong)

/-- 'theodolitelaw02.CrcJoins': WHATEVER THE INPUT: true; the input reads as it did. -/
def crcJoinsSpec : ChangeSpec := { name := "crcJoins", fn := fun _ => fun
  | [d1, d2, d3, d4, d5] => { results := [.lit (.bool true)], args := [d1, d2, d3, d4, d5] }
  | _ => none }
def crcJoinsRow : OpenClaim := { program := "ytpnafccedgjaeaa", sum := "0189c3f90cfa3dd51012a5223a5d0fbdb4d362008095a92e216ed842b31b04af", func := "theodolite/theodolitelaw02.CrcJoins", spec := "crcJoins", unfollowed := true, recurses := true, apart := false }
def CrcJoinsSaid : Prop := crcJoinsRow.holds Try.pinned (OpenSpec.ofChange crcJoinsSpec)

/-- ITS FALSE NEIGHBOUR: 'it returns false'. Refute it at one input. -/
def crcJoinsWrong : ChangeSpec := { name := "crcJoins", fn := fun _ => fun
  | [d1, d2, d3, d4, d5] => { results := [.lit (.bool false)], args := [d1, d2, d3, d4, d5] }
  | _ => none }
def CrcJoinsWrongFalsely : Prop := crcJoinsRow.holds Try.pinned (OpenSpec.ofChange crcJoinsWrong)

/-- 'theodolitelaw02.CrcBack': WHATEVER THE INPUT: true; the input reads as it did. -/
def crcBackSpec : ChangeSpec := { name := "crcBack", fn := fun _ => fun
  | [d] => { results := [.lit (.bool true)], args := [d] }
  | _ => none }
def crcBackRow : OpenClaim := { program := "ytpnafccedgjaeaa", sum := "0189c3f90cfa3dd51012a5223a5d0fbdb4d362008095a92e216ed842b31b04af", func := "theodolite/theodolitelaw02.CrcBack", spec := "crcBack", unfollowed := true, recurses := true, apart := false }
def CrcBackSaid : Prop := crcBackRow.holds Try.pinned (OpenSpec.ofChange crcBackSpec)

/-- ITS FALSE NEIGHBOUR: 'it returns false'. Refute it at one input. -/
def crcBackWrong : ChangeSpec := { name := "crcBack", fn := fun _ => fun
  | [d] => { results := [.lit (.bool false)], args := [d] }
  | _ => none }
def CrcBackWrongFalsely : Prop := crcBackRow.holds Try.pinned (OpenSpec.ofChange crcBackWrong)

/-- 'theodolitelaw02.CrcTurns': WHATEVER THE INPUT: true; the input reads as it did. -/
def crcTurnsSpec : ChangeSpec := { name := "crcTurns", fn := fun _ => fun
  | [d1, d2, d3] => { results := [.lit (.bool true)], args := [d1, d2, d3] }
  | _ => none }
def crcTurnsRow : OpenClaim := { program := "ytpnafccedgjaeaa", sum := "0189c3f90cfa3dd51012a5223a5d0fbdb4d362008095a92e216ed842b31b04af", func := "theodolite/theodolitelaw02.CrcTurns", spec := "crcTurns", unfollowed := true, recurses := true, apart := false }
def CrcTurnsSaid : Prop := crcTurnsRow.holds Try.pinned (OpenSpec.ofChange crcTurnsSpec)

/-- ITS FALSE NEIGHBOUR: 'it returns false'. Refute it at one input. -/
def crcTurnsWrong : ChangeSpec := { name := "crcTurns", fn := fun _ => fun
  | [d1, d2, d3] => { results := [.lit (.bool false)], args := [d1, d2, d3] }
  | _ => none }
def CrcTurnsWrongFalsely : Prop := crcTurnsRow.holds Try.pinned (OpenSpec.ofChange crcTurnsWrong)

/-- 'theodolitelaw20.ProfileDoes': WHATEVER THE INPUT: true; the input reads as it did. -/
def profileDoesSpec : ChangeSpec := { name := "profileDoes", fn := fun _ => fun
  | [d1, d2] => { results := [.lit (.bool true)], args := [d1, d2] }
  | _ => none }
def profileDoesRow : OpenClaim := { program := "ytpnafccedgjaeaa", sum := "0189c3f90cfa3dd51012a5223a5d0fbdb4d362008095a92e216ed842b31b04af", func := "theodolite/theodolitelaw20.ProfileDoes", spec := "profileDoes", apart := false }
def ProfileDoesSaid : Prop := profileDoesRow.holds Try.pinned (OpenSpec.ofChange profileDoesSpec)

/-- ITS FALSE NEIGHBOUR: 'it returns false'. Refute it at one input. -/
def profileDoesWrong : ChangeSpec := { name := "profileDoes", fn := fun _ => fun
  | [d1, d2] => { results := [.lit (.bool false)], args := [d1, d2] }
  | _ => none }
def ProfileDoesWrongFalsely : Prop := profileDoesRow.holds Try.pinned (OpenSpec.ofChange profileDoesWrong)

/-- 'theodolitelaw20.ProfileApart': WHATEVER THE INPUT: true; the input reads as it did. -/
def profileApartSpec : ChangeSpec := { name := "profileApart", fn := fun _ => fun
  | [d1, d2] => { results := [.lit (.bool true)], args := [d1, d2] }
  | _ => none }
def profileApartRow : OpenClaim := { program := "ytpnafccedgjaeaa", sum := "0189c3f90cfa3dd51012a5223a5d0fbdb4d362008095a92e216ed842b31b04af", func := "theodolite/theodolitelaw20.ProfileApart", spec := "profileApart", apart := false }
def ProfileApartSaid : Prop := profileApartRow.holds Try.pinned (OpenSpec.ofChange profileApartSpec)

/-- ITS FALSE NEIGHBOUR: 'it returns false'. Refute it at one input. -/
def profileApartWrong : ChangeSpec := { name := "profileApart", fn := fun _ => fun
  | [d1, d2] => { results := [.lit (.bool false)], args := [d1, d2] }
  | _ => none }
def ProfileApartWrongFalsely : Prop := profileApartRow.holds Try.pinned (OpenSpec.ofChange profileApartWrong)

/-- 'theodolitelaw20.ProfileForgets': WHATEVER THE INPUT: true; the input reads as it did. -/
def profileForgetsSpec : ChangeSpec := { name := "profileForgets", fn := fun _ => fun
  | [d1, d2] => { results := [.lit (.bool true)], args := [d1, d2] }
  | _ => none }
def profileForgetsRow : OpenClaim := { program := "ytpnafccedgjaeaa", sum := "0189c3f90cfa3dd51012a5223a5d0fbdb4d362008095a92e216ed842b31b04af", func := "theodolite/theodolitelaw20.ProfileForgets", spec := "profileForgets", apart := false }
def ProfileForgetsSaid : Prop := profileForgetsRow.holds Try.pinned (OpenSpec.ofChange profileForgetsSpec)

/-- ITS FALSE NEIGHBOUR: 'it returns false'. Refute it at one input. -/
def profileForgetsWrong : ChangeSpec := { name := "profileForgets", fn := fun _ => fun
  | [d1, d2] => { results := [.lit (.bool false)], args := [d1, d2] }
  | _ => none }
def ProfileForgetsWrongFalsely : Prop := profileForgetsRow.holds Try.pinned (OpenSpec.ofChange profileForgetsWrong)

/-- 'theodolitelaw25.ModeNext': WHATEVER THE INPUT: true; the input reads as it did. -/
def modeNextSpec : ChangeSpec := { name := "modeNext", fn := fun _ => fun
  | [d1, d2] => { results := [.lit (.bool true)], args := [d1, d2] }
  | _ => none }
def modeNextRow : OpenClaim := { program := "ytpnafccedgjaeaa", sum := "0189c3f90cfa3dd51012a5223a5d0fbdb4d362008095a92e216ed842b31b04af", func := "theodolite/theodolitelaw25.ModeNext", spec := "modeNext", apart := false }
def ModeNextSaid : Prop := modeNextRow.holds Try.pinned (OpenSpec.ofChange modeNextSpec)

/-- ITS FALSE NEIGHBOUR: 'it returns false'. Refute it at one input. -/
def modeNextWrong : ChangeSpec := { name := "modeNext", fn := fun _ => fun
  | [d1, d2] => { results := [.lit (.bool false)], args := [d1, d2] }
  | _ => none }
def ModeNextWrongFalsely : Prop := modeNextRow.holds Try.pinned (OpenSpec.ofChange modeNextWrong)

/-- 'theodolitelaw25.ModeRuns': WHATEVER THE INPUT: true; the input reads as it did. -/
def modeRunsSpec : ChangeSpec := { name := "modeRuns", fn := fun _ => fun
  | [d1, d2] => { results := [.lit (.bool true)], args := [d1, d2] }
  | _ => none }
def modeRunsRow : OpenClaim := { program := "ytpnafccedgjaeaa", sum := "0189c3f90cfa3dd51012a5223a5d0fbdb4d362008095a92e216ed842b31b04af", func := "theodolite/theodolitelaw25.ModeRuns", spec := "modeRuns", apart := false }
def ModeRunsSaid : Prop := modeRunsRow.holds Try.pinned (OpenSpec.ofChange modeRunsSpec)

/-- ITS FALSE NEIGHBOUR: 'it returns false'. Refute it at one input. -/
def modeRunsWrong : ChangeSpec := { name := "modeRuns", fn := fun _ => fun
  | [d1, d2] => { results := [.lit (.bool false)], args := [d1, d2] }
  | _ => none }
def ModeRunsWrongFalsely : Prop := modeRunsRow.holds Try.pinned (OpenSpec.ofChange modeRunsWrong)

/-- 'theodolitelaw25.ModeFaults': WHATEVER THE INPUT: true; the input reads as it did. -/
def modeFaultsSpec : ChangeSpec := { name := "modeFaults", fn := fun _ => fun
  | [d1, d2] => { results := [.lit (.bool true)], args := [d1, d2] }
  | _ => none }
def modeFaultsRow : OpenClaim := { program := "ytpnafccedgjaeaa", sum := "0189c3f90cfa3dd51012a5223a5d0fbdb4d362008095a92e216ed842b31b04af", func := "theodolite/theodolitelaw25.ModeFaults", spec := "modeFaults", apart := false }
def ModeFaultsSaid : Prop := modeFaultsRow.holds Try.pinned (OpenSpec.ofChange modeFaultsSpec)

/-- ITS FALSE NEIGHBOUR: 'it returns false'. Refute it at one input. -/
def modeFaultsWrong : ChangeSpec := { name := "modeFaults", fn := fun _ => fun
  | [d1, d2] => { results := [.lit (.bool false)], args := [d1, d2] }
  | _ => none }
def ModeFaultsWrongFalsely : Prop := modeFaultsRow.holds Try.pinned (OpenSpec.ofChange modeFaultsWrong)

/-- 'theodolitelaw25.ModeTracks': WHATEVER THE INPUT: true; the input reads as it did. -/
def modeTracksSpec : ChangeSpec := { name := "modeTracks", fn := fun _ => fun
  | [d1, d2] => { results := [.lit (.bool true)], args := [d1, d2] }
  | _ => none }
def modeTracksRow : OpenClaim := { program := "ytpnafccedgjaeaa", sum := "0189c3f90cfa3dd51012a5223a5d0fbdb4d362008095a92e216ed842b31b04af", func := "theodolite/theodolitelaw25.ModeTracks", spec := "modeTracks", apart := false }
def ModeTracksSaid : Prop := modeTracksRow.holds Try.pinned (OpenSpec.ofChange modeTracksSpec)

/-- ITS FALSE NEIGHBOUR: 'it returns false'. Refute it at one input. -/
def modeTracksWrong : ChangeSpec := { name := "modeTracks", fn := fun _ => fun
  | [d1, d2] => { results := [.lit (.bool false)], args := [d1, d2] }
  | _ => none }
def ModeTracksWrongFalsely : Prop := modeTracksRow.holds Try.pinned (OpenSpec.ofChange modeTracksWrong)

/- THE SECOND FORM. 'bulk': how many values and letters a reading holds, each counted each time it is reached (what is shared counts as often as it is met; a slice's spare places count too). A statement '..UptoSaid' is the law's where the arguments, and the package variables that the reading takes, are together of bulk at most 1048576: NARROWER than '..Said'. Prove '..Said' where nothing that the law and all that it calls make is longer than what came in: it says more and counts as full. Else prove '..UptoSaid'. A law counts once. -/
mutual
def uptoBulk {H : Type} : DataW H → Nat
  | .lit (.string bytes) => bytes.length + 1
  | .lit _ => 1
  | .nil => 1
  | .ptr d => uptoBulk d + 1
  | .slice elems spare => uptoBulkAll elems + uptoBulkAll spare + 1
  | .agg parts => uptoBulkAll parts + 1
  | .iface _ d => uptoBulk d + 1
  | .map entries => uptoBulkEntries entries + 1
  | .held _ => 1
def uptoBulkAll {H : Type} : List (DataW H) → Nat
  | [] => 0
  | d :: r => uptoBulk d + uptoBulkAll r
def uptoBulkEntries {H : Type} : List (Lit × DataW H) → Nat
  | [] => 0
  | x :: r => uptoBulkEntry x + uptoBulkEntries r
def uptoBulkEntry {H : Type} : Lit × DataW H → Nat
  | (.string bytes, d) => bytes.length + uptoBulk d + 1
  | (_, d) => uptoBulk d + 1
 end
def uptoSmall : (H : Type) → List (DataW H) → Bool := fun _ ds => decide (uptoBulkAll ds ≤ 1048576)
def OpenSpec.upto (s : _root_.Go.ChangeSpec) : _root_.Go.OpenSpec := { _root_.Go.OpenSpec.ofChange s with cond := some uptoSmall }

/-- 'theodolitelaw02.CrcSums', WHERE WHAT IT READS IS OF BULK AT MOST 1048576: true; the input reads as it did. -/
def crcSumsUptoRow : OpenClaim := { program := "ytpnafccedgjaeaa", sum := "0189c3f90cfa3dd51012a5223a5d0fbdb4d362008095a92e216ed842b31b04af", func := "theodolite/theodolitelaw02.CrcSums", spec := "crcSums", unfollowed := true, recurses := true, apart := false, narrowed := true }
def CrcSumsUptoSaid : Prop := crcSumsUptoRow.holds Try.pinned (OpenSpec.upto crcSumsSpec)

/-- 'theodolitelaw02.CrcJoins', WHERE WHAT IT READS IS OF BULK AT MOST 1048576: true; the input reads as it did. -/
def crcJoinsUptoRow : OpenClaim := { program := "ytpnafccedgjaeaa", sum := "0189c3f90cfa3dd51012a5223a5d0fbdb4d362008095a92e216ed842b31b04af", func := "theodolite/theodolitelaw02.CrcJoins", spec := "crcJoins", unfollowed := true, recurses := true, apart := false, narrowed := true }
def CrcJoinsUptoSaid : Prop := crcJoinsUptoRow.holds Try.pinned (OpenSpec.upto crcJoinsSpec)

/-- 'theodolitelaw02.CrcBack', WHERE WHAT IT READS IS OF BULK AT MOST 1048576: true; the input reads as it did. -/
def crcBackUptoRow : OpenClaim := { program := "ytpnafccedgjaeaa", sum := "0189c3f90cfa3dd51012a5223a5d0fbdb4d362008095a92e216ed842b31b04af", func := "theodolite/theodolitelaw02.CrcBack", spec := "crcBack", unfollowed := true, recurses := true, apart := false, narrowed := true }
def CrcBackUptoSaid : Prop := crcBackUptoRow.holds Try.pinned (OpenSpec.upto crcBackSpec)

/-- 'theodolitelaw02.CrcTurns', WHERE WHAT IT READS IS OF BULK AT MOST 1048576: true; the input reads as it did. -/
def crcTurnsUptoRow : OpenClaim := { program := "ytpnafccedgjaeaa", sum := "0189c3f90cfa3dd51012a5223a5d0fbdb4d362008095a92e216ed842b31b04af", func := "theodolite/theodolitelaw02.CrcTurns", spec := "crcTurns", unfollowed := true, recurses := true, apart := false, narrowed := true }
def CrcTurnsUptoSaid : Prop := crcTurnsUptoRow.holds Try.pinned (OpenSpec.upto crcTurnsSpec)

/-- 'theodolitelaw20.ProfileDoes', WHERE WHAT IT READS IS OF BULK AT MOST 1048576: true; the input reads as it did. -/
def profileDoesUptoRow : OpenClaim := { program := "ytpnafccedgjaeaa", sum := "0189c3f90cfa3dd51012a5223a5d0fbdb4d362008095a92e216ed842b31b04af", func := "theodolite/theodolitelaw20.ProfileDoes", spec := "profileDoes", apart := false, narrowed := true }
def ProfileDoesUptoSaid : Prop := profileDoesUptoRow.holds Try.pinned (OpenSpec.upto profileDoesSpec)

/-- 'theodolitelaw20.ProfileApart', WHERE WHAT IT READS IS OF BULK AT MOST 1048576: true; the input reads as it did. -/
def profileApartUptoRow : OpenClaim := { program := "ytpnafccedgjaeaa", sum := "0189c3f90cfa3dd51012a5223a5d0fbdb4d362008095a92e216ed842b31b04af", func := "theodolite/theodolitelaw20.ProfileApart", spec := "profileApart", apart := false, narrowed := true }
def ProfileApartUptoSaid : Prop := profileApartUptoRow.holds Try.pinned (OpenSpec.upto profileApartSpec)

/-- 'theodolitelaw20.ProfileForgets', WHERE WHAT IT READS IS OF BULK AT MOST 1048576: true; the input reads as it did. -/
def profileForgetsUptoRow : OpenClaim := { program := "ytpnafccedgjaeaa", sum := "0189c3f90cfa3dd51012a5223a5d0fbdb4d362008095a92e216ed842b31b04af", func := "theodolite/theodolitelaw20.ProfileForgets", spec := "profileForgets", apart := false, narrowed := true }
def ProfileForgetsUptoSaid : Prop := profileForgetsUptoRow.holds Try.pinned (OpenSpec.upto profileForgetsSpec)

/-- 'theodolitelaw25.ModeNext', WHERE WHAT IT READS IS OF BULK AT MOST 1048576: true; the input reads as it did. -/
def modeNextUptoRow : OpenClaim := { program := "ytpnafccedgjaeaa", sum := "0189c3f90cfa3dd51012a5223a5d0fbdb4d362008095a92e216ed842b31b04af", func := "theodolite/theodolitelaw25.ModeNext", spec := "modeNext", apart := false, narrowed := true }
def ModeNextUptoSaid : Prop := modeNextUptoRow.holds Try.pinned (OpenSpec.upto modeNextSpec)

/-- 'theodolitelaw25.ModeRuns', WHERE WHAT IT READS IS OF BULK AT MOST 1048576: true; the input reads as it did. -/
def modeRunsUptoRow : OpenClaim := { program := "ytpnafccedgjaeaa", sum := "0189c3f90cfa3dd51012a5223a5d0fbdb4d362008095a92e216ed842b31b04af", func := "theodolite/theodolitelaw25.ModeRuns", spec := "modeRuns", apart := false, narrowed := true }
def ModeRunsUptoSaid : Prop := modeRunsUptoRow.holds Try.pinned (OpenSpec.upto modeRunsSpec)

/-- 'theodolitelaw25.ModeFaults', WHERE WHAT IT READS IS OF BULK AT MOST 1048576: true; the input reads as it did. -/
def modeFaultsUptoRow : OpenClaim := { program := "ytpnafccedgjaeaa", sum := "0189c3f90cfa3dd51012a5223a5d0fbdb4d362008095a92e216ed842b31b04af", func := "theodolite/theodolitelaw25.ModeFaults", spec := "modeFaults", apart := false, narrowed := true }
def ModeFaultsUptoSaid : Prop := modeFaultsUptoRow.holds Try.pinned (OpenSpec.upto modeFaultsSpec)

/-- 'theodolitelaw25.ModeTracks', WHERE WHAT IT READS IS OF BULK AT MOST 1048576: true; the input reads as it did. -/
def modeTracksUptoRow : OpenClaim := { program := "ytpnafccedgjaeaa", sum := "0189c3f90cfa3dd51012a5223a5d0fbdb4d362008095a92e216ed842b31b04af", func := "theodolite/theodolitelaw25.ModeTracks", spec := "modeTracks", apart := false, narrowed := true }
def ModeTracksUptoSaid : Prop := modeTracksUptoRow.holds Try.pinned (OpenSpec.upto modeTracksSpec)

end Rows
end Go.Proofs.Ytpnafccedgjaeaa
