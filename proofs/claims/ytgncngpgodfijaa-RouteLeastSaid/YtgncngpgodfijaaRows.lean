/-
  No cell of these rows narrows 'for every input' (looked for: loops, veiled, ifaces, maps, wideKeys, modest, calm, conditions, laid).
  DERIVED. THE GIVEN ROWS OF THIS SEAT. 11 by the template 'for every input the law returns true; each argument reads behind the call as it read before'; 0 by the template 'total and deterministic' (their statements: YtgncngpgodfijaaTotals.lean).
  GIVEN WITH THE SEED: the statements are not yours to turn. If you find one false, say at which input.
  Laid BY PROGRAM, IN A SANDBOX (cutbox-rows.mjs): the forced cells as the released guide's own fill.sh prints them over the translation 61b8cf7cc342ea83… (all of the seat's roots in one cut). By AI agents, Wed Nov 11 2026. No macro, syntax, notation, axiom, sorry.
-/
import Derived.Test.YtgncngpgodfijaaChecked
import GoSem.Claim
import GoSem.ClaimJoined
import GoSem.ClaimMapViews
import Derived.JoinedTies
import Derived.KernelRfl
namespace Go.Proofs.Ytgncngpgodfijaa
/- THE CELL 'sum', in the pinned program and in every row, IS THE sha256 OF THE DUMP (.gsa) THAT YtgncngpgodfijaaProg.lean LOADS. Nothing in Lean hashes anything: it is a label: what it is worth is what the hold of that sum in a sandbox is worth. -/
noncomputable def Try.pinned : Pinned := { name := "ytgncngpgodfijaa", sum := "61b8cf7cc342ea83746f02816812de0dc90a28d57fd424d225eb110cbb4281ac", checked := Try.checked }
namespace Rows
def none {H : Type} : Left H := { results := [], args := [] }

/-- 'theodolitelaw01.BitsWrite': WHATEVER THE INPUT: true; the input reads as it did. -/
def bitsWriteSpec : ChangeSpec := { name := "bitsWrite", fn := fun _ => fun
  | [d] => { results := [.lit (.bool true)], args := [d] }
  | _ => none }
def bitsWriteRow : OpenClaim := { program := "ytgncngpgodfijaa", sum := "61b8cf7cc342ea83746f02816812de0dc90a28d57fd424d225eb110cbb4281ac", func := "theodolite/theodolitelaw01.BitsWrite", spec := "bitsWrite", recurses := true, apart := false }
def BitsWriteSaid : Prop := bitsWriteRow.holds Try.pinned (OpenSpec.ofChange bitsWriteSpec)

/-- ITS FALSE NEIGHBOUR: 'it returns false'. Refute it at one input. -/
def bitsWriteWrong : ChangeSpec := { name := "bitsWrite", fn := fun _ => fun
  | [d] => { results := [.lit (.bool false)], args := [d] }
  | _ => none }
def BitsWriteWrongFalsely : Prop := bitsWriteRow.holds Try.pinned (OpenSpec.ofChange bitsWriteWrong)

/-- 'theodolitelaw01.BitsBack': WHATEVER THE INPUT: true; the input reads as it did. -/
def bitsBackSpec : ChangeSpec := { name := "bitsBack", fn := fun _ => fun
  | [d] => { results := [.lit (.bool true)], args := [d] }
  | _ => none }
def bitsBackRow : OpenClaim := { program := "ytgncngpgodfijaa", sum := "61b8cf7cc342ea83746f02816812de0dc90a28d57fd424d225eb110cbb4281ac", func := "theodolite/theodolitelaw01.BitsBack", spec := "bitsBack", recurses := true, apart := false }
def BitsBackSaid : Prop := bitsBackRow.holds Try.pinned (OpenSpec.ofChange bitsBackSpec)

/-- ITS FALSE NEIGHBOUR: 'it returns false'. Refute it at one input. -/
def bitsBackWrong : ChangeSpec := { name := "bitsBack", fn := fun _ => fun
  | [d] => { results := [.lit (.bool false)], args := [d] }
  | _ => none }
def BitsBackWrongFalsely : Prop := bitsBackRow.holds Try.pinned (OpenSpec.ofChange bitsBackWrong)

/-- 'theodolitelaw01.BitsRead': WHATEVER THE INPUT: true; the input reads as it did. -/
def bitsReadSpec : ChangeSpec := { name := "bitsRead", fn := fun _ => fun
  | [d1, d2, d3] => { results := [.lit (.bool true)], args := [d1, d2, d3] }
  | _ => none }
def bitsReadRow : OpenClaim := { program := "ytgncngpgodfijaa", sum := "61b8cf7cc342ea83746f02816812de0dc90a28d57fd424d225eb110cbb4281ac", func := "theodolite/theodolitelaw01.BitsRead", spec := "bitsRead", apart := false }
def BitsReadSaid : Prop := bitsReadRow.holds Try.pinned (OpenSpec.ofChange bitsReadSpec)

/-- ITS FALSE NEIGHBOUR: 'it returns false'. Refute it at one input. -/
def bitsReadWrong : ChangeSpec := { name := "bitsRead", fn := fun _ => fun
  | [d1, d2, d3] => { results := [.lit (.bool false)], args := [d1, d2, d3] }
  | _ => none }
def BitsReadWrongFalsely : Prop := bitsReadRow.holds Try.pinned (OpenSpec.ofChange bitsReadWrong)

/-- 'theodolitelaw41.SchedPlans': WHATEVER THE INPUT: true; the input reads as it did. -/
def schedPlansSpec : ChangeSpec := { name := "schedPlans", fn := fun _ => fun
  | [d1, d2] => { results := [.lit (.bool true)], args := [d1, d2] }
  | _ => none }
def schedPlansRow : OpenClaim := { program := "ytgncngpgodfijaa", sum := "61b8cf7cc342ea83746f02816812de0dc90a28d57fd424d225eb110cbb4281ac", func := "theodolite/theodolitelaw41.SchedPlans", spec := "schedPlans", apart := false }
def SchedPlansSaid : Prop := schedPlansRow.holds Try.pinned (OpenSpec.ofChange schedPlansSpec)

/-- ITS FALSE NEIGHBOUR: 'it returns false'. Refute it at one input. -/
def schedPlansWrong : ChangeSpec := { name := "schedPlans", fn := fun _ => fun
  | [d1, d2] => { results := [.lit (.bool false)], args := [d1, d2] }
  | _ => none }
def SchedPlansWrongFalsely : Prop := schedPlansRow.holds Try.pinned (OpenSpec.ofChange schedPlansWrong)

/-- 'theodolitelaw41.SchedFits': WHATEVER THE INPUT: true; the input reads as it did. -/
def schedFitsSpec : ChangeSpec := { name := "schedFits", fn := fun _ => fun
  | [d1, d2, d3] => { results := [.lit (.bool true)], args := [d1, d2, d3] }
  | _ => none }
def schedFitsRow : OpenClaim := { program := "ytgncngpgodfijaa", sum := "61b8cf7cc342ea83746f02816812de0dc90a28d57fd424d225eb110cbb4281ac", func := "theodolite/theodolitelaw41.SchedFits", spec := "schedFits", apart := false }
def SchedFitsSaid : Prop := schedFitsRow.holds Try.pinned (OpenSpec.ofChange schedFitsSpec)

/-- ITS FALSE NEIGHBOUR: 'it returns false'. Refute it at one input. -/
def schedFitsWrong : ChangeSpec := { name := "schedFits", fn := fun _ => fun
  | [d1, d2, d3] => { results := [.lit (.bool false)], args := [d1, d2, d3] }
  | _ => none }
def SchedFitsWrongFalsely : Prop := schedFitsRow.holds Try.pinned (OpenSpec.ofChange schedFitsWrong)

/-- 'theodolitelaw41.SchedFull': WHATEVER THE INPUT: true; the input reads as it did. -/
def schedFullSpec : ChangeSpec := { name := "schedFull", fn := fun _ => fun
  | [d1, d2] => { results := [.lit (.bool true)], args := [d1, d2] }
  | _ => none }
def schedFullRow : OpenClaim := { program := "ytgncngpgodfijaa", sum := "61b8cf7cc342ea83746f02816812de0dc90a28d57fd424d225eb110cbb4281ac", func := "theodolite/theodolitelaw41.SchedFull", spec := "schedFull", apart := false }
def SchedFullSaid : Prop := schedFullRow.holds Try.pinned (OpenSpec.ofChange schedFullSpec)

/-- ITS FALSE NEIGHBOUR: 'it returns false'. Refute it at one input. -/
def schedFullWrong : ChangeSpec := { name := "schedFull", fn := fun _ => fun
  | [d1, d2] => { results := [.lit (.bool false)], args := [d1, d2] }
  | _ => none }
def SchedFullWrongFalsely : Prop := schedFullRow.holds Try.pinned (OpenSpec.ofChange schedFullWrong)

/-- 'theodolitelaw41.SchedSafe': WHATEVER THE INPUT: true; the input reads as it did. -/
def schedSafeSpec : ChangeSpec := { name := "schedSafe", fn := fun _ => fun
  | [d1, d2, d3, d4] => { results := [.lit (.bool true)], args := [d1, d2, d3, d4] }
  | _ => none }
def schedSafeRow : OpenClaim := { program := "ytgncngpgodfijaa", sum := "61b8cf7cc342ea83746f02816812de0dc90a28d57fd424d225eb110cbb4281ac", func := "theodolite/theodolitelaw41.SchedSafe", spec := "schedSafe", apart := false }
def SchedSafeSaid : Prop := schedSafeRow.holds Try.pinned (OpenSpec.ofChange schedSafeSpec)

/-- ITS FALSE NEIGHBOUR: 'it returns false'. Refute it at one input. -/
def schedSafeWrong : ChangeSpec := { name := "schedSafe", fn := fun _ => fun
  | [d1, d2, d3, d4] => { results := [.lit (.bool false)], args := [d1, d2, d3, d4] }
  | _ => none }
def SchedSafeWrongFalsely : Prop := schedSafeRow.holds Try.pinned (OpenSpec.ofChange schedSafeWrong)

/-- 'theodolitelaw39.RouteChecks': WHATEVER THE INPUT: true; the input reads as it did. -/
def routeChecksSpec : ChangeSpec := { name := "routeChecks", fn := fun _ => fun
  | [d1, d2, d3, d4] => { results := [.lit (.bool true)], args := [d1, d2, d3, d4] }
  | _ => none }
def routeChecksRow : OpenClaim := { program := "ytgncngpgodfijaa", sum := "61b8cf7cc342ea83746f02816812de0dc90a28d57fd424d225eb110cbb4281ac", func := "theodolite/theodolitelaw39.RouteChecks", spec := "routeChecks", unfollowed := true, recurses := true, apart := false }
def RouteChecksSaid : Prop := routeChecksRow.holds Try.pinned (OpenSpec.ofChange routeChecksSpec)

/-- ITS FALSE NEIGHBOUR: 'it returns false'. Refute it at one input. -/
def routeChecksWrong : ChangeSpec := { name := "routeChecks", fn := fun _ => fun
  | [d1, d2, d3, d4] => { results := [.lit (.bool false)], args := [d1, d2, d3, d4] }
  | _ => none }
def RouteChecksWrongFalsely : Prop := routeChecksRow.holds Try.pinned (OpenSpec.ofChange routeChecksWrong)

/-- 'theodolitelaw39.RouteReach': WHATEVER THE INPUT: true; the input reads as it did. -/
def routeReachSpec : ChangeSpec := { name := "routeReach", fn := fun _ => fun
  | [d1, d2, d3, d4] => { results := [.lit (.bool true)], args := [d1, d2, d3, d4] }
  | _ => none }
def routeReachRow : OpenClaim := { program := "ytgncngpgodfijaa", sum := "61b8cf7cc342ea83746f02816812de0dc90a28d57fd424d225eb110cbb4281ac", func := "theodolite/theodolitelaw39.RouteReach", spec := "routeReach", unfollowed := true, recurses := true, apart := false }
def RouteReachSaid : Prop := routeReachRow.holds Try.pinned (OpenSpec.ofChange routeReachSpec)

/-- ITS FALSE NEIGHBOUR: 'it returns false'. Refute it at one input. -/
def routeReachWrong : ChangeSpec := { name := "routeReach", fn := fun _ => fun
  | [d1, d2, d3, d4] => { results := [.lit (.bool false)], args := [d1, d2, d3, d4] }
  | _ => none }
def RouteReachWrongFalsely : Prop := routeReachRow.holds Try.pinned (OpenSpec.ofChange routeReachWrong)

/-- 'theodolitelaw39.RouteLeast': WHATEVER THE INPUT: true; the input reads as it did. -/
def routeLeastSpec : ChangeSpec := { name := "routeLeast", fn := fun _ => fun
  | [d1, d2, d3, d4, d5, d6] => { results := [.lit (.bool true)], args := [d1, d2, d3, d4, d5, d6] }
  | _ => none }
def routeLeastRow : OpenClaim := { program := "ytgncngpgodfijaa", sum := "61b8cf7cc342ea83746f02816812de0dc90a28d57fd424d225eb110cbb4281ac", func := "theodolite/theodolitelaw39.RouteLeast", spec := "routeLeast", unfollowed := true, recurses := true, apart := false }
def RouteLeastSaid : Prop := routeLeastRow.holds Try.pinned (OpenSpec.ofChange routeLeastSpec)

/-- ITS FALSE NEIGHBOUR: 'it returns false'. Refute it at one input. -/
def routeLeastWrong : ChangeSpec := { name := "routeLeast", fn := fun _ => fun
  | [d1, d2, d3, d4, d5, d6] => { results := [.lit (.bool false)], args := [d1, d2, d3, d4, d5, d6] }
  | _ => none }
def RouteLeastWrongFalsely : Prop := routeLeastRow.holds Try.pinned (OpenSpec.ofChange routeLeastWrong)

/-- 'theodolitelaw39.RouteRound': WHATEVER THE INPUT: true; the input reads as it did. -/
def routeRoundSpec : ChangeSpec := { name := "routeRound", fn := fun _ => fun
  | [d1, d2, d3, d4, d5, d6] => { results := [.lit (.bool true)], args := [d1, d2, d3, d4, d5, d6] }
  | _ => none }
def routeRoundRow : OpenClaim := { program := "ytgncngpgodfijaa", sum := "61b8cf7cc342ea83746f02816812de0dc90a28d57fd424d225eb110cbb4281ac", func := "theodolite/theodolitelaw39.RouteRound", spec := "routeRound", unfollowed := true, recurses := true, apart := false }
def RouteRoundSaid : Prop := routeRoundRow.holds Try.pinned (OpenSpec.ofChange routeRoundSpec)

/-- ITS FALSE NEIGHBOUR: 'it returns false'. Refute it at one input. -/
def routeRoundWrong : ChangeSpec := { name := "routeRound", fn := fun _ => fun
  | [d1, d2, d3, d4, d5, d6] => { results := [.lit (.bool false)], args := [d1, d2, d3, d4, d5, d6] }
  | _ => none }
def RouteRoundWrongFalsely : Prop := routeRoundRow.holds Try.pinned (OpenSpec.ofChange routeRoundWrong)

/- THE SECOND FORM. 'bulk': how many values and letters a reading holds, each counted each time it is reached (what is shared counts as often as it is met; a slice's spare places count too). A statement '..UptoSaid' is the law's where the arguments, and the package variables that the reading takes, are together of bulk at most 1048576: NARROWER than '..Said'. Prove '..Said' where nothing that the law and all that it calls make is longer than what came in: it says more and counts as full. Else prove '..UptoSaid'. A law counts once. -/
mutual
def uptoBulk {H : Type} : DataW H → Nat
  | .lit (.string bytes) => bytes.length + 1
  | .lit _ => 1
  | .nil => 1
  | .ptr d => uptoBulk d + 1
  | .slice elems spare => uptoBulkAll elems + uptoBulkAll spare + 1
  | .agg parts => uptoBulkAll parts + 1
  | .iface _ d => uptoBulk d + 1
  | .map entries => uptoBulkEntries entries + 1
  | .held _ => 1
def uptoBulkAll {H : Type} : List (DataW H) → Nat
  | [] => 0
  | d :: r => uptoBulk d + uptoBulkAll r
def uptoBulkEntries {H : Type} : List (Lit × DataW H) → Nat
  | [] => 0
  | x :: r => uptoBulkEntry x + uptoBulkEntries r
def uptoBulkEntry {H : Type} : Lit × DataW H → Nat
  | (.string bytes, d) => bytes.length + uptoBulk d + 1
  | (_, d) => uptoBulk d + 1
 end
def uptoSmall : (H : Type) → List (DataW H) → Bool := fun _ ds => decide (uptoBulkAll ds ≤ 1048576)
def OpenSpec.upto (s : _root_.Go.ChangeSpec) : _root_.Go.OpenSpec := { _root_.Go.OpenSpec.ofChange s with cond := some uptoSmall }

/-- 'theodolitelaw01.BitsWrite', WHERE WHAT IT READS IS OF BULK AT MOST 1048576: true; the input reads as it did. -/
def bitsWriteUptoRow : OpenClaim := { program := "ytgncngpgodfijaa", sum := "61b8cf7cc342ea83746f02816812de0dc90a28d57fd424d225eb110cbb4281ac", func := "theodolite/theodolitelaw01.BitsWrite", spec := "bitsWrite", recurses := true, apart := false, narrowed := true }
def BitsWriteUptoSaid : Prop := bitsWriteUptoRow.holds Try.pinned (OpenSpec.upto bitsWriteSpec)

/-- 'theodolitelaw01.BitsBack', WHERE WHAT IT READS IS OF BULK AT MOST 1048576: true; the input reads as it did. -/
def bitsBackUptoRow : OpenClaim := { program := "ytgncngpgodfijaa", sum := "61b8cf7cc342ea83746f02816812de0dc90a28d57fd424d225eb110cbb4281ac", func := "theodolite/theodolitelaw01.BitsBack", spec := "bitsBack", recurses := true, apart := false, narrowed := true }
def BitsBackUptoSaid : Prop := bitsBackUptoRow.holds Try.pinned (OpenSpec.upto bitsBackSpec)

/-- 'theodolitelaw01.BitsRead', WHERE WHAT IT READS IS OF BULK AT MOST 1048576: true; the input reads as it did. -/
def bitsReadUptoRow : OpenClaim := { program := "ytgncngpgodfijaa", sum := "61b8cf7cc342ea83746f02816812de0dc90a28d57fd424d225eb110cbb4281ac", func := "theodolite/theodolitelaw01.BitsRead", spec := "bitsRead", apart := false, narrowed := true }
def BitsReadUptoSaid : Prop := bitsReadUptoRow.holds Try.pinned (OpenSpec.upto bitsReadSpec)

/-- 'theodolitelaw41.SchedPlans', WHERE WHAT IT READS IS OF BULK AT MOST 1048576: true; the input reads as it did. -/
def schedPlansUptoRow : OpenClaim := { program := "ytgncngpgodfijaa", sum := "61b8cf7cc342ea83746f02816812de0dc90a28d57fd424d225eb110cbb4281ac", func := "theodolite/theodolitelaw41.SchedPlans", spec := "schedPlans", apart := false, narrowed := true }
def SchedPlansUptoSaid : Prop := schedPlansUptoRow.holds Try.pinned (OpenSpec.upto schedPlansSpec)

/-- 'theodolitelaw41.SchedFits', WHERE WHAT IT READS IS OF BULK AT MOST 1048576: true; the input reads as it did. -/
def schedFitsUptoRow : OpenClaim := { program := "ytgncngpgodfijaa", sum := "61b8cf7cc342ea83746f02816812de0dc90a28d57fd424d225eb110cbb4281ac", func := "theodolite/theodolitelaw41.SchedFits", spec := "schedFits", apart := false, narrowed := true }
def SchedFitsUptoSaid : Prop := schedFitsUptoRow.holds Try.pinned (OpenSpec.upto schedFitsSpec)

/-- 'theodolitelaw41.SchedFull', WHERE WHAT IT READS IS OF BULK AT MOST 1048576: true; the input reads as it did. -/
def schedFullUptoRow : OpenClaim := { program := "ytgncngpgodfijaa", sum := "61b8cf7cc342ea83746f02816812de0dc90a28d57fd424d225eb110cbb4281ac", func := "theodolite/theodolitelaw41.SchedFull", spec := "schedFull", apart := false, narrowed := true }
def SchedFullUptoSaid : Prop := schedFullUptoRow.holds Try.pinned (OpenSpec.upto schedFullSpec)

/-- 'theodolitelaw41.SchedSafe', WHERE WHAT IT READS IS OF BULK AT MOST 1048576: true; the input reads as it did. -/
def schedSafeUptoRow : OpenClaim := { program := "ytgncngpgodfijaa", sum := "61b8cf7cc342ea83746f02816812de0dc90a28d57fd424d225eb110cbb4281ac", func := "theodolite/theodolitelaw41.SchedSafe", spec := "schedSafe", apart := false, narrowed := true }
def SchedSafeUptoSaid : Prop := schedSafeUptoRow.holds Try.pinned (OpenSpec.upto schedSafeSpec)

/-- 'theodolitelaw39.RouteChecks', WHERE WHAT IT READS IS OF BULK AT MOST 1048576: true; the input reads as it did. -/
def routeChecksUptoRow : OpenClaim := { program := "ytgncngpgodfijaa", sum := "61b8cf7cc342ea83746f02816812de0dc90a28d57fd424d225eb110cbb4281ac", func := "theodolite/theodolitelaw39.RouteChecks", spec := "routeChecks", unfollowed := true, recurses := true, apart := false, narrowed := true }
def RouteChecksUptoSaid : Prop := routeChecksUptoRow.holds Try.pinned (OpenSpec.upto routeChecksSpec)

/-- 'theodolitelaw39.RouteReach', WHERE WHAT IT READS IS OF BULK AT MOST 1048576: true; the input reads as it did. -/
def routeReachUptoRow : OpenClaim := { program := "ytgncngpgodfijaa", sum := "61b8cf7cc342ea83746f02816812de0dc90a28d57fd424d225eb110cbb4281ac", func := "theodolite/theodolitelaw39.RouteReach", spec := "routeReach", unfollowed := true, recurses := true, apart := false, narrowed := true }
def RouteReachUptoSaid : Prop := routeReachUptoRow.holds Try.pinned (OpenSpec.upto routeReachSpec)

/-- 'theodolitelaw39.RouteLeast', WHERE WHAT IT READS IS OF BULK AT MOST 1048576: true; the input reads as it did. -/
def routeLeastUptoRow : OpenClaim := { program := "ytgncngpgodfijaa", sum := "61b8cf7cc342ea83746f02816812de0dc90a28d57fd424d225eb110cbb4281ac", func := "theodolite/theodolitelaw39.RouteLeast", spec := "routeLeast", unfollowed := true, recurses := true, apart := false, narrowed := true }
def RouteLeastUptoSaid : Prop := routeLeastUptoRow.holds Try.pinned (OpenSpec.upto routeLeastSpec)

/-- 'theodolitelaw39.RouteRound', WHERE WHAT IT READS IS OF BULK AT MOST 1048576: true; the input reads as it did. -/
def routeRoundUptoRow : OpenClaim := { program := "ytgncngpgodfijaa", sum := "61b8cf7cc342ea83746f02816812de0dc90a28d57fd424d225eb110cbb4281ac", func := "theodolite/theodolitelaw39.RouteRound", spec := "routeRound", unfollowed := true, recurses := true, apart := false, narrowed := true }
def RouteRoundUptoSaid : Prop := routeRoundUptoRow.holds Try.pinned (OpenSpec.upto routeRoundSpec)

end Rows
end Go.Proofs.Ytgncngpgodfijaa
