/-
  No cell of these rows narrows 'for every input' (looked for: loops, veiled, ifaces, maps, wideKeys, modest, calm, conditions, laid).
  DERIVED. THE GIVEN ROWS OF THIS SEAT. 12 by the template 'for every input the law returns true; each argument reads behind the call as it read before'; 0 by the template 'total and deterministic' (their statements: YthkpnkmbmlbefaaTotals.lean).
  GIVEN WITH THE SEED: the statements are not yours to turn. If you find one false, say at which input.
  Laid BY PROGRAM, IN A SANDBOX (cutbox-rows.mjs): the forced cells as the released guide's own fill.sh prints them over the translation aa57e7a856e09b61… (all of the seat's roots in one cut). By AI agents, Wed Nov 11 2026. No macro, syntax, notation, axiom, sorry.
-/
import Derived.Test.YthkpnkmbmlbefaaChecked
import GoSem.Claim
import GoSem.ClaimJoined
import GoSem.ClaimMapViews
import Derived.JoinedTies
import Derived.KernelRfl
namespace Go.Proofs.Ythkpnkmbmlbefaa
/- THE CELL 'sum', in the pinned program and in every row, IS THE sha256 OF THE DUMP (.gsa) THAT YthkpnkmbmlbefaaProg.lean LOADS. Nothing in Lean hashes anything: it is a label: what it is worth is what the hold of that sum in a sandbox is worth. -/
noncomputable def Try.pinned : Pinned := { name := "ythkpnkmbmlbefaa", sum := "aa57e7a856e09b612640512b1f315be83520ae704be1500848c13c2e4fe339d5", checked := Try.checked }
namespace Rows
def none {H : Type} : Left H := { results := [], args := [] }

/-- 'timesynclaw18.TopoChecks': WHATEVER THE INPUT: true; the input reads as it did. -/
def topoChecksSpec : ChangeSpec := { name := "topoChecks", fn := fun _ => fun
  | [d] => { results := [.lit (.bool true)], args := [d] }
  | _ => none }
def topoChecksRow : OpenClaim := { program := "ythkpnkmbmlbefaa", sum := "aa57e7a856e09b612640512b1f315be83520ae704be1500848c13c2e4fe339d5", func := "timesync/timesynclaw18.TopoChecks", spec := "topoChecks", unfollowed := true, recurses := true, plainKeys := false, apart := false }
def TopoChecksSaid : Prop := topoChecksRow.holds Try.pinned (OpenSpec.ofChange topoChecksSpec)

/-- ITS FALSE NEIGHBOUR: 'it returns false'. Refute it at one input. -/
def topoChecksWrong : ChangeSpec := { name := "topoChecks", fn := fun _ => fun
  | [d] => { results := [.lit (.bool false)], args := [d] }
  | _ => none }
def TopoChecksWrongFalsely : Prop := topoChecksRow.holds Try.pinned (OpenSpec.ofChange topoChecksWrong)

/-- 'timesynclaw18.TopoPaths': WHATEVER THE INPUT: true; the input reads as it did. -/
def topoPathsSpec : ChangeSpec := { name := "topoPaths", fn := fun _ => fun
  | [d1, d2, d3] => { results := [.lit (.bool true)], args := [d1, d2, d3] }
  | _ => none }
def topoPathsRow : OpenClaim := { program := "ythkpnkmbmlbefaa", sum := "aa57e7a856e09b612640512b1f315be83520ae704be1500848c13c2e4fe339d5", func := "timesync/timesynclaw18.TopoPaths", spec := "topoPaths", unfollowed := true, recurses := true, plainKeys := false, apart := false }
def TopoPathsSaid : Prop := topoPathsRow.holds Try.pinned (OpenSpec.ofChange topoPathsSpec)

/-- ITS FALSE NEIGHBOUR: 'it returns false'. Refute it at one input. -/
def topoPathsWrong : ChangeSpec := { name := "topoPaths", fn := fun _ => fun
  | [d1, d2, d3] => { results := [.lit (.bool false)], args := [d1, d2, d3] }
  | _ => none }
def TopoPathsWrongFalsely : Prop := topoPathsRow.holds Try.pinned (OpenSpec.ofChange topoPathsWrong)

/-- 'timesynclaw18.TopoWays': WHATEVER THE INPUT: true; the input reads as it did. -/
def topoWaysSpec : ChangeSpec := { name := "topoWays", fn := fun _ => fun
  | [d1, d2, d3] => { results := [.lit (.bool true)], args := [d1, d2, d3] }
  | _ => none }
def topoWaysRow : OpenClaim := { program := "ythkpnkmbmlbefaa", sum := "aa57e7a856e09b612640512b1f315be83520ae704be1500848c13c2e4fe339d5", func := "timesync/timesynclaw18.TopoWays", spec := "topoWays", unfollowed := true, recurses := true, plainKeys := false, apart := false }
def TopoWaysSaid : Prop := topoWaysRow.holds Try.pinned (OpenSpec.ofChange topoWaysSpec)

/-- ITS FALSE NEIGHBOUR: 'it returns false'. Refute it at one input. -/
def topoWaysWrong : ChangeSpec := { name := "topoWays", fn := fun _ => fun
  | [d1, d2, d3] => { results := [.lit (.bool false)], args := [d1, d2, d3] }
  | _ => none }
def TopoWaysWrongFalsely : Prop := topoWaysRow.holds Try.pinned (OpenSpec.ofChange topoWaysWrong)

/-- 'timesynclaw18.TopoRenumbers': WHATEVER THE INPUT: true; the input reads as it did. -/
def topoRenumbersSpec : ChangeSpec := { name := "topoRenumbers", fn := fun _ => fun
  | [d1, d2] => { results := [.lit (.bool true)], args := [d1, d2] }
  | _ => none }
def topoRenumbersRow : OpenClaim := { program := "ythkpnkmbmlbefaa", sum := "aa57e7a856e09b612640512b1f315be83520ae704be1500848c13c2e4fe339d5", func := "timesync/timesynclaw18.TopoRenumbers", spec := "topoRenumbers", unfollowed := true, recurses := true, plainKeys := false, apart := false }
def TopoRenumbersSaid : Prop := topoRenumbersRow.holds Try.pinned (OpenSpec.ofChange topoRenumbersSpec)

/-- ITS FALSE NEIGHBOUR: 'it returns false'. Refute it at one input. -/
def topoRenumbersWrong : ChangeSpec := { name := "topoRenumbers", fn := fun _ => fun
  | [d1, d2] => { results := [.lit (.bool false)], args := [d1, d2] }
  | _ => none }
def TopoRenumbersWrongFalsely : Prop := topoRenumbersRow.holds Try.pinned (OpenSpec.ofChange topoRenumbersWrong)

/-- 'timesynctop.TopBoundaries': WHATEVER THE INPUT: true; the input reads as it did. -/
def topBoundariesSpec : ChangeSpec := { name := "topBoundaries", fn := fun _ => fun
  | [d] => { results := [.lit (.bool true)], args := [d] }
  | _ => none }
def topBoundariesRow : OpenClaim := { program := "ythkpnkmbmlbefaa", sum := "aa57e7a856e09b612640512b1f315be83520ae704be1500848c13c2e4fe339d5", func := "timesync/timesynctop.TopBoundaries", spec := "topBoundaries", unfollowed := true, recurses := true, plainKeys := false, apart := false }
def TopBoundariesSaid : Prop := topBoundariesRow.holds Try.pinned (OpenSpec.ofChange topBoundariesSpec)

/-- ITS FALSE NEIGHBOUR: 'it returns false'. Refute it at one input. -/
def topBoundariesWrong : ChangeSpec := { name := "topBoundaries", fn := fun _ => fun
  | [d] => { results := [.lit (.bool false)], args := [d] }
  | _ => none }
def TopBoundariesWrongFalsely : Prop := topBoundariesRow.holds Try.pinned (OpenSpec.ofChange topBoundariesWrong)

/-- 'timesynclaw18.TopoDistances': WHATEVER THE INPUT: true; the input reads as it did. -/
def topoDistancesSpec : ChangeSpec := { name := "topoDistances", fn := fun _ => fun
  | [d] => { results := [.lit (.bool true)], args := [d] }
  | _ => none }
def topoDistancesRow : OpenClaim := { program := "ythkpnkmbmlbefaa", sum := "aa57e7a856e09b612640512b1f315be83520ae704be1500848c13c2e4fe339d5", func := "timesync/timesynclaw18.TopoDistances", spec := "topoDistances", unfollowed := true, recurses := true, plainKeys := false, apart := false }
def TopoDistancesSaid : Prop := topoDistancesRow.holds Try.pinned (OpenSpec.ofChange topoDistancesSpec)

/-- ITS FALSE NEIGHBOUR: 'it returns false'. Refute it at one input. -/
def topoDistancesWrong : ChangeSpec := { name := "topoDistances", fn := fun _ => fun
  | [d] => { results := [.lit (.bool false)], args := [d] }
  | _ => none }
def TopoDistancesWrongFalsely : Prop := topoDistancesRow.holds Try.pinned (OpenSpec.ofChange topoDistancesWrong)

/-- 'timesynclaw18.TopoPorts': WHATEVER THE INPUT: true; the input reads as it did. -/
def topoPortsSpec : ChangeSpec := { name := "topoPorts", fn := fun _ => fun
  | [d1, d2, d3] => { results := [.lit (.bool true)], args := [d1, d2, d3] }
  | _ => none }
def topoPortsRow : OpenClaim := { program := "ythkpnkmbmlbefaa", sum := "aa57e7a856e09b612640512b1f315be83520ae704be1500848c13c2e4fe339d5", func := "timesync/timesynclaw18.TopoPorts", spec := "topoPorts", unfollowed := true, recurses := true, plainKeys := false, apart := false }
def TopoPortsSaid : Prop := topoPortsRow.holds Try.pinned (OpenSpec.ofChange topoPortsSpec)

/-- ITS FALSE NEIGHBOUR: 'it returns false'. Refute it at one input. -/
def topoPortsWrong : ChangeSpec := { name := "topoPorts", fn := fun _ => fun
  | [d1, d2, d3] => { results := [.lit (.bool false)], args := [d1, d2, d3] }
  | _ => none }
def TopoPortsWrongFalsely : Prop := topoPortsRow.holds Try.pinned (OpenSpec.ofChange topoPortsWrong)

/-- 'timesynclaw18.TopoPeers': WHATEVER THE INPUT: true; the input reads as it did. -/
def topoPeersSpec : ChangeSpec := { name := "topoPeers", fn := fun _ => fun
  | [d] => { results := [.lit (.bool true)], args := [d] }
  | _ => none }
def topoPeersRow : OpenClaim := { program := "ythkpnkmbmlbefaa", sum := "aa57e7a856e09b612640512b1f315be83520ae704be1500848c13c2e4fe339d5", func := "timesync/timesynclaw18.TopoPeers", spec := "topoPeers", unfollowed := true, recurses := true, plainKeys := false, apart := false }
def TopoPeersSaid : Prop := topoPeersRow.holds Try.pinned (OpenSpec.ofChange topoPeersSpec)

/-- ITS FALSE NEIGHBOUR: 'it returns false'. Refute it at one input. -/
def topoPeersWrong : ChangeSpec := { name := "topoPeers", fn := fun _ => fun
  | [d] => { results := [.lit (.bool false)], args := [d] }
  | _ => none }
def TopoPeersWrongFalsely : Prop := topoPeersRow.holds Try.pinned (OpenSpec.ofChange topoPeersWrong)

/-- 'timesynclaw42.ElectTree': WHATEVER THE INPUT: true; the input reads as it did. -/
def electTreeSpec : ChangeSpec := { name := "electTree", fn := fun _ => fun
  | [d1, d2] => { results := [.lit (.bool true)], args := [d1, d2] }
  | _ => none }
def electTreeRow : OpenClaim := { program := "ythkpnkmbmlbefaa", sum := "aa57e7a856e09b612640512b1f315be83520ae704be1500848c13c2e4fe339d5", func := "timesync/timesynclaw42.ElectTree", spec := "electTree", unfollowed := true, recurses := true, plainKeys := false, apart := false }
def ElectTreeSaid : Prop := electTreeRow.holds Try.pinned (OpenSpec.ofChange electTreeSpec)

/-- ITS FALSE NEIGHBOUR: 'it returns false'. Refute it at one input. -/
def electTreeWrong : ChangeSpec := { name := "electTree", fn := fun _ => fun
  | [d1, d2] => { results := [.lit (.bool false)], args := [d1, d2] }
  | _ => none }
def ElectTreeWrongFalsely : Prop := electTreeRow.holds Try.pinned (OpenSpec.ofChange electTreeWrong)

/-- 'timesynclaw42.ElectStarts': WHATEVER THE INPUT: true; the input reads as it did. -/
def electStartsSpec : ChangeSpec := { name := "electStarts", fn := fun _ => fun
  | [d] => { results := [.lit (.bool true)], args := [d] }
  | _ => none }
def electStartsRow : OpenClaim := { program := "ythkpnkmbmlbefaa", sum := "aa57e7a856e09b612640512b1f315be83520ae704be1500848c13c2e4fe339d5", func := "timesync/timesynclaw42.ElectStarts", spec := "electStarts", unfollowed := true, recurses := true, plainKeys := false, apart := false }
def ElectStartsSaid : Prop := electStartsRow.holds Try.pinned (OpenSpec.ofChange electStartsSpec)

/-- ITS FALSE NEIGHBOUR: 'it returns false'. Refute it at one input. -/
def electStartsWrong : ChangeSpec := { name := "electStarts", fn := fun _ => fun
  | [d] => { results := [.lit (.bool false)], args := [d] }
  | _ => none }
def ElectStartsWrongFalsely : Prop := electStartsRow.holds Try.pinned (OpenSpec.ofChange electStartsWrong)

/-- 'timesynclaw42.ElectOrders': WHATEVER THE INPUT: true; the input reads as it did. -/
def electOrdersSpec : ChangeSpec := { name := "electOrders", fn := fun _ => fun
  | [d] => { results := [.lit (.bool true)], args := [d] }
  | _ => none }
def electOrdersRow : OpenClaim := { program := "ythkpnkmbmlbefaa", sum := "aa57e7a856e09b612640512b1f315be83520ae704be1500848c13c2e4fe339d5", func := "timesync/timesynclaw42.ElectOrders", spec := "electOrders", unfollowed := true, recurses := true, plainKeys := false, apart := false }
def ElectOrdersSaid : Prop := electOrdersRow.holds Try.pinned (OpenSpec.ofChange electOrdersSpec)

/-- ITS FALSE NEIGHBOUR: 'it returns false'. Refute it at one input. -/
def electOrdersWrong : ChangeSpec := { name := "electOrders", fn := fun _ => fun
  | [d] => { results := [.lit (.bool false)], args := [d] }
  | _ => none }
def ElectOrdersWrongFalsely : Prop := electOrdersRow.holds Try.pinned (OpenSpec.ofChange electOrdersWrong)

/-- 'timesynclaw42.ElectSettles': WHATEVER THE INPUT: true; the input reads as it did. -/
def electSettlesSpec : ChangeSpec := { name := "electSettles", fn := fun _ => fun
  | [d1, d2, d3] => { results := [.lit (.bool true)], args := [d1, d2, d3] }
  | _ => none }
def electSettlesRow : OpenClaim := { program := "ythkpnkmbmlbefaa", sum := "aa57e7a856e09b612640512b1f315be83520ae704be1500848c13c2e4fe339d5", func := "timesync/timesynclaw42.ElectSettles", spec := "electSettles", unfollowed := true, recurses := true, plainKeys := false, apart := false }
def ElectSettlesSaid : Prop := electSettlesRow.holds Try.pinned (OpenSpec.ofChange electSettlesSpec)

/-- ITS FALSE NEIGHBOUR: 'it returns false'. Refute it at one input. -/
def electSettlesWrong : ChangeSpec := { name := "electSettles", fn := fun _ => fun
  | [d1, d2, d3] => { results := [.lit (.bool false)], args := [d1, d2, d3] }
  | _ => none }
def ElectSettlesWrongFalsely : Prop := electSettlesRow.holds Try.pinned (OpenSpec.ofChange electSettlesWrong)

/- THE SECOND FORM. 'bulk': how many values and letters a reading holds, each counted each time it is reached (what is shared counts as often as it is met; a slice's spare places count too). A statement '..UptoSaid' is the law's where the arguments, and the package variables that the reading takes, are together of bulk at most 1048576: NARROWER than '..Said'. Prove '..Said' where nothing that the law and all that it calls make is longer than what came in: it says more and counts as full. Else prove '..UptoSaid'. A law counts once. -/
mutual
def uptoBulk {H : Type} : DataW H → Nat
  | .lit (.string bytes) => bytes.length + 1
  | .lit _ => 1
  | .nil => 1
  | .ptr d => uptoBulk d + 1
  | .slice elems spare => uptoBulkAll elems + uptoBulkAll spare + 1
  | .agg parts => uptoBulkAll parts + 1
  | .iface _ d => uptoBulk d + 1
  | .map entries => uptoBulkEntries entries + 1
  | .held _ => 1
def uptoBulkAll {H : Type} : List (DataW H) → Nat
  | [] => 0
  | d :: r => uptoBulk d + uptoBulkAll r
def uptoBulkEntries {H : Type} : List (Lit × DataW H) → Nat
  | [] => 0
  | x :: r => uptoBulkEntry x + uptoBulkEntries r
def uptoBulkEntry {H : Type} : Lit × DataW H → Nat
  | (.string bytes, d) => bytes.length + uptoBulk d + 1
  | (_, d) => uptoBulk d + 1
 end
def uptoSmall : (H : Type) → List (DataW H) → Bool := fun _ ds => decide (uptoBulkAll ds ≤ 1048576)
def OpenSpec.upto (s : _root_.Go.ChangeSpec) : _root_.Go.OpenSpec := { _root_.Go.OpenSpec.ofChange s with cond := some uptoSmall }

/-- 'timesynclaw18.TopoChecks', WHERE WHAT IT READS IS OF BULK AT MOST 1048576: true; the input reads as it did. -/
def topoChecksUptoRow : OpenClaim := { program := "ythkpnkmbmlbefaa", sum := "aa57e7a856e09b612640512b1f315be83520ae704be1500848c13c2e4fe339d5", func := "timesync/timesynclaw18.TopoChecks", spec := "topoChecks", unfollowed := true, recurses := true, plainKeys := false, apart := false, narrowed := true }
def TopoChecksUptoSaid : Prop := topoChecksUptoRow.holds Try.pinned (OpenSpec.upto topoChecksSpec)

/-- 'timesynclaw18.TopoPaths', WHERE WHAT IT READS IS OF BULK AT MOST 1048576: true; the input reads as it did. -/
def topoPathsUptoRow : OpenClaim := { program := "ythkpnkmbmlbefaa", sum := "aa57e7a856e09b612640512b1f315be83520ae704be1500848c13c2e4fe339d5", func := "timesync/timesynclaw18.TopoPaths", spec := "topoPaths", unfollowed := true, recurses := true, plainKeys := false, apart := false, narrowed := true }
def TopoPathsUptoSaid : Prop := topoPathsUptoRow.holds Try.pinned (OpenSpec.upto topoPathsSpec)

/-- 'timesynclaw18.TopoWays', WHERE WHAT IT READS IS OF BULK AT MOST 1048576: true; the input reads as it did. -/
def topoWaysUptoRow : OpenClaim := { program := "ythkpnkmbmlbefaa", sum := "aa57e7a856e09b612640512b1f315be83520ae704be1500848c13c2e4fe339d5", func := "timesync/timesynclaw18.TopoWays", spec := "topoWays", unfollowed := true, recurses := true, plainKeys := false, apart := false, narrowed := true }
def TopoWaysUptoSaid : Prop := topoWaysUptoRow.holds Try.pinned (OpenSpec.upto topoWaysSpec)

/-- 'timesynclaw18.TopoRenumbers', WHERE WHAT IT READS IS OF BULK AT MOST 1048576: true; the input reads as it did. -/
def topoRenumbersUptoRow : OpenClaim := { program := "ythkpnkmbmlbefaa", sum := "aa57e7a856e09b612640512b1f315be83520ae704be1500848c13c2e4fe339d5", func := "timesync/timesynclaw18.TopoRenumbers", spec := "topoRenumbers", unfollowed := true, recurses := true, plainKeys := false, apart := false, narrowed := true }
def TopoRenumbersUptoSaid : Prop := topoRenumbersUptoRow.holds Try.pinned (OpenSpec.upto topoRenumbersSpec)

/-- 'timesynctop.TopBoundaries', WHERE WHAT IT READS IS OF BULK AT MOST 1048576: true; the input reads as it did. -/
def topBoundariesUptoRow : OpenClaim := { program := "ythkpnkmbmlbefaa", sum := "aa57e7a856e09b612640512b1f315be83520ae704be1500848c13c2e4fe339d5", func := "timesync/timesynctop.TopBoundaries", spec := "topBoundaries", unfollowed := true, recurses := true, plainKeys := false, apart := false, narrowed := true }
def TopBoundariesUptoSaid : Prop := topBoundariesUptoRow.holds Try.pinned (OpenSpec.upto topBoundariesSpec)

/-- 'timesynclaw18.TopoDistances', WHERE WHAT IT READS IS OF BULK AT MOST 1048576: true; the input reads as it did. -/
def topoDistancesUptoRow : OpenClaim := { program := "ythkpnkmbmlbefaa", sum := "aa57e7a856e09b612640512b1f315be83520ae704be1500848c13c2e4fe339d5", func := "timesync/timesynclaw18.TopoDistances", spec := "topoDistances", unfollowed := true, recurses := true, plainKeys := false, apart := false, narrowed := true }
def TopoDistancesUptoSaid : Prop := topoDistancesUptoRow.holds Try.pinned (OpenSpec.upto topoDistancesSpec)

/-- 'timesynclaw18.TopoPorts', WHERE WHAT IT READS IS OF BULK AT MOST 1048576: true; the input reads as it did. -/
def topoPortsUptoRow : OpenClaim := { program := "ythkpnkmbmlbefaa", sum := "aa57e7a856e09b612640512b1f315be83520ae704be1500848c13c2e4fe339d5", func := "timesync/timesynclaw18.TopoPorts", spec := "topoPorts", unfollowed := true, recurses := true, plainKeys := false, apart := false, narrowed := true }
def TopoPortsUptoSaid : Prop := topoPortsUptoRow.holds Try.pinned (OpenSpec.upto topoPortsSpec)

/-- 'timesynclaw18.TopoPeers', WHERE WHAT IT READS IS OF BULK AT MOST 1048576: true; the input reads as it did. -/
def topoPeersUptoRow : OpenClaim := { program := "ythkpnkmbmlbefaa", sum := "aa57e7a856e09b612640512b1f315be83520ae704be1500848c13c2e4fe339d5", func := "timesync/timesynclaw18.TopoPeers", spec := "topoPeers", unfollowed := true, recurses := true, plainKeys := false, apart := false, narrowed := true }
def TopoPeersUptoSaid : Prop := topoPeersUptoRow.holds Try.pinned (OpenSpec.upto topoPeersSpec)

/-- 'timesynclaw42.ElectTree', WHERE WHAT IT READS IS OF BULK AT MOST 1048576: true; the input reads as it did. -/
def electTreeUptoRow : OpenClaim := { program := "ythkpnkmbmlbefaa", sum := "aa57e7a856e09b612640512b1f315be83520ae704be1500848c13c2e4fe339d5", func := "timesync/timesynclaw42.ElectTree", spec := "electTree", unfollowed := true, recurses := true, plainKeys := false, apart := false, narrowed := true }
def ElectTreeUptoSaid : Prop := electTreeUptoRow.holds Try.pinned (OpenSpec.upto electTreeSpec)

/-- 'timesynclaw42.ElectStarts', WHERE WHAT IT READS IS OF BULK AT MOST 1048576: true; the input reads as it did. -/
def electStartsUptoRow : OpenClaim := { program := "ythkpnkmbmlbefaa", sum := "aa57e7a856e09b612640512b1f315be83520ae704be1500848c13c2e4fe339d5", func := "timesync/timesynclaw42.ElectStarts", spec := "electStarts", unfollowed := true, recurses := true, plainKeys := false, apart := false, narrowed := true }
def ElectStartsUptoSaid : Prop := electStartsUptoRow.holds Try.pinned (OpenSpec.upto electStartsSpec)

/-- 'timesynclaw42.ElectOrders', WHERE WHAT IT READS IS OF BULK AT MOST 1048576: true; the input reads as it did. -/
def electOrdersUptoRow : OpenClaim := { program := "ythkpnkmbmlbefaa", sum := "aa57e7a856e09b612640512b1f315be83520ae704be1500848c13c2e4fe339d5", func := "timesync/timesynclaw42.ElectOrders", spec := "electOrders", unfollowed := true, recurses := true, plainKeys := false, apart := false, narrowed := true }
def ElectOrdersUptoSaid : Prop := electOrdersUptoRow.holds Try.pinned (OpenSpec.upto electOrdersSpec)

/-- 'timesynclaw42.ElectSettles', WHERE WHAT IT READS IS OF BULK AT MOST 1048576: true; the input reads as it did. -/
def electSettlesUptoRow : OpenClaim := { program := "ythkpnkmbmlbefaa", sum := "aa57e7a856e09b612640512b1f315be83520ae704be1500848c13c2e4fe339d5", func := "timesync/timesynclaw42.ElectSettles", spec := "electSettles", unfollowed := true, recurses := true, plainKeys := false, apart := false, narrowed := true }
def ElectSettlesUptoSaid : Prop := electSettlesUptoRow.holds Try.pinned (OpenSpec.upto electSettlesSpec)

end Rows
end Go.Proofs.Ythkpnkmbmlbefaa
