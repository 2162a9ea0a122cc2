/-
  No cell of these rows narrows 'for every input' (looked for: loops, veiled, ifaces, maps, wideKeys, modest, calm, conditions, laid).
  DERIVED. THE GIVEN ROWS OF THIS SEAT. 11 by the template 'for every input the law returns true; each argument reads behind the call as it read before'; 0 by the template 'total and deterministic' (their statements: YtlfilhplklifjaaTotals.lean).
  GIVEN WITH THE SEED: the statements are not yours to turn. If you find one false, say at which input.
  Laid BY PROGRAM, IN A SANDBOX (cutbox-rows.mjs): the forced cells as the released guide's own fill.sh prints them over the translation 676a881adb0c6d54… (all of the seat's roots in one cut). By AI agents, Wed Nov 11 2026. No macro, syntax, notation, axiom, sorry.
-/
import Derived.Test.YtlfilhplklifjaaChecked
import GoSem.Claim
import GoSem.ClaimJoined
import GoSem.ClaimMapViews
import Derived.JoinedTies
import Derived.KernelRfl
namespace Go.Proofs.Ytlfilhplklifjaa
/- THE CELL 'sum', in the pinned program and in every row, IS THE sha256 OF THE DUMP (.gsa) THAT YtlfilhplklifjaaProg.lean LOADS. Nothing in Lean hashes anything: it is a label: what it is worth is what the hold of that sum in a sandbox is worth. -/
noncomputable def Try.pinned : Pinned := { name := "ytlfilhplklifjaa", sum := "676a881adb0c6d54aeb586e6b99bbc47a1b7a7c73b43648c3ca20b6d65228e09", checked := Try.checked }
namespace Rows
def none {H : Type} : Left H := { results := [], args := [] }

/-- 'timesynclaw24.ChooseChecks': WHATEVER THE INPUT: true; the input reads as it did. -/
def chooseChecksSpec : ChangeSpec := { name := "chooseChecks", fn := fun _ => fun
  | [d] => { results := [.lit (.bool true)], args := [d] }
  | _ => none }
def chooseChecksRow : OpenClaim := { program := "ytlfilhplklifjaa", sum := "676a881adb0c6d54aeb586e6b99bbc47a1b7a7c73b43648c3ca20b6d65228e09", func := "timesync/timesynclaw24.ChooseChecks", spec := "chooseChecks", unfollowed := true, recurses := true, apart := false }
def ChooseChecksSaid : Prop := chooseChecksRow.holds Try.pinned (OpenSpec.ofChange chooseChecksSpec)

/-- ITS FALSE NEIGHBOUR: 'it returns false'. Refute it at one input. -/
def chooseChecksWrong : ChangeSpec := { name := "chooseChecks", fn := fun _ => fun
  | [d] => { results := [.lit (.bool false)], args := [d] }
  | _ => none }
def ChooseChecksWrongFalsely : Prop := chooseChecksRow.holds Try.pinned (OpenSpec.ofChange chooseChecksWrong)

/-- 'timesynclaw24.ChooseSelects': WHATEVER THE INPUT: true; the input reads as it did. -/
def chooseSelectsSpec : ChangeSpec := { name := "chooseSelects", fn := fun _ => fun
  | [d] => { results := [.lit (.bool true)], args := [d] }
  | _ => none }
def chooseSelectsRow : OpenClaim := { program := "ytlfilhplklifjaa", sum := "676a881adb0c6d54aeb586e6b99bbc47a1b7a7c73b43648c3ca20b6d65228e09", func := "timesync/timesynclaw24.ChooseSelects", spec := "chooseSelects", unfollowed := true, recurses := true, apart := false }
def ChooseSelectsSaid : Prop := chooseSelectsRow.holds Try.pinned (OpenSpec.ofChange chooseSelectsSpec)

/-- ITS FALSE NEIGHBOUR: 'it returns false'. Refute it at one input. -/
def chooseSelectsWrong : ChangeSpec := { name := "chooseSelects", fn := fun _ => fun
  | [d] => { results := [.lit (.bool false)], args := [d] }
  | _ => none }
def ChooseSelectsWrongFalsely : Prop := chooseSelectsRow.holds Try.pinned (OpenSpec.ofChange chooseSelectsWrong)

/-- 'timesynclaw24.ChooseMajority': WHATEVER THE INPUT: true; the input reads as it did. -/
def chooseMajoritySpec : ChangeSpec := { name := "chooseMajority", fn := fun _ => fun
  | [d1, d2] => { results := [.lit (.bool true)], args := [d1, d2] }
  | _ => none }
def chooseMajorityRow : OpenClaim := { program := "ytlfilhplklifjaa", sum := "676a881adb0c6d54aeb586e6b99bbc47a1b7a7c73b43648c3ca20b6d65228e09", func := "timesync/timesynclaw24.ChooseMajority", spec := "chooseMajority", unfollowed := true, recurses := true, apart := false }
def ChooseMajoritySaid : Prop := chooseMajorityRow.holds Try.pinned (OpenSpec.ofChange chooseMajoritySpec)

/-- ITS FALSE NEIGHBOUR: 'it returns false'. Refute it at one input. -/
def chooseMajorityWrong : ChangeSpec := { name := "chooseMajority", fn := fun _ => fun
  | [d1, d2] => { results := [.lit (.bool false)], args := [d1, d2] }
  | _ => none }
def ChooseMajorityWrongFalsely : Prop := chooseMajorityRow.holds Try.pinned (OpenSpec.ofChange chooseMajorityWrong)

/-- 'timesynclaw24.ChooseMeets': WHATEVER THE INPUT: true; the input reads as it did. -/
def chooseMeetsSpec : ChangeSpec := { name := "chooseMeets", fn := fun _ => fun
  | [d1, d2, d3] => { results := [.lit (.bool true)], args := [d1, d2, d3] }
  | _ => none }
def chooseMeetsRow : OpenClaim := { program := "ytlfilhplklifjaa", sum := "676a881adb0c6d54aeb586e6b99bbc47a1b7a7c73b43648c3ca20b6d65228e09", func := "timesync/timesynclaw24.ChooseMeets", spec := "chooseMeets", unfollowed := true, recurses := true, apart := false }
def ChooseMeetsSaid : Prop := chooseMeetsRow.holds Try.pinned (OpenSpec.ofChange chooseMeetsSpec)

/-- ITS FALSE NEIGHBOUR: 'it returns false'. Refute it at one input. -/
def chooseMeetsWrong : ChangeSpec := { name := "chooseMeets", fn := fun _ => fun
  | [d1, d2, d3] => { results := [.lit (.bool false)], args := [d1, d2, d3] }
  | _ => none }
def ChooseMeetsWrongFalsely : Prop := chooseMeetsRow.holds Try.pinned (OpenSpec.ofChange chooseMeetsWrong)

/-- 'timesynctop.TopMean': WHATEVER THE INPUT: true; the input reads as it did. -/
def topMeanSpec : ChangeSpec := { name := "topMean", fn := fun _ => fun
  | [d1, d2, d3] => { results := [.lit (.bool true)], args := [d1, d2, d3] }
  | _ => none }
def topMeanRow : OpenClaim := { program := "ytlfilhplklifjaa", sum := "676a881adb0c6d54aeb586e6b99bbc47a1b7a7c73b43648c3ca20b6d65228e09", func := "timesync/timesynctop.TopMean", spec := "topMean", inPlace := ["math/bits.Add64"], unfollowed := true, recurses := true, named := ["math/bits.divideError", "math/bits.overflowError"], apart := false }
def TopMeanSaid : Prop := topMeanRow.holds Try.pinned (OpenSpec.ofChange topMeanSpec)

/-- ITS FALSE NEIGHBOUR: 'it returns false'. Refute it at one input. -/
def topMeanWrong : ChangeSpec := { name := "topMean", fn := fun _ => fun
  | [d1, d2, d3] => { results := [.lit (.bool false)], args := [d1, d2, d3] }
  | _ => none }
def TopMeanWrongFalsely : Prop := topMeanRow.holds Try.pinned (OpenSpec.ofChange topMeanWrong)

/-- 'timesynclaw24.ChooseShifts': WHATEVER THE INPUT: true; the input reads as it did. -/
def chooseShiftsSpec : ChangeSpec := { name := "chooseShifts", fn := fun _ => fun
  | [d1, d2] => { results := [.lit (.bool true)], args := [d1, d2] }
  | _ => none }
def chooseShiftsRow : OpenClaim := { program := "ytlfilhplklifjaa", sum := "676a881adb0c6d54aeb586e6b99bbc47a1b7a7c73b43648c3ca20b6d65228e09", func := "timesync/timesynclaw24.ChooseShifts", spec := "chooseShifts", unfollowed := true, recurses := true, apart := false }
def ChooseShiftsSaid : Prop := chooseShiftsRow.holds Try.pinned (OpenSpec.ofChange chooseShiftsSpec)

/-- ITS FALSE NEIGHBOUR: 'it returns false'. Refute it at one input. -/
def chooseShiftsWrong : ChangeSpec := { name := "chooseShifts", fn := fun _ => fun
  | [d1, d2] => { results := [.lit (.bool false)], args := [d1, d2] }
  | _ => none }
def ChooseShiftsWrongFalsely : Prop := chooseShiftsRow.holds Try.pinned (OpenSpec.ofChange chooseShiftsWrong)

/-- 'timesynclaw24.ChooseTogether': WHATEVER THE INPUT: true; the input reads as it did. -/
def chooseTogetherSpec : ChangeSpec := { name := "chooseTogether", fn := fun _ => fun
  | [d1, d2] => { results := [.lit (.bool true)], args := [d1, d2] }
  | _ => none }
def chooseTogetherRow : OpenClaim := { program := "ytlfilhplklifjaa", sum := "676a881adb0c6d54aeb586e6b99bbc47a1b7a7c73b43648c3ca20b6d65228e09", func := "timesync/timesynclaw24.ChooseTogether", spec := "chooseTogether", unfollowed := true, recurses := true, apart := false }
def ChooseTogetherSaid : Prop := chooseTogetherRow.holds Try.pinned (OpenSpec.ofChange chooseTogetherSpec)

/-- ITS FALSE NEIGHBOUR: 'it returns false'. Refute it at one input. -/
def chooseTogetherWrong : ChangeSpec := { name := "chooseTogether", fn := fun _ => fun
  | [d1, d2] => { results := [.lit (.bool false)], args := [d1, d2] }
  | _ => none }
def ChooseTogetherWrongFalsely : Prop := chooseTogetherRow.holds Try.pinned (OpenSpec.ofChange chooseTogetherWrong)

/-- 'timesynclaw24.ChooseTruth': WHATEVER THE INPUT: true; the input reads as it did. -/
def chooseTruthSpec : ChangeSpec := { name := "chooseTruth", fn := fun _ => fun
  | [d1, d2] => { results := [.lit (.bool true)], args := [d1, d2] }
  | _ => none }
def chooseTruthRow : OpenClaim := { program := "ytlfilhplklifjaa", sum := "676a881adb0c6d54aeb586e6b99bbc47a1b7a7c73b43648c3ca20b6d65228e09", func := "timesync/timesynclaw24.ChooseTruth", spec := "chooseTruth", unfollowed := true, recurses := true, apart := false }
def ChooseTruthSaid : Prop := chooseTruthRow.holds Try.pinned (OpenSpec.ofChange chooseTruthSpec)

/-- ITS FALSE NEIGHBOUR: 'it returns false'. Refute it at one input. -/
def chooseTruthWrong : ChangeSpec := { name := "chooseTruth", fn := fun _ => fun
  | [d1, d2] => { results := [.lit (.bool false)], args := [d1, d2] }
  | _ => none }
def ChooseTruthWrongFalsely : Prop := chooseTruthRow.holds Try.pinned (OpenSpec.ofChange chooseTruthWrong)

/-- 'timesynclaw23.IntervalTurned': WHATEVER THE INPUT: true; the input reads as it did. -/
def intervalTurnedSpec : ChangeSpec := { name := "intervalTurned", fn := fun _ => fun
  | [d1, d2] => { results := [.lit (.bool true)], args := [d1, d2] }
  | _ => none }
def intervalTurnedRow : OpenClaim := { program := "ytlfilhplklifjaa", sum := "676a881adb0c6d54aeb586e6b99bbc47a1b7a7c73b43648c3ca20b6d65228e09", func := "timesync/timesynclaw23.IntervalTurned", spec := "intervalTurned", unfollowed := true, recurses := true, apart := false }
def IntervalTurnedSaid : Prop := intervalTurnedRow.holds Try.pinned (OpenSpec.ofChange intervalTurnedSpec)

/-- ITS FALSE NEIGHBOUR: 'it returns false'. Refute it at one input. -/
def intervalTurnedWrong : ChangeSpec := { name := "intervalTurned", fn := fun _ => fun
  | [d1, d2] => { results := [.lit (.bool false)], args := [d1, d2] }
  | _ => none }
def IntervalTurnedWrongFalsely : Prop := intervalTurnedRow.holds Try.pinned (OpenSpec.ofChange intervalTurnedWrong)

/-- 'timesynclaw23.IntervalContains': WHATEVER THE INPUT: true; the input reads as it did. -/
def intervalContainsSpec : ChangeSpec := { name := "intervalContains", fn := fun _ => fun
  | [d1, d2, d3] => { results := [.lit (.bool true)], args := [d1, d2, d3] }
  | _ => none }
def intervalContainsRow : OpenClaim := { program := "ytlfilhplklifjaa", sum := "676a881adb0c6d54aeb586e6b99bbc47a1b7a7c73b43648c3ca20b6d65228e09", func := "timesync/timesynclaw23.IntervalContains", spec := "intervalContains", unfollowed := true, recurses := true, apart := false }
def IntervalContainsSaid : Prop := intervalContainsRow.holds Try.pinned (OpenSpec.ofChange intervalContainsSpec)

/-- ITS FALSE NEIGHBOUR: 'it returns false'. Refute it at one input. -/
def intervalContainsWrong : ChangeSpec := { name := "intervalContains", fn := fun _ => fun
  | [d1, d2, d3] => { results := [.lit (.bool false)], args := [d1, d2, d3] }
  | _ => none }
def IntervalContainsWrongFalsely : Prop := intervalContainsRow.holds Try.pinned (OpenSpec.ofChange intervalContainsWrong)

/-- 'timesynclaw23.IntervalPeaks': WHATEVER THE INPUT: true; the input reads as it did. -/
def intervalPeaksSpec : ChangeSpec := { name := "intervalPeaks", fn := fun _ => fun
  | [d1, d2] => { results := [.lit (.bool true)], args := [d1, d2] }
  | _ => none }
def intervalPeaksRow : OpenClaim := { program := "ytlfilhplklifjaa", sum := "676a881adb0c6d54aeb586e6b99bbc47a1b7a7c73b43648c3ca20b6d65228e09", func := "timesync/timesynclaw23.IntervalPeaks", spec := "intervalPeaks", unfollowed := true, recurses := true, apart := false }
def IntervalPeaksSaid : Prop := intervalPeaksRow.holds Try.pinned (OpenSpec.ofChange intervalPeaksSpec)

/-- ITS FALSE NEIGHBOUR: 'it returns false'. Refute it at one input. -/
def intervalPeaksWrong : ChangeSpec := { name := "intervalPeaks", fn := fun _ => fun
  | [d1, d2] => { results := [.lit (.bool false)], args := [d1, d2] }
  | _ => none }
def IntervalPeaksWrongFalsely : Prop := intervalPeaksRow.holds Try.pinned (OpenSpec.ofChange intervalPeaksWrong)

/- THE SECOND FORM. 'bulk': how many values and letters a reading holds, each counted each time it is reached (what is shared counts as often as it is met; a slice's spare places count too). A statement '..UptoSaid' is the law's where the arguments, and the package variables that the reading takes, are together of bulk at most 1048576: NARROWER than '..Said'. Prove '..Said' where nothing that the law and all that it calls make is longer than what came in: it says more and counts as full. Else prove '..UptoSaid'. A law counts once. -/
mutual
def uptoBulk {H : Type} : DataW H → Nat
  | .lit (.string bytes) => bytes.length + 1
  | .lit _ => 1
  | .nil => 1
  | .ptr d => uptoBulk d + 1
  | .slice elems spare => uptoBulkAll elems + uptoBulkAll spare + 1
  | .agg parts => uptoBulkAll parts + 1
  | .iface _ d => uptoBulk d + 1
  | .map entries => uptoBulkEntries entries + 1
  | .held _ => 1
def uptoBulkAll {H : Type} : List (DataW H) → Nat
  | [] => 0
  | d :: r => uptoBulk d + uptoBulkAll r
def uptoBulkEntries {H : Type} : List (Lit × DataW H) → Nat
  | [] => 0
  | x :: r => uptoBulkEntry x + uptoBulkEntries r
def uptoBulkEntry {H : Type} : Lit × DataW H → Nat
  | (.string bytes, d) => bytes.length + uptoBulk d + 1
  | (_, d) => uptoBulk d + 1
 end
def uptoSmall : (H : Type) → List (DataW H) → Bool := fun _ ds => decide (uptoBulkAll ds ≤ 1048576)
def OpenSpec.upto (s : _root_.Go.ChangeSpec) : _root_.Go.OpenSpec := { _root_.Go.OpenSpec.ofChange s with cond := some uptoSmall }

/-- 'timesynclaw24.ChooseChecks', WHERE WHAT IT READS IS OF BULK AT MOST 1048576: true; the input reads as it did. -/
def chooseChecksUptoRow : OpenClaim := { program := "ytlfilhplklifjaa", sum := "676a881adb0c6d54aeb586e6b99bbc47a1b7a7c73b43648c3ca20b6d65228e09", func := "timesync/timesynclaw24.ChooseChecks", spec := "chooseChecks", unfollowed := true, recurses := true, apart := false, narrowed := true }
def ChooseChecksUptoSaid : Prop := chooseChecksUptoRow.holds Try.pinned (OpenSpec.upto chooseChecksSpec)

/-- 'timesynclaw24.ChooseSelects', WHERE WHAT IT READS IS OF BULK AT MOST 1048576: true; the input reads as it did. -/
def chooseSelectsUptoRow : OpenClaim := { program := "ytlfilhplklifjaa", sum := "676a881adb0c6d54aeb586e6b99bbc47a1b7a7c73b43648c3ca20b6d65228e09", func := "timesync/timesynclaw24.ChooseSelects", spec := "chooseSelects", unfollowed := true, recurses := true, apart := false, narrowed := true }
def ChooseSelectsUptoSaid : Prop := chooseSelectsUptoRow.holds Try.pinned (OpenSpec.upto chooseSelectsSpec)

/-- 'timesynclaw24.ChooseMajority', WHERE WHAT IT READS IS OF BULK AT MOST 1048576: true; the input reads as it did. -/
def chooseMajorityUptoRow : OpenClaim := { program := "ytlfilhplklifjaa", sum := "676a881adb0c6d54aeb586e6b99bbc47a1b7a7c73b43648c3ca20b6d65228e09", func := "timesync/timesynclaw24.ChooseMajority", spec := "chooseMajority", unfollowed := true, recurses := true, apart := false, narrowed := true }
def ChooseMajorityUptoSaid : Prop := chooseMajorityUptoRow.holds Try.pinned (OpenSpec.upto chooseMajoritySpec)

/-- 'timesynclaw24.ChooseMeets', WHERE WHAT IT READS IS OF BULK AT MOST 1048576: true; the input reads as it did. -/
def chooseMeetsUptoRow : OpenClaim := { program := "ytlfilhplklifjaa", sum := "676a881adb0c6d54aeb586e6b99bbc47a1b7a7c73b43648c3ca20b6d65228e09", func := "timesync/timesynclaw24.ChooseMeets", spec := "chooseMeets", unfollowed := true, recurses := true, apart := false, narrowed := true }
def ChooseMeetsUptoSaid : Prop := chooseMeetsUptoRow.holds Try.pinned (OpenSpec.upto chooseMeetsSpec)

/-- 'timesynctop.TopMean', WHERE WHAT IT READS IS OF BULK AT MOST 1048576: true; the input reads as it did. -/
def topMeanUptoRow : OpenClaim := { program := "ytlfilhplklifjaa", sum := "676a881adb0c6d54aeb586e6b99bbc47a1b7a7c73b43648c3ca20b6d65228e09", func := "timesync/timesynctop.TopMean", spec := "topMean", inPlace := ["math/bits.Add64"], unfollowed := true, recurses := true, named := ["math/bits.divideError", "math/bits.overflowError"], apart := false, narrowed := true }
def TopMeanUptoSaid : Prop := topMeanUptoRow.holds Try.pinned (OpenSpec.upto topMeanSpec)

/-- 'timesynclaw24.ChooseShifts', WHERE WHAT IT READS IS OF BULK AT MOST 1048576: true; the input reads as it did. -/
def chooseShiftsUptoRow : OpenClaim := { program := "ytlfilhplklifjaa", sum := "676a881adb0c6d54aeb586e6b99bbc47a1b7a7c73b43648c3ca20b6d65228e09", func := "timesync/timesynclaw24.ChooseShifts", spec := "chooseShifts", unfollowed := true, recurses := true, apart := false, narrowed := true }
def ChooseShiftsUptoSaid : Prop := chooseShiftsUptoRow.holds Try.pinned (OpenSpec.upto chooseShiftsSpec)

/-- 'timesynclaw24.ChooseTogether', WHERE WHAT IT READS IS OF BULK AT MOST 1048576: true; the input reads as it did. -/
def chooseTogetherUptoRow : OpenClaim := { program := "ytlfilhplklifjaa", sum := "676a881adb0c6d54aeb586e6b99bbc47a1b7a7c73b43648c3ca20b6d65228e09", func := "timesync/timesynclaw24.ChooseTogether", spec := "chooseTogether", unfollowed := true, recurses := true, apart := false, narrowed := true }
def ChooseTogetherUptoSaid : Prop := chooseTogetherUptoRow.holds Try.pinned (OpenSpec.upto chooseTogetherSpec)

/-- 'timesynclaw24.ChooseTruth', WHERE WHAT IT READS IS OF BULK AT MOST 1048576: true; the input reads as it did. -/
def chooseTruthUptoRow : OpenClaim := { program := "ytlfilhplklifjaa", sum := "676a881adb0c6d54aeb586e6b99bbc47a1b7a7c73b43648c3ca20b6d65228e09", func := "timesync/timesynclaw24.ChooseTruth", spec := "chooseTruth", unfollowed := true, recurses := true, apart := false, narrowed := true }
def ChooseTruthUptoSaid : Prop := chooseTruthUptoRow.holds Try.pinned (OpenSpec.upto chooseTruthSpec)

/-- 'timesynclaw23.IntervalTurned', WHERE WHAT IT READS IS OF BULK AT MOST 1048576: true; the input reads as it did. -/
def intervalTurnedUptoRow : OpenClaim := { program := "ytlfilhplklifjaa", sum := "676a881adb0c6d54aeb586e6b99bbc47a1b7a7c73b43648c3ca20b6d65228e09", func := "timesync/timesynclaw23.IntervalTurned", spec := "intervalTurned", unfollowed := true, recurses := true, apart := false, narrowed := true }
def IntervalTurnedUptoSaid : Prop := intervalTurnedUptoRow.holds Try.pinned (OpenSpec.upto intervalTurnedSpec)

/-- 'timesynclaw23.IntervalContains', WHERE WHAT IT READS IS OF BULK AT MOST 1048576: true; the input reads as it did. -/
def intervalContainsUptoRow : OpenClaim := { program := "ytlfilhplklifjaa", sum := "676a881adb0c6d54aeb586e6b99bbc47a1b7a7c73b43648c3ca20b6d65228e09", func := "timesync/timesynclaw23.IntervalContains", spec := "intervalContains", unfollowed := true, recurses := true, apart := false, narrowed := true }
def IntervalContainsUptoSaid : Prop := intervalContainsUptoRow.holds Try.pinned (OpenSpec.upto intervalContainsSpec)

/-- 'timesynclaw23.IntervalPeaks', WHERE WHAT IT READS IS OF BULK AT MOST 1048576: true; the input reads as it did. -/
def intervalPeaksUptoRow : OpenClaim := { program := "ytlfilhplklifjaa", sum := "676a881adb0c6d54aeb586e6b99bbc47a1b7a7c73b43648c3ca20b6d65228e09", func := "timesync/timesynclaw23.IntervalPeaks", spec := "intervalPeaks", unfollowed := true, recurses := true, apart := false, narrowed := true }
def IntervalPeaksUptoSaid : Prop := intervalPeaksUptoRow.holds Try.pinned (OpenSpec.upto intervalPeaksSpec)

end Rows
end Go.Proofs.Ytlfilhplklifjaa
