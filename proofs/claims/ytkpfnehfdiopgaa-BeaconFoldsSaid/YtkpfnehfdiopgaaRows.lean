/-
  No cell of these rows narrows 'for every input' (looked for: loops, veiled, ifaces, maps, wideKeys, modest, calm, conditions, laid).
  DERIVED. THE GIVEN ROWS OF THIS SEAT. 14 by the template 'for every input the law returns true; each argument reads behind the call as it read before'; 0 by the template 'total and deterministic' (their statements: YtkpfnehfdiopgaaTotals.lean).
  GIVEN WITH THE SEED: the statements are not yours to turn. If you find one false, say at which input.
  Laid BY PROGRAM, IN A SANDBOX (cutbox-rows.mjs): the forced cells as the released guide's own fill.sh prints them over the translation e5768f7568d2e8cf… (all of the seat's roots in one cut). By AI agents, Wed Nov 11 2026. No macro, syntax, notation, axiom, sorry.
-/
import Derived.Test.YtkpfnehfdiopgaaChecked
import GoSem.Claim
import GoSem.ClaimJoined
import GoSem.ClaimMapViews
import Derived.JoinedTies
import Derived.KernelRfl
namespace Go.Proofs.Ytkpfnehfdiopgaa
/- THE CELL 'sum', in the pinned program and in every row, IS THE sha256 OF THE DUMP (.gsa) THAT YtkpfnehfdiopgaaProg.lean LOADS. Nothing in Lean hashes anything: it is a label: what it is worth is what the hold of that sum in a sandbox is worth. -/
noncomputable def Try.pinned : Pinned := { name := "ytkpfnehfdiopgaa", sum := "e5768f7568d2e8cf11a127c3d4ddffe0488029879b3cb9771f9f4d771e2eb6ef", checked := Try.checked }
namespace Rows
def none {H : Type} : Left H := { results := [], args := [] }

/-- 'drawlotlaw13.LeadLists': WHATEVER THE INPUT: true; the input reads as it did. -/
def leadListsSpec : ChangeSpec := { name := "leadLists", fn := fun _ => fun
  | [d1, d2, d3] => { results := [.lit (.bool true)], args := [d1, d2, d3] }
  | _ => none }
def leadListsRow : OpenClaim := { program := "ytkpfnehfdiopgaa", sum := "e5768f7568d2e8cf11a127c3d4ddffe0488029879b3cb9771f9f4d771e2eb6ef", func := "drawlot/drawlotlaw13.LeadLists", spec := "leadLists", inPlace := ["math/bits.Add64"], apart := false }
def LeadListsSaid : Prop := leadListsRow.holds Try.pinned (OpenSpec.ofChange leadListsSpec)

/-- ITS FALSE NEIGHBOUR: 'it returns false'. Refute it at one input. -/
def leadListsWrong : ChangeSpec := { name := "leadLists", fn := fun _ => fun
  | [d1, d2, d3] => { results := [.lit (.bool false)], args := [d1, d2, d3] }
  | _ => none }
def LeadListsWrongFalsely : Prop := leadListsRow.holds Try.pinned (OpenSpec.ofChange leadListsWrong)

/-- 'drawlotlaw13.LeadTrees': WHATEVER THE INPUT: true; the input reads as it did. -/
def leadTreesSpec : ChangeSpec := { name := "leadTrees", fn := fun _ => fun
  | [d1, d2, d3] => { results := [.lit (.bool true)], args := [d1, d2, d3] }
  | _ => none }
def leadTreesRow : OpenClaim := { program := "ytkpfnehfdiopgaa", sum := "e5768f7568d2e8cf11a127c3d4ddffe0488029879b3cb9771f9f4d771e2eb6ef", func := "drawlot/drawlotlaw13.LeadTrees", spec := "leadTrees", inPlace := ["math/bits.Add64"], apart := false }
def LeadTreesSaid : Prop := leadTreesRow.holds Try.pinned (OpenSpec.ofChange leadTreesSpec)

/-- ITS FALSE NEIGHBOUR: 'it returns false'. Refute it at one input. -/
def leadTreesWrong : ChangeSpec := { name := "leadTrees", fn := fun _ => fun
  | [d1, d2, d3] => { results := [.lit (.bool false)], args := [d1, d2, d3] }
  | _ => none }
def LeadTreesWrongFalsely : Prop := leadTreesRow.holds Try.pinned (OpenSpec.ofChange leadTreesWrong)

/-- 'drawlotlaw13.LeadCounts': WHATEVER THE INPUT: true; the input reads as it did. -/
def leadCountsSpec : ChangeSpec := { name := "leadCounts", fn := fun _ => fun
  | [d1, d2] => { results := [.lit (.bool true)], args := [d1, d2] }
  | _ => none }
def leadCountsRow : OpenClaim := { program := "ytkpfnehfdiopgaa", sum := "e5768f7568d2e8cf11a127c3d4ddffe0488029879b3cb9771f9f4d771e2eb6ef", func := "drawlot/drawlotlaw13.LeadCounts", spec := "leadCounts", inPlace := ["math/bits.Add64"], apart := false }
def LeadCountsSaid : Prop := leadCountsRow.holds Try.pinned (OpenSpec.ofChange leadCountsSpec)

/-- ITS FALSE NEIGHBOUR: 'it returns false'. Refute it at one input. -/
def leadCountsWrong : ChangeSpec := { name := "leadCounts", fn := fun _ => fun
  | [d1, d2] => { results := [.lit (.bool false)], args := [d1, d2] }
  | _ => none }
def LeadCountsWrongFalsely : Prop := leadCountsRow.holds Try.pinned (OpenSpec.ofChange leadCountsWrong)

/-- 'drawlotlaw13.LeadStakes': WHATEVER THE INPUT: true; the input reads as it did. -/
def leadStakesSpec : ChangeSpec := { name := "leadStakes", fn := fun _ => fun
  | [d1, d2, d3] => { results := [.lit (.bool true)], args := [d1, d2, d3] }
  | _ => none }
def leadStakesRow : OpenClaim := { program := "ytkpfnehfdiopgaa", sum := "e5768f7568d2e8cf11a127c3d4ddffe0488029879b3cb9771f9f4d771e2eb6ef", func := "drawlot/drawlotlaw13.LeadStakes", spec := "leadStakes", inPlace := ["math/bits.Add64"], apart := false }
def LeadStakesSaid : Prop := leadStakesRow.holds Try.pinned (OpenSpec.ofChange leadStakesSpec)

/-- ITS FALSE NEIGHBOUR: 'it returns false'. Refute it at one input. -/
def leadStakesWrong : ChangeSpec := { name := "leadStakes", fn := fun _ => fun
  | [d1, d2, d3] => { results := [.lit (.bool false)], args := [d1, d2, d3] }
  | _ => none }
def LeadStakesWrongFalsely : Prop := leadStakesRow.holds Try.pinned (OpenSpec.ofChange leadStakesWrong)

/-- 'drawlotlaw15.PickCounts': WHATEVER THE INPUT: true; the input reads as it did. -/
def pickCountsSpec : ChangeSpec := { name := "pickCounts", fn := fun _ => fun
  | [d1, d2] => { results := [.lit (.bool true)], args := [d1, d2] }
  | _ => none }
def pickCountsRow : OpenClaim := { program := "ytkpfnehfdiopgaa", sum := "e5768f7568d2e8cf11a127c3d4ddffe0488029879b3cb9771f9f4d771e2eb6ef", func := "drawlot/drawlotlaw15.PickCounts", spec := "pickCounts", inPlace := ["math/bits.Add64"], unfollowed := true, recurses := true, apart := false }
def PickCountsSaid : Prop := pickCountsRow.holds Try.pinned (OpenSpec.ofChange pickCountsSpec)

/-- ITS FALSE NEIGHBOUR: 'it returns false'. Refute it at one input. -/
def pickCountsWrong : ChangeSpec := { name := "pickCounts", fn := fun _ => fun
  | [d1, d2] => { results := [.lit (.bool false)], args := [d1, d2] }
  | _ => none }
def PickCountsWrongFalsely : Prop := pickCountsRow.holds Try.pinned (OpenSpec.ofChange pickCountsWrong)

/-- 'drawlotlaw15.PickStakes': WHATEVER THE INPUT: true; the input reads as it did. -/
def pickStakesSpec : ChangeSpec := { name := "pickStakes", fn := fun _ => fun
  | [d1, d2, d3] => { results := [.lit (.bool true)], args := [d1, d2, d3] }
  | _ => none }
def pickStakesRow : OpenClaim := { program := "ytkpfnehfdiopgaa", sum := "e5768f7568d2e8cf11a127c3d4ddffe0488029879b3cb9771f9f4d771e2eb6ef", func := "drawlot/drawlotlaw15.PickStakes", spec := "pickStakes", inPlace := ["math/bits.Add64"], unfollowed := true, recurses := true, apart := false }
def PickStakesSaid : Prop := pickStakesRow.holds Try.pinned (OpenSpec.ofChange pickStakesSpec)

/-- ITS FALSE NEIGHBOUR: 'it returns false'. Refute it at one input. -/
def pickStakesWrong : ChangeSpec := { name := "pickStakes", fn := fun _ => fun
  | [d1, d2, d3] => { results := [.lit (.bool false)], args := [d1, d2, d3] }
  | _ => none }
def PickStakesWrongFalsely : Prop := pickStakesRow.holds Try.pinned (OpenSpec.ofChange pickStakesWrong)

/-- 'drawlotlaw20.CommitPuts': WHATEVER THE INPUT: true; the input reads as it did. -/
def commitPutsSpec : ChangeSpec := { name := "commitPuts", fn := fun _ => fun
  | [d1, d2, d3] => { results := [.lit (.bool true)], args := [d1, d2, d3] }
  | _ => none }
def commitPutsRow : OpenClaim := { program := "ytkpfnehfdiopgaa", sum := "e5768f7568d2e8cf11a127c3d4ddffe0488029879b3cb9771f9f4d771e2eb6ef", func := "drawlot/drawlotlaw20.CommitPuts", spec := "commitPuts", inPlace := ["slices.overlaps[drawlot/api.Commit]"], unfollowed := true, recurses := true, apart := false }
def CommitPutsSaid : Prop := commitPutsRow.holds Try.pinned (OpenSpec.ofChange commitPutsSpec)

/-- ITS FALSE NEIGHBOUR: 'it returns false'. Refute it at one input. -/
def commitPutsWrong : ChangeSpec := { name := "commitPuts", fn := fun _ => fun
  | [d1, d2, d3] => { results := [.lit (.bool false)], args := [d1, d2, d3] }
  | _ => none }
def CommitPutsWrongFalsely : Prop := commitPutsRow.holds Try.pinned (OpenSpec.ofChange commitPutsWrong)

/-- 'drawlotlaw20.CommitTells': WHATEVER THE INPUT: true; the input reads as it did. -/
def commitTellsSpec : ChangeSpec := { name := "commitTells", fn := fun _ => fun
  | [d1, d2, d3] => { results := [.lit (.bool true)], args := [d1, d2, d3] }
  | _ => none }
def commitTellsRow : OpenClaim := { program := "ytkpfnehfdiopgaa", sum := "e5768f7568d2e8cf11a127c3d4ddffe0488029879b3cb9771f9f4d771e2eb6ef", func := "drawlot/drawlotlaw20.CommitTells", spec := "commitTells", inPlace := ["slices.overlaps[drawlot/api.Commit]"], unfollowed := true, recurses := true, apart := false }
def CommitTellsSaid : Prop := commitTellsRow.holds Try.pinned (OpenSpec.ofChange commitTellsSpec)

/-- ITS FALSE NEIGHBOUR: 'it returns false'. Refute it at one input. -/
def commitTellsWrong : ChangeSpec := { name := "commitTells", fn := fun _ => fun
  | [d1, d2, d3] => { results := [.lit (.bool false)], args := [d1, d2, d3] }
  | _ => none }
def CommitTellsWrongFalsely : Prop := commitTellsRow.holds Try.pinned (OpenSpec.ofChange commitTellsWrong)

/-- 'drawlotlaw20.CommitOnce': WHATEVER THE INPUT: true; the input reads as it did. -/
def commitOnceSpec : ChangeSpec := { name := "commitOnce", fn := fun _ => fun
  | [d1, d2, d3] => { results := [.lit (.bool true)], args := [d1, d2, d3] }
  | _ => none }
def commitOnceRow : OpenClaim := { program := "ytkpfnehfdiopgaa", sum := "e5768f7568d2e8cf11a127c3d4ddffe0488029879b3cb9771f9f4d771e2eb6ef", func := "drawlot/drawlotlaw20.CommitOnce", spec := "commitOnce", inPlace := ["slices.overlaps[drawlot/api.Commit]"], unfollowed := true, recurses := true, apart := false }
def CommitOnceSaid : Prop := commitOnceRow.holds Try.pinned (OpenSpec.ofChange commitOnceSpec)

/-- ITS FALSE NEIGHBOUR: 'it returns false'. Refute it at one input. -/
def commitOnceWrong : ChangeSpec := { name := "commitOnce", fn := fun _ => fun
  | [d1, d2, d3] => { results := [.lit (.bool false)], args := [d1, d2, d3] }
  | _ => none }
def CommitOnceWrongFalsely : Prop := commitOnceRow.holds Try.pinned (OpenSpec.ofChange commitOnceWrong)

/-- 'drawlotlaw20.CommitOrder': WHATEVER THE INPUT: true; the input reads as it did. -/
def commitOrderSpec : ChangeSpec := { name := "commitOrder", fn := fun _ => fun
  | [d1, d2] => { results := [.lit (.bool true)], args := [d1, d2] }
  | _ => none }
def commitOrderRow : OpenClaim := { program := "ytkpfnehfdiopgaa", sum := "e5768f7568d2e8cf11a127c3d4ddffe0488029879b3cb9771f9f4d771e2eb6ef", func := "drawlot/drawlotlaw20.CommitOrder", spec := "commitOrder", inPlace := ["slices.overlaps[drawlot/api.Commit]"], unfollowed := true, recurses := true, apart := false }
def CommitOrderSaid : Prop := commitOrderRow.holds Try.pinned (OpenSpec.ofChange commitOrderSpec)

/-- ITS FALSE NEIGHBOUR: 'it returns false'. Refute it at one input. -/
def commitOrderWrong : ChangeSpec := { name := "commitOrder", fn := fun _ => fun
  | [d1, d2] => { results := [.lit (.bool false)], args := [d1, d2] }
  | _ => none }
def CommitOrderWrongFalsely : Prop := commitOrderRow.holds Try.pinned (OpenSpec.ofChange commitOrderWrong)

/-- 'drawlotlaw20.CommitCounts': WHATEVER THE INPUT: true; the input reads as it did. -/
def commitCountsSpec : ChangeSpec := { name := "commitCounts", fn := fun _ => fun
  | [d] => { results := [.lit (.bool true)], args := [d] }
  | _ => none }
def commitCountsRow : OpenClaim := { program := "ytkpfnehfdiopgaa", sum := "e5768f7568d2e8cf11a127c3d4ddffe0488029879b3cb9771f9f4d771e2eb6ef", func := "drawlot/drawlotlaw20.CommitCounts", spec := "commitCounts", inPlace := ["slices.overlaps[drawlot/api.Commit]"], unfollowed := true, recurses := true, apart := false }
def CommitCountsSaid : Prop := commitCountsRow.holds Try.pinned (OpenSpec.ofChange commitCountsSpec)

/-- ITS FALSE NEIGHBOUR: 'it returns false'. Refute it at one input. -/
def commitCountsWrong : ChangeSpec := { name := "commitCounts", fn := fun _ => fun
  | [d] => { results := [.lit (.bool false)], args := [d] }
  | _ => none }
def CommitCountsWrongFalsely : Prop := commitCountsRow.holds Try.pinned (OpenSpec.ofChange commitCountsWrong)

/-- 'drawlotlaw21.BeaconTakes': WHATEVER THE INPUT: true; the input reads as it did. -/
def beaconTakesSpec : ChangeSpec := { name := "beaconTakes", fn := fun _ => fun
  | [d1, d2, d3] => { results := [.lit (.bool true)], args := [d1, d2, d3] }
  | _ => none }
def beaconTakesRow : OpenClaim := { program := "ytkpfnehfdiopgaa", sum := "e5768f7568d2e8cf11a127c3d4ddffe0488029879b3cb9771f9f4d771e2eb6ef", func := "drawlot/drawlotlaw21.BeaconTakes", spec := "beaconTakes", inPlace := ["slices.overlaps[drawlot/api.Commit]"], unfollowed := true, recurses := true, apart := false }
def BeaconTakesSaid : Prop := beaconTakesRow.holds Try.pinned (OpenSpec.ofChange beaconTakesSpec)

/-- ITS FALSE NEIGHBOUR: 'it returns false'. Refute it at one input. -/
def beaconTakesWrong : ChangeSpec := { name := "beaconTakes", fn := fun _ => fun
  | [d1, d2, d3] => { results := [.lit (.bool false)], args := [d1, d2, d3] }
  | _ => none }
def BeaconTakesWrongFalsely : Prop := beaconTakesRow.holds Try.pinned (OpenSpec.ofChange beaconTakesWrong)

/-- 'drawlotlaw21.BeaconEnds': WHATEVER THE INPUT: true; the input reads as it did. -/
def beaconEndsSpec : ChangeSpec := { name := "beaconEnds", fn := fun _ => fun
  | [d1, d2, d3] => { results := [.lit (.bool true)], args := [d1, d2, d3] }
  | _ => none }
def beaconEndsRow : OpenClaim := { program := "ytkpfnehfdiopgaa", sum := "e5768f7568d2e8cf11a127c3d4ddffe0488029879b3cb9771f9f4d771e2eb6ef", func := "drawlot/drawlotlaw21.BeaconEnds", spec := "beaconEnds", inPlace := ["slices.overlaps[drawlot/api.Commit]"], unfollowed := true, recurses := true, apart := false }
def BeaconEndsSaid : Prop := beaconEndsRow.holds Try.pinned (OpenSpec.ofChange beaconEndsSpec)

/-- ITS FALSE NEIGHBOUR: 'it returns false'. Refute it at one input. -/
def beaconEndsWrong : ChangeSpec := { name := "beaconEnds", fn := fun _ => fun
  | [d1, d2, d3] => { results := [.lit (.bool false)], args := [d1, d2, d3] }
  | _ => none }
def BeaconEndsWrongFalsely : Prop := beaconEndsRow.holds Try.pinned (OpenSpec.ofChange beaconEndsWrong)

/-- 'drawlotlaw21.BeaconFolds': WHATEVER THE INPUT: true; the input reads as it did. -/
def beaconFoldsSpec : ChangeSpec := { name := "beaconFolds", fn := fun _ => fun
  | [d1, d2, d3] => { results := [.lit (.bool true)], args := [d1, d2, d3] }
  | _ => none }
def beaconFoldsRow : OpenClaim := { program := "ytkpfnehfdiopgaa", sum := "e5768f7568d2e8cf11a127c3d4ddffe0488029879b3cb9771f9f4d771e2eb6ef", func := "drawlot/drawlotlaw21.BeaconFolds", spec := "beaconFolds", inPlace := ["slices.overlaps[drawlot/api.Commit]"], unfollowed := true, recurses := true, apart := false }
def BeaconFoldsSaid : Prop := beaconFoldsRow.holds Try.pinned (OpenSpec.ofChange beaconFoldsSpec)

/-- ITS FALSE NEIGHBOUR: 'it returns false'. Refute it at one input. -/
def beaconFoldsWrong : ChangeSpec := { name := "beaconFolds", fn := fun _ => fun
  | [d1, d2, d3] => { results := [.lit (.bool false)], args := [d1, d2, d3] }
  | _ => none }
def BeaconFoldsWrongFalsely : Prop := beaconFoldsRow.holds Try.pinned (OpenSpec.ofChange beaconFoldsWrong)

/- THE SECOND FORM. 'bulk': how many values and letters a reading holds, each counted each time it is reached (what is shared counts as often as it is met; a slice's spare places count too). A statement '..UptoSaid' is the law's where the arguments, and the package variables that the reading takes, are together of bulk at most 1048576: NARROWER than '..Said'. Prove '..Said' where nothing that the law and all that it calls make is longer than what came in: it says more and counts as full. Else prove '..UptoSaid'. A law counts once. -/
mutual
def uptoBulk {H : Type} : DataW H → Nat
  | .lit (.string bytes) => bytes.length + 1
  | .lit _ => 1
  | .nil => 1
  | .ptr d => uptoBulk d + 1
  | .slice elems spare => uptoBulkAll elems + uptoBulkAll spare + 1
  | .agg parts => uptoBulkAll parts + 1
  | .iface _ d => uptoBulk d + 1
  | .map entries => uptoBulkEntries entries + 1
  | .held _ => 1
def uptoBulkAll {H : Type} : List (DataW H) → Nat
  | [] => 0
  | d :: r => uptoBulk d + uptoBulkAll r
def uptoBulkEntries {H : Type} : List (Lit × DataW H) → Nat
  | [] => 0
  | x :: r => uptoBulkEntry x + uptoBulkEntries r
def uptoBulkEntry {H : Type} : Lit × DataW H → Nat
  | (.string bytes, d) => bytes.length + uptoBulk d + 1
  | (_, d) => uptoBulk d + 1
 end
def uptoSmall : (H : Type) → List (DataW H) → Bool := fun _ ds => decide (uptoBulkAll ds ≤ 1048576)
def OpenSpec.upto (s : _root_.Go.ChangeSpec) : _root_.Go.OpenSpec := { _root_.Go.OpenSpec.ofChange s with cond := some uptoSmall }

/-- 'drawlotlaw13.LeadLists', WHERE WHAT IT READS IS OF BULK AT MOST 1048576: true; the input reads as it did. -/
def leadListsUptoRow : OpenClaim := { program := "ytkpfnehfdiopgaa", sum := "e5768f7568d2e8cf11a127c3d4ddffe0488029879b3cb9771f9f4d771e2eb6ef", func := "drawlot/drawlotlaw13.LeadLists", spec := "leadLists", inPlace := ["math/bits.Add64"], apart := false, narrowed := true }
def LeadListsUptoSaid : Prop := leadListsUptoRow.holds Try.pinned (OpenSpec.upto leadListsSpec)

/-- 'drawlotlaw13.LeadTrees', WHERE WHAT IT READS IS OF BULK AT MOST 1048576: true; the input reads as it did. -/
def leadTreesUptoRow : OpenClaim := { program := "ytkpfnehfdiopgaa", sum := "e5768f7568d2e8cf11a127c3d4ddffe0488029879b3cb9771f9f4d771e2eb6ef", func := "drawlot/drawlotlaw13.LeadTrees", spec := "leadTrees", inPlace := ["math/bits.Add64"], apart := false, narrowed := true }
def LeadTreesUptoSaid : Prop := leadTreesUptoRow.holds Try.pinned (OpenSpec.upto leadTreesSpec)

/-- 'drawlotlaw13.LeadCounts', WHERE WHAT IT READS IS OF BULK AT MOST 1048576: true; the input reads as it did. -/
def leadCountsUptoRow : OpenClaim := { program := "ytkpfnehfdiopgaa", sum := "e5768f7568d2e8cf11a127c3d4ddffe0488029879b3cb9771f9f4d771e2eb6ef", func := "drawlot/drawlotlaw13.LeadCounts", spec := "leadCounts", inPlace := ["math/bits.Add64"], apart := false, narrowed := true }
def LeadCountsUptoSaid : Prop := leadCountsUptoRow.holds Try.pinned (OpenSpec.upto leadCountsSpec)

/-- 'drawlotlaw13.LeadStakes', WHERE WHAT IT READS IS OF BULK AT MOST 1048576: true; the input reads as it did. -/
def leadStakesUptoRow : OpenClaim := { program := "ytkpfnehfdiopgaa", sum := "e5768f7568d2e8cf11a127c3d4ddffe0488029879b3cb9771f9f4d771e2eb6ef", func := "drawlot/drawlotlaw13.LeadStakes", spec := "leadStakes", inPlace := ["math/bits.Add64"], apart := false, narrowed := true }
def LeadStakesUptoSaid : Prop := leadStakesUptoRow.holds Try.pinned (OpenSpec.upto leadStakesSpec)

/-- 'drawlotlaw15.PickCounts', WHERE WHAT IT READS IS OF BULK AT MOST 1048576: true; the input reads as it did. -/
def pickCountsUptoRow : OpenClaim := { program := "ytkpfnehfdiopgaa", sum := "e5768f7568d2e8cf11a127c3d4ddffe0488029879b3cb9771f9f4d771e2eb6ef", func := "drawlot/drawlotlaw15.PickCounts", spec := "pickCounts", inPlace := ["math/bits.Add64"], unfollowed := true, recurses := true, apart := false, narrowed := true }
def PickCountsUptoSaid : Prop := pickCountsUptoRow.holds Try.pinned (OpenSpec.upto pickCountsSpec)

/-- 'drawlotlaw15.PickStakes', WHERE WHAT IT READS IS OF BULK AT MOST 1048576: true; the input reads as it did. -/
def pickStakesUptoRow : OpenClaim := { program := "ytkpfnehfdiopgaa", sum := "e5768f7568d2e8cf11a127c3d4ddffe0488029879b3cb9771f9f4d771e2eb6ef", func := "drawlot/drawlotlaw15.PickStakes", spec := "pickStakes", inPlace := ["math/bits.Add64"], unfollowed := true, recurses := true, apart := false, narrowed := true }
def PickStakesUptoSaid : Prop := pickStakesUptoRow.holds Try.pinned (OpenSpec.upto pickStakesSpec)

/-- 'drawlotlaw20.CommitPuts', WHERE WHAT IT READS IS OF BULK AT MOST 1048576: true; the input reads as it did. -/
def commitPutsUptoRow : OpenClaim := { program := "ytkpfnehfdiopgaa", sum := "e5768f7568d2e8cf11a127c3d4ddffe0488029879b3cb9771f9f4d771e2eb6ef", func := "drawlot/drawlotlaw20.CommitPuts", spec := "commitPuts", inPlace := ["slices.overlaps[drawlot/api.Commit]"], unfollowed := true, recurses := true, apart := false, narrowed := true }
def CommitPutsUptoSaid : Prop := commitPutsUptoRow.holds Try.pinned (OpenSpec.upto commitPutsSpec)

/-- 'drawlotlaw20.CommitTells', WHERE WHAT IT READS IS OF BULK AT MOST 1048576: true; the input reads as it did. -/
def commitTellsUptoRow : OpenClaim := { program := "ytkpfnehfdiopgaa", sum := "e5768f7568d2e8cf11a127c3d4ddffe0488029879b3cb9771f9f4d771e2eb6ef", func := "drawlot/drawlotlaw20.CommitTells", spec := "commitTells", inPlace := ["slices.overlaps[drawlot/api.Commit]"], unfollowed := true, recurses := true, apart := false, narrowed := true }
def CommitTellsUptoSaid : Prop := commitTellsUptoRow.holds Try.pinned (OpenSpec.upto commitTellsSpec)

/-- 'drawlotlaw20.CommitOnce', WHERE WHAT IT READS IS OF BULK AT MOST 1048576: true; the input reads as it did. -/
def commitOnceUptoRow : OpenClaim := { program := "ytkpfnehfdiopgaa", sum := "e5768f7568d2e8cf11a127c3d4ddffe0488029879b3cb9771f9f4d771e2eb6ef", func := "drawlot/drawlotlaw20.CommitOnce", spec := "commitOnce", inPlace := ["slices.overlaps[drawlot/api.Commit]"], unfollowed := true, recurses := true, apart := false, narrowed := true }
def CommitOnceUptoSaid : Prop := commitOnceUptoRow.holds Try.pinned (OpenSpec.upto commitOnceSpec)

/-- 'drawlotlaw20.CommitOrder', WHERE WHAT IT READS IS OF BULK AT MOST 1048576: true; the input reads as it did. -/
def commitOrderUptoRow : OpenClaim := { program := "ytkpfnehfdiopgaa", sum := "e5768f7568d2e8cf11a127c3d4ddffe0488029879b3cb9771f9f4d771e2eb6ef", func := "drawlot/drawlotlaw20.CommitOrder", spec := "commitOrder", inPlace := ["slices.overlaps[drawlot/api.Commit]"], unfollowed := true, recurses := true, apart := false, narrowed := true }
def CommitOrderUptoSaid : Prop := commitOrderUptoRow.holds Try.pinned (OpenSpec.upto commitOrderSpec)

/-- 'drawlotlaw20.CommitCounts', WHERE WHAT IT READS IS OF BULK AT MOST 1048576: true; the input reads as it did. -/
def commitCountsUptoRow : OpenClaim := { program := "ytkpfnehfdiopgaa", sum := "e5768f7568d2e8cf11a127c3d4ddffe0488029879b3cb9771f9f4d771e2eb6ef", func := "drawlot/drawlotlaw20.CommitCounts", spec := "commitCounts", inPlace := ["slices.overlaps[drawlot/api.Commit]"], unfollowed := true, recurses := true, apart := false, narrowed := true }
def CommitCountsUptoSaid : Prop := commitCountsUptoRow.holds Try.pinned (OpenSpec.upto commitCountsSpec)

/-- 'drawlotlaw21.BeaconTakes', WHERE WHAT IT READS IS OF BULK AT MOST 1048576: true; the input reads as it did. -/
def beaconTakesUptoRow : OpenClaim := { program := "ytkpfnehfdiopgaa", sum := "e5768f7568d2e8cf11a127c3d4ddffe0488029879b3cb9771f9f4d771e2eb6ef", func := "drawlot/drawlotlaw21.BeaconTakes", spec := "beaconTakes", inPlace := ["slices.overlaps[drawlot/api.Commit]"], unfollowed := true, recurses := true, apart := false, narrowed := true }
def BeaconTakesUptoSaid : Prop := beaconTakesUptoRow.holds Try.pinned (OpenSpec.upto beaconTakesSpec)

/-- 'drawlotlaw21.BeaconEnds', WHERE WHAT IT READS IS OF BULK AT MOST 1048576: true; the input reads as it did. -/
def beaconEndsUptoRow : OpenClaim := { program := "ytkpfnehfdiopgaa", sum := "e5768f7568d2e8cf11a127c3d4ddffe0488029879b3cb9771f9f4d771e2eb6ef", func := "drawlot/drawlotlaw21.BeaconEnds", spec := "beaconEnds", inPlace := ["slices.overlaps[drawlot/api.Commit]"], unfollowed := true, recurses := true, apart := false, narrowed := true }
def BeaconEndsUptoSaid : Prop := beaconEndsUptoRow.holds Try.pinned (OpenSpec.upto beaconEndsSpec)

/-- 'drawlotlaw21.BeaconFolds', WHERE WHAT IT READS IS OF BULK AT MOST 1048576: true; the input reads as it did. -/
def beaconFoldsUptoRow : OpenClaim := { program := "ytkpfnehfdiopgaa", sum := "e5768f7568d2e8cf11a127c3d4ddffe0488029879b3cb9771f9f4d771e2eb6ef", func := "drawlot/drawlotlaw21.BeaconFolds", spec := "beaconFolds", inPlace := ["slices.overlaps[drawlot/api.Commit]"], unfollowed := true, recurses := true, apart := false, narrowed := true }
def BeaconFoldsUptoSaid : Prop := beaconFoldsUptoRow.holds Try.pinned (OpenSpec.upto beaconFoldsSpec)

end Rows
end Go.Proofs.Ytkpfnehfdiopgaa
