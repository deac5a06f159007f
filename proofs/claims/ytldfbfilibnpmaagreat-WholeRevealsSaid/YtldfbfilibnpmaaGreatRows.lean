/-
  No cell of these rows narrows 'for every input' (looked for: loops, veiled, ifaces, maps, wideKeys, modest, calm, conditions, laid).
  DERIVED. THE GIVEN ROWS OF THIS SEAT. 6 by the template 'for every input the law returns true; each argument reads behind the call as it read before'; 0 by the template 'total and deterministic' (their statements: YtldfbfilibnpmaaGreatTotals.lean).
  GIVEN WITH THE SEED: the statements are not yours to turn. If you find one false, say at which input.
  Laid BY PROGRAM, IN A SANDBOX (cutbox-rows.mjs): the forced cells as the released guide's own fill.sh prints them over the translation 12ef1235180cf80e… (all of the seat's roots in one cut). By AI agents, Wed Nov 11 2026. No macro, syntax, notation, axiom, sorry.
-/
import Derived.Test.YtldfbfilibnpmaaGreatChecked
import GoSem.Claim
import GoSem.ClaimJoined
import GoSem.ClaimMapViews
import Derived.JoinedTies
import Derived.KernelRfl
namespace Go.Proofs.YtldfbfilibnpmaaGreat
/- THE CELL 'sum', in the pinned program and in every row, IS THE sha256 OF THE DUMP (.gsa) THAT YtldfbfilibnpmaaGreatProg.lean LOADS. Nothing in Lean hashes anything: it is a label: what it is worth is what the hold of that sum in a sandbox is worth. -/
noncomputable def Tryz.pinned : Pinned := { name := "ytldfbfilibnpmaagreat", sum := "12ef1235180cf80ea530f30b234d0404b3bc7e2ac0afdcdb714aa0301668f634", checked := Tryz.checked }
namespace Rows
def none {H : Type} : Left H := { results := [], args := [] }

/-- 'drawlottop.WholeRejects': WHATEVER THE INPUT: true; the input reads as it did. -/
def wholeRejectsSpec : ChangeSpec := { name := "wholeRejects", fn := fun _ => fun
  | [d1, d2, d3] => { results := [.lit (.bool true)], args := [d1, d2, d3] }
  | _ => none }
def wholeRejectsRow : OpenClaim := { program := "ytldfbfilibnpmaagreat", sum := "12ef1235180cf80ea530f30b234d0404b3bc7e2ac0afdcdb714aa0301668f634", func := "drawlot/drawlottop.WholeRejects", spec := "wholeRejects", inPlace := ["math/bits.Add64", "slices.overlaps[drawlot/api.Commit]"], unfollowed := true, recurses := true, plainKeys := false, apart := false }
def WholeRejectsSaid : Prop := wholeRejectsRow.holds Tryz.pinned (OpenSpec.ofChange wholeRejectsSpec)

/-- ITS FALSE NEIGHBOUR: 'it returns false'. Refute it at one input. -/
def wholeRejectsWrong : ChangeSpec := { name := "wholeRejects", fn := fun _ => fun
  | [d1, d2, d3] => { results := [.lit (.bool false)], args := [d1, d2, d3] }
  | _ => none }
def WholeRejectsWrongFalsely : Prop := wholeRejectsRow.holds Tryz.pinned (OpenSpec.ofChange wholeRejectsWrong)

/-- 'drawlottop.WholeSums': WHATEVER THE INPUT: true; the input reads as it did. -/
def wholeSumsSpec : ChangeSpec := { name := "wholeSums", fn := fun _ => fun
  | [d1, d2, d3] => { results := [.lit (.bool true)], args := [d1, d2, d3] }
  | _ => none }
def wholeSumsRow : OpenClaim := { program := "ytldfbfilibnpmaagreat", sum := "12ef1235180cf80ea530f30b234d0404b3bc7e2ac0afdcdb714aa0301668f634", func := "drawlot/drawlottop.WholeSums", spec := "wholeSums", inPlace := ["math/bits.Add64", "slices.overlaps[drawlot/api.Commit]"], unfollowed := true, recurses := true, plainKeys := false, apart := false }
def WholeSumsSaid : Prop := wholeSumsRow.holds Tryz.pinned (OpenSpec.ofChange wholeSumsSpec)

/-- ITS FALSE NEIGHBOUR: 'it returns false'. Refute it at one input. -/
def wholeSumsWrong : ChangeSpec := { name := "wholeSums", fn := fun _ => fun
  | [d1, d2, d3] => { results := [.lit (.bool false)], args := [d1, d2, d3] }
  | _ => none }
def WholeSumsWrongFalsely : Prop := wholeSumsRow.holds Tryz.pinned (OpenSpec.ofChange wholeSumsWrong)

/-- 'drawlottop.WholeBytes': WHATEVER THE INPUT: true; the input reads as it did. -/
def wholeBytesSpec : ChangeSpec := { name := "wholeBytes", fn := fun _ => fun
  | [d1, d2, d3] => { results := [.lit (.bool true)], args := [d1, d2, d3] }
  | _ => none }
def wholeBytesRow : OpenClaim := { program := "ytldfbfilibnpmaagreat", sum := "12ef1235180cf80ea530f30b234d0404b3bc7e2ac0afdcdb714aa0301668f634", func := "drawlot/drawlottop.WholeBytes", spec := "wholeBytes", inPlace := ["math/bits.Add64", "slices.overlaps[drawlot/api.Commit]"], unfollowed := true, recurses := true, plainKeys := false, apart := false }
def WholeBytesSaid : Prop := wholeBytesRow.holds Tryz.pinned (OpenSpec.ofChange wholeBytesSpec)

/-- ITS FALSE NEIGHBOUR: 'it returns false'. Refute it at one input. -/
def wholeBytesWrong : ChangeSpec := { name := "wholeBytes", fn := fun _ => fun
  | [d1, d2, d3] => { results := [.lit (.bool false)], args := [d1, d2, d3] }
  | _ => none }
def WholeBytesWrongFalsely : Prop := wholeBytesRow.holds Tryz.pinned (OpenSpec.ofChange wholeBytesWrong)

/-- 'drawlottop.WholeSeeds': WHATEVER THE INPUT: true; the input reads as it did. -/
def wholeSeedsSpec : ChangeSpec := { name := "wholeSeeds", fn := fun _ => fun
  | [d1, d2, d3] => { results := [.lit (.bool true)], args := [d1, d2, d3] }
  | _ => none }
def wholeSeedsRow : OpenClaim := { program := "ytldfbfilibnpmaagreat", sum := "12ef1235180cf80ea530f30b234d0404b3bc7e2ac0afdcdb714aa0301668f634", func := "drawlot/drawlottop.WholeSeeds", spec := "wholeSeeds", inPlace := ["math/bits.Add64", "slices.overlaps[drawlot/api.Commit]"], unfollowed := true, recurses := true, plainKeys := false, apart := false }
def WholeSeedsSaid : Prop := wholeSeedsRow.holds Tryz.pinned (OpenSpec.ofChange wholeSeedsSpec)

/-- ITS FALSE NEIGHBOUR: 'it returns false'. Refute it at one input. -/
def wholeSeedsWrong : ChangeSpec := { name := "wholeSeeds", fn := fun _ => fun
  | [d1, d2, d3] => { results := [.lit (.bool false)], args := [d1, d2, d3] }
  | _ => none }
def WholeSeedsWrongFalsely : Prop := wholeSeedsRow.holds Tryz.pinned (OpenSpec.ofChange wholeSeedsWrong)

/-- 'drawlottop.WholeReveals': WHATEVER THE INPUT: true; the input reads as it did. -/
def wholeRevealsSpec : ChangeSpec := { name := "wholeReveals", fn := fun _ => fun
  | [d1, d2, d3] => { results := [.lit (.bool true)], args := [d1, d2, d3] }
  | _ => none }
def wholeRevealsRow : OpenClaim := { program := "ytldfbfilibnpmaagreat", sum := "12ef1235180cf80ea530f30b234d0404b3bc7e2ac0afdcdb714aa0301668f634", func := "drawlot/drawlottop.WholeReveals", spec := "wholeReveals", inPlace := ["math/bits.Add64", "slices.overlaps[drawlot/api.Commit]"], unfollowed := true, recurses := true, plainKeys := false, apart := false }
def WholeRevealsSaid : Prop := wholeRevealsRow.holds Tryz.pinned (OpenSpec.ofChange wholeRevealsSpec)

/-- ITS FALSE NEIGHBOUR: 'it returns false'. Refute it at one input. -/
def wholeRevealsWrong : ChangeSpec := { name := "wholeReveals", fn := fun _ => fun
  | [d1, d2, d3] => { results := [.lit (.bool false)], args := [d1, d2, d3] }
  | _ => none }
def WholeRevealsWrongFalsely : Prop := wholeRevealsRow.holds Tryz.pinned (OpenSpec.ofChange wholeRevealsWrong)

/-- 'drawlottop.WholeSchedule': WHATEVER THE INPUT: true; the input reads as it did. -/
def wholeScheduleSpec : ChangeSpec := { name := "wholeSchedule", fn := fun _ => fun
  | [d1, d2, d3] => { results := [.lit (.bool true)], args := [d1, d2, d3] }
  | _ => none }
def wholeScheduleRow : OpenClaim := { program := "ytldfbfilibnpmaagreat", sum := "12ef1235180cf80ea530f30b234d0404b3bc7e2ac0afdcdb714aa0301668f634", func := "drawlot/drawlottop.WholeSchedule", spec := "wholeSchedule", inPlace := ["math/bits.Add64", "slices.overlaps[drawlot/api.Commit]"], unfollowed := true, recurses := true, plainKeys := false, apart := false }
def WholeScheduleSaid : Prop := wholeScheduleRow.holds Tryz.pinned (OpenSpec.ofChange wholeScheduleSpec)

/-- ITS FALSE NEIGHBOUR: 'it returns false'. Refute it at one input. -/
def wholeScheduleWrong : ChangeSpec := { name := "wholeSchedule", fn := fun _ => fun
  | [d1, d2, d3] => { results := [.lit (.bool false)], args := [d1, d2, d3] }
  | _ => none }
def WholeScheduleWrongFalsely : Prop := wholeScheduleRow.holds Tryz.pinned (OpenSpec.ofChange wholeScheduleWrong)

/- THE SECOND FORM. 'bulk': how many values and letters a reading holds, each counted each time it is reached (what is shared counts as often as it is met; a slice's spare places count too). A statement '..UptoSaid' is the law's where the arguments, and the package variables that the reading takes, are together of bulk at most 1048576: NARROWER than '..Said'. Prove '..Said' where nothing that the law and all that it calls make is longer than what came in: it says more and counts as full. Else prove '..UptoSaid'. A law counts once. -/
mutual
def uptoBulk {H : Type} : DataW H → Nat
  | .lit (.string bytes) => bytes.length + 1
  | .lit _ => 1
  | .nil => 1
  | .ptr d => uptoBulk d + 1
  | .slice elems spare => uptoBulkAll elems + uptoBulkAll spare + 1
  | .agg parts => uptoBulkAll parts + 1
  | .iface _ d => uptoBulk d + 1
  | .map entries => uptoBulkEntries entries + 1
  | .held _ => 1
def uptoBulkAll {H : Type} : List (DataW H) → Nat
  | [] => 0
  | d :: r => uptoBulk d + uptoBulkAll r
def uptoBulkEntries {H : Type} : List (Lit × DataW H) → Nat
  | [] => 0
  | x :: r => uptoBulkEntry x + uptoBulkEntries r
def uptoBulkEntry {H : Type} : Lit × DataW H → Nat
  | (.string bytes, d) => bytes.length + uptoBulk d + 1
  | (_, d) => uptoBulk d + 1
 end
def uptoSmall : (H : Type) → List (DataW H) → Bool := fun _ ds => decide (uptoBulkAll ds ≤ 1048576)
def OpenSpec.upto (s : _root_.Go.ChangeSpec) : _root_.Go.OpenSpec := { _root_.Go.OpenSpec.ofChange s with cond := some uptoSmall }

/-- 'drawlottop.WholeRejects', WHERE WHAT IT READS IS OF BULK AT MOST 1048576: true; the input reads as it did. -/
def wholeRejectsUptoRow : OpenClaim := { program := "ytldfbfilibnpmaagreat", sum := "12ef1235180cf80ea530f30b234d0404b3bc7e2ac0afdcdb714aa0301668f634", func := "drawlot/drawlottop.WholeRejects", spec := "wholeRejects", inPlace := ["math/bits.Add64", "slices.overlaps[drawlot/api.Commit]"], unfollowed := true, recurses := true, plainKeys := false, apart := false, narrowed := true }
def WholeRejectsUptoSaid : Prop := wholeRejectsUptoRow.holds Tryz.pinned (OpenSpec.upto wholeRejectsSpec)

/-- 'drawlottop.WholeSums', WHERE WHAT IT READS IS OF BULK AT MOST 1048576: true; the input reads as it did. -/
def wholeSumsUptoRow : OpenClaim := { program := "ytldfbfilibnpmaagreat", sum := "12ef1235180cf80ea530f30b234d0404b3bc7e2ac0afdcdb714aa0301668f634", func := "drawlot/drawlottop.WholeSums", spec := "wholeSums", inPlace := ["math/bits.Add64", "slices.overlaps[drawlot/api.Commit]"], unfollowed := true, recurses := true, plainKeys := false, apart := false, narrowed := true }
def WholeSumsUptoSaid : Prop := wholeSumsUptoRow.holds Tryz.pinned (OpenSpec.upto wholeSumsSpec)

/-- 'drawlottop.WholeBytes', WHERE WHAT IT READS IS OF BULK AT MOST 1048576: true; the input reads as it did. -/
def wholeBytesUptoRow : OpenClaim := { program := "ytldfbfilibnpmaagreat", sum := "12ef1235180cf80ea530f30b234d0404b3bc7e2ac0afdcdb714aa0301668f634", func := "drawlot/drawlottop.WholeBytes", spec := "wholeBytes", inPlace := ["math/bits.Add64", "slices.overlaps[drawlot/api.Commit]"], unfollowed := true, recurses := true, plainKeys := false, apart := false, narrowed := true }
def WholeBytesUptoSaid : Prop := wholeBytesUptoRow.holds Tryz.pinned (OpenSpec.upto wholeBytesSpec)

/-- 'drawlottop.WholeSeeds', WHERE WHAT IT READS IS OF BULK AT MOST 1048576: true; the input reads as it did. -/
def wholeSeedsUptoRow : OpenClaim := { program := "ytldfbfilibnpmaagreat", sum := "12ef1235180cf80ea530f30b234d0404b3bc7e2ac0afdcdb714aa0301668f634", func := "drawlot/drawlottop.WholeSeeds", spec := "wholeSeeds", inPlace := ["math/bits.Add64", "slices.overlaps[drawlot/api.Commit]"], unfollowed := true, recurses := true, plainKeys := false, apart := false, narrowed := true }
def WholeSeedsUptoSaid : Prop := wholeSeedsUptoRow.holds Tryz.pinned (OpenSpec.upto wholeSeedsSpec)

/-- 'drawlottop.WholeReveals', WHERE WHAT IT READS IS OF BULK AT MOST 1048576: true; the input reads as it did. -/
def wholeRevealsUptoRow : OpenClaim := { program := "ytldfbfilibnpmaagreat", sum := "12ef1235180cf80ea530f30b234d0404b3bc7e2ac0afdcdb714aa0301668f634", func := "drawlot/drawlottop.WholeReveals", spec := "wholeReveals", inPlace := ["math/bits.Add64", "slices.overlaps[drawlot/api.Commit]"], unfollowed := true, recurses := true, plainKeys := false, apart := false, narrowed := true }
def WholeRevealsUptoSaid : Prop := wholeRevealsUptoRow.holds Tryz.pinned (OpenSpec.upto wholeRevealsSpec)

/-- 'drawlottop.WholeSchedule', WHERE WHAT IT READS IS OF BULK AT MOST 1048576: true; the input reads as it did. -/
def wholeScheduleUptoRow : OpenClaim := { program := "ytldfbfilibnpmaagreat", sum := "12ef1235180cf80ea530f30b234d0404b3bc7e2ac0afdcdb714aa0301668f634", func := "drawlot/drawlottop.WholeSchedule", spec := "wholeSchedule", inPlace := ["math/bits.Add64", "slices.overlaps[drawlot/api.Commit]"], unfollowed := true, recurses := true, plainKeys := false, apart := false, narrowed := true }
def WholeScheduleUptoSaid : Prop := wholeScheduleUptoRow.holds Tryz.pinned (OpenSpec.upto wholeScheduleSpec)

end Rows
end Go.Proofs.YtldfbfilibnpmaaGreat
