/-
  No cell of these rows narrows 'for every input' (looked for: loops, veiled, ifaces, maps, wideKeys, modest, calm, conditions, laid).
  DERIVED. THE GIVEN ROWS OF THIS SEAT. 5 by the template 'for every input the law returns true; each argument reads behind the call as it read before'; 0 by the template 'total and deterministic' (their statements: YtlkohcnigichaaaGreatTotals.lean).
  GIVEN WITH THE SEED: the statements are not yours to turn. If you find one false, say at which input.
  Laid BY PROGRAM, IN A SANDBOX (cutbox-rows.mjs): the forced cells as the released guide's own fill.sh prints them over the translation a4aa051d3356e00d… (all of the seat's roots in one cut). By AI agents, Wed Nov 11 2026. No macro, syntax, notation, axiom, sorry.
-/
import Derived.Test.YtlkohcnigichaaaGreatChecked
import GoSem.Claim
import GoSem.ClaimJoined
import GoSem.ClaimMapViews
import Derived.JoinedTies
import Derived.KernelRfl
namespace Go.Proofs.YtlkohcnigichaaaGreat
/- THE CELL 'sum', in the pinned program and in every row, IS THE sha256 OF THE DUMP (.gsa) THAT YtlkohcnigichaaaGreatProg.lean LOADS. Nothing in Lean hashes anything: it is a label: what it is worth is what the hold of that sum in a sandbox is worth. -/
noncomputable def Tryz.pinned : Pinned := { name := "ytlkohcnigichaaagreat", sum := "a4aa051d3356e00df287f4a9a73c17dccdd3b4d2887ac95bb1cde4ec64f2baf5", checked := Tryz.checked }
namespace Rows
def none {H : Type} : Left H := { results := [], args := [] }

/-- 'drawlotlaw25.LedgerNews': WHATEVER THE INPUT: true; the input reads as it did. -/
def ledgerNewsSpec : ChangeSpec := { name := "ledgerNews", fn := fun _ => fun
  | [d1, d2] => { results := [.lit (.bool true)], args := [d1, d2] }
  | _ => none }
def ledgerNewsRow : OpenClaim := { program := "ytlkohcnigichaaagreat", sum := "a4aa051d3356e00df287f4a9a73c17dccdd3b4d2887ac95bb1cde4ec64f2baf5", func := "drawlot/drawlotlaw25.LedgerNews", spec := "ledgerNews", inPlace := ["math/bits.Add64", "slices.overlaps[drawlot/api.Commit]"], unfollowed := true, recurses := true, plainKeys := false, apart := false }
def LedgerNewsSaid : Prop := ledgerNewsRow.holds Tryz.pinned (OpenSpec.ofChange ledgerNewsSpec)

/-- ITS FALSE NEIGHBOUR: 'it returns false'. Refute it at one input. -/
def ledgerNewsWrong : ChangeSpec := { name := "ledgerNews", fn := fun _ => fun
  | [d1, d2] => { results := [.lit (.bool false)], args := [d1, d2] }
  | _ => none }
def LedgerNewsWrongFalsely : Prop := ledgerNewsRow.holds Tryz.pinned (OpenSpec.ofChange ledgerNewsWrong)

/-- 'drawlotlaw25.LedgerPlays': WHATEVER THE INPUT: true; the input reads as it did. -/
def ledgerPlaysSpec : ChangeSpec := { name := "ledgerPlays", fn := fun _ => fun
  | [d1, d2, d3] => { results := [.lit (.bool true)], args := [d1, d2, d3] }
  | _ => none }
def ledgerPlaysRow : OpenClaim := { program := "ytlkohcnigichaaagreat", sum := "a4aa051d3356e00df287f4a9a73c17dccdd3b4d2887ac95bb1cde4ec64f2baf5", func := "drawlot/drawlotlaw25.LedgerPlays", spec := "ledgerPlays", inPlace := ["math/bits.Add64", "slices.overlaps[drawlot/api.Commit]"], unfollowed := true, recurses := true, plainKeys := false, apart := false }
def LedgerPlaysSaid : Prop := ledgerPlaysRow.holds Tryz.pinned (OpenSpec.ofChange ledgerPlaysSpec)

/-- ITS FALSE NEIGHBOUR: 'it returns false'. Refute it at one input. -/
def ledgerPlaysWrong : ChangeSpec := { name := "ledgerPlays", fn := fun _ => fun
  | [d1, d2, d3] => { results := [.lit (.bool false)], args := [d1, d2, d3] }
  | _ => none }
def LedgerPlaysWrongFalsely : Prop := ledgerPlaysRow.holds Tryz.pinned (OpenSpec.ofChange ledgerPlaysWrong)

/-- 'drawlotlaw25.LedgerAtOnce': WHATEVER THE INPUT: true; the input reads as it did. -/
def ledgerAtOnceSpec : ChangeSpec := { name := "ledgerAtOnce", fn := fun _ => fun
  | [d1, d2, d3] => { results := [.lit (.bool true)], args := [d1, d2, d3] }
  | _ => none }
def ledgerAtOnceRow : OpenClaim := { program := "ytlkohcnigichaaagreat", sum := "a4aa051d3356e00df287f4a9a73c17dccdd3b4d2887ac95bb1cde4ec64f2baf5", func := "drawlot/drawlotlaw25.LedgerAtOnce", spec := "ledgerAtOnce", inPlace := ["math/bits.Add64", "slices.overlaps[drawlot/api.Commit]"], unfollowed := true, recurses := true, plainKeys := false, apart := false }
def LedgerAtOnceSaid : Prop := ledgerAtOnceRow.holds Tryz.pinned (OpenSpec.ofChange ledgerAtOnceSpec)

/-- ITS FALSE NEIGHBOUR: 'it returns false'. Refute it at one input. -/
def ledgerAtOnceWrong : ChangeSpec := { name := "ledgerAtOnce", fn := fun _ => fun
  | [d1, d2, d3] => { results := [.lit (.bool false)], args := [d1, d2, d3] }
  | _ => none }
def LedgerAtOnceWrongFalsely : Prop := ledgerAtOnceRow.holds Tryz.pinned (OpenSpec.ofChange ledgerAtOnceWrong)

/-- 'drawlotlaw25.LedgerRefuses': WHATEVER THE INPUT: true; the input reads as it did. -/
def ledgerRefusesSpec : ChangeSpec := { name := "ledgerRefuses", fn := fun _ => fun
  | [d1, d2, d3] => { results := [.lit (.bool true)], args := [d1, d2, d3] }
  | _ => none }
def ledgerRefusesRow : OpenClaim := { program := "ytlkohcnigichaaagreat", sum := "a4aa051d3356e00df287f4a9a73c17dccdd3b4d2887ac95bb1cde4ec64f2baf5", func := "drawlot/drawlotlaw25.LedgerRefuses", spec := "ledgerRefuses", inPlace := ["math/bits.Add64", "slices.overlaps[drawlot/api.Commit]"], unfollowed := true, recurses := true, plainKeys := false, apart := false }
def LedgerRefusesSaid : Prop := ledgerRefusesRow.holds Tryz.pinned (OpenSpec.ofChange ledgerRefusesSpec)

/-- ITS FALSE NEIGHBOUR: 'it returns false'. Refute it at one input. -/
def ledgerRefusesWrong : ChangeSpec := { name := "ledgerRefuses", fn := fun _ => fun
  | [d1, d2, d3] => { results := [.lit (.bool false)], args := [d1, d2, d3] }
  | _ => none }
def LedgerRefusesWrongFalsely : Prop := ledgerRefusesRow.holds Tryz.pinned (OpenSpec.ofChange ledgerRefusesWrong)

/-- 'drawlotlaw25.LedgerLeads': WHATEVER THE INPUT: true; the input reads as it did. -/
def ledgerLeadsSpec : ChangeSpec := { name := "ledgerLeads", fn := fun _ => fun
  | [d1, d2, d3] => { results := [.lit (.bool true)], args := [d1, d2, d3] }
  | _ => none }
def ledgerLeadsRow : OpenClaim := { program := "ytlkohcnigichaaagreat", sum := "a4aa051d3356e00df287f4a9a73c17dccdd3b4d2887ac95bb1cde4ec64f2baf5", func := "drawlot/drawlotlaw25.LedgerLeads", spec := "ledgerLeads", inPlace := ["math/bits.Add64", "slices.overlaps[drawlot/api.Commit]"], unfollowed := true, recurses := true, plainKeys := false, apart := false }
def LedgerLeadsSaid : Prop := ledgerLeadsRow.holds Tryz.pinned (OpenSpec.ofChange ledgerLeadsSpec)

/-- ITS FALSE NEIGHBOUR: 'it returns false'. Refute it at one input. -/
def ledgerLeadsWrong : ChangeSpec := { name := "ledgerLeads", fn := fun _ => fun
  | [d1, d2, d3] => { results := [.lit (.bool false)], args := [d1, d2, d3] }
  | _ => none }
def LedgerLeadsWrongFalsely : Prop := ledgerLeadsRow.holds Tryz.pinned (OpenSpec.ofChange ledgerLeadsWrong)

/- THE SECOND FORM. 'bulk': how many values and letters a reading holds, each counted each time it is reached (what is shared counts as often as it is met; a slice's spare places count too). A statement '..UptoSaid' is the law's where the arguments, and the package variables that the reading takes, are together of bulk at most 1048576: NARROWER than '..Said'. Prove '..Said' where nothing that the law and all that it calls make is longer than what came in: it says more and counts as full. Else prove '..UptoSaid'. A law counts once. -/
mutual
def uptoBulk {H : Type} : DataW H → Nat
  | .lit (.string bytes) => bytes.length + 1
  | .lit _ => 1
  | .nil => 1
  | .ptr d => uptoBulk d + 1
  | .slice elems spare => uptoBulkAll elems + uptoBulkAll spare + 1
  | .agg parts => uptoBulkAll parts + 1
  | .iface _ d => uptoBulk d + 1
  | .map entries => uptoBulkEntries entries + 1
  | .held _ => 1
def uptoBulkAll {H : Type} : List (DataW H) → Nat
  | [] => 0
  | d :: r => uptoBulk d + uptoBulkAll r
def uptoBulkEntries {H : Type} : List (Lit × DataW H) → Nat
  | [] => 0
  | x :: r => uptoBulkEntry x + uptoBulkEntries r
def uptoBulkEntry {H : Type} : Lit × DataW H → Nat
  | (.string bytes, d) => bytes.length + uptoBulk d + 1
  | (_, d) => uptoBulk d + 1
 end
def uptoSmall : (H : Type) → List (DataW H) → Bool := fun _ ds => decide (uptoBulkAll ds ≤ 1048576)
def OpenSpec.upto (s : _root_.Go.ChangeSpec) : _root_.Go.OpenSpec := { _root_.Go.OpenSpec.ofChange s with cond := some uptoSmall }

/-- 'drawlotlaw25.LedgerNews', WHERE WHAT IT READS IS OF BULK AT MOST 1048576: true; the input reads as it did. -/
def ledgerNewsUptoRow : OpenClaim := { program := "ytlkohcnigichaaagreat", sum := "a4aa051d3356e00df287f4a9a73c17dccdd3b4d2887ac95bb1cde4ec64f2baf5", func := "drawlot/drawlotlaw25.LedgerNews", spec := "ledgerNews", inPlace := ["math/bits.Add64", "slices.overlaps[drawlot/api.Commit]"], unfollowed := true, recurses := true, plainKeys := false, apart := false, narrowed := true }
def LedgerNewsUptoSaid : Prop := ledgerNewsUptoRow.holds Tryz.pinned (OpenSpec.upto ledgerNewsSpec)

/-- 'drawlotlaw25.LedgerPlays', WHERE WHAT IT READS IS OF BULK AT MOST 1048576: true; the input reads as it did. -/
def ledgerPlaysUptoRow : OpenClaim := { program := "ytlkohcnigichaaagreat", sum := "a4aa051d3356e00df287f4a9a73c17dccdd3b4d2887ac95bb1cde4ec64f2baf5", func := "drawlot/drawlotlaw25.LedgerPlays", spec := "ledgerPlays", inPlace := ["math/bits.Add64", "slices.overlaps[drawlot/api.Commit]"], unfollowed := true, recurses := true, plainKeys := false, apart := false, narrowed := true }
def LedgerPlaysUptoSaid : Prop := ledgerPlaysUptoRow.holds Tryz.pinned (OpenSpec.upto ledgerPlaysSpec)

/-- 'drawlotlaw25.LedgerAtOnce', WHERE WHAT IT READS IS OF BULK AT MOST 1048576: true; the input reads as it did. -/
def ledgerAtOnceUptoRow : OpenClaim := { program := "ytlkohcnigichaaagreat", sum := "a4aa051d3356e00df287f4a9a73c17dccdd3b4d2887ac95bb1cde4ec64f2baf5", func := "drawlot/drawlotlaw25.LedgerAtOnce", spec := "ledgerAtOnce", inPlace := ["math/bits.Add64", "slices.overlaps[drawlot/api.Commit]"], unfollowed := true, recurses := true, plainKeys := false, apart := false, narrowed := true }
def LedgerAtOnceUptoSaid : Prop := ledgerAtOnceUptoRow.holds Tryz.pinned (OpenSpec.upto ledgerAtOnceSpec)

/-- 'drawlotlaw25.LedgerRefuses', WHERE WHAT IT READS IS OF BULK AT MOST 1048576: true; the input reads as it did. -/
def ledgerRefusesUptoRow : OpenClaim := { program := "ytlkohcnigichaaagreat", sum := "a4aa051d3356e00df287f4a9a73c17dccdd3b4d2887ac95bb1cde4ec64f2baf5", func := "drawlot/drawlotlaw25.LedgerRefuses", spec := "ledgerRefuses", inPlace := ["math/bits.Add64", "slices.overlaps[drawlot/api.Commit]"], unfollowed := true, recurses := true, plainKeys := false, apart := false, narrowed := true }
def LedgerRefusesUptoSaid : Prop := ledgerRefusesUptoRow.holds Tryz.pinned (OpenSpec.upto ledgerRefusesSpec)

/-- 'drawlotlaw25.LedgerLeads', WHERE WHAT IT READS IS OF BULK AT MOST 1048576: true; the input reads as it did. -/
def ledgerLeadsUptoRow : OpenClaim := { program := "ytlkohcnigichaaagreat", sum := "a4aa051d3356e00df287f4a9a73c17dccdd3b4d2887ac95bb1cde4ec64f2baf5", func := "drawlot/drawlotlaw25.LedgerLeads", spec := "ledgerLeads", inPlace := ["math/bits.Add64", "slices.overlaps[drawlot/api.Commit]"], unfollowed := true, recurses := true, plainKeys := false, apart := false, narrowed := true }
def LedgerLeadsUptoSaid : Prop := ledgerLeadsUptoRow.holds Tryz.pinned (OpenSpec.upto ledgerLeadsSpec)

end Rows
end Go.Proofs.YtlkohcnigichaaaGreat
