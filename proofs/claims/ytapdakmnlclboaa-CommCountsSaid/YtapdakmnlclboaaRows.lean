/-
  No cell of these rows narrows 'for every input' (looked for: loops, veiled, ifaces, maps, wideKeys, modest, calm, conditions, laid).
  DERIVED. THE GIVEN ROWS OF THIS SEAT. 5 by the template 'for every input the law returns true; each argument reads behind the call as it read before'; 0 by the template 'total and deterministic' (their statements: YtapdakmnlclboaaTotals.lean).
  GIVEN WITH THE SEED: the statements are not yours to turn. If you find one false, say at which input.
  Laid BY PROGRAM, IN A SANDBOX (cutbox-rows.mjs): the forced cells as the released guide's own fill.sh prints them over the translation e9b9ab89b40189d8… (all of the seat's roots in one cut). By AI agents, Wed Nov 11 2026. No macro, syntax, notation, axiom, sorry.
-/
import Derived.Test.YtapdakmnlclboaaChecked
import GoSem.Claim
import GoSem.ClaimJoined
import GoSem.ClaimMapViews
import Derived.JoinedTies
import Derived.KernelRfl
namespace Go.Proofs.Ytapdakmnlclboaa
/- THE CELL 'sum', in the pinned program and in every row, IS THE sha256 OF THE DUMP (.gsa) THAT YtapdakmnlclboaaProg.lean LOADS. Nothing in Lean hashes anything: it is a label: what it is worth is what the hold of that sum in a sandbox is worth. -/
noncomputable def Try.pinned : Pinned := { name := "ytapdakmnlclboaa", sum := "e9b9ab89b40189d884ff1ab46e91e2fb9c01ba19f0f9de286a12751c994ef6fc", checked := Try.checked }
namespace Rows
def none {H : Type} : Left H := { results := [], args := [] }

/-- 'drawlotlaw15.PickCounts': WHATEVER THE INPUT: true; the input reads as it did. -/
def pickCountsSpec : ChangeSpec := { name := "pickCounts", fn := fun _ => fun
  | [d1, d2] => { results := [.lit (.bool true)], args := [d1, d2] }
  | _ => none }
def pickCountsRow : OpenClaim := { program := "ytapdakmnlclboaa", sum := "e9b9ab89b40189d884ff1ab46e91e2fb9c01ba19f0f9de286a12751c994ef6fc", func := "drawlot/drawlotlaw15.PickCounts", spec := "pickCounts", inPlace := ["math/bits.Add64"], unfollowed := true, recurses := true, plainKeys := false, apart := false }
def PickCountsSaid : Prop := pickCountsRow.holds Try.pinned (OpenSpec.ofChange pickCountsSpec)

/-- ITS FALSE NEIGHBOUR: 'it returns false'. Refute it at one input. -/
def pickCountsWrong : ChangeSpec := { name := "pickCounts", fn := fun _ => fun
  | [d1, d2] => { results := [.lit (.bool false)], args := [d1, d2] }
  | _ => none }
def PickCountsWrongFalsely : Prop := pickCountsRow.holds Try.pinned (OpenSpec.ofChange pickCountsWrong)

/-- 'drawlotlaw15.PickStakes': WHATEVER THE INPUT: true; the input reads as it did. -/
def pickStakesSpec : ChangeSpec := { name := "pickStakes", fn := fun _ => fun
  | [d1, d2, d3] => { results := [.lit (.bool true)], args := [d1, d2, d3] }
  | _ => none }
def pickStakesRow : OpenClaim := { program := "ytapdakmnlclboaa", sum := "e9b9ab89b40189d884ff1ab46e91e2fb9c01ba19f0f9de286a12751c994ef6fc", func := "drawlot/drawlotlaw15.PickStakes", spec := "pickStakes", inPlace := ["math/bits.Add64"], unfollowed := true, recurses := true, plainKeys := false, apart := false }
def PickStakesSaid : Prop := pickStakesRow.holds Try.pinned (OpenSpec.ofChange pickStakesSpec)

/-- ITS FALSE NEIGHBOUR: 'it returns false'. Refute it at one input. -/
def pickStakesWrong : ChangeSpec := { name := "pickStakes", fn := fun _ => fun
  | [d1, d2, d3] => { results := [.lit (.bool false)], args := [d1, d2, d3] }
  | _ => none }
def PickStakesWrongFalsely : Prop := pickStakesRow.holds Try.pinned (OpenSpec.ofChange pickStakesWrong)

/-- 'drawlotlaw17.CommUnlike': WHATEVER THE INPUT: true; the input reads as it did. -/
def commUnlikeSpec : ChangeSpec := { name := "commUnlike", fn := fun _ => fun
  | [d1, d2, d3] => { results := [.lit (.bool true)], args := [d1, d2, d3] }
  | _ => none }
def commUnlikeRow : OpenClaim := { program := "ytapdakmnlclboaa", sum := "e9b9ab89b40189d884ff1ab46e91e2fb9c01ba19f0f9de286a12751c994ef6fc", func := "drawlot/drawlotlaw17.CommUnlike", spec := "commUnlike", inPlace := ["math/bits.Add64"], unfollowed := true, recurses := true, plainKeys := false, apart := false }
def CommUnlikeSaid : Prop := commUnlikeRow.holds Try.pinned (OpenSpec.ofChange commUnlikeSpec)

/-- ITS FALSE NEIGHBOUR: 'it returns false'. Refute it at one input. -/
def commUnlikeWrong : ChangeSpec := { name := "commUnlike", fn := fun _ => fun
  | [d1, d2, d3] => { results := [.lit (.bool false)], args := [d1, d2, d3] }
  | _ => none }
def CommUnlikeWrongFalsely : Prop := commUnlikeRow.holds Try.pinned (OpenSpec.ofChange commUnlikeWrong)

/-- 'drawlotlaw17.CommCounts': WHATEVER THE INPUT: true; the input reads as it did. -/
def commCountsSpec : ChangeSpec := { name := "commCounts", fn := fun _ => fun
  | [d1, d2, d3] => { results := [.lit (.bool true)], args := [d1, d2, d3] }
  | _ => none }
def commCountsRow : OpenClaim := { program := "ytapdakmnlclboaa", sum := "e9b9ab89b40189d884ff1ab46e91e2fb9c01ba19f0f9de286a12751c994ef6fc", func := "drawlot/drawlotlaw17.CommCounts", spec := "commCounts", inPlace := ["math/bits.Add64"], unfollowed := true, recurses := true, plainKeys := false, apart := false }
def CommCountsSaid : Prop := commCountsRow.holds Try.pinned (OpenSpec.ofChange commCountsSpec)

/-- ITS FALSE NEIGHBOUR: 'it returns false'. Refute it at one input. -/
def commCountsWrong : ChangeSpec := { name := "commCounts", fn := fun _ => fun
  | [d1, d2, d3] => { results := [.lit (.bool false)], args := [d1, d2, d3] }
  | _ => none }
def CommCountsWrongFalsely : Prop := commCountsRow.holds Try.pinned (OpenSpec.ofChange commCountsWrong)

/-- 'drawlotlaw23.SlotsStand': WHATEVER THE INPUT: true; the input reads as it did. -/
def slotsStandSpec : ChangeSpec := { name := "slotsStand", fn := fun _ => fun
  | [d1, d2, d3] => { results := [.lit (.bool true)], args := [d1, d2, d3] }
  | _ => none }
def slotsStandRow : OpenClaim := { program := "ytapdakmnlclboaa", sum := "e9b9ab89b40189d884ff1ab46e91e2fb9c01ba19f0f9de286a12751c994ef6fc", func := "drawlot/drawlotlaw23.SlotsStand", spec := "slotsStand", inPlace := ["math/bits.Add64"], unfollowed := true, recurses := true, plainKeys := false, apart := false }
def SlotsStandSaid : Prop := slotsStandRow.holds Try.pinned (OpenSpec.ofChange slotsStandSpec)

/-- ITS FALSE NEIGHBOUR: 'it returns false'. Refute it at one input. -/
def slotsStandWrong : ChangeSpec := { name := "slotsStand", fn := fun _ => fun
  | [d1, d2, d3] => { results := [.lit (.bool false)], args := [d1, d2, d3] }
  | _ => none }
def SlotsStandWrongFalsely : Prop := slotsStandRow.holds Try.pinned (OpenSpec.ofChange slotsStandWrong)

/- THE SECOND FORM. 'bulk': how many values and letters a reading holds, each counted each time it is reached (what is shared counts as often as it is met; a slice's spare places count too). A statement '..UptoSaid' is the law's where the arguments, and the package variables that the reading takes, are together of bulk at most 1048576: NARROWER than '..Said'. Prove '..Said' where nothing that the law and all that it calls make is longer than what came in: it says more and counts as full. Else prove '..UptoSaid'. A law counts once. -/
mutual
def uptoBulk {H : Type} : DataW H → Nat
  | .lit (.string bytes) => bytes.length + 1
  | .lit _ => 1
  | .nil => 1
  | .ptr d => uptoBulk d + 1
  | .slice elems spare => uptoBulkAll elems + uptoBulkAll spare + 1
  | .agg parts => uptoBulkAll parts + 1
  | .iface _ d => uptoBulk d + 1
  | .map entries => uptoBulkEntries entries + 1
  | .held _ => 1
def uptoBulkAll {H : Type} : List (DataW H) → Nat
  | [] => 0
  | d :: r => uptoBulk d + uptoBulkAll r
def uptoBulkEntries {H : Type} : List (Lit × DataW H) → Nat
  | [] => 0
  | x :: r => uptoBulkEntry x + uptoBulkEntries r
def uptoBulkEntry {H : Type} : Lit × DataW H → Nat
  | (.string bytes, d) => bytes.length + uptoBulk d + 1
  | (_, d) => uptoBulk d + 1
 end
def uptoSmall : (H : Type) → List (DataW H) → Bool := fun _ ds => decide (uptoBulkAll ds ≤ 1048576)
def OpenSpec.upto (s : _root_.Go.ChangeSpec) : _root_.Go.OpenSpec := { _root_.Go.OpenSpec.ofChange s with cond := some uptoSmall }

/-- 'drawlotlaw15.PickCounts', WHERE WHAT IT READS IS OF BULK AT MOST 1048576: true; the input reads as it did. -/
def pickCountsUptoRow : OpenClaim := { program := "ytapdakmnlclboaa", sum := "e9b9ab89b40189d884ff1ab46e91e2fb9c01ba19f0f9de286a12751c994ef6fc", func := "drawlot/drawlotlaw15.PickCounts", spec := "pickCounts", inPlace := ["math/bits.Add64"], unfollowed := true, recurses := true, plainKeys := false, apart := false, narrowed := true }
def PickCountsUptoSaid : Prop := pickCountsUptoRow.holds Try.pinned (OpenSpec.upto pickCountsSpec)

/-- 'drawlotlaw15.PickStakes', WHERE WHAT IT READS IS OF BULK AT MOST 1048576: true; the input reads as it did. -/
def pickStakesUptoRow : OpenClaim := { program := "ytapdakmnlclboaa", sum := "e9b9ab89b40189d884ff1ab46e91e2fb9c01ba19f0f9de286a12751c994ef6fc", func := "drawlot/drawlotlaw15.PickStakes", spec := "pickStakes", inPlace := ["math/bits.Add64"], unfollowed := true, recurses := true, plainKeys := false, apart := false, narrowed := true }
def PickStakesUptoSaid : Prop := pickStakesUptoRow.holds Try.pinned (OpenSpec.upto pickStakesSpec)

/-- 'drawlotlaw17.CommUnlike', WHERE WHAT IT READS IS OF BULK AT MOST 1048576: true; the input reads as it did. -/
def commUnlikeUptoRow : OpenClaim := { program := "ytapdakmnlclboaa", sum := "e9b9ab89b40189d884ff1ab46e91e2fb9c01ba19f0f9de286a12751c994ef6fc", func := "drawlot/drawlotlaw17.CommUnlike", spec := "commUnlike", inPlace := ["math/bits.Add64"], unfollowed := true, recurses := true, plainKeys := false, apart := false, narrowed := true }
def CommUnlikeUptoSaid : Prop := commUnlikeUptoRow.holds Try.pinned (OpenSpec.upto commUnlikeSpec)

/-- 'drawlotlaw17.CommCounts', WHERE WHAT IT READS IS OF BULK AT MOST 1048576: true; the input reads as it did. -/
def commCountsUptoRow : OpenClaim := { program := "ytapdakmnlclboaa", sum := "e9b9ab89b40189d884ff1ab46e91e2fb9c01ba19f0f9de286a12751c994ef6fc", func := "drawlot/drawlotlaw17.CommCounts", spec := "commCounts", inPlace := ["math/bits.Add64"], unfollowed := true, recurses := true, plainKeys := false, apart := false, narrowed := true }
def CommCountsUptoSaid : Prop := commCountsUptoRow.holds Try.pinned (OpenSpec.upto commCountsSpec)

/-- 'drawlotlaw23.SlotsStand', WHERE WHAT IT READS IS OF BULK AT MOST 1048576: true; the input reads as it did. -/
def slotsStandUptoRow : OpenClaim := { program := "ytapdakmnlclboaa", sum := "e9b9ab89b40189d884ff1ab46e91e2fb9c01ba19f0f9de286a12751c994ef6fc", func := "drawlot/drawlotlaw23.SlotsStand", spec := "slotsStand", inPlace := ["math/bits.Add64"], unfollowed := true, recurses := true, plainKeys := false, apart := false, narrowed := true }
def SlotsStandUptoSaid : Prop := slotsStandUptoRow.holds Try.pinned (OpenSpec.upto slotsStandSpec)

end Rows
end Go.Proofs.Ytapdakmnlclboaa
