/-
  No cell of these rows narrows 'for every input' (looked for: loops, veiled, ifaces, maps, wideKeys, modest, calm, conditions, laid).
  DERIVED. THE GIVEN ROWS OF THIS SEAT. 8 by the template 'for every input the law returns true; each argument reads behind the call as it read before'; 0 by the template 'total and deterministic' (their statements: YtapdakmnlclboaaGreatTotals.lean).
  GIVEN WITH THE SEED: the statements are not yours to turn. If you find one false, say at which input.
  Laid BY PROGRAM, IN A SANDBOX (cutbox-rows.mjs): the forced cells as the released guide's own fill.sh prints them over the translation dc9c22efa252ae03… (all of the seat's roots in one cut). By AI agents, Wed Nov 11 2026. No macro, syntax, notation, axiom, sorry.
-/
import Derived.Test.YtapdakmnlclboaaGreatChecked
import GoSem.Claim
import GoSem.ClaimJoined
import GoSem.ClaimMapViews
import Derived.JoinedTies
import Derived.KernelRfl
namespace Go.Proofs.YtapdakmnlclboaaGreat
/- THE CELL 'sum', in the pinned program and in every row, IS THE sha256 OF THE DUMP (.gsa) THAT YtapdakmnlclboaaGreatProg.lean LOADS. Nothing in Lean hashes anything: it is a label: what it is worth is what the hold of that sum in a sandbox is worth. -/
noncomputable def Tryz.pinned : Pinned := { name := "ytapdakmnlclboaagreat", sum := "dc9c22efa252ae032274080ecf760ec84d7aefc4382acf468047442b11b53c41", checked := Tryz.checked }
namespace Rows
def none {H : Type} : Left H := { results := [], args := [] }

/-- 'drawlotlaw15.PickDraws': WHATEVER THE INPUT: true; the input reads as it did. -/
def pickDrawsSpec : ChangeSpec := { name := "pickDraws", fn := fun _ => fun
  | [d1, d2, d3] => { results := [.lit (.bool true)], args := [d1, d2, d3] }
  | _ => none }
def pickDrawsRow : OpenClaim := { program := "ytapdakmnlclboaagreat", sum := "dc9c22efa252ae032274080ecf760ec84d7aefc4382acf468047442b11b53c41", func := "drawlot/drawlotlaw15.PickDraws", spec := "pickDraws", inPlace := ["math/bits.Add64"], unfollowed := true, recurses := true, plainKeys := false, apart := false }
def PickDrawsSaid : Prop := pickDrawsRow.holds Tryz.pinned (OpenSpec.ofChange pickDrawsSpec)

/-- ITS FALSE NEIGHBOUR: 'it returns false'. Refute it at one input. -/
def pickDrawsWrong : ChangeSpec := { name := "pickDraws", fn := fun _ => fun
  | [d1, d2, d3] => { results := [.lit (.bool false)], args := [d1, d2, d3] }
  | _ => none }
def PickDrawsWrongFalsely : Prop := pickDrawsRow.holds Tryz.pinned (OpenSpec.ofChange pickDrawsWrong)

/-- 'drawlotlaw15.PickLists': WHATEVER THE INPUT: true; the input reads as it did. -/
def pickListsSpec : ChangeSpec := { name := "pickLists", fn := fun _ => fun
  | [d1, d2, d3] => { results := [.lit (.bool true)], args := [d1, d2, d3] }
  | _ => none }
def pickListsRow : OpenClaim := { program := "ytapdakmnlclboaagreat", sum := "dc9c22efa252ae032274080ecf760ec84d7aefc4382acf468047442b11b53c41", func := "drawlot/drawlotlaw15.PickLists", spec := "pickLists", inPlace := ["math/bits.Add64"], unfollowed := true, recurses := true, plainKeys := false, apart := false }
def PickListsSaid : Prop := pickListsRow.holds Tryz.pinned (OpenSpec.ofChange pickListsSpec)

/-- ITS FALSE NEIGHBOUR: 'it returns false'. Refute it at one input. -/
def pickListsWrong : ChangeSpec := { name := "pickLists", fn := fun _ => fun
  | [d1, d2, d3] => { results := [.lit (.bool false)], args := [d1, d2, d3] }
  | _ => none }
def PickListsWrongFalsely : Prop := pickListsRow.holds Tryz.pinned (OpenSpec.ofChange pickListsWrong)

/-- 'drawlotlaw17.CommLists': WHATEVER THE INPUT: true; the input reads as it did. -/
def commListsSpec : ChangeSpec := { name := "commLists", fn := fun _ => fun
  | [d1, d2, d3] => { results := [.lit (.bool true)], args := [d1, d2, d3] }
  | _ => none }
def commListsRow : OpenClaim := { program := "ytapdakmnlclboaagreat", sum := "dc9c22efa252ae032274080ecf760ec84d7aefc4382acf468047442b11b53c41", func := "drawlot/drawlotlaw17.CommLists", spec := "commLists", inPlace := ["math/bits.Add64"], unfollowed := true, recurses := true, plainKeys := false, apart := false }
def CommListsSaid : Prop := commListsRow.holds Tryz.pinned (OpenSpec.ofChange commListsSpec)

/-- ITS FALSE NEIGHBOUR: 'it returns false'. Refute it at one input. -/
def commListsWrong : ChangeSpec := { name := "commLists", fn := fun _ => fun
  | [d1, d2, d3] => { results := [.lit (.bool false)], args := [d1, d2, d3] }
  | _ => none }
def CommListsWrongFalsely : Prop := commListsRow.holds Tryz.pinned (OpenSpec.ofChange commListsWrong)

/-- 'drawlotlaw17.CommTrees': WHATEVER THE INPUT: true; the input reads as it did. -/
def commTreesSpec : ChangeSpec := { name := "commTrees", fn := fun _ => fun
  | [d1, d2, d3] => { results := [.lit (.bool true)], args := [d1, d2, d3] }
  | _ => none }
def commTreesRow : OpenClaim := { program := "ytapdakmnlclboaagreat", sum := "dc9c22efa252ae032274080ecf760ec84d7aefc4382acf468047442b11b53c41", func := "drawlot/drawlotlaw17.CommTrees", spec := "commTrees", inPlace := ["math/bits.Add64"], unfollowed := true, recurses := true, plainKeys := false, apart := false }
def CommTreesSaid : Prop := commTreesRow.holds Tryz.pinned (OpenSpec.ofChange commTreesSpec)

/-- ITS FALSE NEIGHBOUR: 'it returns false'. Refute it at one input. -/
def commTreesWrong : ChangeSpec := { name := "commTrees", fn := fun _ => fun
  | [d1, d2, d3] => { results := [.lit (.bool false)], args := [d1, d2, d3] }
  | _ => none }
def CommTreesWrongFalsely : Prop := commTreesRow.holds Tryz.pinned (OpenSpec.ofChange commTreesWrong)

/-- 'drawlotlaw17.CommWays': WHATEVER THE INPUT: true; the input reads as it did. -/
def commWaysSpec : ChangeSpec := { name := "commWays", fn := fun _ => fun
  | [d1, d2, d3] => { results := [.lit (.bool true)], args := [d1, d2, d3] }
  | _ => none }
def commWaysRow : OpenClaim := { program := "ytapdakmnlclboaagreat", sum := "dc9c22efa252ae032274080ecf760ec84d7aefc4382acf468047442b11b53c41", func := "drawlot/drawlotlaw17.CommWays", spec := "commWays", inPlace := ["math/bits.Add64"], unfollowed := true, recurses := true, plainKeys := false, apart := false }
def CommWaysSaid : Prop := commWaysRow.holds Tryz.pinned (OpenSpec.ofChange commWaysSpec)

/-- ITS FALSE NEIGHBOUR: 'it returns false'. Refute it at one input. -/
def commWaysWrong : ChangeSpec := { name := "commWays", fn := fun _ => fun
  | [d1, d2, d3] => { results := [.lit (.bool false)], args := [d1, d2, d3] }
  | _ => none }
def CommWaysWrongFalsely : Prop := commWaysRow.holds Tryz.pinned (OpenSpec.ofChange commWaysWrong)

/-- 'drawlotlaw23.SlotsLeads': WHATEVER THE INPUT: true; the input reads as it did. -/
def slotsLeadsSpec : ChangeSpec := { name := "slotsLeads", fn := fun _ => fun
  | [d1, d2, d3] => { results := [.lit (.bool true)], args := [d1, d2, d3] }
  | _ => none }
def slotsLeadsRow : OpenClaim := { program := "ytapdakmnlclboaagreat", sum := "dc9c22efa252ae032274080ecf760ec84d7aefc4382acf468047442b11b53c41", func := "drawlot/drawlotlaw23.SlotsLeads", spec := "slotsLeads", inPlace := ["math/bits.Add64"], unfollowed := true, recurses := true, plainKeys := false, apart := false }
def SlotsLeadsSaid : Prop := slotsLeadsRow.holds Tryz.pinned (OpenSpec.ofChange slotsLeadsSpec)

/-- ITS FALSE NEIGHBOUR: 'it returns false'. Refute it at one input. -/
def slotsLeadsWrong : ChangeSpec := { name := "slotsLeads", fn := fun _ => fun
  | [d1, d2, d3] => { results := [.lit (.bool false)], args := [d1, d2, d3] }
  | _ => none }
def SlotsLeadsWrongFalsely : Prop := slotsLeadsRow.holds Tryz.pinned (OpenSpec.ofChange slotsLeadsWrong)

/-- 'drawlotlaw23.SlotsPlans': WHATEVER THE INPUT: true; the input reads as it did. -/
def slotsPlansSpec : ChangeSpec := { name := "slotsPlans", fn := fun _ => fun
  | [d1, d2, d3] => { results := [.lit (.bool true)], args := [d1, d2, d3] }
  | _ => none }
def slotsPlansRow : OpenClaim := { program := "ytapdakmnlclboaagreat", sum := "dc9c22efa252ae032274080ecf760ec84d7aefc4382acf468047442b11b53c41", func := "drawlot/drawlotlaw23.SlotsPlans", spec := "slotsPlans", inPlace := ["math/bits.Add64"], unfollowed := true, recurses := true, plainKeys := false, apart := false }
def SlotsPlansSaid : Prop := slotsPlansRow.holds Tryz.pinned (OpenSpec.ofChange slotsPlansSpec)

/-- ITS FALSE NEIGHBOUR: 'it returns false'. Refute it at one input. -/
def slotsPlansWrong : ChangeSpec := { name := "slotsPlans", fn := fun _ => fun
  | [d1, d2, d3] => { results := [.lit (.bool false)], args := [d1, d2, d3] }
  | _ => none }
def SlotsPlansWrongFalsely : Prop := slotsPlansRow.holds Tryz.pinned (OpenSpec.ofChange slotsPlansWrong)

/-- 'drawlotlaw23.SlotsSits': WHATEVER THE INPUT: true; the input reads as it did. -/
def slotsSitsSpec : ChangeSpec := { name := "slotsSits", fn := fun _ => fun
  | [d1, d2, d3] => { results := [.lit (.bool true)], args := [d1, d2, d3] }
  | _ => none }
def slotsSitsRow : OpenClaim := { program := "ytapdakmnlclboaagreat", sum := "dc9c22efa252ae032274080ecf760ec84d7aefc4382acf468047442b11b53c41", func := "drawlot/drawlotlaw23.SlotsSits", spec := "slotsSits", inPlace := ["math/bits.Add64"], unfollowed := true, recurses := true, plainKeys := false, apart := false }
def SlotsSitsSaid : Prop := slotsSitsRow.holds Tryz.pinned (OpenSpec.ofChange slotsSitsSpec)

/-- ITS FALSE NEIGHBOUR: 'it returns false'. Refute it at one input. -/
def slotsSitsWrong : ChangeSpec := { name := "slotsSits", fn := fun _ => fun
  | [d1, d2, d3] => { results := [.lit (.bool false)], args := [d1, d2, d3] }
  | _ => none }
def SlotsSitsWrongFalsely : Prop := slotsSitsRow.holds Tryz.pinned (OpenSpec.ofChange slotsSitsWrong)

/- THE SECOND FORM. 'bulk': how many values and letters a reading holds, each counted each time it is reached (what is shared counts as often as it is met; a slice's spare places count too). A statement '..UptoSaid' is the law's where the arguments, and the package variables that the reading takes, are together of bulk at most 1048576: NARROWER than '..Said'. Prove '..Said' where nothing that the law and all that it calls make is longer than what came in: it says more and counts as full. Else prove '..UptoSaid'. A law counts once. -/
mutual
def uptoBulk {H : Type} : DataW H → Nat
  | .lit (.string bytes) => bytes.length + 1
  | .lit _ => 1
  | .nil => 1
  | .ptr d => uptoBulk d + 1
  | .slice elems spare => uptoBulkAll elems + uptoBulkAll spare + 1
  | .agg parts => uptoBulkAll parts + 1
  | .iface _ d => uptoBulk d + 1
  | .map entries => uptoBulkEntries entries + 1
  | .held _ => 1
def uptoBulkAll {H : Type} : List (DataW H) → Nat
  | [] => 0
  | d :: r => uptoBulk d + uptoBulkAll r
def uptoBulkEntries {H : Type} : List (Lit × DataW H) → Nat
  | [] => 0
  | x :: r => uptoBulkEntry x + uptoBulkEntries r
def uptoBulkEntry {H : Type} : Lit × DataW H → Nat
  | (.string bytes, d) => bytes.length + uptoBulk d + 1
  | (_, d) => uptoBulk d + 1
 end
def uptoSmall : (H : Type) → List (DataW H) → Bool := fun _ ds => decide (uptoBulkAll ds ≤ 1048576)
def OpenSpec.upto (s : _root_.Go.ChangeSpec) : _root_.Go.OpenSpec := { _root_.Go.OpenSpec.ofChange s with cond := some uptoSmall }

/-- 'drawlotlaw15.PickDraws', WHERE WHAT IT READS IS OF BULK AT MOST 1048576: true; the input reads as it did. -/
def pickDrawsUptoRow : OpenClaim := { program := "ytapdakmnlclboaagreat", sum := "dc9c22efa252ae032274080ecf760ec84d7aefc4382acf468047442b11b53c41", func := "drawlot/drawlotlaw15.PickDraws", spec := "pickDraws", inPlace := ["math/bits.Add64"], unfollowed := true, recurses := true, plainKeys := false, apart := false, narrowed := true }
def PickDrawsUptoSaid : Prop := pickDrawsUptoRow.holds Tryz.pinned (OpenSpec.upto pickDrawsSpec)

/-- 'drawlotlaw15.PickLists', WHERE WHAT IT READS IS OF BULK AT MOST 1048576: true; the input reads as it did. -/
def pickListsUptoRow : OpenClaim := { program := "ytapdakmnlclboaagreat", sum := "dc9c22efa252ae032274080ecf760ec84d7aefc4382acf468047442b11b53c41", func := "drawlot/drawlotlaw15.PickLists", spec := "pickLists", inPlace := ["math/bits.Add64"], unfollowed := true, recurses := true, plainKeys := false, apart := false, narrowed := true }
def PickListsUptoSaid : Prop := pickListsUptoRow.holds Tryz.pinned (OpenSpec.upto pickListsSpec)

/-- 'drawlotlaw17.CommLists', WHERE WHAT IT READS IS OF BULK AT MOST 1048576: true; the input reads as it did. -/
def commListsUptoRow : OpenClaim := { program := "ytapdakmnlclboaagreat", sum := "dc9c22efa252ae032274080ecf760ec84d7aefc4382acf468047442b11b53c41", func := "drawlot/drawlotlaw17.CommLists", spec := "commLists", inPlace := ["math/bits.Add64"], unfollowed := true, recurses := true, plainKeys := false, apart := false, narrowed := true }
def CommListsUptoSaid : Prop := commListsUptoRow.holds Tryz.pinned (OpenSpec.upto commListsSpec)

/-- 'drawlotlaw17.CommTrees', WHERE WHAT IT READS IS OF BULK AT MOST 1048576: true; the input reads as it did. -/
def commTreesUptoRow : OpenClaim := { program := "ytapdakmnlclboaagreat", sum := "dc9c22efa252ae032274080ecf760ec84d7aefc4382acf468047442b11b53c41", func := "drawlot/drawlotlaw17.CommTrees", spec := "commTrees", inPlace := ["math/bits.Add64"], unfollowed := true, recurses := true, plainKeys := false, apart := false, narrowed := true }
def CommTreesUptoSaid : Prop := commTreesUptoRow.holds Tryz.pinned (OpenSpec.upto commTreesSpec)

/-- 'drawlotlaw17.CommWays', WHERE WHAT IT READS IS OF BULK AT MOST 1048576: true; the input reads as it did. -/
def commWaysUptoRow : OpenClaim := { program := "ytapdakmnlclboaagreat", sum := "dc9c22efa252ae032274080ecf760ec84d7aefc4382acf468047442b11b53c41", func := "drawlot/drawlotlaw17.CommWays", spec := "commWays", inPlace := ["math/bits.Add64"], unfollowed := true, recurses := true, plainKeys := false, apart := false, narrowed := true }
def CommWaysUptoSaid : Prop := commWaysUptoRow.holds Tryz.pinned (OpenSpec.upto commWaysSpec)

/-- 'drawlotlaw23.SlotsLeads', WHERE WHAT IT READS IS OF BULK AT MOST 1048576: true; the input reads as it did. -/
def slotsLeadsUptoRow : OpenClaim := { program := "ytapdakmnlclboaagreat", sum := "dc9c22efa252ae032274080ecf760ec84d7aefc4382acf468047442b11b53c41", func := "drawlot/drawlotlaw23.SlotsLeads", spec := "slotsLeads", inPlace := ["math/bits.Add64"], unfollowed := true, recurses := true, plainKeys := false, apart := false, narrowed := true }
def SlotsLeadsUptoSaid : Prop := slotsLeadsUptoRow.holds Tryz.pinned (OpenSpec.upto slotsLeadsSpec)

/-- 'drawlotlaw23.SlotsPlans', WHERE WHAT IT READS IS OF BULK AT MOST 1048576: true; the input reads as it did. -/
def slotsPlansUptoRow : OpenClaim := { program := "ytapdakmnlclboaagreat", sum := "dc9c22efa252ae032274080ecf760ec84d7aefc4382acf468047442b11b53c41", func := "drawlot/drawlotlaw23.SlotsPlans", spec := "slotsPlans", inPlace := ["math/bits.Add64"], unfollowed := true, recurses := true, plainKeys := false, apart := false, narrowed := true }
def SlotsPlansUptoSaid : Prop := slotsPlansUptoRow.holds Tryz.pinned (OpenSpec.upto slotsPlansSpec)

/-- 'drawlotlaw23.SlotsSits', WHERE WHAT IT READS IS OF BULK AT MOST 1048576: true; the input reads as it did. -/
def slotsSitsUptoRow : OpenClaim := { program := "ytapdakmnlclboaagreat", sum := "dc9c22efa252ae032274080ecf760ec84d7aefc4382acf468047442b11b53c41", func := "drawlot/drawlotlaw23.SlotsSits", spec := "slotsSits", inPlace := ["math/bits.Add64"], unfollowed := true, recurses := true, plainKeys := false, apart := false, narrowed := true }
def SlotsSitsUptoSaid : Prop := slotsSitsUptoRow.holds Tryz.pinned (OpenSpec.upto slotsSitsSpec)

end Rows
end Go.Proofs.YtapdakmnlclboaaGreat
