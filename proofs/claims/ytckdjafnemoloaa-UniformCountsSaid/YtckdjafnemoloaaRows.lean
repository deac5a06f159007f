/-
  No cell of these rows narrows 'for every input' (looked for: loops, veiled, ifaces, maps, wideKeys, modest, calm, conditions, laid).
  DERIVED. THE GIVEN ROWS OF THIS SEAT. 18 by the template 'for every input the law returns true; each argument reads behind the call as it read before'; 0 by the template 'total and deterministic' (their statements: YtckdjafnemoloaaTotals.lean).
  GIVEN WITH THE SEED: the statements are not yours to turn. If you find one false, say at which input.
  Laid BY PROGRAM, IN A SANDBOX (cutbox-rows.mjs): the forced cells as the released guide's own fill.sh prints them over the translation 0e8bb4c9ed948c78… (all of the seat's roots in one cut). By AI agents, Wed Nov 11 2026. No macro, syntax, notation, axiom, sorry.
-/
import Derived.Test.YtckdjafnemoloaaChecked
import GoSem.Claim
import GoSem.ClaimJoined
import GoSem.ClaimMapViews
import Derived.JoinedTies
import Derived.KernelRfl
namespace Go.Proofs.Ytckdjafnemoloaa
/- THE CELL 'sum', in the pinned program and in every row, IS THE sha256 OF THE DUMP (.gsa) THAT YtckdjafnemoloaaProg.lean LOADS. Nothing in Lean hashes anything: it is a label: what it is worth is what the hold of that sum in a sandbox is worth. -/
noncomputable def Try.pinned : Pinned := { name := "ytckdjafnemoloaa", sum := "0e8bb4c9ed948c78e7f99bb941920890b460fc9821018a390e9c5324948963b5", checked := Try.checked }
namespace Rows
def none {H : Type} : Left H := { results := [], args := [] }

/-- 'drawlotlaw19.WindowTells': WHATEVER THE INPUT: true; the input reads as it did. -/
def windowTellsSpec : ChangeSpec := { name := "windowTells", fn := fun _ => fun
  | [d1, d2, d3] => { results := [.lit (.bool true)], args := [d1, d2, d3] }
  | _ => none }
def windowTellsRow : OpenClaim := { program := "ytckdjafnemoloaa", sum := "0e8bb4c9ed948c78e7f99bb941920890b460fc9821018a390e9c5324948963b5", func := "drawlot/drawlotlaw19.WindowTells", spec := "windowTells", apart := false }
def WindowTellsSaid : Prop := windowTellsRow.holds Try.pinned (OpenSpec.ofChange windowTellsSpec)

/-- ITS FALSE NEIGHBOUR: 'it returns false'. Refute it at one input. -/
def windowTellsWrong : ChangeSpec := { name := "windowTells", fn := fun _ => fun
  | [d1, d2, d3] => { results := [.lit (.bool false)], args := [d1, d2, d3] }
  | _ => none }
def WindowTellsWrongFalsely : Prop := windowTellsRow.holds Try.pinned (OpenSpec.ofChange windowTellsWrong)

/-- 'drawlotlaw19.WindowGoes': WHATEVER THE INPUT: true; the input reads as it did. -/
def windowGoesSpec : ChangeSpec := { name := "windowGoes", fn := fun _ => fun
  | [d] => { results := [.lit (.bool true)], args := [d] }
  | _ => none }
def windowGoesRow : OpenClaim := { program := "ytckdjafnemoloaa", sum := "0e8bb4c9ed948c78e7f99bb941920890b460fc9821018a390e9c5324948963b5", func := "drawlot/drawlotlaw19.WindowGoes", spec := "windowGoes", apart := false }
def WindowGoesSaid : Prop := windowGoesRow.holds Try.pinned (OpenSpec.ofChange windowGoesSpec)

/-- ITS FALSE NEIGHBOUR: 'it returns false'. Refute it at one input. -/
def windowGoesWrong : ChangeSpec := { name := "windowGoes", fn := fun _ => fun
  | [d] => { results := [.lit (.bool false)], args := [d] }
  | _ => none }
def WindowGoesWrongFalsely : Prop := windowGoesRow.holds Try.pinned (OpenSpec.ofChange windowGoesWrong)

/-- 'drawlotlaw19.WindowSums': WHATEVER THE INPUT: true; the input reads as it did. -/
def windowSumsSpec : ChangeSpec := { name := "windowSums", fn := fun _ => fun
  | [d1, d2] => { results := [.lit (.bool true)], args := [d1, d2] }
  | _ => none }
def windowSumsRow : OpenClaim := { program := "ytckdjafnemoloaa", sum := "0e8bb4c9ed948c78e7f99bb941920890b460fc9821018a390e9c5324948963b5", func := "drawlot/drawlotlaw19.WindowSums", spec := "windowSums", apart := false }
def WindowSumsSaid : Prop := windowSumsRow.holds Try.pinned (OpenSpec.ofChange windowSumsSpec)

/-- ITS FALSE NEIGHBOUR: 'it returns false'. Refute it at one input. -/
def windowSumsWrong : ChangeSpec := { name := "windowSums", fn := fun _ => fun
  | [d1, d2] => { results := [.lit (.bool false)], args := [d1, d2] }
  | _ => none }
def WindowSumsWrongFalsely : Prop := windowSumsRow.holds Try.pinned (OpenSpec.ofChange windowSumsWrong)

/-- 'drawlotlaw18.MixXor': WHATEVER THE INPUT: true; the input reads as it did. -/
def mixXorSpec : ChangeSpec := { name := "mixXor", fn := fun _ => fun
  | [d] => { results := [.lit (.bool true)], args := [d] }
  | _ => none }
def mixXorRow : OpenClaim := { program := "ytckdjafnemoloaa", sum := "0e8bb4c9ed948c78e7f99bb941920890b460fc9821018a390e9c5324948963b5", func := "drawlot/drawlotlaw18.MixXor", spec := "mixXor", apart := false }
def MixXorSaid : Prop := mixXorRow.holds Try.pinned (OpenSpec.ofChange mixXorSpec)

/-- ITS FALSE NEIGHBOUR: 'it returns false'. Refute it at one input. -/
def mixXorWrong : ChangeSpec := { name := "mixXor", fn := fun _ => fun
  | [d] => { results := [.lit (.bool false)], args := [d] }
  | _ => none }
def MixXorWrongFalsely : Prop := mixXorRow.holds Try.pinned (OpenSpec.ofChange mixXorWrong)

/-- 'drawlotlaw18.MixSeeds': WHATEVER THE INPUT: true; the input reads as it did. -/
def mixSeedsSpec : ChangeSpec := { name := "mixSeeds", fn := fun _ => fun
  | [d1, d2, d3] => { results := [.lit (.bool true)], args := [d1, d2, d3] }
  | _ => none }
def mixSeedsRow : OpenClaim := { program := "ytckdjafnemoloaa", sum := "0e8bb4c9ed948c78e7f99bb941920890b460fc9821018a390e9c5324948963b5", func := "drawlot/drawlotlaw18.MixSeeds", spec := "mixSeeds", apart := false }
def MixSeedsSaid : Prop := mixSeedsRow.holds Try.pinned (OpenSpec.ofChange mixSeedsSpec)

/-- ITS FALSE NEIGHBOUR: 'it returns false'. Refute it at one input. -/
def mixSeedsWrong : ChangeSpec := { name := "mixSeeds", fn := fun _ => fun
  | [d1, d2, d3] => { results := [.lit (.bool false)], args := [d1, d2, d3] }
  | _ => none }
def MixSeedsWrongFalsely : Prop := mixSeedsRow.holds Try.pinned (OpenSpec.ofChange mixSeedsWrong)

/-- 'drawlotlaw18.MixOrder': WHATEVER THE INPUT: true; the input reads as it did. -/
def mixOrderSpec : ChangeSpec := { name := "mixOrder", fn := fun _ => fun
  | [d1, d2, d3] => { results := [.lit (.bool true)], args := [d1, d2, d3] }
  | _ => none }
def mixOrderRow : OpenClaim := { program := "ytckdjafnemoloaa", sum := "0e8bb4c9ed948c78e7f99bb941920890b460fc9821018a390e9c5324948963b5", func := "drawlot/drawlotlaw18.MixOrder", spec := "mixOrder", apart := false }
def MixOrderSaid : Prop := mixOrderRow.holds Try.pinned (OpenSpec.ofChange mixOrderSpec)

/-- ITS FALSE NEIGHBOUR: 'it returns false'. Refute it at one input. -/
def mixOrderWrong : ChangeSpec := { name := "mixOrder", fn := fun _ => fun
  | [d1, d2, d3] => { results := [.lit (.bool false)], args := [d1, d2, d3] }
  | _ => none }
def MixOrderWrongFalsely : Prop := mixOrderRow.holds Try.pinned (OpenSpec.ofChange mixOrderWrong)

/-- 'drawlotlaw06.StreamBlocks': WHATEVER THE INPUT: true; the input reads as it did. -/
def streamBlocksSpec : ChangeSpec := { name := "streamBlocks", fn := fun _ => fun
  | [d1, d2, d3] => { results := [.lit (.bool true)], args := [d1, d2, d3] }
  | _ => none }
def streamBlocksRow : OpenClaim := { program := "ytckdjafnemoloaa", sum := "0e8bb4c9ed948c78e7f99bb941920890b460fc9821018a390e9c5324948963b5", func := "drawlot/drawlotlaw06.StreamBlocks", spec := "streamBlocks", apart := false }
def StreamBlocksSaid : Prop := streamBlocksRow.holds Try.pinned (OpenSpec.ofChange streamBlocksSpec)

/-- ITS FALSE NEIGHBOUR: 'it returns false'. Refute it at one input. -/
def streamBlocksWrong : ChangeSpec := { name := "streamBlocks", fn := fun _ => fun
  | [d1, d2, d3] => { results := [.lit (.bool false)], args := [d1, d2, d3] }
  | _ => none }
def StreamBlocksWrongFalsely : Prop := streamBlocksRow.holds Try.pinned (OpenSpec.ofChange streamBlocksWrong)

/-- 'drawlotlaw06.StreamBytes': WHATEVER THE INPUT: true; the input reads as it did. -/
def streamBytesSpec : ChangeSpec := { name := "streamBytes", fn := fun _ => fun
  | [d1, d2, d3] => { results := [.lit (.bool true)], args := [d1, d2, d3] }
  | _ => none }
def streamBytesRow : OpenClaim := { program := "ytckdjafnemoloaa", sum := "0e8bb4c9ed948c78e7f99bb941920890b460fc9821018a390e9c5324948963b5", func := "drawlot/drawlotlaw06.StreamBytes", spec := "streamBytes", apart := false }
def StreamBytesSaid : Prop := streamBytesRow.holds Try.pinned (OpenSpec.ofChange streamBytesSpec)

/-- ITS FALSE NEIGHBOUR: 'it returns false'. Refute it at one input. -/
def streamBytesWrong : ChangeSpec := { name := "streamBytes", fn := fun _ => fun
  | [d1, d2, d3] => { results := [.lit (.bool false)], args := [d1, d2, d3] }
  | _ => none }
def StreamBytesWrongFalsely : Prop := streamBytesRow.holds Try.pinned (OpenSpec.ofChange streamBytesWrong)

/-- 'drawlotlaw06.StreamDomains': WHATEVER THE INPUT: true; the input reads as it did. -/
def streamDomainsSpec : ChangeSpec := { name := "streamDomains", fn := fun _ => fun
  | [d1, d2] => { results := [.lit (.bool true)], args := [d1, d2] }
  | _ => none }
def streamDomainsRow : OpenClaim := { program := "ytckdjafnemoloaa", sum := "0e8bb4c9ed948c78e7f99bb941920890b460fc9821018a390e9c5324948963b5", func := "drawlot/drawlotlaw06.StreamDomains", spec := "streamDomains", apart := false }
def StreamDomainsSaid : Prop := streamDomainsRow.holds Try.pinned (OpenSpec.ofChange streamDomainsSpec)

/-- ITS FALSE NEIGHBOUR: 'it returns false'. Refute it at one input. -/
def streamDomainsWrong : ChangeSpec := { name := "streamDomains", fn := fun _ => fun
  | [d1, d2] => { results := [.lit (.bool false)], args := [d1, d2] }
  | _ => none }
def StreamDomainsWrongFalsely : Prop := streamDomainsRow.holds Try.pinned (OpenSpec.ofChange streamDomainsWrong)

/-- 'drawlotlaw06.StreamBits': WHATEVER THE INPUT: true; the input reads as it did. -/
def streamBitsSpec : ChangeSpec := { name := "streamBits", fn := fun _ => fun
  | [d1, d2, d3] => { results := [.lit (.bool true)], args := [d1, d2, d3] }
  | _ => none }
def streamBitsRow : OpenClaim := { program := "ytckdjafnemoloaa", sum := "0e8bb4c9ed948c78e7f99bb941920890b460fc9821018a390e9c5324948963b5", func := "drawlot/drawlotlaw06.StreamBits", spec := "streamBits", apart := false }
def StreamBitsSaid : Prop := streamBitsRow.holds Try.pinned (OpenSpec.ofChange streamBitsSpec)

/-- ITS FALSE NEIGHBOUR: 'it returns false'. Refute it at one input. -/
def streamBitsWrong : ChangeSpec := { name := "streamBits", fn := fun _ => fun
  | [d1, d2, d3] => { results := [.lit (.bool false)], args := [d1, d2, d3] }
  | _ => none }
def StreamBitsWrongFalsely : Prop := streamBitsRow.holds Try.pinned (OpenSpec.ofChange streamBitsWrong)

/-- 'drawlotlaw07.TapeTakes': WHATEVER THE INPUT: true; the input reads as it did. -/
def tapeTakesSpec : ChangeSpec := { name := "tapeTakes", fn := fun _ => fun
  | [d1, d2, d3] => { results := [.lit (.bool true)], args := [d1, d2, d3] }
  | _ => none }
def tapeTakesRow : OpenClaim := { program := "ytckdjafnemoloaa", sum := "0e8bb4c9ed948c78e7f99bb941920890b460fc9821018a390e9c5324948963b5", func := "drawlot/drawlotlaw07.TapeTakes", spec := "tapeTakes", apart := false }
def TapeTakesSaid : Prop := tapeTakesRow.holds Try.pinned (OpenSpec.ofChange tapeTakesSpec)

/-- ITS FALSE NEIGHBOUR: 'it returns false'. Refute it at one input. -/
def tapeTakesWrong : ChangeSpec := { name := "tapeTakes", fn := fun _ => fun
  | [d1, d2, d3] => { results := [.lit (.bool false)], args := [d1, d2, d3] }
  | _ => none }
def TapeTakesWrongFalsely : Prop := tapeTakesRow.holds Try.pinned (OpenSpec.ofChange tapeTakesWrong)

/-- 'drawlotlaw07.TapeMakes': WHATEVER THE INPUT: true; the input reads as it did. -/
def tapeMakesSpec : ChangeSpec := { name := "tapeMakes", fn := fun _ => fun
  | [d1, d2, d3] => { results := [.lit (.bool true)], args := [d1, d2, d3] }
  | _ => none }
def tapeMakesRow : OpenClaim := { program := "ytckdjafnemoloaa", sum := "0e8bb4c9ed948c78e7f99bb941920890b460fc9821018a390e9c5324948963b5", func := "drawlot/drawlotlaw07.TapeMakes", spec := "tapeMakes", apart := false }
def TapeMakesSaid : Prop := tapeMakesRow.holds Try.pinned (OpenSpec.ofChange tapeMakesSpec)

/-- ITS FALSE NEIGHBOUR: 'it returns false'. Refute it at one input. -/
def tapeMakesWrong : ChangeSpec := { name := "tapeMakes", fn := fun _ => fun
  | [d1, d2, d3] => { results := [.lit (.bool false)], args := [d1, d2, d3] }
  | _ => none }
def TapeMakesWrongFalsely : Prop := tapeMakesRow.holds Try.pinned (OpenSpec.ofChange tapeMakesWrong)

/-- 'drawlotlaw07.TapeBits': WHATEVER THE INPUT: true; the input reads as it did. -/
def tapeBitsSpec : ChangeSpec := { name := "tapeBits", fn := fun _ => fun
  | [d1, d2] => { results := [.lit (.bool true)], args := [d1, d2] }
  | _ => none }
def tapeBitsRow : OpenClaim := { program := "ytckdjafnemoloaa", sum := "0e8bb4c9ed948c78e7f99bb941920890b460fc9821018a390e9c5324948963b5", func := "drawlot/drawlotlaw07.TapeBits", spec := "tapeBits", apart := false }
def TapeBitsSaid : Prop := tapeBitsRow.holds Try.pinned (OpenSpec.ofChange tapeBitsSpec)

/-- ITS FALSE NEIGHBOUR: 'it returns false'. Refute it at one input. -/
def tapeBitsWrong : ChangeSpec := { name := "tapeBits", fn := fun _ => fun
  | [d1, d2] => { results := [.lit (.bool false)], args := [d1, d2] }
  | _ => none }
def TapeBitsWrongFalsely : Prop := tapeBitsRow.holds Try.pinned (OpenSpec.ofChange tapeBitsWrong)

/-- 'drawlotlaw07.TapeTwo': WHATEVER THE INPUT: true; the input reads as it did. -/
def tapeTwoSpec : ChangeSpec := { name := "tapeTwo", fn := fun _ => fun
  | [d1, d2, d3] => { results := [.lit (.bool true)], args := [d1, d2, d3] }
  | _ => none }
def tapeTwoRow : OpenClaim := { program := "ytckdjafnemoloaa", sum := "0e8bb4c9ed948c78e7f99bb941920890b460fc9821018a390e9c5324948963b5", func := "drawlot/drawlotlaw07.TapeTwo", spec := "tapeTwo", apart := false }
def TapeTwoSaid : Prop := tapeTwoRow.holds Try.pinned (OpenSpec.ofChange tapeTwoSpec)

/-- ITS FALSE NEIGHBOUR: 'it returns false'. Refute it at one input. -/
def tapeTwoWrong : ChangeSpec := { name := "tapeTwo", fn := fun _ => fun
  | [d1, d2, d3] => { results := [.lit (.bool false)], args := [d1, d2, d3] }
  | _ => none }
def TapeTwoWrongFalsely : Prop := tapeTwoRow.holds Try.pinned (OpenSpec.ofChange tapeTwoWrong)

/-- 'drawlotlaw08.UniformDraws': WHATEVER THE INPUT: true; the input reads as it did. -/
def uniformDrawsSpec : ChangeSpec := { name := "uniformDraws", fn := fun _ => fun
  | [d1, d2, d3] => { results := [.lit (.bool true)], args := [d1, d2, d3] }
  | _ => none }
def uniformDrawsRow : OpenClaim := { program := "ytckdjafnemoloaa", sum := "0e8bb4c9ed948c78e7f99bb941920890b460fc9821018a390e9c5324948963b5", func := "drawlot/drawlotlaw08.UniformDraws", spec := "uniformDraws", apart := false }
def UniformDrawsSaid : Prop := uniformDrawsRow.holds Try.pinned (OpenSpec.ofChange uniformDrawsSpec)

/-- ITS FALSE NEIGHBOUR: 'it returns false'. Refute it at one input. -/
def uniformDrawsWrong : ChangeSpec := { name := "uniformDraws", fn := fun _ => fun
  | [d1, d2, d3] => { results := [.lit (.bool false)], args := [d1, d2, d3] }
  | _ => none }
def UniformDrawsWrongFalsely : Prop := uniformDrawsRow.holds Try.pinned (OpenSpec.ofChange uniformDrawsWrong)

/-- 'drawlotlaw08.UniformCounts': WHATEVER THE INPUT: true; the input reads as it did. -/
def uniformCountsSpec : ChangeSpec := { name := "uniformCounts", fn := fun _ => fun
  | [d1, d2] => { results := [.lit (.bool true)], args := [d1, d2] }
  | _ => none }
def uniformCountsRow : OpenClaim := { program := "ytckdjafnemoloaa", sum := "0e8bb4c9ed948c78e7f99bb941920890b460fc9821018a390e9c5324948963b5", func := "drawlot/drawlotlaw08.UniformCounts", spec := "uniformCounts", apart := false }
def UniformCountsSaid : Prop := uniformCountsRow.holds Try.pinned (OpenSpec.ofChange uniformCountsSpec)

/-- ITS FALSE NEIGHBOUR: 'it returns false'. Refute it at one input. -/
def uniformCountsWrong : ChangeSpec := { name := "uniformCounts", fn := fun _ => fun
  | [d1, d2] => { results := [.lit (.bool false)], args := [d1, d2] }
  | _ => none }
def UniformCountsWrongFalsely : Prop := uniformCountsRow.holds Try.pinned (OpenSpec.ofChange uniformCountsWrong)

/-- 'drawlotlaw08.UniformFirst': WHATEVER THE INPUT: true; the input reads as it did. -/
def uniformFirstSpec : ChangeSpec := { name := "uniformFirst", fn := fun _ => fun
  | [d1, d2, d3] => { results := [.lit (.bool true)], args := [d1, d2, d3] }
  | _ => none }
def uniformFirstRow : OpenClaim := { program := "ytckdjafnemoloaa", sum := "0e8bb4c9ed948c78e7f99bb941920890b460fc9821018a390e9c5324948963b5", func := "drawlot/drawlotlaw08.UniformFirst", spec := "uniformFirst", apart := false }
def UniformFirstSaid : Prop := uniformFirstRow.holds Try.pinned (OpenSpec.ofChange uniformFirstSpec)

/-- ITS FALSE NEIGHBOUR: 'it returns false'. Refute it at one input. -/
def uniformFirstWrong : ChangeSpec := { name := "uniformFirst", fn := fun _ => fun
  | [d1, d2, d3] => { results := [.lit (.bool false)], args := [d1, d2, d3] }
  | _ => none }
def UniformFirstWrongFalsely : Prop := uniformFirstRow.holds Try.pinned (OpenSpec.ofChange uniformFirstWrong)

/-- 'drawlotlaw08.UniformNeeds': WHATEVER THE INPUT: true; the input reads as it did. -/
def uniformNeedsSpec : ChangeSpec := { name := "uniformNeeds", fn := fun _ => fun
  | [d] => { results := [.lit (.bool true)], args := [d] }
  | _ => none }
def uniformNeedsRow : OpenClaim := { program := "ytckdjafnemoloaa", sum := "0e8bb4c9ed948c78e7f99bb941920890b460fc9821018a390e9c5324948963b5", func := "drawlot/drawlotlaw08.UniformNeeds", spec := "uniformNeeds", apart := false }
def UniformNeedsSaid : Prop := uniformNeedsRow.holds Try.pinned (OpenSpec.ofChange uniformNeedsSpec)

/-- ITS FALSE NEIGHBOUR: 'it returns false'. Refute it at one input. -/
def uniformNeedsWrong : ChangeSpec := { name := "uniformNeeds", fn := fun _ => fun
  | [d] => { results := [.lit (.bool false)], args := [d] }
  | _ => none }
def UniformNeedsWrongFalsely : Prop := uniformNeedsRow.holds Try.pinned (OpenSpec.ofChange uniformNeedsWrong)

/- THE SECOND FORM. 'bulk': how many values and letters a reading holds, each counted each time it is reached (what is shared counts as often as it is met; a slice's spare places count too). A statement '..UptoSaid' is the law's where the arguments, and the package variables that the reading takes, are together of bulk at most 1048576: NARROWER than '..Said'. Prove '..Said' where nothing that the law and all that it calls make is longer than what came in: it says more and counts as full. Else prove '..UptoSaid'. A law counts once. -/
mutual
def uptoBulk {H : Type} : DataW H → Nat
  | .lit (.string bytes) => bytes.length + 1
  | .lit _ => 1
  | .nil => 1
  | .ptr d => uptoBulk d + 1
  | .slice elems spare => uptoBulkAll elems + uptoBulkAll spare + 1
  | .agg parts => uptoBulkAll parts + 1
  | .iface _ d => uptoBulk d + 1
  | .map entries => uptoBulkEntries entries + 1
  | .held _ => 1
def uptoBulkAll {H : Type} : List (DataW H) → Nat
  | [] => 0
  | d :: r => uptoBulk d + uptoBulkAll r
def uptoBulkEntries {H : Type} : List (Lit × DataW H) → Nat
  | [] => 0
  | x :: r => uptoBulkEntry x + uptoBulkEntries r
def uptoBulkEntry {H : Type} : Lit × DataW H → Nat
  | (.string bytes, d) => bytes.length + uptoBulk d + 1
  | (_, d) => uptoBulk d + 1
 end
def uptoSmall : (H : Type) → List (DataW H) → Bool := fun _ ds => decide (uptoBulkAll ds ≤ 1048576)
def OpenSpec.upto (s : _root_.Go.ChangeSpec) : _root_.Go.OpenSpec := { _root_.Go.OpenSpec.ofChange s with cond := some uptoSmall }

/-- 'drawlotlaw19.WindowTells', WHERE WHAT IT READS IS OF BULK AT MOST 1048576: true; the input reads as it did. -/
def windowTellsUptoRow : OpenClaim := { program := "ytckdjafnemoloaa", sum := "0e8bb4c9ed948c78e7f99bb941920890b460fc9821018a390e9c5324948963b5", func := "drawlot/drawlotlaw19.WindowTells", spec := "windowTells", apart := false, narrowed := true }
def WindowTellsUptoSaid : Prop := windowTellsUptoRow.holds Try.pinned (OpenSpec.upto windowTellsSpec)

/-- 'drawlotlaw19.WindowGoes', WHERE WHAT IT READS IS OF BULK AT MOST 1048576: true; the input reads as it did. -/
def windowGoesUptoRow : OpenClaim := { program := "ytckdjafnemoloaa", sum := "0e8bb4c9ed948c78e7f99bb941920890b460fc9821018a390e9c5324948963b5", func := "drawlot/drawlotlaw19.WindowGoes", spec := "windowGoes", apart := false, narrowed := true }
def WindowGoesUptoSaid : Prop := windowGoesUptoRow.holds Try.pinned (OpenSpec.upto windowGoesSpec)

/-- 'drawlotlaw19.WindowSums', WHERE WHAT IT READS IS OF BULK AT MOST 1048576: true; the input reads as it did. -/
def windowSumsUptoRow : OpenClaim := { program := "ytckdjafnemoloaa", sum := "0e8bb4c9ed948c78e7f99bb941920890b460fc9821018a390e9c5324948963b5", func := "drawlot/drawlotlaw19.WindowSums", spec := "windowSums", apart := false, narrowed := true }
def WindowSumsUptoSaid : Prop := windowSumsUptoRow.holds Try.pinned (OpenSpec.upto windowSumsSpec)

/-- 'drawlotlaw18.MixXor', WHERE WHAT IT READS IS OF BULK AT MOST 1048576: true; the input reads as it did. -/
def mixXorUptoRow : OpenClaim := { program := "ytckdjafnemoloaa", sum := "0e8bb4c9ed948c78e7f99bb941920890b460fc9821018a390e9c5324948963b5", func := "drawlot/drawlotlaw18.MixXor", spec := "mixXor", apart := false, narrowed := true }
def MixXorUptoSaid : Prop := mixXorUptoRow.holds Try.pinned (OpenSpec.upto mixXorSpec)

/-- 'drawlotlaw18.MixSeeds', WHERE WHAT IT READS IS OF BULK AT MOST 1048576: true; the input reads as it did. -/
def mixSeedsUptoRow : OpenClaim := { program := "ytckdjafnemoloaa", sum := "0e8bb4c9ed948c78e7f99bb941920890b460fc9821018a390e9c5324948963b5", func := "drawlot/drawlotlaw18.MixSeeds", spec := "mixSeeds", apart := false, narrowed := true }
def MixSeedsUptoSaid : Prop := mixSeedsUptoRow.holds Try.pinned (OpenSpec.upto mixSeedsSpec)

/-- 'drawlotlaw18.MixOrder', WHERE WHAT IT READS IS OF BULK AT MOST 1048576: true; the input reads as it did. -/
def mixOrderUptoRow : OpenClaim := { program := "ytckdjafnemoloaa", sum := "0e8bb4c9ed948c78e7f99bb941920890b460fc9821018a390e9c5324948963b5", func := "drawlot/drawlotlaw18.MixOrder", spec := "mixOrder", apart := false, narrowed := true }
def MixOrderUptoSaid : Prop := mixOrderUptoRow.holds Try.pinned (OpenSpec.upto mixOrderSpec)

/-- 'drawlotlaw06.StreamBlocks', WHERE WHAT IT READS IS OF BULK AT MOST 1048576: true; the input reads as it did. -/
def streamBlocksUptoRow : OpenClaim := { program := "ytckdjafnemoloaa", sum := "0e8bb4c9ed948c78e7f99bb941920890b460fc9821018a390e9c5324948963b5", func := "drawlot/drawlotlaw06.StreamBlocks", spec := "streamBlocks", apart := false, narrowed := true }
def StreamBlocksUptoSaid : Prop := streamBlocksUptoRow.holds Try.pinned (OpenSpec.upto streamBlocksSpec)

/-- 'drawlotlaw06.StreamBytes', WHERE WHAT IT READS IS OF BULK AT MOST 1048576: true; the input reads as it did. -/
def streamBytesUptoRow : OpenClaim := { program := "ytckdjafnemoloaa", sum := "0e8bb4c9ed948c78e7f99bb941920890b460fc9821018a390e9c5324948963b5", func := "drawlot/drawlotlaw06.StreamBytes", spec := "streamBytes", apart := false, narrowed := true }
def StreamBytesUptoSaid : Prop := streamBytesUptoRow.holds Try.pinned (OpenSpec.upto streamBytesSpec)

/-- 'drawlotlaw06.StreamDomains', WHERE WHAT IT READS IS OF BULK AT MOST 1048576: true; the input reads as it did. -/
def streamDomainsUptoRow : OpenClaim := { program := "ytckdjafnemoloaa", sum := "0e8bb4c9ed948c78e7f99bb941920890b460fc9821018a390e9c5324948963b5", func := "drawlot/drawlotlaw06.StreamDomains", spec := "streamDomains", apart := false, narrowed := true }
def StreamDomainsUptoSaid : Prop := streamDomainsUptoRow.holds Try.pinned (OpenSpec.upto streamDomainsSpec)

/-- 'drawlotlaw06.StreamBits', WHERE WHAT IT READS IS OF BULK AT MOST 1048576: true; the input reads as it did. -/
def streamBitsUptoRow : OpenClaim := { program := "ytckdjafnemoloaa", sum := "0e8bb4c9ed948c78e7f99bb941920890b460fc9821018a390e9c5324948963b5", func := "drawlot/drawlotlaw06.StreamBits", spec := "streamBits", apart := false, narrowed := true }
def StreamBitsUptoSaid : Prop := streamBitsUptoRow.holds Try.pinned (OpenSpec.upto streamBitsSpec)

/-- 'drawlotlaw07.TapeTakes', WHERE WHAT IT READS IS OF BULK AT MOST 1048576: true; the input reads as it did. -/
def tapeTakesUptoRow : OpenClaim := { program := "ytckdjafnemoloaa", sum := "0e8bb4c9ed948c78e7f99bb941920890b460fc9821018a390e9c5324948963b5", func := "drawlot/drawlotlaw07.TapeTakes", spec := "tapeTakes", apart := false, narrowed := true }
def TapeTakesUptoSaid : Prop := tapeTakesUptoRow.holds Try.pinned (OpenSpec.upto tapeTakesSpec)

/-- 'drawlotlaw07.TapeMakes', WHERE WHAT IT READS IS OF BULK AT MOST 1048576: true; the input reads as it did. -/
def tapeMakesUptoRow : OpenClaim := { program := "ytckdjafnemoloaa", sum := "0e8bb4c9ed948c78e7f99bb941920890b460fc9821018a390e9c5324948963b5", func := "drawlot/drawlotlaw07.TapeMakes", spec := "tapeMakes", apart := false, narrowed := true }
def TapeMakesUptoSaid : Prop := tapeMakesUptoRow.holds Try.pinned (OpenSpec.upto tapeMakesSpec)

/-- 'drawlotlaw07.TapeBits', WHERE WHAT IT READS IS OF BULK AT MOST 1048576: true; the input reads as it did. -/
def tapeBitsUptoRow : OpenClaim := { program := "ytckdjafnemoloaa", sum := "0e8bb4c9ed948c78e7f99bb941920890b460fc9821018a390e9c5324948963b5", func := "drawlot/drawlotlaw07.TapeBits", spec := "tapeBits", apart := false, narrowed := true }
def TapeBitsUptoSaid : Prop := tapeBitsUptoRow.holds Try.pinned (OpenSpec.upto tapeBitsSpec)

/-- 'drawlotlaw07.TapeTwo', WHERE WHAT IT READS IS OF BULK AT MOST 1048576: true; the input reads as it did. -/
def tapeTwoUptoRow : OpenClaim := { program := "ytckdjafnemoloaa", sum := "0e8bb4c9ed948c78e7f99bb941920890b460fc9821018a390e9c5324948963b5", func := "drawlot/drawlotlaw07.TapeTwo", spec := "tapeTwo", apart := false, narrowed := true }
def TapeTwoUptoSaid : Prop := tapeTwoUptoRow.holds Try.pinned (OpenSpec.upto tapeTwoSpec)

/-- 'drawlotlaw08.UniformDraws', WHERE WHAT IT READS IS OF BULK AT MOST 1048576: true; the input reads as it did. -/
def uniformDrawsUptoRow : OpenClaim := { program := "ytckdjafnemoloaa", sum := "0e8bb4c9ed948c78e7f99bb941920890b460fc9821018a390e9c5324948963b5", func := "drawlot/drawlotlaw08.UniformDraws", spec := "uniformDraws", apart := false, narrowed := true }
def UniformDrawsUptoSaid : Prop := uniformDrawsUptoRow.holds Try.pinned (OpenSpec.upto uniformDrawsSpec)

/-- 'drawlotlaw08.UniformCounts', WHERE WHAT IT READS IS OF BULK AT MOST 1048576: true; the input reads as it did. -/
def uniformCountsUptoRow : OpenClaim := { program := "ytckdjafnemoloaa", sum := "0e8bb4c9ed948c78e7f99bb941920890b460fc9821018a390e9c5324948963b5", func := "drawlot/drawlotlaw08.UniformCounts", spec := "uniformCounts", apart := false, narrowed := true }
def UniformCountsUptoSaid : Prop := uniformCountsUptoRow.holds Try.pinned (OpenSpec.upto uniformCountsSpec)

/-- 'drawlotlaw08.UniformFirst', WHERE WHAT IT READS IS OF BULK AT MOST 1048576: true; the input reads as it did. -/
def uniformFirstUptoRow : OpenClaim := { program := "ytckdjafnemoloaa", sum := "0e8bb4c9ed948c78e7f99bb941920890b460fc9821018a390e9c5324948963b5", func := "drawlot/drawlotlaw08.UniformFirst", spec := "uniformFirst", apart := false, narrowed := true }
def UniformFirstUptoSaid : Prop := uniformFirstUptoRow.holds Try.pinned (OpenSpec.upto uniformFirstSpec)

/-- 'drawlotlaw08.UniformNeeds', WHERE WHAT IT READS IS OF BULK AT MOST 1048576: true; the input reads as it did. -/
def uniformNeedsUptoRow : OpenClaim := { program := "ytckdjafnemoloaa", sum := "0e8bb4c9ed948c78e7f99bb941920890b460fc9821018a390e9c5324948963b5", func := "drawlot/drawlotlaw08.UniformNeeds", spec := "uniformNeeds", apart := false, narrowed := true }
def UniformNeedsUptoSaid : Prop := uniformNeedsUptoRow.holds Try.pinned (OpenSpec.upto uniformNeedsSpec)

end Rows
end Go.Proofs.Ytckdjafnemoloaa
