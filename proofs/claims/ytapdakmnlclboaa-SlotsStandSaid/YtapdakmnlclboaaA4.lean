/- A part of the proof over this seat (own work; the framework that reads a Go function as a pure one, or a use of it). No condition of its own. -/
import Derived.Test.YtapdakmnlclboaaA3
import Derived.Shelf.Spec.SlicesInsertGrow
set_option linter.unusedVariables false
set_option linter.unusedSimpArgs false
set_option linter.unusedSectionVars false
set_option linter.unusedVariables false
set_option linter.unusedSimpArgs false
namespace Go.PG
open Go.Proofs Go.Shelf Go.RowKit Go.Lib
structure InsL (P : Program) (ρ : Ren) (fn : Func) : Prop where
  mixed : P.follows .mixedOrders = true
  f22 : P.funcs[ρ.f 22]? = some fn
  bd : ∃ nm ta pr rs fl tn, fn = { Body2.n22 ρ with name := nm, targs := ta, params := pr, resultTypes := rs, file := fl, tmpNames := tn }
  t3 : P.underlying (ρ.t 3) = some (TypeDesc.int IntKind.i64)
  t4 : P.underlying (ρ.t 4) = some (TypeDesc.bool)
  t24 : P.underlying (ρ.t 24) = some (TypeDesc.slice (ρ.t 9))
variable {P : Program} {ρ : Ren} {fn : Func}
end Go.PG
set_option linter.unusedVariables false
set_option linter.unusedSimpArgs false
namespace Go.PG
open Go.Proofs Go.Shelf Go.RowKit
section
variable {C : Ctx} {tm : Nat → SV} {me : Nat → Option Blk} {pl : Nat → Plc} {S : Nat → Prop} {a : Act} {w : World} {P : Program} {T : Tab} {ρ : Ren} {fn : Func}
end
end Go.PG
namespace Go.PG
open Go.Proofs Go.Shelf Go.RowKit
variable {P : Program} {T : Tab} {ρ : Ren} {fn : Func}
end Go.PG
