/- Proved: whatever the input, the Go function of the law UniformCounts returns true and leaves its arguments as they were (the given statement UniformCountsSaid). Conditions: none beyond the given statement's own. -/
import Derived.Test.YtckdjafnemoloaaM6
import Derived.Test.YtckdjafnemoloaaRows
import Derived.ProofKit
set_option linter.unusedVariables false
set_option linter.unusedSimpArgs false
namespace Go.Proofs.Ytckdjafnemoloaa
open Go.ChangeShapes Go.WideShapes Go.ChangeAt Go.RowKit Go.PG

theorem Try.own : ownKnob Try.prog.godebug = Option.none := by kernel_rfl
theorem Try.laidOut : laidOutB Try.prog = true := by kernel_rfl

set_option maxRecDepth 100000 in
theorem uniformCounts_lifted (os : Os) (started : os.Started) (H : Type) (enc : TypeId × Value → H) :
    ReturnsInHanded {} Try.checked os 18 .any (Rows.uniformCountsSpec.pre6 enc Try.prog Try.f18 Rows.uniformCountsRow.domain false) (Rows.uniformCountsSpec.post enc Try.prog Try.f18 false true false false) := by
  refine returnsInHanded_of_change (C := Try.checked) Try.own started (by kernel_rfl) Try.func18
    (ChangeSpec.witness6 (enc := enc) (C := Try.checked) false ⟨#[], #[.int .u8 0, .int .u8 0], []⟩ 8 (by kernel_rfl) (by kernel_rfl) (by kernel_rfl) (by kernel_rfl)) ?_
  intro W base args ds gs before hval hW _ _
  refine law_calls (P := Try.prog) tabOK Try.laidOut ok18 (fun x hx => F18_eq _ (by have := fit_u8 hx.1; omega) (by have := fit_u8 hx.2.1; omega) _) (by kernel_rfl) (by kernel_rfl) (by kernel_rfl) Try.underlying4 rfl (fun ds h => ?_) W base args ds gs before hval hW
  match ds, h with
  | [d1, d2], _ => exact ⟨rfl, rfl, rfl⟩

theorem uniformCounts_holds : Rows.UniformCountsSaid :=
  OpenClaim.holds_of_wide 18 Try.f18 rfl rfl rfl rfl rfl rfl rfl ⟨rfl, rfl, rfl, rfl, rfl⟩ rfl rfl rfl rfl rfl (by kernel_rfl) Try.func18 (by kernel_rfl)
    (of_decide_eq_true (by kernel_rfl)) (by unfold Func.isWrapper; rw [if_neg (by decide +kernel)]; exact ⟨rfl, rfl⟩)
    (fun os started H enc _ => uniformCounts_lifted os started H enc)
#print axioms uniformCounts_holds
end Go.Proofs.Ytckdjafnemoloaa
