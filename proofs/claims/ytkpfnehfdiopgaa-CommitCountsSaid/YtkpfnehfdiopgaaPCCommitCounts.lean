/- Proved: whatever the input, the Go function of the law CommitCounts returns true and leaves its arguments as they were (the given statement CommitCountsSaid). Conditions: none beyond the given statement's own. -/
import Derived.Test.YtkpfnehfdiopgaaC6
import Derived.Test.YtkpfnehfdiopgaaRows
import Derived.ProofKit
set_option linter.unusedVariables false
set_option linter.unusedSimpArgs false
namespace Go.Proofs.Ytkpfnehfdiopgaa
open Go.ChangeShapes Go.WideShapes Go.ChangeAt Go.RowKit Go.PG

theorem Try.own : ownKnob Try.prog.godebug = Option.none := by kernel_rfl
theorem Try.laidOut : laidOutB Try.prog = true := by kernel_rfl

set_option maxRecDepth 100000 in
theorem commitCounts_lifted (os : Os) (started : os.Started) (H : Type) (enc : TypeId × Value → H) :
    ReturnsInHanded {} Try.checked os 13 .any (Rows.commitCountsSpec.pre6 enc Try.prog Try.f13 Rows.commitCountsRow.domain false) (Rows.commitCountsSpec.post enc Try.prog Try.f13 false true false false) := by
  refine returnsInHanded_of_change (C := Try.checked) Try.own started (by kernel_rfl) Try.func13
    (ChangeSpec.witness6 (enc := enc) (C := Try.checked) false ⟨#[], #[.slice none 0 0], []⟩ 8 (by kernel_rfl) (by kernel_rfl) (by kernel_rfl) (by kernel_rfl)) ?_
  intro W base args ds gs before hval hW _ _
  refine law_calls (P := Try.prog) tabOK Try.laidOut (enters Try.func13 (by kernel_rfl) (by kernel_rfl)) ok13 (fun x hx => F13_eq' _ (fit_cms hx.1) _) (by kernel_rfl) (by kernel_rfl) (by kernel_rfl) Try.underlying4 rfl (fun ds h => ?_) W base args ds gs before hval hW
  match ds, h with
  | [d1], _ => exact ⟨rfl, rfl, rfl⟩

theorem commitCounts_holds : Rows.CommitCountsSaid :=
  OpenClaim.holds_of_wide 13 Try.f13 rfl rfl rfl rfl rfl rfl rfl ⟨rfl, rfl, rfl, rfl, rfl⟩ rfl rfl rfl rfl rfl (by kernel_rfl) Try.func13 (by kernel_rfl)
    (of_decide_eq_true (by kernel_rfl)) (by unfold Func.isWrapper; rw [if_neg (by decide +kernel)]; exact ⟨rfl, rfl⟩)
    (fun os started H enc _ => commitCounts_lifted os started H enc)
#print axioms commitCounts_holds
end Go.Proofs.Ytkpfnehfdiopgaa
