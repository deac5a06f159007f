/- Proved: whatever the input, the Go function of the law CommCounts returns true and leaves its arguments as they were (the given statement CommCountsSaid). Conditions: none beyond the given statement's own. -/
import Derived.Test.YtapdakmnlclboaaCC6
import Derived.Test.YtapdakmnlclboaaRows
import Derived.ProofKit
set_option linter.unusedVariables false
set_option linter.unusedSimpArgs false
set_option linter.unusedSectionVars false
namespace Go.Proofs.Ytapdakmnlclboaa
open Go.ChangeShapes Go.WideShapes Go.ChangeAt Go.RowKit Go.PG

theorem Try.own : ownKnob Try.prog.godebug = Option.none := by kernel_rfl
theorem Try.laidOut : laidOutB Try.prog = true := by kernel_rfl

set_option maxRecDepth 100000 in
theorem commCounts_lifted (os : Os) (started : os.Started) (H : Type) (enc : TypeId × Value → H) :
    ReturnsInHanded {} Try.checked os 6 .any (Rows.commCountsSpec.pre6 enc Try.prog Try.f6 Rows.commCountsRow.domain false) (Rows.commCountsSpec.post enc Try.prog Try.f6 false true false false) := by
  refine returnsInHanded_of_change (C := Try.checked) Try.own started (by kernel_rfl) Try.func6
    (ChangeSpec.witness6 (enc := enc) (C := Try.checked) false ⟨#[], #[.slice none 0 0, .agg #[.int .u8 0, .int .u8 0], .slice none 0 0], []⟩ 8 (by kernel_rfl) (by kernel_rfl) (by kernel_rfl) (by kernel_rfl)) ?_
  intro W base args ds gs before hval hW _ _
  refine law_calls (P := Try.prog) tabOK Try.laidOut (enters Try.func6 (by kernel_rfl) (by kernel_rfl)) ok6 (fun x hx => F6_eq _ _ (getD_all (p := fun x => 0 ≤ x ∧ x ≤ 255) (fun y hy => fit_u8 (hx.2.1.2 y hy)) (by omega) 0) (getD_all (p := fun x => 0 ≤ x ∧ x ≤ 255) (fun y hy => fit_u8 (hx.2.1.2 y hy)) (by omega) 1) (fun y hy => by have := fit_u64 (hx.2.2.1.2 y hy); unfold U64; omega) _) (by kernel_rfl) (by kernel_rfl) (by kernel_rfl) Try.underlying4 rfl (fun ds h => ?_) W base args ds gs before hval hW
  match ds, h with
  | [d1, d2, d3], _ => exact ⟨rfl, rfl, rfl⟩

theorem commCounts_holds : Rows.CommCountsSaid :=
  OpenClaim.holds_of_wide 6 Try.f6 rfl rfl rfl rfl rfl rfl rfl ⟨rfl, rfl, rfl, rfl, rfl⟩ rfl rfl rfl rfl rfl (by kernel_rfl) Try.func6 (by kernel_rfl)
    (of_decide_eq_true (by kernel_rfl)) (by unfold Func.isWrapper; rw [if_neg (by decide +kernel)]; exact ⟨rfl, rfl⟩)
    (fun os started H enc _ => commCounts_lifted os started H enc)
#print axioms commCounts_holds
end Go.Proofs.Ytapdakmnlclboaa
