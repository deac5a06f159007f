/- Proved: whatever the input, the Go function of the law WholeReveals returns true and leaves its arguments as they were (the given statement WholeRevealsSaid). Conditions: none beyond the given statement's own. -/
import Derived.Test.YtldfbfilibnpmaaGreatWv8
import Derived.Test.YtldfbfilibnpmaaGreatRows
import Derived.ProofKit
set_option linter.unusedVariables false
set_option linter.unusedSimpArgs false
set_option linter.unusedSectionVars false
namespace Go.Proofs.YtldfbfilibnpmaaGreat
open Go.ChangeShapes Go.WideShapes Go.ChangeAt Go.RowKit Go.PG

theorem Tryz.own:ownKnob Tryz.prog.godebug=Option.none:=by kernel_rfl
theorem Tryz.laidOut:laidOutB Tryz.prog=true:=by kernel_rfl

set_option maxRecDepth 100000 in
theorem wholeReveals_lifted (os:Os) (started:os.Started) (H:Type) (enc:TypeId×Value→H):
  ReturnsInHanded {} Tryz.checked os 7 .any (Rows.wholeRevealsSpec.pre6 enc Tryz.prog Tryz.f7 Rows.wholeRevealsRow.domain false) (Rows.wholeRevealsSpec.post enc Tryz.prog Tryz.f7 false true false false):=by
 refine returnsInHanded_of_change (C:=Tryz.checked) Tryz.own started (by kernel_rfl) Tryz.func7
  (ChangeSpec.witness6 (enc:=enc) (C:=Tryz.checked) false ⟨#[],#[.agg #[.int .u8 0,.int .u8 0,.int .u8 0,.int .u8 0,.int .u8 0],.agg #[.int .u8 0,.int .u8 0,.int .u8 0,.int .u8 0,.int .u8 0,.int .u8 0,.int .u8 0,.int .u8 0,.int .u8 0,.int .u8 0,.int .u8 0,.int .u8 0,.int .u8 0,.int .u8 0,.int .u8 0,.int .u8 0,.int .u8 0,.int .u8 0,.int .u8 0,.int .u8 0,.int .u8 0,.int .u8 0,.int .u8 0,.int .u8 0,.int .u8 0,.int .u8 0,.int .u8 0,.int .u8 0,.int .u8 0,.int .u8 0,.int .u8 0,.int .u8 0],.slice none 0 0],[]⟩ 8 (by kernel_rfl) (by kernel_rfl) (by kernel_rfl) (by kernel_rfl)) ?_
 intro W base args ds gs before hval hW _ _;refine law_calls (P:=Tryz.prog) tabOK Tryz.laidOut (enters Tryz.func7 (by kernel_rfl) (by kernel_rfl)) ok7 (fun x hx=>F7_eq' _ (fun y hy=>by have:=fit_u8 (hx.1.2 y hy); unfold U8; omega) (fit_h32 hx.2.1) (fun y hy=>by have:=fit_u8 (hx.2.2.1.2 y hy); unfold U8; omega) _) (by kernel_rfl) (by kernel_rfl) (by kernel_rfl) Tryz.underlying4 rfl (fun ds h=>?_) W base args ds gs before hval hW
 match ds,h with
 | [d1,d2,d3],_=>exact ⟨rfl,rfl,rfl⟩

theorem wholeReveals_holds:Rows.WholeRevealsSaid:=
 OpenClaim.holds_of_wide 7 Tryz.f7 rfl rfl rfl rfl rfl rfl rfl ⟨rfl,rfl,rfl,rfl,rfl⟩ rfl rfl rfl rfl rfl (by kernel_rfl) Tryz.func7 (by kernel_rfl)
  (of_decide_eq_true (by kernel_rfl)) (by unfold Func.isWrapper; rw [if_neg (by decide+kernel)]; exact ⟨rfl,rfl⟩)
  (fun os started H enc _=>wholeReveals_lifted os started H enc)
#print axioms wholeReveals_holds
end Go.Proofs.YtldfbfilibnpmaaGreat
