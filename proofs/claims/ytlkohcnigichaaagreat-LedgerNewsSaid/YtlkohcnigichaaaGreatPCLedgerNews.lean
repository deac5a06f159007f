/- Proved: whatever the input, the Go function of the law LedgerNews returns true and leaves its arguments as they were (the given statement LedgerNewsSaid). Conditions: none beyond the given statement's own. -/
import Derived.Test.YtlkohcnigichaaaGreatLNews7
import Derived.Test.YtlkohcnigichaaaGreatRows
import Derived.ProofKit
set_option linter.unusedVariables false
set_option linter.unusedSimpArgs false
set_option linter.unusedSectionVars false
namespace Go.Proofs.YtlkohcnigichaaaGreat
open Go.ChangeShapes Go.WideShapes Go.ChangeAt Go.RowKit Go.PG

theorem Tryz.own:ownKnob Tryz.prog.godebug=Option.none:=by kernel_rfl
theorem Tryz.laidOut:laidOutB Tryz.prog=true:=by kernel_rfl

set_option maxRecDepth 100000 in
theorem ledgerNews_lifted (os:Os) (started:os.Started) (H:Type) (enc:TypeId×Value→H):
  ReturnsInHanded {} Tryz.checked os 3 .any (Rows.ledgerNewsSpec.pre6 enc Tryz.prog Tryz.f3 Rows.ledgerNewsRow.domain false) (Rows.ledgerNewsSpec.post enc Tryz.prog Tryz.f3 false true false false):=by
 refine returnsInHanded_of_change (C:=Tryz.checked) Tryz.own started (by kernel_rfl) Tryz.func3
  (ChangeSpec.witness6 (enc:=enc) (C:=Tryz.checked) false ⟨#[],#[.agg #[.int .i64 0,.int .i64 0,.int .i64 0,.int .i64 0,.int .i64 0],.agg #[.int .u8 0,.int .u8 0,.int .u8 0,.int .u8 0,.int .u8 0,.int .u8 0,.int .u8 0,.int .u8 0,.int .u8 0,.int .u8 0,.int .u8 0,.int .u8 0,.int .u8 0,.int .u8 0,.int .u8 0,.int .u8 0,.int .u8 0,.int .u8 0,.int .u8 0,.int .u8 0,.int .u8 0,.int .u8 0,.int .u8 0,.int .u8 0,.int .u8 0,.int .u8 0,.int .u8 0,.int .u8 0,.int .u8 0,.int .u8 0,.int .u8 0,.int .u8 0]],[]⟩ 8 (by kernel_rfl) (by kernel_rfl) (by kernel_rfl) (by kernel_rfl)) ?_
 intro W base args ds gs before hval hW _ _;refine law_calls (P:=Tryz.prog) tabOK Tryz.laidOut (enters Tryz.func3 (by kernel_rfl) (by kernel_rfl)) ok3 (fun x hx=>F3_eq' _ _ (fit_h32 hx.2.1) _) (by kernel_rfl) (by kernel_rfl) (by kernel_rfl) Tryz.underlying4 rfl (fun ds h=>?_) W base args ds gs before hval hW
 match ds,h with
 | [d1,d2],_=>exact ⟨rfl,rfl,rfl⟩

theorem ledgerNews_holds:Rows.LedgerNewsSaid:=
 OpenClaim.holds_of_wide 3 Tryz.f3 rfl rfl rfl rfl rfl rfl rfl ⟨rfl,rfl,rfl,rfl,rfl⟩ rfl rfl rfl rfl rfl (by kernel_rfl) Tryz.func3 (by kernel_rfl)
  (of_decide_eq_true (by kernel_rfl)) (by unfold Func.isWrapper; rw [if_neg (by decide+kernel)]; exact ⟨rfl,rfl⟩)
  (fun os started H enc _=>ledgerNews_lifted os started H enc)
#print axioms ledgerNews_holds
end Go.Proofs.YtlkohcnigichaaaGreat
