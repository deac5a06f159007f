/- Proved: whatever the input, the Go function of the law ScriptTexts returns true and leaves its arguments as they were (the given statement ScriptTextsCardSaid). Conditions: none beyond the given statement's own. -/
import Derived.Test.YtlbchnapmipbhaaGreatDoorXF8
import Derived.Test.YtlbchnapmipbhaaGreatDoorXF8
import Derived.Test.YtlbchnapmipbhaaGreatDoorXF8
import Derived.Test.YtlbchnapmipbhaaGreatDoorCards
import Derived.Test.YtlbchnapmipbhaaGreatDoorTie
import Derived.ProofKit
import Derived.OpenShut
import Derived.Deep.DeepHandedRow
import Derived.LaidSub
set_option linter.unusedVariables false
set_option linter.unusedSimpArgs false
set_option linter.unusedSectionVars false
namespace Go.Proofs.YtlbchnapmipbhaaGreatDoor
open Go.ChangeShapes Go.WideShapes Go.ChangeAt Go.RowKit Go.PG

/-- The witness. -/
noncomputable def scriptTexts_in:Array Value:=#[.slice none 0 0,.agg #[.int .i64 0,.int .u64 0,.slice none 0 0,.int .u8 0,.int .u8 0,.int .u8 0,.int .u8 0,.int .u8 0,.int .u8 0,.int .u8 0,.int .u8 0,.int .u8 0,.int .u8 0,.int .u8 0,.int .u8 0,.int .u8 0,.int .u8 0,.int .u8 0,.int .u8 0,.int .u8 0,.int .u8 0,.int .u8 0,.int .u8 0,.int .u8 0,.int .u8 0,.int .u8 0,.int .u8 0,.int .u8 0,.int .u8 0,.int .u8 0,.int .u8 0,.int .u8 0,.int .u8 0,.int .u8 0,.int .u8 0],.agg #[.int .i64 0,.int .u64 0,.slice none 0 0,.int .u8 0,.int .u8 0,.int .u8 0,.int .u8 0,.int .u8 0,.int .u8 0,.int .u8 0,.int .u8 0,.int .u8 0,.int .u8 0,.int .u8 0,.int .u8 0,.int .u8 0,.int .u8 0,.int .u8 0,.int .u8 0,.int .u8 0,.int .u8 0,.int .u8 0,.int .u8 0,.int .u8 0,.int .u8 0,.int .u8 0,.int .u8 0,.int .u8 0,.int .u8 0,.int .u8 0,.int .u8 0,.int .u8 0,.int .u8 0,.int .u8 0,.int .u8 0]]
theorem scriptTexts_met (os:Os):laidMet Tryz.prog Rows.scriptTextsRow.laid ((laidW os).forCall (fun _ _=>0) ⟨#[],scriptTexts_in,[]⟩).memory:=
 laidMet_of_run' 8 (by kernel_rfl) (by kernel_rfl)
theorem scriptTexts_reads (os:Os) {H:Type} (enc:TypeId×Value→H):∃x:List (DataW H)×List (DataW H)×List MemPlace,DataW.whole enc Tryz.prog ((laidW os).forCall (fun _ _=>0) ⟨#[],scriptTexts_in,[]⟩).memory Tryz.f5.params.toList Rows.scriptTextsSpec.vars false scriptTexts_in.toList 8=some x:=
 Option.isSome_iff_exists.1 (by kernel_rfl)

set_option maxRecDepth 100000 in
theorem scriptTexts_lifted (os:Os) (started:os.Started) (H:Type) (enc:TypeId×Value→H) (F:Stop.Interp):
  ReturnsInHanded {} Tryz.checked os 5 .any ((OpenSpec.ofChange Rows.scriptTextsSpec).preRow enc Tryz.prog Tryz.f5 Rows.scriptTextsRow.domain false Rows.scriptTextsRow.laid) (((OpenSpec.ofChange Rows.scriptTextsSpec).at F).post enc Tryz.prog Tryz.f5 false true false false):=by
 obtain ⟨⟨ds,gs,places⟩,hx⟩:=scriptTexts_reads os enc;refine returnsInHanded_of_row (C:=Tryz.checked) (s:=OpenSpec.ofChange Rows.scriptTextsSpec) Tryz.own started (by kernel_rfl) Tryz.func5
  (witness_row_at (enc:=enc) (C:=Tryz.checked) false (laidW os) scriptTexts_in rfl (by kernel_rfl) (by kernel_rfl) (by kernel_rfl)
   (OpenSpec.preRow_of_cond 8 hx (by kernel_rfl) (fun k hk=>by cases hk) (by kernel_rfl) (scriptTexts_met os))) ?_
 intro W base args ds gs before hval hW _ _ _ hL _ _;refine law_calls (P:=Tryz.prog) (s:=Rows.scriptTextsSpec) tabOK Tryz.laidOut (enters Tryz.func5 (by kernel_rfl) (by kernel_rfl)) ok5 (fun x hx=>F5_eq' _ (fun y hy=>fit_an (hx.1.2 y hy)) (fit_an hx.2.1) (fit_an hx.2.2.1) _) (by kernel_rfl) (by kernel_rfl) (by kernel_rfl) Tryz.underlying4 rfl (fun ds h=>?_) W base args ds gs before hval hW (tab_ok (laidMet_of_H hL))
 match ds,h with
 | [d1,d2,d3],_=>exact ⟨rfl,rfl,rfl⟩

theorem scriptTexts_in1:(Rows.scriptTextsRow.inPlace==Tryz.prog.inPlace 5)=true:=by kernel_rfl
theorem scriptTexts_in2:(Rows.scriptTextsRow.unfollowed==Tryz.prog.unfollowed 5)=true:=by kernel_rfl
theorem scriptTexts_in3:(Rows.scriptTextsRow.recurses==Tryz.prog.recurses 5)=true:=by kernel_rfl
theorem scriptTexts_in4:(Rows.scriptTextsRow.named==Tryz.prog.varsNamed 5)=true:=by kernel_rfl
theorem scriptTexts_in5:namedTie Tryz.prog Rows.scriptTextsRow.named Rows.scriptTextsSpec.vars=true:=by kernel_rfl
theorem scriptTexts_in6:Rows.scriptTextsRow.wf (OpenSpec.ofChange Rows.scriptTextsSpec)=true:=by kernel_rfl
theorem scriptTexts_in7:(Rows.scriptTextsRow.veiled==(Tryz.f5.params.toList++Rows.scriptTextsSpec.plain.varTypes Tryz.prog++Tryz.f5.resultTypes.toList).any (Tryz.prog.veiledRec ·))=true:=by kernel_rfl
theorem scriptTexts_in8:Rows.scriptTextsRow.veiledFits Tryz.prog Tryz.f5.params.toList (Tryz.f5.params.toList++Rows.scriptTextsSpec.plain.varTypes Tryz.prog++Tryz.f5.resultTypes.toList)=true:=by kernel_rfl
theorem scriptTexts_in9:(Rows.scriptTextsRow.wideKeys==(Tryz.f5.params.toList++Rows.scriptTextsSpec.plain.varTypes Tryz.prog++Tryz.f5.resultTypes.toList).any (Tryz.prog.wideKeysFrom ·))=true:=by kernel_rfl
theorem scriptTexts_named:Tryz.prog.funcNamed "drawlot/drawlotlaw26.ScriptTexts"=some 5:=by kernel_rfl
set_option maxRecDepth 100000 in
theorem scriptTexts_joined:joinedFacts Tryz.prog 5 Tryz.f5 Rows.scriptTextsSpec Rows.scriptTextsRow=true:=
 joined_of scriptTexts_in6 Tryz.laidOut Tryz.mapsRow (by kernel_rfl) scriptTexts_in5 (by kernel_rfl) (by kernel_rfl) (by kernel_rfl) (by kernel_rfl) scriptTexts_in1 scriptTexts_in2 scriptTexts_in3 scriptTexts_in4 (by kernel_rfl) (by kernel_rfl) (by kernel_rfl) (by kernel_rfl) scriptTexts_in9 (by kernel_rfl) (by kernel_rfl) (by kernel_rfl) (by kernel_rfl) Tryz.plainK (by kernel_rfl) Tryz.heard Tryz.enters Tryz.liftsF Tryz.makes (by kernel_rfl) (by kernel_rfl) scriptTexts_in7 scriptTexts_in8
set_option maxRecDepth 100000 in
theorem scriptTexts_said:Rows.ScriptTextsSaid:=
 OpenClaim.holds_of_cond 5 Tryz.f5 rfl rfl rfl rfl rfl rfl rfl ⟨rfl,rfl,rfl,rfl,rfl⟩ rfl rfl rfl rfl rfl scriptTexts_named Tryz.func5 scriptTexts_joined
  (of_decide_eq_true (by kernel_rfl)) (by unfold Func.isWrapper; rw [if_neg (by decide+kernel)]; exact ⟨rfl,rfl⟩)
  (fun os started H enc _ F=>by rw [OpenClaim.pre_eq_preRow]; exact scriptTexts_lifted os started H enc F)
theorem scriptTexts_plain (f:FuncId) (fn:Func) (hf:Tryz.pinned.checked.prog.funcNamed "drawlot/drawlotlaw26.ScriptTexts"=some f) (hfn:Tryz.pinned.checked.prog.funcs[f]?=some fn):
  false=Tryz.pinned.checked.prog.looks []∧∀(j:Nat) t,fn.params[j]?=some t→Tryz.pinned.checked.prog.wantsStandIn t=false:=by
 obtain rfl:f=5:=Option.some.inj (scriptTexts_named.symm.trans hf) |>.symm
 obtain rfl:fn=Tryz.f5:=(Option.some.inj (Tryz.func5.symm.trans hfn)).symm;refine ⟨by kernel_rfl,fun j t ht=>?_⟩;exact stand_all (P:=Tryz.prog) (show (Tryz.f5.params.toList.all fun t=> !Tryz.prog.wantsStandIn t)=true by kernel_rfl) ht
set_option maxRecDepth 100000 in
theorem scriptTexts_holds:Rows.ScriptTextsCardSaid:=
 Claim7.holds_tied_plain_at .later [] [.data,.data,.data] true (true,"9beba9d125ce69a060af9aac970323ceb36b603db075b8fbf0191f5c258c9999") false scriptTexts_said (fun _ h=>by cases h) (by kernel_rfl) (fun _ h=>by cases h) scriptTexts_row_tie rfl ⟨rfl,rfl⟩ (by kernel_rfl) rfl scriptTexts_plain (by kernel_rfl)
#print axioms scriptTexts_holds
end Go.Proofs.YtlbchnapmipbhaaGreatDoor
