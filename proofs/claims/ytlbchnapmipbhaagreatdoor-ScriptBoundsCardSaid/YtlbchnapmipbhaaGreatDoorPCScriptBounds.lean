/- Proved: whatever the input, the Go function of the law ScriptBounds returns true and leaves its arguments as they were (the given statement ScriptBoundsCardSaid). Conditions: none beyond the given statement's own. -/
import Derived.Test.YtlbchnapmipbhaaGreatDoorXB9
import Derived.Test.YtlbchnapmipbhaaGreatDoorXB9
import Derived.Test.YtlbchnapmipbhaaGreatDoorXB9
import Derived.Test.YtlbchnapmipbhaaGreatDoorCards
import Derived.Test.YtlbchnapmipbhaaGreatDoorTie
import Derived.ProofKit
import Derived.OpenShut
import Derived.Deep.DeepHandedRow
import Derived.LaidSub
set_option linter.unusedVariables false
set_option linter.unusedSimpArgs false
set_option linter.unusedSectionVars false
namespace Go.Proofs.YtlbchnapmipbhaaGreatDoor
open Go.ChangeShapes Go.WideShapes Go.ChangeAt Go.RowKit Go.PG

/-- The witness. -/
noncomputable def scriptBounds_in:Array Value:=#[.agg #[.int .i64 0,.int .i64 0,.int .i64 0,.int .i64 0,.int .i64 0],.int .u32 0,.int .u8 0]
theorem scriptBounds_met (os:Os):laidMet Tryz.prog Rows.scriptBoundsRow.laid ((laidW os).forCall (fun _ _=>0) ⟨#[],scriptBounds_in,[]⟩).memory:=
 laidMet_of_run' 8 (by kernel_rfl) (by kernel_rfl)
theorem scriptBounds_reads (os:Os) {H:Type} (enc:TypeId×Value→H):∃x:List (DataW H)×List (DataW H)×List MemPlace,DataW.whole enc Tryz.prog ((laidW os).forCall (fun _ _=>0) ⟨#[],scriptBounds_in,[]⟩).memory Tryz.f4.params.toList Rows.scriptBoundsSpec.vars false scriptBounds_in.toList 8=some x:=
 Option.isSome_iff_exists.1 (by kernel_rfl)

set_option maxRecDepth 100000 in
theorem scriptBounds_lifted (os:Os) (started:os.Started) (H:Type) (enc:TypeId×Value→H) (F:Stop.Interp):
  ReturnsInHanded {} Tryz.checked os 4 .any ((OpenSpec.ofChange Rows.scriptBoundsSpec).preRow enc Tryz.prog Tryz.f4 Rows.scriptBoundsRow.domain false Rows.scriptBoundsRow.laid) (((OpenSpec.ofChange Rows.scriptBoundsSpec).at F).post enc Tryz.prog Tryz.f4 false true false false):=by
 obtain ⟨⟨ds,gs,places⟩,hx⟩:=scriptBounds_reads os enc;refine returnsInHanded_of_row (C:=Tryz.checked) (s:=OpenSpec.ofChange Rows.scriptBoundsSpec) Tryz.own started (by kernel_rfl) Tryz.func4
  (witness_row_at (enc:=enc) (C:=Tryz.checked) false (laidW os) scriptBounds_in rfl (by kernel_rfl) (by kernel_rfl) (by kernel_rfl)
   (OpenSpec.preRow_of_cond 8 hx (by kernel_rfl) (fun k hk=>by cases hk) (by kernel_rfl) (scriptBounds_met os))) ?_
 intro W base args ds gs before hval hW _ _ _ hL _ _;refine law_calls (P:=Tryz.prog) (s:=Rows.scriptBoundsSpec) tabOK Tryz.laidOut (enters Tryz.func4 (by kernel_rfl) (by kernel_rfl)) ok4 (fun x hx=>F4_eq' _ (by have:=fit_u32 hx.2.1; unfold U32; omega) (by have:=fit_u8 hx.2.2.1; unfold U8; omega) _) (by kernel_rfl) (by kernel_rfl) (by kernel_rfl) Tryz.underlying4 rfl (fun ds h=>?_) W base args ds gs before hval hW (tab_ok (laidMet_of_H hL))
 match ds,h with
 | [d1,d2,d3],_=>exact ⟨rfl,rfl,rfl⟩

theorem scriptBounds_in1:(Rows.scriptBoundsRow.inPlace==Tryz.prog.inPlace 4)=true:=by kernel_rfl
theorem scriptBounds_in2:(Rows.scriptBoundsRow.unfollowed==Tryz.prog.unfollowed 4)=true:=by kernel_rfl
theorem scriptBounds_in3:(Rows.scriptBoundsRow.recurses==Tryz.prog.recurses 4)=true:=by kernel_rfl
theorem scriptBounds_in4:(Rows.scriptBoundsRow.named==Tryz.prog.varsNamed 4)=true:=by kernel_rfl
theorem scriptBounds_in5:namedTie Tryz.prog Rows.scriptBoundsRow.named Rows.scriptBoundsSpec.vars=true:=by kernel_rfl
theorem scriptBounds_in6:Rows.scriptBoundsRow.wf (OpenSpec.ofChange Rows.scriptBoundsSpec)=true:=by kernel_rfl
theorem scriptBounds_in7:(Rows.scriptBoundsRow.veiled==(Tryz.f4.params.toList++Rows.scriptBoundsSpec.plain.varTypes Tryz.prog++Tryz.f4.resultTypes.toList).any (Tryz.prog.veiledRec ·))=true:=by kernel_rfl
theorem scriptBounds_in8:Rows.scriptBoundsRow.veiledFits Tryz.prog Tryz.f4.params.toList (Tryz.f4.params.toList++Rows.scriptBoundsSpec.plain.varTypes Tryz.prog++Tryz.f4.resultTypes.toList)=true:=by kernel_rfl
theorem scriptBounds_in9:(Rows.scriptBoundsRow.wideKeys==(Tryz.f4.params.toList++Rows.scriptBoundsSpec.plain.varTypes Tryz.prog++Tryz.f4.resultTypes.toList).any (Tryz.prog.wideKeysFrom ·))=true:=by kernel_rfl
theorem scriptBounds_named:Tryz.prog.funcNamed "drawlot/drawlotlaw26.ScriptBounds"=some 4:=by kernel_rfl
set_option maxRecDepth 100000 in
theorem scriptBounds_joined:joinedFacts Tryz.prog 4 Tryz.f4 Rows.scriptBoundsSpec Rows.scriptBoundsRow=true:=
 joined_of scriptBounds_in6 Tryz.laidOut Tryz.mapsRow (by kernel_rfl) scriptBounds_in5 (by kernel_rfl) (by kernel_rfl) (by kernel_rfl) (by kernel_rfl) scriptBounds_in1 scriptBounds_in2 scriptBounds_in3 scriptBounds_in4 (by kernel_rfl) (by kernel_rfl) (by kernel_rfl) (by kernel_rfl) scriptBounds_in9 (by kernel_rfl) (by kernel_rfl) (by kernel_rfl) (by kernel_rfl) Tryz.plainK (by kernel_rfl) Tryz.heard Tryz.enters Tryz.liftsF Tryz.makes (by kernel_rfl) (by kernel_rfl) scriptBounds_in7 scriptBounds_in8
set_option maxRecDepth 100000 in
theorem scriptBounds_said:Rows.ScriptBoundsSaid:=
 OpenClaim.holds_of_cond 4 Tryz.f4 rfl rfl rfl rfl rfl rfl rfl ⟨rfl,rfl,rfl,rfl,rfl⟩ rfl rfl rfl rfl rfl scriptBounds_named Tryz.func4 scriptBounds_joined
  (of_decide_eq_true (by kernel_rfl)) (by unfold Func.isWrapper; rw [if_neg (by decide+kernel)]; exact ⟨rfl,rfl⟩)
  (fun os started H enc _ F=>by rw [OpenClaim.pre_eq_preRow]; exact scriptBounds_lifted os started H enc F)
theorem scriptBounds_plain (f:FuncId) (fn:Func) (hf:Tryz.pinned.checked.prog.funcNamed "drawlot/drawlotlaw26.ScriptBounds"=some f) (hfn:Tryz.pinned.checked.prog.funcs[f]?=some fn):
  false=Tryz.pinned.checked.prog.looks []∧∀(j:Nat) t,fn.params[j]?=some t→Tryz.pinned.checked.prog.wantsStandIn t=false:=by
 obtain rfl:f=4:=Option.some.inj (scriptBounds_named.symm.trans hf) |>.symm
 obtain rfl:fn=Tryz.f4:=(Option.some.inj (Tryz.func4.symm.trans hfn)).symm;refine ⟨by kernel_rfl,fun j t ht=>?_⟩;exact stand_all (P:=Tryz.prog) (show (Tryz.f4.params.toList.all fun t=> !Tryz.prog.wantsStandIn t)=true by kernel_rfl) ht
set_option maxRecDepth 100000 in
theorem scriptBounds_holds:Rows.ScriptBoundsCardSaid:=
 Claim7.holds_tied_plain_at .later [] [.data,.data,.data] true (true,"9beba9d125ce69a060af9aac970323ceb36b603db075b8fbf0191f5c258c9999") false scriptBounds_said (fun _ h=>by cases h) (by kernel_rfl) (fun _ h=>by cases h) scriptBounds_row_tie rfl ⟨rfl,rfl⟩ (by kernel_rfl) rfl scriptBounds_plain (by kernel_rfl)
#print axioms scriptBounds_holds
end Go.Proofs.YtlbchnapmipbhaaGreatDoor
