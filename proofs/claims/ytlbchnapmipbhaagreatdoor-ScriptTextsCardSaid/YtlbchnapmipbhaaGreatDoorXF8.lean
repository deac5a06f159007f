/- A part of the proof; no condition of its own. -/
import Derived.Test.YtlbchnapmipbhaaGreatDoorXF7
import Derived.Test.YtlbchnapmipbhaaGreatDoorRows
import Derived.ProofKit
import Derived.LaidSub
import GoSem.ClaimSeven
import Derived.Lib.LaidTab
import Derived.JoinedOf
set_option linter.unusedVariables false
set_option linter.unusedSimpArgs false
set_option linter.unusedSectionVars false
open Go.IntKind (i64 u64 u8 u32 u16)
open List (replicate)
noncomputable section
namespace Go.Proofs.YtlbchnapmipbhaaGreatDoor
open Go.ChangeShapes Go.WideShapes Go.ChangeAt Go.RowKit Go.PG
theorem Tryz.own:ownKnob Tryz.prog.godebug=Option.none:=by kernel_rfl
theorem Tryz.laidOut:laidOutB Tryz.prog=true:=by kernel_rfl
theorem Tryz.mapsRow:mapsRowed Tryz.prog=true:=by kernel_rfl
theorem Tryz.heard:Tryz.prog.stopsHeard=true:=by kernel_rfl
theorem Tryz.enters:Tryz.prog.mayEnter=true:=by kernel_rfl
theorem Tryz.plainK:(false==Tryz.prog.plainKeys)=true:=by kernel_rfl
theorem Tryz.liftsF:(false==Tryz.prog.liftsFinal)=true:=by kernel_rfl
theorem Tryz.makes:(Tryz.prog.make==some Make.cut)=true:=by kernel_rfl
theorem gTab:Tryz.prog.globalNamed "internal/strconv.uint64pow10"=some 0:=by kernel_rfl
theorem zdx:(Tryz.prog.globals[0]?).map (·.type)=some 205:=by kernel_rfl
theorem ze5:Tryz.prog.cellsOf 205=20:=by kernel_rfl
theorem zoa:Tryz.prog.cellsOf 32=1:=by kernel_rfl
abbrev lays:List (String×DataW Unit):=[("math/bits.deBruijn32tab",Rows.laid_math_bits_deBruijn32tab),("math/bits.deBruijn64tab",Rows.laid_math_bits_deBruijn64tab),("internal/strconv.uint64pow10",Rows.laid_internal_strconv_uint64pow10)]
theorem laidMet_of_H {W:World} (h:laidMetH Tryz.prog lays W):laidMet Tryz.prog lays W:=h
theorem zq9 {W:World} (h:laidMet Tryz.prog lays W):Lib.TabIs Tryz.prog W "internal/strconv.uint64pow10" .u64 (tabL.map λn=>(n:Int)):=by
 have h2:=laidMet.filter (λx=>x.1== "internal/strconv.uint64pow10") h;have e:lays.filter (λx=>x.1== "internal/strconv.uint64pow10")=[("internal/strconv.uint64pow10",Lib.tabData .u64 (tabL.map λn=>(n:Int)))]:=rfl;rw [e] at h2;exact Lib.tabIs_of_head (rest:=[]) gTab zdx Tryz.underlying205 Tryz.underlying32 zoa ze5 h2
theorem tab_ok {W:World} (h:laidMet Tryz.prog lays W):TB (λb=>b<W.heap.size) W:=by
 intro g hg;obtain rfl:(0:Nat)=g:=Option.some.inj hg;have h2:=zq9 h;unfold Lib.TabIs World.var? at h2;rw [gTab] at h2;simp only [Option.bind_some] at h2;cases hc:W.heap[0]? with
 | none=>rw [hc] at h2; simp at h2
 | some o=>
  rw [hc] at h2;refine ⟨(Ap.1 hc).1,?_⟩;cases o<;>simp only [reduceCtorEq,Ad] at h2
  rename_i cs t fr;exact ⟨t,fr,by rw [h2,List.map_map]; rfl⟩
def ze4 (d:DataW Unit):Array Value:=match d with
 | .agg l=>(l.map λx=>match x with | .lit (.int k n)=>Value.int k n | _=>Value.int .u8 0).toArray
 | _=>#[]
def putG (h:Array Obj) (g:Nat) (d:DataW Unit):Array Obj:=h.modify g fun
 | .cells _ t frozen=>.cells (ze4 d) t frozen
 | o=>o
def laidW (os:Os):World:=
 {World.holding Tryz.prog os ⟨#[],#[],[]⟩ with heap:=putG (putG (putG (World.holding Tryz.prog os ⟨#[],#[],[]⟩).heap 0 Rows.laid_internal_strconv_uint64pow10) 2 Rows.laid_math_bits_deBruijn32tab) 3 Rows.laid_math_bits_deBruijn64tab}
theorem stand_all {P:Program} {ts:Array TypeId} (h:(ts.toList.all λt=> !P.wantsStandIn t)=true) {j:Nat} {t:TypeId} (ht:ts[j]?=some t):P.wantsStandIn t=false:=by
 have:=B9.1 h t (by simpa using Array.mem_of_getElem? ht);simpa using this
end Go.Proofs.YtlbchnapmipbhaaGreatDoor
namespace Go.PG
open Go.ChangeShapes Go.WideShapes Go.ChangeAt Go.RowKit
theorem joined_of {P:Program} {f:FuncId} {fn:Func} {s:ChangeSpec} {c:OpenClaim}
  (h1:(c.wf (OpenSpec.ofChange s))=true)
  (h2:(laidOutB P)=true)
  (h3:(mapsRowed P)=true)
  (h4:(fn.params.all (P.readableRec ·))=true)
  (h5:(namedTie P c.named s.vars)=true)
  (h6:((c.stops==[]))=true)
  (h7:((P.stops==[]))=true)
  (h8:((c.knobs==[]))=true)
  (h9:((P.stopKnobs==[]))=true)
  (h10:((c.inPlace==P.inPlace f))=true)
  (h11:((c.unfollowed==P.unfollowed f))=true)
  (h12:((c.recurses==P.recurses f))=true)
  (h13:((c.named==P.varsNamed f))=true)
  (h14:((c.maps==(fn.params.toList++s.plain.varTypes P).any (P.mapsRec ·)))=true)
  (h15:((c.ifaces==(fn.params.toList++s.plain.varTypes P).any (P.ifacesRec ·)))=true)
  (h16:((c.mapsOut==P.mapsAmong fn.resultTypes.toList))=true)
  (h17:((c.loops==(fn.params.toList++s.plain.varTypes P).any (P.loopsFrom ·)))=true)
  (h18:((c.wideKeys==(fn.params.toList++s.plain.varTypes P++fn.resultTypes.toList).any (P.wideKeysFrom ·)))=true)
  (h19:(s.vars.all (P.varReadable ·))=true)
  (h20:(fn.resultTypes.all (λt=>P.readableRec t&&decide (t<P.types.size)))=true)
  (h21:((c.ifacesOut==fn.resultTypes.toList.any (P.ifacesRec ·)))=true)
  (h22:((c.loopsOut==fn.resultTypes.toList.any (P.loopsFrom ·)))=true)
  (h23:((c.plainKeys==P.plainKeys))=true)
  (h24:(c.shortTexts.isNone)=true)
  (h25:(P.stopsHeard)=true)
  (h26:(P.mayEnter)=true)
  (h27:((c.lifted==P.liftsFinal))=true)
  (h28:((P.make==some c.make))=true)
  (h29:((c.kinds==(if c.domain.isEmpty then [] else fn.params.toList.map λt=>match P.underlying t with | some (.int k)=>some k | _=>none)))=true)
  (h30:((c.pinned==c.pinnedBy))=true)
  (h31:((c.veiled==(fn.params.toList++s.plain.varTypes P++fn.resultTypes.toList).any (P.veiledRec ·)))=true)
  (h32:(c.veiledFits P fn.params.toList (fn.params.toList++s.plain.varTypes P++fn.resultTypes.toList))=true)
  :joinedFacts P f fn s c=true:=by
 unfold joinedFacts;simp only [Ab];exact ⟨⟨⟨⟨⟨⟨⟨⟨⟨⟨⟨⟨⟨⟨⟨⟨⟨⟨⟨⟨⟨⟨⟨⟨⟨⟨⟨⟨⟨⟨⟨h1,h2⟩,h3⟩,h4⟩,h5⟩,h6⟩,h7⟩,h8⟩,h9⟩,h10⟩,h11⟩,h12⟩,h13⟩,h14⟩,h15⟩,h16⟩,h17⟩,h18⟩,h19⟩,h20⟩,h21⟩,h22⟩,h23⟩,h24⟩,h25⟩,h26⟩,h27⟩,h28⟩,h29⟩,h30⟩,h31⟩,h32⟩
end Go.PG
end
