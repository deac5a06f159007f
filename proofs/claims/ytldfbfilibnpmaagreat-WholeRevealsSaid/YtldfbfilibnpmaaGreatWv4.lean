/- A part of the proof over this seat (own work; the framework that reads a Go function as a pure one, or a use of it). No condition of its own. -/
import Derived.Test.YtldfbfilibnpmaaGreatWv3
import Derived.Shelf.Spec.SlicesInsertGrow
import Derived.KernelRfl
import Derived.RangeFuncRecord
import Derived.RangeFuncLeaves
set_option linter.unusedVariables false
set_option linter.unusedSimpArgs false
set_option linter.unusedSectionVars false
noncomputable section
set_option linter.unusedVariables false
set_option linter.unusedSimpArgs false
namespace Go.PG
open Go.Proofs Go.Shelf Go.RowKit Go.Lib
structure InsL (P:Program) (ρ:Ren) (fn:Func):Prop where
 mixed:P.follows .mixedOrders=true
 f22:P.funcs[ρ.f 22]?=some fn
 bd:∃nm ta pr rs fl tn,fn={Body2.n22 ρ with name:=nm,targs:=ta,params:=pr,resultTypes:=rs,file:=fl,tmpNames:=tn}
 t3:P.underlying (ρ.t 3)=some (TypeDesc.int IntKind.i64)
 t4:P.underlying (ρ.t 4)=some (TypeDesc.bool)
 t24:P.underlying (ρ.t 24)=some (TypeDesc.slice (ρ.t 9))
variable {P:Program} {ρ:Ren} {fn:Func}
set_option maxHeartbeats 4000000 in
set_option maxRecDepth 100000 in
theorem zs7 (L:InsL P ρ fn) {sz:Nat} (z9:∀w,(Go.sizeOf (ρ.t 9)).run P w=.ok sz w) (base vb:Option Addr) (n c i vc:Nat) (w:World) (hi:i≤n) (hnc:n≤c) (hc63:c≤9223372036854775807) (hnil:base=none→c=0):
  Calls P (ρ.f 22) #[.slice base n c,.int .i64 i,.slice vb 0 vc] w fun e w'=>e=.returned (.slice base n c)∧w'=w:=by
 have t3:=L.t3; have t4:=L.t4; have t24:=L.t24;have u3:=run_underlying L.t3; have u4:=run_underlying L.t4; have u24:=run_underlying L.t24;have mixed:=L.mixed;obtain ⟨nm,ta,pr,rs,fl,tn,hfn⟩:=L.bd;have F22:=L.f22;rw [hfn] at F22;cases base with
 | none=>
  have h0:=hnil rfl;subst h0;have h1:n=0:=by omega
  subst h1;have h2:i=0:=by omega
  subst h2
  go_enter F22,Body2.n22_ntmps ρ
  go_wp2
  go_ret
  exact ⟨rfl,rfl⟩
 | some b=>
  go_enter F22,Body2.n22_ntmps ρ
  go_wp2
  all_goals (go_ret; exact ⟨rfl,rfl⟩)
set_option maxHeartbeats 4000000 in
set_option maxRecDepth 100000 in
/-- at the end: append. -/
theorem ins_end (L:InsL P ρ fn) {sz:Nat} (z9:∀w,(Go.sizeOf (ρ.t 9)).run P w=.ok sz w) (base vb:Option Addr) (n c m vc:Nat) (w:World) (hm:0<m) (hnc:n≤c) (hc63:c≤9223372036854775807) (hnil:base=none→c=0)
  {u:Value} {w1:World} (hap:(Builtin.append_ #[ρ.t 24,ρ.t 24] (ρ.t 24) #[.slice base n c,.slice vb m vc]).run P w=.ok u w1):
  Calls P (ρ.f 22) #[.slice base n c,.int .i64 n,.slice vb m vc] w fun e w'=>e=.returned u∧w'=w1:=by
 have t3:=L.t3; have t4:=L.t4; have t24:=L.t24;have u3:=run_underlying L.t3; have u4:=run_underlying L.t4; have u24:=run_underlying L.t24;have mixed:=L.mixed;obtain ⟨nm,ta,pr,rs,fl,tn,hfn⟩:=L.bd;have F22:=L.f22;rw [hfn] at F22;have hz1:¬((m:Int)=0):=by omega
 cases base with
 | none=>
  have h0:=hnil rfl;subst h0;have h1:n=0:=by omega
  subst h1
  go_enter F22,Body2.n22_ntmps ρ
  go_wp2_with (at_builtin; refine Lib.wpList_append_run _ rfl _ _ (ρ.t 24) (ρ.t 24) rfl _ _ rfl rfl _ _ hap ?_)
  all_goals (go_ret; exact ⟨rfl,rfl⟩)
 | some b=>
  go_enter F22,Body2.n22_ntmps ρ
  go_wp2_with (at_builtin; refine Lib.wpList_append_run _ rfl _ _ (ρ.t 24) (ρ.t 24) rfl _ _ rfl rfl _ _ hap ?_)
  all_goals (go_ret; exact ⟨rfl,rfl⟩)
set_option maxHeartbeats 4000000 in
set_option maxRecDepth 100000 in
/-- no room: a new row. -/
theorem zs9 (L:InsL P ρ fn) {sz:Nat} (z9:∀w,(Go.sizeOf (ρ.t 9)).run P w=.ok sz w) (b g2:Nat) (vb:Option Addr) (n c i m vc G:Nat) (w w1 w2 w3:World) (hm:0<m) (hi:i<n) (hnc:n≤c) (hroom:c<n+m) (h63:n+m≤9223372036854775807)
  (hG:n+m≤G) (hG63:G≤9223372036854775807)
  (hz:∀ty,(Builtin.append_ #[ρ.t 24,ρ.t 3] ty #[.slice (some ⟨b,0,none⟩) i c,.int .i64 ((n:Int)+(m:Int) - (i:Int))]).run P w=.ok (.slice (some ⟨g2,0,none⟩) (n+m) G) w1)
  {u1 u2:Value} (hA:∀ty,(Builtin.copy_ #[ρ.t 24,ρ.t 24] ty #[.slice (some ⟨g2,i*sz,none⟩) (n+m - i) (G - i),.slice vb m vc]).run P w1=.ok u1 w2)
  (hB:∀ty,(Builtin.copy_ #[ρ.t 24,ρ.t 24] ty #[.slice (some ⟨g2,(i+m)*sz,none⟩) (n+m - (i+m)) (G - (i+m)),.slice (some ⟨b,i*sz,none⟩) (n - i) (c - i)]).run P w2.drew=.ok u2 w3):
  Calls P (ρ.f 22) #[.slice (some ⟨b,0,none⟩) n c,.int .i64 i,.slice vb m vc] w fun e w'=>e=.returned (.slice (some ⟨g2,0,none⟩) (n+m) G)∧w'=w3:=by
 have t3:=L.t3; have t4:=L.t4; have t24:=L.t24;have u3:=run_underlying L.t3; have u4:=run_underlying L.t4; have u24:=run_underlying L.t24;have mixed:=L.mixed;obtain ⟨nm,ta,pr,rs,fl,tn,hfn⟩:=L.bd;have F22:=L.f22;rw [hfn] at F22;have hz1:¬((m:Int)=0):=by omega
 have hz2:¬((i:Int)=(n:Int)):=by omega
 have hz3:(c:Int)<(n:Int)+(m:Int):=by omega
 have hc63:c≤9223372036854775807:=by omega
 have hGi:¬(G=i):=by omega
 have hGim:¬(G=i+m):=by omega
 have hci:¬(c=i):=by omega
 have hw1:IntKind.i64.wrap ((i:Int)+(m:Int))=(i:Int)+(m:Int):=by rw [IntKind.wrap_i64]; omega
 have hw2:IntKind.i64.wrap ((n:Int)+(m:Int))=(n:Int)+(m:Int):=by rw [IntKind.wrap_i64]; omega
 have hb1:(0:Int)≤(i:Int)+(m:Int):=by omega
 have hin:i≤n:=by omega
 have htn:((i:Int)+(m:Int)).toNat=i+m:=by omega
 have hb3:(i:Int)≤(n:Int):=by omega
 go_enter F22,Body2.n22_ntmps ρ
 go_wp2_with (first
  | (at_builtin; refine Lib.wpList_append_run _ rfl _ _ _ _ rfl _ _ rfl rfl _ _ (hz _) ?_)
  | (at_builtin; refine wpList_copy_runI _ rfl _ _ (ρ.t 24) (ρ.t 24) rfl _ _ rfl rfl (hA _) ?_))
 go_region_law_o (refine step_copy_runI rfl _ _ (ρ.t 24) (ρ.t 24) rfl (.slice (some ⟨g2,(i+m)*sz,none⟩) (n+m - (i+m)) (G - (i+m))) (.slice (some ⟨b,i*sz,none⟩) (n - i) (c - i)) (by simp [Act.eval,Act.put]) (by simp [Act.eval,Act.put]) (hB (ρ.t 3)) ?_)
 go_wp2
 go_ret
 exact ⟨rfl,rfl⟩
set_option maxHeartbeats 4000000 in
set_option maxRecDepth 100000 in
/-- there is room: in place. -/
theorem zkg (L:InsL P ρ fn) {sz:Nat} (z9:∀w,(Go.sizeOf (ρ.t 9)).run P w=.ok sz w) (b:Nat) (vb:Option Addr) (n c i m vc:Nat) (w w2 w3:World) (hm:0<m) (hi:i<n) (hroom:n+m≤c) (hc63:c≤9223372036854775807)
  (hov:(callFunc (ρ.f 29) #[.slice vb m vc,.slice (some ⟨b,(i+m)*sz,none⟩) (n+m - (i+m)) (c - (i+m))]).run P w=.ok (.value (.bool false)) w)
  {u1 u2:Value} (hA:∀ty,(Builtin.copy_ #[ρ.t 24,ρ.t 24] ty #[.slice (some ⟨b,(i+m)*sz,none⟩) (n+m - (i+m)) (c - (i+m)),.slice (some ⟨b,i*sz,none⟩) (n+m - i) (c - i)]).run P w.drew=.ok u1 w2)
  (hB:∀ty,(Builtin.copy_ #[ρ.t 24,ρ.t 24] ty #[.slice (some ⟨b,i*sz,none⟩) (n+m - i) (c - i),.slice vb m vc]).run P w2=.ok u2 w3):
  Calls P (ρ.f 22) #[.slice (some ⟨b,0,none⟩) n c,.int .i64 i,.slice vb m vc] w fun e w'=>e=.returned (.slice (some ⟨b,0,none⟩) (n+m) c)∧w'=w3:=by
 have t3:=L.t3; have t4:=L.t4; have t24:=L.t24;have u3:=run_underlying L.t3; have u4:=run_underlying L.t4; have u24:=run_underlying L.t24;have mixed:=L.mixed;obtain ⟨nm,ta,pr,rs,fl,tn,hfn⟩:=L.bd;have F22:=L.f22;rw [hfn] at F22;have hz1:¬((m:Int)=0):=by omega
 have hz2:¬((i:Int)=(n:Int)):=by omega
 have hw1:IntKind.i64.wrap ((i:Int)+(m:Int))=(i:Int)+(m:Int):=by rw [IntKind.wrap_i64]; omega
 have hb1:(0:Int)≤(i:Int)+(m:Int):=by omega
 have hin:i≤n:=by omega
 have htn:((i:Int)+(m:Int)).toNat=i+m:=by omega
 have hb2:¬(c=i+m):=by omega
 have hb3:(i:Int)≤(n:Int)+(m:Int):=by omega
 have hb4:¬(c=i):=by omega
 go_enter F22,Body2.n22_ntmps ρ
 go_wp2_with (simp only [hov])
 go_region_law_o (refine step_copy_runI rfl _ _ (ρ.t 24) (ρ.t 24) rfl (.slice (some ⟨b,(i+m)*sz,none⟩) (n+m - (i+m)) (c - (i+m))) (.slice (some ⟨b,i*sz,none⟩) (n+m - i) (c - i)) (by simp [Act.eval,Act.put]) (by simp [Act.eval,Act.put]) (hA _) ?_)
 go_wp2_with (at_builtin; refine wpList_copy_runI _ rfl _ _ (ρ.t 24) (ρ.t 24) rfl _ _ rfl rfl (hB _) ?_)
 go_ret
 exact ⟨rfl,rfl⟩
end Go.PG
set_option linter.unusedVariables false
set_option linter.unusedSimpArgs false
namespace Go.PG
open Go.Proofs Go.Shelf Go.RowKit
section
variable {C:Ctx} {tm:Nat→SV} {me:Nat→Option Blk} {pl:Nat→Plc} {S:Nat→Prop} {a:Act} {w:World} {P:Program} {T:Tab} {ρ:Ren} {fn:Func}
theorem N5 (w:World) (tS tR e:TypeId) (ht:P.underlying tS=some (.slice e)) (size:Nat) (hz:∀w,(Go.sizeOf e).run P w=.ok size w)
  (a b:Addr) (la ca lb cb:Nat) (hne:a.block≠b.block) {c1 c2:Array Value} {t1 t2:TypeId} {f1:Nat×Nat}
  (h1:w.heap[a.block]?=some (.cells c1 t1 f1)) (h2:w.heap[b.block]?=some (.cells c2 t2 (0,0))) (hk1:c1.size≠0) (hk:c2.size≠0):
  (Extern.SlicesOverlaps.overlaps #[tS,tS] #[tR] #[.slice (some a) la ca,.slice (some b) lb cb]).run P w=.ok (.bool false) w:=by
 have hnb:(a.block !=b.block)=true:=by simpa using hne
 have hnb':(a.block==b.block)=false:=by simpa using hne
 have hsa:w.shape? a.block=some (t1,c1.size):=by simp [World.shape?,h1]
 have hsb:w.shape? b.block=some (t2,c2.size):=by simp [World.shape?,h2]
 have hfb:w.frozen? b=false:=by simp [World.frozen?,h2]
 have hfe:w.frozen? {block:=b.block,off:=c2.size}=false:=by simp [World.frozen?,h2]
 change Sem.run P (α:=Value) (do
  let some t:=(#[tS,tS]:Array TypeId)[0]? | stuck "slices.overlaps: no parameter types"
  let .slice elem ←underlying t | stuck "slices.overlaps: slice type expected"
  let size ←sizeOf elem
  match (some a:Option Addr),(some b:Option Addr) with
  | some a,some b=>
   if la=0∨lb=0∨size=0 then pure (Value.bool false)
   else if a.block !=b.block&&(←frozen a)&&(←frozen b) then unsupported .addressObserved
   else do
    if a.block !=b.block then do
     noView a; noView b
     if ←mayBeOne a b then return Value.bool ((←choose (.extern "sameAddr.stringBytes" 2))==1)
    pure (Value.bool (a.block==b.block&&a.off<b.off+lb*size&&b.off<a.off+la*size))
  | _,_=>pure (Value.bool false)) w=_
 by_cases h0:la=0∨lb=0∨size=0
 ·simp [run_underlying ht,hz,h0]
 ·generalize c2.size=kB at*
  generalize c1.size=kA at*;cases kA with
  | zero=>exact absurd rfl hk1
  | succ kA=>
  cases kB with
  | zero=>exact absurd rfl hk
  | succ kB=>
   cases hfa:w.frozen? a<;>cases hfe1:w.frozen? {block:=a.block,off:=kA+1}<;>
    simp [run_underlying ht,hz,h0,hnb,hnb',frozen,noView,viewAt,mayBeOne,stringish,shape,Sem.run,hsa,hsb,hfb,hfe,hfa,hfe1]
theorem Ns (w:World) (c c':Array Value) (t:TypeId):(w.alloc (.cells c t)).setRow w.heap.size c'=w.alloc (.cells c' t):=by
 have:((w.heap.push (.cells c t)).modify w.heap.size fun | .cells _ elem frozen=>.cells c' elem frozen | o=>o)=w.heap.push (.cells c' t):=by
  apply Array.ext
  ·simp
  ·intro i h1 h2
   rw [Array.getElem_modify];simp only [Array.getElem_push]
   by_cases h:i<w.heap.size
   ·simp [h,show ¬w.heap.size=i by omega]
   ·simp at h2
    have:i=w.heap.size:=by omega
    subst this;simp
 simp only [World.setRow,World.alloc];exact congrArg (fun h=>{w with heap:=h}) this
theorem Tr (hT:Ax P T) {t ts ty et:TypeId} {sz:Nat} (hd:Bt T t=some (.slice et)) (hz:∀w,(sizeOf et).run P w=.ok sz w) {g o dl dc sl:Nat} {vs:Value} {ds:List Value} {c:Array Value} {tb:TypeId}
  (hl:(Builtin.lenOf vs).run P w=.ok sl w) (hf:(Builtin.firstCells sz (min sl dl) vs).run P w=.ok ds.toArray w) (hg:w.heap[g]?=some (.cells c tb (0,0))) (hfit:o+ds.length≤c.size) (h1:∀v∈ds,v.oneCell'=true):
  (Builtin.copy_ #[t,ts] ty #[.slice (some ⟨g,o,none⟩) dl dc,vs]).run P w=.ok (goInt (min sl dl:Nat)) (w.setRow g (c.toList.take o++ds++c.toList.drop (o+ds.length)).toArray):=by
 refine Iy hT hd hz hl hf ?_;have:=run_storeCells_at P g o tb ds 0 c w hg (by omega) h1;simpa using this
theorem zyc {e:Kd} {l:List e.T} {c:Array Value} (h:RdL (Rd S w e) l (c.toList.take (l.length*e.size))) (hc:l.length*e.size≤c.size) (i:Nat) (hi:i≤l.length):
  RdL (Rd S w e) (l.take i) (c.toList.take (i*e.size))∧RdL (Rd S w e) (l.drop i) ((c.toList.drop (i*e.size)).take ((l.length - i)*e.size)):=by
 have h1:=RdL.window (Rd.length e) h 0 i;have h2:=RdL.window (Rd.length e) h i (l.length - i);rw [Nat.zero_mul,List.drop_zero,List.drop_zero,List.take_take,Nat.min_eq_left (Nat.mul_le_mul_right _ hi)] at h1;refine ⟨h1,?_⟩;rw [List.take_of_length_le (by simp)] at h2;rw [List.drop_take,List.take_take] at h2
 rwa [show min ((l.length - i)*e.size) (l.length*e.size - i*e.size)=(l.length - i)*e.size by rw [←Nat.sub_mul]; omega] at h2
theorem zs8 (hT:Ax P T) (L:InsL P ρ fn) {e:Kd} (hsz:0<e.size) (hkt:tkd T (ρ.t 24)=some (.sl e)) (hd:Bt T (ρ.t 24)=some (.slice (ρ.t 9))) {dd:TyD} (hdd:Hu T (ρ.t 9)=some dd)
  (hov:∀(args:Array Value) (w:World) (b:Value) (w':World),(Extern.SlicesOverlaps.overlaps #[ρ.t 24,ρ.t 24] #[ρ.t 4] args).run P w=.ok b w'→(callFunc (ρ.f 29) args).run P w=.ok (.value b) w')
  {j ver:Nat} {l vs:List e.T} {i:Nat} (hjn:C.pp.length≤j) (hI:Inv C tm me pl S a w) (hm:me j=some (.row e l ver false)) {v0 vv:Value} (hrow:RowV (pl j) l.length v0) (hv:RdSl (Rd S w e) S w e.size vs vv)
  (hi:i≤l.length) (hlim:l.length+vs.length≤LIMB/dd.bytes):
  Calls P (ρ.f 22) #[v0,.int .i64 i,vv] w fun
   | .returned u,w'=>C8 C tm me (.own j (ver+1)) [(j,.row e (l.take i++vs++l.drop i) (ver+1) false)] a u w'
   | _,_=>False:=by
 have z9:∀w,(sizeOf (ρ.t 9)).run P w=.ok e.size w:=fun w=>Au hT w (Ft hT hkt hd)
 obtain ⟨lim1,lim2⟩:=limb hlim;obtain ⟨ti,hti,hti2,hti3,hti4⟩:=(hT _ dd hdd).info;have hkd:dd.kd=some e:=by
  have:=Ft hT hkt hd;simpa [tkd,hdd] using this
 obtain ⟨z,hz1,hz2,_⟩:=hti4 e hkd;have hisz:ti.size=e.size:=by rw [hti2,((hT _ dd hdd).kd e hkd).1]
 have hzs:=G4 e hz2;have hsum:l.length+vs.length≤140737488355328:=by
  rcases Nat.eq_zero_or_pos dd.bytes with h0 | h0
  ·have:=lim2 h0; omega
  ·exact Nat.le_trans (Nat.le_mul_of_pos_right _ h0) lim1
 -- nothing to be put in
 have hvv:∃vb vc,vv=.slice vb vs.length vc:=by
  rcases hv with ⟨h,h0⟩ | ⟨g,off,cap,c,t,fr,h,_⟩
  ·exact ⟨none,0,by rw [h,h0]; rfl⟩
  ·exact ⟨_,_,h⟩
 obtain ⟨vb,vc,hvv⟩:=hvv;have hv0:∃base cap,v0=.slice base l.length cap∧l.length≤cap∧cap≤maxLen∧(base=none→cap=0):=by
  rcases hI.mem j _ hm with ⟨hg,hl0,hc0⟩ | ⟨g,c,tb,hg,hoff,hc,h6,h7,h8,h9,h10⟩
  ·rcases hrow with ⟨_,h⟩ | ⟨g,hg',_⟩
   ·exact ⟨none,0,by rw [h,hl0]; rfl,by rw [hl0]; simp,by simp,fun _=>rfl⟩
   ·rw [hg] at hg'; cases hg'
  ·rcases hrow with ⟨hg',_⟩ | ⟨g',hg',h⟩
   ·rw [hg] at hg'; cases hg'
   ·exact ⟨_,_,h,h6,h7,fun h=>by cases h⟩
 obtain ⟨base,cap,hv0,hlc,hcm,hnil⟩:=hv0;have hcm':cap≤9223372036854775807:=by simp only [maxLen] at hcm; omega
 by_cases hv00:vs=[]
 ·subst hv00
  have:=zs7 L z9 base vb l.length cap i vc w hi hlc hcm' hnil;rw [hv0,hvv];refine this.mono fun x w' hx=>?_
  obtain ⟨rfl,rfl⟩:=hx;simp only;rw [List.append_nil,List.take_append_drop];refine ⟨pl,S,?_,?_⟩
  ·rw [Af,Ad]; exact hI.bump hm (Nat.le_succ _)
  ·rw [Af,Ad,←hv0]
   exact ⟨e,l,ver+1,false,Ae _ _ _,Nat.le_refl _,fun _=>hrow⟩
 have hpos:0<vs.length:=List.length_pos_iff.2 hv00
 by_cases hin:i=l.length
 ·subst hin
  have h:=K9 (C:=C) (tm:=tm) (me:=me) (pl:=pl) (S:=S) (a:=a) (w:=w) (ty:=ρ.t 24) hT (np:=C.pp.length) rfl (rd:=me) (t:=ρ.t 24) (s:=.own j ver) (x:=.val (.sl e) vs) (nx:=0) (vs:=v0) (vx:=vv)
   (r:=⟨true,.own j (ver+1),[(j,.row e (l++vs) (ver+1) false)],[j],0⟩) (by
    have hb:Nat.blt j C.pp.length=false:=by
     cases hb:Nat.blt j C.pp.length with
     | false=>rfl
     | true=>simp [Nat.blt_eq] at hb; omega
    simp [T3,hkt,hd,hdd,rdSl,TV.as_self,hm,hb,hlim]) rfl (fun _ _=>rfl) hI ⟨e,l,ver,false,hm,Nat.le_refl _,fun _=>hrow⟩ (VRd.sl.2 hv)
  obtain ⟨u,w1,hrun,haft⟩:=h;rw [hv0,hvv] at hrun;have:=ins_end L z9 base vb l.length cap vs.length vc w hpos hlc hcm' hnil hrun;rw [hv0,hvv];refine this.mono fun x w' hx=>?_
  obtain ⟨rfl,rfl⟩:=hx;simp only;rw [List.take_length,List.drop_length,List.append_nil];exact haft
 have hil:i<l.length:=by omega
 rcases hI.mem j _ hm with ⟨hg,hl0,hc0⟩ | ⟨g,c,tb,hg,hoff,hc,h6,h7,h8,h9,h10⟩
 ·rw [hl0] at hil; simp at hil
 have hvb:v0=.slice (some ⟨g,0,none⟩) l.length (pl j).cap:=by
  rcases hrow with ⟨hg',_⟩ | ⟨g',hg',h⟩
  ·rw [hg] at hg'; cases hg'
  ·rw [hg] at hg'; cases hg'; exact h
 rw [hvb] at hv0;simp only [Value.slice.injEq] at hv0;obtain ⟨rfl,_,rfl⟩:=hv0;rw [hvb,hvv];have hnS:¬S g:=fun h=>by have:=h10.2 h; cases this
 have hlsz:l.length*e.size≤c.size:=by rw [h8]; exact Nat.mul_le_mul_right _ h6
 have hcl:c.toList.length=c.size:=by simp
 obtain ⟨hr1,hr2⟩:=zyc h9 hlsz i hi;have hsg:((c.toList.drop (i*e.size)).take ((l.length - i)*e.size)).length=(l.length - i)*e.size:=by
  have:=RdL.length (Rd.length e) hr2;rw [this,List.length_drop]
 have hsg1:(c.toList.take (i*e.size)).length=i*e.size:=by
  have:=RdL.length (Rd.length e) hr1;rw [this,List.length_take,Nat.min_eq_left hi]
 have hgw:g<w.heap.size:=(Array.getElem?_eq_some_iff.1 hc).1;obtain ⟨seg,hseg⟩:∃seg,seg=(c.toList.drop (i*e.size)).take ((l.length - i)*e.size):=⟨_,rfl⟩
 rw [←hseg] at hr2 hsg;have him:(l.length+vs.length)*e.size=i*e.size+vs.length*e.size+(l.length - i)*e.size:=by
  rw [←Nat.add_mul,←Nat.add_mul]; congr 1; omega
 have hlen3:(l.take i++vs++l.drop i).length=l.length+vs.length:=by simp; omega
 by_cases hroom:l.length+vs.length≤(pl j).cap
 ·-- in place
  have hfitc:(l.length+vs.length)*e.size≤c.size:=by rw [h8]; exact Nat.mul_le_mul_right _ hroom
  have hsA:min (l.length+vs.length - i) (l.length+vs.length - (i+vs.length))=l.length - i:=by omega
  have hfA:(Builtin.firstCells e.size (min (l.length+vs.length - i) (l.length+vs.length - (i+vs.length))) (.slice (some ⟨g,i*e.size,none⟩) (l.length+vs.length - i) ((pl j).cap - i))).run P w.drew=.ok seg.toArray w.drew:=by
   rw [hsA];exact run_firstCells_some (P:=P) w.drew e.size (l.length - i) ⟨g,i*e.size,none⟩ _ _ seg hsg (fun q u hq=>by
    rw [Dv,cell_of_row w.drew g (i*e.size+q) c tb (0,0) hc];exact Fu hseg.symm q u hq)
  have hA:∀ty,_:=fun ty=>Tr (P:=P) (w:=w.drew) hT hd (ts:=ρ.t 24) (ty:=ty) z9 (g:=g) (o:=(i+vs.length)*e.size) (dl:=l.length+vs.length - (i+vs.length)) (dc:=(pl j).cap - (i+vs.length)) (by simp [Builtin.lenOf]) hfA hc (by rw [hsg,←Nat.add_mul]; refine Nat.le_trans (Nat.mul_le_mul_right _ ?_) hfitc; omega) (RdL.one hr2)
  obtain ⟨c2,hc2⟩:∃c2:Array Value,c2=(c.toList.take ((i+vs.length)*e.size)++seg++c.toList.drop ((i+vs.length)*e.size+seg.length)).toArray:=⟨_,rfl⟩
  rw [←hc2] at hA;have hc2l:c2.toList=c.toList.take ((i+vs.length)*e.size)++seg++c.toList.drop ((i+vs.length)*e.size+seg.length):=by rw [hc2]
  have hvsz:(i+vs.length)*e.size+seg.length≤c.size:=by rw [hsg,←Nat.add_mul]; refine Nat.le_trans (Nat.mul_le_mul_right _ ?_) hfitc; omega
  have hc2s:c2.size=c.size:=by
   have:=congrArg List.length hc2l;simp only [Array.length_toList,List.length_append,List.length_take,List.length_drop] at this;omega
  have hg2:(w.drew.setRow g c2).heap[g]?=some (.cells c2 tb (0,0)):=setRow_heap w.drew g c _ tb (0,0) hc;have hs2:∀b,S b→S b∧(w.drew.setRow g c2).heap[b]?=w.heap[b]?:=fun b hb=>⟨hb,setRow_other w.drew g b _ (fun e=>hnS (e ▸ hb))⟩
  have hv2:RdSl (Rd S (w.drew.setRow g c2) e) S (w.drew.setRow g c2) e.size vs (.slice vb vs.length vc):=by
   rw [←hvv]; exact RdSl.mono hs2 (fun x cs h=>Rd.mono hs2 e x cs h) hv
  obtain ⟨news,hf,hnr⟩:=hv2.first (P:=P) (Rd.length e) (n:=vs.length) (Nat.le_refl _);rw [List.take_length] at hnr;have hnl:=RdL.length (Rd.length e) hnr;have hlenv:=hv2.len (P:=P);have hB:∀ty,_:=fun ty=>Tr (P:=P) (w:=w.drew.setRow g c2) hT hd (ts:=ρ.t 24) (ty:=ty) z9 (g:=g) (o:=i*e.size) (dl:=l.length+vs.length - i) (dc:=(pl j).cap - i) hlenv
   (by rw [Nat.min_eq_left (by omega)]; exact hf) hg2 (by rw [hnl,hc2s]; omega) (RdL.one hnr)
  have hvb':∃ad,vb=some ad∧∃cv tv fv,w.heap[ad.block]?=some (.cells cv tv fv)∧cv.size≠0∧ad.block≠g:=by
   rcases hv with ⟨_,h⟩ | ⟨gv,off,capv,cv,tv,fv,h,q1,q2,q3,q4⟩
   ·exact absurd h hv00
   ·rw [h] at hvv
    simp only [Value.slice.injEq] at hvv;refine ⟨⟨gv,off,none⟩,hvv.1.symm,cv,tv,fv,q3,fun h0=>?_,fun h=>hnS (h ▸ q2)⟩;have:=RdL.length (Rd.length e) q4;simp at this;have h5:0<vs.length*e.size:=Nat.mul_pos hpos hsz;omega
  obtain ⟨ad,rfl,cv,tv,fv,q3,q4,q5⟩:=hvb';have hc0:c.size≠0:=by
   have:0<(l.length+vs.length)*e.size:=Nat.mul_pos (by omega) hsz;omega
  have hover:=hov #[.slice (some ad) vs.length vc,.slice (some ⟨g,(i+vs.length)*e.size,none⟩) (l.length+vs.length - (i+vs.length)) ((pl j).cap - (i+vs.length))] w _ _
   (N5 (P:=P) w (ρ.t 24) (ρ.t 4) (ρ.t 9) (Ai hT hd) e.size z9 ad ⟨g,(i+vs.length)*e.size,none⟩ _ _ _ _ q5 q3 hc q4 hc0)
  have:=zkg L z9 g (some ad) l.length (pl j).cap i vs.length vc w _ _ hpos hil hroom hcm' hover hA hB;refine this.mono fun x w' hx=>?_
  obtain ⟨rfl,rfl⟩:=hx;simp only;rw [setRow_setRow];obtain ⟨c3,hc3⟩:∃c3:Array Value,c3=(c2.toList.take (i*e.size)++news++c2.toList.drop (i*e.size+news.length)).toArray:=⟨_,rfl⟩
  rw [←hc3];have hc3l:c3.toList=c2.toList.take (i*e.size)++news++c2.toList.drop (i*e.size+news.length):=by rw [hc3]
  have hc3s:c3.size=c.size:=by
   have:=congrArg List.length hc3l;simp only [Array.length_toList,List.length_append,List.length_take,List.length_drop] at this;omega
  have e1:c2.toList.take (i*e.size)=c.toList.take (i*e.size):=by
   rw [hc2l,List.append_assoc,List.take_append_of_le_length (by simp; rw [hcl.symm] at hvsz; simp at hvsz; rw [Nat.add_mul]; omega),List.take_take,Nat.min_eq_left (by rw [Nat.add_mul]; omega)]
  have e2:c2.toList.drop (i*e.size+news.length)=seg++c.toList.drop ((i+vs.length)*e.size+seg.length):=by
   have hh:(c.toList.take ((i+vs.length)*e.size)).length=i*e.size+news.length:=by
    rw [List.length_take,hnl,←Nat.add_mul,hcl]; omega
   rw [hc2l,List.append_assoc,←hh,List.drop_left]
  have e3:c3.toList.take ((l.take i++vs++l.drop i).length*e.size)=c.toList.take (i*e.size)++news++seg:=by
   rw [hc3l,e1,e2,←List.append_assoc];have hh:(c.toList.take (i*e.size)++news++seg).length=(l.take i++vs++l.drop i).length*e.size:=by
    rw [hlen3,him,List.length_append,List.length_append,hsg,hsg1,hnl]
   rw [←hh,List.take_left]
  have hs3:∀b,S b→S b∧(w.drew.setRow g c3).heap[b]?=w.heap[b]?:=fun b hb=>⟨hb,setRow_other w.drew g b _ (fun e=>hnS (e ▸ hb))⟩
  have hs23:∀b,S b→S b∧(w.drew.setRow g c3).heap[b]?=(w.drew.setRow g c2).heap[b]?:=fun b hb=>⟨hb,by rw [(hs3 b hb).2,(hs2 b hb).2]⟩
  refine ⟨pl,S,?_,?_⟩
  ·rw [Af,Ad]
   refine (hI.drew).write hm hg hnS hc hc3s (by rw [hoff]; simp) (fun h=>by obtain ⟨k,x,s,e⟩:=h; cases e) rfl ⟨fun h=>(by obtain ⟨k,x,s,e⟩:=h; cases e),fun h=>(by obtain ⟨k,x,s,e⟩:=h; cases e)⟩ ⟨rfl,Nat.le_succ _,fun h=>absurd h (by omega)⟩ ?_;refine .inr ⟨g,_,tb,hg,hoff,setRow_heap w.drew g c _ tb (0,0) hc,by rw [hlen3]; exact hroom,h7,by rw [hc3s]; exact h8,?_,by simp; exact hnS⟩;rw [e3];exact RdL.append (RdL.append (RdL.mono hs3 hr1) (RdL.mono hs23 hnr)) (RdL.mono hs3 hr2)
  ·rw [Af,Ad]
   exact ⟨e,_,ver+1,false,Ae _ _ _,Nat.le_refl _,fun _=>.inr ⟨g,hg,by rw [hlen3]⟩⟩
 ·-- a new row
  have hik:i+(l.length+vs.length - i)=l.length+vs.length:=by omega
  have hkk:(l.length:Int)+(vs.length:Int) - (i:Int)=((l.length+vs.length - i:Nat):Int):=by omega
  have hold:(Builtin.firstCells ti.size i (.slice (some ⟨g,0,none⟩) i (pl j).cap)).run P w.drew=.ok (c.toList.take (i*e.size)).toArray w.drew:=by
   rw [hisz];exact run_firstCells_some (P:=P) w.drew e.size i ⟨g,0,none⟩ _ _ _ hsg1 (fun q u hq=>by
    rw [Dv,cell_of_row w.drew g (0+q) c tb (0,0) hc];exact Fu (off:=0) (by rw [List.drop_zero]) q u hq)
  have hbl:dd.bytes=0→False:=fun h0=>by have:=lim2 h0; omega
  have hb48:(l.length+vs.length - i)*ti.bytes≤281474976710656:=by
   rw [hti3];refine Nat.le_trans (Nat.mul_le_mul_right _ (Nat.sub_le _ _)) (by omega)
  have hz:∀ty,_:=fun ty=>Lib.run_append_grow_zeros (P:=P) w (ρ.t 24) (ρ.t 3) ty (ρ.t 9) ti z .i64 .i64 (Ai hT hd) L.t3 hti hz1 (some ⟨g,0,none⟩) i (pl j).cap _ hold (l.length+vs.length - i) (by omega) (by omega) (by omega) (by omega) hb48 (by rw [hti3,hik]; exact growslice_fits (by omega) lim1)
  rw [hik,←hkk] at hz;obtain ⟨Gc,hGc⟩:∃G,G=grownCap w (l.length+vs.length) (pl j).cap (ρ.t 9):=⟨_,rfl⟩
  rw [←hGc] at hz;have hG1:l.length+vs.length≤Gc:=by rw [hGc]; exact grownCap_ge w _ _ _
  have hG2:Gc≤maxLen:=by rw [hGc]; exact grownCap_le_maxLen w _ _ _ (by simp only [maxLen]; omega)
  have hG3:Gc≤9223372036854775807:=by simp only [maxLen] at hG2; omega
  obtain ⟨R1,hR1⟩:∃R:Array Value,R=(c.toList.take (i*e.size)).toArray++Builtin.zeroCells z.cells (l.length+vs.length - i)++Builtin.zeroCells z.cells (Gc - (l.length+vs.length)):=⟨_,rfl⟩
  rw [←hR1] at hz;have hR1s:R1.size=Gc*e.size:=by
   rw [hR1];simp only [Array.size_append,List.size_toArray,size_zeroCells,hzs,hsg1];rw [←Nat.add_mul,←Nat.add_mul]; congr 1; omega
  have hGsz:(l.length+vs.length)*e.size≤Gc*e.size:=Nat.mul_le_mul_right _ hG1;have hg2:(w.drew.alloc (.cells R1 (ρ.t 9))).heap[w.heap.size]?=some (.cells R1 (ρ.t 9) (0,0)):=heap_alloc_new w.drew _;have ho2:∀b,b<w.heap.size→∀R,(w.drew.alloc (.cells R (ρ.t 9))).heap[b]?=w.heap[b]?:=fun b hb R=>heap_alloc_old w.drew _ hb
  have hs2:∀b,S b→S b∧(w.drew.alloc (.cells R1 (ρ.t 9))).heap[b]?=w.heap[b]?:=fun b hb=>⟨hb,ho2 b (hI.sfr b hb).1 R1⟩
  have hv2:RdSl (Rd S (w.drew.alloc (.cells R1 (ρ.t 9))) e) S (w.drew.alloc (.cells R1 (ρ.t 9))) e.size vs (.slice vb vs.length vc):=by
   rw [←hvv]; exact RdSl.mono hs2 (fun x cs h=>Rd.mono hs2 e x cs h) hv
  obtain ⟨news,hf,hnr⟩:=hv2.first (P:=P) (Rd.length e) (n:=vs.length) (Nat.le_refl _);rw [List.take_length] at hnr;have hnl:=RdL.length (Rd.length e) hnr;have hlenv:=hv2.len (P:=P);have hA:∀ty,_:=fun ty=>Tr (P:=P) (w:=w.drew.alloc (.cells R1 (ρ.t 9))) hT hd (ts:=ρ.t 24) (ty:=ty) z9 (g:=w.heap.size) (o:=i*e.size) (dl:=l.length+vs.length - i) (dc:=Gc - i) hlenv
   (by rw [Nat.min_eq_left (by omega)]; exact hf) hg2 (by rw [hnl,hR1s]; omega) (RdL.one hnr)
  obtain ⟨R2,hR2⟩:∃R2:Array Value,R2=(R1.toList.take (i*e.size)++news++R1.toList.drop (i*e.size+news.length)).toArray:=⟨_,rfl⟩
  have hR2l:R2.toList=R1.toList.take (i*e.size)++news++R1.toList.drop (i*e.size+news.length):=by rw [hR2]
  have hw2:(w.drew.alloc (.cells R1 (ρ.t 9))).setRow w.heap.size R2=w.drew.alloc (.cells R2 (ρ.t 9)):=Ns w.drew R1 R2 _;rw [←hR2,hw2] at hA;have hR1l:R1.toList.length=R1.size:=by simp
  have hR2s:R2.size=Gc*e.size:=by
   have:=congrArg List.length hR2l;simp only [Array.length_toList,List.length_append,List.length_take,List.length_drop] at this;omega
  have hR2l':R2.toList.length=R2.size:=by simp
  have hcB:(w.drew.alloc (.cells R2 (ρ.t 9))).drew.heap[g]?=some (.cells c tb (0,0)):=by
   show (w.drew.alloc (.cells R2 (ρ.t 9))).heap[g]?=_;rw [ho2 g hgw]; exact hc
  have hfB:(Builtin.firstCells e.size (min (l.length - i) (l.length+vs.length - (i+vs.length))) (.slice (some ⟨g,i*e.size,none⟩) (l.length - i) ((pl j).cap - i))).run P (w.drew.alloc (.cells R2 (ρ.t 9))).drew=.ok seg.toArray (w.drew.alloc (.cells R2 (ρ.t 9))).drew:=by
   rw [show min (l.length - i) (l.length+vs.length - (i+vs.length))=l.length - i by omega];exact run_firstCells_some (P:=P) _ e.size (l.length - i) ⟨g,i*e.size,none⟩ _ _ seg hsg (fun q u hq=>by
    rw [Dv,cell_of_row _ g (i*e.size+q) c tb (0,0) hcB];exact Fu hseg.symm q u hq)
  have hvsz:(i+vs.length)*e.size+seg.length≤R2.size:=by rw [hsg,hR2s,←Nat.add_mul]; refine Nat.le_trans (Nat.mul_le_mul_right _ ?_) hGsz; omega
  have hB:∀ty,_:=fun ty=>Tr (P:=P) (w:=(w.drew.alloc (.cells R2 (ρ.t 9))).drew) hT hd (ts:=ρ.t 24) (ty:=ty) z9 (g:=w.heap.size) (o:=(i+vs.length)*e.size) (dl:=l.length+vs.length - (i+vs.length)) (dc:=Gc - (i+vs.length)) (by simp [Builtin.lenOf]) hfB
   (c:=R2) (tb:=ρ.t 9) (heap_alloc_new w.drew _) hvsz (RdL.one hr2)
  have:=zs9 L z9 g w.heap.size vb l.length (pl j).cap i vs.length vc Gc w _ _ _ hpos hil hlc (by omega) (by omega) hG1 hG3 hz hA hB;refine this.mono fun x w' hx=>?_
  obtain ⟨rfl,rfl⟩:=hx;simp only;obtain ⟨R3,hR3⟩:∃R3:Array Value,R3=(R2.toList.take ((i+vs.length)*e.size)++seg++R2.toList.drop ((i+vs.length)*e.size+seg.length)).toArray:=⟨_,rfl⟩
  have hR3l:R3.toList=R2.toList.take ((i+vs.length)*e.size)++seg++R2.toList.drop ((i+vs.length)*e.size+seg.length):=by rw [hR3]
  have hw3:(w.drew.alloc (.cells R2 (ρ.t 9))).drew.setRow w.heap.size R3=w.drew.drew.alloc (.cells R3 (ρ.t 9)):=Ns w.drew.drew R2 R3 _;rw [←hR3,hw3];have hR3s:R3.size=Gc*e.size:=by
   have:=congrArg List.length hR3l;simp only [Array.length_toList,List.length_append,List.length_take,List.length_drop] at this;omega
  have e1:R2.toList.take ((i+vs.length)*e.size)=c.toList.take (i*e.size)++news:=by
   have hh:(c.toList.take (i*e.size)++news).length=(i+vs.length)*e.size:=by rw [List.length_append,hsg1,hnl,Nat.add_mul]
   have e0:R1.toList.take (i*e.size)=c.toList.take (i*e.size):=by
    rw [hR1];simp only [Array.toList_append,List.append_assoc];rw [List.take_append_of_le_length (by rw [List.toList_toArray,hsg1]; exact Nat.le_refl _),List.toList_toArray,List.take_take,Nat.min_self]
   rw [hR2l,e0,←hh,List.take_left]
  have e3:R3.toList.take ((l.take i++vs++l.drop i).length*e.size)=c.toList.take (i*e.size)++news++seg:=by
   rw [hR3l,e1];have hh:(c.toList.take (i*e.size)++news++seg).length=(l.take i++vs++l.drop i).length*e.size:=by
    rw [hlen3,him,List.length_append,List.length_append,hsg,hsg1,hnl]
   rw [←hh,List.take_left]
  have hs3:∀b,S b→S b∧w.drew.drew.heap[b]?=w.heap[b]?:=fun b hb=>⟨hb,rfl⟩
  have hs23:∀b,S b→S b∧w.drew.drew.heap[b]?=(w.drew.alloc (.cells R1 (ρ.t 9))).heap[b]?:=fun b hb=>⟨hb,by rw [(hs2 b hb).2]; rfl⟩
  refine ⟨upd pl j ⟨some w.drew.drew.heap.size,0,Gc⟩,S,?_,?_⟩
  ·rw [Af,Ad]
   refine (hI.drew.drew).grownRow (fun b0 hb0=>by rw [hm] at hb0; cases hb0; exact ⟨_,_,_,rfl,Nat.lt_succ_self _⟩) hjn (by rw [hlen3]; exact hG1) hG2 hR3s ?_;rw [e3];exact RdL.append (RdL.append (RdL.mono hs3 hr1) (RdL.mono hs23 hnr)) (RdL.mono hs3 hr2)
  ·rw [Af,Ad]
   exact ⟨e,_,ver+1,false,Ae _ _ _,Nat.le_refl _,fun _=>.inr ⟨w.heap.size,by simp,by rw [hlen3]; simp⟩⟩
end
end Go.PG
namespace Go.PG
open Go.Proofs Go.Shelf Go.RowKit
variable {P:Program} {T:Tab} {ρ:Ren} {fn:Func}
theorem ins_ok (hT:Ax P T) (L:InsL P ρ fn) (hname:(fn.name== "runtime.NumGoroutine")=false) {e:Kd} (hsz:0<e.size) (hkt:tkd T (ρ.t 24)=some (.sl e)) (hd:Bt T (ρ.t 24)=some (.slice (ρ.t 9))) {dd:TyD} (hdd:Hu T (ρ.t 9)=some dd)
  {fo:Func} (hf:P.funcs[ρ.f 29]?=some fo) (hn:(fo.name== "runtime.NumGoroutine")=false) (hb:fo.body.isNone=true) (hx:Extern.findNext fo=none) (hy:Extern.find fo=some (Extern.SlicesOverlaps.overlaps #[ρ.t 24,ρ.t 24] #[ρ.t 4])) {lim:Nat} (hlim:lim=LIMB/dd.bytes) (hl0:(Nat.beq lim 0)=false):
  T5 P (ρ.f 22) e lim:=by
 refine ⟨enters L.f22 hname ?_,⟨fun h=>absurd hl0 (by rw [h]; decide),fun _ C tm me pl S a w j ver l vs i v0 vv hjn hI hm hrow hv hi hl=>?_⟩⟩
 ·obtain ⟨nm,ta,pr,rs,fl,tn,hfn⟩:=L.bd
  rw [hfn]; rfl
 ·refine zs8 hT L hsz hkt hd hdd (fun args w b w' h=>?_) hjn hI hm hrow hv hi (by rw [←hlim]; exact hl)
  rw [run_callFunc_extern hf hn hb hx hy,h];rfl
end Go.PG
namespace Go.PG
section
variable {P:Program}
def zxy {e:Kd} (E:Env (List e.T)) (body:Code) (t:Tmp) (l:List e.T):Option (List e.T):=
 exec E body ⟨[(0,.val (.sl e) l)],[],0⟩ fun x σ=>match x with
  | .exit _=>none
  | _=>match tget σ.tm t with
   | .cap e' l'=>TV.as ⟨.sl e',l'⟩ (.sl e)
   | _=>none
theorem Yf {e:Kd} {E:Env (List e.T)} (hE:Az P E) (hm:P.follows .mixedOrders=true) {f:FuncId} {fn:Func} {body:Code} (hf:P.funcs[f]?=some fn) (hb:fn.body=some body)
  (hnp:E.np=0) (hntf:fn.ntmps=E.nt) {t:Tmp} (hres:fn.results.toList=[.tmp t]) (hle:1≤E.nt.n) (hl:Am body=[]) {l:List e.T} (h:zxy E body t l=some l)
  (w:World) (S:Nat→Prop) (v:Value) (hS:∀b,S b→b<w.heap.size) (hv:VRd S w (.sl e) l v):
  Calls P f #[v] w fun
   | .returned u,w'=>∃S':Nat→Prop,(∀b,S b→S' b)∧(∀b,S' b→b<w'.heap.size∧(S b∨w.heap.size≤b))∧FrameOK w [] w'∧VRd S' w' (.sl e) l u∧∃a n,u=.slice a n n
   | _,_=>False:=by
 unfold zxy at h;obtain ⟨ex,σ,h1,_,h2⟩:=B0 hE hm body (by rw [hl]; intro l hl; cases hl) _ _ _ h;have h1':(ex=.normal∨ex=.ret)∧tget σ.tm t=.cap e l:=by
  have main:(match tget σ.tm t with
   | .cap e' l'=>TV.as ⟨.sl e',l'⟩ (.sl e)
   | _=>none)=some l→tget σ.tm t=.cap e l:=by
   intro h1;split at h1<;>try (cases h1; done)
   rename_i e' l' hl';have:=TV.as_some h1;cases this;exact hl'
  cases ex with
  | exit i=>simp at h1
  | normal=>exact ⟨.inl rfl,main h1⟩
  | ret=>exact ⟨.inr rfl,main h1⟩
 obtain ⟨he,htm⟩:=h1';refine calls_of_wp hf hb ((wpIn_wide (n:=0)).1 ?_)
 let C:Ctx:=⟨w,S,E.nt,[],fun _ _=>False,fun _=>False,none,[],undef⟩
 let pl:Nat→Plc:=fun _=>⟨none,0,0⟩
 refine h2 C hnp rfl (fun _ _ _ h=>h.elim) (bodyPost P fn _) (fun pl' S' a' w' hI'=>?_) pl S _ w ?_
 ·have hG:=hI'.tms t
  rw [htm] at hG;obtain ⟨q1,q2⟩:=hG;have hrun:=Ct (P:=P) (w:=w') (fn:=fn) (res:=[(.tmp t,0,false)]) (by rw [hres]; rfl) (vs:=[a'.tmps.getD t undef]) ⟨[],rfl,rfl⟩;have hpost:∃S'':Nat→Prop,(∀b,S b→S'' b)∧(∀b,S'' b→b<w'.heap.size∧(S b∨w.heap.size≤b))∧FrameOK w [] w'∧VRd S'' w' (.sl e) l (G9 [a'.tmps.getD t undef])∧∃a n,G9 [a'.tmps.getD t undef]=.slice a n n:=
   ⟨S',hI'.s0,fun b hb=>⟨(hI'.sfr b hb).1,(hI'.sfr b hb).2.imp id (fun h=>h.resolve_right id)⟩,hI'.fr,q1,q2⟩
  rcases he with rfl | rfl
  ·exact ⟨hI'.df,_,hrun,hpost⟩
  ·exact ⟨hI'.df,_,hrun,hpost⟩
 ·refine ⟨?_,rfl,fun t=>?_,fun i b hi=>(by cases hi),fun i b hi=>(by cases hi),fun i j bi bj g _ hi=>(by cases hi),fun _ h=>h,fun b hb=>⟨hS b hb,.inl hb⟩,⟨rfl,rfl,rfl,Nat.le_refl _,fun _ _ _ _=>rfl,fun e he _=>(by cases he)⟩,fun e he=>(by cases he),fun _ _ h=>h.elim⟩
  ·refine ⟨?_,fun d hd=>?_⟩
   ·have hnn:E.nt.n=fn.ntmps:=by rw [←hntf]
    simp only [Array.size_append,Array.size_replicate,C,List.size_toArray,List.length_cons,List.length_nil];omega
   ·have hd':E.nt.rd=some d:=hd
    rw [←hntf] at hd'; cases hd'
  ·show G S w (mget []) pl (tget [(0,.val (.sl e) l)] t) _
   cases t with
   | zero=>
    have e1:(#[v]++Array.replicate (fn.ntmps - #[v].size) undef).getD 0 undef=v:=by
     rw [Array.getD_eq_getD_getElem?,Array.getElem?_append_left (by simp)];simp
    rw [e1];exact hv
   | succ t=>exact trivial
theorem clip_ok {e:Kd} {E:Env (List e.T)} (hE:Az P E) (hm:P.follows .mixedOrders=true) {f:FuncId} {fn:Func} {body:Code} (hf:P.funcs[f]?=some fn) (hb:fn.body=some body) (hname:(fn.name== "runtime.NumGoroutine")=false)
  (hnp:E.np=0) (hntf:fn.ntmps=E.nt) {t:Tmp} (hres:fn.results.toList=[.tmp t]) (hle:1≤E.nt.n) (hl:Am body=[])
  (heq:∀l,zxy E body t l=(match decide ((List.length l:Int)=(List.length l:Int)∧(0:Int)≤(List.length l:Int)∧(List.length l:Int)≤(List.length l:Int)) with | true=>some (List.take (Int.toNat (List.length l:Int)) l) | false=>none)):
  T5 P f e 0:=
 ⟨enters hf hname (by rw [hb]; rfl),fun _ w S l v hS hv=>Yf hE hm hf hb hnp hntf hres hle hl (by
  rw [heq l];have:decide ((List.length l:Int)=(List.length l:Int)∧(0:Int)≤(List.length l:Int)∧(List.length l:Int)≤(List.length l:Int))=true:=by simp
  rw [this];simp) w S v hS hv,fun h=>absurd rfl h⟩
end
end Go.PG
namespace Go.PG
def cP (R:Type):Ins→Type
 | []=>Option R
 | (true,k)::l=>k.T→cP R l
 | (false,_)::l=>cP R l
def cK (R:Type) (ins:Ins):Ins→Type
 | []=>cP R ins
 | (b,k)::l=>RT1 b k→cK R ins l
def cA (R:Type) (K:Type):Ins→Type
 | []=>K→Option R
 | (_,k)::l=>k.T→cA R K l
def pP (R:Type):(l:Ins)→(PT l→Option R)→cP R l
 | [],f=>f ()
 | (true,_)::l,f=>fun x=>pP R l fun y=>f (x,y)
 | (false,_)::l,f=>pP R l f
def pK (R:Type) (ins:Ins):(l:Ins)→(RT l→PT ins→Option R)→cK R ins l
 | [],f=>pP R ins (f ())
 | (_,_)::l,f=>fun x=>pK R ins l fun y=>f (x,y)
def pA (R:Type) (K:Type):(l:Ins)→cA R K l→AT l→K→Option R
 | [],f,_=>f
 | (_,_)::l,f,x=>pA R K l (f x.1) x.2
def eM (f:FuncId) (ins outs:Ins) (F:(R:Type)→cA R (cK R ins outs) ins):Ent:=
 ⟨f,ins,outs,fun R x k=>pA R _ ins (F R) x (pK R ins outs k)⟩
def vI (l:List Kd):Ins:=l.map fun k=>(false,k)
def eV (f:FuncId) (ins outs:List Kd) (F:(R:Type)→cA R (cK R (vI ins) (vI outs)) (vI ins)):Ent:=eM f (vI ins) (vI outs) F
def cH (K:Type):List HI→Type
 | []=>K
 | .val _ k::l=>k.T→cH K l
 | .fix _ _::l=>cH K l
 | .var _ k _::l=>k.T→cH K l
 | .row _ e _::l=>List e.T→cH K l
 | .mix _ fl::l=>MT fl→cH K l
 | .map _ kk kv::l=>List (kk.T×kv.T)→cH K l
def aH (K:Type):(H:List HI)→cH K H→HT H→K
 | [],f,_=>f
 | .val _ _::l,f,x=>aH K l (f x.1) x.2
 | .fix _ _::l,f,x=>aH K l f x
 | .var _ _ _::l,f,x=>aH K l (f x.1) x.2
 | .row _ _ _::l,f,x=>aH K l (f x.1) x.2
 | .mix _ _::l,f,x=>aH K l (f x.1) x.2
 | .map _ _ _::l,f,x=>aH K l (f x.1) x.2
def lH (K:Type):(H:List HI)→(HT H→K)→cH K H
 | [],f=>f ()
 | .val _ _::l,f=>fun x=>lH K l fun y=>f (x,y)
 | .fix _ _::l,f=>lH K l f
 | .var _ _ _::l,f=>fun x=>lH K l fun y=>f (x,y)
 | .row _ _ _::l,f=>fun x=>lH K l fun y=>f (x,y)
 | .mix _ _::l,f=>fun x=>lH K l fun y=>f (x,y)
 | .map _ _ _::l,f=>fun x=>lH K l fun y=>f (x,y)
def cE (R:Type):Exs→Type
 | []=>Option R
 | (_,h)::l=>cH (Option R) h→cE R l
def aE (R:Type):(l:Exs)→cE R l→KT R l→Option R
 | [],f,_=>f
 | (_,h)::l,f,k=>aE R l (f (lH (Option R) h k.1)) k.2
def lM (id:Nat) (H:List HI) (nx:Nat) (exs:Exs) (L:(R:Type)→cH (cE R exs) H):LEnt:=
 ⟨id,H,nx,exs,fun R x ke=>aE R exs (aH _ H (L R) x) ke⟩
def EQ (en:Ent) (E:(R:Type)→Env R) (fn:Func) (res:List (ResultVar×TypeId×Bool)):Prop:=
 ∀R x k,xfun (E R) (Ag fn) res (avs en.ins x) (finK en.outs en.ins k)=en.F R x k
def LEQ (le:LEnt) (E:(R:Type)→Env R) (fn:Func) (p:(R:Type)→cH (cE R ((.normal,le.H)::le.exs)) le.H):Prop:=
 ∀R x kc ke,exec (E R) (Cd le.id (Ag fn)) (stOf le.H x le.nx) (Ni le.H le.exs kc ke)=aE R ((.normal,le.H)::le.exs) (aH _ le.H (p R) x) (kc,ke)
def mE (T:Tab) (eqt:List Nat) (np nt:Nat) (own:List (Nat×Nat)) (ents:List Ent) (les:List LEnt) (R:Type):Env R:=
 ⟨T,eqt,np,nt,Bm own,Bd ents R,Bl les R,[],Bc [],[],fun _ _ _ _=>none⟩
def resB:List ResultVar→List (ResultVar×TypeId×Bool)→Bool
 | [],[]=>true
 | .tmp t::l,(.tmp t',_)::m=>Nat.beq t t'&&resB l m
 | .cell t k::l,(.cell t' k',_)::m=>Nat.beq t t'&&Nat.beq k k'&&resB l m
 | _,_=>false
theorem Yq:∀{l:List ResultVar} {m:List (ResultVar×TypeId×Bool)},resB l m=true→l=m.map (·.1)
 | [],[],_=>rfl
 | .tmp t::l,(.tmp t',_)::m,h=>by
  simp only [resB,Bool.and_eq_true] at h;rw [List.map_cons,←Yq h.2,Nat.eq_of_beq_eq_true h.1]
 | .cell t k::l,(.cell t' k',_)::m,h=>by
  simp only [resB,Bool.and_eq_true] at h;rw [List.map_cons,←Yq h.2,Nat.eq_of_beq_eq_true h.1.1,Nat.eq_of_beq_eq_true h.1.2]
 | .tmp _::_,(.cell _ _,_)::_,h=>by cases h
 | .cell _ _::_,(.tmp _,_)::_,h=>by cases h
 | [],_::_,h=>by cases h
 | .tmp _::_,[],h=>by cases h
 | .cell _ _::_,[],h=>by cases h
def ptrs:Ins→Nat
 | []=>0
 | (true,_)::l=>Nat.succ (ptrs l)
 | (false,_)::l=>ptrs l
theorem Ys:∀{l:Ins} (x:AT l),nptr (avs l x)=ptrs l
 | [],_=>rfl
 | (true,k)::l,x=>by
  have:=Ys (l:=l) x.2;simp only [avs,nptr,ptrs,this]
 | (false,k)::l,x=>by
  have:=Ys (l:=l) x.2;simp only [avs,nptr,ptrs,this]
theorem zly:∀{l:Ins} (x:AT l),(avs l x).length=l.length
 | [],_=>rfl
 | (b,k)::l,x=>by simp only [avs,List.length_cons,zly (l:=l) x.2]
def fnB (fn:Func) (np nt:Nat) (res:List (ResultVar×TypeId×Bool)) (ins:Ins):Bool:=
 fn.body.isSome&& !(fn.name== "runtime.NumGoroutine")&&Nat.beq fn.ntmps nt&&resB fn.results.toList res&&Nat.beq (ptrs ins) np&&Nat.ble ins.length nt
structure Seat (P:Program) (T:Tab) (eqt:List Nat):Prop where
 tab:Ax P T
 eq:∀t∈eqt,∀k,tkd T t=some k→EqOK P t k
 mixed:P.follows .mixedOrders=true
def LL (P:Program) (np nt:Nat) (les:List LEnt) (body:Code):List Nat→Prop
 | []=>True
 | i::ids=>(∃e,zru les (E9 (Cd i body))=some e∧e.OK P np nt (Cd i body))∧LL P np nt les body ids
section
variable {P:Program} {T:Tab} {eqt:List Nat}
theorem LL.ok {E:(R:Type)→Env R} {les:List LEnt} {np nt:Nat} (hnp:∀R,(E R).np=np) (hnt:∀R,(E R).nt=nt) (hlo:∀R,(E R).loop=Bl les R) {body:Code}:
  ∀{ids:List Nat} {cs:List Code},LL P np nt les body ids→cs=ids.map (Cd · body)→∀R,∀l∈cs,Dk (E R) P l
 | [],cs,_,h,R,l,hl=>by rw [h] at hl; cases hl
 | i::ids,cs,⟨⟨e,h1,h2⟩,h3⟩,h,R,l,hl=>by
  rw [h,List.map_cons] at hl;rcases List.mem_cons.1 hl with rfl | hl
  ·exact Hb (hlo R) h1 (by rw [hnp,hnt]; exact h2)
  ·exact LL.ok hnp hnt hlo h3 rfl R l hl
theorem Seat.ok2 (S:Seat P T eqt) {en:Ent} {E:(R:Type)→Env R} {fn:Func} {res:List (ResultVar×TypeId×Bool)} (q:EQ en E fn res) (hE:∀R,Az P (E R)) (hf:P.funcs[en.f]?=some fn)
  {np nt:Nat} (hnp:∀R,(E R).np=np) (hnt:∀R,(E R).nt=nt) (hB:fnB fn np nt res en.ins=true) (hl:∀R,∀l∈Am (Ag fn),Dk (E R) P l):en.OK P:=by
 simp only [fnB,Bool.and_eq_true,Bool.not_eq_true'] at hB;obtain ⟨⟨⟨⟨⟨h1,h2⟩,h3⟩,h4⟩,h5⟩,h6⟩:=hB;obtain ⟨body,hb⟩:=Option.isSome_iff_exists.1 h1;have hcb:Ag fn=body:=by unfold Ag; rw [hb]; rfl
 exact ent_ok hE S.mixed hf (body:=Ag fn) (by rw [hcb]; exact hb) h2 hnp hnt (Nat.eq_of_beq_eq_true h3) (Yq h4) (fun x=>by rw [Ys]; exact Nat.eq_of_beq_eq_true h5) (fun x=>by rw [zly]; exact Nat.le_of_ble_eq_true h6) hl q
theorem Seat.env (S:Seat P T eqt) {np nt:Nat} {own:List (Nat×Nat)} {ents:List Ent} {les:List LEnt} (he:∀e∈ents,e.OK P) (R:Type):Az P (mE T eqt np nt own ents les R):=
 ⟨S.tab,S.eq,Aq he,Bw,Ak,noYl⟩
theorem Seat.ok0 (S:Seat P T eqt) {en:Ent} {fn:Func} {np nt:Nat} {own:List (Nat×Nat)} {ents:List Ent} {res:List (ResultVar×TypeId×Bool)} (q:EQ en (mE T eqt np nt own ents []) fn res) (he:∀e∈ents,e.OK P)
  (hf:P.funcs[en.f]?=some fn) (hB:(fnB fn np nt res en.ins&&zkc (Am (Ag fn)))=true:=by kernel_rfl):en.OK P:=by
 rw [Bool.and_eq_true] at hB;refine S.ok2 q (S.env he) hf (fun _=>rfl) (fun _=>rfl) hB.1 (fun R l hl=>?_);cases hn:Am (Ag fn) with
 | nil=>rw [hn] at hl; cases hl
 | cons _ _=>rw [hn] at hB; cases hB.2
theorem Seat.ok1 (S:Seat P T eqt) {en:Ent} {fn:Func} {np nt:Nat} {own:List (Nat×Nat)} {ents:List Ent} {les:List LEnt} {res:List (ResultVar×TypeId×Bool)} (q:EQ en (mE T eqt np nt own ents les) fn res) (he:∀e∈ents,e.OK P)
  (hf:P.funcs[en.f]?=some fn) (ids:List Nat) (hl:LL P np nt les (Ag fn) ids) (hB:fnB fn np nt res en.ins=true:=by kernel_rfl) (hi:Am (Ag fn)=ids.map (Cd · (Ag fn)):=by kernel_rfl):en.OK P:=
 S.ok2 q (S.env he) hf (fun _=>rfl) (fun _=>rfl) hB (hl.ok (fun _=>rfl) (fun _=>rfl) (fun _=>rfl) hi)
theorem Seat.lok2 (S:Seat P T eqt) {id:Nat} {H:List HI} {nx:Nat} {exs:Exs} {G:Nat→(R:Type)→cH (cE R exs) H} {p:(R:Type)→cH (cE R ((.normal,H)::exs)) H} {E:(R:Type)→Env R} {fn:Func} {np nt:Nat}
  (q:LEQ (lM id H nx exs (G FUEL)) E fn p) (hE:∀R,Az P (E R)) (hnp:∀R,(E R).np=np) (hnt:∀R,(E R).nt=nt) (hl:∀R,∀l∈Am (Cd id (Ag fn)),Dk (E R) P l)
  (h0:∀R x ke,aE R exs (aH _ H (G 0 R) x) ke=none) (hs:∀n R x ke,aE R exs (aH _ H (G (n+1) R) x) ke=aE R ((.normal,H)::exs) (aH _ H (p R) x) (fun x'=>aE R exs (aH _ H (G n R) x') ke,ke)) (hv:(mvOK np H&&exs.all fun p=>mvOK np p.2)=true):
  (lM id H nx exs (G FUEL)).OK P np nt (Cd id (Ag fn)):=by
 have key:∀(n:Nat) (R:Type) (x:HT H) (ke:KT R exs),iter (fun R x kc ke=>aE R ((.normal,H)::exs) (aH _ H (p R) x) (kc,ke)) n R x ke=aE R exs (aH _ H (G n R) x) ke:=by
  intro n
  induction n with
  | zero=>intro R x ke; exact (h0 R x ke).symm
  | succ n ih=>
   intro R x ke;simp only [iter];rw [hs,show (fun x'=>iter (fun R x kc ke=>aE R ((.normal,H)::exs) (aH _ H (p R) x) (kc,ke)) n R x' ke)=fun x'=>aE R exs (aH _ H (G n R) x') ke from funext fun x'=>ih R x' ke]
 exact ⟨⟨fun sv h=>(by cases h),(K0 hv).1⟩,fun R x ke r h=>D9 E np nt hnp hnt hE S.mixed hl (fun sv h=>(by cases h)) (K0 hv) (T:=fun R x kc ke=>aE R ((.normal,H)::exs) (aH _ H (p R) x) (kc,ke)) q FUEL R x ke r ((key FUEL R x ke).trans h)⟩
theorem Seat.lok (S:Seat P T eqt) {id:Nat} {H:List HI} {nx:Nat} {exs:Exs} {G:Nat→(R:Type)→cH (cE R exs) H} {p:(R:Type)→cH (cE R ((.normal,H)::exs)) H} {fn:Func} {np nt:Nat} {own:List (Nat×Nat)} {ents:List Ent} {les:List LEnt}
  (q:LEQ (lM id H nx exs (G FUEL)) (mE T eqt np nt own ents les) fn p) (he:∀e∈ents,e.OK P) (ids:List Nat) (hl:LL P np nt les (Ag fn) ids) (hi:Am (Cd id (Ag fn))=ids.map (Cd · (Ag fn)):=by kernel_rfl)
  (h0:∀R x ke,aE R exs (aH _ H (G 0 R) x) ke=none:=by intro _ _ _; kernel_rfl) (hs:∀n R x ke,aE R exs (aH _ H (G (n+1) R) x) ke=aE R ((.normal,H)::exs) (aH _ H (p R) x) (fun x'=>aE R exs (aH _ H (G n R) x') ke,ke):=by intro _ _ _ _; kernel_rfl) (hv:(mvOK np H&&exs.all fun p=>mvOK np p.2)=true:=by kernel_rfl):
  (lM id H nx exs (G FUEL)).OK P np nt (Cd id (Ag fn)):=
 S.lok2 q (S.env he) (fun _=>rfl) (fun _=>rfl) (hl.ok (fun _=>rfl) (fun _=>rfl) (fun _=>rfl) hi) h0 hs hv
theorem Seat.ok3 (S:Seat P T eqt) {en:Ent} {E:(R:Type)→Env R} {fn:Func} {res:List (ResultVar×TypeId×Bool)} (q:EQ en E fn res) (hE:∀R,Az P (E R)) (hf:P.funcs[en.f]?=some fn)
  {np nt:Nat} {les:List LEnt} (hnp:∀R,(E R).np=np) (hnt:∀R,(E R).nt=nt) (hlo:∀R,(E R).loop=Bl les R) (ids:List Nat) (hl:LL P np nt les (Ag fn) ids) (hB:fnB fn np nt res en.ins=true:=by kernel_rfl) (hi:Am (Ag fn)=ids.map (Cd · (Ag fn)):=by kernel_rfl):en.OK P:=
 S.ok2 q hE hf hnp hnt hB (hl.ok hnp hnt hlo hi)
theorem Seat.lok3 (S:Seat P T eqt) {id:Nat} {H:List HI} {nx:Nat} {exs:Exs} {G:Nat→(R:Type)→cH (cE R exs) H} {p:(R:Type)→cH (cE R ((.normal,H)::exs)) H} {E:(R:Type)→Env R} {fn:Func} {np nt:Nat} {les:List LEnt}
  (q:LEQ (lM id H nx exs (G FUEL)) E fn p) (hE:∀R,Az P (E R)) (hnp:∀R,(E R).np=np) (hnt:∀R,(E R).nt=nt) (hlo:∀R,(E R).loop=Bl les R) (ids:List Nat) (hl:LL P np nt les (Ag fn) ids) (hi:Am (Cd id (Ag fn))=ids.map (Cd · (Ag fn)):=by kernel_rfl)
  (h0:∀R x ke,aE R exs (aH _ H (G 0 R) x) ke=none:=by intro _ _ _; kernel_rfl) (hs:∀n R x ke,aE R exs (aH _ H (G (n+1) R) x) ke=aE R ((.normal,H)::exs) (aH _ H (p R) x) (fun x'=>aE R exs (aH _ H (G n R) x') ke,ke):=by intro _ _ _ _; kernel_rfl) (hv:(mvOK np H&&exs.all fun p=>mvOK np p.2)=true:=by kernel_rfl):
  (lM id H nx exs (G FUEL)).OK P np nt (Cd id (Ag fn)):=
 S.lok2 q hE hnp hnt (hl.ok hnp hnt hlo hi) h0 hs hv
end
end Go.PG
namespace Go.PG
section
variable {C:Ctx} {tm:Nat→SV} {me:Nat→Option Blk} {pl:Nat→Plc} {S:Nat→Prop} {a:Act} {w:World} {P:Program}
theorem Rb (h:Inv C tm me pl S a w) {l:Nat} {rec:Loop} (hl:w.heap[l]?=some (.loop rec)) {i:Nat} {b:Blk} (hi:me i=some b) {g:Nat} (hg:(pl i).g=some g):g≠l:=by
 intro e;subst e;have hb:=h.mem i b hi;cases b with
 | var k x sh=>
  obtain ⟨g',c,t,h1,h2,_⟩:=hb;rw [hg] at h1; cases h1; rw [hl] at h2; cases h2
 | row e l v sh=>
  rcases hb with ⟨h1,_⟩ | ⟨g',c,t,h1,_,h2,_⟩
  ·rw [hg] at h1; cases h1
  ·rw [hg] at h1; cases h1; rw [hl] at h2; cases h2
 | mix fs cs=>
  obtain ⟨g',c,t,h1,_,h2,_⟩:=hb;rw [hg] at h1; cases h1; rw [hl] at h2; cases h2
 | map kk kv m=>
  obtain ⟨g',c,t,h1,_,h2,_⟩:=hb;rw [hg] at h1; cases h1; rw [hl] at h2; cases h2
theorem Inv.putLoop (h:Inv C tm me pl S a w) {l:Nat} {rec:Loop} (hl:w.heap[l]?=some (.loop rec)) (rec':Loop) (hs:¬S l) (h0:l<C.w0.heap.size) (hpp:C.pp=[]) (hrd:C.nt.rd=none):
  Inv {C with w0:=C.w0.putObj l (.loop rec')} tm me pl S a (w.putObj l (.loop rec')):=by
 have hb:∀b,b≠l→(w.putObj l (.loop rec')).heap[b]?=w.heap[b]?:=fun b hb=>World.putObj_heap_other hb
 have hK:Keeps S w me pl S (w.putObj l (.loop rec')) me pl:=⟨fun b hb'=>⟨hb',hb b (fun e=>hs (e ▸ hb'))⟩,fun i b hi=>⟨b,hi,Compat.refl _ _⟩⟩
 refine ⟨⟨h.nt.1,fun d hd=>by rw [show ({C with w0:=C.w0.putObj l (.loop rec')}:Ctx).nt=C.nt from rfl,hrd] at hd; cases hd⟩,h.df,fun t=>(h.tms t).keeps hK,fun i b hi=>?_,fun i b hi=>?_,h.dis,h.s0,fun b hb'=>?_,?_,h.pd,fun sv v hg=>(h.gho sv v hg).keeps hK⟩
 ·exact (h.mem i b hi).keeps hK (fun g hg=>hb g (Rb h hl hi hg)) (fun g _ _=>Iff.rfl)
 ·intro g hg
  have:=h.plcs i b hi g hg;unfold Ctx.own at this ⊢;simpa using this
 ·have:=h.sfr b hb'
  simpa using this
 ·refine ⟨h.fr.os,h.fr.tape,h.fr.output,by simpa using h.fr.size,fun b hb' hn ho=>?_,fun e he=>?_⟩
  ·by_cases e:b=l
   ·subst e
    rw [World.putObj_heap_same (by have:=h.fr.size; omega),World.putObj_heap_same h0]
   ·rw [World.putObj_heap_other e,World.putObj_heap_other e]
    exact h.fr.block b (by simpa using hb') hn ho
  ·have he':e∈C.pp:=he
   rw [hpp] at he'; cases he'
def zhf:List Tmp→List SV→List (Nat×SV)→List (Nat×SV)
 | p::ps,s::svs,tm=>zhf ps svs ((p,s)::tm)
 | _,_,tm=>tm
theorem O0 {me:Nat→Option Blk}:∀(ps:List Tmp) (svs:List SV) (vs:List Value) (tm0:List (Nat×SV)) (ts:Array Value),SVL S w me pl svs vs→svs.length=ps.length→(∀p∈ps,p<ts.size)→
  (∀t,G S w me pl (tget tm0 t) (ts.getD t undef))→
  ((ps.zip vs).foldl (fun ts (p:Tmp×Value)=>ts.setIfInBounds p.1 p.2) ts).size=ts.size∧∀t,G S w me pl (tget (zhf ps svs tm0) t) (((ps.zip vs).foldl (fun ts (p:Tmp×Value)=>ts.setIfInBounds p.1 p.2) ts).getD t undef)
 | [],[],vs,tm0,ts,hA,_,_,h=>by
  have hv:vs=[]:=hA;subst hv;exact ⟨rfl,h⟩
 | p::ps,s::svs,vs,tm0,ts,hA,hl,hp,h=>by
  obtain ⟨v,vs',rfl,hg,hA'⟩:=hA;have:=O0 ps svs vs' ((p,s)::tm0) (ts.setIfInBounds p v) hA' (by simpa using hl) (fun q hq=>by simpa using hp q (by simp [hq])) (fun t=>?_)
  ·simp only [List.zip_cons_cons,List.foldl_cons,zhf]
   exact ⟨by rw [this.1]; simp,this.2⟩
  ·have hps:=hp p (by simp)
   rw [Ba]
   by_cases e:t=p
   ·subst e
    rw [Ae,Array.getD_eq_getD_getElem?,Array.getElem?_setIfInBounds_self_of_lt hps];exact hg
   ·rw [Ac _ _ e,Array.getD_eq_getD_getElem?,Array.getElem?_setIfInBounds_ne (Ne.symm e),←Array.getD_eq_getD_getElem?]
    exact h t
 | [],_::_,_,_,_,_,hl,_,_=>by cases hl
 | _::_,[],_,_,_,_,hl,_,_=>by cases hl
theorem SVL.length {me:Nat→Option Blk}:∀{svs:List SV} {vs:List Value},SVL S w me pl svs vs→vs.length=svs.length
 | [],vs,h=>by have hv:vs=[]:=h; rw [hv]; rfl
 | _::_,_,⟨_,_,rfl,_,h⟩=>by simp [SVL.length h]
end
def zgz {R:Type} (Er:Env R) (tm0:List (Nat×SV)) (d:RD) (svs:List SV) (me:List (Nat×Blk)) (nx:Nat) (K:List (Nat×Blk)→Nat→Option R):Option R:=
 match Nat.beq svs.length d.ps.length with
 | true=>exec Er (.seq d.as d.bd) ⟨zhf d.ps svs tm0,me,nx⟩ fun e σ=>match e with
  | .normal=>K σ.me σ.nx
  | _=>none
 | false=>none
theorem zq6 {w:World} {l:Nat} {o o':Obj} (h:w.heap[l]?=some o):(w.putObj l o').putObj l o=w:=by
 have:((w.heap.setIfInBounds l o').setIfInBounds l o)=w.heap:=by
  apply Array.ext
  ·simp
  ·intro i h1 h2
   by_cases e:l=i
   ·subst e
    rw [Array.getElem_setIfInBounds_self];have:=Array.getElem?_eq_getElem h2;rw [h] at this;exact Option.some.inj this
   ·rw [Array.getElem_setIfInBounds_ne _ e,Array.getElem_setIfInBounds_ne _ e]
    simpa using h2
 unfold World.putObj;simp only [this]
theorem zgy {R:Type} {P:Program} {Er:Env R} (hE:Az P Er) (hm:P.follows .mixedOrders=true) {d:RD} {tm0:List (Nat×SV)} (htm:d.tm=tget tm0) (hntr:Er.nt=(d.nt:NT)) (hps:∀p∈d.ps,p<d.nt)
  (hla:Am d.as=[]) (hlb:Am d.bd=[]) {np:Nat} {nt:NT} (hnp:Er.np=np) (hrd:nt.rd=some d):YlOK P np nt (zgz Er tm0 d):=by
 intro svs me nx K r h;unfold zgz at h;split at h<;>try (cases h; done)
 rename_i hlen;have hlen:=Nat.eq_of_beq_eq_true hlen;simp only [exec] at h;obtain ⟨e1,σ1,h1,hx1,hL1⟩:=B0 hE hm d.as (by rw [hla]; intro l hl; cases hl) _ _ _ h;cases e1 with
 | exit i=>cases h1
 | ret=>cases h1
 | normal=>
 obtain ⟨e2,σ2,h2,hx2,hL2⟩:=B0 hE hm d.bd (by rw [hlb]; intro l hl; cases hl) _ _ _ h1;cases e2 with
 | exit i=>cases h2
 | ret=>cases h2
 | normal=>
 obtain ⟨n1,q1⟩:=hx1 hla;obtain ⟨n2,q2⟩:=hx2 hlb;refine ⟨σ2.me,σ2.nx,h2,⟨n2++n1,by rw [q2,q1,List.append_assoc]⟩,fun C tm pl S a w vs hnp' hnt' hI hA=>?_⟩;obtain ⟨l,rec,e1,hl0,hst,hpe,hpar,has,hbd,hsz,hS0,how,hpp,hgy,hgh⟩:=hI.nt.2 d (by rw [←hnt']; exact hrd);have hlt:l<C.w0.heap.size:=(Array.getElem?_eq_some_iff.1 hl0).1;have hl:w.heap[l]?=some (.loop rec):=(hI.fr.block l hlt (by rw [hpp]; intro e he; cases he) how).trans hl0;have hvl:=SVL.length hA;have hpz:rec.params.size=d.ps.length:=by rw [←hpar]; simp
 refine ⟨l,rec.fn,_,rec.assign,rec.body,e1,⟨d,hrd,hgy⟩,run_yield hl (by rw [hpz]; simp; omega),?_⟩;rw [has,hbd];refine roundIn_of_wpIn (F:=Fence.wide) trivial ?_;have hts:(rec.params.zip vs.toArray).foldl (fun (tmps:Array Value) (x:Tmp×Value)=>match x with | (t,a)=>tmps.setIfInBounds t a) rec.tmps=(d.ps.zip vs).foldl (fun ts (p:Tmp×Value)=>ts.setIfInBounds p.1 p.2) rec.tmps:=by
  rw [←Array.foldl_toList,Array.toList_zip,hpar]
 obtain ⟨z1,z2⟩:=O0 (S:=S) (w:=w) (pl:=pl) d.ps svs vs tm0 rec.tmps hA hlen (by rw [hsz]; exact hps) (fun t=>by rw [←htm]; exact hI.gho _ _ (hgh t))
 let Ca:Ctx:=⟨C.w0,C.S0,(d.nt:NT),C.pp,fun sv v=>C.gh sv v∨∃t,sv=tm t∧v=a.tmps.getD t undef,C.ow,some l,[],undef⟩
 have hIa:Inv Ca (tget (zhf d.ps svs tm0)) (mget me) pl S ⟨(d.ps.zip vs).foldl (fun ts (p:Tmp×Value)=>ts.setIfInBounds p.1 p.2) rec.tmps,[]⟩ w:=by
  refine ⟨⟨z1.trans hsz,fun d' hd=>by cases hd⟩,rfl,z2,hI.mem,hI.plcs,hI.dis,hI.s0,hI.sfr,hI.fr,hI.pd,fun sv v hg=>?_⟩;rcases hg with hg | ⟨t,rfl,rfl⟩
  ·exact hI.gho sv v hg
  ·exact hI.tms t
 rw [show ({tmps:=(rec.params.zip vs.toArray).foldl (fun (tmps:Array Value) (x:Tmp×Value)=>match x with | (t,a)=>tmps.setIfInBounds t a) rec.tmps,defers:=[]}:Act)=⟨(d.ps.zip vs).foldl (fun ts (p:Tmp×Value)=>ts.setIfInBounds p.1 p.2) rec.tmps,[]⟩ by rw [hts]];refine hL1 Ca (hnp.trans hnp') hntr (fun hl'=>absurd hla hl') _ (fun pl1 S1 a1 w1 hI1=>?_) pl S _ w hIa;have hl1:w1.heap[l]?=some (.loop rec):=(hI1.fr.block l hlt (by show ∀e∈C.pp,_; rw [hpp]; intro e he; cases he) how).trans hl0;have hnS:¬S1 l:=fun hh=>by
  rcases (hI1.sfr l hh).2 with q | q | q
  ·exact hS0 q
  ·exact absurd q (by show ¬C.w0.heap.size≤l; omega)
  ·exact how q
 refine ⟨_,run_beginRound hl1 hst,?_⟩;have hIb:=hI1.putLoop hl1 {rec with state:=.busy} hnS hlt hpp rfl;refine hL2 {Ca with w0:=Ca.w0.putObj l (.loop {rec with state:=.busy})} (hnp.trans hnp') hntr (fun hl'=>absurd hlb hl') _ (fun pl2 S2 a2 w3 hI2=>?_) pl1 S1 a1 _ hIb;have hl3:w3.heap[l]?=some (.loop {rec with state:=.busy}):=
  (hI2.fr.block l (by simpa using hlt) (by show ∀e∈C.pp,_; rw [hpp]; intro e he; cases he) how).trans (World.putObj_heap_same hlt)
 have hnS2:¬S2 l:=fun hh=>by
  rcases (hI2.sfr l hh).2 with q | q | q
  ·exact hS0 q
  ·exact absurd q (by show ¬(C.w0.putObj l _).heap.size≤l; simp; omega)
  ·exact how q
 have hI3:=hI2.putLoop hl3 rec hnS2 (by simpa using hlt) hpp rfl;have hback:(Ca.w0.putObj l (.loop {rec with state:=.busy})).putObj l (.loop rec)=C.w0:=zq6 hl0;have hrec:({({rec with state:=.busy}:Loop) with state:=if (none:Option Code).isNone then .ready else .done,pending:=none}:Loop)=rec:=by
  cases rec;simp only at hst hpe;subst hst hpe;rfl
 refine ⟨_,_,run_endRound none hl3,rfl,pl2,S2,?_⟩;rw [hrec];simp only [hback] at hI3;exact ⟨hI.nt,hI.df,fun t=>hI3.gho _ _ (.inr ⟨t,rfl,rfl⟩),hI3.mem,hI3.plcs,hI3.dis,hI3.s0,hI3.sfr,hI3.fr,hI3.pd,fun sv v hg=>hI3.gho sv v (.inl hg)⟩
end Go.PG
namespace Go.PG
section
variable {C:Ctx} {tm:Nat→SV} {me:Nat→Option Blk} {pl:Nat→Plc} {S:Nat→Prop} {a:Act} {w:World} {P:Program}
theorem Inv.mark (h:Inv C tm me pl S a w) {i:Nat} (hi:me i=none) (l:Nat) (k:Kd):Inv C tm (upd me i (some (.row k [] 0 false))) (upd pl i ⟨none,l,0⟩) S a w:=by
 have hK:Keeps S w me pl S w (upd me i (some (.row k [] 0 false))) (upd pl i ⟨none,l,0⟩):=by
  refine ⟨fun b hb=>⟨hb,rfl⟩,fun j b hj=>?_⟩;have e:j≠i:=fun e=>by subst e; rw [hi] at hj; cases hj
  exact ⟨b,by rw [Ac _ _ e]; exact hj,by rw [Ac _ _ e]; exact Compat.refl _ _⟩
 have q:∀{j:Nat} {b:Blk},upd me i (some (.row k [] 0 false)) j=some b→(j=i∧b=.row k [] 0 false)∨(j≠i∧me j=some b):=by
  intro j b hj
  by_cases e:j=i
  ·subst e; rw [Ae] at hj; cases hj; exact .inl ⟨rfl,rfl⟩
  ·rw [Ac _ _ e] at hj; exact .inr ⟨e,hj⟩
 refine ⟨h.nt,h.df,fun t=>(h.tms t).keeps hK,fun j b hj=>?_,fun j b hj=>?_,fun j1 j2 b1 b2 g hne h1 h2 hg=>?_,h.s0,h.sfr,h.fr,h.pd,fun sv v hg=>(h.gho sv v hg).keeps hK⟩
 ·rcases q hj with ⟨rfl,rfl⟩ | ⟨e,hj⟩
  ·rw [Ae]; exact .inl ⟨rfl,rfl,rfl⟩
  ·rw [Ac _ _ e]; exact (h.mem j b hj).keeps hK (fun g _=>rfl) (fun g _ _=>Iff.rfl)
 ·rcases q hj with ⟨rfl,rfl⟩ | ⟨e,hj⟩
  ·intro g hg; rw [Ae] at hg; cases hg
  ·rw [Ac _ _ e]; exact h.plcs j b hj
 ·rcases q h1 with ⟨rfl,rfl⟩ | ⟨e1,h1⟩
  ·rw [Ae] at hg; cases hg
  ·rw [Ac _ _ e1] at hg
   rcases q h2 with ⟨rfl,rfl⟩ | ⟨e2,h2⟩
   ·rw [Ae]; intro hh; cases hh
   ·rw [Ac _ _ e2]; exact h.dis j1 j2 b1 b2 g hne h1 h2 hg
end
structure CLater (C C':Ctx):Prop where
 nt:C'.nt=C.nt
 pp:C'.pp=C.pp
 ro:C'.ro=C.ro
 gh:C'.gh=C.gh
 s0:∀b,C.S0 b→C'.S0 b
 s1:∀b,C'.S0 b→C.S0 b∨C.w0.heap.size≤b∨C.ow b
 fr:FrameOK C.w0 [] C'.w0 C.ow
 ow:∀b,C'.ow b→C.w0.heap.size≤b∨C.ow b
 df:∃Ds:List Nat,C'.df=Ds.map (fun D=>{target:=.collected D,args:=#[]})++C.df∧Ds.Nodup∧∀D∈Ds,C.w0.heap.size≤D∧C'.w0.heap[D]?=some (.deferred (some []))∧¬C'.S0 D∧¬C'.ow D
theorem CLater.refl (C:Ctx):CLater C C:=⟨rfl,rfl,rfl,rfl,fun _ h=>h,fun _ h=>.inl h,⟨rfl,rfl,rfl,Nat.le_refl _,fun _ _ _ _=>rfl,fun e he=>by cases he⟩,fun _ h=>.inr h,[],rfl,List.nodup_nil,fun D h=>by cases h⟩
theorem FrameOK.trans' {w0 w1 w2:World} {o1 o2:Nat→Prop} (h1:FrameOK w0 [] w1 o1) (h2:FrameOK w1 [] w2 o2) (h:∀b,o2 b→w0.heap.size≤b∨o1 b):FrameOK w0 [] w2 o1:=by
 refine ⟨h2.os.trans h1.os,h2.tape.trans h1.tape,h2.output.trans h1.output,Nat.le_trans h1.size h2.size,fun b hb hn ho=>?_,fun e he=>by cases he⟩;rw [h2.block b (Nat.lt_of_lt_of_le hb h1.size) hn (fun hh=>by rcases h b hh with q | q; omega; exact ho q)];exact h1.block b hb hn ho
theorem CLater.trans {C C' C'':Ctx} (h:CLater C C') (g:CLater C' C''):CLater C C'':=by
 refine ⟨g.nt.trans h.nt,g.pp.trans h.pp,g.ro.trans h.ro,g.gh.trans h.gh,fun b hb=>g.s0 b (h.s0 b hb),fun b hb=>?_,h.fr.trans' g.fr h.ow,fun b hb=>?_,?_⟩
 ·rcases g.s1 b hb with q | q | q
  ·exact h.s1 b q
  ·exact .inr (.inl (Nat.le_trans h.fr.size q))
  ·exact .inr (h.ow b q)
 ·rcases g.ow b hb with q | q
  ·exact .inl (Nat.le_trans h.fr.size q)
  ·exact h.ow b q
 ·obtain ⟨D1,e1,n1,f1⟩:=h.df
  obtain ⟨D2,e2,n2,f2⟩:=g.df;refine ⟨D2++D1,by rw [e2,e1,List.map_append,List.append_assoc],?_,fun D hD=>?_⟩
  ·rw [List.nodup_append]
   refine ⟨n2,n1,fun x hx y hy e=>?_⟩;subst e;have:=(f2 x hx).1;have:=(Array.getElem?_eq_some_iff.1 (f1 x hy).2.1).1;omega
  ·rcases List.mem_append.1 hD with hD | hD
   ·obtain ⟨q1,q2,q3,q4⟩:=f2 D hD
    exact ⟨Nat.le_trans h.fr.size q1,q2,q3,q4⟩
   ·obtain ⟨q1,q2,q3,q4⟩:=f1 D hD
    have hlt:=(Array.getElem?_eq_some_iff.1 q2).1;refine ⟨q1,by rw [g.fr.block D hlt (fun e he=>by cases he) q4]; exact q2,fun hh=>?_,fun hh=>?_⟩
    ·rcases g.s1 D hh with q | q | q
     ·exact q3 q
     ·omega
     ·exact q4 q
    ·rcases g.ow D hh with q | q
     ·omega
     ·exact q4 q
def LeadsX (np:Nat) (nt:NT) (P:Program) (c:Code) (σ:St) (e:XX) (σ':St):Prop:=
 ∀C:Ctx,np=C.pp.length→nt=C.nt→C.pp=[]→C.ro=none→(∀sv v,¬C.gh sv v)→∀Q:Exit→Act→World→Prop,
  (∀C',CLater C C'→∀pl S a w,Inv C' (tget σ'.tm) (mget σ'.me) pl S a w→Q e.ex a w)→∀pl S a w,Inv C (tget σ.tm) (mget σ.me) pl S a w→Code.wpr none P c Q a w
section
variable {P:Program} {np:Nat} {nt:NT} {σ σ1 σ2:St} {e:XX} {c b x y:Code}
theorem Leads.toX (h:Leads np nt P c σ e σ1):LeadsX np nt P c σ e σ1:=fun C h1 h2 _ h4 h5 Q hQ pl S a w hI=>by
 have:=h C h1 h2 (fun _ sv v hg=>(h5 sv v hg).elim) Q (fun pl S a w hI=>hQ C (.refl C) pl S a w hI) pl S a w hI;rw [h4] at this;exact this
theorem LeadsX.seq (h1:LeadsX np nt P x σ .normal σ1) (h2:LeadsX np nt P y σ1 e σ2):LeadsX np nt P (.seq x y) σ e σ2:=fun C hnp hnt hpp hro hgh Q hQ pl S a w hI=>
 wpIn_seq (h1 C hnp hnt hpp hro hgh (Exit.then (Code.wpr none P y Q) Q) (fun C' hc pl S a w hI=>
  h2 C' (by rw [hc.pp]; exact hnp) (by rw [hc.nt]; exact hnt) (by rw [hc.pp]; exact hpp) (by rw [hc.ro]; exact hro) (by rw [hc.gh]; exact hgh) Q (fun C'' hc'=>hQ C'' (hc.trans hc')) pl S a w hI) pl S a w hI)
theorem LeadsX.seqE (h1:LeadsX np nt P x σ e σ1) (he:e≠.normal):LeadsX np nt P (.seq x y) σ e σ1:=fun C hnp hnt hpp hro hgh Q hQ pl S a w hI=>
 wpIn_seq (h1 C hnp hnt hpp hro hgh (Exit.then (Code.wpr none P y Q) Q) (fun C' hc pl S a w hI=>by
  have:=hQ C' hc pl S a w hI;cases e with
  | normal=>exact absurd rfl he
  | exit i=>exact this
  | ret=>exact this) pl S a w hI)
end
end Go.PG
namespace Go.PG
section
variable {R:Type}
def zks (E:Env R) (rg:St→(St→Option R)→Option R):Code→St→(XX→St→Option R)→Option R
 | .rangeFunc _ _ _ _,σ,K=>rg σ (K .normal)
 | .seq a b,σ,K=>zks E rg a σ fun e σ'=>match e with
  | .normal=>zks E rg b σ' K
  | e=>K e σ'
 | .block id c,σ,K=>zks E rg c σ fun e σ'=>match e with
  | .exit i=>match Nat.beq i id with | true=>K .normal σ' | false=>K (.exit i) σ'
  | e=>K e σ'
 | c,σ,K=>exec E c σ K
def Pb (rf:Code):Code→Prop
 | .rangeFunc g ps a b=>Code.rangeFunc g ps a b=rf
 | .seq a b=>Pb rf a∧Pb rf b
 | .block _ c=>Pb rf c
 | _=>True
theorem zan {P:Program} {E:Env R} (hE:Az P E) (hm:P.follows .mixedOrders=true) {rg:St→(St→Option R)→Option R} {rf:Code}
  (hrg:∀σ K r,rg σ K=some r→∃σ',K σ'=some r∧LeadsX E.np E.nt P rf σ .normal σ'):
  ∀(c:Code),Pb rf c→(∀l∈Am c,Dk E P l)→∀(σ:St) (K:XX→St→Option R) (r:R),zks E rg c σ K=some r→∃e σ',K e σ'=some r∧LeadsX E.np E.nt P c σ e σ':=by
 intro c;have other:∀(c:Code),(∀l∈Am c,Dk E P l)→∀(σ:St) (K:XX→St→Option R) (r:R),exec E c σ K=some r→∃e σ',K e σ'=some r∧LeadsX E.np E.nt P c σ e σ':=by
  intro c hl σ K r h;obtain ⟨e,σ',h1,_,h2⟩:=B0 hE hm c hl σ K r h;exact ⟨e,σ',h1,h2.toX⟩
 induction c with
 | rangeFunc g ps a b _ _=>
  intro ho _ σ K r h;obtain ⟨σ',h1,h2⟩:=hrg σ _ r h;exact ⟨.normal,σ',h1,by rw [show Code.rangeFunc g ps a b=rf from ho]; exact h2⟩
 | seq a b iha ihb=>
  intro ho hl σ K r h;obtain ⟨e,σ1,h1,h2⟩:=iha ho.1 (fun l hl'=>hl l (by simp [Am,hl'])) σ _ r h;cases e with
  | normal=>
   obtain ⟨e,σ2,h3,h4⟩:=ihb ho.2 (fun l hl'=>hl l (by simp [Am,hl'])) σ1 K r h1;exact ⟨e,σ2,h3,h2.seq h4⟩
  | exit i=>exact ⟨.exit i,σ1,h1,h2.seqE (by simp)⟩
  | ret=>exact ⟨.ret,σ1,h1,h2.seqE (by simp)⟩
 | block id c ih=>
  intro ho hl σ K r h;obtain ⟨e,σ1,h1,h2⟩:=ih ho (fun l hl'=>hl l (by simpa [Am] using hl')) σ _ r h;cases e with
  | normal=>exact ⟨.normal,σ1,h1,fun C a1 a2 a3 a4 a5 Q hQ pl S a w hI=>wpIn_block (h2 C a1 a2 a3 a4 a5 (Exit.inBlock id Q) (fun C' hc pl S a w hI=>hQ C' hc pl S a w hI) pl S a w hI)⟩
  | ret=>exact ⟨.ret,σ1,h1,fun C a1 a2 a3 a4 a5 Q hQ pl S a w hI=>wpIn_block (h2 C a1 a2 a3 a4 a5 (Exit.inBlock id Q) (fun C' hc pl S a w hI=>hQ C' hc pl S a w hI) pl S a w hI)⟩
  | exit i=>
   simp only at h1;split at h1
   ·rename_i hb
    have hb:=Nat.eq_of_beq_eq_true hb;subst hb;exact ⟨.normal,σ1,h1,fun C a1 a2 a3 a4 a5 Q hQ pl S a w hI=>wpIn_block (h2 C a1 a2 a3 a4 a5 (Exit.inBlock i Q) (fun C' hc pl S a w hI=>by simp only [XX.ex,Exit.inBlock,if_true]; exact hQ C' hc pl S a w hI) pl S a w hI)⟩
   ·rename_i hb
    have hne:i≠id:=fun e=>by subst e; rw [Nat.beq_refl] at hb; cases hb
    exact ⟨.exit i,σ1,h1,fun C a1 a2 a3 a4 a5 Q hQ pl S a w hI=>wpIn_block (h2 C a1 a2 a3 a4 a5 (Exit.inBlock id Q) (fun C' hc pl S a w hI=>by simp only [XX.ex,Exit.inBlock,if_neg hne]; exact hQ C' hc pl S a w hI) pl S a w hI)⟩
 | skip=>intro _; exact other _
 | region id ops d=>intro _; exact other _
 | cond x t e _ _=>intro _; exact other _
 | loop c _=>intro _; exact other _
 | exit i=>intro _; exact other _
 | ret=>intro _; exact other _
 | scope c _=>intro _; exact other _
 | goto l=>intro _; exact other _
 | label l=>intro _; exact other _
 | refuse w=>intro _; exact other _
def kept1:SV→SV→Bool
 | .ptr b p k,.ptr b' p' k'=>Nat.beq b b'&&G6 p p'&&k.same k'
 | .mptr b i k,.mptr b' i' k'=>Nat.beq b b'&&Nat.beq i i'&&k.same k'
 | _,_=>false
def zs2:List (Nat×SV)→List (Nat×SV)→Bool
 | [],_=>true
 | (t,s)::l,tm=>kept1 s (tget tm t)&&zs2 l tm
theorem zs3 {s s':SV} (h:kept1 s s'=true):s=s':=by
 unfold kept1 at h;split at h
 ·simp only [Bool.and_eq_true] at h
  rw [Nat.eq_of_beq_eq_true h.1.1,Ff h.1.2,Kd.same_eq h.2]
 ·simp only [Bool.and_eq_true] at h
  rw [Nat.eq_of_beq_eq_true h.1.1,Nat.eq_of_beq_eq_true h.1.2,Kd.same_eq h.2]
 ·cases h
theorem V2:∀{l tm:List (Nat×SV)},zs2 l tm=true→∀t,tget l t=tget tm t∨tget l t=.dead
 | [],_,_,t=>.inr rfl
 | (u,s)::l,tm,h,t=>by
  simp only [zs2,Bool.and_eq_true] at h;rw [Ba]
  by_cases e:t=u
  ·subst e; rw [Ae]; exact .inl (zs3 h.1)
  ·rw [Ac _ _ e]; exact V2 h.2 t
def zg0 (Ei:Env R) (tm0:List (Nat×SV)) (yi:Nat) (body:Code) (g:Operand) (f:FuncId) (σ:St) (K:St→Option R):Option R:=
 match opv σ.tm g with
 | .clo f' cs=>match Nat.beq f' f&&Nat.ble (cs.length+1) Ei.nt.n&&zs2 tm0 σ.tm,mget σ.me yi with
  | true,none=>exec Ei body ⟨Ur (.yv yi::cs.map zat) 0,(yi,.row .bool [] 0 false)::σ.me,σ.nx⟩ fun e σ'=>match e with
   | .exit _=>none
   | _=>K ⟨tm0,σ'.me,σ'.nx⟩
  | _,_=>none
 | _=>none
end
end Go.PG
namespace Go.PG
theorem Yr {R:Type} {P:Program} {Ei:Env R} (hEi:Az P Ei) (hm:P.follows .mixedOrders=true) {f:FuncId} {fn:Func} {body:Code} (hf:P.funcs[f]?=some fn) (hb:fn.body=some body) (hname:(fn.name== "runtime.NumGoroutine")=false)
  (hres:fn.results.toList=[]) {tm0:List (Nat×SV)} {g:Operand} {ps:Array Tmp} {asg bd:Code} {n0 yi:Nat} {gs:SV→Bool} (hnti:Ei.nt=⟨fn.ntmps,gs,some ⟨tget tm0,ps.toList,asg,bd,n0,yi⟩⟩) (hnpi:Ei.np=0)
  (hgs:∀t,gs (tget tm0 t)=true) (hgy:gs (.yv yi)=true) (hl:∀l∈Am body,Dk Ei P l):
  ∀(σ:St) (K:St→Option R) (r:R),zg0 Ei tm0 yi body g f σ K=some r→∃σ',K σ'=some r∧LeadsX 0 (n0:NT) P (.rangeFunc g ps asg bd) σ .normal σ':=by
 intro σ K r h;unfold zg0 at h;split at h<;>try (cases h; done)
 rename_i f' cs hg;split at h<;>try (cases h; done)
 rename_i hchk hfree;simp only [Bool.and_eq_true] at hchk;obtain ⟨⟨c1,c2⟩,c3⟩:=hchk;have c1:=Nat.eq_of_beq_eq_true c1;subst c1;have c2:=Nat.le_of_ble_eq_true c2;have hkeep:=V2 c3;obtain ⟨e,σ1,h1,_,hL⟩:=B0 hEi hm body hl _ _ _ h;have hK:(e=.normal∨e=.ret)∧K ⟨tm0,σ1.me,σ1.nx⟩=some r:=by
  cases e with
  | exit i=>cases h1
  | normal=>exact ⟨.inl rfl,h1⟩
  | ret=>exact ⟨.inr rfl,h1⟩
 obtain ⟨he,hK⟩:=hK;refine ⟨⟨tm0,σ1.me,σ1.nx⟩,hK,fun C hnp hnt hpp hro hgh Q hQ pl S a w hI=>?_⟩;have hv:=Fz (tm0:=σ.tm) (x:=g) hI (fun _ _=>rfl);rw [hg] at hv;obtain ⟨vs,hev,hcap⟩:=hv;have hent:=enters hf hname (by rw [hb]; rfl);refine wpIn_rangeFunc (F:=Fence.wide) (n:=0) (fun fn0 _=>?_);obtain ⟨rec,hrec⟩:∃rec:Loop,rec={state:=.ready,pending:=none,fn:=fn0,tmps:=a.tmps,params:=ps,assign:=asg,body:=bd,defers:=w.heap.size}:=⟨_,rfl⟩
 obtain ⟨W1,hW1⟩:∃W1,(w.alloc (.deferred (some []))).alloc (.loop rec)=W1:=⟨_,rfl⟩
 have hsz1:W1.heap.size=w.heap.size+2:=by rw [←hW1]; simp
 have hl1:W1.heap[w.heap.size+1]?=some (.loop rec):=by
  rw [←hW1]; have:=World.alloc_heap_new (w.alloc (.deferred (some []))) (.loop rec); rwa [World.size_alloc] at this
 have hd1:W1.heap[w.heap.size]?=some (.deferred (some [])):=by
  rw [←hW1]; exact (Fb _ _ _ (by simp)).trans (World.alloc_heap_new w _)
 have hold:∀b,b<w.heap.size→W1.heap[b]?=w.heap[b]?:=fun b hb=>by
  rw [←hW1,Fb _ _ _ (by simp; omega),Fb _ _ _ hb]
 have hwos:W1.os=w.os∧W1.tape=w.tape∧W1.output=w.output:=by rw [←hW1]; exact ⟨rfl,rfl,rfl⟩
 have hSlt:∀b,S b→b<w.heap.size:=fun b hb=>(hI.sfr b hb).1
 have hIW:Inv C (tget σ.tm) (mget σ.me) pl S a W1:=hI.world (fun _ hb=>hb) (fun b hb=>⟨by have:=hSlt b hb; omega,.inl hb⟩) hwos.1 hwos.2.1 hwos.2.2 (by omega) hold;refine ⟨w.heap.size+1,[{target:=.collected w.heap.size,args:=#[]}],W1,{target:=.fn (.func f') vs.toArray,args:=#[.func (.yield (w.heap.size+1)) #[] #[]]},W1,f',#[.func (.yield (w.heap.size+1)) #[] #[]]++vs.toArray,W1,
  ?_,?_,fun _ _=>trivial,?_,fun hh=>(by cases hh),?_⟩
 ·rw [←hW1,hrec]; exact run_enterLoop_outer _ _ _ _ _
 ·simp only [resolve,hev]
  simp [go_sem]
 ·simp [invoke,go_sem,hent]
 refine callsIn_wide.2 (calls_of_wp hf hb ((wpIn_wide (n:=0)).1 ?_));have hM:=hIW.mark hfree (w.heap.size+1) .bool;obtain ⟨pl',hpl'⟩:∃pl',pl'=upd pl yi ⟨none,w.heap.size+1,0⟩:=⟨_,rfl⟩
 rw [←hpl'] at hM;have hme:mget ((yi,Blk.row .bool [] 0 false)::σ.me)=upd (mget σ.me) yi (some (.row .bool [] 0 false)):=A7 _ _ _
 let Ci:Ctx:=⟨W1,S,Ei.nt,[],fun sv v=>(sv=.yv yi∧v=.func (.yield (w.heap.size+1)) #[] #[])∨∃t,sv=tget tm0 t∧v=a.tmps.getD t undef,
  fun b=>(C.w0.heap.size≤b∨C.ow b)∧b<w.heap.size,none,[],.func (.yield (w.heap.size+1)) #[] #[]⟩
 have hyv:G S W1 (upd (mget σ.me) yi (some (.row .bool [] 0 false))) pl' (.yv yi) (.func (.yield (w.heap.size+1)) #[] #[]):=⟨.bool,[],0,false,Ae _ _ _,fun _=>by rw [hpl',Ae]⟩
 have hnw0:¬((C.w0.heap.size≤w.heap.size+1∨C.ow (w.heap.size+1))∧w.heap.size+1<w.heap.size):=by omega
 have hkp:Keeps S w (mget σ.me) pl S W1 (upd (mget σ.me) yi (some (.row .bool [] 0 false))) pl':=by
  refine ⟨fun b hb=>⟨hb,hold b (hSlt b hb)⟩,fun i b hi=>⟨b,?_,?_⟩⟩
  ·have:i≠yi:=fun e=>by rw [e,hfree] at hi; cases hi
   rw [Ac _ _ this]; exact hi
  ·have:i≠yi:=fun e=>by rw [e,hfree] at hi; cases hi
   rw [hpl',Ac _ _ this]; exact Compat.refl _ _
 have hsvl:SVL S W1 (upd (mget σ.me) yi (some (.row .bool [] 0 false))) pl' (.yv yi::cs.map zat) (.func (.yield (w.heap.size+1)) #[] #[]::vs):=⟨_,_,rfl,hyv,(hcap.keeps hkp).svs.svl⟩
 obtain ⟨hvl,hvg⟩:=hsvl.get;have hlen:(vs.length+1)=cs.length+1:=by simpa using hvl
 have hpre:Inv Ci (tget (Ur (.yv yi::cs.map zat) 0)) (mget ((yi,Blk.row .bool [] 0 false)::σ.me)) pl' S
   {tmps:=(#[.func (.yield (w.heap.size+1)) #[] #[]]++vs.toArray)++Array.replicate (fn.ntmps - (#[Value.func (.yield (w.heap.size+1)) #[] #[]]++vs.toArray).size) undef,defers:=[]} W1:=by
  rw [hme];have hasz:(#[Value.func (.yield (w.heap.size+1)) #[] #[]]++vs.toArray).size=vs.length+1:=by simp<;>omega
  refine ⟨⟨?_,fun d hd=>?_⟩,rfl,fun t=>?_,hM.mem,fun i b hi=>?_,hM.dis,fun _ hb=>hb,fun b hb=>⟨by have:=hSlt b hb; omega,.inl hb⟩,⟨rfl,rfl,rfl,Nat.le_refl _,fun _ _ _ _=>rfl,fun e he=>(by cases he)⟩,fun e he=>(by cases he),fun sv v hgv=>?_⟩
  ·have hn:Ei.nt.n=fn.ntmps:=by rw [hnti]
   simp only [Array.size_append,Array.size_replicate,Ci] at hasz ⊢;rw [hn];omega
  ·have hd':Ei.nt.rd=some d:=hd
   rw [hnti] at hd';cases hd';refine ⟨w.heap.size+1,rec,rfl,hl1,by rw [hrec],by rw [hrec],by rw [hrec],by rw [hrec],by rw [hrec],?_,fun hh=>by have:=hSlt _ hh; omega,hnw0,rfl,.inl ⟨rfl,rfl⟩,fun t=>.inr ⟨t,rfl,by rw [hrec]⟩⟩;rw [hrec];have:=hI.nt.1;rw [←hnt] at this;exact this
  ·rw [Km,if_pos (Nat.zero_le t),Nat.sub_zero]
   cases hs:(SV.yv yi::cs.map zat)[t]? with
   | none=>trivial
   | some sv=>
    have hlt:=(List.getElem?_eq_some_iff.1 hs).1;have hlt':t<vs.length+1:=by simp at hlt; omega
    have:=hvg t sv hs;have e1:((#[Value.func (.yield (w.heap.size+1)) #[] #[]]++vs.toArray)++Array.replicate (fn.ntmps - (#[Value.func (.yield (w.heap.size+1)) #[] #[]]++vs.toArray).size) undef).getD t undef=(Value.func (.yield (w.heap.size+1)) #[] #[]::vs).getD t undef:=by
     rw [Array.getD_eq_getD_getElem?,Array.getElem?_append_left (by rw [hasz]; exact hlt'),show #[Value.func (.yield (w.heap.size+1)) #[] #[]]++vs.toArray=(Value.func (.yield (w.heap.size+1)) #[] #[]::vs).toArray by simp];simp
    rw [e1];exact this
  ·intro g' hg'
   by_cases ei:i=yi
   ·subst ei; rw [hpl',Ae] at hg'; cases hg'
   ·rw [Ac _ _ ei] at hi
    have hp':pl' i=pl i:=by rw [hpl',Ac _ _ ei]
    rw [hp'] at hg' ⊢;have hlt:=place_lt hI hi hg';rcases hI.plcs i b hi g' hg' with ⟨ho,h0⟩ | ⟨_,hq⟩
    ·exact .inl ⟨.inl ⟨Nat.zero_le _,.inr ⟨ho.or,hlt⟩⟩,h0⟩
    ·rw [hpp] at hq; cases hq
  ·rcases hgv with ⟨rfl,rfl⟩ | ⟨t,rfl,rfl⟩
   ·exact hyv
   ·rcases hkeep t with q | q
    ·rw [q]; exact (hI.tms t).keeps hkp
    ·rw [q]; trivial
 refine hL Ci hnpi rfl (fun _ sv v hgv=>?_) _ (fun pl1 S1 a1 w1 hI1=>?_) pl' S _ W1 hpre
 ·show Ei.nt.gs sv=true
  rw [hnti];rcases hgv with ⟨rfl,_⟩ | ⟨t,rfl,_⟩
  ·exact hgy
  ·exact hgs t
 have hrun:=Ct (P:=P) (w:=w1) (fn:=fn) (tmps:=a1.tmps) (res:=[]) (by rw [hres]; rfl) (vs:=[]) rfl;have hl2:w1.heap[w.heap.size+1]?=some (.loop rec):=(hI1.fr.block _ (by show _<W1.heap.size; omega) (fun e he=>by cases he) hnw0).trans hl1;have hd2:w1.heap[w.heap.size]?=some (.deferred (some [])):=(hI1.fr.block _ (by show _<W1.heap.size; omega) (fun e he=>by cases he) (by show ¬(_∧_<_); omega)).trans hd1;have hfin:rangePost Fence.wide 0 P (w.heap.size+1) Q {a with defers:=[{target:=.collected w.heap.size,args:=#[]}]++a.defers} (.returned (G9 [])) w1:=by
  refine ⟨none,w1.putObj (w.heap.size+1) (.loop {rec with state:=.exhausted}),(run_endLoop (P:=P) hl2 (by rw [hrec]; simp)).trans (by rw [show rec.pending=none by rw [hrec]]),?_⟩;have hs1:∀b,S1 b→(C.S0 b∨C.w0.heap.size≤b∨C.ow b):=fun b hb=>by
   have hw0:=hI.fr.size;rcases (hI1.sfr b hb).2 with q | q | q
   ·exact (hI.sfr b q).2
   ·exact .inr (.inl (by have q':W1.heap.size≤b:=q; omega))
   ·exact .inr q.1
  have hnS:∀b,w.heap.size≤b→b<W1.heap.size→¬S1 b:=fun b h1 h2 hb=>by
   rcases (hI1.sfr b hb).2 with q | q | q
   ·have:=hSlt b q; omega
   ·have q':W1.heap.size≤b:=q; omega
   ·have q':b<w.heap.size:=q.2; omega
  have hb4:∀b,b≠w.heap.size+1→(w1.putObj (w.heap.size+1) (.loop {rec with state:=.exhausted})).heap[b]?=w1.heap[b]?:=fun b hb=>World.putObj_heap_other hb
  have hw0:=hI.fr.size;have hsz4:W1.heap.size≤w1.heap.size:=hI1.fr.size;have hK4:Keeps S1 w1 (mget σ1.me) pl1 S1 (w1.putObj (w.heap.size+1) (.loop {rec with state:=.exhausted})) (mget σ1.me) pl1:=by
   refine ⟨fun b hb=>⟨hb,hb4 b (fun ee=>hnS b (by omega) (by omega) hb)⟩,fun i b hi=>⟨b,hi,Compat.refl _ _⟩⟩
  refine hQ ⟨w1.putObj (w.heap.size+1) (.loop {rec with state:=.exhausted}),S1,C.nt,C.pp,C.gh,fun b=>(C.w0.heap.size≤b∨C.ow b)∧b≠w.heap.size,C.ro,[{target:=.collected w.heap.size,args:=#[]}]++C.df,C.pv⟩
   ⟨rfl,rfl,rfl,rfl,fun b hb=>hI1.s0 b (hI.s0 b hb),hs1,?_,fun b hb=>hb.1,[w.heap.size],rfl,by simp,fun D hD=>?_⟩ pl1 S1 _ _ ?_
  ·refine ⟨hI1.fr.os.trans (hwos.1.trans hI.fr.os),hI1.fr.tape.trans (hwos.2.1.trans hI.fr.tape),hI1.fr.output.trans (hwos.2.2.trans hI.fr.output),by simp; omega,fun b hb' hn ho=>?_,fun e he=>by cases he⟩
   show (w1.putObj _ _).heap[b]?=_;rw [hb4 b (by omega),hI1.fr.block b (by show b<W1.heap.size; omega) (fun e he=>by cases he) (fun hh=>by
    have:C.w0.heap.size≤b∨C.ow b:=hh.1;rcases this with q | q
    ·omega
    ·exact ho q)]
   show W1.heap[b]?=_;rw [hold b (by omega)];exact hI.fr.block b hb' (by rw [hpp]; intro e he; cases he) ho
  ·have hD:D=w.heap.size:=by simpa using hD
   subst hD;exact ⟨hw0,by show (w1.putObj _ _).heap[_]?=_; rw [hb4 _ (by omega)]; exact hd2,hnS _ (Nat.le_refl _) (by omega),fun hh=>hh.2 rfl⟩
  ·refine ⟨⟨hI.nt.1,fun d hd=>?_⟩,?_,fun t=>(hI1.gho _ _ (.inr ⟨t,rfl,rfl⟩)).keeps hK4,fun i b hi=>?_,fun i b hi=>?_,hI1.dis,fun _ hb=>hb,fun b hb=>⟨by have:=(hI1.sfr b hb).1; simpa using this,.inl hb⟩,⟨rfl,rfl,rfl,Nat.le_refl _,fun _ _ _ _=>rfl,fun e he=>?_⟩,fun e he=>?_,fun sv v hgv=>(hgh sv v hgv).elim⟩
   ·have hd':C.nt.rd=some d:=hd
    rw [←hnt] at hd';cases hd'
   ·show _++a.defers=_++C.df
    rw [hI.df]
   ·exact (hI1.mem i b hi).keeps hK4 (fun g' hg'=>hb4 g' (Rb hI1 hl2 hi hg')) (fun g' _ _=>Iff.rfl)
   ·intro g' hg'
    have hne:g'≠w.heap.size:=fun ee=>by
     rcases hI1.plcs i b hi g' hg' with ⟨ho,_⟩ | ⟨_,hq⟩
     ·rcases ho.or with q | q
      ·have q':W1.heap.size≤g':=q; omega
      ·have q':g'<w.heap.size:=q.2; omega
     ·cases hq
    rcases hI1.plcs i b hi g' hg' with ⟨ho,h0⟩ | ⟨_,hq⟩
    ·refine .inl ⟨.inl ⟨by show C.pp.length≤i; rw [hpp]; exact Nat.zero_le _,.inr ⟨?_,hne⟩⟩,h0⟩
     rcases ho.or with q | q
     ·exact .inl (by have q':W1.heap.size≤g':=q; omega)
     ·exact q.1
    ·cases hq
   ·have he':e∈C.pp:=he
    rw [hpp] at he'; cases he'
   ·have he':e∈C.pp:=he
    rw [hpp] at he'; cases he'
 rcases he with rfl | rfl
 ·exact ⟨hI1.df,_,hrun,hfin⟩
 ·exact ⟨hI1.df,_,hrun,hfin⟩
end Go.PG
namespace Go.PG
section
variable {C:Ctx} {tm:Nat→SV} {me:Nat→Option Blk} {pl:Nat→Plc} {S:Nat→Prop} {a:Act} {w:World} {P:Program}
theorem Inv.putNew (h:Inv C tm me pl S a w) {l:Nat} {o:Obj} (hl:w.heap[l]?=some o) (h1:∀c t fr,o≠.cells c t fr) (h2:∀es t,o≠.map es t) (o':Obj) (hs:¬S l) (h0:C.w0.heap.size≤l) (hpp:C.pp=[]):Inv C tm me pl S a (w.putObj l o'):=by
 have hb:∀b,b≠l→(w.putObj l o').heap[b]?=w.heap[b]?:=fun b hb=>World.putObj_heap_other hb
 have hne:∀{i:Nat} {b:Blk},me i=some b→∀g,(pl i).g=some g→g≠l:=by
  intro i b hi g hg e;subst e;have hb:=h.mem i b hi;cases b with
  | var k x sh=>
   obtain ⟨g',c,t,q1,q2,_⟩:=hb;rw [hg] at q1; cases q1; rw [hl] at q2; cases q2; exact h1 _ _ _ rfl
  | row e l v sh=>
   rcases hb with ⟨q1,_⟩ | ⟨g',c,t,q1,_,q2,_⟩
   ·rw [hg] at q1; cases q1
   ·rw [hg] at q1; cases q1; rw [hl] at q2; cases q2; exact h1 _ _ _ rfl
  | mix fs cs=>
   obtain ⟨g',c,t,q1,_,q2,_⟩:=hb;rw [hg] at q1; cases q1; rw [hl] at q2; cases q2; exact h1 _ _ _ rfl
  | map kk kv m=>
   obtain ⟨g',c,t,q1,_,q2,_⟩:=hb;rw [hg] at q1; cases q1; rw [hl] at q2; cases q2; exact h2 _ _ rfl
 have hK:Keeps S w me pl S (w.putObj l o') me pl:=⟨fun b hb'=>⟨hb',hb b (fun e=>hs (e ▸ hb'))⟩,fun i b hi=>⟨b,hi,Compat.refl _ _⟩⟩
 refine ⟨h.nt,h.df,fun t=>(h.tms t).keeps hK,fun i b hi=>?_,h.plcs,h.dis,h.s0,fun b hb'=>?_,?_,h.pd,fun sv v hg=>(h.gho sv v hg).keeps hK⟩
 ·exact (h.mem i b hi).keeps hK (fun g hg=>hb g (hne hi g hg)) (fun g _ _=>Iff.rfl)
 ·have:=h.sfr b hb'
  simpa using this
 ·refine ⟨h.fr.os,h.fr.tape,h.fr.output,by simpa using h.fr.size,fun b hb' hn ho=>?_,fun e he=>?_⟩
  ·rw [hb b (by omega)]; exact h.fr.block b hb' hn ho
  ·have he':e∈C.pp:=he
   rw [hpp] at he'; cases he'
theorem Inv.back {C':Ctx} (hc:CLater C C') (h:Inv C' tm me pl S a w) (hpp:C.pp=[]) (hrd:C.nt.rd=none) (hgh:∀sv v,¬C.gh sv v):Inv {C with df:=C'.df} tm me pl S a w:=by
 have hsz:=hc.fr.size;refine ⟨⟨by have:=h.nt.1; rw [hc.nt] at this; exact this,fun d hd=>?_⟩,h.df,h.tms,h.mem,fun i b hi g hg=>?_,h.dis,fun b hb=>h.s0 b (hc.s0 b hb),fun b hb=>⟨(h.sfr b hb).1,?_⟩,?_,fun e he=>?_,fun sv v hg=>(hgh sv v hg).elim⟩
 ·have hd':C.nt.rd=some d:=hd
  rw [hrd] at hd'; cases hd'
 ·rcases h.plcs i b hi g hg with ⟨ho,h0⟩ | ⟨_,hq⟩
  ·refine .inl ⟨.inl ⟨by show C.pp.length≤i; rw [hpp]; exact Nat.zero_le _,?_⟩,h0⟩
   rcases ho.or with q | q
   ·exact .inl (Nat.le_trans hsz q)
   ·exact hc.ow g q
  ·rw [hc.pp,hpp] at hq; cases hq
 ·rcases (h.sfr b hb).2 with q | q | q
  ·exact hc.s1 b q
  ·exact .inr (.inl (Nat.le_trans hsz q))
  ·exact .inr (hc.ow b q)
 ·have hf:=h.fr
  rw [hc.pp,hpp] at hf;show FrameOK C.w0 C.pp w C.ow
  rw [hpp];exact hc.fr.trans' hf hc.ow
 ·have he':e∈C.pp:=he
  rw [hpp] at he'; cases he'
theorem zji {fn:Func} {R:Ending→World→Prop}:∀(Ds:List Nat) (w:World),Inv C tm me pl S a w→C.pp=[]→Ds.Nodup→(∀D∈Ds,C.w0.heap.size≤D∧w.heap[D]?=some (.deferred (some []))∧¬S D)→
  (∀w',Inv C tm me pl S a w'→∃v,(results fn a.tmps).run P w'=.ok v w'∧R (.returned v) w')→
  LeavesInM Fence.wide 0 P fn a.tmps R (Ds.map fun D=>{target:=.collected D,args:=#[]}) .returning w
 | [],w,hI,_,_,_,hf=>hf w hI
 | D::Ds,w,hI,hpp,hn,hD,hf=>by
  obtain ⟨d1,d2,d3⟩:=hD D (by simp);obtain ⟨n1,n2⟩:=List.nodup_cons.1 hn;refine ⟨by simp,.inl ⟨D,w.putObj D (.deferred none),rfl,run_takeDeferred d2,?_⟩⟩;refine zji Ds _ (hI.putNew d2 (fun _ _ _ h=>by cases h) (fun _ _ h=>by cases h) _ d3 d1 hpp) hpp n2 (fun D' hD'=>?_) hf;obtain ⟨q1,q2,q3⟩:=hD D' (by simp [hD']);exact ⟨q1,by rw [World.putObj_heap_other (fun e:D'=D=>n1 (by rw [←e]; exact hD'))]; exact q2,q3⟩
end
section
variable {R:Type} {P:Program} {E:Env R}
def zqj (E:Env R) (rg:St→(St→Option R)→Option R) (body:Code) (res:List (ResultVar×TypeId×Bool)) (aa:List AV) (K:List RV→List TV→Option R):Option R:=
 match Ls aa 0 0 [] [] with
 | (tm,me)=>zks E rg body ⟨tm,me,E.np⟩ fun e σ=>match e with
  | .exit _=>none
  | _=>match xres E (mget σ.me) σ.tm [] res with
   | none=>none
   | some (rs,wr)=>match N2 (laid wr (mget σ.me)) 0 E.np with
    | some outs=>K rs outs
    | none=>none
theorem Yd (hE:Az P E) (hm:P.follows .mixedOrders=true) {f:FuncId} {fn:Func} {body:Code} (hf:P.funcs[f]?=some fn) (hb:fn.body=some body) (hent:∀args w,(callFunc f args).run P w=.ok (.enter f args) w)
  (hnt:fn.ntmps=E.nt) {res:List (ResultVar×TypeId×Bool)} (hres:fn.results.toList=res.map (·.1)) {aa:List AV} (hnp:E.np=nptr aa) (hnp0:E.np=0) (hle:aa.length≤E.nt.n) (hl:∀l∈Am body,Dk E P l)
  {rg:St→(St→Option R)→Option R} {rf:Code} (ho:Pb rf body) (hrg:∀σ K r,rg σ K=some r→∃σ',K σ'=some r∧LeadsX E.np E.nt P rf σ .normal σ')
  {K:List RV→List TV→Option R} {r:R} (h:zqj E rg body res aa K=some r):∃rs outs,P8 P f aa rs outs∧K rs outs=some r:=by
 unfold zqj at h;split at h;rename_i tm0 me0 hst;obtain ⟨e,σ,h1,h2⟩:=zan hE hm hrg body ho hl _ _ _ h;have h1':e≠.exit 0∧(e=.normal∨e=.ret)∧∃rs wr outs,xres E (mget σ.me) σ.tm [] res=some (rs,wr)∧N2 (laid wr (mget σ.me)) 0 E.np=some outs∧K rs outs=some r:=by
  cases e with
  | exit i=>simp at h1
  | normal=>
   simp only at h1;split at h1<;>try (cases h1; done)
   rename_i rs wr hx;split at h1<;>try (cases h1; done)
   rename_i outs ho;exact ⟨by simp,.inl rfl,rs,wr,outs,hx,ho,h1⟩
  | ret=>
   simp only at h1;split at h1<;>try (cases h1; done)
   rename_i rs wr hx;split at h1<;>try (cases h1; done)
   rename_i outs ho;exact ⟨by simp,.inr rfl,rs,wr,outs,hx,ho,h1⟩
 obtain ⟨_,he,rs,wr,outs,hx,hout,hK⟩:=h1';refine ⟨rs,outs,.inl ⟨hent,fun w S pp vs hS hnd hA=>?_⟩,hK⟩;obtain ⟨hvl,hpl,hcell⟩:=hA.lens;have hpp:pp=[]:=List.eq_nil_of_length_eq_zero (by omega);refine callsIn_wide.1 (callsIn_of_wp_marks (F:=Fence.wide) (n:=0) hf hb trivial ?_)
 let C:Ctx:=⟨w,S,E.nt,pp,fun _ _=>False,fun _=>False,none,[],undef⟩
 let pl:Nat→Plc:=fun i=>match pp[i]? with | some (g,off,_)=>⟨some g,off,0⟩ | none=>⟨none,0,0⟩
 refine h2 C (hnp.trans hpl.symm) rfl hpp rfl (fun _ _ h=>h) _ (fun C' hc pl' S' a' w' hI'=>?_) pl S _ w ?_
 ·obtain ⟨Ds,hdf,hnod,hDs⟩:=hc.df
  have hrd:C.nt.rd=none:=by show E.nt.rd=none; rw [←hnt]
  have hB:=hI'.back hc hpp hrd (fun _ _ h=>h);have hfin:LeavesInM Fence.wide 0 P fn a'.tmps (fun | .returned v,w'=>Post S w pp rs outs v w' | _,_=>False) a'.defers .returning w':=by
   rw [hI'.df,hdf,List.append_nil];refine zji (C:={C with df:=C'.df}) (tm:=tget σ.tm) (me:=mget σ.me) (pl:=pl') (S:=S') (a:=a') Ds w' hB hpp hnod (fun D hD=>?_) (fun w'' hI''=>?_)
   ·obtain ⟨q1,q2,q3,q4⟩:=hDs D hD
    have hlt:=(Array.getElem?_eq_some_iff.1 q2).1;refine ⟨q1,(hI'.fr.block D hlt (by rw [hc.pp]; show ∀e∈pp,_; rw [hpp]; intro e he; cases he) q4).trans q2,fun hh=>?_⟩;rcases (hI'.sfr D hh).2 with q | q | q
    ·exact q3 q
    ·omega
    ·exact q4 q
   ·obtain ⟨S2,vs2,gs,g1,g2,⟨g3a,g3⟩,g4,_,_⟩:=Dd (C:={C with df:=C'.df}) (fun _ h=>h) hE.tab (hnp.trans hpl.symm) rfl res [] (mget σ.me) rs wr (mget σ.me) S' hx rfl hI''
    have hrun:=Ct hres g3a;refine ⟨_,hrun,S2,_,gs,rfl,g1.s0,fun b hb=>⟨(g1.sfr b hb).1,(g1.sfr b hb).2.imp id (fun h=>h.resolve_right id)⟩,g1.fr,g3,g4,?_⟩;have:=Fq (C:={C with df:=C'.df}) (fun _ h=>h) g1 E.np 0 outs hout (by rw [Nat.zero_add]; exact (hnp.trans hpl.symm).symm);simpa using this
  rcases he with rfl | rfl
  ·exact hfin
  ·exact hfin
 ·have hpl':∀i g off sz,C.pp[i]?=some (g,off,sz)→(pl i).g=some g∧(pl i).off=off:=by
   intro i g off sz hi;have hi':pp[i]?=some (g,off,sz):=hi;simp only [pl,hi'];exact ⟨trivial,trivial⟩
  have h0:Inv C (tget []) (mget []) pl S ⟨vs.toArray++Array.replicate (fn.ntmps - vs.toArray.size) undef,[]⟩ w:=by
   refine ⟨?_,rfl,fun t=>trivial,fun i b hi=>(by cases hi),fun i b hi=>(by cases hi),fun i j bi bj g _ hi=>(by cases hi),fun _ h=>h,fun b hb=>⟨hS b hb,.inl hb⟩,⟨rfl,rfl,rfl,Nat.le_refl _,fun _ _ _ _=>rfl,fun e he _=>?_⟩,fun e he e' he' hee=>?_,fun _ _ h=>h.elim⟩
   ·refine ⟨?_,fun d hd=>?_⟩
    ·have hnn:E.nt.n=fn.ntmps:=by rw [←hnt]
     have:vs.length≤fn.ntmps:=by omega
     simp only [Array.size_append,Array.size_replicate,List.size_toArray,C];omega
    ·have hd':E.nt.rd=some d:=hd
     rw [←hnt] at hd'; cases hd'
   ·obtain ⟨c,t,hc⟩:=hcell e he
    exact ⟨c,c,t,hc,hc,rfl,rfl,rfl⟩
   ·obtain ⟨i,hi,rfl⟩:=List.getElem_of_mem he
    obtain ⟨j,hj,rfl⟩:=List.getElem_of_mem he';have hi':i<pp.length:=hi;have hj':j<pp.length:=hj;have:i=j:=(List.getElem_inj (h₀:=by simpa using hi') (h₁:=by simpa using hj') hnd).1 (by simpa using hee);subst this; rfl
  have:=Db (C:=C) (a:=⟨vs.toArray++Array.replicate (fn.ntmps - vs.toArray.size) undef,[]⟩) (fun _ h=>h) hnd hpl' aa 0 0 [] [] vs pp hA (fun i=>by rw [Nat.zero_add]) (fun i v hi=>?_) (fun i _=>rfl) h0
  ·rw [hst] at this; exact this
  ·have hlt:=(List.getElem?_eq_some_iff.1 hi).1
   rw [Nat.zero_add,Array.getD_eq_getD_getElem?,Array.getElem?_append_left (by simpa using hlt)];simp [hi]
end
end Go.PG
namespace Go.PG
section
variable {P:Program}
theorem ent_okX {Ef:(R:Type)→Env R} {rg:(R:Type)→St→(St→Option R)→Option R} {f:FuncId} {ins outs:Ins} {F:(R:Type)→AT ins→(RT outs→PT ins→Option R)→Option R} (hE:∀R,Az P (Ef R)) (hm:P.follows .mixedOrders=true) {fn:Func} {body:Code} (hf:P.funcs[f]?=some fn) (hb:fn.body=some body)
  (hname:(fn.name== "runtime.NumGoroutine")=false) {nt:Nat} (hnp:∀R,(Ef R).np=0) (hnt:∀R,(Ef R).nt=nt) (hntf:fn.ntmps=nt) {res:List (ResultVar×TypeId×Bool)} (hres:fn.results.toList=res.map (·.1))
  (hp:∀x,nptr (avs ins x)=0) (hle:∀x,(avs ins x).length≤nt) (hl:∀R,∀l∈Am body,Dk (Ef R) P l) {rf:Code} (ho:Pb rf body)
  (hrg:∀(R:Type) (σ:St) (K:St→Option R) (r:R),rg R σ K=some r→∃σ',K σ'=some r∧LeadsX 0 (nt:NT) P rf σ .normal σ')
  (heq:∀R x k,zqj (Ef R) (rg R) body res (avs ins x) (finK outs ins k)=F R x k):Ent.OK P ⟨f,ins,outs,F⟩:=by
 intro R x k r h;simp only at h;rw [←heq] at h;obtain ⟨rs,os,h1,h2⟩:=Yd (hE R) hm hf hb (enters hf hname (by rw [hb]; rfl)) (by rw [hnt,hntf]) hres (by rw [hnp,hp]) (hnp R) (by rw [hnt]; exact hle x) (hl R) ho (by rw [hnp,hnt]; exact hrg R) h;unfold finK at h2;split at h2<;>try (cases h2; done)
 rename_i y hy;split at h2<;>try (cases h2; done)
 rename_i p hp;rw [Hg hy,I9 hp] at h1;exact ⟨y,p,h1,h2⟩
theorem lokX (hm:P.follows .mixedOrders=true) {id:Nat} {H:List HI} {nx:Nat} {exs:Exs} {G:Nat→(R:Type)→cH (cE R exs) H} {p:(R:Type)→cH (cE R ((.normal,H)::exs)) H} {E:(R:Type)→Env R} {fn:Func} {np:Nat} {nt:NT}
  (q:LEQ (lM id H nx exs (G FUEL)) E fn p) (hE:∀R,Az P (E R)) (hnp:∀R,(E R).np=np) (hnt:∀R,(E R).nt=nt) (hgs:∀sv,nt.gs sv=true→Hs H sv=true∧∀p∈exs,Hs p.2 sv=true)
  (hl:∀R,∀l∈Am (Cd id (Ag fn)),Dk (E R) P l)
  (h0:∀R x ke,aE R exs (aH _ H (G 0 R) x) ke=none) (hs:∀n R x ke,aE R exs (aH _ H (G (n+1) R) x) ke=aE R ((.normal,H)::exs) (aH _ H (p R) x) (fun x'=>aE R exs (aH _ H (G n R) x') ke,ke)) (hv:(mvOK np H&&exs.all fun p=>mvOK np p.2)=true:=by kernel_rfl):
  (lM id H nx exs (G FUEL)).OK P np nt (Cd id (Ag fn)):=by
 have key:∀(n:Nat) (R:Type) (x:HT H) (ke:KT R exs),iter (fun R x kc ke=>aE R ((.normal,H)::exs) (aH _ H (p R) x) (kc,ke)) n R x ke=aE R exs (aH _ H (G n R) x) ke:=by
  intro n
  induction n with
  | zero=>intro R x ke; exact (h0 R x ke).symm
  | succ n ih=>
   intro R x ke;simp only [iter];rw [hs,show (fun x'=>iter (fun R x kc ke=>aE R ((.normal,H)::exs) (aH _ H (p R) x) (kc,ke)) n R x' ke)=fun x'=>aE R exs (aH _ H (G n R) x') ke from funext fun x'=>ih R x' ke]
 exact ⟨⟨fun sv h=>(hgs sv h).1,(K0 hv).1⟩,fun R x ke r h=>D9 E np nt hnp hnt hE hm hl hgs (K0 hv) (T:=fun R x kc ke=>aE R ((.normal,H)::exs) (aH _ H (p R) x) (kc,ke)) q FUEL R x ke r ((key FUEL R x ke).trans h)⟩
end
end Go.PG
end
