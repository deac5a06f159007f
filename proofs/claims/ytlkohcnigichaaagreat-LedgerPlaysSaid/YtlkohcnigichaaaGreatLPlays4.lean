/- A part of the proof over this seat (own work; the framework that reads a Go function as a pure one, or a use of it). No condition of its own. -/
import Derived.Test.YtlkohcnigichaaaGreatLPlays3
import Derived.Shelf.Spec.SlicesInsertGrow
import Derived.KernelRfl
import Derived.Test.YtlkohcnigichaaaGreatProg
set_option linter.unusedVariables false
set_option linter.unusedSimpArgs false
set_option linter.unusedSectionVars false
noncomputable section
set_option linter.unusedVariables false
set_option linter.unusedSimpArgs false
namespace Go.PG
open Go.Proofs Go.Shelf Go.RowKit Go.Lib
structure InsL (P:Program) (ρ:Ren) (fn:Func):Prop where
 mixed:P.follows .mixedOrders=true
 f22:P.funcs[ρ.f 22]?=some fn
 bd:∃nm ta pr rs fl tn,fn={Body2.n22 ρ with name:=nm,targs:=ta,params:=pr,resultTypes:=rs,file:=fl,tmpNames:=tn}
 t3:P.underlying (ρ.t 3)=some (TypeDesc.int IntKind.i64)
 t4:P.underlying (ρ.t 4)=some (TypeDesc.bool)
 t24:P.underlying (ρ.t 24)=some (TypeDesc.slice (ρ.t 9))
variable {P:Program} {ρ:Ren} {fn:Func}
set_option maxHeartbeats 4000000 in
set_option maxRecDepth 100000 in
theorem zyq (L:InsL P ρ fn) {sz:Nat} (z9:∀w,(Go.sizeOf (ρ.t 9)).run P w=.ok sz w) (base vb:Option Addr) (n c i vc:Nat) (w:World) (hi:i≤n) (hnc:n≤c) (hc63:c≤9223372036854775807) (hnil:base=none→c=0):
  Calls P (ρ.f 22) #[.slice base n c,.int .i64 i,.slice vb 0 vc] w fun e w'=>e=.returned (.slice base n c)∧w'=w:=by
 have t3:=L.t3; have t4:=L.t4; have t24:=L.t24;have u3:=run_underlying L.t3; have u4:=run_underlying L.t4; have u24:=run_underlying L.t24;have mixed:=L.mixed;obtain ⟨nm,ta,pr,rs,fl,tn,hfn⟩:=L.bd;have F22:=L.f22;rw [hfn] at F22;cases base with
 | none=>
  have h0:=hnil rfl;subst h0;have h1:n=0:=by omega
  subst h1;have h2:i=0:=by omega
  subst h2
  go_enter F22,Body2.n22_ntmps ρ
  go_wp2
  go_ret
  exact ⟨rfl,rfl⟩
 | some b=>
  go_enter F22,Body2.n22_ntmps ρ
  go_wp2
  all_goals (go_ret; exact ⟨rfl,rfl⟩)
set_option maxHeartbeats 4000000 in
set_option maxRecDepth 100000 in
/-- at the end: append. -/
theorem ins_end (L:InsL P ρ fn) {sz:Nat} (z9:∀w,(Go.sizeOf (ρ.t 9)).run P w=.ok sz w) (base vb:Option Addr) (n c m vc:Nat) (w:World) (hm:0<m) (hnc:n≤c) (hc63:c≤9223372036854775807) (hnil:base=none→c=0)
  {u:Value} {w1:World} (hap:(Builtin.append_ #[ρ.t 24,ρ.t 24] (ρ.t 24) #[.slice base n c,.slice vb m vc]).run P w=.ok u w1):
  Calls P (ρ.f 22) #[.slice base n c,.int .i64 n,.slice vb m vc] w fun e w'=>e=.returned u∧w'=w1:=by
 have t3:=L.t3; have t4:=L.t4; have t24:=L.t24;have u3:=run_underlying L.t3; have u4:=run_underlying L.t4; have u24:=run_underlying L.t24;have mixed:=L.mixed;obtain ⟨nm,ta,pr,rs,fl,tn,hfn⟩:=L.bd;have F22:=L.f22;rw [hfn] at F22;have hz1:¬((m:Int)=0):=by omega
 cases base with
 | none=>
  have h0:=hnil rfl;subst h0;have h1:n=0:=by omega
  subst h1
  go_enter F22,Body2.n22_ntmps ρ
  go_wp2_with (at_builtin; refine Lib.wpList_append_run _ rfl _ _ (ρ.t 24) (ρ.t 24) rfl _ _ rfl rfl _ _ hap ?_)
  all_goals (go_ret; exact ⟨rfl,rfl⟩)
 | some b=>
  go_enter F22,Body2.n22_ntmps ρ
  go_wp2_with (at_builtin; refine Lib.wpList_append_run _ rfl _ _ (ρ.t 24) (ρ.t 24) rfl _ _ rfl rfl _ _ hap ?_)
  all_goals (go_ret; exact ⟨rfl,rfl⟩)
set_option maxHeartbeats 4000000 in
set_option maxRecDepth 100000 in
/-- no room: a new row. -/
theorem zys (L:InsL P ρ fn) {sz:Nat} (z9:∀w,(Go.sizeOf (ρ.t 9)).run P w=.ok sz w) (b g2:Nat) (vb:Option Addr) (n c i m vc G:Nat) (w w1 w2 w3:World) (hm:0<m) (hi:i<n) (hnc:n≤c) (hroom:c<n+m) (h63:n+m≤9223372036854775807)
  (hG:n+m≤G) (hG63:G≤9223372036854775807)
  (hz:∀ty,(Builtin.append_ #[ρ.t 24,ρ.t 3] ty #[.slice (some ⟨b,0,none⟩) i c,.int .i64 ((n:Int)+(m:Int) - (i:Int))]).run P w=.ok (.slice (some ⟨g2,0,none⟩) (n+m) G) w1)
  {u1 u2:Value} (hA:∀ty,(Builtin.copy_ #[ρ.t 24,ρ.t 24] ty #[.slice (some ⟨g2,i*sz,none⟩) (n+m - i) (G - i),.slice vb m vc]).run P w1=.ok u1 w2)
  (hB:∀ty,(Builtin.copy_ #[ρ.t 24,ρ.t 24] ty #[.slice (some ⟨g2,(i+m)*sz,none⟩) (n+m - (i+m)) (G - (i+m)),.slice (some ⟨b,i*sz,none⟩) (n - i) (c - i)]).run P w2.drew=.ok u2 w3):
  Calls P (ρ.f 22) #[.slice (some ⟨b,0,none⟩) n c,.int .i64 i,.slice vb m vc] w fun e w'=>e=.returned (.slice (some ⟨g2,0,none⟩) (n+m) G)∧w'=w3:=by
 have t3:=L.t3; have t4:=L.t4; have t24:=L.t24;have u3:=run_underlying L.t3; have u4:=run_underlying L.t4; have u24:=run_underlying L.t24;have mixed:=L.mixed;obtain ⟨nm,ta,pr,rs,fl,tn,hfn⟩:=L.bd;have F22:=L.f22;rw [hfn] at F22;have hz1:¬((m:Int)=0):=by omega
 have hz2:¬((i:Int)=(n:Int)):=by omega
 have hz3:(c:Int)<(n:Int)+(m:Int):=by omega
 have hc63:c≤9223372036854775807:=by omega
 have hGi:¬(G=i):=by omega
 have hGim:¬(G=i+m):=by omega
 have hci:¬(c=i):=by omega
 have hw1:IntKind.i64.wrap ((i:Int)+(m:Int))=(i:Int)+(m:Int):=by rw [IntKind.wrap_i64]; omega
 have hw2:IntKind.i64.wrap ((n:Int)+(m:Int))=(n:Int)+(m:Int):=by rw [IntKind.wrap_i64]; omega
 have hb1:(0:Int)≤(i:Int)+(m:Int):=by omega
 have hin:i≤n:=by omega
 have htn:((i:Int)+(m:Int)).toNat=i+m:=by omega
 have hb3:(i:Int)≤(n:Int):=by omega
 go_enter F22,Body2.n22_ntmps ρ
 go_wp2_with (first
  | (at_builtin; refine Lib.wpList_append_run _ rfl _ _ _ _ rfl _ _ rfl rfl _ _ (hz _) ?_)
  | (at_builtin; refine wpList_copy_runI _ rfl _ _ (ρ.t 24) (ρ.t 24) rfl _ _ rfl rfl (hA _) ?_))
 go_region_law_o (refine step_copy_runI rfl _ _ (ρ.t 24) (ρ.t 24) rfl (.slice (some ⟨g2,(i+m)*sz,none⟩) (n+m - (i+m)) (G - (i+m))) (.slice (some ⟨b,i*sz,none⟩) (n - i) (c - i)) (by simp [Act.eval,Act.put]) (by simp [Act.eval,Act.put]) (hB (ρ.t 3)) ?_)
 go_wp2
 go_ret
 exact ⟨rfl,rfl⟩
set_option maxHeartbeats 4000000 in
set_option maxRecDepth 100000 in
/-- there is room: in place. -/
theorem zns (L:InsL P ρ fn) {sz:Nat} (z9:∀w,(Go.sizeOf (ρ.t 9)).run P w=.ok sz w) (b:Nat) (vb:Option Addr) (n c i m vc:Nat) (w w2 w3:World) (hm:0<m) (hi:i<n) (hroom:n+m≤c) (hc63:c≤9223372036854775807)
  (hov:(callFunc (ρ.f 29) #[.slice vb m vc,.slice (some ⟨b,(i+m)*sz,none⟩) (n+m - (i+m)) (c - (i+m))]).run P w=.ok (.value (.bool false)) w)
  {u1 u2:Value} (hA:∀ty,(Builtin.copy_ #[ρ.t 24,ρ.t 24] ty #[.slice (some ⟨b,(i+m)*sz,none⟩) (n+m - (i+m)) (c - (i+m)),.slice (some ⟨b,i*sz,none⟩) (n+m - i) (c - i)]).run P w.drew=.ok u1 w2)
  (hB:∀ty,(Builtin.copy_ #[ρ.t 24,ρ.t 24] ty #[.slice (some ⟨b,i*sz,none⟩) (n+m - i) (c - i),.slice vb m vc]).run P w2=.ok u2 w3):
  Calls P (ρ.f 22) #[.slice (some ⟨b,0,none⟩) n c,.int .i64 i,.slice vb m vc] w fun e w'=>e=.returned (.slice (some ⟨b,0,none⟩) (n+m) c)∧w'=w3:=by
 have t3:=L.t3; have t4:=L.t4; have t24:=L.t24;have u3:=run_underlying L.t3; have u4:=run_underlying L.t4; have u24:=run_underlying L.t24;have mixed:=L.mixed;obtain ⟨nm,ta,pr,rs,fl,tn,hfn⟩:=L.bd;have F22:=L.f22;rw [hfn] at F22;have hz1:¬((m:Int)=0):=by omega
 have hz2:¬((i:Int)=(n:Int)):=by omega
 have hw1:IntKind.i64.wrap ((i:Int)+(m:Int))=(i:Int)+(m:Int):=by rw [IntKind.wrap_i64]; omega
 have hb1:(0:Int)≤(i:Int)+(m:Int):=by omega
 have hin:i≤n:=by omega
 have htn:((i:Int)+(m:Int)).toNat=i+m:=by omega
 have hb2:¬(c=i+m):=by omega
 have hb3:(i:Int)≤(n:Int)+(m:Int):=by omega
 have hb4:¬(c=i):=by omega
 go_enter F22,Body2.n22_ntmps ρ
 go_wp2_with (simp only [hov])
 go_region_law_o (refine step_copy_runI rfl _ _ (ρ.t 24) (ρ.t 24) rfl (.slice (some ⟨b,(i+m)*sz,none⟩) (n+m - (i+m)) (c - (i+m))) (.slice (some ⟨b,i*sz,none⟩) (n+m - i) (c - i)) (by simp [Act.eval,Act.put]) (by simp [Act.eval,Act.put]) (hA _) ?_)
 go_wp2_with (at_builtin; refine wpList_copy_runI _ rfl _ _ (ρ.t 24) (ρ.t 24) rfl _ _ rfl rfl (hB _) ?_)
 go_ret
 exact ⟨rfl,rfl⟩
end Go.PG
set_option linter.unusedVariables false
set_option linter.unusedSimpArgs false
namespace Go.PG
open Go.Proofs Go.Shelf Go.RowKit
section
variable {C:Ctx} {tm:Nat→SV} {me:Nat→Option Blk} {pl:Nat→Plc} {S:Nat→Prop} {a:Act} {w:World} {P:Program} {T:Tab} {ρ:Ren} {fn:Func}
theorem O7 (w:World) (tS tR e:TypeId) (ht:P.underlying tS=some (.slice e)) (size:Nat) (hz:∀w,(Go.sizeOf e).run P w=.ok size w)
  (a b:Addr) (la ca lb cb:Nat) (hne:a.block≠b.block) {c1 c2:Array Value} {t1 t2:TypeId} {f1:Nat×Nat}
  (h1:w.heap[a.block]?=some (.cells c1 t1 f1)) (h2:w.heap[b.block]?=some (.cells c2 t2 (0,0))) (hk1:c1.size≠0) (hk:c2.size≠0):
  (Extern.SlicesOverlaps.overlaps #[tS,tS] #[tR] #[.slice (some a) la ca,.slice (some b) lb cb]).run P w=.ok (.bool false) w:=by
 have hnb:(a.block !=b.block)=true:=by simpa using hne
 have hnb':(a.block==b.block)=false:=by simpa using hne
 have hsa:w.shape? a.block=some (t1,c1.size):=by simp [World.shape?,h1]
 have hsb:w.shape? b.block=some (t2,c2.size):=by simp [World.shape?,h2]
 have hfb:w.frozen? b=false:=by simp [World.frozen?,h2]
 have hfe:w.frozen? {block:=b.block,off:=c2.size}=false:=by simp [World.frozen?,h2]
 change Sem.run P (α:=Value) (do
  let some t:=(#[tS,tS]:Array TypeId)[0]? | stuck "slices.overlaps: no parameter types"
  let .slice elem ←underlying t | stuck "slices.overlaps: slice type expected"
  let size ←sizeOf elem
  match (some a:Option Addr),(some b:Option Addr) with
  | some a,some b=>
   if la=0∨lb=0∨size=0 then pure (Value.bool false)
   else if a.block !=b.block&&(←frozen a)&&(←frozen b) then unsupported .addressObserved
   else do
    if a.block !=b.block then do
     noView a; noView b
     if ←mayBeOne a b then return Value.bool ((←choose (.extern "sameAddr.stringBytes" 2))==1)
    pure (Value.bool (a.block==b.block&&a.off<b.off+lb*size&&b.off<a.off+la*size))
  | _,_=>pure (Value.bool false)) w=_
 by_cases h0:la=0∨lb=0∨size=0
 ·simp [run_underlying ht,hz,h0]
 ·generalize c2.size=kB at*
  generalize c1.size=kA at*;cases kA with
  | zero=>exact absurd rfl hk1
  | succ kA=>
  cases kB with
  | zero=>exact absurd rfl hk
  | succ kB=>
   cases hfa:w.frozen? a<;>cases hfe1:w.frozen? {block:=a.block,off:=kA+1}<;>
    simp [run_underlying ht,hz,h0,hnb,hnb',frozen,noView,viewAt,mayBeOne,stringish,shape,Sem.run,hsa,hsb,hfb,hfe,hfa,hfe1]
theorem Ol (w:World) (c c':Array Value) (t:TypeId):(w.alloc (.cells c t)).setRow w.heap.size c'=w.alloc (.cells c' t):=by
 have:((w.heap.push (.cells c t)).modify w.heap.size fun | .cells _ elem frozen=>.cells c' elem frozen | o=>o)=w.heap.push (.cells c' t):=by
  apply Array.ext
  ·simp
  ·intro i h1 h2
   rw [Array.getElem_modify];simp only [Array.getElem_push]
   by_cases h:i<w.heap.size
   ·simp [h,show ¬w.heap.size=i by omega]
   ·simp at h2
    have:i=w.heap.size:=by omega
    subst this;simp
 simp only [World.setRow,World.alloc];exact congrArg (fun h=>{w with heap:=h}) this
theorem U9 (hT:Ay P T) {t ts ty et:TypeId} {sz:Nat} (hd:Bt T t=some (.slice et)) (hz:∀w,(sizeOf et).run P w=.ok sz w) {g o dl dc sl:Nat} {vs:Value} {ds:List Value} {c:Array Value} {tb:TypeId}
  (hl:(Builtin.lenOf vs).run P w=.ok sl w) (hf:(Builtin.firstCells sz (min sl dl) vs).run P w=.ok ds.toArray w) (hg:w.heap[g]?=some (.cells c tb (0,0))) (hfit:o+ds.length≤c.size) (h1:∀v∈ds,v.oneCell'=true):
  (Builtin.copy_ #[t,ts] ty #[.slice (some ⟨g,o,none⟩) dl dc,vs]).run P w=.ok (goInt (min sl dl:Nat)) (w.setRow g (c.toList.take o++ds++c.toList.drop (o+ds.length)).toArray):=by
 refine I1 hT hd hz hl hf ?_;have:=run_storeCells_at P g o tb ds 0 c w hg (by omega) h1;simpa using this
theorem row_seg {e:Kd} {l:List e.T} {c:Array Value} (h:RdL (Rd S w e) l (c.toList.take (l.length*e.size))) (hc:l.length*e.size≤c.size) (i:Nat) (hi:i≤l.length):
  RdL (Rd S w e) (l.take i) (c.toList.take (i*e.size))∧RdL (Rd S w e) (l.drop i) ((c.toList.drop (i*e.size)).take ((l.length - i)*e.size)):=by
 have h1:=RdL.window (Rd.length e) h 0 i;have h2:=RdL.window (Rd.length e) h i (l.length - i);rw [Nat.zero_mul,List.drop_zero,List.drop_zero,List.take_take,Nat.min_eq_left (Nat.mul_le_mul_right _ hi)] at h1;refine ⟨h1,?_⟩;rw [List.take_of_length_le (by simp)] at h2;rw [List.drop_take,List.take_take] at h2
 rwa [show min ((l.length - i)*e.size) (l.length*e.size - i*e.size)=(l.length - i)*e.size by rw [←Nat.sub_mul]; omega] at h2
theorem zyr (hT:Ay P T) (L:InsL P ρ fn) {e:Kd} (hsz:0<e.size) (hkt:tkd T (ρ.t 24)=some (.sl e)) (hd:Bt T (ρ.t 24)=some (.slice (ρ.t 9))) {dd:TyD} (hdd:Hq T (ρ.t 9)=some dd)
  (hov:∀(args:Array Value) (w:World) (b:Value) (w':World),(Extern.SlicesOverlaps.overlaps #[ρ.t 24,ρ.t 24] #[ρ.t 4] args).run P w=.ok b w'→(callFunc (ρ.f 29) args).run P w=.ok (.value b) w')
  {j ver:Nat} {l vs:List e.T} {i:Nat} (hjn:C.pp.length≤j) (hI:Inv C tm me pl S a w) (hm:me j=some (.row e l ver false)) {v0 vv:Value} (hrow:RowV (pl j) l.length v0) (hv:RdSl (Rd S w e) S w e.size vs vv)
  (hi:i≤l.length) (hlim:l.length+vs.length≤LIMB/dd.bytes):
  Calls P (ρ.f 22) #[v0,.int .i64 i,vv] w fun
   | .returned u,w'=>C9 C tm me (.own j (ver+1)) [(j,.row e (l.take i++vs++l.drop i) (ver+1) false)] a u w'
   | _,_=>False:=by
 have z9:∀w,(sizeOf (ρ.t 9)).run P w=.ok e.size w:=fun w=>Av hT w (Fa hT hkt hd)
 obtain ⟨lim1,lim2⟩:=limb hlim;obtain ⟨ti,hti,hti2,hti3,hti4⟩:=(hT _ dd hdd).info;have hkd:dd.kd=some e:=by
  have:=Fa hT hkt hd;simpa [tkd,hdd] using this
 obtain ⟨z,hz1,hz2,_⟩:=hti4 e hkd;have hisz:ti.size=e.size:=by rw [hti2,((hT _ dd hdd).kd e hkd).1]
 have hzs:=Gv e hz2;have hsum:l.length+vs.length≤140737488355328:=by
  rcases Nat.eq_zero_or_pos dd.bytes with h0 | h0
  ·have:=lim2 h0; omega
  ·exact Nat.le_trans (Nat.le_mul_of_pos_right _ h0) lim1
 -- nothing to be put in
 have hvv:∃vb vc,vv=.slice vb vs.length vc:=by
  rcases hv with ⟨h,h0⟩ | ⟨g,off,cap,c,t,fr,h,_⟩
  ·exact ⟨none,0,by rw [h,h0]; rfl⟩
  ·exact ⟨_,_,h⟩
 obtain ⟨vb,vc,hvv⟩:=hvv;have hv0:∃base cap,v0=.slice base l.length cap∧l.length≤cap∧cap≤maxLen∧(base=none→cap=0):=by
  rcases hI.mem j _ hm with ⟨hg,hl0,hc0⟩ | ⟨g,c,tb,hg,hoff,hc,h6,h7,h8,h9,h10⟩
  ·rcases hrow with ⟨_,h⟩ | ⟨g,hg',_⟩
   ·exact ⟨none,0,by rw [h,hl0]; rfl,by rw [hl0]; simp,by simp,fun _=>rfl⟩
   ·rw [hg] at hg'; cases hg'
  ·rcases hrow with ⟨hg',_⟩ | ⟨g',hg',h⟩
   ·rw [hg] at hg'; cases hg'
   ·exact ⟨_,_,h,h6,h7,fun h=>by cases h⟩
 obtain ⟨base,cap,hv0,hlc,hcm,hnil⟩:=hv0;have hcm':cap≤9223372036854775807:=by simp only [maxLen] at hcm; omega
 by_cases hv00:vs=[]
 ·subst hv00
  have:=zyq L z9 base vb l.length cap i vc w hi hlc hcm' hnil;rw [hv0,hvv];refine this.mono fun x w' hx=>?_
  obtain ⟨rfl,rfl⟩:=hx;simp only;rw [List.append_nil,List.take_append_drop];refine ⟨pl,S,?_,?_⟩
  ·rw [Af,Ae]; exact hI.bump hm (Nat.le_succ _)
  ·rw [Af,Ae,←hv0]
   exact ⟨e,l,ver+1,false,Ak _ _ _,Nat.le_refl _,fun _=>hrow⟩
 have hpos:0<vs.length:=List.length_pos_iff.2 hv00
 by_cases hin:i=l.length
 ·subst hin
  have h:=K9 (C:=C) (tm:=tm) (me:=me) (pl:=pl) (S:=S) (a:=a) (w:=w) (ty:=ρ.t 24) hT (np:=C.pp.length) rfl (rd:=me) (t:=ρ.t 24) (s:=.own j ver) (x:=.val (.sl e) vs) (nx:=0) (vs:=v0) (vx:=vv)
   (r:=⟨true,.own j (ver+1),[(j,.row e (l++vs) (ver+1) false)],[j],0⟩) (by
    have hb:Nat.blt j C.pp.length=false:=by
     cases hb:Nat.blt j C.pp.length with
     | false=>rfl
     | true=>simp [Nat.blt_eq] at hb; omega
    simp [Vn,hkt,hd,hdd,rdSl,TV.as_self,hm,hb,hlim]) rfl (fun _ _=>rfl) hI ⟨e,l,ver,false,hm,Nat.le_refl _,fun _=>hrow⟩ (VRd.sl.2 hv)
  obtain ⟨u,w1,hrun,haft⟩:=h;rw [hv0,hvv] at hrun;have:=ins_end L z9 base vb l.length cap vs.length vc w hpos hlc hcm' hnil hrun;rw [hv0,hvv];refine this.mono fun x w' hx=>?_
  obtain ⟨rfl,rfl⟩:=hx;simp only;rw [List.take_length,List.drop_length,List.append_nil];exact haft
 have hil:i<l.length:=by omega
 rcases hI.mem j _ hm with ⟨hg,hl0,hc0⟩ | ⟨g,c,tb,hg,hoff,hc,h6,h7,h8,h9,h10⟩
 ·rw [hl0] at hil; simp at hil
 have hvb:v0=.slice (some ⟨g,0,none⟩) l.length (pl j).cap:=by
  rcases hrow with ⟨hg',_⟩ | ⟨g',hg',h⟩
  ·rw [hg] at hg'; cases hg'
  ·rw [hg] at hg'; cases hg'; exact h
 rw [hvb] at hv0;simp only [Value.slice.injEq] at hv0;obtain ⟨rfl,_,rfl⟩:=hv0;rw [hvb,hvv];have hnS:¬S g:=fun h=>by have:=h10.2 h; cases this
 have hlsz:l.length*e.size≤c.size:=by rw [h8]; exact Nat.mul_le_mul_right _ h6
 have hcl:c.toList.length=c.size:=by simp
 obtain ⟨hr1,hr2⟩:=row_seg h9 hlsz i hi;have hsg:((c.toList.drop (i*e.size)).take ((l.length - i)*e.size)).length=(l.length - i)*e.size:=by
  have:=RdL.length (Rd.length e) hr2;rw [this,List.length_drop]
 have hsg1:(c.toList.take (i*e.size)).length=i*e.size:=by
  have:=RdL.length (Rd.length e) hr1;rw [this,List.length_take,Nat.min_eq_left hi]
 have hgw:g<w.heap.size:=(Array.getElem?_eq_some_iff.1 hc).1;obtain ⟨seg,hseg⟩:∃seg,seg=(c.toList.drop (i*e.size)).take ((l.length - i)*e.size):=⟨_,rfl⟩
 rw [←hseg] at hr2 hsg;have him:(l.length+vs.length)*e.size=i*e.size+vs.length*e.size+(l.length - i)*e.size:=by
  rw [←Nat.add_mul,←Nat.add_mul]; congr 1; omega
 have hlen3:(l.take i++vs++l.drop i).length=l.length+vs.length:=by simp; omega
 by_cases hroom:l.length+vs.length≤(pl j).cap
 ·-- in place
  have hfitc:(l.length+vs.length)*e.size≤c.size:=by rw [h8]; exact Nat.mul_le_mul_right _ hroom
  have hsA:min (l.length+vs.length - i) (l.length+vs.length - (i+vs.length))=l.length - i:=by omega
  have hfA:(Builtin.firstCells e.size (min (l.length+vs.length - i) (l.length+vs.length - (i+vs.length))) (.slice (some ⟨g,i*e.size,none⟩) (l.length+vs.length - i) ((pl j).cap - i))).run P w.drew=.ok seg.toArray w.drew:=by
   rw [hsA];exact run_firstCells_some (P:=P) w.drew e.size (l.length - i) ⟨g,i*e.size,none⟩ _ _ seg hsg (fun q u hq=>by
    rw [Dn,cell_of_row w.drew g (i*e.size+q) c tb (0,0) hc];exact Fc hseg.symm q u hq)
  have hA:∀ty,_:=fun ty=>U9 (P:=P) (w:=w.drew) hT hd (ts:=ρ.t 24) (ty:=ty) z9 (g:=g) (o:=(i+vs.length)*e.size) (dl:=l.length+vs.length - (i+vs.length)) (dc:=(pl j).cap - (i+vs.length)) (by simp [Builtin.lenOf]) hfA hc (by rw [hsg,←Nat.add_mul]; refine Nat.le_trans (Nat.mul_le_mul_right _ ?_) hfitc; omega) (RdL.one hr2)
  obtain ⟨c2,hc2⟩:∃c2:Array Value,c2=(c.toList.take ((i+vs.length)*e.size)++seg++c.toList.drop ((i+vs.length)*e.size+seg.length)).toArray:=⟨_,rfl⟩
  rw [←hc2] at hA;have hc2l:c2.toList=c.toList.take ((i+vs.length)*e.size)++seg++c.toList.drop ((i+vs.length)*e.size+seg.length):=by rw [hc2]
  have hvsz:(i+vs.length)*e.size+seg.length≤c.size:=by rw [hsg,←Nat.add_mul]; refine Nat.le_trans (Nat.mul_le_mul_right _ ?_) hfitc; omega
  have hc2s:c2.size=c.size:=by
   have:=congrArg List.length hc2l;simp only [Array.length_toList,List.length_append,List.length_take,List.length_drop] at this;omega
  have hg2:(w.drew.setRow g c2).heap[g]?=some (.cells c2 tb (0,0)):=setRow_heap w.drew g c _ tb (0,0) hc;have hs2:∀b,S b→S b∧(w.drew.setRow g c2).heap[b]?=w.heap[b]?:=fun b hb=>⟨hb,setRow_other w.drew g b _ (fun e=>hnS (e ▸ hb))⟩
  have hv2:RdSl (Rd S (w.drew.setRow g c2) e) S (w.drew.setRow g c2) e.size vs (.slice vb vs.length vc):=by
   rw [←hvv]; exact RdSl.mono hs2 (fun x cs h=>Rd.mono hs2 e x cs h) hv
  obtain ⟨news,hf,hnr⟩:=hv2.first (P:=P) (Rd.length e) (n:=vs.length) (Nat.le_refl _);rw [List.take_length] at hnr;have hnl:=RdL.length (Rd.length e) hnr;have hlenv:=hv2.len (P:=P);have hB:∀ty,_:=fun ty=>U9 (P:=P) (w:=w.drew.setRow g c2) hT hd (ts:=ρ.t 24) (ty:=ty) z9 (g:=g) (o:=i*e.size) (dl:=l.length+vs.length - i) (dc:=(pl j).cap - i) hlenv
   (by rw [Nat.min_eq_left (by omega)]; exact hf) hg2 (by rw [hnl,hc2s]; omega) (RdL.one hnr)
  have hvb':∃ad,vb=some ad∧∃cv tv fv,w.heap[ad.block]?=some (.cells cv tv fv)∧cv.size≠0∧ad.block≠g:=by
   rcases hv with ⟨_,h⟩ | ⟨gv,off,capv,cv,tv,fv,h,q1,q2,q3,q4⟩
   ·exact absurd h hv00
   ·rw [h] at hvv
    simp only [Value.slice.injEq] at hvv;refine ⟨⟨gv,off,none⟩,hvv.1.symm,cv,tv,fv,q3,fun h0=>?_,fun h=>hnS (h ▸ q2)⟩;have:=RdL.length (Rd.length e) q4;simp at this;have h5:0<vs.length*e.size:=Nat.mul_pos hpos hsz;omega
  obtain ⟨ad,rfl,cv,tv,fv,q3,q4,q5⟩:=hvb';have hc0:c.size≠0:=by
   have:0<(l.length+vs.length)*e.size:=Nat.mul_pos (by omega) hsz;omega
  have hover:=hov #[.slice (some ad) vs.length vc,.slice (some ⟨g,(i+vs.length)*e.size,none⟩) (l.length+vs.length - (i+vs.length)) ((pl j).cap - (i+vs.length))] w _ _
   (O7 (P:=P) w (ρ.t 24) (ρ.t 4) (ρ.t 9) (Aj hT hd) e.size z9 ad ⟨g,(i+vs.length)*e.size,none⟩ _ _ _ _ q5 q3 hc q4 hc0)
  have:=zns L z9 g (some ad) l.length (pl j).cap i vs.length vc w _ _ hpos hil hroom hcm' hover hA hB;refine this.mono fun x w' hx=>?_
  obtain ⟨rfl,rfl⟩:=hx;simp only;rw [setRow_setRow];obtain ⟨c3,hc3⟩:∃c3:Array Value,c3=(c2.toList.take (i*e.size)++news++c2.toList.drop (i*e.size+news.length)).toArray:=⟨_,rfl⟩
  rw [←hc3];have hc3l:c3.toList=c2.toList.take (i*e.size)++news++c2.toList.drop (i*e.size+news.length):=by rw [hc3]
  have hc3s:c3.size=c.size:=by
   have:=congrArg List.length hc3l;simp only [Array.length_toList,List.length_append,List.length_take,List.length_drop] at this;omega
  have e1:c2.toList.take (i*e.size)=c.toList.take (i*e.size):=by
   rw [hc2l,List.append_assoc,List.take_append_of_le_length (by simp; rw [hcl.symm] at hvsz; simp at hvsz; rw [Nat.add_mul]; omega),List.take_take,Nat.min_eq_left (by rw [Nat.add_mul]; omega)]
  have e2:c2.toList.drop (i*e.size+news.length)=seg++c.toList.drop ((i+vs.length)*e.size+seg.length):=by
   have hh:(c.toList.take ((i+vs.length)*e.size)).length=i*e.size+news.length:=by
    rw [List.length_take,hnl,←Nat.add_mul,hcl]; omega
   rw [hc2l,List.append_assoc,←hh,List.drop_left]
  have e3:c3.toList.take ((l.take i++vs++l.drop i).length*e.size)=c.toList.take (i*e.size)++news++seg:=by
   rw [hc3l,e1,e2,←List.append_assoc];have hh:(c.toList.take (i*e.size)++news++seg).length=(l.take i++vs++l.drop i).length*e.size:=by
    rw [hlen3,him,List.length_append,List.length_append,hsg,hsg1,hnl]
   rw [←hh,List.take_left]
  have hs3:∀b,S b→S b∧(w.drew.setRow g c3).heap[b]?=w.heap[b]?:=fun b hb=>⟨hb,setRow_other w.drew g b _ (fun e=>hnS (e ▸ hb))⟩
  have hs23:∀b,S b→S b∧(w.drew.setRow g c3).heap[b]?=(w.drew.setRow g c2).heap[b]?:=fun b hb=>⟨hb,by rw [(hs3 b hb).2,(hs2 b hb).2]⟩
  refine ⟨pl,S,?_,?_⟩
  ·rw [Af,Ae]
   refine (hI.drew).write hm hg hnS hc hc3s (by rw [hoff]; simp) (fun h=>by obtain ⟨k,x,s,e⟩:=h; cases e) rfl ⟨fun h=>(by obtain ⟨k,x,s,e⟩:=h; cases e),fun h=>(by obtain ⟨k,x,s,e⟩:=h; cases e)⟩ ⟨rfl,Nat.le_succ _,fun h=>absurd h (by omega)⟩ ?_;refine .inr ⟨g,_,tb,hg,hoff,setRow_heap w.drew g c _ tb (0,0) hc,by rw [hlen3]; exact hroom,h7,by rw [hc3s]; exact h8,?_,by simp; exact hnS⟩;rw [e3];exact RdL.append (RdL.append (RdL.mono hs3 hr1) (RdL.mono hs23 hnr)) (RdL.mono hs3 hr2)
  ·rw [Af,Ae]
   exact ⟨e,_,ver+1,false,Ak _ _ _,Nat.le_refl _,fun _=>.inr ⟨g,hg,by rw [hlen3]⟩⟩
 ·-- a new row
  have hik:i+(l.length+vs.length - i)=l.length+vs.length:=by omega
  have hkk:(l.length:Int)+(vs.length:Int) - (i:Int)=((l.length+vs.length - i:Nat):Int):=by omega
  have hold:(Builtin.firstCells ti.size i (.slice (some ⟨g,0,none⟩) i (pl j).cap)).run P w.drew=.ok (c.toList.take (i*e.size)).toArray w.drew:=by
   rw [hisz];exact run_firstCells_some (P:=P) w.drew e.size i ⟨g,0,none⟩ _ _ _ hsg1 (fun q u hq=>by
    rw [Dn,cell_of_row w.drew g (0+q) c tb (0,0) hc];exact Fc (off:=0) (by rw [List.drop_zero]) q u hq)
  have hbl:dd.bytes=0→False:=fun h0=>by have:=lim2 h0; omega
  have hb48:(l.length+vs.length - i)*ti.bytes≤281474976710656:=by
   rw [hti3];refine Nat.le_trans (Nat.mul_le_mul_right _ (Nat.sub_le _ _)) (by omega)
  have hz:∀ty,_:=fun ty=>Lib.run_append_grow_zeros (P:=P) w (ρ.t 24) (ρ.t 3) ty (ρ.t 9) ti z .i64 .i64 (Aj hT hd) L.t3 hti hz1 (some ⟨g,0,none⟩) i (pl j).cap _ hold (l.length+vs.length - i) (by omega) (by omega) (by omega) (by omega) hb48 (by rw [hti3,hik]; exact growslice_fits (by omega) lim1)
  rw [hik,←hkk] at hz;obtain ⟨Gc,hGc⟩:∃G,G=grownCap w (l.length+vs.length) (pl j).cap (ρ.t 9):=⟨_,rfl⟩
  rw [←hGc] at hz;have hG1:l.length+vs.length≤Gc:=by rw [hGc]; exact grownCap_ge w _ _ _
  have hG2:Gc≤maxLen:=by rw [hGc]; exact grownCap_le_maxLen w _ _ _ (by simp only [maxLen]; omega)
  have hG3:Gc≤9223372036854775807:=by simp only [maxLen] at hG2; omega
  obtain ⟨R1,hR1⟩:∃R:Array Value,R=(c.toList.take (i*e.size)).toArray++Builtin.zeroCells z.cells (l.length+vs.length - i)++Builtin.zeroCells z.cells (Gc - (l.length+vs.length)):=⟨_,rfl⟩
  rw [←hR1] at hz;have hR1s:R1.size=Gc*e.size:=by
   rw [hR1];simp only [Array.size_append,List.size_toArray,size_zeroCells,hzs,hsg1];rw [←Nat.add_mul,←Nat.add_mul]; congr 1; omega
  have hGsz:(l.length+vs.length)*e.size≤Gc*e.size:=Nat.mul_le_mul_right _ hG1;have hg2:(w.drew.alloc (.cells R1 (ρ.t 9))).heap[w.heap.size]?=some (.cells R1 (ρ.t 9) (0,0)):=heap_alloc_new w.drew _;have ho2:∀b,b<w.heap.size→∀R,(w.drew.alloc (.cells R (ρ.t 9))).heap[b]?=w.heap[b]?:=fun b hb R=>heap_alloc_old w.drew _ hb
  have hs2:∀b,S b→S b∧(w.drew.alloc (.cells R1 (ρ.t 9))).heap[b]?=w.heap[b]?:=fun b hb=>⟨hb,ho2 b (hI.sfr b hb).1 R1⟩
  have hv2:RdSl (Rd S (w.drew.alloc (.cells R1 (ρ.t 9))) e) S (w.drew.alloc (.cells R1 (ρ.t 9))) e.size vs (.slice vb vs.length vc):=by
   rw [←hvv]; exact RdSl.mono hs2 (fun x cs h=>Rd.mono hs2 e x cs h) hv
  obtain ⟨news,hf,hnr⟩:=hv2.first (P:=P) (Rd.length e) (n:=vs.length) (Nat.le_refl _);rw [List.take_length] at hnr;have hnl:=RdL.length (Rd.length e) hnr;have hlenv:=hv2.len (P:=P);have hA:∀ty,_:=fun ty=>U9 (P:=P) (w:=w.drew.alloc (.cells R1 (ρ.t 9))) hT hd (ts:=ρ.t 24) (ty:=ty) z9 (g:=w.heap.size) (o:=i*e.size) (dl:=l.length+vs.length - i) (dc:=Gc - i) hlenv
   (by rw [Nat.min_eq_left (by omega)]; exact hf) hg2 (by rw [hnl,hR1s]; omega) (RdL.one hnr)
  obtain ⟨R2,hR2⟩:∃R2:Array Value,R2=(R1.toList.take (i*e.size)++news++R1.toList.drop (i*e.size+news.length)).toArray:=⟨_,rfl⟩
  have hR2l:R2.toList=R1.toList.take (i*e.size)++news++R1.toList.drop (i*e.size+news.length):=by rw [hR2]
  have hw2:(w.drew.alloc (.cells R1 (ρ.t 9))).setRow w.heap.size R2=w.drew.alloc (.cells R2 (ρ.t 9)):=Ol w.drew R1 R2 _;rw [←hR2,hw2] at hA;have hR1l:R1.toList.length=R1.size:=by simp
  have hR2s:R2.size=Gc*e.size:=by
   have:=congrArg List.length hR2l;simp only [Array.length_toList,List.length_append,List.length_take,List.length_drop] at this;omega
  have hR2l':R2.toList.length=R2.size:=by simp
  have hcB:(w.drew.alloc (.cells R2 (ρ.t 9))).drew.heap[g]?=some (.cells c tb (0,0)):=by
   show (w.drew.alloc (.cells R2 (ρ.t 9))).heap[g]?=_;rw [ho2 g hgw]; exact hc
  have hfB:(Builtin.firstCells e.size (min (l.length - i) (l.length+vs.length - (i+vs.length))) (.slice (some ⟨g,i*e.size,none⟩) (l.length - i) ((pl j).cap - i))).run P (w.drew.alloc (.cells R2 (ρ.t 9))).drew=.ok seg.toArray (w.drew.alloc (.cells R2 (ρ.t 9))).drew:=by
   rw [show min (l.length - i) (l.length+vs.length - (i+vs.length))=l.length - i by omega];exact run_firstCells_some (P:=P) _ e.size (l.length - i) ⟨g,i*e.size,none⟩ _ _ seg hsg (fun q u hq=>by
    rw [Dn,cell_of_row _ g (i*e.size+q) c tb (0,0) hcB];exact Fc hseg.symm q u hq)
  have hvsz:(i+vs.length)*e.size+seg.length≤R2.size:=by rw [hsg,hR2s,←Nat.add_mul]; refine Nat.le_trans (Nat.mul_le_mul_right _ ?_) hGsz; omega
  have hB:∀ty,_:=fun ty=>U9 (P:=P) (w:=(w.drew.alloc (.cells R2 (ρ.t 9))).drew) hT hd (ts:=ρ.t 24) (ty:=ty) z9 (g:=w.heap.size) (o:=(i+vs.length)*e.size) (dl:=l.length+vs.length - (i+vs.length)) (dc:=Gc - (i+vs.length)) (by simp [Builtin.lenOf]) hfB
   (c:=R2) (tb:=ρ.t 9) (heap_alloc_new w.drew _) hvsz (RdL.one hr2)
  have:=zys L z9 g w.heap.size vb l.length (pl j).cap i vs.length vc Gc w _ _ _ hpos hil hlc (by omega) (by omega) hG1 hG3 hz hA hB;refine this.mono fun x w' hx=>?_
  obtain ⟨rfl,rfl⟩:=hx;simp only;obtain ⟨R3,hR3⟩:∃R3:Array Value,R3=(R2.toList.take ((i+vs.length)*e.size)++seg++R2.toList.drop ((i+vs.length)*e.size+seg.length)).toArray:=⟨_,rfl⟩
  have hR3l:R3.toList=R2.toList.take ((i+vs.length)*e.size)++seg++R2.toList.drop ((i+vs.length)*e.size+seg.length):=by rw [hR3]
  have hw3:(w.drew.alloc (.cells R2 (ρ.t 9))).drew.setRow w.heap.size R3=w.drew.drew.alloc (.cells R3 (ρ.t 9)):=Ol w.drew.drew R2 R3 _;rw [←hR3,hw3];have hR3s:R3.size=Gc*e.size:=by
   have:=congrArg List.length hR3l;simp only [Array.length_toList,List.length_append,List.length_take,List.length_drop] at this;omega
  have e1:R2.toList.take ((i+vs.length)*e.size)=c.toList.take (i*e.size)++news:=by
   have hh:(c.toList.take (i*e.size)++news).length=(i+vs.length)*e.size:=by rw [List.length_append,hsg1,hnl,Nat.add_mul]
   have e0:R1.toList.take (i*e.size)=c.toList.take (i*e.size):=by
    rw [hR1];simp only [Array.toList_append,List.append_assoc];rw [List.take_append_of_le_length (by rw [List.toList_toArray,hsg1]; exact Nat.le_refl _),List.toList_toArray,List.take_take,Nat.min_self]
   rw [hR2l,e0,←hh,List.take_left]
  have e3:R3.toList.take ((l.take i++vs++l.drop i).length*e.size)=c.toList.take (i*e.size)++news++seg:=by
   rw [hR3l,e1];have hh:(c.toList.take (i*e.size)++news++seg).length=(l.take i++vs++l.drop i).length*e.size:=by
    rw [hlen3,him,List.length_append,List.length_append,hsg,hsg1,hnl]
   rw [←hh,List.take_left]
  have hs3:∀b,S b→S b∧w.drew.drew.heap[b]?=w.heap[b]?:=fun b hb=>⟨hb,rfl⟩
  have hs23:∀b,S b→S b∧w.drew.drew.heap[b]?=(w.drew.alloc (.cells R1 (ρ.t 9))).heap[b]?:=fun b hb=>⟨hb,by rw [(hs2 b hb).2]; rfl⟩
  refine ⟨upd pl j ⟨some w.drew.drew.heap.size,0,Gc⟩,S,?_,?_⟩
  ·rw [Af,Ae]
   refine (hI.drew.drew).grownRow (fun b0 hb0=>by rw [hm] at hb0; cases hb0; exact ⟨_,_,_,rfl,Nat.lt_succ_self _⟩) hjn (by rw [hlen3]; exact hG1) hG2 hR3s ?_;rw [e3];exact RdL.append (RdL.append (RdL.mono hs3 hr1) (RdL.mono hs23 hnr)) (RdL.mono hs3 hr2)
  ·rw [Af,Ae]
   exact ⟨e,_,ver+1,false,Ak _ _ _,Nat.le_refl _,fun _=>.inr ⟨w.heap.size,by simp,by rw [hlen3]; simp⟩⟩
end
end Go.PG
namespace Go.PG
open Go.Proofs Go.Shelf Go.RowKit
variable {P:Program} {T:Tab} {ρ:Ren} {fn:Func}
theorem ins_ok (hT:Ay P T) (L:InsL P ρ fn) (hname:(fn.name== "runtime.NumGoroutine")=false) {e:Kd} (hsz:0<e.size) (hkt:tkd T (ρ.t 24)=some (.sl e)) (hd:Bt T (ρ.t 24)=some (.slice (ρ.t 9))) {dd:TyD} (hdd:Hq T (ρ.t 9)=some dd)
  {fo:Func} (hf:P.funcs[ρ.f 29]?=some fo) (hn:(fo.name== "runtime.NumGoroutine")=false) (hb:fo.body.isNone=true) (hx:Extern.findNext fo=none) (hy:Extern.find fo=some (Extern.SlicesOverlaps.overlaps #[ρ.t 24,ρ.t 24] #[ρ.t 4])) {lim:Nat} (hlim:lim=LIMB/dd.bytes) (hl0:(Nat.beq lim 0)=false):
  Vp P (ρ.f 22) e lim:=by
 refine ⟨enters L.f22 hname ?_,⟨fun h=>absurd hl0 (by rw [h]; decide),fun _ C tm me pl S a w j ver l vs i v0 vv hjn hI hm hrow hv hi hl=>?_⟩⟩
 ·obtain ⟨nm,ta,pr,rs,fl,tn,hfn⟩:=L.bd
  rw [hfn]; rfl
 ·refine zyr hT L hsz hkt hd hdd (fun args w b w' h=>?_) hjn hI hm hrow hv hi (by rw [←hlim]; exact hl)
  rw [run_callFunc_extern hf hn hb hx hy,h];rfl
end Go.PG
namespace Go.PG
section
variable {P:Program}
def xfunK {e:Kd} (E:Env (List e.T)) (body:Code) (t:Tmp) (l:List e.T):Option (List e.T):=
 exec E body ⟨[(0,.val (.sl e) l)],[],0⟩ fun x σ=>match x with
  | .exit _=>none
  | _=>match tget σ.tm t with
   | .cap e' l'=>TV.as ⟨.sl e',l'⟩ (.sl e)
   | _=>none
theorem Zo {e:Kd} {E:Env (List e.T)} (hE:A4 P E) (hm:P.follows .mixedOrders=true) {f:FuncId} {fn:Func} {body:Code} (hf:P.funcs[f]?=some fn) (hb:fn.body=some body)
  (hnp:E.np=0) (hntf:fn.ntmps=E.nt) {t:Tmp} (hres:fn.results.toList=[.tmp t]) (hle:1≤E.nt) (hl:Ar body=[]) {l:List e.T} (h:xfunK E body t l=some l)
  (w:World) (S:Nat→Prop) (v:Value) (hS:∀b,S b→b<w.heap.size) (hv:VRd S w (.sl e) l v):
  Calls P f #[v] w fun
   | .returned u,w'=>∃S':Nat→Prop,(∀b,S b→S' b)∧(∀b,S' b→b<w'.heap.size∧(S b∨w.heap.size≤b))∧Hd w [] w'∧VRd S' w' (.sl e) l u∧∃a n,u=.slice a n n
   | _,_=>False:=by
 unfold xfunK at h;obtain ⟨ex,σ,h1,_,h2⟩:=De hE hm body (by rw [hl]; intro l hl; cases hl) _ _ _ h;have h1':(ex=.normal∨ex=.ret)∧tget σ.tm t=.cap e l:=by
  have main:(match tget σ.tm t with
   | .cap e' l'=>TV.as ⟨.sl e',l'⟩ (.sl e)
   | _=>none)=some l→tget σ.tm t=.cap e l:=by
   intro h1;split at h1<;>try (cases h1; done)
   rename_i e' l' hl';have:=TV.as_some h1;cases this;exact hl'
  cases ex with
  | exit i=>simp at h1
  | normal=>exact ⟨.inl rfl,main h1⟩
  | ret=>exact ⟨.inr rfl,main h1⟩
 obtain ⟨he,htm⟩:=h1';refine calls_of_wp hf hb ?_
 let C:Ctx:=⟨w,S,E.nt,[],fun _ _=>False,fun _=>False⟩
 let pl:Nat→Plc:=fun _=>⟨none,0,0⟩
 refine h2 C hnp rfl (fun _ _ _ h=>h) (bodyPost P fn _) (fun pl' S' a' w' hI'=>?_) pl S _ w ?_
 ·have hG:=hI'.tms t
  rw [htm] at hG;obtain ⟨q1,q2⟩:=hG;have hrun:=Dx (P:=P) (w:=w') (fn:=fn) (res:=[(.tmp t,0,false)]) (by rw [hres]; rfl) (vs:=[a'.tmps.getD t undef]) ⟨[],rfl,rfl⟩;have hpost:∃S'':Nat→Prop,(∀b,S b→S'' b)∧(∀b,S'' b→b<w'.heap.size∧(S b∨w.heap.size≤b))∧Hd w [] w'∧VRd S'' w' (.sl e) l (Hs [a'.tmps.getD t undef])∧∃a n,Hs [a'.tmps.getD t undef]=.slice a n n:=
   ⟨S',hI'.s0,fun b hb=>⟨(hI'.sfr b hb).1,(hI'.sfr b hb).2.imp id (fun h=>h.resolve_right id)⟩,hI'.fr,q1,q2⟩
  rcases he with rfl | rfl
  ·exact ⟨hI'.df,_,hrun,hpost⟩
  ·exact ⟨hI'.df,_,hrun,hpost⟩
 ·refine ⟨?_,rfl,fun t=>?_,fun i b hi=>(by cases hi),fun i b hi=>(by cases hi),fun i j bi bj g _ hi=>(by cases hi),fun _ h=>h,fun b hb=>⟨hS b hb,.inl hb⟩,⟨rfl,rfl,rfl,Nat.le_refl _,fun _ _ _ _=>rfl,fun e he _=>(by cases he)⟩,fun e he=>(by cases he),fun _ _ h=>h.elim⟩
  ·simp only [Array.size_append,Array.size_replicate,C,List.size_toArray,List.length_cons,List.length_nil]
   omega
  ·show G S w (mget []) pl (tget [(0,.val (.sl e) l)] t) _
   cases t with
   | zero=>
    have e1:(#[v]++Array.replicate (fn.ntmps - #[v].size) undef).getD 0 undef=v:=by
     rw [Array.getD_eq_getD_getElem?,Array.getElem?_append_left (by simp)];simp
    rw [e1];exact hv
   | succ t=>exact trivial
theorem clip_ok {e:Kd} {E:Env (List e.T)} (hE:A4 P E) (hm:P.follows .mixedOrders=true) {f:FuncId} {fn:Func} {body:Code} (hf:P.funcs[f]?=some fn) (hb:fn.body=some body) (hname:(fn.name== "runtime.NumGoroutine")=false)
  (hnp:E.np=0) (hntf:fn.ntmps=E.nt) {t:Tmp} (hres:fn.results.toList=[.tmp t]) (hle:1≤E.nt) (hl:Ar body=[])
  (heq:∀l,xfunK E body t l=(match decide ((List.length l:Int)=(List.length l:Int)∧(0:Int)≤(List.length l:Int)∧(List.length l:Int)≤(List.length l:Int)) with | true=>some (List.take (Int.toNat (List.length l:Int)) l) | false=>none)):
  Vp P f e 0:=
 ⟨enters hf hname (by rw [hb]; rfl),fun _ w S l v hS hv=>Zo hE hm hf hb hnp hntf hres hle hl (by
  rw [heq l];have:decide ((List.length l:Int)=(List.length l:Int)∧(0:Int)≤(List.length l:Int)∧(List.length l:Int)≤(List.length l:Int))=true:=by simp
  rw [this];simp) w S v hS hv,fun h=>absurd rfl h⟩
end
end Go.PG
namespace Go.PG
def cP (R:Type):Ins→Type
 | []=>Option R
 | (true,k)::l=>k.T→cP R l
 | (false,_)::l=>cP R l
def cK (R:Type) (ins:Ins):Ins→Type
 | []=>cP R ins
 | (b,k)::l=>RT1 b k→cK R ins l
def cA (R:Type) (K:Type):Ins→Type
 | []=>K→Option R
 | (_,k)::l=>k.T→cA R K l
def pP (R:Type):(l:Ins)→(PT l→Option R)→cP R l
 | [],f=>f ()
 | (true,_)::l,f=>fun x=>pP R l fun y=>f (x,y)
 | (false,_)::l,f=>pP R l f
def pK (R:Type) (ins:Ins):(l:Ins)→(RT l→PT ins→Option R)→cK R ins l
 | [],f=>pP R ins (f ())
 | (_,_)::l,f=>fun x=>pK R ins l fun y=>f (x,y)
def pA (R:Type) (K:Type):(l:Ins)→cA R K l→AT l→K→Option R
 | [],f,_=>f
 | (_,_)::l,f,x=>pA R K l (f x.1) x.2
def eM (f:FuncId) (ins outs:Ins) (F:(R:Type)→cA R (cK R ins outs) ins):Ent:=
 ⟨f,ins,outs,fun R x k=>pA R _ ins (F R) x (pK R ins outs k)⟩
def vI (l:List Kd):Ins:=l.map fun k=>(false,k)
def eV (f:FuncId) (ins outs:List Kd) (F:(R:Type)→cA R (cK R (vI ins) (vI outs)) (vI ins)):Ent:=eM f (vI ins) (vI outs) F
def cH (K:Type):List HI→Type
 | []=>K
 | .val _ k::l=>k.T→cH K l
 | .fix _ _::l=>cH K l
 | .var _ k _::l=>k.T→cH K l
 | .row _ e _::l=>List e.T→cH K l
 | .mix _ fl::l=>MT fl→cH K l
 | .map _ kk kv::l=>List (kk.T×kv.T)→cH K l
def aH (K:Type):(H:List HI)→cH K H→HT H→K
 | [],f,_=>f
 | .val _ _::l,f,x=>aH K l (f x.1) x.2
 | .fix _ _::l,f,x=>aH K l f x
 | .var _ _ _::l,f,x=>aH K l (f x.1) x.2
 | .row _ _ _::l,f,x=>aH K l (f x.1) x.2
 | .mix _ _::l,f,x=>aH K l (f x.1) x.2
 | .map _ _ _::l,f,x=>aH K l (f x.1) x.2
def lH (K:Type):(H:List HI)→(HT H→K)→cH K H
 | [],f=>f ()
 | .val _ _::l,f=>fun x=>lH K l fun y=>f (x,y)
 | .fix _ _::l,f=>lH K l f
 | .var _ _ _::l,f=>fun x=>lH K l fun y=>f (x,y)
 | .row _ _ _::l,f=>fun x=>lH K l fun y=>f (x,y)
 | .mix _ _::l,f=>fun x=>lH K l fun y=>f (x,y)
 | .map _ _ _::l,f=>fun x=>lH K l fun y=>f (x,y)
def cE (R:Type):Exs→Type
 | []=>Option R
 | (_,h)::l=>cH (Option R) h→cE R l
def aE (R:Type):(l:Exs)→cE R l→KT R l→Option R
 | [],f,_=>f
 | (_,h)::l,f,k=>aE R l (f (lH (Option R) h k.1)) k.2
def lM (id:Nat) (H:List HI) (nx:Nat) (exs:Exs) (L:(R:Type)→cH (cE R exs) H):LEnt:=
 ⟨id,H,nx,exs,fun R x ke=>aE R exs (aH _ H (L R) x) ke⟩
def EQ (en:Ent) (E:(R:Type)→Env R) (fn:Func) (res:List (ResultVar×TypeId×Bool)):Prop:=
 ∀R x k,xfun (E R) (Ah fn) res (avs en.ins x) (finK en.outs en.ins k)=en.F R x k
def LEQ (le:LEnt) (E:(R:Type)→Env R) (fn:Func) (p:(R:Type)→cH (cE R ((.normal,le.H)::le.exs)) le.H):Prop:=
 ∀R x kc ke,exec (E R) (Cv le.id (Ah fn)) (stOf le.H x le.nx) (Od le.H le.exs kc ke)=aE R ((.normal,le.H)::le.exs) (aH _ le.H (p R) x) (kc,ke)
def mE (T:Tab) (eqt:List Nat) (np nt:Nat) (own:List (Nat×Nat)) (ents:List Ent) (les:List LEnt) (R:Type):Env R:=
 ⟨T,eqt,np,nt,Bu own,Bc ents R,Bm les R,[],Be [],[]⟩
def resB:List ResultVar→List (ResultVar×TypeId×Bool)→Bool
 | [],[]=>true
 | .tmp t::l,(.tmp t',_)::m=>Nat.beq t t'&&resB l m
 | .cell t k::l,(.cell t' k',_)::m=>Nat.beq t t'&&Nat.beq k k'&&resB l m
 | _,_=>false
theorem Zz:∀{l:List ResultVar} {m:List (ResultVar×TypeId×Bool)},resB l m=true→l=m.map (·.1)
 | [],[],_=>rfl
 | .tmp t::l,(.tmp t',_)::m,h=>by
  simp only [resB,Bool.and_eq_true] at h;rw [List.map_cons,←Zz h.2,Nat.eq_of_beq_eq_true h.1]
 | .cell t k::l,(.cell t' k',_)::m,h=>by
  simp only [resB,Bool.and_eq_true] at h;rw [List.map_cons,←Zz h.2,Nat.eq_of_beq_eq_true h.1.1,Nat.eq_of_beq_eq_true h.1.2]
 | .tmp _::_,(.cell _ _,_)::_,h=>by cases h
 | .cell _ _::_,(.tmp _,_)::_,h=>by cases h
 | [],_::_,h=>by cases h
 | .tmp _::_,[],h=>by cases h
 | .cell _ _::_,[],h=>by cases h
def ptrs:Ins→Nat
 | []=>0
 | (true,_)::l=>Nat.succ (ptrs l)
 | (false,_)::l=>ptrs l
theorem Z1:∀{l:Ins} (x:AT l),nptr (avs l x)=ptrs l
 | [],_=>rfl
 | (true,k)::l,x=>by
  have:=Z1 (l:=l) x.2;simp only [avs,nptr,ptrs,this]
 | (false,k)::l,x=>by
  have:=Z1 (l:=l) x.2;simp only [avs,nptr,ptrs,this]
theorem zo6:∀{l:Ins} (x:AT l),(avs l x).length=l.length
 | [],_=>rfl
 | (b,k)::l,x=>by simp only [avs,List.length_cons,zo6 (l:=l) x.2]
def fnB (fn:Func) (np nt:Nat) (res:List (ResultVar×TypeId×Bool)) (ins:Ins):Bool:=
 fn.body.isSome&& !(fn.name== "runtime.NumGoroutine")&&Nat.beq fn.ntmps nt&&resB fn.results.toList res&&Nat.beq (ptrs ins) np&&Nat.ble ins.length nt
structure Seat (P:Program) (T:Tab) (eqt:List Nat):Prop where
 tab:Ay P T
 eq:∀t∈eqt,∀k,tkd T t=some k→EqOK P t k
 mixed:P.follows .mixedOrders=true
def LL (P:Program) (np nt:Nat) (les:List LEnt) (body:Code):List Nat→Prop
 | []=>True
 | i::ids=>(∃e,zwr les (Es (Cv i body))=some e∧e.OK P np nt (Cv i body))∧LL P np nt les body ids
section
variable {P:Program} {T:Tab} {eqt:List Nat}
theorem LL.ok {E:(R:Type)→Env R} {les:List LEnt} {np nt:Nat} (hnp:∀R,(E R).np=np) (hnt:∀R,(E R).nt=nt) (hlo:∀R,(E R).loop=Bm les R) {body:Code}:
  ∀{ids:List Nat} {cs:List Code},LL P np nt les body ids→cs=ids.map (Cv · body)→∀R,∀l∈cs,F7 (E R) P l
 | [],cs,_,h,R,l,hl=>by rw [h] at hl; cases hl
 | i::ids,cs,⟨⟨e,h1,h2⟩,h3⟩,h,R,l,hl=>by
  rw [h,List.map_cons] at hl;rcases List.mem_cons.1 hl with rfl | hl
  ·exact I7 (hlo R) h1 (by rw [hnp,hnt]; exact h2)
  ·exact LL.ok hnp hnt hlo h3 rfl R l hl
theorem Seat.ok2 (S:Seat P T eqt) {en:Ent} {E:(R:Type)→Env R} {fn:Func} {res:List (ResultVar×TypeId×Bool)} (q:EQ en E fn res) (hE:∀R,A4 P (E R)) (hf:P.funcs[en.f]?=some fn)
  {np nt:Nat} (hnp:∀R,(E R).np=np) (hnt:∀R,(E R).nt=nt) (hB:fnB fn np nt res en.ins=true) (hl:∀R,∀l∈Ar (Ah fn),F7 (E R) P l):en.OK P:=by
 simp only [fnB,Bool.and_eq_true,Bool.not_eq_true'] at hB;obtain ⟨⟨⟨⟨⟨h1,h2⟩,h3⟩,h4⟩,h5⟩,h6⟩:=hB;obtain ⟨body,hb⟩:=Option.isSome_iff_exists.1 h1;have hcb:Ah fn=body:=by unfold Ah; rw [hb]; rfl
 exact ent_ok hE S.mixed hf (body:=Ah fn) (by rw [hcb]; exact hb) h2 hnp hnt (Nat.eq_of_beq_eq_true h3) (Zz h4) (fun x=>by rw [Z1]; exact Nat.eq_of_beq_eq_true h5) (fun x=>by rw [zo6]; exact Nat.le_of_ble_eq_true h6) hl q
theorem Seat.env (S:Seat P T eqt) {np nt:Nat} {own:List (Nat×Nat)} {ents:List Ent} {les:List LEnt} (he:∀e∈ents,e.OK P) (R:Type):A4 P (mE T eqt np nt own ents les R):=
 ⟨S.tab,S.eq,Aq he,B0,Al⟩
theorem Seat.ok0 (S:Seat P T eqt) {en:Ent} {fn:Func} {np nt:Nat} {own:List (Nat×Nat)} {ents:List Ent} {res:List (ResultVar×TypeId×Bool)} (q:EQ en (mE T eqt np nt own ents []) fn res) (he:∀e∈ents,e.OK P)
  (hf:P.funcs[en.f]?=some fn) (hB:(fnB fn np nt res en.ins&&zno (Ar (Ah fn)))=true:=by kernel_rfl):en.OK P:=by
 rw [Bool.and_eq_true] at hB;refine S.ok2 q (S.env he) hf (fun _=>rfl) (fun _=>rfl) hB.1 (fun R l hl=>?_);cases hn:Ar (Ah fn) with
 | nil=>rw [hn] at hl; cases hl
 | cons _ _=>rw [hn] at hB; cases hB.2
theorem Seat.ok1 (S:Seat P T eqt) {en:Ent} {fn:Func} {np nt:Nat} {own:List (Nat×Nat)} {ents:List Ent} {les:List LEnt} {res:List (ResultVar×TypeId×Bool)} (q:EQ en (mE T eqt np nt own ents les) fn res) (he:∀e∈ents,e.OK P)
  (hf:P.funcs[en.f]?=some fn) (ids:List Nat) (hl:LL P np nt les (Ah fn) ids) (hB:fnB fn np nt res en.ins=true:=by kernel_rfl) (hi:Ar (Ah fn)=ids.map (Cv · (Ah fn)):=by kernel_rfl):en.OK P:=
 S.ok2 q (S.env he) hf (fun _=>rfl) (fun _=>rfl) hB (hl.ok (fun _=>rfl) (fun _=>rfl) (fun _=>rfl) hi)
theorem Seat.lok2 (S:Seat P T eqt) {id:Nat} {H:List HI} {nx:Nat} {exs:Exs} {G:Nat→(R:Type)→cH (cE R exs) H} {p:(R:Type)→cH (cE R ((.normal,H)::exs)) H} {E:(R:Type)→Env R} {fn:Func} {np nt:Nat}
  (q:LEQ (lM id H nx exs (G FUEL)) E fn p) (hE:∀R,A4 P (E R)) (hnp:∀R,(E R).np=np) (hnt:∀R,(E R).nt=nt) (hl:∀R,∀l∈Ar (Cv id (Ah fn)),F7 (E R) P l)
  (h0:∀R x ke,aE R exs (aH _ H (G 0 R) x) ke=none) (hs:∀n R x ke,aE R exs (aH _ H (G (n+1) R) x) ke=aE R ((.normal,H)::exs) (aH _ H (p R) x) (fun x'=>aE R exs (aH _ H (G n R) x') ke,ke)):
  (lM id H nx exs (G FUEL)).OK P np nt (Cv id (Ah fn)):=by
 have key:∀(n:Nat) (R:Type) (x:HT H) (ke:KT R exs),iter (fun R x kc ke=>aE R ((.normal,H)::exs) (aH _ H (p R) x) (kc,ke)) n R x ke=aE R exs (aH _ H (G n R) x) ke:=by
  intro n
  induction n with
  | zero=>intro R x ke; exact (h0 R x ke).symm
  | succ n ih=>
   intro R x ke;simp only [iter];rw [hs,show (fun x'=>iter (fun R x kc ke=>aE R ((.normal,H)::exs) (aH _ H (p R) x) (kc,ke)) n R x' ke)=fun x'=>aE R exs (aH _ H (G n R) x') ke from funext fun x'=>ih R x' ke]
 exact fun R x ke r h=>Ez E np nt hnp hnt hE S.mixed hl (T:=fun R x kc ke=>aE R ((.normal,H)::exs) (aH _ H (p R) x) (kc,ke)) q FUEL R x ke r ((key FUEL R x ke).trans h)
theorem Seat.lok (S:Seat P T eqt) {id:Nat} {H:List HI} {nx:Nat} {exs:Exs} {G:Nat→(R:Type)→cH (cE R exs) H} {p:(R:Type)→cH (cE R ((.normal,H)::exs)) H} {fn:Func} {np nt:Nat} {own:List (Nat×Nat)} {ents:List Ent} {les:List LEnt}
  (q:LEQ (lM id H nx exs (G FUEL)) (mE T eqt np nt own ents les) fn p) (he:∀e∈ents,e.OK P) (ids:List Nat) (hl:LL P np nt les (Ah fn) ids) (hi:Ar (Cv id (Ah fn))=ids.map (Cv · (Ah fn)):=by kernel_rfl)
  (h0:∀R x ke,aE R exs (aH _ H (G 0 R) x) ke=none:=by intro _ _ _; kernel_rfl) (hs:∀n R x ke,aE R exs (aH _ H (G (n+1) R) x) ke=aE R ((.normal,H)::exs) (aH _ H (p R) x) (fun x'=>aE R exs (aH _ H (G n R) x') ke,ke):=by intro _ _ _ _; kernel_rfl):
  (lM id H nx exs (G FUEL)).OK P np nt (Cv id (Ah fn)):=
 S.lok2 q (S.env he) (fun _=>rfl) (fun _=>rfl) (hl.ok (fun _=>rfl) (fun _=>rfl) (fun _=>rfl) hi) h0 hs
theorem Seat.ok3 (S:Seat P T eqt) {en:Ent} {E:(R:Type)→Env R} {fn:Func} {res:List (ResultVar×TypeId×Bool)} (q:EQ en E fn res) (hE:∀R,A4 P (E R)) (hf:P.funcs[en.f]?=some fn)
  {np nt:Nat} {les:List LEnt} (hnp:∀R,(E R).np=np) (hnt:∀R,(E R).nt=nt) (hlo:∀R,(E R).loop=Bm les R) (ids:List Nat) (hl:LL P np nt les (Ah fn) ids) (hB:fnB fn np nt res en.ins=true:=by kernel_rfl) (hi:Ar (Ah fn)=ids.map (Cv · (Ah fn)):=by kernel_rfl):en.OK P:=
 S.ok2 q hE hf hnp hnt hB (hl.ok hnp hnt hlo hi)
theorem Seat.lok3 (S:Seat P T eqt) {id:Nat} {H:List HI} {nx:Nat} {exs:Exs} {G:Nat→(R:Type)→cH (cE R exs) H} {p:(R:Type)→cH (cE R ((.normal,H)::exs)) H} {E:(R:Type)→Env R} {fn:Func} {np nt:Nat} {les:List LEnt}
  (q:LEQ (lM id H nx exs (G FUEL)) E fn p) (hE:∀R,A4 P (E R)) (hnp:∀R,(E R).np=np) (hnt:∀R,(E R).nt=nt) (hlo:∀R,(E R).loop=Bm les R) (ids:List Nat) (hl:LL P np nt les (Ah fn) ids) (hi:Ar (Cv id (Ah fn))=ids.map (Cv · (Ah fn)):=by kernel_rfl)
  (h0:∀R x ke,aE R exs (aH _ H (G 0 R) x) ke=none:=by intro _ _ _; kernel_rfl) (hs:∀n R x ke,aE R exs (aH _ H (G (n+1) R) x) ke=aE R ((.normal,H)::exs) (aH _ H (p R) x) (fun x'=>aE R exs (aH _ H (G n R) x') ke,ke):=by intro _ _ _ _; kernel_rfl):
  (lM id H nx exs (G FUEL)).OK P np nt (Cv id (Ah fn)):=
 S.lok2 q hE hnp hnt (hl.ok hnp hnt hlo hi) h0 hs
end
end Go.PG
set_option maxRecDepth 100000
namespace Go.PG
open Go.Proofs
abbrev LI:=List Int
abbrev Kq1:Kd:=(.pair .bool (.pair (.arr 32 (.int .u8)) .unit))
abbrev Tq1:Type:=(Bool×(LI×Unit))
abbrev Kq2:Kd:=(.pair (.arr 32 (.int .u8)) Kq1)
abbrev Tq2:Type:=(LI×Tq1)
abbrev Kq3:Kd:=(.pair (.int .i64) Kq2)
abbrev Tq3:Type:=(Int×Tq2)
abbrev Kq4:Kd:=(.pair (.int .u64) (.pair (.int .u64) .unit))
abbrev Tq4:Type:=(Int×(Int×Unit))
abbrev Kq5:Kd:=(.pair (.arr 32 (.int .u8)) Kq4)
abbrev Tq5:Type:=(LI×Tq4)
abbrev Tq6:Type:=(LI×Int)
abbrev Kq7:Kd:=(.pair (.int .u64) (.pair (.int .i64) .unit))
abbrev Tq7:Type:=(Int×(Int×Unit))
abbrev Kq8:Kd:=(.pair .fn (.pair .fn .unit))
abbrev Tq8:Type:=(FnV×(FnV×Unit))
abbrev Kq9:Kd:=(.pair (.int .i64) Kq8)
abbrev Tq9:Type:=(Int×Tq8)
abbrev Kq10:Kd:=(.pair (.arr 32 (.int .u8)) (.pair (.int .i64) .unit))
abbrev Tq10:Type:=(LI×(Int×Unit))
abbrev Kq11:Kd:=(.pair (.int .u64) Kq10)
abbrev Tq11:Type:=(Int×Tq10)
abbrev Kq12:Kd:=(.pair (.int .i64) Kq11)
abbrev Tq12:Type:=(Int×Tq11)
abbrev Kq13:Kd:=(.pair (.int .i64) Kq12)
abbrev Tq13:Type:=(Int×Tq12)
abbrev Tq14:Type:=(Int×FnV)
abbrev Kq15:Kd:=(.pair (.sl (.int .i64)) (.pair (.arr 32 (.int .u8)) .unit))
abbrev Tq15:Type:=(LI×(LI×Unit))
abbrev Kq16:Kd:=(.pair (.int .u64) Kq15)
abbrev Tq16:Type:=(Int×Tq15)
abbrev Kq17:Kd:=(.pair (.int .i64) Kq16)
abbrev Tq17:Type:=(Int×Tq16)
abbrev Kq18:Kd:=(.pair (.int .i64) (.pair (.int .i64) .unit))
abbrev Tq18:Type:=(Int×(Int×Unit))
abbrev Kq19:Kd:=(.pair (.int .i64) Kq18)
abbrev Tq19:Type:=(Int×Tq18)
abbrev Kq20:Kd:=(.pair (.int .i64) Kq19)
abbrev Tq20:Type:=(Int×Tq19)
abbrev Kq21:Kd:=(.pair (.int .i64) Kq20)
abbrev Tq21:Type:=(Int×Tq20)
abbrev Kq22:Kd:=(.pair (.arr 32 (.int .u8)) (.pair (.sl Kq3) .unit))
abbrev Tq22:Type:=(LI×((List Tq3)×Unit))
abbrev Kq23:Kd:=(.pair (.arr 32 (.int .u8)) Kq22)
abbrev Tq23:Type:=(LI×Tq22)
abbrev Kq24:Kd:=(.pair (.int .u64) Kq23)
abbrev Tq24:Type:=(Int×Tq23)
abbrev Kq25:Kd:=(.pair (.sl (.int .i64)) (.pair (.sl (.int .i64)) .unit))
abbrev Tq25:Type:=(LI×(LI×Unit))
abbrev Kq26:Kd:=(.pair Kq24 Kq25)
abbrev Tq26:Type:=(Tq24×Tq25)
abbrev Kq27:Kd:=(.pair (.sl Kq5) Kq26)
abbrev Tq27:Type:=((List Tq5)×Tq26)
abbrev Kq28:Kd:=(.pair (.int .i64) Kq27)
abbrev Tq28:Type:=(Int×Tq27)
abbrev Kq29:Kd:=(.pair Kq21 Kq28)
abbrev Tq29:Type:=(Tq21×Tq28)
abbrev Kq30:Kd:=(.pair Kq17 .unit)
abbrev Tq30:Type:=(Tq17×Unit)
abbrev Kq31:Kd:=(.pair Kq29 Kq30)
abbrev Tq31:Type:=(Tq29×Tq30)
abbrev Kq32:Kd:=(.pair (.sl (.int .u8)) (.pair (.int .u64) .unit))
abbrev Tq32:Type:=(LI×(Int×Unit))
abbrev Kq33:Kd:=(.pair (.arr 8 (.int .u32)) Kq32)
abbrev Tq33:Type:=(LI×Tq32)
abbrev Kq34:Kd:=(.pair Kq33 .unit)
abbrev Tq34:Type:=(Tq33×Unit)
abbrev Kq35:Kd:=(.pair (.arr 32 (.int .u8)) (.pair (.arr 32 (.int .u8)) .unit))
abbrev Tq35:Type:=(LI×(LI×Unit))
abbrev Kq36:Kd:=(.pair (.arr 32 (.int .u8)) Kq35)
abbrev Tq36:Type:=(LI×Tq35)
abbrev Kq37:Kd:=(.pair (.int .u64) Kq36)
abbrev Tq37:Type:=(Int×Tq36)
abbrev Kq38:Kd:=(.pair (.int .u64) Kq5)
abbrev Tq38:Type:=(Int×Tq5)
abbrev Kq39:Kd:=(.pair (.sl (.int .u8)) Kq38)
abbrev Tq39:Type:=(LI×Tq38)
abbrev Kq40:Kd:=(.pair (.int .i64) Kq39)
abbrev Tq40:Type:=(Int×Tq39)
abbrev Kq41:Kd:=(.pair (.int .u64) (.pair .bool .unit))
abbrev Tq41:Type:=(Int×(Bool×Unit))
abbrev Kq42:Kd:=(.pair (.arr 32 (.int .u8)) Kq41)
abbrev Tq42:Type:=(LI×Tq41)
abbrev Kq43:Kd:=(.pair Kq40 Kq42)
abbrev Tq43:Type:=(Tq40×Tq42)
abbrev Kq44:Kd:=(.pair (.int .u64) (.pair (.sl Kq7) .unit))
abbrev Tq44:Type:=(Int×((List Tq7)×Unit))
abbrev Kq45:Kd:=(.pair (.sl (.int .u64)) Kq25)
abbrev Kq46:Kd:=(.pair Kq44 Kq45)
abbrev Tq47:Type:=(Int×Tq24)
abbrev Tq48:Type:=(Int×Tq47)
abbrev Tq49:Type:=(Int×Tq48)
abbrev Tq50:Type:=(Int×Tq49)
abbrev Tq51:Type:=(Int×Tq50)
abbrev Tq52:Type:=(Int×Tq51)
def TT:Tab:=[
 (3,⟨.int .i64,1,8,some (.int .i64)⟩),
 (4,⟨.bool,1,1,some .bool⟩),
 (5,⟨.int .u8,1,1,some (.int .u8)⟩),
 (9,⟨.string,1,16,some .str⟩),
 (23,⟨.struct #[{name:= "Slots",type:=3,offset:=0,embedded:=false,tag:= "",pkgPath:= "",byteOffset:=0},{name:= "Commit",type:=3,offset:=1,embedded:=false,tag:= "",pkgPath:= "",byteOffset:=8},{name:= "Reveal",type:=3,offset:=2,embedded:=false,tag:= "",pkgPath:= "",byteOffset:=16},{name:= "Attempts",type:=3,offset:=3,embedded:=false,tag:= "",pkgPath:= "",byteOffset:=24},{name:= "Most",type:=3,offset:=4,embedded:=false,tag:= "",pkgPath:= "",byteOffset:=32}],5,40,some Kq21⟩),
 (25,⟨.array 32 5,32,32,some (.arr 32 (.int .u8))⟩),
 (27,⟨.slice 60,1,24,some (.sl Kq5)⟩),
 (28,⟨.int .u64,1,8,some (.int .u64)⟩),
 (29,⟨.slice 151,1,24,some (.sl Kq3)⟩),
 (31,⟨.struct #[{name:= "Epoch",type:=28,offset:=0,embedded:=false,tag:= "",pkgPath:= "",byteOffset:=0},{name:= "Seed",type:=25,offset:=1,embedded:=false,tag:= "",pkgPath:= "",byteOffset:=8},{name:= "Mix",type:=25,offset:=33,embedded:=false,tag:= "",pkgPath:= "",byteOffset:=40},{name:= "Commits",type:=29,offset:=65,embedded:=false,tag:= "",pkgPath:= "",byteOffset:=72}],66,96,some Kq24⟩),
 (32,⟨.slice 3,1,24,some (.sl (.int .i64))⟩),
 (34,⟨.struct #[{name:= "Config",type:=23,offset:=0,embedded:=false,tag:= "",pkgPath:= "",byteOffset:=0},{name:= "Slot",type:=3,offset:=5,embedded:=false,tag:= "",pkgPath:= "",byteOffset:=40},{name:= "Vals",type:=27,offset:=6,embedded:=false,tag:= "",pkgPath:= "",byteOffset:=48},{name:= "Beacon",type:=31,offset:=7,embedded:=false,tag:= "",pkgPath:= "",byteOffset:=72},{name:= "Leaders",type:=32,offset:=73,embedded:=false,tag:= "",pkgPath:= "",byteOffset:=168},{name:= "Missed",type:=32,offset:=74,embedded:=false,tag:= "",pkgPath:= "",byteOffset:=192}],75,216,some Kq29⟩),
 (35,⟨.int .i64,1,8,some (.int .i64)⟩),
 (40,⟨.array 5 5,5,5,some (.arr 5 (.int .u8))⟩),
 (41,⟨.slice 48,1,24,some (.sl Kq13)⟩),
 (44,⟨.struct #[{name:= "Err",type:=35,offset:=0,embedded:=false,tag:= "",pkgPath:= "",byteOffset:=0},{name:= "N",type:=28,offset:=1,embedded:=false,tag:= "",pkgPath:= "",byteOffset:=8},{name:= "Who",type:=32,offset:=2,embedded:=false,tag:= "",pkgPath:= "",byteOffset:=16},{name:= "Hash",type:=25,offset:=3,embedded:=false,tag:= "",pkgPath:= "",byteOffset:=40}],35,72,some Kq17⟩),
 (48,⟨.struct #[{name:= "Kind",type:=3,offset:=0,embedded:=false,tag:= "",pkgPath:= "",byteOffset:=0},{name:= "Who",type:=3,offset:=1,embedded:=false,tag:= "",pkgPath:= "",byteOffset:=8},{name:= "Amount",type:=28,offset:=2,embedded:=false,tag:= "",pkgPath:= "",byteOffset:=16},{name:= "Hash",type:=25,offset:=3,embedded:=false,tag:= "",pkgPath:= "",byteOffset:=24},{name:= "N",type:=3,offset:=35,embedded:=false,tag:= "",pkgPath:= "",byteOffset:=56}],36,64,some Kq13⟩),
 (51,⟨.slice 44,1,24,some (.sl Kq17)⟩),
 (60,⟨.struct #[{name:= "Key",type:=25,offset:=0,embedded:=false,tag:= "",pkgPath:= "",byteOffset:=0},{name:= "Stake",type:=28,offset:=32,embedded:=false,tag:= "",pkgPath:= "",byteOffset:=32},{name:= "Next",type:=28,offset:=33,embedded:=false,tag:= "",pkgPath:= "",byteOffset:=40}],34,48,some Kq5⟩),
 (63,⟨.slice 28,1,24,some (.sl (.int .u64))⟩),
 (66,⟨.slice 35,1,24,some (.sl (.int .i64))⟩),
 (74,⟨.func #[79,48] #[35] false,1,8,some .fn⟩),
 (76,⟨.map 3 74,1,8,some .mp⟩),
 (81,⟨.struct #[{name:= "Ledger",type:=34,offset:=0,embedded:=true,tag:= "",pkgPath:= "",byteOffset:=0},{name:= "answer",type:=44,offset:=75,embedded:=false,tag:= "",pkgPath:= "drawlot/ledger",byteOffset:=216}],110,288,some Kq31⟩),
 (87,⟨.struct #[{name:= "Tree",type:=63,offset:=0,embedded:=false,tag:= "",pkgPath:= "",byteOffset:=0}],1,24,some (.pair (.sl (.int .u64)) .unit)⟩),
 (93,⟨.slice 5,1,24,some (.sl (.int .u8))⟩),
 (95,⟨.array 8 5,8,8,some (.arr 8 (.int .u8))⟩),
 (98,⟨.int .u64,1,8,some (.int .u64)⟩),
 (105,⟨.func #[48] #[93] false,1,8,some .fn⟩),
 (122,⟨.struct #[{name:= "Epoch",type:=28,offset:=0,embedded:=false,tag:= "",pkgPath:= "",byteOffset:=0},{name:= "Seed",type:=25,offset:=1,embedded:=false,tag:= "",pkgPath:= "",byteOffset:=8},{name:= "Mix",type:=25,offset:=33,embedded:=false,tag:= "",pkgPath:= "",byteOffset:=40},{name:= "Next",type:=25,offset:=65,embedded:=false,tag:= "",pkgPath:= "",byteOffset:=72}],97,104,some Kq37⟩),
 (132,⟨.struct #[{name:= "Kind",type:=3,offset:=0,embedded:=false,tag:= "",pkgPath:= "",byteOffset:=0},{name:= "Tape",type:=93,offset:=1,embedded:=false,tag:= "",pkgPath:= "",byteOffset:=8},{name:= "Bits",type:=28,offset:=2,embedded:=false,tag:= "",pkgPath:= "",byteOffset:=32},{name:= "Seed",type:=25,offset:=3,embedded:=false,tag:= "",pkgPath:= "",byteOffset:=40},{name:= "Domain",type:=28,offset:=35,embedded:=false,tag:= "",pkgPath:= "",byteOffset:=72},{name:= "At",type:=28,offset:=36,embedded:=false,tag:= "",pkgPath:= "",byteOffset:=80}],37,88,some Kq40⟩),
 (136,⟨.int .u32,1,4,some (.int .u32)⟩),
 (137,⟨.slice 185,1,24,some (.sl (.arr 64 (.int .u8)))⟩),
 (143,⟨.array 8 136,8,32,some (.arr 8 (.int .u32))⟩),
 (151,⟨.struct #[{name:= "Who",type:=3,offset:=0,embedded:=false,tag:= "",pkgPath:= "",byteOffset:=0},{name:= "Hash",type:=25,offset:=1,embedded:=false,tag:= "",pkgPath:= "",byteOffset:=8},{name:= "Done",type:=4,offset:=33,embedded:=false,tag:= "",pkgPath:= "",byteOffset:=40},{name:= "Value",type:=25,offset:=34,embedded:=false,tag:= "",pkgPath:= "",byteOffset:=41}],66,80,some Kq3⟩),
 (162,⟨.slice 167,1,24,some (.sl Kq9)⟩),
 (165,⟨.func #[168,93] #[] false,1,8,some .fn⟩),
 (167,⟨.struct #[{name:= "size",type:=3,offset:=0,embedded:=false,tag:= "",pkgPath:= "drawlot/op",byteOffset:=0},{name:= "put",type:=105,offset:=1,embedded:=false,tag:= "",pkgPath:= "drawlot/op",byteOffset:=8},{name:= "take",type:=165,offset:=2,embedded:=false,tag:= "",pkgPath:= "drawlot/op",byteOffset:=16}],3,24,some Kq9⟩),
 (185,⟨.array 64 5,64,64,some (.arr 64 (.int .u8))⟩),
 (188,⟨.array 4 5,4,4,some (.arr 4 (.int .u8))⟩),
 (191,⟨.map 25 3,1,8,some .mp⟩),
 (205,⟨.struct #[{name:= "seed",type:=25,offset:=0,embedded:=false,tag:= "",pkgPath:= "drawlot/slots",byteOffset:=0},{name:= "attempts",type:=3,offset:=32,embedded:=false,tag:= "",pkgPath:= "drawlot/slots",byteOffset:=32}],33,40,some Kq10⟩),
 (211,⟨.slice 25,1,24,some (.sl (.arr 32 (.int .u8)))⟩),
 (213,⟨.slice 245,1,24,some (.sl Kq7)⟩),
 (215,⟨.struct #[{name:= "Total",type:=28,offset:=0,embedded:=false,tag:= "",pkgPath:= "",byteOffset:=0},{name:= "Cells",type:=213,offset:=1,embedded:=false,tag:= "",pkgPath:= "",byteOffset:=8}],2,32,some Kq44⟩),
 (222,⟨.array 64 136,64,256,some (.arr 64 (.int .u32))⟩),
 (223,⟨.array 64 136,64,256,some (.arr 64 (.int .u32))⟩),
 (243,⟨.func #[168] #[242] false,1,8,some .fn⟩),
 (245,⟨.struct #[{name:= "Cut",type:=28,offset:=0,embedded:=false,tag:= "",pkgPath:= "",byteOffset:=0},{name:= "Alias",type:=3,offset:=1,embedded:=false,tag:= "",pkgPath:= "",byteOffset:=8}],2,16,some Kq7⟩),
 (256,⟨.slice 93,1,24,some (.sl (.sl (.int .u8)))⟩),
 (258,⟨.struct #[{name:= "State",type:=143,offset:=0,embedded:=false,tag:= "",pkgPath:= "",byteOffset:=0},{name:= "Rest",type:=93,offset:=8,embedded:=false,tag:= "",pkgPath:= "",byteOffset:=32},{name:= "Bytes",type:=28,offset:=9,embedded:=false,tag:= "",pkgPath:= "",byteOffset:=56}],10,64,some Kq33⟩),
 (269,⟨.slice 3,1,24,some (.sl (.int .i64))⟩),
 (271,⟨.struct #[{name:= "Table",type:=215,offset:=0,embedded:=true,tag:= "",pkgPath:= "",byteOffset:=0},{name:= "has",type:=63,offset:=2,embedded:=false,tag:= "",pkgPath:= "drawlot/alias",byteOffset:=32},{name:= "small",type:=269,offset:=3,embedded:=false,tag:= "",pkgPath:= "drawlot/alias",byteOffset:=56},{name:= "large",type:=269,offset:=4,embedded:=false,tag:= "",pkgPath:= "drawlot/alias",byteOffset:=80}],5,104,some Kq46⟩),
 (282,⟨.struct #[{name:= "Writer",type:=258,offset:=0,embedded:=true,tag:= "",pkgPath:= "",byteOffset:=0}],10,64,some Kq34⟩),
 (301,⟨.struct #[{name:= "Source",type:=132,offset:=0,embedded:=true,tag:= "",pkgPath:= "",byteOffset:=0},{name:= "block",type:=25,offset:=37,embedded:=false,tag:= "",pkgPath:= "drawlot/tape",byteOffset:=88},{name:= "at",type:=28,offset:=69,embedded:=false,tag:= "",pkgPath:= "drawlot/tape",byteOffset:=120},{name:= "some",type:=4,offset:=70,embedded:=false,tag:= "",pkgPath:= "drawlot/tape",byteOffset:=128}],71,136,some Kq43⟩),
 (307,⟨.slice 136,1,24,some (.sl (.int .u32))⟩)]
def EQT:List Nat:=[3,23,25,48,60,151]
theorem ty3:TyOK Tryz.prog TT 3 ⟨.int .i64,1,8,some (.int .i64)⟩:=Ao Tryz.underlying3 (by kernel_rfl)
theorem ty4:TyOK Tryz.prog TT 4 ⟨.bool,1,1,some .bool⟩:=Ao Tryz.underlying4 (by kernel_rfl)
theorem ty5:TyOK Tryz.prog TT 5 ⟨.int .u8,1,1,some (.int .u8)⟩:=Ao Tryz.underlying5 (by kernel_rfl)
theorem ty9:TyOK Tryz.prog TT 9 ⟨.string,1,16,some .str⟩:=Ao Tryz.underlying9 (by kernel_rfl)
theorem ty23:TyOK Tryz.prog TT 23 ⟨.struct #[{name:= "Slots",type:=3,offset:=0,embedded:=false,tag:= "",pkgPath:= "",byteOffset:=0},{name:= "Commit",type:=3,offset:=1,embedded:=false,tag:= "",pkgPath:= "",byteOffset:=8},{name:= "Reveal",type:=3,offset:=2,embedded:=false,tag:= "",pkgPath:= "",byteOffset:=16},{name:= "Attempts",type:=3,offset:=3,embedded:=false,tag:= "",pkgPath:= "",byteOffset:=24},{name:= "Most",type:=3,offset:=4,embedded:=false,tag:= "",pkgPath:= "",byteOffset:=32}],5,40,some Kq21⟩:=Ao Tryz.underlying23 (by kernel_rfl)
theorem ty25:TyOK Tryz.prog TT 25 ⟨.array 32 5,32,32,some (.arr 32 (.int .u8))⟩:=Ao Tryz.underlying25 (by kernel_rfl)
theorem ty27:TyOK Tryz.prog TT 27 ⟨.slice 60,1,24,some (.sl Kq5)⟩:=Ao Tryz.underlying27 (by kernel_rfl)
theorem ty28:TyOK Tryz.prog TT 28 ⟨.int .u64,1,8,some (.int .u64)⟩:=Ao Tryz.underlying28 (by kernel_rfl)
theorem ty29:TyOK Tryz.prog TT 29 ⟨.slice 151,1,24,some (.sl Kq3)⟩:=Ao Tryz.underlying29 (by kernel_rfl)
theorem ty31:TyOK Tryz.prog TT 31 ⟨.struct #[{name:= "Epoch",type:=28,offset:=0,embedded:=false,tag:= "",pkgPath:= "",byteOffset:=0},{name:= "Seed",type:=25,offset:=1,embedded:=false,tag:= "",pkgPath:= "",byteOffset:=8},{name:= "Mix",type:=25,offset:=33,embedded:=false,tag:= "",pkgPath:= "",byteOffset:=40},{name:= "Commits",type:=29,offset:=65,embedded:=false,tag:= "",pkgPath:= "",byteOffset:=72}],66,96,some Kq24⟩:=Ao Tryz.underlying31 (by kernel_rfl)
theorem ty32:TyOK Tryz.prog TT 32 ⟨.slice 3,1,24,some (.sl (.int .i64))⟩:=Ao Tryz.underlying32 (by kernel_rfl)
theorem ty34:TyOK Tryz.prog TT 34 ⟨.struct #[{name:= "Config",type:=23,offset:=0,embedded:=false,tag:= "",pkgPath:= "",byteOffset:=0},{name:= "Slot",type:=3,offset:=5,embedded:=false,tag:= "",pkgPath:= "",byteOffset:=40},{name:= "Vals",type:=27,offset:=6,embedded:=false,tag:= "",pkgPath:= "",byteOffset:=48},{name:= "Beacon",type:=31,offset:=7,embedded:=false,tag:= "",pkgPath:= "",byteOffset:=72},{name:= "Leaders",type:=32,offset:=73,embedded:=false,tag:= "",pkgPath:= "",byteOffset:=168},{name:= "Missed",type:=32,offset:=74,embedded:=false,tag:= "",pkgPath:= "",byteOffset:=192}],75,216,some Kq29⟩:=Ao Tryz.underlying34 (by kernel_rfl)
theorem ty35:TyOK Tryz.prog TT 35 ⟨.int .i64,1,8,some (.int .i64)⟩:=Ao Tryz.underlying35 (by kernel_rfl)
theorem ty40:TyOK Tryz.prog TT 40 ⟨.array 5 5,5,5,some (.arr 5 (.int .u8))⟩:=Ao Tryz.underlying40 (by kernel_rfl)
theorem ty41:TyOK Tryz.prog TT 41 ⟨.slice 48,1,24,some (.sl Kq13)⟩:=Ao Tryz.underlying41 (by kernel_rfl)
theorem ty44:TyOK Tryz.prog TT 44 ⟨.struct #[{name:= "Err",type:=35,offset:=0,embedded:=false,tag:= "",pkgPath:= "",byteOffset:=0},{name:= "N",type:=28,offset:=1,embedded:=false,tag:= "",pkgPath:= "",byteOffset:=8},{name:= "Who",type:=32,offset:=2,embedded:=false,tag:= "",pkgPath:= "",byteOffset:=16},{name:= "Hash",type:=25,offset:=3,embedded:=false,tag:= "",pkgPath:= "",byteOffset:=40}],35,72,some Kq17⟩:=Ao Tryz.underlying44 (by kernel_rfl)
theorem ty48:TyOK Tryz.prog TT 48 ⟨.struct #[{name:= "Kind",type:=3,offset:=0,embedded:=false,tag:= "",pkgPath:= "",byteOffset:=0},{name:= "Who",type:=3,offset:=1,embedded:=false,tag:= "",pkgPath:= "",byteOffset:=8},{name:= "Amount",type:=28,offset:=2,embedded:=false,tag:= "",pkgPath:= "",byteOffset:=16},{name:= "Hash",type:=25,offset:=3,embedded:=false,tag:= "",pkgPath:= "",byteOffset:=24},{name:= "N",type:=3,offset:=35,embedded:=false,tag:= "",pkgPath:= "",byteOffset:=56}],36,64,some Kq13⟩:=Ao Tryz.underlying48 (by kernel_rfl)
theorem ty51:TyOK Tryz.prog TT 51 ⟨.slice 44,1,24,some (.sl Kq17)⟩:=Ao Tryz.underlying51 (by kernel_rfl)
theorem ty60:TyOK Tryz.prog TT 60 ⟨.struct #[{name:= "Key",type:=25,offset:=0,embedded:=false,tag:= "",pkgPath:= "",byteOffset:=0},{name:= "Stake",type:=28,offset:=32,embedded:=false,tag:= "",pkgPath:= "",byteOffset:=32},{name:= "Next",type:=28,offset:=33,embedded:=false,tag:= "",pkgPath:= "",byteOffset:=40}],34,48,some Kq5⟩:=Ao Tryz.underlying60 (by kernel_rfl)
theorem ty63:TyOK Tryz.prog TT 63 ⟨.slice 28,1,24,some (.sl (.int .u64))⟩:=Ao Tryz.underlying63 (by kernel_rfl)
theorem ty66:TyOK Tryz.prog TT 66 ⟨.slice 35,1,24,some (.sl (.int .i64))⟩:=Ao Tryz.underlying66 (by kernel_rfl)
theorem ty74:TyOK Tryz.prog TT 74 ⟨.func #[79,48] #[35] false,1,8,some .fn⟩:=Ao Tryz.underlying74 (by kernel_rfl)
theorem ty76:TyOK Tryz.prog TT 76 ⟨.map 3 74,1,8,some .mp⟩:=Ao Tryz.underlying76 (by kernel_rfl)
theorem ty81:TyOK Tryz.prog TT 81 ⟨.struct #[{name:= "Ledger",type:=34,offset:=0,embedded:=true,tag:= "",pkgPath:= "",byteOffset:=0},{name:= "answer",type:=44,offset:=75,embedded:=false,tag:= "",pkgPath:= "drawlot/ledger",byteOffset:=216}],110,288,some Kq31⟩:=Ao Tryz.underlying81 (by kernel_rfl)
theorem ty87:TyOK Tryz.prog TT 87 ⟨.struct #[{name:= "Tree",type:=63,offset:=0,embedded:=false,tag:= "",pkgPath:= "",byteOffset:=0}],1,24,some (.pair (.sl (.int .u64)) .unit)⟩:=Ao Tryz.underlying87 (by kernel_rfl)
theorem ty93:TyOK Tryz.prog TT 93 ⟨.slice 5,1,24,some (.sl (.int .u8))⟩:=Ao Tryz.underlying93 (by kernel_rfl)
theorem ty95:TyOK Tryz.prog TT 95 ⟨.array 8 5,8,8,some (.arr 8 (.int .u8))⟩:=Ao Tryz.underlying95 (by kernel_rfl)
theorem ty98:TyOK Tryz.prog TT 98 ⟨.int .u64,1,8,some (.int .u64)⟩:=Ao Tryz.underlying98 (by kernel_rfl)
theorem ty105:TyOK Tryz.prog TT 105 ⟨.func #[48] #[93] false,1,8,some .fn⟩:=Ao Tryz.underlying105 (by kernel_rfl)
theorem ty122:TyOK Tryz.prog TT 122 ⟨.struct #[{name:= "Epoch",type:=28,offset:=0,embedded:=false,tag:= "",pkgPath:= "",byteOffset:=0},{name:= "Seed",type:=25,offset:=1,embedded:=false,tag:= "",pkgPath:= "",byteOffset:=8},{name:= "Mix",type:=25,offset:=33,embedded:=false,tag:= "",pkgPath:= "",byteOffset:=40},{name:= "Next",type:=25,offset:=65,embedded:=false,tag:= "",pkgPath:= "",byteOffset:=72}],97,104,some Kq37⟩:=Ao Tryz.underlying122 (by kernel_rfl)
theorem ty132:TyOK Tryz.prog TT 132 ⟨.struct #[{name:= "Kind",type:=3,offset:=0,embedded:=false,tag:= "",pkgPath:= "",byteOffset:=0},{name:= "Tape",type:=93,offset:=1,embedded:=false,tag:= "",pkgPath:= "",byteOffset:=8},{name:= "Bits",type:=28,offset:=2,embedded:=false,tag:= "",pkgPath:= "",byteOffset:=32},{name:= "Seed",type:=25,offset:=3,embedded:=false,tag:= "",pkgPath:= "",byteOffset:=40},{name:= "Domain",type:=28,offset:=35,embedded:=false,tag:= "",pkgPath:= "",byteOffset:=72},{name:= "At",type:=28,offset:=36,embedded:=false,tag:= "",pkgPath:= "",byteOffset:=80}],37,88,some Kq40⟩:=Ao Tryz.underlying132 (by kernel_rfl)
theorem ty136:TyOK Tryz.prog TT 136 ⟨.int .u32,1,4,some (.int .u32)⟩:=Ao Tryz.underlying136 (by kernel_rfl)
theorem ty137:TyOK Tryz.prog TT 137 ⟨.slice 185,1,24,some (.sl (.arr 64 (.int .u8)))⟩:=Ao Tryz.underlying137 (by kernel_rfl)
theorem ty143:TyOK Tryz.prog TT 143 ⟨.array 8 136,8,32,some (.arr 8 (.int .u32))⟩:=Ao Tryz.underlying143 (by kernel_rfl)
theorem ty151:TyOK Tryz.prog TT 151 ⟨.struct #[{name:= "Who",type:=3,offset:=0,embedded:=false,tag:= "",pkgPath:= "",byteOffset:=0},{name:= "Hash",type:=25,offset:=1,embedded:=false,tag:= "",pkgPath:= "",byteOffset:=8},{name:= "Done",type:=4,offset:=33,embedded:=false,tag:= "",pkgPath:= "",byteOffset:=40},{name:= "Value",type:=25,offset:=34,embedded:=false,tag:= "",pkgPath:= "",byteOffset:=41}],66,80,some Kq3⟩:=Ao Tryz.underlying151 (by kernel_rfl)
theorem ty162:TyOK Tryz.prog TT 162 ⟨.slice 167,1,24,some (.sl Kq9)⟩:=Ao Tryz.underlying162 (by kernel_rfl)
theorem ty165:TyOK Tryz.prog TT 165 ⟨.func #[168,93] #[] false,1,8,some .fn⟩:=Ao Tryz.underlying165 (by kernel_rfl)
theorem ty167:TyOK Tryz.prog TT 167 ⟨.struct #[{name:= "size",type:=3,offset:=0,embedded:=false,tag:= "",pkgPath:= "drawlot/op",byteOffset:=0},{name:= "put",type:=105,offset:=1,embedded:=false,tag:= "",pkgPath:= "drawlot/op",byteOffset:=8},{name:= "take",type:=165,offset:=2,embedded:=false,tag:= "",pkgPath:= "drawlot/op",byteOffset:=16}],3,24,some Kq9⟩:=Ao Tryz.underlying167 (by kernel_rfl)
theorem ty185:TyOK Tryz.prog TT 185 ⟨.array 64 5,64,64,some (.arr 64 (.int .u8))⟩:=Ao Tryz.underlying185 (by kernel_rfl)
theorem ty188:TyOK Tryz.prog TT 188 ⟨.array 4 5,4,4,some (.arr 4 (.int .u8))⟩:=Ao Tryz.underlying188 (by kernel_rfl)
theorem ty191:TyOK Tryz.prog TT 191 ⟨.map 25 3,1,8,some .mp⟩:=Ao Tryz.underlying191 (by kernel_rfl)
theorem ty205:TyOK Tryz.prog TT 205 ⟨.struct #[{name:= "seed",type:=25,offset:=0,embedded:=false,tag:= "",pkgPath:= "drawlot/slots",byteOffset:=0},{name:= "attempts",type:=3,offset:=32,embedded:=false,tag:= "",pkgPath:= "drawlot/slots",byteOffset:=32}],33,40,some Kq10⟩:=Ao Tryz.underlying205 (by kernel_rfl)
theorem ty211:TyOK Tryz.prog TT 211 ⟨.slice 25,1,24,some (.sl (.arr 32 (.int .u8)))⟩:=Ao Tryz.underlying211 (by kernel_rfl)
theorem ty213:TyOK Tryz.prog TT 213 ⟨.slice 245,1,24,some (.sl Kq7)⟩:=Ao Tryz.underlying213 (by kernel_rfl)
theorem ty215:TyOK Tryz.prog TT 215 ⟨.struct #[{name:= "Total",type:=28,offset:=0,embedded:=false,tag:= "",pkgPath:= "",byteOffset:=0},{name:= "Cells",type:=213,offset:=1,embedded:=false,tag:= "",pkgPath:= "",byteOffset:=8}],2,32,some Kq44⟩:=Ao Tryz.underlying215 (by kernel_rfl)
theorem ty222:TyOK Tryz.prog TT 222 ⟨.array 64 136,64,256,some (.arr 64 (.int .u32))⟩:=Ao Tryz.underlying222 (by kernel_rfl)
theorem ty223:TyOK Tryz.prog TT 223 ⟨.array 64 136,64,256,some (.arr 64 (.int .u32))⟩:=Ao Tryz.underlying223 (by kernel_rfl)
theorem ty243:TyOK Tryz.prog TT 243 ⟨.func #[168] #[242] false,1,8,some .fn⟩:=Ao Tryz.underlying243 (by kernel_rfl)
theorem ty245:TyOK Tryz.prog TT 245 ⟨.struct #[{name:= "Cut",type:=28,offset:=0,embedded:=false,tag:= "",pkgPath:= "",byteOffset:=0},{name:= "Alias",type:=3,offset:=1,embedded:=false,tag:= "",pkgPath:= "",byteOffset:=8}],2,16,some Kq7⟩:=Ao Tryz.underlying245 (by kernel_rfl)
theorem ty256:TyOK Tryz.prog TT 256 ⟨.slice 93,1,24,some (.sl (.sl (.int .u8)))⟩:=Ao Tryz.underlying256 (by kernel_rfl)
theorem ty258:TyOK Tryz.prog TT 258 ⟨.struct #[{name:= "State",type:=143,offset:=0,embedded:=false,tag:= "",pkgPath:= "",byteOffset:=0},{name:= "Rest",type:=93,offset:=8,embedded:=false,tag:= "",pkgPath:= "",byteOffset:=32},{name:= "Bytes",type:=28,offset:=9,embedded:=false,tag:= "",pkgPath:= "",byteOffset:=56}],10,64,some Kq33⟩:=Ao Tryz.underlying258 (by kernel_rfl)
theorem ty269:TyOK Tryz.prog TT 269 ⟨.slice 3,1,24,some (.sl (.int .i64))⟩:=Ao Tryz.underlying269 (by kernel_rfl)
theorem ty271:TyOK Tryz.prog TT 271 ⟨.struct #[{name:= "Table",type:=215,offset:=0,embedded:=true,tag:= "",pkgPath:= "",byteOffset:=0},{name:= "has",type:=63,offset:=2,embedded:=false,tag:= "",pkgPath:= "drawlot/alias",byteOffset:=32},{name:= "small",type:=269,offset:=3,embedded:=false,tag:= "",pkgPath:= "drawlot/alias",byteOffset:=56},{name:= "large",type:=269,offset:=4,embedded:=false,tag:= "",pkgPath:= "drawlot/alias",byteOffset:=80}],5,104,some Kq46⟩:=Ao Tryz.underlying271 (by kernel_rfl)
theorem ty282:TyOK Tryz.prog TT 282 ⟨.struct #[{name:= "Writer",type:=258,offset:=0,embedded:=true,tag:= "",pkgPath:= "",byteOffset:=0}],10,64,some Kq34⟩:=Ao Tryz.underlying282 (by kernel_rfl)
theorem ty301:TyOK Tryz.prog TT 301 ⟨.struct #[{name:= "Source",type:=132,offset:=0,embedded:=true,tag:= "",pkgPath:= "",byteOffset:=0},{name:= "block",type:=25,offset:=37,embedded:=false,tag:= "",pkgPath:= "drawlot/tape",byteOffset:=88},{name:= "at",type:=28,offset:=69,embedded:=false,tag:= "",pkgPath:= "drawlot/tape",byteOffset:=120},{name:= "some",type:=4,offset:=70,embedded:=false,tag:= "",pkgPath:= "drawlot/tape",byteOffset:=128}],71,136,some Kq43⟩:=Ao Tryz.underlying301 (by kernel_rfl)
theorem ty307:TyOK Tryz.prog TT 307 ⟨.slice 136,1,24,some (.sl (.int .u32))⟩:=Ao Tryz.underlying307 (by kernel_rfl)
theorem tabOK:Ay Tryz.prog TT:=zvp (Ag ty3 (Ag ty4 (Ag ty5 (Ag ty9 (Ag ty23 (Ag ty25 (Ag ty27 (Ag ty28 (Ag ty29 (Ag ty31 (Ag ty32 (Ag ty34 (Ag ty35 (Ag ty40 (Ag ty41 (Ag ty44 (Ag ty48 (Ag ty51 (Ag ty60 (Ag ty63 (Ag ty66 (Ag ty74 (Ag ty76 (Ag ty81 (Ag ty87 (Ag ty93 (Ag ty95 (Ag ty98 (Ag ty105 (Ag ty122 (Ag ty132 (Ag ty136 (Ag ty137 (Ag ty143 (Ag ty151 (Ag ty162 (Ag ty165 (Ag ty167 (Ag ty185 (Ag ty188 (Ag ty191 (Ag ty205 (Ag ty211 (Ag ty213 (Ag ty215 (Ag ty222 (Ag ty223 (Ag ty243 (Ag ty245 (Ag ty256 (Ag ty258 (Ag ty269 (Ag ty271 (Ag ty282 (Ag ty301 (Ag ty307 Bx))))))))))))))))))))))))))))))))))))))))))))))))))))))))
theorem eqOK:∀t∈EQT,∀k,tkd TT t=some k→EqOK Tryz.prog t k:=(Ag (fun k h=>by
  have h':some ((.int .i64):Kd)=some k:=h;cases h';exact Mi tabOK (k:=(.int .i64)) rfl (by kernel_rfl) (by kernel_rfl) (by decide)) (Ag (fun k h=>by
  have h':some (Kq21:Kd)=some k:=h;cases h';exact Mi tabOK (k:=Kq21) rfl (by kernel_rfl) (by kernel_rfl) (by decide)) (Ag (fun k h=>by
  have h':some ((.arr 32 (.int .u8)):Kd)=some k:=h;cases h';exact Mi tabOK (k:=(.arr 32 (.int .u8))) rfl (by kernel_rfl) (by kernel_rfl) (by decide)) (Ag (fun k h=>by
  have h':some (Kq13:Kd)=some k:=h;cases h';exact Mi tabOK (k:=Kq13) rfl (by kernel_rfl) (by kernel_rfl) (by decide)) (Ag (fun k h=>by
  have h':some (Kq5:Kd)=some k:=h;cases h';exact Mi tabOK (k:=Kq5) rfl (by kernel_rfl) (by kernel_rfl) (by decide)) (Ag (fun k h=>by
  have h':some (Kq3:Kd)=some k:=h;cases h';exact Mi tabOK (k:=Kq3) rfl (by kernel_rfl) (by kernel_rfl) (by decide)) Bx))))))
theorem mixed:Tryz.prog.follows .mixedOrders=true:=by kernel_rfl
abbrev OKP (e:Ent):Prop:=e.OK Tryz.prog
abbrev LKP (e:LEnt) (np nt l:Nat) (f:Func):Prop:=e.OK Tryz.prog np nt (Cv l (Ah f))
abbrev sE:=mE TT EQT
theorem ST:Seat Tryz.prog TT EQT:=⟨tabOK,eqOK,mixed⟩
abbrev FT48:=(R:Type)→Int→Int→Int→(Bool→Option R)→Option R
def en48 (F:FT48):Ent:=eV 48 [(.int .i64),(.int .i64),(.int .i64)] [.bool] F
def p48:FT48:=fun R a0 a1 a2 k=>
let v1:=decide (a0≥a1);(match v1 with
|true=>let v2:=decide (a0≤a2);k v2
|false=>k false)
theorem q48:EQ (en48 p48) (sE 0 15 [] [] []) Tryz.f48 [(.tmp 6,4,false)]:=fun _ _ _=>by kernel_rfl
def F48:FT48:=p48
theorem ok48:OKP (en48 F48):=ST.ok0 q48 Ab Tryz.func48
abbrev FT25:=(R:Type)→Tq21→(Bool→Option R)→Option R
def en25 (F:FT25):Ent:=eV 25 [Kq21] [.bool] F
def p25 (F48:FT48):FT25:=fun R a0 k=>
F48 R a0.1 (1:Int) (1024:Int) fun y1=>
(match y1 with
|true=>F48 R a0.2.1 (0:Int) a0.1 fun y2=>
(match y2 with
|true=>let v3:=IntKind.i64.wrap (a0.1 - a0.2.1);F48 R a0.2.2.1 (0:Int) v3 fun y4=>
(match y4 with
|true=>F48 R a0.2.2.2.1 (1:Int) (64:Int) fun y5=>
(match y5 with
|true=>F48 R a0.2.2.2.2.1 (1:Int) (1048576:Int) fun y6=>
k y6
|false=>k false)
|false=>k false)
|false=>k false)
|false=>k false)
theorem q25 (F48:FT48):EQ (en25 (p25 F48)) (sE 0 33 [] [en48 F48] []) Tryz.f25 [(.tmp 2,4,false)]:=fun _ _ _=>by kernel_rfl
def F25:FT25:=p25 F48
theorem ok25:OKP (en25 F25):=ST.ok0 (q25 F48) (Aa ok48 Ab) Tryz.func25
abbrev FT26:=(R:Type)→LI→(Tq24→Option R)→Option R
def en26 (F:FT26):Ent:=eV 26 [(.arr 32 (.int .u8))] [Kq24] F
def p26:FT26:=fun R a0 k=>
k ((0:Int),a0,(List.replicate 32 (0:Int)),([]:(List Tq3)),())
theorem q26:EQ (en26 p26) (sE 0 5 [] [] []) Tryz.f26 [(.cell 2 31,31,false)]:=fun _ _ _=>by kernel_rfl
def F26:FT26:=p26
theorem ok26:OKP (en26 F26):=ST.ok0 q26 Ab Tryz.func26
abbrev FT96:=(R:Type)→Int→Int→(Int→Int→Option R)→Option R
def en96 (F:FT96):Ent:=eV 96 [(.int .u64),(.int .u64)] [(.int .u64),(.int .u64)] F
def p96:FT96:=fun R a0 a1 k=>
let v1:=iand .u64 a0 (4294967295:Int);let v2:=ishr .u64 a0 (32:Int);let v3:=iand .u64 a1 (4294967295:Int);let v4:=ishr .u64 a1 (32:Int);let v5:=IntKind.u64.wrap (v1*v3);let v6:=IntKind.u64.wrap (v2*v3);let v7:=ishr .u64 v5 (32:Int);let v8:=IntKind.u64.wrap (v6+v7);let v9:=iand .u64 v8 (4294967295:Int);let v10:=ishr .u64 v8 (32:Int);let v11:=IntKind.u64.wrap (v1*v4);let v12:=IntKind.u64.wrap (v9+v11);let v13:=IntKind.u64.wrap (v2*v4);let v14:=IntKind.u64.wrap (v13+v10);let v15:=ishr .u64 v12 (32:Int);let v16:=IntKind.u64.wrap (v14+v15);let v17:=IntKind.u64.wrap (a0*a1);k v16 v17
theorem q96:EQ (en96 p96) (sE 0 51 [] [] []) Tryz.f96 [(.tmp 4,28,false),(.tmp 5,28,false)]:=fun _ _ _=>by kernel_rfl
def F96:FT96:=p96
theorem ok96:OKP (en96 F96):=ST.ok0 q96 Ab Tryz.func96
abbrev FT49:=(R:Type)→Int→Int→(Int→Int→Option R)→Option R
def en49 (F:FT49):Ent:=eV 49 [(.int .u64),(.int .u64)] [(.int .u64),(.int .u64)] F
def p49 (F96:FT96):FT49:=fun R a0 a1 k=>
F96 R a0 a1 fun y1 y2=>
k y1 y2
theorem q49 (F96:FT96):EQ (en49 (p49 F96)) (sE 0 30 [] [en96 F96] []) Tryz.f49 [(.tmp 4,98,false),(.tmp 5,98,false)]:=fun _ _ _=>by kernel_rfl
def F49:FT49:=p49 F96
theorem ok49:OKP (en49 F49):=ST.ok0 (q49 F96) (Aa ok96 Ab) Tryz.func49
abbrev FT27:=(R:Type)→LI→Int→(LI→Option R)→Option R
def en27 (F:FT27):Ent:=eV 27 [(.sl (.int .i64)),(.int .i64)] [(.sl (.int .i64))] F
abbrev D27_8 (Z:Type):=Int→LI→Z
abbrev E27_8 (R:Type):=(LI→Option R)→Option R
abbrev Tm:=(R:Type)→D27_8 (E27_8 R)
def znd (L:Tm):LEnt:=lM 8 [.fix 7 (.own 0 0),.val 8 (.int .i64),.row 0 (.int .i64) false] 1 [(.exit 0,[.fix 7 (.own 0 0),.row 0 (.int .i64) false])] L
def e27 (F49:FT49) (L8:Tm):=sE 0 48 [] [en49 F49] [znd L8]
def p27_8 (R:Type):D27_8 (D27_8 (Option R)→E27_8 R):=fun x1 x2 kc k0=>
let v3:=(x2.length:Int);let v4:=decide (x1<v3);(match v4 with
|true=>(match (decide (0≤x1∧x1≤(x2.length:Int)∧(x2.length:Int)≤(x2.length:Int)∧(x2.length:Int)≤(x2.length:Int))) with
|true=>(match (decide (0≤(0:Int)∧(0:Int)≤x1∧x1≤x1∧x1≤(x2.length:Int))) with
|true=>let v5:=lay x2 x1.toNat (List.take (Int.toNat ((x2.length:Int) - x1)) (List.take (Int.toNat (x1 - 0)) (List.drop 0 x2)));let v6:=IntKind.i64.wrap (x1+((min (List.length (List.take (Int.toNat (x1 - 0)) (List.drop 0 x2))) (Int.toNat ((x2.length:Int) - x1)):Nat):Int));kc v6 v5
|false=>none)
|false=>none)
|false=>k0 x2)
theorem q27_8 (F49:FT49) (L8:Tm):LEQ (znd L8) (e27 F49 L8) Tryz.f27 p27_8:=fun _ _ _ _=>by kernel_rfl
def zdi:Nat→Tm
 | 0=>fun _ _ _ _=>none
 | n+1=>fun R x1 x2 k0=>p27_8 R x1 x2 (fun x1 x2=>zdi n R x1 x2 k0) k0
def p27 (F49:FT49) (L8:Tm):FT27:=fun R a0 a1 k=>
let v1:=decide (a1<0);(match v1 with
|true=>none
|false=>let v2:=(a0.length:Int);let v3:=IntKind.u64.wrap v2;let v4:=IntKind.u64.wrap a1;F49 R v3 v4 fun y5 y6=>
let v7:=decide (y5>0);(match v7 with
|true=>none
|false=>let v8:=decide (y6>9223372036854775807);(match v8 with
|true=>none
|false=>let v9:=IntKind.i64.wrap y6;(match (decide (0≤v9∧v9≤v9∧v9≤17592186044416)) with
|true=>let v10:=List.replicate v9.toNat (0:Int);let v11:=lay v10 0 (List.take (v10.length) a0);L8 R ((min (a0.length) (v10.length):Nat):Int) v11 (fun x12=>
k x12)
|false=>none))))
theorem q27 (F49:FT49) (L8:Tm):EQ (en27 (p27 F49 L8)) (e27 F49 L8) Tryz.f27 [(.tmp 4,32,false)]:=fun _ _ _=>by kernel_rfl
def F27:FT27:=p27 F49 (zdi FUEL)
theorem lok27_8:LKP (znd (zdi FUEL)) 0 48 8 Tryz.f27:=ST.lok (q27_8 F49 (zdi FUEL)) (Aa ok49 Ab) [] trivial
theorem ok27:OKP (en27 F27):=ST.ok1 (q27 F49 (zdi FUEL)) (Aa ok49 Ab) Tryz.func27 [8] ⟨⟨_,rfl,lok27_8⟩,trivial⟩
abbrev FT9:=(R:Type)→Tq21→LI→(Tq29→Int→Option R)→Option R
def en9 (F:FT9):Ent:=eV 9 [Kq21,(.arr 32 (.int .u8))] [Kq29,(.int .i64)] F
def p9 (F25:FT25) (F26:FT26) (F27:FT27):FT9:=fun R a0 a1 k=>
F25 R a0 fun y1=>
(match (!y1) with
|true=>k (((0:Int),(0:Int),(0:Int),(0:Int),(0:Int),()),(0:Int),([]:(List Tq5)),((0:Int),(List.replicate 32 (0:Int)),(List.replicate 32 (0:Int)),([]:(List Tq3)),()),([]:LI),([]:LI),()) (1:Int)
|false=>F26 R a1 fun y2=>
let v3:=([(-1:Int)]:LI);F27 R v3 a0.1 fun y4=>
k (a0,(0:Int),([]:(List Tq5)),y2,y4,([]:LI),()) (0:Int))
theorem q9 (F25:FT25) (F26:FT26) (F27:FT27):EQ (en9 (p9 F25 F26 F27)) (sE 0 18 [] [en25 F25,en26 F26,en27 F27] []) Tryz.f9 [(.cell 4 34,34,false),(.tmp 5,35,false)]:=fun _ _ _=>by kernel_rfl
def F9:FT9:=p9 F25 F26 F27
theorem ok9:OKP (en9 F9):=ST.ok0 (q9 F25 F26 F27) (Aa ok25 (Aa ok26 (Aa ok27 Ab))) Tryz.func9
abbrev FT46:=(R:Type)→LI→(LI→Option R)→Option R
def en46 (F:FT46):Ent:=eM 46 [(false,(.arr 32 (.int .u8)))] [(true,(.int .u8))] F
abbrev D46_3 (Z:Type):=Int→LI→LI→Z
abbrev E46_3 (R:Type):=(LI→Option R)→Option R
abbrev Tj:=(R:Type)→D46_3 (E46_3 R)
def zna (L:Tj):LEnt:=lM 3 [.fix 1 (.ptr 0 [] (.arr 32 (.int .u8))),.fix 3 (.own 1 0),.val 4 (.int .i64),.var 0 (.arr 32 (.int .u8)) false,.row 1 (.int .u8) false] 2 [(.exit 0,[.fix 3 (.own 1 0),.row 1 (.int .u8) false])] L
def e46 (L3:Tj):=sE 0 16 [(1,0)] [] [zna L3]
def p46_3 (R:Type):D46_3 (D46_3 (Option R)→E46_3 R):=fun x1 x2 x3 kc k0=>
let v4:=decide (x1<32);(match v4 with
|true=>(match (bnd x1 (32:Int)) with
|true=>let v5:=x2.getD x1.toNat 0;let v6:=([v5]:LI);(match (decide (x3.length+v6.length≤140737488355328)) with
|true=>let v7:=x3++v6;let v8:=IntKind.i64.wrap (x1+1);kc v8 x2 v7
|false=>none)
|false=>none)
|false=>k0 x3)
theorem q46_3 (L3:Tj):LEQ (zna L3) (e46 L3) Tryz.f46 p46_3:=fun _ _ _ _=>by kernel_rfl
def zdf:Nat→Tj
 | 0=>fun _ _ _ _ _=>none
 | n+1=>fun R x1 x2 x3 k0=>p46_3 R x1 x2 x3 (fun x1 x2 x3=>zdf n R x1 x2 x3 k0) k0
def p46 (L3:Tj):FT46:=fun R a0 k=>
L3 R (0:Int) a0 ([]:LI) (fun x1=>
k x1)
theorem q46 (L3:Tj):EQ (en46 (p46 L3)) (e46 L3) Tryz.f46 [(.tmp 2,93,true)]:=fun _ _ _=>by kernel_rfl
def F46:FT46:=p46 (zdf FUEL)
theorem lok46_3:LKP (zna (zdf FUEL)) 0 16 3 Tryz.f46:=ST.lok (q46_3 (zdf FUEL)) Ab [] trivial
theorem ok46:OKP (en46 F46):=ST.ok1 (q46 (zdf FUEL)) Ab Tryz.func46 [3] ⟨⟨_,rfl,lok46_3⟩,trivial⟩
abbrev FT47:=(R:Type)→Int→(LI→Option R)→Option R
def en47 (F:FT47):Ent:=eV 47 [(.int .u64)] [(.arr 8 (.int .u8))] F
abbrev D47_3 (Z:Type):=Int→Int→LI→LI→Z
abbrev E47_3 (R:Type):=(LI→LI→Option R)→Option R
abbrev Ti:=(R:Type)→D47_3 (E47_3 R)
def zm9 (L:Ti):LEnt:=lM 3 [.val 0 (.int .u64),.fix 2 (.ptr 0 [] (.arr 8 (.int .u8))),.fix 3 (.ptr 1 [] (.arr 8 (.int .u8))),.val 4 (.int .i64),.var 0 (.arr 8 (.int .u8)) false,.var 1 (.arr 8 (.int .u8)) false] 2 [(.exit 0,[.fix 2 (.ptr 0 [] (.arr 8 (.int .u8))),.fix 3 (.ptr 1 [] (.arr 8 (.int .u8))),.var 0 (.arr 8 (.int .u8)) false,.var 1 (.arr 8 (.int .u8)) false])] L
def e47 (L3:Ti):=sE 0 17 [] [] [zm9 L3]
def zv8 (R:Type):D47_3 (D47_3 (Option R)→E47_3 R):=fun x1 x2 x3 x4 kc k0=>
let v5:=decide (x2≥0);(match v5 with
|true=>let v6:=Int.tmod x1 (256:Int);let v7:=IntKind.u8.wrap v6;(match (bnd x2 (8:Int)) with
|true=>let v8:=x4.set x2.toNat v7;let v9:=IntKind.u64.wrap (Int.tdiv x1 (256:Int));let v10:=IntKind.i64.wrap (x2 - 1);kc v9 v10 x3 v8
|false=>none)
|false=>k0 x3 x4)
theorem q47_3 (L3:Ti):LEQ (zm9 L3) (e47 L3) Tryz.f47 zv8:=fun _ _ _ _=>by kernel_rfl
def Yn:Nat→Ti
 | 0=>fun _ _ _ _ _ _=>none
 | n+1=>fun R x1 x2 x3 x4 k0=>zv8 R x1 x2 x3 x4 (fun x1 x2 x3 x4=>Yn n R x1 x2 x3 x4 k0) k0
def p47 (L3:Ti):FT47:=fun R a0 k=>
L3 R a0 (7:Int) (List.replicate 8 (0:Int)) (List.replicate 8 (0:Int)) (fun x1 x2=>
k x2)
theorem q47 (L3:Ti):EQ (en47 (p47 L3)) (e47 L3) Tryz.f47 [(.cell 2 95,95,false)]:=fun _ _ _=>by kernel_rfl
def F47:FT47:=p47 (Yn FUEL)
theorem lok47_3:LKP (zm9 (Yn FUEL)) 0 17 3 Tryz.f47:=ST.lok (q47_3 (Yn FUEL)) Ab [] trivial
theorem ok47:OKP (en47 F47):=ST.ok1 (q47 (Yn FUEL)) Ab Tryz.func47 [3] ⟨⟨_,rfl,lok47_3⟩,trivial⟩
abbrev zrx:=(R:Type)→LI→Int→(LI→Bool→Option R)→Option R
def en134 (F:zrx):Ent:=eV 134 [(.sl (.int .u8)),(.int .u64)] [(.sl (.int .u8)),.bool] F
abbrev zu0 (Z:Type):=Int→LI→Z
abbrev E134_4 (R:Type):=(Int→LI→Option R)→Option R
abbrev Kg:=(R:Type)→zu0 (E134_4 R)
def zb1 (L:Kg):LEnt:=lM 4 [.val 1 (.int .u64),.fix 6 (.own 0 0),.row 0 (.int .u8) false] 1 [(.exit 0,[.val 1 (.int .u64),.fix 6 (.own 0 0),.row 0 (.int .u8) false])] L
abbrev zuz (Z:Type):=Int→LI→LI→Z
abbrev E134_8 (R:Type):=(LI→Option R)→Option R
abbrev Kf:=(R:Type)→zuz (E134_8 R)
def zb0 (L:Kf):LEnt:=lM 8 [.fix 6 (.own 0 0),.fix 7 (.ptr 1 [] (.arr 8 (.int .u8))),.val 8 (.int .i64),.row 0 (.int .u8) false,.var 1 (.arr 8 (.int .u8)) false] 2 [(.exit 2,[.fix 6 (.own 0 0),.row 0 (.int .u8) false])] L
def e134 (F47:FT47) (L4:Kg) (L8:Kf):=sE 0 45 [(3,0)] [en47 F47] [zb1 L4,zb0 L8]
def zgn (R:Type):zu0 (zu0 (Option R)→E134_4 R):=fun x1 x2 kc k0=>
let v3:=(x2.length:Int);let v4:=Int.tmod v3 (64:Int);let v5:=v4 !=56;(match v5 with
|true=>let v6:=([(0:Int)]:LI);(match (decide (x2.length+v6.length≤140737488355328)) with
|true=>let v7:=x2++v6;kc x1 v7
|false=>none)
|false=>k0 x1 x2)
theorem q134_4 (F47:FT47) (L4:Kg) (L8:Kf):LEQ (zb1 L4) (e134 F47 L4 L8) Tryz.f134 zgn:=fun _ _ _ _=>by kernel_rfl
def Lk:Nat→Kg
 | 0=>fun _ _ _ _=>none
 | n+1=>fun R x1 x2 k0=>zgn R x1 x2 (fun x1 x2=>Lk n R x1 x2 k0) k0
def zlw (R:Type):zuz (zuz (Option R)→E134_8 R):=fun x1 x2 x3 kc k0=>
let v4:=decide (x1<8);(match v4 with
|true=>(match (bnd x1 (8:Int)) with
|true=>let v5:=x3.getD x1.toNat 0;let v6:=([v5]:LI);(match (decide (x2.length+v6.length≤140737488355328)) with
|true=>let v7:=x2++v6;let v8:=IntKind.i64.wrap (x1+1);kc v8 v7 x3
|false=>none)
|false=>none)
|false=>k0 x2)
theorem q134_8 (F47:FT47) (L4:Kg) (L8:Kf):LEQ (zb0 L8) (e134 F47 L4 L8) Tryz.f134 zlw:=fun _ _ _ _=>by kernel_rfl
def Lj:Nat→Kf
 | 0=>fun _ _ _ _ _=>none
 | n+1=>fun R x1 x2 x3 k0=>zlw R x1 x2 x3 (fun x1 x2 x3=>Lj n R x1 x2 x3 k0) k0
def p134 (F47:FT47) (L4:Kg) (L8:Kf):zrx:=fun R a0 a1 k=>
let v1:=decide (a1≥2305843009213693952);(match v1 with
|true=>k ([]:LI) false
|false=>let v2:=(a0.length:Int);let v3:=IntKind.u64.wrap v2;let v4:=Int.tmod a1 (64:Int);let v5:=v3 !=v4;(match v5 with
|true=>k ([]:LI) false
|false=>let v6:=([]:LI);(match (decide (v6.length+a0.length≤140737488355328)) with
|true=>let v7:=v6++a0;let v8:=([(128:Int)]:LI);(match (decide (v7.length+v8.length≤140737488355328)) with
|true=>let v9:=v7++v8;L4 R a1 v9 (fun x10 x11=>
let v12:=IntKind.u64.wrap ((8:Int)*x10);F47 R v12 fun y13=>
L8 R (0:Int) x11 y13 (fun x14=>
k x14 true))
|false=>none)
|false=>none)))
theorem q134 (F47:FT47) (L4:Kg) (L8:Kf):EQ (en134 (p134 F47 L4 L8)) (e134 F47 L4 L8) Tryz.f134 [(.tmp 4,93,false),(.tmp 5,4,false)]:=fun _ _ _=>by kernel_rfl
def F134:zrx:=p134 F47 (Lk FUEL) (Lj FUEL)
theorem zx5:LKP (zb1 (Lk FUEL)) 0 45 4 Tryz.f134:=ST.lok (q134_4 F47 (Lk FUEL) (Lj FUEL)) (Aa ok47 Ab) [] trivial
theorem zx4:LKP (zb0 (Lj FUEL)) 0 45 8 Tryz.f134:=ST.lok (q134_8 F47 (Lk FUEL) (Lj FUEL)) (Aa ok47 Ab) [] trivial
theorem ok134:OKP (en134 F134):=ST.ok1 (q134 F47 (Lk FUEL) (Lj FUEL)) (Aa ok47 Ab) Tryz.func134 [4,8] ⟨⟨_,rfl,zx5⟩,⟨⟨_,rfl,zx4⟩,trivial⟩⟩
abbrev FT91:=(R:Type)→LI→(LI→Option R)→Option R
def en91 (F:FT91):Ent:=eV 91 [(.sl (.int .u8))] [(.sl (.int .u8))] F
def p91 (F134:zrx):FT91:=fun R a0 k=>
let v1:=(a0.length:Int);let v2:=(a0.length:Int);let v3:=Int.tmod v2 (64:Int);let v4:=IntKind.i64.wrap (v1 - v3);(match (decide (0≤v4∧v4≤(a0.length:Int)∧(a0.length:Int)≤(a0.length:Int)∧(a0.length:Int)≤(a0.length:Int))) with
|true=>let v5:=List.take (Int.toNat ((a0.length:Int) - v4)) (List.drop v4.toNat a0);let v6:=(a0.length:Int);let v7:=IntKind.u64.wrap v6;F134 R v5 v7 fun y8 y9=>
let v10:=([]:LI);(match (decide (0≤(0:Int)∧(0:Int)≤v4∧v4≤v4∧v4≤(a0.length:Int))) with
|true=>let v11:=List.take (Int.toNat (v4 - 0)) (List.drop 0 a0);(match (decide (v10.length+v11.length≤140737488355328)) with
|true=>let v12:=v10++v11;(match (decide (v12.length+y8.length≤140737488355328)) with
|true=>let v13:=v12++y8;k v13
|false=>none)
|false=>none)
|false=>none)
|false=>none)
theorem q91 (F134:zrx):EQ (en91 (p91 F134)) (sE 0 29 [(3,0)] [en134 F134] []) Tryz.f91 [(.tmp 2,93,false)]:=fun _ _ _=>by kernel_rfl
def F91:FT91:=p91 F134
theorem ok91:OKP (en91 F91):=ST.ok0 (q91 F134) (Aa ok134 Ab) Tryz.func91
abbrev FT90:=(R:Type)→LI→((List LI)→LI→Option R)→Option R
def en90 (F:FT90):Ent:=eV 90 [(.sl (.int .u8))] [(.sl (.arr 64 (.int .u8))),(.sl (.int .u8))] F
abbrev D90_3 (Z:Type):=LI→Int→(List LI)→Z
abbrev E90_3 (R:Type):=(LI→Int→(List LI)→Option R)→Option R
abbrev Q1:=(R:Type)→D90_3 (E90_3 R)
def zmy (L:Q1):LEnt:=lM 3 [.val 0 (.sl (.int .u8)),.fix 4 (.own 0 0),.val 5 (.int .i64),.row 0 (.arr 64 (.int .u8)) false] 1 [(.exit 0,[.val 0 (.sl (.int .u8)),.fix 4 (.own 0 0),.val 5 (.int .i64),.row 0 (.arr 64 (.int .u8)) false])] L
abbrev D90_6 (Z:Type):=LI→Int→Int→(List LI)→LI→Z
abbrev E90_6 (R:Type):=(LI→Int→(List LI)→LI→Option R)→Option R
abbrev Q0:=(R:Type)→D90_6 (E90_6 R)
def zmx (L:Q0):LEnt:=lM 6 [.val 0 (.sl (.int .u8)),.fix 4 (.own 0 0),.val 5 (.int .i64),.fix 6 (.ptr 1 [] (.arr 64 (.int .u8))),.val 7 (.int .i64),.row 0 (.arr 64 (.int .u8)) false,.var 1 (.arr 64 (.int .u8)) false] 2 [(.exit 2,[.val 0 (.sl (.int .u8)),.fix 4 (.own 0 0),.val 5 (.int .i64),.fix 6 (.ptr 1 [] (.arr 64 (.int .u8))),.row 0 (.arr 64 (.int .u8)) false,.var 1 (.arr 64 (.int .u8)) false])] L
def e90 (L3:Q1) (L6:Q0):=sE 0 35 [(1,0)] [] [zmy L3,zmx L6]
def p90_6 (R:Type):D90_6 (D90_6 (Option R)→E90_6 R):=fun x1 x2 x3 x4 x5 kc k0=>
let v6:=decide (x3<64);(match v6 with
|true=>let v7:=IntKind.i64.wrap (x2+x3);(match bnd v7 x1.length with
|true=>let v8:=x1.getD v7.toNat 0;(match (bnd x3 (64:Int)) with
|true=>let v9:=x5.set x3.toNat v8;let v10:=IntKind.i64.wrap (x3+1);kc x1 x2 v10 x4 v9
|false=>none)
|false=>none)
|false=>k0 x1 x2 x4 x5)
theorem q90_6 (L3:Q1) (L6:Q0):LEQ (zmx L6) (e90 L3 L6) Tryz.f90 p90_6:=fun _ _ _ _=>by kernel_rfl
def Yl:Nat→Q0
 | 0=>fun _ _ _ _ _ _ _=>none
 | n+1=>fun R x1 x2 x3 x4 x5 k0=>p90_6 R x1 x2 x3 x4 x5 (fun x1 x2 x3 x4 x5=>Yl n R x1 x2 x3 x4 x5 k0) k0
def p90_3 (L6:Q0) (R:Type):D90_3 (D90_3 (Option R)→E90_3 R):=fun x1 x2 x3 kc k0=>
let v4:=IntKind.i64.wrap (x2+64);let v5:=(x1.length:Int);let v6:=decide (v4≤v5);(match v6 with
|true=>L6 R x1 x2 (0:Int) x3 (List.replicate 64 (0:Int)) (fun x7 x8 x9 x10=>
let v11:=([x10]:(List LI));(match (decide (x9.length+v11.length≤2199023255552)) with
|true=>let v12:=x9++v11;let v13:=IntKind.i64.wrap (x8+64);kc x7 v13 v12
|false=>none))
|false=>k0 x1 x2 x3)
theorem q90_3 (L3:Q1) (L6:Q0):LEQ (zmy L3) (e90 L3 L6) Tryz.f90 (p90_3 L6):=fun _ _ _ _=>by kernel_rfl
def Vr:Nat→Q1
 | 0=>fun _ _ _ _ _=>none
 | n+1=>fun R x1 x2 x3 k0=>p90_3 (Yl FUEL) R x1 x2 x3 (fun x1 x2 x3=>Vr n R x1 x2 x3 k0) k0
def p90 (L3:Q1):FT90:=fun R a0 k=>
L3 R a0 (0:Int) ([]:(List LI)) (fun x1 x2 x3=>
(match (decide (0≤x2∧x2≤(x1.length:Int)∧(x1.length:Int)≤(x1.length:Int)∧(x1.length:Int)≤(x1.length:Int))) with
|true=>let v4:=List.take (Int.toNat ((x1.length:Int) - x2)) (List.drop x2.toNat x1);k x3 v4
|false=>none))
theorem q90 (L3:Q1) (L6:Q0):EQ (en90 (p90 L3)) (e90 L3 L6) Tryz.f90 [(.tmp 2,137,false),(.tmp 3,93,false)]:=fun _ _ _=>by kernel_rfl
def F90:FT90:=p90 (Vr FUEL)
theorem lok90_6:LKP (zmx (Yl FUEL)) 0 35 6 Tryz.f90:=ST.lok (q90_6 (Vr FUEL) (Yl FUEL)) Ab [] trivial
theorem lok90_3:LKP (zmy (Vr FUEL)) 0 35 3 Tryz.f90:=ST.lok (q90_3 (Vr FUEL) (Yl FUEL)) Ab [6] ⟨⟨_,rfl,lok90_6⟩,trivial⟩
theorem ok90:OKP (en90 F90):=ST.ok1 (q90 (Vr FUEL) (Yl FUEL)) Ab Tryz.func90 [3] ⟨⟨_,rfl,lok90_3⟩,trivial⟩
abbrev FT94:=(R:Type)→(LI→Option R)→Option R
def en94 (F:FT94):Ent:=eV 94 [] [(.arr 8 (.int .u32))] F
def p94:FT94:=fun R k=>
let v1:=List.set (List.set (List.set (List.set (List.set (List.set (List.set (List.set (List.replicate 8 (0:Int)) 0 (1779033703:Int)) 1 (3144134277:Int)) 2 (1013904242:Int)) 3 (2773480762:Int)) 4 (1359893119:Int)) 5 (2600822924:Int)) 6 (528734635:Int)) 7 (1541459225:Int);k v1
theorem q94:EQ (en94 p94) (sE 0 2 [] [] []) Tryz.f94 [(.cell 0 143,143,false)]:=fun _ _ _=>by kernel_rfl
def F94:FT94:=p94
theorem ok94:OKP (en94 F94):=ST.ok0 q94 Ab Tryz.func94
abbrev Zd:=(R:Type)→LI→(Int→Option R)→Option R
def en216 (F:Zd):Ent:=eV 216 [(.arr 4 (.int .u8))] [(.int .u32)] F
abbrev zua (Z:Type):=Int→Int→LI→Z
abbrev E216_3 (R:Type):=(Int→Option R)→Option R
abbrev M9:=(R:Type)→zua (E216_3 R)
def zbb (L:M9):LEnt:=lM 3 [.fix 1 (.ptr 0 [] (.arr 4 (.int .u8))),.val 3 (.int .u32),.val 4 (.int .i64),.var 0 (.arr 4 (.int .u8)) false] 1 [(.exit 0,[.val 3 (.int .u32)])] L
def e216 (L3:M9):=sE 0 17 [] [] [zbb L3]
def zlb (R:Type):zua (zua (Option R)→E216_3 R):=fun x1 x2 x3 kc k0=>
let v4:=decide (x2<4);(match v4 with
|true=>let v5:=IntKind.u32.wrap (x1*256);(match (bnd x2 (4:Int)) with
|true=>let v6:=x3.getD x2.toNat 0;let v7:=IntKind.u32.wrap v6;let v8:=IntKind.u32.wrap (v5+v7);let v9:=IntKind.i64.wrap (x2+1);kc v8 v9 x3
|false=>none)
|false=>k0 x1)
theorem q216_3 (L3:M9):LEQ (zbb L3) (e216 L3) Tryz.f216 zlb:=fun _ _ _ _=>by kernel_rfl
def Tw:Nat→M9
 | 0=>fun _ _ _ _ _=>none
 | n+1=>fun R x1 x2 x3 k0=>zlb R x1 x2 x3 (fun x1 x2 x3=>Tw n R x1 x2 x3 k0) k0
def p216 (L3:M9):Zd:=fun R a0 k=>
L3 R (0:Int) (0:Int) a0 (fun x1=>
k x1)
theorem q216 (L3:M9):EQ (en216 (p216 L3)) (e216 L3) Tryz.f216 [(.tmp 2,136,false)]:=fun _ _ _=>by kernel_rfl
def F216:Zd:=p216 (Tw FUEL)
theorem zxe:LKP (zbb (Tw FUEL)) 0 17 3 Tryz.f216:=ST.lok (q216_3 (Tw FUEL)) Ab [] trivial
theorem ok216:OKP (en216 F216):=ST.ok1 (q216 (Tw FUEL)) Ab Tryz.func216 [3] ⟨⟨_,rfl,zxe⟩,trivial⟩
abbrev Vt:=(R:Type)→Int→Int→(Int→Option R)→Option R
def zoa (F:Vt):Ent:=eV 248 [(.int .u32),(.int .i64)] [(.int .u32)] F
abbrev zt3 (Z:Type):=Int→Int→Int→Z
abbrev E248_5 (R:Type):=(Int→Option R)→Option R
abbrev M2:=(R:Type)→zt3 (E248_5 R)
def za4 (L:M2):LEnt:=lM 5 [.val 0 (.int .u32),.val 1 (.int .i64),.val 5 (.int .i64)] 0 [(.exit 0,[.val 0 (.int .u32)])] L
def e248 (L5:M2):=sE 0 24 [] [] [za4 L5]
def zk6 (R:Type):zt3 (zt3 (Option R)→E248_5 R):=fun x1 x2 x3 kc k0=>
let v4:=decide (x3<x2);(match v4 with
|true=>let v5:=IntKind.u32.wrap (Int.tdiv x1 (2:Int));let v6:=Int.tmod x1 (2:Int);let v7:=IntKind.u32.wrap (v6*2147483648);let v8:=IntKind.u32.wrap (v5+v7);let v9:=IntKind.i64.wrap (x3+1);kc v8 x2 v9
|false=>k0 x1)
theorem q248_5 (L5:M2):LEQ (za4 L5) (e248 L5) Tryz.f248 zk6:=fun _ _ _ _=>by kernel_rfl
def Q8:Nat→M2
 | 0=>fun _ _ _ _ _=>none
 | n+1=>fun R x1 x2 x3 k0=>zk6 R x1 x2 x3 (fun x1 x2 x3=>Q8 n R x1 x2 x3 k0) k0
def p248 (L5:M2):Vt:=fun R a0 a1 k=>
let v1:=Int.tmod a1 (32:Int);let v2:=decide (v1<0);(match v2 with
|true=>let v3:=IntKind.i64.wrap (v1+32);L5 R a0 v3 (0:Int) (fun x4=>
k x4)
|false=>L5 R a0 v1 (0:Int) (fun x5=>
k x5))
theorem q248 (L5:M2):EQ (zoa (p248 L5)) (e248 L5) Tryz.f248 [(.tmp 4,136,false)]:=fun _ _ _=>by kernel_rfl
def F248:Vt:=p248 (Q8 FUEL)
theorem zw7:LKP (za4 (Q8 FUEL)) 0 24 5 Tryz.f248:=ST.lok (q248_5 (Q8 FUEL)) Ab [] trivial
theorem ok248:OKP (zoa F248):=ST.ok1 (q248 (Q8 FUEL)) Ab Tryz.func248 [5] ⟨⟨_,rfl,zw7⟩,trivial⟩
abbrev Vu:=(R:Type)→Int→Int→(Int→Option R)→Option R
def zob (F:Vu):Ent:=eV 247 [(.int .u32),(.int .i64)] [(.int .u32)] F
abbrev zt4 (Z:Type):=Int→Int→Int→Z
abbrev E247_4 (R:Type):=(Int→Option R)→Option R
abbrev M3:=(R:Type)→zt4 (E247_4 R)
def za5 (L:M3):LEnt:=lM 4 [.val 0 (.int .u32),.val 1 (.int .i64),.val 5 (.int .i64)] 0 [(.exit 0,[.val 0 (.int .u32)])] L
def e247 (L4:M3):=sE 0 16 [] [] [za5 L4]
def zk7 (R:Type):zt4 (zt4 (Option R)→E247_4 R):=fun x1 x2 x3 kc k0=>
let v4:=decide (x3<x2);(match v4 with
|true=>let v5:=IntKind.u32.wrap (Int.tdiv x1 (2:Int));let v6:=IntKind.i64.wrap (x3+1);kc v5 x2 v6
|false=>k0 x1)
theorem q247_4 (L4:M3):LEQ (za5 L4) (e247 L4) Tryz.f247 zk7:=fun _ _ _ _=>by kernel_rfl
def Q9:Nat→M3
 | 0=>fun _ _ _ _ _=>none
 | n+1=>fun R x1 x2 x3 k0=>zk7 R x1 x2 x3 (fun x1 x2 x3=>Q9 n R x1 x2 x3 k0) k0
def p247 (L4:M3):Vu:=fun R a0 a1 k=>
let v1:=decide (a1>31);(match v1 with
|true=>k (0:Int)
|false=>L4 R a0 a1 (0:Int) (fun x2=>
k x2))
theorem q247 (L4:M3):EQ (zob (p247 L4)) (e247 L4) Tryz.f247 [(.tmp 4,136,false)]:=fun _ _ _=>by kernel_rfl
def F247:Vu:=p247 (Q9 FUEL)
theorem zw8:LKP (za5 (Q9 FUEL)) 0 16 4 Tryz.f247:=ST.lok (q247_4 (Q9 FUEL)) Ab [] trivial
theorem ok247:OKP (zob F247):=ST.ok1 (q247 (Q9 FUEL)) Ab Tryz.func247 [4] ⟨⟨_,rfl,zw8⟩,trivial⟩
abbrev Zc:=(R:Type)→Int→(Int→Option R)→Option R
def en217 (F:Zc):Ent:=eV 217 [(.int .u32)] [(.int .u32)] F
def p217 (F247:Vu) (F248:Vt):Zc:=fun R a0 k=>
F248 R a0 (17:Int) fun y1=>
F248 R a0 (19:Int) fun y2=>
let v3:=ixor .u32 y1 y2;F247 R a0 (10:Int) fun y4=>
let v5:=ixor .u32 v3 y4;k v5
theorem q217 (F247:Vu) (F248:Vt):EQ (en217 (p217 F247 F248)) (sE 0 11 [] [zob F247,zoa F248] []) Tryz.f217 [(.tmp 2,136,false)]:=fun _ _ _=>by kernel_rfl
def F217:Zc:=p217 F247 F248
theorem ok217:OKP (en217 F217):=ST.ok0 (q217 F247 F248) (Aa ok247 (Aa ok248 Ab)) Tryz.func217
abbrev Zb:=(R:Type)→Int→(Int→Option R)→Option R
def en218 (F:Zb):Ent:=eV 218 [(.int .u32)] [(.int .u32)] F
def p218 (F247:Vu) (F248:Vt):Zb:=fun R a0 k=>
F248 R a0 (7:Int) fun y1=>
F248 R a0 (18:Int) fun y2=>
let v3:=ixor .u32 y1 y2;F247 R a0 (3:Int) fun y4=>
let v5:=ixor .u32 v3 y4;k v5
theorem q218 (F247:Vu) (F248:Vt):EQ (en218 (p218 F247 F248)) (sE 0 11 [] [zob F247,zoa F248] []) Tryz.f218 [(.tmp 2,136,false)]:=fun _ _ _=>by kernel_rfl
def F218:Zb:=p218 F247 F248
theorem ok218:OKP (en218 F218):=ST.ok0 (q218 F247 F248) (Aa ok247 (Aa ok248 Ab)) Tryz.func218
abbrev Zj:=(R:Type)→LI→(LI→Option R)→Option R
def en175 (F:Zj):Ent:=eV 175 [(.arr 64 (.int .u8))] [(.arr 64 (.int .u32))] F
abbrev zum (Z:Type):=Int→LI→LI→LI→Z
abbrev E175_3 (R:Type):=(LI→LI→Option R)→Option R
abbrev J9:=(R:Type)→zum (E175_3 R)
def zbn (L:J9):LEnt:=lM 3 [.fix 1 (.ptr 0 [] (.arr 64 (.int .u8))),.fix 2 (.ptr 1 [] (.arr 64 (.int .u32))),.fix 3 (.ptr 2 [] (.arr 64 (.int .u32))),.val 4 (.int .i64),.var 0 (.arr 64 (.int .u8)) false,.var 1 (.arr 64 (.int .u32)) false,.var 2 (.arr 64 (.int .u32)) false] 3 [(.exit 0,[.fix 2 (.ptr 1 [] (.arr 64 (.int .u32))),.fix 3 (.ptr 2 [] (.arr 64 (.int .u32))),.var 1 (.arr 64 (.int .u32)) false,.var 2 (.arr 64 (.int .u32)) false])] L
abbrev zul (Z:Type):=Int→LI→LI→Z
abbrev E175_7 (R:Type):=(LI→LI→Option R)→Option R
abbrev J8:=(R:Type)→zul (E175_7 R)
def zbm (L:J8):LEnt:=lM 7 [.fix 2 (.ptr 1 [] (.arr 64 (.int .u32))),.fix 3 (.ptr 2 [] (.arr 64 (.int .u32))),.val 5 (.int .i64),.var 1 (.arr 64 (.int .u32)) false,.var 2 (.arr 64 (.int .u32)) false] 3 [(.exit 2,[.fix 2 (.ptr 1 [] (.arr 64 (.int .u32))),.fix 3 (.ptr 2 [] (.arr 64 (.int .u32))),.var 1 (.arr 64 (.int .u32)) false,.var 2 (.arr 64 (.int .u32)) false])] L
def e175 (F216:Zd) (F217:Zc) (F218:Zb) (L3:J9) (L7:J8):=sE 0 61 [] [en216 F216,en217 F217,en218 F218] [zbn L3,zbm L7]
def zlk (F216:Zd) (R:Type):zum (zum (Option R)→E175_3 R):=fun x1 x2 x3 x4 kc k0=>
let v5:=decide (x1<16);(match v5 with
|true=>let v6:=IntKind.i64.wrap ((4:Int)*x1);(match (bnd v6 (64:Int)) with
|true=>let v7:=x2.getD v6.toNat 0;let v8:=IntKind.i64.wrap ((4:Int)*x1);let v9:=IntKind.i64.wrap (v8+1);(match (bnd v9 (64:Int)) with
|true=>let v10:=x2.getD v9.toNat 0;let v11:=IntKind.i64.wrap ((4:Int)*x1);let v12:=IntKind.i64.wrap (v11+2);(match (bnd v12 (64:Int)) with
|true=>let v13:=x2.getD v12.toNat 0;let v14:=IntKind.i64.wrap ((4:Int)*x1);let v15:=IntKind.i64.wrap (v14+3);(match (bnd v15 (64:Int)) with
|true=>let v16:=x2.getD v15.toNat 0;let v17:=List.set (List.set (List.set (List.set (List.replicate 4 (0:Int)) 0 v7) 1 v10) 2 v13) 3 v16;F216 R v17 fun y18=>
(match (bnd x1 (64:Int)) with
|true=>let v19:=x4.set x1.toNat y18;let v20:=IntKind.i64.wrap (x1+1);kc v20 x2 x3 v19
|false=>none)
|false=>none)
|false=>none)
|false=>none)
|false=>none)
|false=>k0 x3 x4)
theorem q175_3 (F216:Zd) (F217:Zc) (F218:Zb) (L3:J9) (L7:J8):LEQ (zbn L3) (e175 F216 F217 F218 L3 L7) Tryz.f175 (zlk F216):=fun _ _ _ _=>by kernel_rfl
def Oy:Nat→J9
 | 0=>fun _ _ _ _ _ _=>none
 | n+1=>fun R x1 x2 x3 x4 k0=>zlk F216 R x1 x2 x3 x4 (fun x1 x2 x3 x4=>Oy n R x1 x2 x3 x4 k0) k0
def zlj (F217:Zc) (F218:Zb) (R:Type):zul (zul (Option R)→E175_7 R):=fun x1 x2 x3 kc k0=>
let v4:=decide (x1<64);(match v4 with
|true=>let v5:=IntKind.i64.wrap (x1 - 2);(match (bnd v5 (64:Int)) with
|true=>let v6:=x3.getD v5.toNat 0;F217 R v6 fun y7=>
let v8:=IntKind.i64.wrap (x1 - 7);(match (bnd v8 (64:Int)) with
|true=>let v9:=x3.getD v8.toNat 0;let v10:=IntKind.u32.wrap (y7+v9);let v11:=IntKind.i64.wrap (x1 - 15);(match (bnd v11 (64:Int)) with
|true=>let v12:=x3.getD v11.toNat 0;F218 R v12 fun y13=>
let v14:=IntKind.u32.wrap (v10+y13);let v15:=IntKind.i64.wrap (x1 - 16);(match (bnd v15 (64:Int)) with
|true=>let v16:=x3.getD v15.toNat 0;let v17:=IntKind.u32.wrap (v14+v16);(match (bnd x1 (64:Int)) with
|true=>let v18:=x3.set x1.toNat v17;let v19:=IntKind.i64.wrap (x1+1);kc v19 x2 v18
|false=>none)
|false=>none)
|false=>none)
|false=>none)
|false=>none)
|false=>k0 x2 x3)
theorem q175_7 (F216:Zd) (F217:Zc) (F218:Zb) (L3:J9) (L7:J8):LEQ (zbm L7) (e175 F216 F217 F218 L3 L7) Tryz.f175 (zlj F217 F218):=fun _ _ _ _=>by kernel_rfl
def Lg:Nat→J8
 | 0=>fun _ _ _ _ _=>none
 | n+1=>fun R x1 x2 x3 k0=>zlj F217 F218 R x1 x2 x3 (fun x1 x2 x3=>Lg n R x1 x2 x3 k0) k0
def p175 (L3:J9) (L7:J8):Zj:=fun R a0 k=>
L3 R (0:Int) a0 (List.replicate 64 (0:Int)) (List.replicate 64 (0:Int)) (fun x1 x2=>
L7 R (16:Int) x1 x2 (fun x3 x4=>
k x4))
theorem q175 (F216:Zd) (F217:Zc) (F218:Zb) (L3:J9) (L7:J8):EQ (en175 (p175 L3 L7)) (e175 F216 F217 F218 L3 L7) Tryz.f175 [(.cell 2 223,223,false)]:=fun _ _ _=>by kernel_rfl
def F175:Zj:=p175 (Oy FUEL) (Lg FUEL)
theorem zxq:LKP (zbn (Oy FUEL)) 0 61 3 Tryz.f175:=ST.lok (q175_3 F216 F217 F218 (Oy FUEL) (Lg FUEL)) (Aa ok216 (Aa ok217 (Aa ok218 Ab))) [] trivial
theorem zxp:LKP (zbm (Lg FUEL)) 0 61 7 Tryz.f175:=ST.lok (q175_7 F216 F217 F218 (Oy FUEL) (Lg FUEL)) (Aa ok216 (Aa ok217 (Aa ok218 Ab))) [] trivial
theorem ok175:OKP (en175 F175):=ST.ok1 (q175 F216 F217 F218 (Oy FUEL) (Lg FUEL)) (Aa ok216 (Aa ok217 (Aa ok218 Ab))) Tryz.func175 [3,7] ⟨⟨_,rfl,zxq⟩,⟨⟨_,rfl,zxp⟩,trivial⟩⟩
abbrev Zh:=(R:Type)→Int→(Int→Option R)→Option R
def en177 (F:Zh):Ent:=eV 177 [(.int .i64)] [(.int .u32)] F
def p177:Zh:=fun R a0 k=>
let v1:=decide (a0<0);(match v1 with
|true=>k (0:Int)
|false=>let v2:=decide (a0>63);(match v2 with
|true=>k (0:Int)
|false=>let v3:=List.set (List.set (List.set (List.set (List.set (List.set (List.set (List.set (List.set (List.set (List.set (List.set (List.set (List.set (List.set (List.set (List.set (List.set (List.set (List.set (List.set (List.set (List.set (List.set (List.set (List.set (List.set (List.set (List.set (List.set (List.set (List.set (List.set (List.set (List.set (List.set (List.set (List.set (List.set (List.set (List.set (List.set (List.set (List.set (List.set (List.set (List.set (List.set (List.set (List.set (List.set (List.set (List.set (List.set (List.set (List.set (List.set (List.set (List.set (List.set (List.set (List.set (List.set (List.set (List.replicate 64 (0:Int)) 0 (1116352408:Int)) 1 (1899447441:Int)) 2 (3049323471:Int)) 3 (3921009573:Int)) 4 (961987163:Int)) 5 (1508970993:Int)) 6 (2453635748:Int)) 7 (2870763221:Int)) 8 (3624381080:Int)) 9 (310598401:Int)) 10 (607225278:Int)) 11 (1426881987:Int)) 12 (1925078388:Int)) 13 (2162078206:Int)) 14 (2614888103:Int)) 15 (3248222580:Int)) 16 (3835390401:Int)) 17 (4022224774:Int)) 18 (264347078:Int)) 19 (604807628:Int)) 20 (770255983:Int)) 21 (1249150122:Int)) 22 (1555081692:Int)) 23 (1996064986:Int)) 24 (2554220882:Int)) 25 (2821834349:Int)) 26 (2952996808:Int)) 27 (3210313671:Int)) 28 (3336571891:Int)) 29 (3584528711:Int)) 30 (113926993:Int)) 31 (338241895:Int)) 32 (666307205:Int)) 33 (773529912:Int)) 34 (1294757372:Int)) 35 (1396182291:Int)) 36 (1695183700:Int)) 37 (1986661051:Int)) 38 (2177026350:Int)) 39 (2456956037:Int)) 40 (2730485921:Int)) 41 (2820302411:Int)) 42 (3259730800:Int)) 43 (3345764771:Int)) 44 (3516065817:Int)) 45 (3600352804:Int)) 46 (4094571909:Int)) 47 (275423344:Int)) 48 (430227734:Int)) 49 (506948616:Int)) 50 (659060556:Int)) 51 (883997877:Int)) 52 (958139571:Int)) 53 (1322822218:Int)) 54 (1537002063:Int)) 55 (1747873779:Int)) 56 (1955562222:Int)) 57 (2024104815:Int)) 58 (2227730452:Int)) 59 (2361852424:Int)) 60 (2428436474:Int)) 61 (2756734187:Int)) 62 (3204031479:Int)) 63 (3329325298:Int);(match (bnd a0 (64:Int)) with
|true=>let v4:=v3.getD a0.toNat 0;k v4
|false=>none)))
theorem q177:EQ (en177 p177) (sE 0 12 [] [] []) Tryz.f177 [(.tmp 2,136,false)]:=fun _ _ _=>by kernel_rfl
def F177:Zh:=p177
theorem ok177:OKP (en177 F177):=ST.ok0 q177 Ab Tryz.func177
abbrev zrb:=(R:Type)→Int→Int→Int→Int→(Int→Option R)→Option R
def en219 (F:zrb):Ent:=eV 219 [(.int .u32),(.int .i64),(.int .i64),(.int .i64)] [(.int .u32)] F
def p219 (F248:Vt):zrb:=fun R a0 a1 a2 a3 k=>
F248 R a0 a1 fun y1=>
F248 R a0 a2 fun y2=>
let v3:=ixor .u32 y1 y2;F248 R a0 a3 fun y4=>
let v5:=ixor .u32 v3 y4;k v5
theorem q219 (F248:Vt):EQ (en219 (p219 F248)) (sE 0 20 [] [zoa F248] []) Tryz.f219 [(.tmp 8,136,false)]:=fun _ _ _=>by kernel_rfl
def F219:zrb:=p219 F248
theorem ok219:OKP (en219 F219):=ST.ok0 (q219 F248) (Aa ok248 Ab) Tryz.func219
abbrev zra:=(R:Type)→Int→Int→Int→(Int→Option R)→Option R
def en220 (F:zra):Ent:=eV 220 [(.int .u32),(.int .u32),(.int .u32)] [(.int .u32)] F
def p220:zra:=fun R a0 a1 a2 k=>
let v1:=iand .u32 a0 a1;let v2:=IntKind.u32.wrap ((4294967295:Int) - a0);let v3:=iand .u32 v2 a2;let v4:=ior .u32 v1 v3;k v4
theorem q220:EQ (en220 p220) (sE 0 15 [] [] []) Tryz.f220 [(.tmp 6,136,false)]:=fun _ _ _=>by kernel_rfl
def F220:zra:=p220
theorem ok220:OKP (en220 F220):=ST.ok0 q220 Ab Tryz.func220
abbrev zq9:=(R:Type)→Int→Int→Int→(Int→Option R)→Option R
def en221 (F:zq9):Ent:=eV 221 [(.int .u32),(.int .u32),(.int .u32)] [(.int .u32)] F
def p221:zq9:=fun R a0 a1 a2 k=>
let v1:=iand .u32 a0 a1;let v2:=iand .u32 a0 a2;let v3:=ior .u32 v1 v2;let v4:=iand .u32 a1 a2;let v5:=ior .u32 v3 v4;k v5
theorem q221:EQ (en221 p221) (sE 0 18 [] [] []) Tryz.f221 [(.tmp 6,136,false)]:=fun _ _ _=>by kernel_rfl
def F221:zq9:=p221
theorem ok221:OKP (en221 F221):=ST.ok0 q221 Ab Tryz.func221
abbrev Zi:=(R:Type)→LI→Int→Int→(LI→Option R)→Option R
def en176 (F:Zi):Ent:=eV 176 [(.arr 8 (.int .u32)),(.int .u32),(.int .u32)] [(.arr 8 (.int .u32))] F
def p176 (F219:zrb) (F220:zra) (F221:zq9):Zi:=fun R a0 a1 a2 k=>
let v1:=a0.getD 7 0;let v2:=a0.getD 4 0;F219 R v2 (6:Int) (11:Int) (25:Int) fun y3=>
let v4:=IntKind.u32.wrap (v1+y3);let v5:=a0.getD 4 0;let v6:=a0.getD 5 0;let v7:=a0.getD 6 0;F220 R v5 v6 v7 fun y8=>
let v9:=IntKind.u32.wrap (v4+y8);let v10:=IntKind.u32.wrap (v9+a2);let v11:=IntKind.u32.wrap (v10+a1);let v12:=a0.getD 0 0;F219 R v12 (2:Int) (13:Int) (22:Int) fun y13=>
let v14:=a0.getD 0 0;let v15:=a0.getD 1 0;let v16:=a0.getD 2 0;F221 R v14 v15 v16 fun y17=>
let v18:=IntKind.u32.wrap (y13+y17);let v19:=IntKind.u32.wrap (v11+v18);let v20:=a0.getD 0 0;let v21:=a0.getD 1 0;let v22:=a0.getD 2 0;let v23:=a0.getD 3 0;let v24:=IntKind.u32.wrap (v23+v11);let v25:=a0.getD 4 0;let v26:=a0.getD 5 0;let v27:=a0.getD 6 0;let v28:=List.set (List.set (List.set (List.set (List.set (List.set (List.set (List.set (List.replicate 8 (0:Int)) 0 v19) 1 v20) 2 v21) 3 v22) 4 v24) 5 v25) 6 v26) 7 v27;k v28
theorem q176 (F219:zrb) (F220:zra) (F221:zq9):EQ (en176 (p176 F219 F220 F221)) (sE 0 58 [] [en219 F219,en220 F220,en221 F221] []) Tryz.f176 [(.cell 6 143,143,false)]:=fun _ _ _=>by kernel_rfl
def F176:Zi:=p176 F219 F220 F221
theorem ok176:OKP (en176 F176):=ST.ok0 (q176 F219 F220 F221) (Aa ok219 (Aa ok220 (Aa ok221 Ab))) Tryz.func176
abbrev ze0:=(R:Type)→LI→LI→(LI→Option R)→Option R
def en136 (F:ze0):Ent:=eV 136 [(.arr 8 (.int .u32)),(.arr 64 (.int .u8))] [(.arr 8 (.int .u32))] F
abbrev zuy (Z:Type):=Int→LI→LI→LI→LI→Z
abbrev E136_4 (R:Type):=(LI→LI→LI→Option R)→Option R
abbrev Ke:=(R:Type)→zuy (E136_4 R)
def zbz (L:Ke):LEnt:=lM 4 [.fix 2 (.ptr 0 [] (.arr 8 (.int .u32))),.fix 4 (.ptr 2 [] (.arr 8 (.int .u32))),.fix 5 (.ptr 3 [] (.arr 64 (.int .u32))),.fix 6 (.ptr 4 [] (.arr 8 (.int .u32))),.val 7 (.int .i64),.var 0 (.arr 8 (.int .u32)) false,.var 2 (.arr 8 (.int .u32)) false,.var 3 (.arr 64 (.int .u32)) false,.var 4 (.arr 8 (.int .u32)) false] 5 [(.exit 0,[.fix 2 (.ptr 0 [] (.arr 8 (.int .u32))),.fix 4 (.ptr 2 [] (.arr 8 (.int .u32))),.fix 6 (.ptr 4 [] (.arr 8 (.int .u32))),.var 0 (.arr 8 (.int .u32)) false,.var 2 (.arr 8 (.int .u32)) false,.var 4 (.arr 8 (.int .u32)) false])] L
abbrev zux (Z:Type):=Int→LI→LI→LI→Z
abbrev E136_8 (R:Type):=(LI→LI→Option R)→Option R
abbrev Kc:=(R:Type)→zux (E136_8 R)
def zby (L:Kc):LEnt:=lM 8 [.fix 2 (.ptr 0 [] (.arr 8 (.int .u32))),.fix 4 (.ptr 2 [] (.arr 8 (.int .u32))),.fix 6 (.ptr 4 [] (.arr 8 (.int .u32))),.val 8 (.int .i64),.var 0 (.arr 8 (.int .u32)) false,.var 2 (.arr 8 (.int .u32)) false,.var 4 (.arr 8 (.int .u32)) false] 5 [(.exit 2,[.fix 4 (.ptr 2 [] (.arr 8 (.int .u32))),.fix 6 (.ptr 4 [] (.arr 8 (.int .u32))),.var 2 (.arr 8 (.int .u32)) false,.var 4 (.arr 8 (.int .u32)) false])] L
def e136 (F175:Zj) (F176:Zi) (F177:Zh) (L4:Ke) (L8:Kc):=sE 0 37 [] [en175 F175,en176 F176,en177 F177] [zbz L4,zby L8]
def zlv (F176:Zi) (F177:Zh) (R:Type):zuy (zuy (Option R)→E136_4 R):=fun x1 x2 x3 x4 x5 kc k0=>
let v6:=decide (x1<64);(match v6 with
|true=>(match (bnd x1 (64:Int)) with
|true=>let v7:=x4.getD x1.toNat 0;F177 R x1 fun y8=>
F176 R x5 v7 y8 fun y9=>
let v10:=IntKind.i64.wrap (x1+1);kc v10 x2 x3 x4 y9
|false=>none)
|false=>k0 x2 x3 x5)
theorem q136_4 (F175:Zj) (F176:Zi) (F177:Zh) (L4:Ke) (L8:Kc):LEQ (zbz L4) (e136 F175 F176 F177 L4 L8) Tryz.f136 (zlv F176 F177):=fun _ _ _ _=>by kernel_rfl
def O1:Nat→Ke
 | 0=>fun _ _ _ _ _ _ _=>none
 | n+1=>fun R x1 x2 x3 x4 x5 k0=>zlv F176 F177 R x1 x2 x3 x4 x5 (fun x1 x2 x3 x4 x5=>O1 n R x1 x2 x3 x4 x5 k0) k0
def zlu (R:Type):zux (zux (Option R)→E136_8 R):=fun x1 x2 x3 x4 kc k0=>
let v5:=decide (x1<8);(match v5 with
|true=>(match (bnd x1 (8:Int)) with
|true=>let v6:=x4.getD x1.toNat 0;(match (bnd x1 (8:Int)) with
|true=>let v7:=x2.getD x1.toNat 0;let v8:=IntKind.u32.wrap (v6+v7);(match (bnd x1 (8:Int)) with
|true=>let v9:=x4.set x1.toNat v8;let v10:=IntKind.i64.wrap (x1+1);kc v10 x2 x3 v9
|false=>none)
|false=>none)
|false=>none)
|false=>k0 x3 x4)
theorem q136_8 (F175:Zj) (F176:Zi) (F177:Zh) (L4:Ke) (L8:Kc):LEQ (zby L8) (e136 F175 F176 F177 L4 L8) Tryz.f136 zlu:=fun _ _ _ _=>by kernel_rfl
def Li:Nat→Kc
 | 0=>fun _ _ _ _ _ _=>none
 | n+1=>fun R x1 x2 x3 x4 k0=>zlu R x1 x2 x3 x4 (fun x1 x2 x3 x4=>Li n R x1 x2 x3 x4 k0) k0
def p136 (F175:Zj) (L4:Ke) (L8:Kc):ze0:=fun R a0 a1 k=>
F175 R a1 fun y1=>
L4 R (0:Int) a0 (List.replicate 8 (0:Int)) y1 a0 (fun x2 x3 x4=>
L8 R (0:Int) x2 x3 x4 (fun x5 x6=>
k x6))
theorem q136 (F175:Zj) (F176:Zi) (F177:Zh) (L4:Ke) (L8:Kc):EQ (en136 (p136 F175 L4 L8)) (e136 F175 F176 F177 L4 L8) Tryz.f136 [(.cell 4 143,143,false)]:=fun _ _ _=>by kernel_rfl
def F136:ze0:=p136 F175 (O1 FUEL) (Li FUEL)
theorem zx3:LKP (zbz (O1 FUEL)) 0 37 4 Tryz.f136:=ST.lok (q136_4 F175 F176 F177 (O1 FUEL) (Li FUEL)) (Aa ok175 (Aa ok176 (Aa ok177 Ab))) [] trivial
theorem zx2:LKP (zby (Li FUEL)) 0 37 8 Tryz.f136:=ST.lok (q136_8 F175 F176 F177 (O1 FUEL) (Li FUEL)) (Aa ok175 (Aa ok176 (Aa ok177 Ab))) [] trivial
theorem ok136:OKP (en136 F136):=ST.ok1 (q136 F175 F176 F177 (O1 FUEL) (Li FUEL)) (Aa ok175 (Aa ok176 (Aa ok177 Ab))) Tryz.func136 [4,8] ⟨⟨_,rfl,zx3⟩,⟨⟨_,rfl,zx2⟩,trivial⟩⟩
abbrev FT93:=(R:Type)→LI→(List LI)→(LI→Option R)→Option R
def en93 (F:FT93):Ent:=eV 93 [(.arr 8 (.int .u32)),(.sl (.arr 64 (.int .u8)))] [(.arr 8 (.int .u32))] F
abbrev D93_2 (Z:Type):=(List LI)→Int→LI→LI→Z
abbrev E93_2 (R:Type):=(LI→LI→Option R)→Option R
abbrev S7:=(R:Type)→D93_2 (E93_2 R)
def zmu (L:S7):LEnt:=lM 2 [.val 1 (.sl (.arr 64 (.int .u8))),.fix 2 (.ptr 0 [] (.arr 8 (.int .u32))),.fix 4 (.ptr 1 [] (.arr 8 (.int .u32))),.val 5 (.int .i64),.var 0 (.arr 8 (.int .u32)) false,.var 1 (.arr 8 (.int .u32)) false] 2 [(.exit 0,[.fix 2 (.ptr 0 [] (.arr 8 (.int .u32))),.fix 4 (.ptr 1 [] (.arr 8 (.int .u32))),.var 0 (.arr 8 (.int .u32)) false,.var 1 (.arr 8 (.int .u32)) false])] L
def e93 (F136:ze0) (L2:S7):=sE 0 19 [] [en136 F136] [zmu L2]
def p93_2 (F136:ze0) (R:Type):D93_2 (D93_2 (Option R)→E93_2 R):=fun x1 x2 x3 x4 kc k0=>
let v5:=(x1.length:Int);let v6:=decide (x2<v5);(match v6 with
|true=>(match bnd x2 x1.length with
|true=>let v7:=x1.getD x2.toNat (List.replicate 64 0);F136 R x3 v7 fun y8=>
let v9:=IntKind.i64.wrap (x2+1);kc x1 v9 y8 x4
|false=>none)
|false=>k0 x3 x4)
theorem q93_2 (F136:ze0) (L2:S7):LEQ (zmu L2) (e93 F136 L2) Tryz.f93 (p93_2 F136):=fun _ _ _ _=>by kernel_rfl
def zc4:Nat→S7
 | 0=>fun _ _ _ _ _ _=>none
 | n+1=>fun R x1 x2 x3 x4 k0=>p93_2 F136 R x1 x2 x3 x4 (fun x1 x2 x3 x4=>zc4 n R x1 x2 x3 x4 k0) k0
def p93 (L2:S7):FT93:=fun R a0 a1 k=>
L2 R a1 (0:Int) a0 (List.replicate 8 (0:Int)) (fun x1 x2=>
k x1)
theorem q93 (F136:ze0) (L2:S7):EQ (en93 (p93 L2)) (e93 F136 L2) Tryz.f93 [(.cell 4 143,143,false)]:=fun _ _ _=>by kernel_rfl
def F93:FT93:=p93 (zc4 FUEL)
theorem lok93_2:LKP (zmu (zc4 FUEL)) 0 19 2 Tryz.f93:=ST.lok (q93_2 F136 (zc4 FUEL)) (Aa ok136 Ab) [] trivial
theorem ok93:OKP (en93 F93):=ST.ok1 (q93 F136 (zc4 FUEL)) (Aa ok136 Ab) Tryz.func93 [2] ⟨⟨_,rfl,lok93_2⟩,trivial⟩
abbrev Zm:=(R:Type)→Int→(LI→Option R)→Option R
def en135 (F:Zm):Ent:=eV 135 [(.int .u32)] [(.arr 4 (.int .u8))] F
def p135:Zm:=fun R a0 k=>
let v1:=IntKind.u32.wrap (Int.tdiv a0 (16777216:Int));let v2:=IntKind.u8.wrap v1;let v3:=IntKind.u32.wrap (Int.tdiv a0 (65536:Int));let v4:=Int.tmod v3 (256:Int);let v5:=IntKind.u8.wrap v4;let v6:=IntKind.u32.wrap (Int.tdiv a0 (256:Int));let v7:=Int.tmod v6 (256:Int);let v8:=IntKind.u8.wrap v7;let v9:=Int.tmod a0 (256:Int);let v10:=IntKind.u8.wrap v9;let v11:=List.set (List.set (List.set (List.set (List.replicate 4 (0:Int)) 0 v2) 1 v5) 2 v8) 3 v10;k v11
theorem q135:EQ (en135 p135) (sE 0 18 [] [] []) Tryz.f135 [(.cell 2 188,188,false)]:=fun _ _ _=>by kernel_rfl
def F135:Zm:=p135
theorem ok135:OKP (en135 F135):=ST.ok0 q135 Ab Tryz.func135
abbrev FT92:=(R:Type)→LI→(LI→Option R)→Option R
def en92 (F:FT92):Ent:=eV 92 [(.arr 8 (.int .u32))] [(.arr 32 (.int .u8))] F
abbrev D92_3 (Z:Type):=Int→LI→LI→LI→Z
abbrev E92_3 (R:Type):=(LI→LI→Option R)→Option R
abbrev Qz:=(R:Type)→D92_3 (E92_3 R)
def zmw (L:Qz):LEnt:=lM 3 [.fix 1 (.ptr 0 [] (.arr 8 (.int .u32))),.fix 2 (.ptr 1 [] (.arr 32 (.int .u8))),.fix 3 (.ptr 2 [] (.arr 32 (.int .u8))),.val 4 (.int .i64),.var 0 (.arr 8 (.int .u32)) false,.var 1 (.arr 32 (.int .u8)) false,.var 2 (.arr 32 (.int .u8)) false] 3 [(.exit 0,[.fix 2 (.ptr 1 [] (.arr 32 (.int .u8))),.fix 3 (.ptr 2 [] (.arr 32 (.int .u8))),.var 1 (.arr 32 (.int .u8)) false,.var 2 (.arr 32 (.int .u8)) false])] L
abbrev D92_7 (Z:Type):=Int→Int→LI→LI→LI→LI→Z
abbrev E92_7 (R:Type):=(Int→LI→LI→LI→Option R)→Option R
abbrev Qy:=(R:Type)→D92_7 (E92_7 R)
def zmv (L:Qy):LEnt:=lM 7 [.fix 1 (.ptr 0 [] (.arr 8 (.int .u32))),.fix 2 (.ptr 1 [] (.arr 32 (.int .u8))),.fix 3 (.ptr 2 [] (.arr 32 (.int .u8))),.val 4 (.int .i64),.fix 5 (.ptr 3 [] (.arr 4 (.int .u8))),.val 6 (.int .i64),.var 0 (.arr 8 (.int .u32)) false,.var 1 (.arr 32 (.int .u8)) false,.var 2 (.arr 32 (.int .u8)) false,.var 3 (.arr 4 (.int .u8)) false] 4 [(.exit 2,[.fix 1 (.ptr 0 [] (.arr 8 (.int .u32))),.fix 2 (.ptr 1 [] (.arr 32 (.int .u8))),.fix 3 (.ptr 2 [] (.arr 32 (.int .u8))),.val 4 (.int .i64),.var 0 (.arr 8 (.int .u32)) false,.var 1 (.arr 32 (.int .u8)) false,.var 2 (.arr 32 (.int .u8)) false])] L
def e92 (F135:Zm) (L3:Qz) (L7:Qy):=sE 0 28 [] [en135 F135] [zmw L3,zmv L7]
def p92_7 (R:Type):D92_7 (D92_7 (Option R)→E92_7 R):=fun x1 x2 x3 x4 x5 x6 kc k0=>
let v7:=decide (x2<4);(match v7 with
|true=>let v8:=IntKind.i64.wrap ((4:Int)*x1);let v9:=IntKind.i64.wrap (v8+x2);(match (bnd x2 (4:Int)) with
|true=>let v10:=x6.getD x2.toNat 0;(match (bnd v9 (32:Int)) with
|true=>let v11:=x5.set v9.toNat v10;let v12:=IntKind.i64.wrap (x2+1);kc x1 v12 x3 x4 v11 x6
|false=>none)
|false=>none)
|false=>k0 x1 x3 x4 x5)
theorem q92_7 (F135:Zm) (L3:Qz) (L7:Qy):LEQ (zmv L7) (e92 F135 L3 L7) Tryz.f92 p92_7:=fun _ _ _ _=>by kernel_rfl
def Yk:Nat→Qy
 | 0=>fun _ _ _ _ _ _ _ _=>none
 | n+1=>fun R x1 x2 x3 x4 x5 x6 k0=>p92_7 R x1 x2 x3 x4 x5 x6 (fun x1 x2 x3 x4 x5 x6=>Yk n R x1 x2 x3 x4 x5 x6 k0) k0
def p92_3 (F135:Zm) (L7:Qy) (R:Type):D92_3 (D92_3 (Option R)→E92_3 R):=fun x1 x2 x3 x4 kc k0=>
let v5:=decide (x1<8);(match v5 with
|true=>(match (bnd x1 (8:Int)) with
|true=>let v6:=x2.getD x1.toNat 0;F135 R v6 fun y7=>
L7 R x1 (0:Int) x2 x3 x4 y7 (fun x8 x9 x10 x11=>
let v12:=IntKind.i64.wrap (x8+1);kc v12 x9 x10 x11)
|false=>none)
|false=>k0 x3 x4)
theorem q92_3 (F135:Zm) (L3:Qz) (L7:Qy):LEQ (zmw L3) (e92 F135 L3 L7) Tryz.f92 (p92_3 F135 L7):=fun _ _ _ _=>by kernel_rfl
def Pb:Nat→Qz
 | 0=>fun _ _ _ _ _ _=>none
 | n+1=>fun R x1 x2 x3 x4 k0=>p92_3 F135 (Yk FUEL) R x1 x2 x3 x4 (fun x1 x2 x3 x4=>Pb n R x1 x2 x3 x4 k0) k0
def p92 (L3:Qz):FT92:=fun R a0 k=>
L3 R (0:Int) a0 (List.replicate 32 (0:Int)) (List.replicate 32 (0:Int)) (fun x1 x2=>
k x2)
theorem q92 (F135:Zm) (L3:Qz) (L7:Qy):EQ (en92 (p92 L3)) (e92 F135 L3 L7) Tryz.f92 [(.cell 2 25,25,false)]:=fun _ _ _=>by kernel_rfl
def F92:FT92:=p92 (Pb FUEL)
theorem lok92_7:LKP (zmv (Yk FUEL)) 0 28 7 Tryz.f92:=ST.lok (q92_7 F135 (Pb FUEL) (Yk FUEL)) (Aa ok135 Ab) [] trivial
theorem lok92_3:LKP (zmw (Pb FUEL)) 0 28 3 Tryz.f92:=ST.lok (q92_3 F135 (Pb FUEL) (Yk FUEL)) (Aa ok135 Ab) [7] ⟨⟨_,rfl,lok92_7⟩,trivial⟩
theorem ok92:OKP (en92 F92):=ST.ok1 (q92 F135 (Pb FUEL) (Yk FUEL)) (Aa ok135 Ab) Tryz.func92 [3] ⟨⟨_,rfl,lok92_3⟩,trivial⟩
abbrev FT45:=(R:Type)→LI→(LI→Option R)→Option R
def en45 (F:FT45):Ent:=eV 45 [(.sl (.int .u8))] [(.arr 32 (.int .u8))] F
def p45 (F90:FT90) (F91:FT91) (F92:FT92) (F93:FT93) (F94:FT94):FT45:=fun R a0 k=>
F91 R a0 fun y1=>
F90 R y1 fun y2 y3=>
F94 R  fun y4=>
F93 R y4 y2 fun y5=>
F92 R y5 fun y6=>
k y6
theorem q45 (F90:FT90) (F91:FT91) (F92:FT92) (F93:FT93) (F94:FT94):EQ (en45 (p45 F90 F91 F92 F93 F94)) (sE 0 15 [] [en90 F90,en91 F91,en92 F92,en93 F93,en94 F94] []) Tryz.f45 [(.cell 2 25,25,false)]:=fun _ _ _=>by kernel_rfl
def F45:FT45:=p45 F90 F91 F92 F93 F94
theorem ok45:OKP (en45 F45):=ST.ok0 (q45 F90 F91 F92 F93 F94) (Aa ok90 (Aa ok91 (Aa ok92 (Aa ok93 (Aa ok94 Ab))))) Tryz.func45
abbrev FT23:=(R:Type)→LI→(LI→Option R)→Option R
def en23 (F:FT23):Ent:=eV 23 [(.arr 32 (.int .u8))] [(.arr 32 (.int .u8))] F
def p23 (F45:FT45) (F46:FT46):FT23:=fun R a0 k=>
F46 R a0 fun y1=>
F45 R y1 fun y2=>
k y2
theorem q23 (F45:FT45) (F46:FT46):EQ (en23 (p23 F45 F46)) (sE 0 6 [] [en45 F45,en46 F46] []) Tryz.f23 [(.cell 2 25,25,false)]:=fun _ _ _=>by kernel_rfl
def F23:FT23:=p23 F45 F46
theorem ok23:OKP (en23 F23):=ST.ok0 (q23 F45 F46) (Aa ok45 (Aa ok46 Ab)) Tryz.func23
abbrev zet:=(R:Type)→Tq5→(Int→Option R)→Option R
def en158 (F:zet):Ent:=eV 158 [Kq5] [(.int .u64)] F
def p158:zet:=fun R a0 k=>
k a0.2.1
theorem q158:EQ (en158 p158) (sE 0 5 [] [] []) Tryz.f158 [(.tmp 2,28,false)]:=fun _ _ _=>by kernel_rfl
def F158:zet:=p158
theorem ok158:OKP (en158 F158):=ST.ok0 q158 Ab Tryz.func158
abbrev Hl:Type 1:=(R:Type)→(List Tq5)→(LI→Option R)→Option R
def F5 (F:Hl):EntF:=⟨157,158,[(false,(.sl Kq5))],[(false,(.sl (.int .u64)))],fun R x k=>F R x.1 (fun y1=>k (y1,()) ())⟩
def W5:List (ResultVar×TypeId×Bool):=[(.tmp 4,63,false)]
abbrev E5:Type 1:=(R:Type)→(List Tq5)→Int→Int→LI→(LI→Option R)→Option R
def Bq (L:E5):LEnt:=⟨3,[.fix 1 (.fn 158),.fix 5 (.own 0 0),.val 11 (.sl Kq5),.val 12 (.int .i64),.val 13 (.int .i64),.row 0 (.int .u64) false],1,[(.exit 0,[.fix 5 (.own 0 0),.row 0 (.int .u64) false])],fun R x ke=>L R x.1 x.2.1 x.2.2.1 x.2.2.2.1 (fun y1=>ke.1 (y1,()))⟩
def Ql (F158:zet) (L3:E5) (R:Type):Env R:=⟨TT,EQT,0,25,Bu [],Bc [en158 F158] R,Bm [Bq L3] R,[],Be [],[]⟩
def Kz (F158:zet):(R:Type)→(List Tq5)→Int→Int→LI→((List Tq5)→Int→Int→LI→Option R)→(LI→Option R)→Option R:=fun R x1 x2 x3 x4 kc k0=>
let v5:=decide (x3<x2);(match v5 with
|true=>(match bnd x3 x1.length with
|true=>let v6:=x1.getD x3.toNat ((List.replicate 32 0),0,0,());F158 R v6 fun y7=>
let v8:=([y7]:LI);(match (decide (x4.length+v8.length≤17592186044416)) with
|true=>let v9:=x4++v8;let v10:=IntKind.i64.wrap (x3+1);kc x1 x2 v10 v9
|false=>none)
|false=>none)
|false=>k0 x4)
theorem zkk (F158:zet) (L3:E5) (R:Type) (x:HT (Bq L3).H) (kc:HT (Bq L3).H→Option R) (ke:KT R (Bq L3).exs):
 exec (Ql F158 L3 R) (Cv 3 (Ah Tryz.f157)) (stOf (Bq L3).H x 1) (Od (Bq L3).H (Bq L3).exs kc ke)=
  Kz F158 R x.1 x.2.1 x.2.2.1 x.2.2.2.1 (fun x1 x2 x3 x4=>kc (x1,x2,x3,x4,())) (fun y1=>ke.1 (y1,())):=by kernel_rfl
def Bi:Nat→E5
 | 0=>fun _ _ _ _ _ _=>none
 | n+1=>fun R x1 x2 x3 x4 k0=>Kz F158 R x1 x2 x3 x4 (fun x1 x2 x3 x4=>Bi n R x1 x2 x3 x4 k0) k0
def zac (L3:E5):Hl:=fun R a0 k=>
let v1:=(a0.length:Int);(match (decide (0≤(0:Int)∧(0:Int)≤v1∧v1≤17592186044416)) with
|true=>let v2:=List.replicate 0 (0:Int);let v3:=(a0.length:Int);L3 R a0 v3 (0:Int) v2 (fun x4=>
k x4)
|false=>none)
theorem q158158 (F158:zet) (L3:E5) (F:Hl) (R:Type) (x:AT (F5 F).ins) (k:RT (F5 F).outs→PT (F5 F).ins→Option R):
 xfun (Ql F158 L3 R) (Ah Tryz.f157) W5 (avs (F5 F).ins x++[AV.fn 158]) (finK (F5 F).outs (F5 F).ins k)=zac L3 R x.1 (fun y1=>k (y1,()) ()):=by kernel_rfl
def D5:Hl:=zac (Bi FUEL)
theorem Xu (R:Type):A4 Tryz.prog (Ql F158 (Bi FUEL) R):=⟨tabOK,eqOK,Aq (Aa ok158 Ab),B0,Al⟩
def Io:(R:Type)→HT (Bq (Bi FUEL)).H→(HT (Bq (Bi FUEL)).H→Option R)→KT R (Bq (Bi FUEL)).exs→Option R:=fun R x kc ke=>Kz F158 R x.1 x.2.1 x.2.2.1 x.2.2.2.1 (fun x1 x2 x3 x4=>kc (x1,x2,x3,x4,())) (fun y1=>ke.1 (y1,()))
theorem zis:∀(n:Nat) (R:Type) (x:HT (Bq (Bi FUEL)).H) (ke:KT R (Bq (Bi FUEL)).exs),iter Io n R x ke=Bi n R x.1 x.2.1 x.2.2.1 x.2.2.2.1 (fun y1=>ke.1 (y1,())):=by
 intro n
 induction n with
 | zero=>intro R x ke; rfl
 | succ n ih=>
  intro R x ke;show Io R x (fun x'=>iter Io n R x' ke) ke=_
  rw [show (fun x'=>iter Io n R x' ke)=fun x=>Bi n R x.1 x.2.1 x.2.2.1 x.2.2.2.1 (fun y1=>ke.1 (y1,())) from funext fun x'=>ih R x' ke];rfl
theorem zao:(Bq (Bi FUEL)).OK Tryz.prog 0 25 (Cv 3 (Ah Tryz.f157)):=fun R x ke r h=>
 Ez (fun R=>Ql F158 (Bi FUEL) R) 0 25 (fun _=>rfl) (fun _=>rfl) (fun R=>Xu R) mixed (by
  intro R;rw [show Ar (Cv 3 (Ah Tryz.f157))=[] from by kernel_rfl];exact Bx) (T:=Io) (fun R x kc ke=>zkk F158 (Bi FUEL) R x kc ke) FUEL R x ke r ((zis FUEL R x ke).trans h)
theorem zwl:(F5 D5).OK Tryz.prog:=
 Jx (Ef:=fun R=>Ql F158 (Bi FUEL) R) (fun R=>Xu R) mixed Tryz.func157 (body:=Ah Tryz.f157) (by kernel_rfl) (by kernel_rfl) (np:=0) (nt:=25) (fun _=>rfl) (fun _=>rfl) (by kernel_rfl) (res:=W5) (by kernel_rfl) (fun _=>rfl) (fun _=>Nat.le_of_ble_eq_true rfl) (by
  intro R;rw [show Ar (Ah Tryz.f157)=[Cv 3 (Ah Tryz.f157)] from by kernel_rfl];exact (Ag (I7 (e:=Bq (Bi FUEL)) rfl rfl zao) Bx)) (fun R x k=>q158158 F158 (Bi FUEL) D5 R x k)
abbrev Lq:=(R:Type)→(List Tq5)→(LI→Option R)→Option R
def zco (F:Lq):Ent:=eV 110 [(.sl Kq5)] [(.sl (.int .u64))] F
def e110 (D5:Hl) (R:Type):Env R:=⟨TT,EQT,0,5,Bu [],Ek [F5 D5] [] R,Bm [] R,[],Be [],[]⟩
def p110 (D5:Hl):Lq:=fun R a0 k=>
D5 R a0 fun y1=>
k y1
theorem q110 (D5:Hl):EQ (zco (p110 D5)) (e110 D5) Tryz.f110 [(.tmp 2,63,false)]:=fun _ _ _=>by kernel_rfl
def F110:Lq:=p110 D5
theorem env110 (R:Type):A4 Tryz.prog (e110 D5 R):=⟨tabOK,eqOK,Cy (Ft zwl Eu) Ab,B0,Al⟩
theorem zmh:OKP (zco F110):=ST.ok3 (q110 D5) env110 Tryz.func110 (fun _=>rfl) (fun _=>rfl) (fun _=>rfl) [] trivial
abbrev FT180:Type 1:=(R:Type)→Int→Int→Int→(Int→Int→Option R)→Option R
def en180 (F:FT180):Ent:=⟨180,[(false,(.int .u64)),(false,(.int .u64)),(false,(.int .u64))],[(false,(.int .u64)),(false,(.int .u64))],fun R x k=>F R x.1 x.2.1 x.2.2.1 (fun y1 y2=>k (y1,y2,()) ())⟩
def F180:FT180:=fun R a0 a1 a2 k=>match decide (0≤a0∧0≤a1∧0≤a2∧a2≤1) with | true=>k ((a0+a1+a2) % 18446744073709551616) ((a0+a1+a2)/18446744073709551616) | false=>none
theorem ok180:(en180 F180).OK Tryz.prog:=add64_ok Tryz.func180 (by kernel_rfl) (by kernel_rfl) (by kernel_rfl) (by kernel_rfl)
abbrev zq8:=(R:Type)→Int→(Bool→Option R)→Option R
def en222 (F:zq8):Ent:=eV 222 [(.int .u64)] [.bool] F
def p222:zq8:=fun R a0 k=>
let v1:=decide (a0<9223372036854775808);k v1
theorem q222:EQ (en222 p222) (sE 0 5 [] [] []) Tryz.f222 [(.tmp 2,4,false)]:=fun _ _ _=>by kernel_rfl
def F222:zq8:=p222
theorem ok222:OKP (en222 F222):=ST.ok0 q222 Ab Tryz.func222
abbrev zeo:=(R:Type)→Int→Int→(Int→Bool→Option R)→Option R
def zzq (F:zeo):Ent:=eV 179 [(.int .u64),(.int .u64)] [(.int .u64),.bool] F
def p179 (F222:zq8):zeo:=fun R a0 a1 k=>
let v1:=a1 !=0;(match v1 with
|true=>k (0:Int) false
|false=>F222 R a0 fun y2=>
(match (!y2) with
|true=>k (0:Int) false
|false=>k a0 true))
theorem q179 (F222:zq8):EQ (zzq (p179 F222)) (sE 0 14 [] [en222 F222] []) Tryz.f179 [(.tmp 4,28,false),(.tmp 5,4,false)]:=fun _ _ _=>by kernel_rfl
def F179:zeo:=p179 F222
theorem ok179:OKP (zzq F179):=ST.ok0 (q179 F222) (Aa ok222 Ab) Tryz.func179
abbrev Lp:=(R:Type)→Int→Int→(Int→Bool→Option R)→Option R
def zok (F:Lp):Ent:=eV 141 [(.int .u64),(.int .u64)] [(.int .u64),.bool] F
def p141 (F179:zeo) (F180:FT180):Lp:=fun R a0 a1 k=>
F180 R a0 a1 (0:Int) fun y1 y2=>
F179 R y1 y2 fun y3 y4=>
k y3 y4
theorem q141 (F179:zeo) (F180:FT180):EQ (zok (p141 F179 F180)) (sE 0 14 [] [zzq F179,en180 F180] []) Tryz.f141 [(.tmp 4,28,false),(.tmp 5,4,false)]:=fun _ _ _=>by kernel_rfl
def F141:Lp:=p141 F179 F180
theorem zmf:OKP (zok F141):=ST.ok0 (q141 F179 F180) (Aa ok179 (Aa ok180 Ab)) Tryz.func141
abbrev Kl:=(R:Type)→LI→(Int→Bool→Option R)→Option R
def zi4 (F:Kl):Ent:=eV 139 [(.sl (.int .u64))] [(.int .u64),.bool] F
abbrev zuw (Z:Type):=Int→LI→Int→Int→Z
abbrev E139_2 (R:Type):=(Int→Bool→Option R)→(Int→Option R)→Option R
abbrev Np:=(R:Type)→zuw (E139_2 R)
def zbx (L:Np):LEnt:=lM 2 [.val 2 (.int .u64),.val 6 (.sl (.int .u64)),.val 7 (.int .i64),.val 8 (.int .i64)] 0 [(.ret,[.val 2 (.int .u64),.val 3 .bool]),(.exit 0,[.val 2 (.int .u64)])] L
def e139 (F141:Lp) (L2:Np):=sE 0 22 [] [zok F141] [zbx L2]
def zlt (F141:Lp) (R:Type):zuw (zuw (Option R)→E139_2 R):=fun x1 x2 x3 x4 kc k0 k1=>
let v5:=decide (x4<x3);(match v5 with
|true=>(match bnd x4 x2.length with
|true=>let v6:=x2.getD x4.toNat 0;F141 R x1 v6 fun y7 y8=>
(match (!y8) with
|true=>k0 (0:Int) false
|false=>let v9:=IntKind.i64.wrap (x4+1);kc y7 x2 x3 v9)
|false=>none)
|false=>k1 x1)
theorem q139_2 (F141:Lp) (L2:Np):LEQ (zbx L2) (e139 F141 L2) Tryz.f139 (zlt F141):=fun _ _ _ _=>by kernel_rfl
def Rn:Nat→Np
 | 0=>fun _ _ _ _ _ _ _=>none
 | n+1=>fun R x1 x2 x3 x4 k0 k1=>zlt F141 R x1 x2 x3 x4 (fun x1 x2 x3 x4=>Rn n R x1 x2 x3 x4 k0 k1) k0 k1
def p139 (L2:Np):Kl:=fun R a0 k=>
let v1:=(a0.length:Int);L2 R (0:Int) a0 v1 (0:Int) (fun x2 x3=>
k x2 x3) (fun x4=>
k x4 true)
theorem q139 (F141:Lp) (L2:Np):EQ (zi4 (p139 L2)) (e139 F141 L2) Tryz.f139 [(.tmp 2,28,false),(.tmp 3,4,false)]:=fun _ _ _=>by kernel_rfl
def F139:Kl:=p139 (Rn FUEL)
theorem zx0:LKP (zbx (Rn FUEL)) 0 22 2 Tryz.f139:=ST.lok (q139_2 F141 (Rn FUEL)) (Aa zmf Ab) [] trivial
theorem zmg:OKP (zi4 F139):=ST.ok1 (q139 F141 (Rn FUEL)) (Aa zmf Ab) Tryz.func139 [2] ⟨⟨_,rfl,zx0⟩,trivial⟩
abbrev zep:=(R:Type)→Tq5→(Int→Option R)→Option R
def en178 (F:zep):Ent:=eV 178 [Kq5] [(.int .u64)] F
def p178:zep:=fun R a0 k=>
k a0.2.2.1
theorem q178:EQ (en178 p178) (sE 0 5 [] [] []) Tryz.f178 [(.tmp 2,28,false)]:=fun _ _ _=>by kernel_rfl
def F178:zep:=p178
theorem ok178:OKP (en178 F178):=ST.ok0 q178 Ab Tryz.func178
abbrev Hk:Type 1:=(R:Type)→(List Tq5)→(LI→Option R)→Option R
def F3 (F:Hk):EntF:=⟨157,178,[(false,(.sl Kq5))],[(false,(.sl (.int .u64)))],fun R x k=>F R x.1 (fun y1=>k (y1,()) ())⟩
def W4:List (ResultVar×TypeId×Bool):=[(.tmp 4,63,false)]
abbrev E4:Type 1:=(R:Type)→(List Tq5)→Int→Int→LI→(LI→Option R)→Option R
def Bp (L:E4):LEnt:=⟨3,[.fix 1 (.fn 178),.fix 5 (.own 0 0),.val 11 (.sl Kq5),.val 12 (.int .i64),.val 13 (.int .i64),.row 0 (.int .u64) false],1,[(.exit 0,[.fix 5 (.own 0 0),.row 0 (.int .u64) false])],fun R x ke=>L R x.1 x.2.1 x.2.2.1 x.2.2.2.1 (fun y1=>ke.1 (y1,()))⟩
def Qk (F178:zep) (L3:E4) (R:Type):Env R:=⟨TT,EQT,0,25,Bu [],Bc [en178 F178] R,Bm [Bp L3] R,[],Be [],[]⟩
def Ky (F178:zep):(R:Type)→(List Tq5)→Int→Int→LI→((List Tq5)→Int→Int→LI→Option R)→(LI→Option R)→Option R:=fun R x1 x2 x3 x4 kc k0=>
let v5:=decide (x3<x2);(match v5 with
|true=>(match bnd x3 x1.length with
|true=>let v6:=x1.getD x3.toNat ((List.replicate 32 0),0,0,());F178 R v6 fun y7=>
let v8:=([y7]:LI);(match (decide (x4.length+v8.length≤17592186044416)) with
|true=>let v9:=x4++v8;let v10:=IntKind.i64.wrap (x3+1);kc x1 x2 v10 v9
|false=>none)
|false=>none)
|false=>k0 x4)
theorem zkj (F178:zep) (L3:E4) (R:Type) (x:HT (Bp L3).H) (kc:HT (Bp L3).H→Option R) (ke:KT R (Bp L3).exs):
 exec (Qk F178 L3 R) (Cv 3 (Ah Tryz.f157)) (stOf (Bp L3).H x 1) (Od (Bp L3).H (Bp L3).exs kc ke)=
  Ky F178 R x.1 x.2.1 x.2.2.1 x.2.2.2.1 (fun x1 x2 x3 x4=>kc (x1,x2,x3,x4,())) (fun y1=>ke.1 (y1,())):=by kernel_rfl
def Bh:Nat→E4
 | 0=>fun _ _ _ _ _ _=>none
 | n+1=>fun R x1 x2 x3 x4 k0=>Ky F178 R x1 x2 x3 x4 (fun x1 x2 x3 x4=>Bh n R x1 x2 x3 x4 k0) k0
def zab (L3:E4):Hk:=fun R a0 k=>
let v1:=(a0.length:Int);(match (decide (0≤(0:Int)∧(0:Int)≤v1∧v1≤17592186044416)) with
|true=>let v2:=List.replicate 0 (0:Int);let v3:=(a0.length:Int);L3 R a0 v3 (0:Int) v2 (fun x4=>
k x4)
|false=>none)
theorem q158178 (F178:zep) (L3:E4) (F:Hk) (R:Type) (x:AT (F3 F).ins) (k:RT (F3 F).outs→PT (F3 F).ins→Option R):
 xfun (Qk F178 L3 R) (Ah Tryz.f157) W4 (avs (F3 F).ins x++[AV.fn 178]) (finK (F3 F).outs (F3 F).ins k)=zab L3 R x.1 (fun y1=>k (y1,()) ()):=by kernel_rfl
def D4:Hk:=zab (Bh FUEL)
theorem Xt (R:Type):A4 Tryz.prog (Qk F178 (Bh FUEL) R):=⟨tabOK,eqOK,Aq (Aa ok178 Ab),B0,Al⟩
def In:(R:Type)→HT (Bp (Bh FUEL)).H→(HT (Bp (Bh FUEL)).H→Option R)→KT R (Bp (Bh FUEL)).exs→Option R:=fun R x kc ke=>Ky F178 R x.1 x.2.1 x.2.2.1 x.2.2.2.1 (fun x1 x2 x3 x4=>kc (x1,x2,x3,x4,())) (fun y1=>ke.1 (y1,()))
theorem zir:∀(n:Nat) (R:Type) (x:HT (Bp (Bh FUEL)).H) (ke:KT R (Bp (Bh FUEL)).exs),iter In n R x ke=Bh n R x.1 x.2.1 x.2.2.1 x.2.2.2.1 (fun y1=>ke.1 (y1,())):=by
 intro n
 induction n with
 | zero=>intro R x ke; rfl
 | succ n ih=>
  intro R x ke;show In R x (fun x'=>iter In n R x' ke) ke=_
  rw [show (fun x'=>iter In n R x' ke)=fun x=>Bh n R x.1 x.2.1 x.2.2.1 x.2.2.2.1 (fun y1=>ke.1 (y1,())) from funext fun x'=>ih R x' ke];rfl
theorem zan:(Bp (Bh FUEL)).OK Tryz.prog 0 25 (Cv 3 (Ah Tryz.f157)):=fun R x ke r h=>
 Ez (fun R=>Qk F178 (Bh FUEL) R) 0 25 (fun _=>rfl) (fun _=>rfl) (fun R=>Xt R) mixed (by
  intro R;rw [show Ar (Cv 3 (Ah Tryz.f157))=[] from by kernel_rfl];exact Bx) (T:=In) (fun R x kc ke=>zkj F178 (Bh FUEL) R x kc ke) FUEL R x ke r ((zir FUEL R x ke).trans h)
theorem zwk:(F3 D4).OK Tryz.prog:=
 Jx (Ef:=fun R=>Qk F178 (Bh FUEL) R) (fun R=>Xt R) mixed Tryz.func157 (body:=Ah Tryz.f157) (by kernel_rfl) (by kernel_rfl) (np:=0) (nt:=25) (fun _=>rfl) (fun _=>rfl) (by kernel_rfl) (res:=W4) (by kernel_rfl) (fun _=>rfl) (fun _=>Nat.le_of_ble_eq_true rfl) (by
  intro R;rw [show Ar (Ah Tryz.f157)=[Cv 3 (Ah Tryz.f157)] from by kernel_rfl];exact (Ag (I7 (e:=Bp (Bh FUEL)) rfl rfl zan) Bx)) (fun R x k=>q158178 F178 (Bh FUEL) D4 R x k)
abbrev V0:=(R:Type)→(List Tq5)→(LI→Option R)→Option R
def zzy (F:V0):Ent:=eV 140 [(.sl Kq5)] [(.sl (.int .u64))] F
def e140 (D4:Hk) (R:Type):Env R:=⟨TT,EQT,0,5,Bu [],Ek [F3 D4] [] R,Bm [] R,[],Be [],[]⟩
def p140 (D4:Hk):V0:=fun R a0 k=>
D4 R a0 fun y1=>
k y1
theorem q140 (D4:Hk):EQ (zzy (p140 D4)) (e140 D4) Tryz.f140 [(.tmp 2,63,false)]:=fun _ _ _=>by kernel_rfl
def F140:V0:=p140 D4
theorem env140 (R:Type):A4 Tryz.prog (e140 D4 R):=⟨tabOK,eqOK,Cy (Ft zwk Eu) Ab,B0,Al⟩
theorem ok140:OKP (zzy F140):=ST.ok3 (q140 D4) env140 Tryz.func140 (fun _=>rfl) (fun _=>rfl) (fun _=>rfl) [] trivial
abbrev Sk:Type 1:=(R:Type)→(List Tq5)→((List Tq6)→Option R)→Option R
def U6 (F:Sk):EntR:=⟨138,(.arr 32 (.int .u8)),(.int .i64),[(false,(.sl Kq5))],fun R x k=>F R x.1 k⟩
abbrev Nq:Type 1:=(R:Type)→(List Tq5)→Int→Int→(List Tq6)→((List Tq6)→Option R)→Option R
def Dj (L:Nq):LEnt:=⟨3,[.fix 3 (.mp 0),.val 11 (.sl Kq5),.val 12 (.int .i64),.val 13 (.int .i64),.map 0 (.arr 32 (.int .u8)) (.int .i64)],1,[(.exit 0,[.fix 3 (.mp 0),.map 0 (.arr 32 (.int .u8)) (.int .i64)])],fun R x ke=>L R x.1 x.2.1 x.2.2.1 x.2.2.2.1 (fun y1=>ke.1 (y1,()))⟩
def e138 (L3:Nq) (R:Type):Env R:=⟨TT,EQT,0,33,Bu [],Bc [] R,Bm [Dj L3] R,[],Be [],[]⟩
def zgm:(R:Type)→(List Tq5)→Int→Int→(List Tq6)→((List Tq5)→Int→Int→(List Tq6)→Option R)→((List Tq6)→Option R)→Option R:=fun R x1 x2 x3 x4 kc k0=>
let v5:=decide (x3<x2);(match v5 with
|true=>(match bnd x3 x1.length with
|true=>let v6:=x1.getD x3.toNat ((List.replicate 32 0),0,0,());let v7:=Option.getD (B6 (Kd.eqv (.arr 32 (.int .u8))) x4 v6.1) (0:Int);let v8:=Option.isSome (B6 (Kd.eqv (.arr 32 (.int .u8))) x4 v6.1);(match (!v8) with
|true=>(match (Option.isNone (B6 (Kd.eqv (.arr 32 (.int .u8))) x4 v6.1)) with
|true=>let v9:=x4++[(v6.1,x3)];let v10:=IntKind.i64.wrap (x3+1);kc x1 x2 v10 v9
|false=>none)
|false=>let v11:=IntKind.i64.wrap (x3+1);kc x1 x2 v11 x4)
|false=>none)
|false=>k0 x4)
theorem q138_3 (L3:Nq) (R:Type) (x:HT (Dj L3).H) (kc:HT (Dj L3).H→Option R) (ke:KT R (Dj L3).exs):
 exec (e138 L3 R) (Cv 3 (Ah Tryz.f138)) (stOf (Dj L3).H x 1) (Od (Dj L3).H (Dj L3).exs kc ke)=
  zgm R x.1 x.2.1 x.2.2.1 x.2.2.2.1 (fun x1 x2 x3 x4=>kc (x1,x2,x3,x4,())) (fun y1=>ke.1 (y1,())):=by kernel_rfl
def Dr:Nat→Nq
 | 0=>fun _ _ _ _ _ _=>none
 | n+1=>fun R x1 x2 x3 x4 k0=>zgm R x1 x2 x3 x4 (fun x1 x2 x3 x4=>Dr n R x1 x2 x3 x4 k0) k0
def p138 (L3:Nq):Sk:=fun R a0 k=>
let v1:=(a0.length:Int);let v2:=(a0.length:Int);L3 R a0 v2 (0:Int) ([]:List (LI×Int)) (fun x3=>
k x3)
theorem q138 (L3:Nq) (F:Sk) (R:Type) (x:AT (U6 F).ins) (k:List ((U6 F).kk.T×(U6 F).kv.T)→Option R):
 zvj (e138 L3 R) (Ah Tryz.f138) 2 (U6 F).kk (U6 F).kv (avs (U6 F).ins x) k=p138 L3 R x.1 k:=by kernel_rfl
def F138:Sk:=p138 (Dr FUEL)
theorem env138 (R:Type):A4 Tryz.prog (e138 (Dr FUEL) R):=⟨tabOK,eqOK,Aq Ab,B0,Al⟩
def Yf:(R:Type)→HT (Dj (Dr FUEL)).H→(HT (Dj (Dr FUEL)).H→Option R)→KT R (Dj (Dr FUEL)).exs→Option R:=fun R x kc ke=>zgm R x.1 x.2.1 x.2.2.1 x.2.2.2.1 (fun x1 x2 x3 x4=>kc (x1,x2,x3,x4,())) (fun y1=>ke.1 (y1,()))
theorem it138_3:∀(n:Nat) (R:Type) (x:HT (Dj (Dr FUEL)).H) (ke:KT R (Dj (Dr FUEL)).exs),iter Yf n R x ke=Dr n R x.1 x.2.1 x.2.2.1 x.2.2.2.1 (fun y1=>ke.1 (y1,())):=by
 intro n
 induction n with
 | zero=>intro R x ke; rfl
 | succ n ih=>
  intro R x ke;show Yf R x (fun x'=>iter Yf n R x' ke) ke=_
  rw [show (fun x'=>iter Yf n R x' ke)=fun x=>Dr n R x.1 x.2.1 x.2.2.1 x.2.2.2.1 (fun y1=>ke.1 (y1,())) from funext fun x'=>ih R x' ke];rfl
theorem zx1:(Dj (Dr FUEL)).OK Tryz.prog 0 33 (Cv 3 (Ah Tryz.f138)):=fun R x ke r h=>
 Ez (fun R=>e138 (Dr FUEL) R) 0 33 (fun _=>rfl) (fun _=>rfl) (fun R=>env138 R) mixed (by
  intro R;rw [show Ar (Cv 3 (Ah Tryz.f138))=[] from by kernel_rfl];exact Bx) (T:=Yf) (fun R x kc ke=>q138_3 (Dr FUEL) R x kc ke) FUEL R x ke r ((it138_3 FUEL R x ke).trans h)
theorem ok138:(U6 F138).OK Tryz.prog:=
 ent_okR (Ef:=fun R=>e138 (Dr FUEL) R) (fun R=>env138 R) mixed Tryz.func138 (body:=Ah Tryz.f138) (by kernel_rfl) (by kernel_rfl) (nt:=33) (fun _=>rfl) (fun _=>rfl) (by kernel_rfl) (t:=2) (by kernel_rfl) (fun _=>Nat.le_of_ble_eq_true rfl) (by
  intro R;rw [show Ar (Ah Tryz.f138)=[Cv 3 (Ah Tryz.f138)] from by kernel_rfl];exact (Ag (I7 (e:=Dj (Dr FUEL)) rfl rfl zx1) Bx)) (fun R x k=>q138 (Dr FUEL) F138 R x k)
abbrev Zl:=(R:Type)→(List Tq5)→(Bool→Option R)→Option R
def zzz (F:Zl):Ent:=eV 137 [(.sl Kq5)] [.bool] F
def e137 (F110:Lq) (F138:Sk) (F139:Kl) (F140:V0) (R:Type):Env R:=⟨TT,EQT,0,36,Bu [(3,11)],Bc [zco F110,zi4 F139,zzy F140] R,Bm [] R,[],Be [(138,inlR 0 (U6 F138) R)],[]⟩
def p137 (F110:Lq) (F138:Sk) (F139:Kl) (F140:V0):Zl:=fun R a0 k=>
F110 R a0 fun y1=>
F139 R y1 fun y2 y3=>
F140 R a0 fun y4=>
F139 R y4 fun y5 y6=>
(match y3 with
|true=>(match y6 with
|true=>let v7:=(a0.length:Int);let v8:=decide (v7≤1048576);(match v8 with
|true=>F138 R a0 fun m9=>
let v10:=(m9.length:Int);let v11:=(a0.length:Int);let v12:=v10==v11;k v12
|false=>k false)
|false=>k false)
|false=>k false)
theorem q137 (F110:Lq) (F138:Sk) (F139:Kl) (F140:V0):EQ (zzz (p137 F110 F138 F139 F140)) (e137 F110 F138 F139 F140) Tryz.f137 [(.tmp 2,4,false)]:=fun _ _ _=>by kernel_rfl
def F137:Zl:=p137 F110 F138 F139 F140
theorem env137 (R:Type):A4 Tryz.prog (e137 F110 F138 F139 F140 R):=⟨tabOK,eqOK,Aq (Aa zmh (Aa zmg (Aa ok140 Ab))),B0,(Qd ok138 Al)⟩
theorem ok137:OKP (zzz F137):=ST.ok3 (q137 F110 F138 F139 F140) env137 Tryz.func137 (fun _=>rfl) (fun _=>rfl) (fun _=>rfl) [] trivial
def e142:Env (List (Kd.T Kq5)):=⟨TT,EQT,0,9,Bu [(1,5)],fun _ _ _=>none,fun _ _ _=>none,[],Be [],[]⟩
theorem ok142:Vp Tryz.prog 142 Kq5 0:=
 clip_ok (e:=Kq5) (E:=e142) ⟨tabOK,eqOK,(fun f b K r h=>by cases h),B0,Al⟩ mixed Tryz.func142 (body:=Ah Tryz.f142) (by kernel_rfl) (by kernel_rfl) rfl (by kernel_rfl) (t:=2) (by kernel_rfl) (by decide) (by kernel_rfl) (fun l=>by kernel_rfl)
abbrev Zg:Type 1:=(R:Type)→(List Tq5)→((List Tq5)→Option R)→Option R
def en181 (F:Zg):Ent:=⟨181,[(false,(.sl Kq5))],[(true,Kq5)],fun R x k=>F R x.1 (fun y1=>k (y1,()) ())⟩
def e181:Env (RT [(true,Kq5)]):=⟨TT,EQT,0,8,Bu [(2,0),(3,0)],fun _ _ _=>none,fun _ _ _=>none,[],Be [],[]⟩
def F181:Zg:=fun R a0 k=>match decide (List.length ([]:(List Tq5))+a0.length≤2932031007402) with | true=>k a0 | false=>none
theorem ok181:(en181 F181).OK Tryz.prog:=
 Ja (e:=Kq5) e181 ⟨tabOK,eqOK,(fun f b K r h=>by cases h),B0,Al⟩ mixed Tryz.func181 (body:=Ah Tryz.f181) (by kernel_rfl) (by kernel_rfl) (by kernel_rfl) (res:=[(.tmp 2,27,true)]) (by kernel_rfl) rfl (by decide) (by kernel_rfl) (lim:=2932031007402) (by kernel_rfl) (fun l=>by kernel_rfl)
abbrev Sj:=(R:Type)→(List Tq5)→Int→Int→((List Tq5)→Option R)→Option R
def zoj (F:Sj):Ent:=eV 143 [(.sl Kq5),(.int .i64),(.int .u64)] [(.sl Kq5)] F
def p143 (F181:Zg):Sj:=fun R a0 a1 a2 k=>
F181 R a0 fun y1=>
(match bnd a1 y1.length with
|true=>let v2:=y1.set a1.toNat ((y1.getD a1.toNat ((List.replicate 32 0),0,0,())).1,(y1.getD a1.toNat ((List.replicate 32 0),0,0,())).2.1,a2,(y1.getD a1.toNat ((List.replicate 32 0),0,0,())).2.2.2);k v2
|false=>none)
theorem q143 (F181:Zg):EQ (zoj (p143 F181)) (sE 0 15 [] [en181 F181] []) Tryz.f143 [(.tmp 6,27,false)]:=fun _ _ _=>by kernel_rfl
def F143:Sj:=p143 F181
theorem ok143:OKP (zoj F143):=ST.ok0 (q143 F181) (Aa ok181 Ab) Tryz.func143
abbrev FT97:=(R:Type)→(List Tq5)→LI→Int→Int→((List Tq5)→Int→Int→Option R)→Option R
def en97 (F:FT97):Ent:=eV 97 [(.sl Kq5),(.arr 32 (.int .u8)),(.int .u64),(.int .i64)] [(.sl Kq5),(.int .i64),(.int .i64)] F
def e97 (F137:Zl) (F138:Sk) (F139:Kl) (F140:V0) (F141:Lp) (F143:Sj) (R:Type):Env R:=⟨TT,EQT,0,83,Bu [(3,1),(13,1)],Bc [zzz F137,zi4 F139,zzy F140,zok F141,zoj F143] R,Bm [] R,[(142,Kq5,0)],Be [(138,inlR 0 (U6 F138) R)],[]⟩
def p97 (F137:Zl) (F138:Sk) (F139:Kl) (F140:V0) (F141:Lp) (F143:Sj):FT97:=fun R a0 a1 a2 a3 k=>
F137 R a0 fun y1=>
(match (!y1) with
|true=>k ([]:(List Tq5)) (0:Int) (1:Int)
|false=>let v2:=a2==0;(match v2 with
|true=>k ([]:(List Tq5)) (0:Int) (1:Int)
|false=>let v3:=decide (a3<1);(match v3 with
|true=>k ([]:(List Tq5)) (0:Int) (1:Int)
|false=>let v4:=decide (a3>1048576);(match v4 with
|true=>k ([]:(List Tq5)) (0:Int) (1:Int)
|false=>F138 R a0 fun m5=>
let v6:=Option.getD (B6 (Kd.eqv (.arr 32 (.int .u8))) m5 a1) (0:Int);let v7:=Option.isSome (B6 (Kd.eqv (.arr 32 (.int .u8))) m5 a1);(match (!v7) with
|true=>let v8:=(a0.length:Int);let v9:=decide (v8≥a3);(match v9 with
|true=>(match (!v7) with
|true=>k ([]:(List Tq5)) (0:Int) (4:Int)
|false=>F140 R a0 fun y10=>
F139 R y10 fun y11 y12=>
F141 R y11 a2 fun y13 y14=>
(match (!y14) with
|true=>k ([]:(List Tq5)) (0:Int) (11:Int)
|false=>(match (!v7) with
|true=>let v15:=([(a1,(0:Int),(0:Int),())]:(List Tq5));(match (decide (0<v15.length∧a0.length+v15.length≤2932031007402)) with
|true=>let v16:=a0++v15;(match bnd v8 v16.length with
|true=>let v17:=(v16.getD v8.toNat ((List.replicate 32 0),0,0,())).2.2.1;let v18:=IntKind.u64.wrap (v17+a2);F143 R v16 v8 v18 fun y19=>
k y19 v8 (0:Int)
|false=>none)
|false=>none)
|false=>(match bnd v8 a0.length with
|true=>let v20:=(a0.getD v8.toNat ((List.replicate 32 0),0,0,())).2.2.1;let v21:=IntKind.u64.wrap (v20+a2);F143 R a0 v8 v21 fun y22=>
k y22 v8 (0:Int)
|false=>none))))
|false=>F140 R a0 fun y23=>
F139 R y23 fun y24 y25=>
F141 R y24 a2 fun y26 y27=>
(match (!y27) with
|true=>k ([]:(List Tq5)) (0:Int) (11:Int)
|false=>(match (!v7) with
|true=>let v28:=([(a1,(0:Int),(0:Int),())]:(List Tq5));(match (decide (0<v28.length∧a0.length+v28.length≤2932031007402)) with
|true=>let v29:=a0++v28;(match bnd v8 v29.length with
|true=>let v30:=(v29.getD v8.toNat ((List.replicate 32 0),0,0,())).2.2.1;let v31:=IntKind.u64.wrap (v30+a2);F143 R v29 v8 v31 fun y32=>
k y32 v8 (0:Int)
|false=>none)
|false=>none)
|false=>(match bnd v8 a0.length with
|true=>let v33:=(a0.getD v8.toNat ((List.replicate 32 0),0,0,())).2.2.1;let v34:=IntKind.u64.wrap (v33+a2);F143 R a0 v8 v34 fun y35=>
k y35 v8 (0:Int)
|false=>none))))
|false=>let v36:=decide (v6≥a3);(match v36 with
|true=>(match (!v7) with
|true=>k ([]:(List Tq5)) (0:Int) (4:Int)
|false=>F140 R a0 fun y37=>
F139 R y37 fun y38 y39=>
F141 R y38 a2 fun y40 y41=>
(match (!y41) with
|true=>k ([]:(List Tq5)) (0:Int) (11:Int)
|false=>(match (!v7) with
|true=>let v42:=([(a1,(0:Int),(0:Int),())]:(List Tq5));(match (decide (0<v42.length∧a0.length+v42.length≤2932031007402)) with
|true=>let v43:=a0++v42;(match bnd v6 v43.length with
|true=>let v44:=(v43.getD v6.toNat ((List.replicate 32 0),0,0,())).2.2.1;let v45:=IntKind.u64.wrap (v44+a2);F143 R v43 v6 v45 fun y46=>
k y46 v6 (0:Int)
|false=>none)
|false=>none)
|false=>(match bnd v6 a0.length with
|true=>let v47:=(a0.getD v6.toNat ((List.replicate 32 0),0,0,())).2.2.1;let v48:=IntKind.u64.wrap (v47+a2);F143 R a0 v6 v48 fun y49=>
k y49 v6 (0:Int)
|false=>none))))
|false=>F140 R a0 fun y50=>
F139 R y50 fun y51 y52=>
F141 R y51 a2 fun y53 y54=>
(match (!y54) with
|true=>k ([]:(List Tq5)) (0:Int) (11:Int)
|false=>(match (!v7) with
|true=>let v55:=([(a1,(0:Int),(0:Int),())]:(List Tq5));(match (decide (0<v55.length∧a0.length+v55.length≤2932031007402)) with
|true=>let v56:=a0++v55;(match bnd v6 v56.length with
|true=>let v57:=(v56.getD v6.toNat ((List.replicate 32 0),0,0,())).2.2.1;let v58:=IntKind.u64.wrap (v57+a2);F143 R v56 v6 v58 fun y59=>
k y59 v6 (0:Int)
|false=>none)
|false=>none)
|false=>(match bnd v6 a0.length with
|true=>let v60:=(a0.getD v6.toNat ((List.replicate 32 0),0,0,())).2.2.1;let v61:=IntKind.u64.wrap (v60+a2);F143 R a0 v6 v61 fun y62=>
k y62 v6 (0:Int)
|false=>none)))))))))
theorem q97 (F137:Zl) (F138:Sk) (F139:Kl) (F140:V0) (F141:Lp) (F143:Sj):EQ (en97 (p97 F137 F138 F139 F140 F141 F143)) (e97 F137 F138 F139 F140 F141 F143) Tryz.f97 [(.tmp 8,27,false),(.tmp 9,3,false),(.tmp 10,35,false)]:=fun _ _ _=>by kernel_rfl
def F97:FT97:=p97 F137 F138 F139 F140 F141 F143
theorem env97 (R:Type):A4 Tryz.prog (e97 F137 F138 F139 F140 F141 F143 R):=⟨tabOK,eqOK,Aq (Aa ok137 (Aa zmg (Aa ok140 (Aa zmf (Aa ok143 Ab))))),insOne ok142,(Qd ok138 Al)⟩
theorem ok97:OKP (en97 F97):=ST.ok3 (q97 F137 F138 F139 F140 F141 F143) env97 Tryz.func97 (fun _=>rfl) (fun _=>rfl) (fun _=>rfl) [] trivial
abbrev FT51:=(R:Type)→Tq31→Tq13→(Int→Tq31→Option R)→Option R
def en51 (F:FT51):Ent:=eM 51 [(true,Kq31),(false,Kq13)] [(false,(.int .i64))] F
def p51 (F97:FT97):FT51:=fun R a0 a1 k=>
F97 R a0.1.2.2.1 a1.2.2.2.1 a1.2.2.1 a0.1.1.2.2.2.2.1 fun y1 y2 y3=>
let v4:=IntKind.u64.wrap y2;k y3 ((a0.1.1,a0.1.2.1,y1,a0.1.2.2.2),(a0.2.1.1,v4,a0.2.1.2.2),a0.2.2)
theorem q51 (F97:FT97):EQ (en51 (p51 F97)) (sE 1 40 [] [en97 F97] []) Tryz.f51 [(.tmp 4,35,false)]:=fun _ _ _=>by kernel_rfl
def F51:FT51:=p51 F97
theorem ok51:OKP (en51 F51):=ST.ok0 (q51 F97) (Aa ok97 Ab) Tryz.func51
abbrev zez:=(R:Type)→(List Tq5)→Int→(Int→Option R)→Option R
def zzx (F:zez):Ent:=eV 144 [(.sl Kq5),(.int .i64)] [(.int .i64)] F
def p144 (F137:Zl):zez:=fun R a0 a1 k=>
F137 R a0 fun y1=>
(match (!y1) with
|true=>k (1:Int)
|false=>let v2:=decide (a1<0);(match v2 with
|true=>k (5:Int)
|false=>let v3:=(a0.length:Int);let v4:=decide (a1≥v3);(match v4 with
|true=>k (5:Int)
|false=>k (0:Int))))
theorem q144 (F137:Zl):EQ (zzx (p144 F137)) (sE 0 18 [] [zzz F137] []) Tryz.f144 [(.tmp 4,35,false)]:=fun _ _ _=>by kernel_rfl
def F144:zez:=p144 F137
theorem ok144:OKP (zzx F144):=ST.ok0 (q144 F137) (Aa ok137 Ab) Tryz.func144
abbrev FT98:=(R:Type)→(List Tq5)→Int→Int→((List Tq5)→Int→Int→Option R)→Option R
def en98 (F:FT98):Ent:=eV 98 [(.sl Kq5),(.int .i64),(.int .u64)] [(.sl Kq5),(.int .u64),(.int .i64)] F
def p98 (F143:Sj) (F144:zez):FT98:=fun R a0 a1 a2 k=>
F144 R a0 a1 fun y1=>
let v2:=a2==0;(match v2 with
|true=>k ([]:(List Tq5)) (0:Int) (1:Int)
|false=>let v3:=y1 !=0;(match v3 with
|true=>k ([]:(List Tq5)) (0:Int) y1
|false=>(match bnd a1 a0.length with
|true=>let v4:=(a0.getD a1.toNat ((List.replicate 32 0),0,0,())).2.2.1;let v5:=decide (a2>v4);(match v5 with
|true=>k ([]:(List Tq5)) (0:Int) (12:Int)
|false=>(match bnd a1 a0.length with
|true=>let v6:=(a0.getD a1.toNat ((List.replicate 32 0),0,0,())).2.2.1;let v7:=IntKind.u64.wrap (v6 - a2);F143 R a0 a1 v7 fun y8=>
k y8 v7 (0:Int)
|false=>none))
|false=>none)))
theorem q98 (F143:Sj) (F144:zez):EQ (en98 (p98 F143 F144)) (sE 0 41 [] [zoj F143,zzx F144] []) Tryz.f98 [(.tmp 6,27,false),(.tmp 7,28,false),(.tmp 8,35,false)]:=fun _ _ _=>by kernel_rfl
def F98:FT98:=p98 F143 F144
theorem ok98:OKP (en98 F98):=ST.ok0 (q98 F143 F144) (Aa ok143 (Aa ok144 Ab)) Tryz.func98
abbrev FT52:=(R:Type)→Tq31→Tq13→(Int→Tq31→Option R)→Option R
def en52 (F:FT52):Ent:=eM 52 [(true,Kq31),(false,Kq13)] [(false,(.int .i64))] F
def p52 (F98:FT98):FT52:=fun R a0 a1 k=>
F98 R a0.1.2.2.1 a1.2.1 a1.2.2.1 fun y1 y2 y3=>
k y3 ((a0.1.1,a0.1.2.1,y1,a0.1.2.2.2),(a0.2.1.1,y2,a0.2.1.2.2),a0.2.2)
theorem q52 (F98:FT98):EQ (en52 (p52 F98)) (sE 1 28 [] [en98 F98] []) Tryz.f52 [(.tmp 4,35,false)]:=fun _ _ _=>by kernel_rfl
def F52:FT52:=p52 F98
theorem ok52:OKP (en52 F52):=ST.ok0 (q52 F98) (Aa ok98 Ab) Tryz.func52
abbrev FT99:=(R:Type)→(List Tq5)→Int→Int→((List Tq5)→Int→Int→Option R)→Option R
def en99 (F:FT99):Ent:=eV 99 [(.sl Kq5),(.int .i64),(.int .u64)] [(.sl Kq5),(.int .u64),(.int .i64)] F
def p99 (F143:Sj) (F144:zez):FT99:=fun R a0 a1 a2 k=>
F144 R a0 a1 fun y1=>
let v2:=y1 !=0;(match v2 with
|true=>k ([]:(List Tq5)) (0:Int) y1
|false=>(match bnd a1 a0.length with
|true=>let v3:=(a0.getD a1.toNat ((List.replicate 32 0),0,0,())).2.2.1;let v4:=if v3<a2 then v3 else a2;(match bnd a1 a0.length with
|true=>let v5:=(a0.getD a1.toNat ((List.replicate 32 0),0,0,())).2.2.1;let v6:=IntKind.u64.wrap (v5 - v4);F143 R a0 a1 v6 fun y7=>
k y7 v4 (0:Int)
|false=>none)
|false=>none))
theorem q99 (F143:Sj) (F144:zez):EQ (en99 (p99 F143 F144)) (sE 0 35 [] [zoj F143,zzx F144] []) Tryz.f99 [(.tmp 6,27,false),(.tmp 7,28,false),(.tmp 8,35,false)]:=fun _ _ _=>by kernel_rfl
def F99:FT99:=p99 F143 F144
theorem ok99:OKP (en99 F99):=ST.ok0 (q99 F143 F144) (Aa ok143 (Aa ok144 Ab)) Tryz.func99
abbrev FT53:=(R:Type)→Tq31→Tq13→(Int→Tq31→Option R)→Option R
def en53 (F:FT53):Ent:=eM 53 [(true,Kq31),(false,Kq13)] [(false,(.int .i64))] F
def p53 (F99:FT99):FT53:=fun R a0 a1 k=>
F99 R a0.1.2.2.1 a1.2.1 a1.2.2.1 fun y1 y2 y3=>
k y3 ((a0.1.1,a0.1.2.1,y1,a0.1.2.2.2),(a0.2.1.1,y2,a0.2.1.2.2),a0.2.2)
theorem q53 (F99:FT99):EQ (en53 (p53 F99)) (sE 1 28 [] [en99 F99] []) Tryz.f53 [(.tmp 4,35,false)]:=fun _ _ _=>by kernel_rfl
def F53:FT53:=p53 F99
theorem ok53:OKP (en53 F53):=ST.ok0 (q53 F99) (Aa ok99 Ab) Tryz.func53
abbrev R7:=(R:Type)→Tq31→Int→(Int→Tq31→Option R)→Option R
def zor (F:R7):Ent:=eM 100 [(true,Kq31),(false,(.int .i64))] [(false,(.int .i64))] F
def p100:R7:=fun R a0 a1 k=>
let v1:=decide (a1<0);(match v1 with
|true=>k (5:Int) a0
|false=>let v2:=(a0.1.2.2.1.length:Int);let v3:=decide (a1≥v2);(match v3 with
|true=>k (5:Int) a0
|false=>k (0:Int) a0))
theorem q100:EQ (zor p100) (sE 1 17 [] [] []) Tryz.f100 [(.tmp 4,35,false)]:=fun _ _ _=>by kernel_rfl
def F100:R7:=p100
theorem ok100:OKP (zor F100):=ST.ok0 q100 Ab Tryz.func100
abbrev zey:=(R:Type)→Tq21→Int→(Bool→Option R)→Option R
def zzw (F:zey):Ent:=eV 145 [Kq21,(.int .i64)] [.bool] F
def p145 (F25:FT25):zey:=fun R a0 a1 k=>
F25 R a0 fun y1=>
(match y1 with
|true=>let v2:=decide (a1≥0);(match v2 with
|true=>let v3:=decide (a1<a0.1);k v3
|false=>k false)
|false=>k false)
theorem q145 (F25:FT25):EQ (zzw (p145 F25)) (sE 0 17 [] [en25 F25] []) Tryz.f145 [(.tmp 4,4,false)]:=fun _ _ _=>by kernel_rfl
def F145:zey:=p145 F25
theorem ok145:OKP (zzw F145):=ST.ok0 (q145 F25) (Aa ok25 Ab) Tryz.func145
abbrev V6:=(R:Type)→Tq21→Int→(Int→Option R)→Option R
def zz5 (F:V6):Ent:=eV 101 [Kq21,(.int .i64)] [(.int .i64)] F
def p101 (F145:zey):V6:=fun R a0 a1 k=>
F145 R a0 a1 fun y1=>
(match (!y1) with
|true=>k (0:Int)
|false=>let v2:=decide (a1<a0.2.1);(match v2 with
|true=>k (1:Int)
|false=>let v3:=IntKind.i64.wrap (a0.2.1+a0.2.2.1);let v4:=decide (a1<v3);(match v4 with
|true=>k (2:Int)
|false=>k (3:Int))))
theorem q101 (F145:zey):EQ (zz5 (p101 F145)) (sE 0 23 [] [zzw F145] []) Tryz.f101 [(.tmp 4,3,false)]:=fun _ _ _=>by kernel_rfl
def F101:V6:=p101 F145
theorem ok101:OKP (zz5 F101):=ST.ok0 (q101 F145) (Aa ok145 Ab) Tryz.func101
abbrev zq0:=(R:Type)→(LI→Option R)→Option R
def en252 (F:zq0):Ent:=eV 252 [] [(.arr 8 (.int .u32))] F
def p252:zq0:=fun R k=>
let v1:=List.set (List.set (List.set (List.set (List.set (List.set (List.set (List.set (List.replicate 8 (0:Int)) 0 (1779033703:Int)) 1 (3144134277:Int)) 2 (1013904242:Int)) 3 (2773480762:Int)) 4 (1359893119:Int)) 5 (2600822924:Int)) 6 (528734635:Int)) 7 (1541459225:Int);k v1
theorem q252:EQ (en252 p252) (sE 0 2 [] [] []) Tryz.f252 [(.cell 0 143,143,false)]:=fun _ _ _=>by kernel_rfl
def F252:zq0:=p252
theorem ok252:OKP (en252 F252):=ST.ok0 q252 Ab Tryz.func252
abbrev zq5:=(R:Type)→(Tq33→Option R)→Option R
def en226 (F:zq5):Ent:=eV 226 [] [Kq33] F
def p226 (F252:zq0):zq5:=fun R k=>
F252 R  fun y1=>
k (y1,([]:LI),(0:Int),())
theorem q226 (F252:zq0):EQ (en226 (p226 F252)) (sE 0 3 [] [en252 F252] []) Tryz.f226 [(.cell 0 258,258,false)]:=fun _ _ _=>by kernel_rfl
def F226:zq5:=p226 F252
theorem ok226:OKP (en226 F226):=ST.ok0 (q226 F252) (Aa ok252 Ab) Tryz.func226
abbrev zeb:=(R:Type)→Tq33→(Bool→Option R)→Option R
def en250 (F:zeb):Ent:=eV 250 [Kq33] [.bool] F
def p250:zeb:=fun R a0 k=>
let v1:=decide (a0.2.2.1<2305843009213693952);(match v1 with
|true=>let v2:=(a0.2.1.length:Int);let v3:=IntKind.u64.wrap v2;let v4:=iand .u64 a0.2.2.1 (63:Int);let v5:=v3==v4;k v5
|false=>k false)
theorem q250:EQ (en250 p250) (sE 0 16 [] [] []) Tryz.f250 [(.tmp 2,4,false)]:=fun _ _ _=>by kernel_rfl
def F250:zeb:=p250
theorem ok250:OKP (en250 F250):=ST.ok0 q250 Ab Tryz.func250
abbrev FT270:Type 1:=(R:Type)→LI→(LI→Option R)→Option R
def en270 (F:FT270):Ent:=⟨270,[(false,(.sl (.int .u8)))],[(true,(.int .u8))],fun R x k=>F R x.1 (fun y1=>k (y1,()) ())⟩
def e270:Env (RT [(true,(.int .u8))]):=⟨TT,EQT,0,8,Bu [(2,0),(3,0)],fun _ _ _=>none,fun _ _ _=>none,[],Be [],[]⟩
def F270:FT270:=fun R a0 k=>match decide (List.length ([]:LI)+a0.length≤140737488355328) with | true=>k a0 | false=>none
theorem ok270:(en270 F270).OK Tryz.prog:=
 Ja (e:=(.int .u8)) e270 ⟨tabOK,eqOK,(fun f b K r h=>by cases h),B0,Al⟩ mixed Tryz.func270 (body:=Ah Tryz.f270) (by kernel_rfl) (by kernel_rfl) (by kernel_rfl) (res:=[(.tmp 2,93,true)]) (by kernel_rfl) rfl (by decide) (by kernel_rfl) (lim:=140737488355328) (by kernel_rfl) (fun l=>by kernel_rfl)
abbrev zd3:=(R:Type)→LI→((List LI)→LI→Option R)→Option R
def en272 (F:zd3):Ent:=eV 272 [(.sl (.int .u8))] [(.sl (.arr 64 (.int .u8))),(.sl (.int .u8))] F
abbrev ztu (Z:Type):=LI→(List LI)→Z
abbrev E272_1 (R:Type):=(LI→(List LI)→Option R)→Option R
abbrev Mx:=(R:Type)→ztu (E272_1 R)
def zav (L:Mx):LEnt:=lM 1 [.val 0 (.sl (.int .u8)),.fix 2 (.own 0 0),.row 0 (.arr 64 (.int .u8)) false] 1 [(.exit 0,[.val 0 (.sl (.int .u8)),.fix 2 (.own 0 0),.row 0 (.arr 64 (.int .u8)) false])] L
def e272 (L1:Mx):=sE 0 17 [(0,0)] [] [zav L1]
def zky (R:Type):ztu (ztu (Option R)→E272_1 R):=fun x1 x2 kc k0=>
let v3:=(x1.length:Int);let v4:=decide (v3≥64);(match v4 with
|true=>(match (decide ((64:Int)≤(x1.length:Int))) with
|true=>let v5:=List.take 64 x1;let v6:=([v5]:(List LI));(match (decide (x2.length+v6.length≤2199023255552)) with
|true=>let v7:=x2++v6;(match (decide (0≤(64:Int)∧(64:Int)≤(x1.length:Int)∧(x1.length:Int)≤(x1.length:Int)∧(x1.length:Int)≤(x1.length:Int))) with
|true=>let v8:=List.take (Int.toNat ((x1.length:Int) - (64:Int))) (List.drop 64 x1);kc v8 v7
|false=>none)
|false=>none)
|false=>none)
|false=>k0 x1 x2)
theorem q272_1 (L1:Mx):LEQ (zav L1) (e272 L1) Tryz.f272 zky:=fun _ _ _ _=>by kernel_rfl
def Q4:Nat→Mx
 | 0=>fun _ _ _ _=>none
 | n+1=>fun R x1 x2 k0=>zky R x1 x2 (fun x1 x2=>Q4 n R x1 x2 k0) k0
def p272 (L1:Mx):zd3:=fun R a0 k=>
L1 R a0 ([]:(List LI)) (fun x1 x2=>
k x2 x1)
theorem q272 (L1:Mx):EQ (en272 (p272 L1)) (e272 L1) Tryz.f272 [(.tmp 2,137,false),(.tmp 3,93,false)]:=fun _ _ _=>by kernel_rfl
def F272:zd3:=p272 (Q4 FUEL)
theorem zwy:LKP (zav (Q4 FUEL)) 0 17 1 Tryz.f272:=ST.lok (q272_1 (Q4 FUEL)) Ab [] trivial
theorem ok272:OKP (en272 F272):=ST.ok1 (q272 (Q4 FUEL)) Ab Tryz.func272 [1] ⟨⟨_,rfl,zwy⟩,trivial⟩
abbrev Y8:=(R:Type)→(LI→Option R)→Option R
def en282 (F:Y8):Ent:=eV 282 [] [(.arr 64 (.int .u32))] F
def p282:Y8:=fun R k=>
let v1:=List.set (List.set (List.set (List.set (List.set (List.set (List.set (List.set (List.set (List.set (List.set (List.set (List.set (List.set (List.set (List.set (List.set (List.set (List.set (List.set (List.set (List.set (List.set (List.set (List.set (List.set (List.set (List.set (List.set (List.set (List.set (List.set (List.set (List.set (List.set (List.set (List.set (List.set (List.set (List.set (List.set (List.set (List.set (List.set (List.set (List.set (List.set (List.set (List.set (List.set (List.set (List.set (List.set (List.set (List.set (List.set (List.set (List.set (List.set (List.set (List.set (List.set (List.set (List.set (List.replicate 64 (0:Int)) 0 (1116352408:Int)) 1 (1899447441:Int)) 2 (3049323471:Int)) 3 (3921009573:Int)) 4 (961987163:Int)) 5 (1508970993:Int)) 6 (2453635748:Int)) 7 (2870763221:Int)) 8 (3624381080:Int)) 9 (310598401:Int)) 10 (607225278:Int)) 11 (1426881987:Int)) 12 (1925078388:Int)) 13 (2162078206:Int)) 14 (2614888103:Int)) 15 (3248222580:Int)) 16 (3835390401:Int)) 17 (4022224774:Int)) 18 (264347078:Int)) 19 (604807628:Int)) 20 (770255983:Int)) 21 (1249150122:Int)) 22 (1555081692:Int)) 23 (1996064986:Int)) 24 (2554220882:Int)) 25 (2821834349:Int)) 26 (2952996808:Int)) 27 (3210313671:Int)) 28 (3336571891:Int)) 29 (3584528711:Int)) 30 (113926993:Int)) 31 (338241895:Int)) 32 (666307205:Int)) 33 (773529912:Int)) 34 (1294757372:Int)) 35 (1396182291:Int)) 36 (1695183700:Int)) 37 (1986661051:Int)) 38 (2177026350:Int)) 39 (2456956037:Int)) 40 (2730485921:Int)) 41 (2820302411:Int)) 42 (3259730800:Int)) 43 (3345764771:Int)) 44 (3516065817:Int)) 45 (3600352804:Int)) 46 (4094571909:Int)) 47 (275423344:Int)) 48 (430227734:Int)) 49 (506948616:Int)) 50 (659060556:Int)) 51 (883997877:Int)) 52 (958139571:Int)) 53 (1322822218:Int)) 54 (1537002063:Int)) 55 (1747873779:Int)) 56 (1955562222:Int)) 57 (2024104815:Int)) 58 (2227730452:Int)) 59 (2361852424:Int)) 60 (2428436474:Int)) 61 (2756734187:Int)) 62 (3204031479:Int)) 63 (3329325298:Int);k v1
theorem q282:EQ (en282 p282) (sE 0 2 [] [] []) Tryz.f282 [(.cell 0 222,222,false)]:=fun _ _ _=>by kernel_rfl
def F282:Y8:=p282
theorem ok282:OKP (en282 F282):=ST.ok0 q282 Ab Tryz.func282
abbrev Pc:=(R:Type)→LI→(Int→Option R)→Option R
def zoc (F:Pc):Ent:=eV 244 [(.arr 4 (.int .u8))] [(.int .u32)] F
abbrev zt5 (Z:Type):=Int→LI→Int→Z
abbrev E244_2 (R:Type):=(Int→Option R)→Option R
abbrev M4:=(R:Type)→zt5 (E244_2 R)
def za6 (L:M4):LEnt:=lM 2 [.val 2 (.int .u32),.val 5 (.arr 4 (.int .u8)),.val 6 (.int .i64)] 0 [(.exit 0,[.val 2 (.int .u32)])] L
def e244 (L2:M4):=sE 0 16 [] [] [za6 L2]
def zk8 (R:Type):zt5 (zt5 (Option R)→E244_2 R):=fun x1 x2 x3 kc k0=>
let v4:=decide (x3<4);(match v4 with
|true=>(match (bnd x3 (4:Int)) with
|true=>let v5:=x2.getD x3.toNat 0;let v6:=ishl .u32 x1 (8:Int);let v7:=IntKind.u32.wrap v5;let v8:=ior .u32 v6 v7;let v9:=IntKind.i64.wrap (x3+1);kc v8 x2 v9
|false=>none)
|false=>k0 x1)
theorem q244_2 (L2:M4):LEQ (za6 L2) (e244 L2) Tryz.f244 zk8:=fun _ _ _ _=>by kernel_rfl
def Tv:Nat→M4
 | 0=>fun _ _ _ _ _=>none
 | n+1=>fun R x1 x2 x3 k0=>zk8 R x1 x2 x3 (fun x1 x2 x3=>Tv n R x1 x2 x3 k0) k0
def p244 (L2:M4):Pc:=fun R a0 k=>
L2 R (0:Int) a0 (0:Int) (fun x1=>
k x1)
theorem q244 (L2:M4):EQ (zoc (p244 L2)) (e244 L2) Tryz.f244 [(.tmp 2,136,false)]:=fun _ _ _=>by kernel_rfl
def F244:Pc:=p244 (Tv FUEL)
theorem zw9:LKP (za6 (Tv FUEL)) 0 16 2 Tryz.f244:=ST.lok (q244_2 (Tv FUEL)) Ab [] trivial
theorem zwb:OKP (zoc F244):=ST.ok1 (q244 (Tv FUEL)) Ab Tryz.func244 [2] ⟨⟨_,rfl,zw9⟩,trivial⟩
abbrev zdu:=(R:Type)→Int→Int→(Int→Option R)→Option R
def zzb (F:zdu):Ent:=eV 293 [(.int .u32),(.int .i64)] [(.int .u32)] F
def p293:zdu:=fun R a0 a1 k=>
let v1:=IntKind.u64.wrap a1;let v2:=Int.tmod v1 (32:Int);(match (decide (0≤v2)) with
|true=>let v3:=ishr .u32 a0 v2;let v4:=IntKind.u64.wrap ((32:Int) - v2);(match (decide (0≤v4)) with
|true=>let v5:=ishl .u32 a0 v4;let v6:=ior .u32 v3 v5;k v6
|false=>none)
|false=>none)
theorem q293:EQ (zzb p293) (sE 0 17 [] [] []) Tryz.f293 [(.tmp 4,136,false)]:=fun _ _ _=>by kernel_rfl
def F293:zdu:=p293
theorem ok293:OKP (zzb F293):=ST.ok0 q293 Ab Tryz.func293
abbrev zqn:=(R:Type)→Int→Int→(Int→Option R)→Option R
def en294 (F:zqn):Ent:=eV 294 [(.int .u32),(.int .i64)] [(.int .u32)] F
def p294:zqn:=fun R a0 a1 k=>
let v1:=if (0:Int)>a1 then (0:Int) else a1;let v2:=IntKind.u64.wrap v1;(match (decide (0≤v2)) with
|true=>let v3:=ishr .u32 a0 v2;k v3
|false=>none)
theorem q294:EQ (en294 p294) (sE 0 10 [] [] []) Tryz.f294 [(.tmp 4,136,false)]:=fun _ _ _=>by kernel_rfl
def F294:zqn:=p294
theorem ok294:OKP (en294 F294):=ST.ok0 q294 Ab Tryz.func294
abbrev zdw:=(R:Type)→Int→Int→Int→Int→(Int→Option R)→Option R
def zzd (F:zdw):Ent:=eV 291 [(.int .u32),(.int .i64),(.int .i64),(.int .i64)] [(.int .u32)] F
def p291 (F293:zdu) (F294:zqn):zdw:=fun R a0 a1 a2 a3 k=>
F293 R a0 a1 fun y1=>
F293 R a0 a2 fun y2=>
let v3:=ixor .u32 y1 y2;F294 R a0 a3 fun y4=>
let v5:=ixor .u32 v3 y4;k v5
theorem q291 (F293:zdu) (F294:zqn):EQ (zzd (p291 F293 F294)) (sE 0 20 [] [zzb F293,en294 F294] []) Tryz.f291 [(.tmp 8,136,false)]:=fun _ _ _=>by kernel_rfl
def F291:zdw:=p291 F293 F294
theorem ok291:OKP (zzd F291):=ST.ok0 (q291 F293 F294) (Aa ok293 (Aa ok294 Ab)) Tryz.func291
abbrev zdy:=(R:Type)→Int→(Int→Option R)→Option R
def en286 (F:zdy):Ent:=eV 286 [(.int .u32)] [(.int .u32)] F
def p286 (F291:zdw):zdy:=fun R a0 k=>
F291 R a0 (17:Int) (19:Int) (10:Int) fun y1=>
k y1
theorem q286 (F291:zdw):EQ (en286 (p286 F291)) (sE 0 5 [] [zzd F291] []) Tryz.f286 [(.tmp 2,136,false)]:=fun _ _ _=>by kernel_rfl
def F286:zdy:=p286 F291
theorem ok286:OKP (en286 F286):=ST.ok0 (q286 F291) (Aa ok291 Ab) Tryz.func286
abbrev zdx:=(R:Type)→Int→(Int→Option R)→Option R
def en287 (F:zdx):Ent:=eV 287 [(.int .u32)] [(.int .u32)] F
def p287 (F291:zdw):zdx:=fun R a0 k=>
F291 R a0 (7:Int) (18:Int) (3:Int) fun y1=>
k y1
theorem q287 (F291:zdw):EQ (en287 (p287 F291)) (sE 0 5 [] [zzd F291] []) Tryz.f287 [(.tmp 2,136,false)]:=fun _ _ _=>by kernel_rfl
def F287:zdx:=p287 F291
theorem ok287:OKP (en287 F287):=ST.ok0 (q287 F291) (Aa ok291 Ab) Tryz.func287
abbrev Y7:=(R:Type)→LI→(LI→Option R)→Option R
def en283 (F:Y7):Ent:=eV 283 [(.arr 64 (.int .u8))] [(.arr 64 (.int .u32))] F
abbrev ztp (Z:Type):=Int→LI→LI→Z
abbrev E283_2 (R:Type):=(LI→Option R)→Option R
abbrev Mu:=(R:Type)→ztp (E283_2 R)
def zaq (L:Mu):LEnt:=lM 2 [.fix 1 (.ptr 0 [] (.arr 64 (.int .u8))),.fix 2 (.ptr 1 [] (.arr 64 (.int .u32))),.val 5 (.int .i64),.var 0 (.arr 64 (.int .u8)) false,.var 1 (.arr 64 (.int .u32)) false] 2 [(.exit 0,[.fix 2 (.ptr 1 [] (.arr 64 (.int .u32))),.var 1 (.arr 64 (.int .u32)) false])] L
def e283 (F244:Pc) (F286:zdy) (F287:zdx) (L2:Mu):=sE 0 46 [] [zoc F244,en286 F286,en287 F287] [zaq L2]
def zku (F244:Pc) (F286:zdy) (F287:zdx) (R:Type):ztp (ztp (Option R)→E283_2 R):=fun x1 x2 x3 kc k0=>
let v4:=decide (x1<64);(match v4 with
|true=>let v5:=IntKind.i64.wrap ((4:Int)*x1);let v6:=decide (v5<64);(match v6 with
|true=>let v7:=IntKind.i64.wrap (v5+4);(match (decide (0≤v5∧v5≤v7∧v7≤64)) with
|true=>(match (decide ((4:Int)≤((Int.toNat (v7 - v5)):Nat))) with
|true=>let v8:=List.take 4 (List.drop v5.toNat x2);F244 R v8 fun y9=>
(match (bnd x1 (64:Int)) with
|true=>let v10:=x3.set x1.toNat y9;let v11:=IntKind.i64.wrap (x1+1);kc v11 x2 v10
|false=>none)
|false=>none)
|false=>none)
|false=>let v12:=IntKind.i64.wrap (x1 - 2);(match (bnd v12 (64:Int)) with
|true=>let v13:=x3.getD v12.toNat 0;F286 R v13 fun y14=>
let v15:=IntKind.i64.wrap (x1 - 7);(match (bnd v15 (64:Int)) with
|true=>let v16:=x3.getD v15.toNat 0;let v17:=IntKind.u32.wrap (y14+v16);let v18:=IntKind.i64.wrap (x1 - 15);(match (bnd v18 (64:Int)) with
|true=>let v19:=x3.getD v18.toNat 0;F287 R v19 fun y20=>
let v21:=IntKind.u32.wrap (v17+y20);let v22:=IntKind.i64.wrap (x1 - 16);(match (bnd v22 (64:Int)) with
|true=>let v23:=x3.getD v22.toNat 0;let v24:=IntKind.u32.wrap (v21+v23);(match (bnd x1 (64:Int)) with
|true=>let v25:=x3.set x1.toNat v24;let v26:=IntKind.i64.wrap (x1+1);kc v26 x2 v25
|false=>none)
|false=>none)
|false=>none)
|false=>none)
|false=>none))
|false=>k0 x3)
theorem q283_2 (F244:Pc) (F286:zdy) (F287:zdx) (L2:Mu):LEQ (zaq L2) (e283 F244 F286 F287 L2) Tryz.f283 (zku F244 F286 F287):=fun _ _ _ _=>by kernel_rfl
def Q2:Nat→Mu
 | 0=>fun _ _ _ _ _=>none
 | n+1=>fun R x1 x2 x3 k0=>zku F244 F286 F287 R x1 x2 x3 (fun x1 x2 x3=>Q2 n R x1 x2 x3 k0) k0
def p283 (L2:Mu):Y7:=fun R a0 k=>
L2 R (0:Int) a0 (List.replicate 64 (0:Int)) (fun x1=>
k x1)
theorem q283 (F244:Pc) (F286:zdy) (F287:zdx) (L2:Mu):EQ (en283 (p283 L2)) (e283 F244 F286 F287 L2) Tryz.f283 [(.cell 2 223,223,false)]:=fun _ _ _=>by kernel_rfl
def F283:Y7:=p283 (Q2 FUEL)
theorem zwt:LKP (zaq (Q2 FUEL)) 0 46 2 Tryz.f283:=ST.lok (q283_2 F244 F286 F287 (Q2 FUEL)) (Aa zwb (Aa ok286 (Aa ok287 Ab))) [] trivial
theorem ok283:OKP (en283 F283):=ST.ok1 (q283 F244 F286 F287 (Q2 FUEL)) (Aa zwb (Aa ok286 (Aa ok287 Ab))) Tryz.func283 [2] ⟨⟨_,rfl,zwt⟩,trivial⟩
abbrev zdv:=(R:Type)→Int→Int→Int→Int→(Int→Option R)→Option R
def zzc (F:zdv):Ent:=eV 292 [(.int .u32),(.int .i64),(.int .i64),(.int .i64)] [(.int .u32)] F
def p292 (F293:zdu):zdv:=fun R a0 a1 a2 a3 k=>
F293 R a0 a1 fun y1=>
F293 R a0 a2 fun y2=>
let v3:=ixor .u32 y1 y2;F293 R a0 a3 fun y4=>
let v5:=ixor .u32 v3 y4;k v5
theorem q292 (F293:zdu):EQ (zzc (p292 F293)) (sE 0 20 [] [zzb F293] []) Tryz.f292 [(.tmp 8,136,false)]:=fun _ _ _=>by kernel_rfl
def F292:zdv:=p292 F293
theorem ok292:OKP (zzc F292):=ST.ok0 (q292 F293) (Aa ok293 Ab) Tryz.func292
abbrev zqq:=(R:Type)→Int→Int→Int→(Int→Option R)→Option R
def en288 (F:zqq):Ent:=eV 288 [(.int .u32),(.int .u32),(.int .u32)] [(.int .u32)] F
def p288 (F292:zdv):zqq:=fun R a0 a1 a2 k=>
F292 R a0 (6:Int) (11:Int) (25:Int) fun y1=>
let v2:=iand .u32 a0 a1;let v3:=ixor .u32 (4294967295:Int) a0;let v4:=iand .u32 v3 a2;let v5:=ixor .u32 v2 v4;let v6:=IntKind.u32.wrap (y1+v5);k v6
theorem q288 (F292:zdv):EQ (en288 (p288 F292)) (sE 0 18 [] [zzc F292] []) Tryz.f288 [(.tmp 6,136,false)]:=fun _ _ _=>by kernel_rfl
def F288:zqq:=p288 F292
theorem ok288:OKP (en288 F288):=ST.ok0 (q288 F292) (Aa ok292 Ab) Tryz.func288
abbrev zqp:=(R:Type)→Int→Int→Int→(Int→Option R)→Option R
def en289 (F:zqp):Ent:=eV 289 [(.int .u32),(.int .u32),(.int .u32)] [(.int .u32)] F
def p289 (F292:zdv):zqp:=fun R a0 a1 a2 k=>
F292 R a0 (2:Int) (13:Int) (22:Int) fun y1=>
let v2:=iand .u32 a0 a1;let v3:=iand .u32 a0 a2;let v4:=ixor .u32 v2 v3;let v5:=iand .u32 a1 a2;let v6:=ixor .u32 v4 v5;let v7:=IntKind.u32.wrap (y1+v6);k v7
theorem q289 (F292:zdv):EQ (en289 (p289 F292)) (sE 0 21 [] [zzc F292] []) Tryz.f289 [(.tmp 6,136,false)]:=fun _ _ _=>by kernel_rfl
def F289:zqp:=p289 F292
theorem ok289:OKP (en289 F289):=ST.ok0 (q289 F292) (Aa ok292 Ab) Tryz.func289
abbrev Y6:=(R:Type)→LI→Int→Int→(LI→Option R)→Option R
def en284 (F:Y6):Ent:=eV 284 [(.arr 8 (.int .u32)),(.int .u32),(.int .u32)] [(.arr 8 (.int .u32))] F
def p284 (F288:zqq) (F289:zqp):Y6:=fun R a0 a1 a2 k=>
let v1:=a0.getD 7 0;let v2:=a0.getD 4 0;let v3:=a0.getD 5 0;let v4:=a0.getD 6 0;F288 R v2 v3 v4 fun y5=>
let v6:=IntKind.u32.wrap (v1+y5);let v7:=IntKind.u32.wrap (v6+a2);let v8:=IntKind.u32.wrap (v7+a1);let v9:=lay (List.replicate 8 (0:Int)) 1 (List.take 7 (List.take 7 (List.drop 0 a0)));let v10:=a0.getD 0 0;let v11:=a0.getD 1 0;let v12:=a0.getD 2 0;F289 R v10 v11 v12 fun y13=>
let v14:=IntKind.u32.wrap (v8+y13);let v15:=v9.set 0 v14;let v16:=v15.getD 4 0;let v17:=IntKind.u32.wrap (v16+v8);let v18:=v15.set 4 v17;k v18
theorem q284 (F288:zqq) (F289:zqp):EQ (en284 (p284 F288 F289)) (sE 0 41 [] [en288 F288,en289 F289] []) Tryz.f284 [(.cell 6 143,143,false)]:=fun _ _ _=>by kernel_rfl
def F284:Y6:=p284 F288 F289
theorem ok284:OKP (en284 F284):=ST.ok0 (q284 F288 F289) (Aa ok288 (Aa ok289 Ab)) Tryz.func284
abbrev zd2:=(R:Type)→LI→LI→(LI→Option R)→Option R
def en273 (F:zd2):Ent:=eV 273 [(.arr 8 (.int .u32)),(.arr 64 (.int .u8))] [(.arr 8 (.int .u32))] F
abbrev ztt (Z:Type):=LI→Int→LI→LI→LI→LI→Z
abbrev E273_3 (R:Type):=(LI→LI→LI→Option R)→Option R
abbrev J2:=(R:Type)→ztt (E273_3 R)
def zau (L:J2):LEnt:=lM 3 [.fix 2 (.ptr 0 [] (.arr 8 (.int .u32))),.fix 4 (.ptr 2 [] (.arr 8 (.int .u32))),.fix 5 (.ptr 3 [] (.arr 8 (.int .u32))),.fix 6 (.ptr 4 [] (.arr 64 (.int .u32))),.val 13 (.arr 64 (.int .u32)),.val 14 (.int .i64),.var 0 (.arr 8 (.int .u32)) false,.var 2 (.arr 8 (.int .u32)) false,.var 3 (.arr 8 (.int .u32)) false,.var 4 (.arr 64 (.int .u32)) false] 5 [(.exit 0,[.fix 2 (.ptr 0 [] (.arr 8 (.int .u32))),.fix 4 (.ptr 2 [] (.arr 8 (.int .u32))),.fix 5 (.ptr 3 [] (.arr 8 (.int .u32))),.var 0 (.arr 8 (.int .u32)) false,.var 2 (.arr 8 (.int .u32)) false,.var 3 (.arr 8 (.int .u32)) false])] L
abbrev zts (Z:Type):=Int→LI→LI→LI→Z
abbrev E273_8 (R:Type):=(LI→LI→Option R)→Option R
abbrev J1:=(R:Type)→zts (E273_8 R)
def zat (L:J1):LEnt:=lM 8 [.fix 2 (.ptr 0 [] (.arr 8 (.int .u32))),.fix 4 (.ptr 2 [] (.arr 8 (.int .u32))),.fix 5 (.ptr 3 [] (.arr 8 (.int .u32))),.val 25 (.int .i64),.var 0 (.arr 8 (.int .u32)) false,.var 2 (.arr 8 (.int .u32)) false,.var 3 (.arr 8 (.int .u32)) false] 4 [(.exit 2,[.fix 4 (.ptr 2 [] (.arr 8 (.int .u32))),.fix 5 (.ptr 3 [] (.arr 8 (.int .u32))),.var 2 (.arr 8 (.int .u32)) false,.var 3 (.arr 8 (.int .u32)) false])] L
def e273 (F282:Y8) (F283:Y7) (F284:Y6) (L3:J2) (L8:J1):=sE 0 38 [] [en282 F282,en283 F283,en284 F284] [zau L3,zat L8]
def zkx (F284:Y6) (R:Type):ztt (ztt (Option R)→E273_3 R):=fun x1 x2 x3 x4 x5 x6 kc k0=>
let v7:=decide (x2<64);(match v7 with
|true=>(match (bnd x2 (64:Int)) with
|true=>let v8:=x1.getD x2.toNat 0;(match (bnd x2 (64:Int)) with
|true=>let v9:=x6.getD x2.toNat 0;F284 R x5 v8 v9 fun y10=>
let v11:=IntKind.i64.wrap (x2+1);kc x1 v11 x3 x4 y10 x6
|false=>none)
|false=>none)
|false=>k0 x3 x4 x5)
theorem q273_3 (F282:Y8) (F283:Y7) (F284:Y6) (L3:J2) (L8:J1):LEQ (zau L3) (e273 F282 F283 F284 L3 L8) Tryz.f273 (zkx F284):=fun _ _ _ _=>by kernel_rfl
def On:Nat→J2
 | 0=>fun _ _ _ _ _ _ _ _=>none
 | n+1=>fun R x1 x2 x3 x4 x5 x6 k0=>zkx F284 R x1 x2 x3 x4 x5 x6 (fun x1 x2 x3 x4 x5 x6=>On n R x1 x2 x3 x4 x5 x6 k0) k0
def zkw (R:Type):zts (zts (Option R)→E273_8 R):=fun x1 x2 x3 x4 kc k0=>
let v5:=decide (x1<8);(match v5 with
|true=>(match (bnd x1 (8:Int)) with
|true=>let v6:=x4.getD x1.toNat 0;(match (bnd x1 (8:Int)) with
|true=>let v7:=x2.getD x1.toNat 0;let v8:=IntKind.u32.wrap (v6+v7);(match (bnd x1 (8:Int)) with
|true=>let v9:=x4.set x1.toNat v8;let v10:=IntKind.i64.wrap (x1+1);kc v10 x2 x3 v9
|false=>none)
|false=>none)
|false=>none)
|false=>k0 x3 x4)
theorem q273_8 (F282:Y8) (F283:Y7) (F284:Y6) (L3:J2) (L8:J1):LEQ (zat L8) (e273 F282 F283 F284 L3 L8) Tryz.f273 zkw:=fun _ _ _ _=>by kernel_rfl
def Lb:Nat→J1
 | 0=>fun _ _ _ _ _ _=>none
 | n+1=>fun R x1 x2 x3 x4 k0=>zkw R x1 x2 x3 x4 (fun x1 x2 x3 x4=>Lb n R x1 x2 x3 x4 k0) k0
def p273 (F282:Y8) (F283:Y7) (L3:J2) (L8:J1):zd2:=fun R a0 a1 k=>
F282 R  fun y1=>
F283 R a1 fun y2=>
L3 R y2 (0:Int) a0 (List.replicate 8 (0:Int)) a0 y1 (fun x3 x4 x5=>
L8 R (0:Int) x3 x4 x5 (fun x6 x7=>
k x7))
theorem q273 (F282:Y8) (F283:Y7) (F284:Y6) (L3:J2) (L8:J1):EQ (en273 (p273 F282 F283 L3 L8)) (e273 F282 F283 F284 L3 L8) Tryz.f273 [(.cell 4 143,143,false)]:=fun _ _ _=>by kernel_rfl
def F273:zd2:=p273 F282 F283 (On FUEL) (Lb FUEL)
theorem zwx:LKP (zau (On FUEL)) 0 38 3 Tryz.f273:=ST.lok (q273_3 F282 F283 F284 (On FUEL) (Lb FUEL)) (Aa ok282 (Aa ok283 (Aa ok284 Ab))) [] trivial
theorem zww:LKP (zat (Lb FUEL)) 0 38 8 Tryz.f273:=ST.lok (q273_8 F282 F283 F284 (On FUEL) (Lb FUEL)) (Aa ok282 (Aa ok283 (Aa ok284 Ab))) [] trivial
theorem ok273:OKP (en273 F273):=ST.ok1 (q273 F282 F283 F284 (On FUEL) (Lb FUEL)) (Aa ok282 (Aa ok283 (Aa ok284 Ab))) Tryz.func273 [3,8] ⟨⟨_,rfl,zwx⟩,⟨⟨_,rfl,zww⟩,trivial⟩⟩
abbrev zd9:=(R:Type)→Tq34→LI→(LI→Tq34→Option R)→Option R
def zzh (F:zd9):Ent:=eM 254 [(true,Kq34),(false,(.sl (.int .u8)))] [(false,(.sl (.int .u8)))] F
abbrev zt2 (Z:Type):=LI→(List LI)→Int→Int→Tq34→Z
abbrev E254_3 (R:Type):=(LI→Tq34→Option R)→Option R
abbrev M1:=(R:Type)→zt2 (E254_3 R)
def za3 (L:M1):LEnt:=lM 3 [.fix 0 (.ptr 0 [] Kq34),.val 6 (.sl (.int .u8)),.val 14 (.sl (.arr 64 (.int .u8))),.val 15 (.int .i64),.val 16 (.int .i64),.var 0 Kq34 false] 1 [(.exit 0,[.val 6 (.sl (.int .u8)),.var 0 Kq34 false])] L
def e254 (F272:zd3) (F273:zd2) (L3:M1):=sE 1 33 [] [en272 F272,en273 F273] [za3 L3]
def zk5 (F273:zd2) (R:Type):zt2 (zt2 (Option R)→E254_3 R):=fun x1 x2 x3 x4 x5 kc k0=>
let v6:=decide (x4<x3);(match v6 with
|true=>(match bnd x4 x2.length with
|true=>let v7:=x2.getD x4.toNat (List.replicate 64 0);F273 R x5.1.1 v7 fun y8=>
let v9:=IntKind.i64.wrap (x4+1);kc x1 x2 x3 v9 ((y8,x5.1.2),x5.2)
|false=>none)
|false=>k0 x1 x5)
theorem q254_3 (F272:zd3) (F273:zd2) (L3:M1):LEQ (za3 L3) (e254 F272 F273 L3) Tryz.f254 (zk5 F273):=fun _ _ _ _=>by kernel_rfl
def Q7:Nat→M1
 | 0=>fun _ _ _ _ _ _ _=>none
 | n+1=>fun R x1 x2 x3 x4 x5 k0=>zk5 F273 R x1 x2 x3 x4 x5 (fun x1 x2 x3 x4 x5=>Q7 n R x1 x2 x3 x4 x5 k0) k0
def p254 (F272:zd3) (L3:M1):zd9:=fun R a0 a1 k=>
F272 R a1 fun y1 y2=>
let v3:=(y1.length:Int);L3 R y2 y1 v3 (0:Int) a0 (fun x4 x5=>
k x4 x5)
theorem q254 (F272:zd3) (F273:zd2) (L3:M1):EQ (zzh (p254 F272 L3)) (e254 F272 F273 L3) Tryz.f254 [(.tmp 4,93,false)]:=fun _ _ _=>by kernel_rfl
def F254:zd9:=p254 F272 (Q7 FUEL)
theorem zw6:LKP (za3 (Q7 FUEL)) 1 33 3 Tryz.f254:=ST.lok (q254_3 F272 F273 (Q7 FUEL)) (Aa ok272 (Aa ok273 Ab)) [] trivial
theorem ok254:OKP (zzh F254):=ST.ok1 (q254 F272 F273 (Q7 FUEL)) (Aa ok272 (Aa ok273 Ab)) Tryz.func254 [3] ⟨⟨_,rfl,zw6⟩,trivial⟩
abbrev zea:=(R:Type)→Tq34→LI→(Tq34→Option R)→Option R
def en251 (F:zea):Ent:=eM 251 [(true,Kq34),(false,(.sl (.int .u8)))] [] F
def p251 (F254:zd9) (F270:FT270):zea:=fun R a0 a1 k=>
let v1:=(a1.length:Int);let v2:=IntKind.u64.wrap v1;let v3:=IntKind.u64.wrap (a0.1.2.2.1+v2);F270 R a0.1.2.1 fun y4=>
(match (decide (y4.length+a1.length≤140737488355328)) with
|true=>let v5:=y4++a1;F254 R ((a0.1.1,a0.1.2.1,v3,a0.1.2.2.2),a0.2) v5 fun y6 p7=>
k ((p7.1.1,y6,p7.1.2.2),p7.2)
|false=>none)
theorem q251 (F254:zd9) (F270:FT270):EQ (en251 (p251 F254 F270)) (sE 1 30 [] [zzh F254,en270 F270] []) Tryz.f251 []:=fun _ _ _=>by kernel_rfl
def F251:zea:=p251 F254 F270
theorem ok251:OKP (en251 F251):=ST.ok0 (q251 F254 F270) (Aa ok254 (Aa ok270 Ab)) Tryz.func251
abbrev zq6:=(R:Type)→Tq33→(List LI)→(Tq33→Int→Option R)→Option R
def en225 (F:zq6):Ent:=eV 225 [Kq33,(.sl (.sl (.int .u8)))] [Kq33,(.int .i64)] F
abbrev zt9 (Z:Type):=(List LI)→Int→Int→Tq33→Tq34→Z
abbrev E225_5 (R:Type):=(Int→Tq33→Option R)→(Tq33→Tq34→Option R)→Option R
abbrev M8:=(R:Type)→zt9 (E225_5 R)
def zba (L:M8):LEnt:=lM 5 [.fix 4 (.ptr 1 [] Kq33),.fix 6 (.ptr 2 [] Kq34),.val 15 (.sl (.sl (.int .u8))),.val 16 (.int .i64),.val 17 (.int .i64),.var 1 Kq33 false,.var 2 Kq34 false] 3 [(.ret,[.fix 4 (.ptr 1 [] Kq33),.val 5 (.int .i64),.var 1 Kq33 false]),(.exit 0,[.fix 4 (.ptr 1 [] Kq33),.fix 6 (.ptr 2 [] Kq34),.var 1 Kq33 false,.var 2 Kq34 false])] L
def e225 (F250:zeb) (F251:zea) (L5:M8):=sE 0 31 [] [en250 F250,en251 F251] [zba L5]
def zgh (F251:zea) (R:Type):zt9 (zt9 (Option R)→E225_5 R):=fun x1 x2 x3 x4 x5 kc k0 k1=>
let v6:=decide (x3<x2);(match v6 with
|true=>(match bnd x3 x1.length with
|true=>let v7:=x1.getD x3.toNat [];F251 R x5 v7 fun p8=>
let v9:=decide (p8.1.2.2.1≥2305843009213693952);(match v9 with
|true=>k0 (11:Int) ((List.replicate 8 (0:Int)),([]:LI),(0:Int),())
|false=>let v10:=IntKind.i64.wrap (x3+1);kc x1 x2 v10 x4 p8)
|false=>none)
|false=>k1 x4 x5)
theorem q225_5 (F250:zeb) (F251:zea) (L5:M8):LEQ (zba L5) (e225 F250 F251 L5) Tryz.f225 (zgh F251):=fun _ _ _ _=>by kernel_rfl
def Ou:Nat→M8
 | 0=>fun _ _ _ _ _ _ _ _=>none
 | n+1=>fun R x1 x2 x3 x4 x5 k0 k1=>zgh F251 R x1 x2 x3 x4 x5 (fun x1 x2 x3 x4 x5=>Ou n R x1 x2 x3 x4 x5 k0 k1) k0 k1
def p225 (F250:zeb) (L5:M8):zq6:=fun R a0 a1 k=>
F250 R a0 fun y1=>
(match (!y1) with
|true=>k ((List.replicate 8 (0:Int)),([]:LI),(0:Int),()) (1:Int)
|false=>let v2:=(a1.length:Int);L5 R a1 v2 (0:Int) ((List.replicate 8 (0:Int)),([]:LI),(0:Int),()) (a0,()) (fun x3 x4=>
k x4 x3) (fun x5 x6=>
k x6.1 (0:Int)))
theorem q225 (F250:zeb) (F251:zea) (L5:M8):EQ (en225 (p225 F250 L5)) (e225 F250 F251 L5) Tryz.f225 [(.cell 4 258,258,false),(.tmp 5,35,false)]:=fun _ _ _=>by kernel_rfl
def F225:zq6:=p225 F250 (Ou FUEL)
theorem zxd:LKP (zba (Ou FUEL)) 0 31 5 Tryz.f225:=ST.lok (q225_5 F250 F251 (Ou FUEL)) (Aa ok250 (Aa ok251 Ab)) [] trivial
theorem ok225:OKP (en225 F225):=ST.ok1 (q225 F250 F251 (Ou FUEL)) (Aa ok250 (Aa ok251 Ab)) Tryz.func225 [5] ⟨⟨_,rfl,zxd⟩,trivial⟩
abbrev zqt:=(R:Type)→Int→(Int→Option R)→Option R
def en271 (F:zqt):Ent:=eV 271 [(.int .u64)] [(.int .u64)] F
def p271:zqt:=fun R a0 k=>
let v1:=decide (a0≥2305843009213693952);(match v1 with
|true=>k (0:Int)
|false=>let v2:=IntKind.u64.wrap (a0+8);let v3:=IntKind.u64.wrap (v2+64);let v4:=IntKind.u64.wrap (Int.tdiv v3 (64:Int));k v4)
theorem q271:EQ (en271 p271) (sE 0 9 [] [] []) Tryz.f271 [(.tmp 2,28,false)]:=fun _ _ _=>by kernel_rfl
def F271:zqt:=p271
theorem ok271:OKP (en271 F271):=ST.ok0 q271 Ab Tryz.func271
abbrev Lo:=(R:Type)→Int→(LI→Option R)→Option R
def zcn (F:Lo):Ent:=eV 203 [(.int .u64)] [(.arr 8 (.int .u8))] F
abbrev zue (Z:Type):=Int→Int→LI→Z
abbrev E203_2 (R:Type):=(LI→Option R)→Option R
abbrev Nd:=(R:Type)→zue (E203_2 R)
def zbf (L:Nd):LEnt:=lM 2 [.val 0 (.int .u64),.fix 2 (.ptr 0 [] (.arr 8 (.int .u8))),.val 4 (.int .i64),.var 0 (.arr 8 (.int .u8)) false] 1 [(.exit 0,[.fix 2 (.ptr 0 [] (.arr 8 (.int .u8))),.var 0 (.arr 8 (.int .u8)) false])] L
def e203 (L2:Nd):=sE 0 18 [] [] [zbf L2]
def zle (R:Type):zue (zue (Option R)→E203_2 R):=fun x1 x2 x3 kc k0=>
let v4:=decide (x2<8);(match v4 with
|true=>let v5:=IntKind.i64.wrap ((7:Int) - x2);let v6:=IntKind.i64.wrap ((8:Int)*v5);let v7:=IntKind.u64.wrap v6;(match (decide (0≤v7)) with
|true=>let v8:=ishr .u64 x1 v7;let v9:=IntKind.u8.wrap v8;(match (bnd x2 (8:Int)) with
|true=>let v10:=x3.set x2.toNat v9;let v11:=IntKind.i64.wrap (x2+1);kc x1 v11 v10
|false=>none)
|false=>none)
|false=>k0 x3)
theorem q203_2 (L2:Nd):LEQ (zbf L2) (e203 L2) Tryz.f203 zle:=fun _ _ _ _=>by kernel_rfl
def Re:Nat→Nd
 | 0=>fun _ _ _ _ _=>none
 | n+1=>fun R x1 x2 x3 k0=>zle R x1 x2 x3 (fun x1 x2 x3=>Re n R x1 x2 x3 k0) k0
def p203 (L2:Nd):Lo:=fun R a0 k=>
L2 R a0 (0:Int) (List.replicate 8 (0:Int)) (fun x1=>
k x1)
theorem q203 (L2:Nd):EQ (zcn (p203 L2)) (e203 L2) Tryz.f203 [(.cell 2 95,95,false)]:=fun _ _ _=>by kernel_rfl
def F203:Lo:=p203 (Re FUEL)
theorem zxi:LKP (zbf (Re FUEL)) 0 18 2 Tryz.f203:=ST.lok (q203_2 (Re FUEL)) Ab [] trivial
theorem zme:OKP (zcn F203):=ST.ok1 (q203 (Re FUEL)) Ab Tryz.func203 [2] ⟨⟨_,rfl,zxi⟩,trivial⟩
abbrev zqz:=(R:Type)→LI→Int→(LI→Bool→Option R)→Option R
def en253 (F:zqz):Ent:=eV 253 [(.sl (.int .u8)),(.int .u64)] [(.sl (.int .u8)),.bool] F
def p253 (F203:Lo) (F271:zqt):zqz:=fun R a0 a1 k=>
let v1:=decide (a1≥2305843009213693952);(match v1 with
|true=>k ([]:LI) false
|false=>let v2:=(a0.length:Int);let v3:=IntKind.u64.wrap v2;let v4:=Int.tmod a1 (64:Int);let v5:=v3 !=v4;(match v5 with
|true=>k ([]:LI) false
|false=>F271 R a1 fun y6=>
let v7:=IntKind.u64.wrap (Int.tdiv a1 (64:Int));let v8:=IntKind.u64.wrap (y6 - v7);let v9:=IntKind.i64.wrap v8;let v10:=IntKind.i64.wrap (v9*64);(match (decide (0≤v10∧v10≤v10∧v10≤140737488355328)) with
|true=>let v11:=List.replicate v10.toNat (0:Int);let v12:=lay v11 0 (List.take (v11.length) a0);let v13:=(a0.length:Int);(match bnd v13 v12.length with
|true=>let v14:=v12.set v13.toNat (128:Int);let v15:=ishl .u64 a1 (3:Int);F203 R v15 fun y16=>
let v17:=IntKind.i64.wrap (v10 - 8);(match (decide (0≤v17∧v17≤(v14.length:Int)∧(v14.length:Int)≤(v14.length:Int)∧(v14.length:Int)≤(v14.length:Int))) with
|true=>let v18:=lay v14 v17.toNat (List.take (Int.toNat ((v14.length:Int) - v17)) (List.take 8 (List.drop 0 y16)));k v18 true
|false=>none)
|false=>none)
|false=>none)))
theorem q253 (F203:Lo) (F271:zqt):EQ (en253 (p253 F203 F271)) (sE 0 45 [] [zcn F203,en271 F271] []) Tryz.f253 [(.tmp 4,93,false),(.tmp 5,4,false)]:=fun _ _ _=>by kernel_rfl
def F253:zqz:=p253 F203 F271
theorem ok253:OKP (en253 F253):=ST.ok0 (q253 F203 F271) (Aa zme (Aa ok271 Ab)) Tryz.func253
abbrev Pd:=(R:Type)→Int→(LI→Option R)→Option R
def zod (F:Pd):Ent:=eV 242 [(.int .u32)] [(.arr 4 (.int .u8))] F
def p242:Pd:=fun R a0 k=>
let v1:=ishr .u32 a0 (24:Int);let v2:=IntKind.u8.wrap v1;let v3:=ishr .u32 a0 (16:Int);let v4:=IntKind.u8.wrap v3;let v5:=ishr .u32 a0 (8:Int);let v6:=IntKind.u8.wrap v5;let v7:=IntKind.u8.wrap a0;let v8:=List.set (List.set (List.set (List.set (List.replicate 4 (0:Int)) 0 v2) 1 v4) 2 v6) 3 v7;k v8
theorem q242:EQ (zod p242) (sE 0 15 [] [] []) Tryz.f242 [(.cell 2 188,188,false)]:=fun _ _ _=>by kernel_rfl
def F242:Pd:=p242
theorem zwc:OKP (zod F242):=ST.ok0 q242 Ab Tryz.func242
abbrev zqy:=(R:Type)→Tq34→(LI→Tq34→Option R)→Option R
def en255 (F:zqy):Ent:=eM 255 [(true,Kq34)] [(false,(.arr 32 (.int .u8)))] F
abbrev zt1 (Z:Type):=LI→Int→Tq34→LI→Z
abbrev E255_2 (R:Type):=(Tq34→LI→Option R)→Option R
abbrev M0:=(R:Type)→zt1 (E255_2 R)
def za2 (L:M0):LEnt:=lM 2 [.fix 2 (.ptr 1 [] (.arr 32 (.int .u8))),.val 10 (.arr 8 (.int .u32)),.val 11 (.int .i64),.var 0 Kq34 false,.var 1 (.arr 32 (.int .u8)) false] 2 [(.exit 0,[.fix 2 (.ptr 1 [] (.arr 32 (.int .u8))),.var 0 Kq34 false,.var 1 (.arr 32 (.int .u8)) false])] L
def e255 (F242:Pd) (L2:M0):=sE 1 24 [] [zod F242] [za2 L2]
def zk4 (F242:Pd) (R:Type):zt1 (zt1 (Option R)→E255_2 R):=fun x1 x2 x3 x4 kc k0=>
let v5:=decide (x2<8);(match v5 with
|true=>(match (bnd x2 (8:Int)) with
|true=>let v6:=x1.getD x2.toNat 0;F242 R v6 fun y7=>
let v8:=IntKind.i64.wrap ((4:Int)*x2);(match (decide (0≤v8∧v8≤(32:Int)∧(32:Int)≤(32:Int))) with
|true=>let v9:=lay x4 v8.toNat (List.take (Int.toNat ((32:Int) - v8)) (List.take 4 (List.drop 0 y7)));let v10:=IntKind.i64.wrap (x2+1);kc x1 v10 x3 v9
|false=>none)
|false=>none)
|false=>k0 x3 x4)
theorem q255_2 (F242:Pd) (L2:M0):LEQ (za2 L2) (e255 F242 L2) Tryz.f255 (zk4 F242):=fun _ _ _ _=>by kernel_rfl
def Q6:Nat→M0
 | 0=>fun _ _ _ _ _ _=>none
 | n+1=>fun R x1 x2 x3 x4 k0=>zk4 F242 R x1 x2 x3 x4 (fun x1 x2 x3 x4=>Q6 n R x1 x2 x3 x4 k0) k0
def p255 (L2:M0):zqy:=fun R a0 k=>
L2 R a0.1.1 (0:Int) a0 (List.replicate 32 (0:Int)) (fun x1 x2=>
k x2 x1)
theorem q255 (F242:Pd) (L2:M0):EQ (en255 (p255 L2)) (e255 F242 L2) Tryz.f255 [(.cell 2 25,25,false)]:=fun _ _ _=>by kernel_rfl
def F255:zqy:=p255 (Q6 FUEL)
theorem zw5:LKP (za2 (Q6 FUEL)) 1 24 2 Tryz.f255:=ST.lok (q255_2 F242 (Q6 FUEL)) (Aa zwc Ab) [] trivial
theorem ok255:OKP (en255 F255):=ST.ok1 (q255 F242 (Q6 FUEL)) (Aa zwc Ab) Tryz.func255 [2] ⟨⟨_,rfl,zw5⟩,trivial⟩
abbrev zq4:=(R:Type)→Tq33→(LI→Int→Option R)→Option R
def en227 (F:zq4):Ent:=eV 227 [Kq33] [(.arr 32 (.int .u8)),(.int .i64)] F
def p227 (F253:zqz) (F254:zd9) (F255:zqy):zq4:=fun R a0 k=>
F253 R a0.2.1 a0.2.2.1 fun y1 y2=>
(match (!y2) with
|true=>let v3:=List.replicate 32 (0:Int);k v3 (1:Int)
|false=>F254 R (a0,()) y1 fun y4 p5=>
F255 R p5 fun y6 p7=>
k y6 (0:Int))
theorem q227 (F253:zqz) (F254:zd9) (F255:zqy):EQ (en227 (p227 F253 F254 F255)) (sE 0 23 [] [en253 F253,zzh F254,en255 F255] []) Tryz.f227 [(.cell 2 25,25,false),(.tmp 3,35,false)]:=fun _ _ _=>by kernel_rfl
def F227:zq4:=p227 F253 F254 F255
theorem ok227:OKP (en227 F227):=ST.ok0 (q227 F253 F254 F255) (Aa ok253 (Aa ok254 (Aa ok255 Ab))) Tryz.func227
abbrev Vx:=(R:Type)→(List LI)→(LI→Option R)→Option R
def zoe (F:Vx):Ent:=eV 189 [(.sl (.sl (.int .u8)))] [(.arr 32 (.int .u8))] F
def p189 (F225:zq6) (F226:zq5) (F227:zq4):Vx:=fun R a0 k=>
F226 R  fun y1=>
F225 R y1 a0 fun y2 y3=>
F227 R y2 fun y4 y5=>
k y4
theorem q189 (F225:zq6) (F226:zq5) (F227:zq4):EQ (zoe (p189 F225 F226 F227)) (sE 0 19 [] [en225 F225,en226 F226,en227 F227] []) Tryz.f189 [(.cell 2 25,25,false)]:=fun _ _ _=>by kernel_rfl
def F189:Vx:=p189 F225 F226 F227
theorem ok189:OKP (zoe F189):=ST.ok0 (q189 F225 F226 F227) (Aa ok225 (Aa ok226 (Aa ok227 Ab))) Tryz.func189
abbrev zeu:=(R:Type)→LI→(LI→Option R)→Option R
def zzs (F:zeu):Ent:=eV 152 [(.arr 32 (.int .u8))] [(.arr 32 (.int .u8))] F
def p152 (F189:Vx):zeu:=fun R a0 k=>
let v1:=([(List.take 32 (List.drop 0 a0))]:(List LI));F189 R v1 fun y2=>
k y2
theorem q152 (F189:Vx):EQ (zzs (p152 F189)) (sE 0 6 [] [zoe F189] []) Tryz.f152 [(.cell 2 25,25,false)]:=fun _ _ _=>by kernel_rfl
def F152:zeu:=p152 F189
theorem ok152:OKP (zzs F152):=ST.ok0 (q152 F189) (Aa ok189 Ab) Tryz.func152
abbrev zen:=(R:Type)→Tq3→(Bool→Option R)→Option R
def en182 (F:zen):Ent:=eV 182 [Kq3] [.bool] F
def p182 (F152:zeu):zen:=fun R a0 k=>
(match a0.2.2.1 with
|true=>let v1:=decide (a0.1≥0);(match v1 with
|true=>F152 R a0.2.2.2.1 fun y2=>
let v3:=Kd.eqv (.arr 32 (.int .u8)) y2 a0.2.1;k v3
|false=>k false)
|false=>let v4:=decide (a0.1≥0);(match v4 with
|true=>let v5:=List.replicate 32 (0:Int);let v6:=Kd.eqv (.arr 32 (.int .u8)) a0.2.2.2.1 v5;k v6
|false=>k false))
theorem q182 (F152:zeu):EQ (en182 (p182 F152)) (sE 0 25 [] [zzs F152] []) Tryz.f182 [(.tmp 2,4,false)]:=fun _ _ _=>by kernel_rfl
def F182:zen:=p182 F152
theorem ok182:OKP (en182 F182):=ST.ok0 (q182 F152) (Aa ok152 Ab) Tryz.func182
abbrev Si:=(R:Type)→(List Tq3)→(Bool→Option R)→Option R
def zoi (F:Si):Ent:=eV 147 [(.sl Kq3)] [.bool] F
abbrev zuv (Z:Type):=(List Tq3)→(List Tq3)→Int→Int→Z
abbrev E147_2 (R:Type):=(Bool→Option R)→(Option R)→Option R
abbrev No:=(R:Type)→zuv (E147_2 R)
def zbw (L:No):LEnt:=lM 2 [.val 0 (.sl Kq3),.val 5 (.sl Kq3),.val 6 (.int .i64),.val 7 (.int .i64)] 0 [(.ret,[.val 2 .bool]),(.exit 0,[])] L
def e147 (F182:zen) (L2:No):=sE 0 31 [] [en182 F182] [zbw L2]
def zls (F182:zen) (R:Type):zuv (zuv (Option R)→E147_2 R):=fun x1 x2 x3 x4 kc k0 k1=>
let v5:=decide (x4<x3);(match v5 with
|true=>(match bnd x4 x2.length with
|true=>let v6:=x2.getD x4.toNat (0,(List.replicate 32 0),false,(List.replicate 32 0),());F182 R v6 fun y7=>
(match (!y7) with
|true=>k0 false
|false=>let v8:=decide (x4>0);(match v8 with
|true=>let v9:=IntKind.i64.wrap (x4 - 1);(match bnd v9 x1.length with
|true=>let v10:=(x1.getD v9.toNat (0,(List.replicate 32 0),false,(List.replicate 32 0),())).1;let v11:=decide (v10≥v6.1);(match v11 with
|true=>k0 false
|false=>let v12:=IntKind.i64.wrap (x4+1);kc x1 x2 x3 v12)
|false=>none)
|false=>let v13:=IntKind.i64.wrap (x4+1);kc x1 x2 x3 v13))
|false=>none)
|false=>k1)
theorem q147_2 (F182:zen) (L2:No):LEQ (zbw L2) (e147 F182 L2) Tryz.f147 (zls F182):=fun _ _ _ _=>by kernel_rfl
def Rm:Nat→No
 | 0=>fun _ _ _ _ _ _ _=>none
 | n+1=>fun R x1 x2 x3 x4 k0 k1=>zls F182 R x1 x2 x3 x4 (fun x1 x2 x3 x4=>Rm n R x1 x2 x3 x4 k0 k1) k0 k1
def p147 (L2:No):Si:=fun R a0 k=>
let v1:=(a0.length:Int);L2 R a0 a0 v1 (0:Int) (fun x2=>
k x2) (k true)
theorem q147 (F182:zen) (L2:No):EQ (zoi (p147 L2)) (e147 F182 L2) Tryz.f147 [(.tmp 2,4,false)]:=fun _ _ _=>by kernel_rfl
def F147:Si:=p147 (Rm FUEL)
theorem zxz:LKP (zbw (Rm FUEL)) 0 31 2 Tryz.f147:=ST.lok (q147_2 F182 (Rm FUEL)) (Aa ok182 Ab) [] trivial
theorem ok147:OKP (zoi F147):=ST.ok1 (q147 F182 (Rm FUEL)) (Aa ok182 Ab) Tryz.func147 [2] ⟨⟨_,rfl,zxz⟩,trivial⟩
abbrev zem:=(R:Type)→(List LI)→(LI→Option R)→Option R
def en188 (F:zem):Ent:=eV 188 [(.sl (.arr 32 (.int .u8)))] [(.arr 32 (.int .u8))] F
abbrev zuk (Z:Type):=(List LI)→Int→Int→LI→Z
abbrev E188_2 (R:Type):=(LI→Option R)→Option R
abbrev J7:=(R:Type)→zuk (E188_2 R)
def zbl (L:J7):LEnt:=lM 2 [.fix 2 (.ptr 0 [] (.arr 32 (.int .u8))),.val 7 (.sl (.arr 32 (.int .u8))),.val 8 (.int .i64),.val 9 (.int .i64),.var 0 (.arr 32 (.int .u8)) false] 1 [(.exit 0,[.fix 2 (.ptr 0 [] (.arr 32 (.int .u8))),.var 0 (.arr 32 (.int .u8)) false])] L
abbrev zuj (Z:Type):=(List LI)→Int→Int→LI→Int→LI→Z
abbrev E188_5 (R:Type):=((List LI)→Int→Int→LI→Option R)→Option R
abbrev J6:=(R:Type)→zuj (E188_5 R)
def zbk (L:J6):LEnt:=lM 5 [.fix 2 (.ptr 0 [] (.arr 32 (.int .u8))),.val 7 (.sl (.arr 32 (.int .u8))),.val 8 (.int .i64),.val 9 (.int .i64),.val 13 (.arr 32 (.int .u8)),.val 14 (.int .i64),.var 0 (.arr 32 (.int .u8)) false] 1 [(.exit 2,[.fix 2 (.ptr 0 [] (.arr 32 (.int .u8))),.val 7 (.sl (.arr 32 (.int .u8))),.val 8 (.int .i64),.val 9 (.int .i64),.var 0 (.arr 32 (.int .u8)) false])] L
def e188 (L2:J7) (L5:J6):=sE 0 27 [] [] [zbl L2,zbk L5]
def zgk (R:Type):zuj (zuj (Option R)→E188_5 R):=fun x1 x2 x3 x4 x5 x6 kc k0=>
let v7:=decide (x5<32);(match v7 with
|true=>(match (bnd x5 (32:Int)) with
|true=>let v8:=x4.getD x5.toNat 0;(match (bnd x5 (32:Int)) with
|true=>let v9:=x6.getD x5.toNat 0;let v10:=ixor .u8 v9 v8;(match (bnd x5 (32:Int)) with
|true=>let v11:=x6.set x5.toNat v10;let v12:=IntKind.i64.wrap (x5+1);kc x1 x2 x3 x4 v12 v11
|false=>none)
|false=>none)
|false=>none)
|false=>k0 x1 x2 x3 x6)
theorem q188_5 (L2:J7) (L5:J6):LEQ (zbk L5) (e188 L2 L5) Tryz.f188 zgk:=fun _ _ _ _=>by kernel_rfl
def Lf:Nat→J6
 | 0=>fun _ _ _ _ _ _ _ _=>none
 | n+1=>fun R x1 x2 x3 x4 x5 x6 k0=>zgk R x1 x2 x3 x4 x5 x6 (fun x1 x2 x3 x4 x5 x6=>Lf n R x1 x2 x3 x4 x5 x6 k0) k0
def zli (L5:J6) (R:Type):zuk (zuk (Option R)→E188_2 R):=fun x1 x2 x3 x4 kc k0=>
let v5:=decide (x3<x2);(match v5 with
|true=>(match bnd x3 x1.length with
|true=>let v6:=x1.getD x3.toNat (List.replicate 32 0);L5 R x1 x2 x3 v6 (0:Int) x4 (fun x7 x8 x9 x10=>
let v11:=IntKind.i64.wrap (x9+1);kc x7 x8 v11 x10)
|false=>none)
|false=>k0 x4)
theorem q188_2 (L2:J7) (L5:J6):LEQ (zbl L2) (e188 L2 L5) Tryz.f188 (zli L5):=fun _ _ _ _=>by kernel_rfl
def Ox:Nat→J7
 | 0=>fun _ _ _ _ _ _=>none
 | n+1=>fun R x1 x2 x3 x4 k0=>zli (Lf FUEL) R x1 x2 x3 x4 (fun x1 x2 x3 x4=>Ox n R x1 x2 x3 x4 k0) k0
def p188 (L2:J7):zem:=fun R a0 k=>
let v1:=(a0.length:Int);L2 R a0 v1 (0:Int) (List.replicate 32 (0:Int)) (fun x2=>
k x2)
theorem q188 (L2:J7) (L5:J6):EQ (en188 (p188 L2)) (e188 L2 L5) Tryz.f188 [(.cell 2 25,25,false)]:=fun _ _ _=>by kernel_rfl
def F188:zem:=p188 (Ox FUEL)
theorem zxn:LKP (zbk (Lf FUEL)) 0 27 5 Tryz.f188:=ST.lok (q188_5 (Ox FUEL) (Lf FUEL)) Ab [] trivial
theorem zxo:LKP (zbl (Ox FUEL)) 0 27 2 Tryz.f188:=ST.lok (q188_2 (Ox FUEL) (Lf FUEL)) Ab [5] ⟨⟨_,rfl,zxn⟩,trivial⟩
theorem ok188:OKP (en188 F188):=ST.ok1 (q188 (Ox FUEL) (Lf FUEL)) Ab Tryz.func188 [2] ⟨⟨_,rfl,zxo⟩,trivial⟩
abbrev zev:=(R:Type)→(List Tq3)→(LI→Option R)→Option R
def zzt (F:zev):Ent:=eV 151 [(.sl Kq3)] [(.arr 32 (.int .u8))] F
abbrev zuu (Z:Type):=(List Tq3)→Int→Int→LI→Z
abbrev E151_2 (R:Type):=(LI→Option R)→Option R
abbrev Nn:=(R:Type)→zuu (E151_2 R)
def zbv (L:Nn):LEnt:=lM 2 [.fix 2 (.ptr 0 [] (.arr 32 (.int .u8))),.val 5 (.sl Kq3),.val 6 (.int .i64),.val 7 (.int .i64),.var 0 (.arr 32 (.int .u8)) false] 1 [(.exit 0,[.fix 2 (.ptr 0 [] (.arr 32 (.int .u8))),.var 0 (.arr 32 (.int .u8)) false])] L
def e151 (F188:zem) (L2:Nn):=sE 0 20 [] [en188 F188] [zbv L2]
def zlr (F188:zem) (R:Type):zuu (zuu (Option R)→E151_2 R):=fun x1 x2 x3 x4 kc k0=>
let v5:=decide (x3<x2);(match v5 with
|true=>(match bnd x3 x1.length with
|true=>let v6:=x1.getD x3.toNat (0,(List.replicate 32 0),false,(List.replicate 32 0),());(match v6.2.2.1 with
|true=>let v7:=([x4,v6.2.2.2.1]:(List LI));F188 R v7 fun y8=>
let v9:=IntKind.i64.wrap (x3+1);kc x1 x2 v9 y8
|false=>let v10:=IntKind.i64.wrap (x3+1);kc x1 x2 v10 x4)
|false=>none)
|false=>k0 x4)
theorem q151_2 (F188:zem) (L2:Nn):LEQ (zbv L2) (e151 F188 L2) Tryz.f151 (zlr F188):=fun _ _ _ _=>by kernel_rfl
def Rl:Nat→Nn
 | 0=>fun _ _ _ _ _ _=>none
 | n+1=>fun R x1 x2 x3 x4 k0=>zlr F188 R x1 x2 x3 x4 (fun x1 x2 x3 x4=>Rl n R x1 x2 x3 x4 k0) k0
def p151 (L2:Nn):zev:=fun R a0 k=>
let v1:=(a0.length:Int);L2 R a0 v1 (0:Int) (List.replicate 32 (0:Int)) (fun x2=>
k x2)
theorem q151 (F188:zem) (L2:Nn):EQ (zzt (p151 L2)) (e151 F188 L2) Tryz.f151 [(.cell 2 25,25,false)]:=fun _ _ _=>by kernel_rfl
def F151:zev:=p151 (Rl FUEL)
theorem zxy:LKP (zbv (Rl FUEL)) 0 20 2 Tryz.f151:=ST.lok (q151_2 F188 (Rl FUEL)) (Aa ok188 Ab) [] trivial
theorem ok151:OKP (zzt F151):=ST.ok1 (q151 F188 (Rl FUEL)) (Aa ok188 Ab) Tryz.func151 [2] ⟨⟨_,rfl,zxy⟩,trivial⟩
abbrev zex:=(R:Type)→Tq24→(Bool→Option R)→Option R
def zzv (F:zex):Ent:=eV 146 [Kq24] [.bool] F
def p146 (F147:Si) (F151:zev):zex:=fun R a0 k=>
F147 R a0.2.2.2.1 fun y1=>
(match y1 with
|true=>F151 R a0.2.2.2.1 fun y2=>
let v3:=Kd.eqv (.arr 32 (.int .u8)) y2 a0.2.2.1;k v3
|false=>k false)
theorem q146 (F147:Si) (F151:zev):EQ (zzv (p146 F147 F151)) (sE 0 14 [] [zoi F147,zzt F151] []) Tryz.f146 [(.tmp 2,4,false)]:=fun _ _ _=>by kernel_rfl
def F146:zex:=p146 F147 F151
theorem ok146:OKP (zzv F146):=ST.ok0 (q146 F147 F151) (Aa ok147 (Aa ok151 Ab)) Tryz.func146
abbrev ze7:=(R:Type)→Tq24→Int→Int→(Int→Option R)→Option R
def zz4 (F:ze7):Ent:=eV 102 [Kq24,(.int .i64),(.int .i64)] [(.int .i64)] F
def p102 (F146:zex):ze7:=fun R a0 a1 a2 k=>
F146 R a0 fun y1=>
(match (!y1) with
|true=>k (1:Int)
|false=>let v2:=a1 !=a2;(match v2 with
|true=>k (7:Int)
|false=>k (0:Int)))
theorem q102 (F146:zex):EQ (zz4 (p102 F146)) (sE 0 15 [] [zzv F146] []) Tryz.f102 [(.tmp 6,35,false)]:=fun _ _ _=>by kernel_rfl
def F102:ze7:=p102 F146
theorem ok102:OKP (zz4 F102):=ST.ok0 (q102 F146) (Aa ok146 Ab) Tryz.func102
abbrev zq7:=(R:Type)→Int→(Bool→Option R)→Option R
def en223 (F:zq7):Ent:=eV 223 [(.int .i64)] [.bool] F
def p223:zq7:=fun R a0 k=>
let v1:=a0 !=a0;k v1
theorem q223:EQ (en223 p223) (sE 0 6 [] [] []) Tryz.f223 [(.tmp 2,4,false)]:=fun _ _ _=>by kernel_rfl
def F223:zq7:=p223
theorem ok223:OKP (en223 F223):=ST.ok0 q223 Ab Tryz.func223
abbrev zrl:=(R:Type)→Int→Int→(Int→Option R)→Option R
def en185 (F:zrl):Ent:=eV 185 [(.int .i64),(.int .i64)] [(.int .i64)] F
def p185 (F223:zq7):zrl:=fun R a0 a1 k=>
F223 R a0 fun y1=>
F223 R a1 fun y2=>
(match y1 with
|true=>(match y2 with
|true=>k (0:Int)
|false=>k (-1:Int))
|false=>(match y2 with
|true=>k (1:Int)
|false=>let v3:=decide (a0<a1);(match v3 with
|true=>k (-1:Int)
|false=>let v4:=decide (a0>a1);(match v4 with
|true=>k (1:Int)
|false=>k (0:Int)))))
theorem q185 (F223:zq7):EQ (en185 (p185 F223)) (sE 0 20 [] [en223 F223] []) Tryz.f185 [(.tmp 4,3,false)]:=fun _ _ _=>by kernel_rfl
def F185:zrl:=p185 F223
theorem ok185:OKP (en185 F185):=ST.ok0 (q185 F223) (Aa ok223 Ab) Tryz.func185
abbrev Zf:=(R:Type)→Tq3→Int→(Int→Option R)→Option R
def en184 (F:Zf):Ent:=eV 184 [Kq3,(.int .i64)] [(.int .i64)] F
def p184 (F185:zrl):Zf:=fun R a0 a1 k=>
F185 R a0.1 a1 fun y1=>
k y1
theorem q184 (F185:zrl):EQ (en184 (p184 F185)) (sE 0 9 [] [en185 F185] []) Tryz.f184 [(.tmp 4,3,false)]:=fun _ _ _=>by kernel_rfl
def F184:Zf:=p184 F185
theorem ok184:OKP (en184 F184):=ST.ok0 (q184 F185) (Aa ok185 Ab) Tryz.func184
abbrev Hj:Type 1:=(R:Type)→(List Tq3)→Int→(Int→Bool→Option R)→Option R
def F2 (F:Hj):EntF:=⟨183,184,[(false,(.sl Kq3)),(false,(.int .i64))],[(false,(.int .i64)),(false,.bool)],fun R x k=>F R x.1 x.2.1 (fun y1 y2=>k (y1,y2,()) ())⟩
def W3:List (ResultVar×TypeId×Bool):=[(.tmp 6,3,false),(.tmp 7,4,false)]
abbrev E3:Type 1:=(R:Type)→(List Tq3)→Int→Int→Int→Int→((List Tq3)→Int→Int→Int→Option R)→Option R
def Bo (L:E3):LEnt:=⟨3,[.val 0 (.sl Kq3),.val 1 (.int .i64),.fix 2 (.fn 184),.val 8 (.int .i64),.val 9 (.int .i64),.val 10 (.int .i64)],0,[(.exit 0,[.val 0 (.sl Kq3),.val 1 (.int .i64),.fix 2 (.fn 184),.val 8 (.int .i64),.val 9 (.int .i64)])],fun R x ke=>L R x.1 x.2.1 x.2.2.1 x.2.2.2.1 x.2.2.2.2.1 (fun y1 y2 y3 y4=>ke.1 (y1,y2,y3,y4,()))⟩
def Qj (F184:Zf) (L3:E3) (R:Type):Env R:=⟨TT,EQT,0,49,Bu [],Bc [en184 F184] R,Bm [Bo L3] R,[],Be [],[]⟩
def Kx (F184:Zf):(R:Type)→(List Tq3)→Int→Int→Int→Int→((List Tq3)→Int→Int→Int→Int→Option R)→((List Tq3)→Int→Int→Int→Option R)→Option R:=fun R x1 x2 x3 x4 x5 kc k0=>
let v6:=decide (x4<x5);(match v6 with
|true=>let v7:=IntKind.i64.wrap (x4+x5);let v8:=IntKind.u64.wrap v7;let v9:=ishr .u64 v8 (1:Int);let v10:=IntKind.i64.wrap v9;(match bnd v10 x1.length with
|true=>let v11:=x1.getD v10.toNat (0,(List.replicate 32 0),false,(List.replicate 32 0),());F184 R v11 x2 fun y12=>
let v13:=decide (y12<0);(match v13 with
|true=>let v14:=IntKind.i64.wrap (v10+1);kc x1 x2 x3 v14 x5
|false=>kc x1 x2 x3 x4 v10)
|false=>none)
|false=>k0 x1 x2 x3 x4)
theorem zki (F184:Zf) (L3:E3) (R:Type) (x:HT (Bo L3).H) (kc:HT (Bo L3).H→Option R) (ke:KT R (Bo L3).exs):
 exec (Qj F184 L3 R) (Cv 3 (Ah Tryz.f183)) (stOf (Bo L3).H x 0) (Od (Bo L3).H (Bo L3).exs kc ke)=
  Kx F184 R x.1 x.2.1 x.2.2.1 x.2.2.2.1 x.2.2.2.2.1 (fun x1 x2 x3 x4 x5=>kc (x1,x2,x3,x4,x5,())) (fun y1 y2 y3 y4=>ke.1 (y1,y2,y3,y4,())):=by kernel_rfl
def Bg:Nat→E3
 | 0=>fun _ _ _ _ _ _ _=>none
 | n+1=>fun R x1 x2 x3 x4 x5 k0=>Kx F184 R x1 x2 x3 x4 x5 (fun x1 x2 x3 x4 x5=>Bg n R x1 x2 x3 x4 x5 k0) k0
def Z8 (F184:Zf) (L3:E3):Hj:=fun R a0 a1 k=>
let v1:=(a0.length:Int);L3 R a0 a1 v1 (0:Int) v1 (fun x2 x3 x4 x5=>
let v6:=decide (x5<x4);(match v6 with
|true=>(match bnd x5 x2.length with
|true=>let v7:=x2.getD x5.toNat (0,(List.replicate 32 0),false,(List.replicate 32 0),());F184 R v7 x3 fun y8=>
let v9:=y8==0;k x5 v9
|false=>none)
|false=>k x5 false))
theorem q184184 (F184:Zf) (L3:E3) (F:Hj) (R:Type) (x:AT (F2 F).ins) (k:RT (F2 F).outs→PT (F2 F).ins→Option R):
 xfun (Qj F184 L3 R) (Ah Tryz.f183) W3 (avs (F2 F).ins x++[AV.fn 184]) (finK (F2 F).outs (F2 F).ins k)=Z8 F184 L3 R x.1 x.2.1 (fun y1 y2=>k (y1,y2,()) ()):=by kernel_rfl
def D3:Hj:=Z8 F184 (Bg FUEL)
theorem Xs (R:Type):A4 Tryz.prog (Qj F184 (Bg FUEL) R):=⟨tabOK,eqOK,Aq (Aa ok184 Ab),B0,Al⟩
def Im:(R:Type)→HT (Bo (Bg FUEL)).H→(HT (Bo (Bg FUEL)).H→Option R)→KT R (Bo (Bg FUEL)).exs→Option R:=fun R x kc ke=>Kx F184 R x.1 x.2.1 x.2.2.1 x.2.2.2.1 x.2.2.2.2.1 (fun x1 x2 x3 x4 x5=>kc (x1,x2,x3,x4,x5,())) (fun y1 y2 y3 y4=>ke.1 (y1,y2,y3,y4,()))
theorem ziq:∀(n:Nat) (R:Type) (x:HT (Bo (Bg FUEL)).H) (ke:KT R (Bo (Bg FUEL)).exs),iter Im n R x ke=Bg n R x.1 x.2.1 x.2.2.1 x.2.2.2.1 x.2.2.2.2.1 (fun y1 y2 y3 y4=>ke.1 (y1,y2,y3,y4,())):=by
 intro n
 induction n with
 | zero=>intro R x ke; rfl
 | succ n ih=>
  intro R x ke;show Im R x (fun x'=>iter Im n R x' ke) ke=_
  rw [show (fun x'=>iter Im n R x' ke)=fun x=>Bg n R x.1 x.2.1 x.2.2.1 x.2.2.2.1 x.2.2.2.2.1 (fun y1 y2 y3 y4=>ke.1 (y1,y2,y3,y4,())) from funext fun x'=>ih R x' ke];rfl
theorem zam:(Bo (Bg FUEL)).OK Tryz.prog 0 49 (Cv 3 (Ah Tryz.f183)):=fun R x ke r h=>
 Ez (fun R=>Qj F184 (Bg FUEL) R) 0 49 (fun _=>rfl) (fun _=>rfl) (fun R=>Xs R) mixed (by
  intro R;rw [show Ar (Cv 3 (Ah Tryz.f183))=[] from by kernel_rfl];exact Bx) (T:=Im) (fun R x kc ke=>zki F184 (Bg FUEL) R x kc ke) FUEL R x ke r ((ziq FUEL R x ke).trans h)
theorem zwh:(F2 D3).OK Tryz.prog:=
 Jx (Ef:=fun R=>Qj F184 (Bg FUEL) R) (fun R=>Xs R) mixed Tryz.func183 (body:=Ah Tryz.f183) (by kernel_rfl) (by kernel_rfl) (np:=0) (nt:=49) (fun _=>rfl) (fun _=>rfl) (by kernel_rfl) (res:=W3) (by kernel_rfl) (fun _=>rfl) (fun _=>Nat.le_of_ble_eq_true rfl) (by
  intro R;rw [show Ar (Ah Tryz.f183)=[Cv 3 (Ah Tryz.f183)] from by kernel_rfl];exact (Ag (I7 (e:=Bo (Bg FUEL)) rfl rfl zam) Bx)) (fun R x k=>q184184 F184 (Bg FUEL) D3 R x k)
abbrev Zk:=(R:Type)→(List Tq3)→Int→(Int→Bool→Option R)→Option R
def zzu (F:Zk):Ent:=eV 148 [(.sl Kq3),(.int .i64)] [(.int .i64),.bool] F
def e148 (D3:Hj) (R:Type):Env R:=⟨TT,EQT,0,11,Bu [],Ek [F2 D3] [] R,Bm [] R,[],Be [],[]⟩
def p148 (D3:Hj):Zk:=fun R a0 a1 k=>
D3 R a0 a1 fun y1 y2=>
k y1 y2
theorem q148 (D3:Hj):EQ (zzu (p148 D3)) (e148 D3) Tryz.f148 [(.tmp 4,3,false),(.tmp 5,4,false)]:=fun _ _ _=>by kernel_rfl
def F148:Zk:=p148 D3
theorem env148 (R:Type):A4 Tryz.prog (e148 D3 R):=⟨tabOK,eqOK,Cy (Ft zwh Eu) Ab,B0,Al⟩
theorem ok148:OKP (zzu F148):=ST.ok3 (q148 D3) env148 Tryz.func148 (fun _=>rfl) (fun _=>rfl) (fun _=>rfl) [] trivial
abbrev zew:Type 1:=(R:Type)→(List Tq3)→((List Tq3)→Option R)→Option R
def en150 (F:zew):Ent:=⟨150,[(false,(.sl Kq3))],[(true,Kq3)],fun R x k=>F R x.1 (fun y1=>k (y1,()) ())⟩
def e150:Env (RT [(true,Kq3)]):=⟨TT,EQT,0,8,Bu [(2,0),(3,0)],fun _ _ _=>none,fun _ _ _=>none,[],Be [],[]⟩
def F150:zew:=fun R a0 k=>match decide (List.length ([]:(List Tq3))+a0.length≤1759218604441) with | true=>k a0 | false=>none
theorem ok150:(en150 F150).OK Tryz.prog:=
 Ja (e:=Kq3) e150 ⟨tabOK,eqOK,(fun f b K r h=>by cases h),B0,Al⟩ mixed Tryz.func150 (body:=Ah Tryz.f150) (by kernel_rfl) (by kernel_rfl) (by kernel_rfl) (res:=[(.tmp 2,29,true)]) (by kernel_rfl) rfl (by decide) (by kernel_rfl) (lim:=1759218604441) (by kernel_rfl) (fun l=>by kernel_rfl)
def rho149:Go.Shelf.Ren:=⟨fun n=>match n with | 22=>149 | 29=>186 | _=>187,fun n=>match n with | 3=>3 | 4=>4 | 9=>151 | 24=>29 | _=>0,fun n=>n⟩
theorem insL149:InsL Tryz.prog rho149 Tryz.f149:=⟨mixed,Tryz.func149,⟨Tryz.f149.name,Tryz.f149.targs,Tryz.f149.params,Tryz.f149.resultTypes,Tryz.f149.file,Tryz.f149.tmpNames,by kernel_rfl⟩,Tryz.underlying3,Tryz.underlying4,Tryz.underlying29⟩
theorem ok149:Vp Tryz.prog 149 Kq3 1759218604441:=
 ins_ok (ρ:=rho149) tabOK insL149 (by kernel_rfl) (by decide) (by kernel_rfl) (by kernel_rfl) (dd:=(Hq TT 151).get (by kernel_rfl)) (by kernel_rfl) (fo:=Tryz.f186) Tryz.func186 (by kernel_rfl) (by kernel_rfl) (by kernel_rfl) (by kernel_rfl) (by kernel_rfl) (by decide)
abbrev zsc:=(R:Type)→(List Tq3)→Int→LI→((List Tq3)→Int→Option R)→Option R
def en103 (F:zsc):Ent:=eV 103 [(.sl Kq3),(.int .i64),(.arr 32 (.int .u8))] [(.sl Kq3),(.int .i64)] F
def e103 (F147:Si) (F148:Zk) (F150:zew) (R:Type):Env R:=⟨TT,EQT,0,32,Bu [(6,7)],Bc [zoi F147,zzu F148,en150 F150] R,Bm [] R,[(149,Kq3,1759218604441)],Be [],[]⟩
def p103 (F147:Si) (F148:Zk) (F150:zew):zsc:=fun R a0 a1 a2 k=>
let v1:=decide (a1<0);(match v1 with
|true=>k ([]:(List Tq3)) (1:Int)
|false=>F147 R a0 fun y2=>
(match (!y2) with
|true=>k ([]:(List Tq3)) (1:Int)
|false=>F148 R a0 a1 fun y3 y4=>
(match y4 with
|true=>k ([]:(List Tq3)) (6:Int)
|false=>F150 R a0 fun y5=>
let v6:=([(a1,a2,false,(List.replicate 32 (0:Int)),())]:(List Tq3));(match (decide (0≤y3∧y3≤(y5.length:Int)∧y5.length+v6.length≤1759218604441)) with
|true=>let v7:=List.take y3.toNat y5++v6++List.drop y3.toNat y5;k v7 (0:Int)
|false=>none))))
theorem q103 (F147:Si) (F148:Zk) (F150:zew):EQ (en103 (p103 F147 F148 F150)) (e103 F147 F148 F150) Tryz.f103 [(.tmp 6,29,false),(.tmp 7,35,false)]:=fun _ _ _=>by kernel_rfl
def F103:zsc:=p103 F147 F148 F150
theorem env103 (R:Type):A4 Tryz.prog (e103 F147 F148 F150 R):=⟨tabOK,eqOK,Aq (Aa ok147 (Aa ok148 (Aa ok150 Ab))),insOne ok149,Al⟩
theorem ok103:OKP (en103 F103):=ST.ok3 (q103 F147 F148 F150) env103 Tryz.func103 (fun _=>rfl) (fun _=>rfl) (fun _=>rfl) [] trivial
abbrev ze6:=(R:Type)→Tq24→(List Tq3)→Int→(Tq24→Int→Option R)→Option R
def zz3 (F:ze6):Ent:=eV 104 [Kq24,(.sl Kq3),(.int .i64)] [Kq24,(.int .i64)] F
def p104 (F151:zev):ze6:=fun R a0 a1 a2 k=>
let v1:=a2 !=0;(match v1 with
|true=>k ((0:Int),(List.replicate 32 (0:Int)),(List.replicate 32 (0:Int)),([]:(List Tq3)),()) a2
|false=>F151 R a1 fun y2=>
k (a0.1,a0.2.1,y2,a1,a0.2.2.2.2) (0:Int))
theorem q104 (F151:zev):EQ (zz3 (p104 F151)) (sE 0 18 [] [zzt F151] []) Tryz.f104 [(.cell 6 31,31,false),(.tmp 7,35,false)]:=fun _ _ _=>by kernel_rfl
def F104:ze6:=p104 F151
theorem ok104:OKP (zz3 F104):=ST.ok0 (q104 F151) (Aa ok151 Ab) Tryz.func104
abbrev FT56:=(R:Type)→Tq24→Int→Int→LI→(Tq24→Int→Option R)→Option R
def en56 (F:FT56):Ent:=eV 56 [Kq24,(.int .i64),(.int .i64),(.arr 32 (.int .u8))] [Kq24,(.int .i64)] F
def p56 (F102:ze7) (F103:zsc) (F104:ze6):FT56:=fun R a0 a1 a2 a3 k=>
F102 R a0 a1 (1:Int) fun y1=>
let v2:=y1 !=0;(match v2 with
|true=>k ((0:Int),(List.replicate 32 (0:Int)),(List.replicate 32 (0:Int)),([]:(List Tq3)),()) y1
|false=>F103 R a0.2.2.2.1 a2 a3 fun y3 y4=>
F104 R a0 y3 y4 fun y5 y6=>
k y5 y6)
theorem q56 (F102:ze7) (F103:zsc) (F104:ze6):EQ (en56 (p56 F102 F103 F104)) (sE 0 34 [] [zz4 F102,en103 F103,zz3 F104] []) Tryz.f56 [(.cell 8 31,31,false),(.tmp 9,35,false)]:=fun _ _ _=>by kernel_rfl
def F56:FT56:=p56 F102 F103 F104
theorem ok56:OKP (en56 F56):=ST.ok0 (q56 F102 F103 F104) (Aa ok102 (Aa ok103 (Aa ok104 Ab))) Tryz.func56
abbrev Kk:Type 1:=(R:Type)→Tq31→Tq13→(Int→Tq31→Option R)→Option R
def Ic (F:Kk):EntF:=⟨55,56,[(true,Kq31),(false,Kq13)],[(false,(.int .i64))],fun R x k=>F R x.1 x.2.1 (fun y1 p1=>k (y1,()) (p1,()))⟩
def zga:List (ResultVar×TypeId×Bool):=[(.tmp 6,35,false)]
def zot (F56:FT56) (F100:R7) (F101:V6) (R:Type):Env R:=⟨TT,EQT,1,45,Bu [],Bc [en56 F56,zor F100,zz5 F101] R,Bm [] R,[],Be [],[]⟩
def zkt (F56:FT56) (F100:R7) (F101:V6):Kk:=fun R a0 a1 k=>
F100 R a0 a1.2.1 fun y1 p2=>
let v3:=y1 !=0;(match v3 with
|true=>k y1 p2
|false=>F101 R p2.1.1 p2.1.2.1 fun y4=>
F56 R p2.1.2.2.2.1 y4 a1.2.1 a1.2.2.2.1 fun y5 y6=>
k y6 ((p2.1.1,p2.1.2.1,p2.1.2.2.1,y5,p2.1.2.2.2.2),p2.2))
theorem q56056 (F56:FT56) (F100:R7) (F101:V6) (F:Kk) (R:Type) (x:AT (Ic F).ins) (k:RT (Ic F).outs→PT (Ic F).ins→Option R):
 xfun (zot F56 F100 F101 R) (Ah Tryz.f55) zga (avs (Ic F).ins x++[AV.fn 56]) (finK (Ic F).outs (Ic F).ins k)=zkt F56 F100 F101 R x.1 x.2.1 (fun y1 p1=>k (y1,()) (p1,())):=by kernel_rfl
def Gu:Kk:=zkt F56 F100 F101
theorem zy2 (R:Type):A4 Tryz.prog (zot F56 F100 F101 R):=⟨tabOK,eqOK,Aq (Aa ok56 (Aa ok100 (Aa ok101 Ab))),B0,Al⟩
theorem ok56056:(Ic Gu).OK Tryz.prog:=
 Jx (Ef:=fun R=>zot F56 F100 F101 R) (fun R=>zy2 R) mixed Tryz.func55 (body:=Ah Tryz.f55) (by kernel_rfl) (by kernel_rfl) (np:=1) (nt:=45) (fun _=>rfl) (fun _=>rfl) (by kernel_rfl) (res:=zga) (by kernel_rfl) (fun _=>rfl) (fun _=>Nat.le_of_ble_eq_true rfl) (by
  intro R;rw [show Ar (Ah Tryz.f55)=[] from by kernel_rfl];exact Bx) (fun R x k=>q56056 F56 F100 F101 Gu R x k)
abbrev FT54:=(R:Type)→Tq31→Tq13→(Int→Tq31→Option R)→Option R
def en54 (F:FT54):Ent:=eM 54 [(true,Kq31),(false,Kq13)] [(false,(.int .i64))] F
def e54 (Gu:Kk) (R:Type):Env R:=⟨TT,EQT,1,8,Bu [],Ek [Ic Gu] [] R,Bm [] R,[],Be [],[]⟩
def p54 (Gu:Kk):FT54:=fun R a0 a1 k=>
Gu R a0 a1 fun y1 p2=>
k y1 p2
theorem q54 (Gu:Kk):EQ (en54 (p54 Gu)) (e54 Gu) Tryz.f54 [(.tmp 4,35,false)]:=fun _ _ _=>by kernel_rfl
def F54:FT54:=p54 Gu
theorem env54 (R:Type):A4 Tryz.prog (e54 Gu R):=⟨tabOK,eqOK,Cy (Ft ok56056 Eu) Ab,B0,Al⟩
theorem ok54:OKP (en54 F54):=ST.ok3 (q54 Gu) env54 Tryz.func54 (fun _=>rfl) (fun _=>rfl) (fun _=>rfl) [] trivial
abbrev zsb:=(R:Type)→(List Tq3)→Int→LI→((List Tq3)→Int→Option R)→Option R
def en105 (F:zsb):Ent:=eV 105 [(.sl Kq3),(.int .i64),(.arr 32 (.int .u8))] [(.sl Kq3),(.int .i64)] F
def p105 (F147:Si) (F148:Zk) (F150:zew) (F152:zeu):zsb:=fun R a0 a1 a2 k=>
F147 R a0 fun y1=>
(match (!y1) with
|true=>k ([]:(List Tq3)) (1:Int)
|false=>F148 R a0 a1 fun y2 y3=>
(match (!y3) with
|true=>k ([]:(List Tq3)) (5:Int)
|false=>(match bnd y2 a0.length with
|true=>let v4:=(a0.getD y2.toNat (0,(List.replicate 32 0),false,(List.replicate 32 0),())).2.2.1;(match v4 with
|true=>k ([]:(List Tq3)) (6:Int)
|false=>F152 R a2 fun y5=>
(match bnd y2 a0.length with
|true=>let v6:=(a0.getD y2.toNat (0,(List.replicate 32 0),false,(List.replicate 32 0),())).2.1;let v7:= !(Kd.eqv (.arr 32 (.int .u8)) y5 v6);(match v7 with
|true=>k ([]:(List Tq3)) (13:Int)
|false=>F150 R a0 fun y8=>
(match bnd y2 y8.length with
|true=>let v9:=y8.set y2.toNat ((y8.getD y2.toNat (0,(List.replicate 32 0),false,(List.replicate 32 0),())).1,(y8.getD y2.toNat (0,(List.replicate 32 0),false,(List.replicate 32 0),())).2.1,true,(y8.getD y2.toNat (0,(List.replicate 32 0),false,(List.replicate 32 0),())).2.2.2);(match bnd y2 v9.length with
|true=>let v10:=v9.set y2.toNat ((v9.getD y2.toNat (0,(List.replicate 32 0),false,(List.replicate 32 0),())).1,(v9.getD y2.toNat (0,(List.replicate 32 0),false,(List.replicate 32 0),())).2.1,(v9.getD y2.toNat (0,(List.replicate 32 0),false,(List.replicate 32 0),())).2.2.1,a2,(v9.getD y2.toNat (0,(List.replicate 32 0),false,(List.replicate 32 0),())).2.2.2.2);k v10 (0:Int)
|false=>none)
|false=>none))
|false=>none))
|false=>none)))
theorem q105 (F147:Si) (F148:Zk) (F150:zew) (F152:zeu):EQ (en105 (p105 F147 F148 F150 F152)) (sE 0 50 [] [zoi F147,zzu F148,en150 F150,zzs F152] []) Tryz.f105 [(.tmp 6,29,false),(.tmp 7,35,false)]:=fun _ _ _=>by kernel_rfl
def F105:zsb:=p105 F147 F148 F150 F152
theorem ok105:OKP (en105 F105):=ST.ok0 (q105 F147 F148 F150 F152) (Aa ok147 (Aa ok148 (Aa ok150 (Aa ok152 Ab)))) Tryz.func105
abbrev FT58:=(R:Type)→Tq24→Int→Int→LI→(Tq24→Int→Option R)→Option R
def en58 (F:FT58):Ent:=eV 58 [Kq24,(.int .i64),(.int .i64),(.arr 32 (.int .u8))] [Kq24,(.int .i64)] F
def p58 (F102:ze7) (F104:ze6) (F105:zsb):FT58:=fun R a0 a1 a2 a3 k=>
F102 R a0 a1 (2:Int) fun y1=>
let v2:=y1 !=0;(match v2 with
|true=>k ((0:Int),(List.replicate 32 (0:Int)),(List.replicate 32 (0:Int)),([]:(List Tq3)),()) y1
|false=>F105 R a0.2.2.2.1 a2 a3 fun y3 y4=>
F104 R a0 y3 y4 fun y5 y6=>
k y5 y6)
theorem q58 (F102:ze7) (F104:ze6) (F105:zsb):EQ (en58 (p58 F102 F104 F105)) (sE 0 34 [] [zz4 F102,zz3 F104,en105 F105] []) Tryz.f58 [(.cell 8 31,31,false),(.tmp 9,35,false)]:=fun _ _ _=>by kernel_rfl
def F58:FT58:=p58 F102 F104 F105
theorem ok58:OKP (en58 F58):=ST.ok0 (q58 F102 F104 F105) (Aa ok102 (Aa ok104 (Aa ok105 Ab))) Tryz.func58
abbrev Kj:Type 1:=(R:Type)→Tq31→Tq13→(Int→Tq31→Option R)→Option R
def Ib (F:Kj):EntF:=⟨55,58,[(true,Kq31),(false,Kq13)],[(false,(.int .i64))],fun R x k=>F R x.1 x.2.1 (fun y1 p1=>k (y1,()) (p1,()))⟩
def zf9:List (ResultVar×TypeId×Bool):=[(.tmp 6,35,false)]
def zos (F58:FT58) (F100:R7) (F101:V6) (R:Type):Env R:=⟨TT,EQT,1,45,Bu [],Bc [en58 F58,zor F100,zz5 F101] R,Bm [] R,[],Be [],[]⟩
def zks (F58:FT58) (F100:R7) (F101:V6):Kj:=fun R a0 a1 k=>
F100 R a0 a1.2.1 fun y1 p2=>
let v3:=y1 !=0;(match v3 with
|true=>k y1 p2
|false=>F101 R p2.1.1 p2.1.2.1 fun y4=>
F58 R p2.1.2.2.2.1 y4 a1.2.1 a1.2.2.2.1 fun y5 y6=>
k y6 ((p2.1.1,p2.1.2.1,p2.1.2.2.1,y5,p2.1.2.2.2.2),p2.2))
theorem q56058 (F58:FT58) (F100:R7) (F101:V6) (F:Kj) (R:Type) (x:AT (Ib F).ins) (k:RT (Ib F).outs→PT (Ib F).ins→Option R):
 xfun (zos F58 F100 F101 R) (Ah Tryz.f55) zf9 (avs (Ib F).ins x++[AV.fn 58]) (finK (Ib F).outs (Ib F).ins k)=zks F58 F100 F101 R x.1 x.2.1 (fun y1 p1=>k (y1,()) (p1,())):=by kernel_rfl
def Gt:Kj:=zks F58 F100 F101
theorem zy1 (R:Type):A4 Tryz.prog (zos F58 F100 F101 R):=⟨tabOK,eqOK,Aq (Aa ok58 (Aa ok100 (Aa ok101 Ab))),B0,Al⟩
theorem ok56058:(Ib Gt).OK Tryz.prog:=
 Jx (Ef:=fun R=>zos F58 F100 F101 R) (fun R=>zy1 R) mixed Tryz.func55 (body:=Ah Tryz.f55) (by kernel_rfl) (by kernel_rfl) (np:=1) (nt:=45) (fun _=>rfl) (fun _=>rfl) (by kernel_rfl) (res:=zf9) (by kernel_rfl) (fun _=>rfl) (fun _=>Nat.le_of_ble_eq_true rfl) (by
  intro R;rw [show Ar (Ah Tryz.f55)=[] from by kernel_rfl];exact Bx) (fun R x k=>q56058 F58 F100 F101 Gt R x k)
abbrev FT57:=(R:Type)→Tq31→Tq13→(Int→Tq31→Option R)→Option R
def en57 (F:FT57):Ent:=eM 57 [(true,Kq31),(false,Kq13)] [(false,(.int .i64))] F
def e57 (Gt:Kj) (R:Type):Env R:=⟨TT,EQT,1,8,Bu [],Ek [Ib Gt] [] R,Bm [] R,[],Be [],[]⟩
def p57 (Gt:Kj):FT57:=fun R a0 a1 k=>
Gt R a0 a1 fun y1 p2=>
k y1 p2
theorem q57 (Gt:Kj):EQ (en57 (p57 Gt)) (e57 Gt) Tryz.f57 [(.tmp 4,35,false)]:=fun _ _ _=>by kernel_rfl
def F57:FT57:=p57 Gt
theorem env57 (R:Type):A4 Tryz.prog (e57 Gt R):=⟨tabOK,eqOK,Cy (Ft ok56058 Eu) Ab,B0,Al⟩
theorem ok57:OKP (en57 F57):=ST.ok3 (q57 Gt) env57 Tryz.func57 (fun _=>rfl) (fun _=>rfl) (fun _=>rfl) [] trivial
abbrev zsa:=(R:Type)→Tq21→Int→(Int→Bool→Option R)→Option R
def en106 (F:zsa):Ent:=eV 106 [Kq21,(.int .i64)] [(.int .i64),.bool] F
def p106 (F145:zey):zsa:=fun R a0 a1 k=>
F145 R a0 a1 fun y1=>
(match (!y1) with
|true=>k (0:Int) false
|false=>let v2:=IntKind.i64.wrap (a1+1);(match (!(a0.1==0)) with
|true=>let v3:=Int.tmod v2 a0.1;let v4:=v3==0;k v3 v4
|false=>none))
theorem q106 (F145:zey):EQ (en106 (p106 F145)) (sE 0 19 [] [zzw F145] []) Tryz.f106 [(.tmp 4,3,false),(.tmp 5,4,false)]:=fun _ _ _=>by kernel_rfl
def F106:zsa:=p106 F145
theorem ok106:OKP (en106 F106):=ST.ok0 (q106 F145) (Aa ok145 Ab) Tryz.func106
abbrev zrk:=(R:Type)→LI→Int→LI→(LI→Option R)→Option R
def en190 (F:zrk):Ent:=eV 190 [(.arr 32 (.int .u8)),(.int .u64),(.arr 32 (.int .u8))] [(.arr 32 (.int .u8))] F
def p190 (F189:Vx) (F203:Lo):zrk:=fun R a0 a1 a2 k=>
F203 R a1 fun y1=>
let v2:=([(List.take 32 (List.drop 0 a0)),(List.take 8 (List.drop 0 y1)),(List.take 32 (List.drop 0 a2))]:(List LI));F189 R v2 fun y3=>
k y3
theorem q190 (F189:Vx) (F203:Lo):EQ (en190 (p190 F189 F203)) (sE 0 15 [] [zoe F189,zcn F203] []) Tryz.f190 [(.cell 6 25,25,false)]:=fun _ _ _=>by kernel_rfl
def F190:zrk:=p190 F189 F203
theorem ok190:OKP (en190 F190):=ST.ok0 (q190 F189 F203) (Aa ok189 (Aa zme Ab)) Tryz.func190
abbrev zrj:=(R:Type)→(List Tq3)→(LI→Option R)→Option R
def en191 (F:zrj):Ent:=eV 191 [(.sl Kq3)] [(.sl (.int .i64))] F
abbrev zui (Z:Type):=(List Tq3)→Int→Int→LI→Z
abbrev E191_2 (R:Type):=(LI→Option R)→Option R
abbrev Nh:=(R:Type)→zui (E191_2 R)
def zbj (L:Nh):LEnt:=lM 2 [.fix 2 (.own 0 0),.val 5 (.sl Kq3),.val 6 (.int .i64),.val 7 (.int .i64),.row 0 (.int .i64) false] 1 [(.exit 0,[.fix 2 (.own 0 0),.row 0 (.int .i64) false])] L
def e191 (L2:Nh):=sE 0 21 [(0,0)] [] [zbj L2]
def zlh (R:Type):zui (zui (Option R)→E191_2 R):=fun x1 x2 x3 x4 kc k0=>
let v5:=decide (x3<x2);(match v5 with
|true=>(match bnd x3 x1.length with
|true=>let v6:=x1.getD x3.toNat (0,(List.replicate 32 0),false,(List.replicate 32 0),());let v7:= !v6.2.2.1;(match v7 with
|true=>let v8:=([v6.1]:LI);(match (decide (x4.length+v8.length≤17592186044416)) with
|true=>let v9:=x4++v8;let v10:=IntKind.i64.wrap (x3+1);kc x1 x2 v10 v9
|false=>none)
|false=>let v11:=IntKind.i64.wrap (x3+1);kc x1 x2 v11 x4)
|false=>none)
|false=>k0 x4)
theorem q191_2 (L2:Nh):LEQ (zbj L2) (e191 L2) Tryz.f191 zlh:=fun _ _ _ _=>by kernel_rfl
def Rh:Nat→Nh
 | 0=>fun _ _ _ _ _ _=>none
 | n+1=>fun R x1 x2 x3 x4 k0=>zlh R x1 x2 x3 x4 (fun x1 x2 x3 x4=>Rh n R x1 x2 x3 x4 k0) k0
def p191 (L2:Nh):zrj:=fun R a0 k=>
let v1:=(a0.length:Int);L2 R a0 v1 (0:Int) ([]:LI) (fun x2=>
k x2)
theorem q191 (L2:Nh):EQ (en191 (p191 L2)) (e191 L2) Tryz.f191 [(.tmp 2,32,false)]:=fun _ _ _=>by kernel_rfl
def F191:zrj:=p191 (Rh FUEL)
theorem zxm:LKP (zbj (Rh FUEL)) 0 21 2 Tryz.f191:=ST.lok (q191_2 (Rh FUEL)) Ab [] trivial
theorem ok191:OKP (en191 F191):=ST.ok1 (q191 (Rh FUEL)) Ab Tryz.func191 [2] ⟨⟨_,rfl,zxm⟩,trivial⟩
abbrev zrw:=(R:Type)→Tq24→(Tq24→Tq37→LI→Int→Option R)→Option R
def en153 (F:zrw):Ent:=eV 153 [Kq24] [Kq24,Kq37,(.sl (.int .i64)),(.int .i64)] F
def p153 (F146:zex) (F190:zrk) (F191:zrj):zrw:=fun R a0 k=>
F146 R a0 fun y1=>
(match (!y1) with
|true=>k ((0:Int),(List.replicate 32 (0:Int)),(List.replicate 32 (0:Int)),([]:(List Tq3)),()) ((0:Int),(List.replicate 32 (0:Int)),(List.replicate 32 (0:Int)),(List.replicate 32 (0:Int)),()) ([]:LI) (1:Int)
|false=>let v2:=a0.1==18446744073709551615;(match v2 with
|true=>k ((0:Int),(List.replicate 32 (0:Int)),(List.replicate 32 (0:Int)),([]:(List Tq3)),()) ((0:Int),(List.replicate 32 (0:Int)),(List.replicate 32 (0:Int)),(List.replicate 32 (0:Int)),()) ([]:LI) (3:Int)
|false=>F190 R a0.2.1 a0.1 a0.2.2.1 fun y3=>
let v4:=IntKind.u64.wrap (a0.1+1);F191 R a0.2.2.2.1 fun y5=>
k (v4,y3,(List.replicate 32 (0:Int)),([]:(List Tq3)),()) (a0.1,a0.2.1,a0.2.2.1,y3,()) y5 (0:Int)))
theorem q153 (F146:zex) (F190:zrk) (F191:zrj):EQ (en153 (p153 F146 F190 F191)) (sE 0 43 [] [zzv F146,en190 F190,en191 F191] []) Tryz.f153 [(.cell 2 31,31,false),(.cell 3 122,122,false),(.tmp 4,32,false),(.tmp 5,35,false)]:=fun _ _ _=>by kernel_rfl
def F153:zrw:=p153 F146 F190 F191
theorem ok153:OKP (en153 F153):=ST.ok0 (q153 F146 F190 F191) (Aa ok146 (Aa ok190 (Aa ok191 Ab))) Tryz.func153
abbrev zrv:=(R:Type)→(List Tq5)→((List Tq5)→Option R)→Option R
def en154 (F:zrv):Ent:=eV 154 [(.sl Kq5)] [(.sl Kq5)] F
abbrev zut (Z:Type):=Int→Int→(List Tq5)→Z
abbrev E154_3 (R:Type):=((List Tq5)→Option R)→Option R
abbrev Nm:=(R:Type)→zut (E154_3 R)
def zbu (L:Nm):LEnt:=lM 3 [.fix 3 (.own 0 0),.val 8 (.int .i64),.val 9 (.int .i64),.row 0 Kq5 false] 1 [(.exit 0,[.fix 3 (.own 0 0),.row 0 Kq5 false])] L
def e154 (F181:Zg) (L3:Nm):=sE 0 23 [] [en181 F181] [zbu L3]
def zlq (R:Type):zut (zut (Option R)→E154_3 R):=fun x1 x2 x3 kc k0=>
let v4:=decide (x2<x1);(match v4 with
|true=>(match bnd x2 x3.length with
|true=>let v5:=(x3.getD x2.toNat ((List.replicate 32 0),0,0,())).2.2.1;(match bnd x2 x3.length with
|true=>let v6:=x3.set x2.toNat ((x3.getD x2.toNat ((List.replicate 32 0),0,0,())).1,v5,(x3.getD x2.toNat ((List.replicate 32 0),0,0,())).2.2);let v7:=IntKind.i64.wrap (x2+1);kc x1 v7 v6
|false=>none)
|false=>none)
|false=>k0 x3)
theorem q154_3 (F181:Zg) (L3:Nm):LEQ (zbu L3) (e154 F181 L3) Tryz.f154 zlq:=fun _ _ _ _=>by kernel_rfl
def Rk:Nat→Nm
 | 0=>fun _ _ _ _ _=>none
 | n+1=>fun R x1 x2 x3 k0=>zlq R x1 x2 x3 (fun x1 x2 x3=>Rk n R x1 x2 x3 k0) k0
def p154 (F181:Zg) (L3:Nm):zrv:=fun R a0 k=>
F181 R a0 fun y1=>
let v2:=(y1.length:Int);L3 R v2 (0:Int) y1 (fun x3=>
k x3)
theorem q154 (F181:Zg) (L3:Nm):EQ (en154 (p154 F181 L3)) (e154 F181 L3) Tryz.f154 [(.tmp 2,27,false)]:=fun _ _ _=>by kernel_rfl
def F154:zrv:=p154 F181 (Rk FUEL)
theorem zxx:LKP (zbu (Rk FUEL)) 0 23 3 Tryz.f154:=ST.lok (q154_3 F181 (Rk FUEL)) (Aa ok181 Ab) [] trivial
theorem ok154:OKP (en154 F154):=ST.ok1 (q154 F181 (Rk FUEL)) (Aa ok181 Ab) Tryz.func154 [3] ⟨⟨_,rfl,zxx⟩,trivial⟩
abbrev FT155:Type 1:=(R:Type)→LI→(LI→Option R)→Option R
def en155 (F:FT155):Ent:=⟨155,[(false,(.sl (.int .i64)))],[(true,(.int .i64))],fun R x k=>F R x.1 (fun y1=>k (y1,()) ())⟩
def e155:Env (RT [(true,(.int .i64))]):=⟨TT,EQT,0,8,Bu [(2,0),(3,0)],fun _ _ _=>none,fun _ _ _=>none,[],Be [],[]⟩
def F155:FT155:=fun R a0 k=>match decide (List.length ([]:LI)+a0.length≤17592186044416) with | true=>k a0 | false=>none
theorem ok155:(en155 F155).OK Tryz.prog:=
 Ja (e:=(.int .i64)) e155 ⟨tabOK,eqOK,(fun f b K r h=>by cases h),B0,Al⟩ mixed Tryz.func155 (body:=Ah Tryz.f155) (by kernel_rfl) (by kernel_rfl) (by kernel_rfl) (res:=[(.tmp 2,32,true)]) (by kernel_rfl) rfl (by decide) (by kernel_rfl) (lim:=17592186044416) (by kernel_rfl) (fun l=>by kernel_rfl)
abbrev R6:=(R:Type)→Tq10→Int→(Bool→Option R)→Option R
def zoh (F:R6):Ent:=eV 159 [Kq10,(.int .i64)] [.bool] F
def p159:R6:=fun R a0 a1 k=>
let v1:=decide (a1≥0);(match v1 with
|true=>let v2:=decide (a1<1024);(match v2 with
|true=>let v3:=decide (a0.2.1>0);(match v3 with
|true=>let v4:=decide (a0.2.1≤64);k v4
|false=>k false)
|false=>k false)
|false=>k false)
theorem q159:EQ (zoh p159) (sE 0 21 [] [] []) Tryz.f159 [(.tmp 4,4,false)]:=fun _ _ _=>by kernel_rfl
def F159:R6:=p159
theorem zwj:OKP (zoh F159):=ST.ok0 q159 Ab Tryz.func159
abbrev Ln:Type 1:=(R:Type)→LI→(LI→Option R)→Option R
def zzl (F:Ln):Ent:=⟨228,[(false,(.sl (.int .u64)))],[(true,(.int .u64))],fun R x k=>F R x.1 (fun y1=>k (y1,()) ())⟩
def e228:Env (RT [(true,(.int .u64))]):=⟨TT,EQT,0,8,Bu [(2,0),(3,0)],fun _ _ _=>none,fun _ _ _=>none,[],Be [],[]⟩
def F228:Ln:=fun R a0 k=>match decide (List.length ([]:LI)+a0.length≤17592186044416) with | true=>k a0 | false=>none
theorem zif:(zzl F228).OK Tryz.prog:=
 Ja (e:=(.int .u64)) e228 ⟨tabOK,eqOK,(fun f b K r h=>by cases h),B0,Al⟩ mixed Tryz.func228 (body:=Ah Tryz.f228) (by kernel_rfl) (by kernel_rfl) (by kernel_rfl) (res:=[(.tmp 2,63,true)]) (by kernel_rfl) rfl (by decide) (by kernel_rfl) (lim:=17592186044416) (by kernel_rfl) (fun l=>by kernel_rfl)
abbrev Hg:=(R:Type)→Int→(Int→Option R)→Option R
def zi1 (F:Hg):Ent:=eV 229 [(.int .i64)] [(.int .i64)] F
def p229:Hg:=fun R a0 k=>
let v1:=IntKind.i64.wrap (0 - a0);let v2:=iand .i64 a0 v1;k v2
theorem q229:EQ (zi1 p229) (sE 0 7 [] [] []) Tryz.f229 [(.tmp 2,3,false)]:=fun _ _ _=>by kernel_rfl
def F229:Hg:=p229
theorem Xc:OKP (zi1 F229):=ST.ok0 q229 Ab Tryz.func229
abbrev Vw:=(R:Type)→LI→((LI×Unit)→Int→Option R)→Option R
def zzp (F:Vw):Ent:=eV 192 [(.sl (.int .u64))] [(.pair (.sl (.int .u64)) .unit),(.int .i64)] F
abbrev zuh (Z:Type):=Int→(LI×Unit)→LI→Z
abbrev E192_8 (R:Type):=((LI×Unit)→LI→Option R)→Option R
abbrev Ng:=(R:Type)→zuh (E192_8 R)
def zbi (L:Ng):LEnt:=lM 8 [.fix 2 (.ptr 0 [] (.pair (.sl (.int .u64)) .unit)),.fix 6 (.own 1 0),.val 7 (.int .i64),.var 0 (.pair (.sl (.int .u64)) .unit) false,.row 1 (.int .u64) false] 2 [(.exit 0,[.fix 2 (.ptr 0 [] (.pair (.sl (.int .u64)) .unit)),.fix 6 (.own 1 0),.var 0 (.pair (.sl (.int .u64)) .unit) false,.row 1 (.int .u64) false])] L
def e192 (F139:Kl) (F228:Ln) (F229:Hg) (L8:Ng):=sE 0 51 [] [zi4 F139,zzl F228,zi1 F229] [zbi L8]
def zlg (F229:Hg) (R:Type):zuh (zuh (Option R)→E192_8 R):=fun x1 x2 x3 kc k0=>
let v4:=(x3.length:Int);let v5:=decide (x1≤v4);(match v5 with
|true=>F229 R x1 fun y6=>
let v7:=IntKind.i64.wrap (x1+y6);let v8:=(x3.length:Int);let v9:=decide (v7≤v8);(match v9 with
|true=>let v10:=IntKind.i64.wrap (v7 - 1);(match bnd v10 x3.length with
|true=>let v11:=x3.getD v10.toNat 0;let v12:=IntKind.i64.wrap (x1 - 1);(match bnd v12 x3.length with
|true=>let v13:=x3.getD v12.toNat 0;let v14:=IntKind.u64.wrap (v11+v13);(match bnd v10 x3.length with
|true=>let v15:=x3.set v10.toNat v14;let v16:=IntKind.i64.wrap (x1+1);kc v16 x2 v15
|false=>none)
|false=>none)
|false=>none)
|false=>let v17:=IntKind.i64.wrap (x1+1);kc v17 x2 x3)
|false=>k0 x2 x3)
theorem q192_8 (F139:Kl) (F228:Ln) (F229:Hg) (L8:Ng):LEQ (zbi L8) (e192 F139 F228 F229 L8) Tryz.f192 (zlg F229):=fun _ _ _ _=>by kernel_rfl
def Rg:Nat→Ng
 | 0=>fun _ _ _ _ _=>none
 | n+1=>fun R x1 x2 x3 k0=>zlg F229 R x1 x2 x3 (fun x1 x2 x3=>Rg n R x1 x2 x3 k0) k0
def p192 (F139:Kl) (F228:Ln) (L8:Ng):Vw:=fun R a0 k=>
let v1:=(a0.length:Int);let v2:=decide (v1>1048576);(match v2 with
|true=>k (([]:LI),()) (14:Int)
|false=>F139 R a0 fun y3 y4=>
(match (!y4) with
|true=>k (([]:LI),()) (11:Int)
|false=>F228 R a0 fun y5=>
L8 R (1:Int) (([]:LI),()) y5 (fun x6 x7=>
k (x7,()) (0:Int))))
theorem q192 (F139:Kl) (F228:Ln) (F229:Hg) (L8:Ng):EQ (zzp (p192 F139 F228 L8)) (e192 F139 F228 F229 L8) Tryz.f192 [(.cell 2 87,87,false),(.tmp 3,35,false)]:=fun _ _ _=>by kernel_rfl
def F192:Vw:=p192 F139 F228 (Rg FUEL)
theorem zxl:LKP (zbi (Rg FUEL)) 0 51 8 Tryz.f192:=ST.lok (q192_8 F139 F228 F229 (Rg FUEL)) (Aa zmg (Aa zif (Aa Xc Ab))) [] trivial
theorem ok192:OKP (zzp F192):=ST.ok1 (q192 F139 F228 F229 (Rg FUEL)) (Aa zmg (Aa zif (Aa Xc Ab))) Tryz.func192 [8] ⟨⟨_,rfl,zxl⟩,trivial⟩
abbrev zrf:=(R:Type)→Int→Int→(Int→Option R)→Option R
def en197 (F:zrf):Ent:=eV 197 [(.int .u32),(.int .u32)] [(.int .u64)] F
def p197:zrf:=fun R a0 a1 k=>
let v1:=IntKind.u64.wrap a0;let v2:=ishl .u64 v1 (32:Int);let v3:=IntKind.u64.wrap a1;let v4:=ior .u64 v2 v3;k v4
theorem q197:EQ (en197 p197) (sE 0 11 [] [] []) Tryz.f197 [(.tmp 4,28,false)]:=fun _ _ _=>by kernel_rfl
def F197:zrf:=p197
theorem ok197:OKP (en197 F197):=ST.ok0 q197 Ab Tryz.func197
abbrev zrg:=(R:Type)→LI→Int→(Tq40→Option R)→Option R
def en196 (F:zrg):Ent:=eV 196 [(.arr 32 (.int .u8)),(.int .u64)] [Kq40] F
def p196:zrg:=fun R a0 a1 k=>
k ((2:Int),([]:LI),(0:Int),a0,a1,(0:Int),())
theorem q196:EQ (en196 p196) (sE 0 8 [] [] []) Tryz.f196 [(.cell 4 132,132,false)]:=fun _ _ _=>by kernel_rfl
def F196:zrg:=p196
theorem ok196:OKP (en196 F196):=ST.ok0 q196 Ab Tryz.func196
abbrev Vz:=(R:Type)→Tq10→Int→Int→(Tq40→Option R)→Option R
def zog (F:Vz):Ent:=eV 161 [Kq10,(.int .u32),(.int .i64)] [Kq40] F
def p161 (F196:zrg) (F197:zrf):Vz:=fun R a0 a1 a2 k=>
let v1:=IntKind.u32.wrap a2;F197 R a1 v1 fun y2=>
F196 R a0.1 y2 fun y3=>
k y3
theorem q161 (F196:zrg) (F197:zrf):EQ (zog (p161 F196 F197)) (sE 0 14 [] [en196 F196,en197 F197] []) Tryz.f161 [(.cell 6 132,132,false)]:=fun _ _ _=>by kernel_rfl
def F161:Vz:=p161 F196 F197
theorem ok161:OKP (zog F161):=ST.ok0 (q161 F196 F197) (Aa ok196 (Aa ok197 Ab)) Tryz.func161
abbrev N8:=(R:Type)→(LI×Unit)→(Int→Option R)→Option R
def zn8 (F:N8):Ent:=eV 275 [(.pair (.sl (.int .u64)) .unit)] [(.int .i64)] F
def p275:N8:=fun R a0 k=>
let v1:=(a0.1.length:Int);k v1
theorem q275:EQ (zn8 p275) (sE 0 6 [] [] []) Tryz.f275 [(.tmp 2,3,false)]:=fun _ _ _=>by kernel_rfl
def F275:N8:=p275
theorem zmb:OKP (zn8 F275):=ST.ok0 q275 Ab Tryz.func275
abbrev zd1:=(R:Type)→(LI×Unit)→Int→(Int→Option R)→Option R
def zzf (F:zd1):Ent:=eV 274 [(.pair (.sl (.int .u64)) .unit),(.int .i64)] [(.int .u64)] F
abbrev ztr (Z:Type):=Int→Int→(LI×Unit)→Z
abbrev E274_1 (R:Type):=(Int→Option R)→Option R
abbrev Mw:=(R:Type)→ztr (E274_1 R)
def zas (L:Mw):LEnt:=lM 1 [.val 1 (.int .i64),.fix 2 (.ptr 0 [] (.pair (.sl (.int .u64)) .unit)),.val 4 (.int .u64),.var 0 (.pair (.sl (.int .u64)) .unit) false] 1 [(.exit 0,[.val 4 (.int .u64)])] L
def e274 (F229:Hg) (L1:Mw):=sE 0 20 [] [zi1 F229] [zas L1]
def zkv (F229:Hg) (R:Type):ztr (ztr (Option R)→E274_1 R):=fun x1 x2 x3 kc k0=>
let v4:=decide (x1>0);(match v4 with
|true=>let v5:=IntKind.i64.wrap (x1 - 1);(match bnd v5 x3.1.length with
|true=>let v6:=x3.1.getD v5.toNat 0;let v7:=IntKind.u64.wrap (x2+v6);F229 R x1 fun y8=>
let v9:=IntKind.i64.wrap (x1 - y8);kc v9 v7 x3
|false=>none)
|false=>k0 x2)
theorem q274_1 (F229:Hg) (L1:Mw):LEQ (zas L1) (e274 F229 L1) Tryz.f274 (zkv F229):=fun _ _ _ _=>by kernel_rfl
def Q3:Nat→Mw
 | 0=>fun _ _ _ _ _=>none
 | n+1=>fun R x1 x2 x3 k0=>zkv F229 R x1 x2 x3 (fun x1 x2 x3=>Q3 n R x1 x2 x3 k0) k0
def p274 (L1:Mw):zd1:=fun R a0 a1 k=>
L1 R a1 (0:Int) a0 (fun x1=>
k x1)
theorem q274 (F229:Hg) (L1:Mw):EQ (zzf (p274 L1)) (e274 F229 L1) Tryz.f274 [(.tmp 4,28,false)]:=fun _ _ _=>by kernel_rfl
def F274:zd1:=p274 (Q3 FUEL)
theorem zwv:LKP (zas (Q3 FUEL)) 0 20 1 Tryz.f274:=ST.lok (q274_1 F229 (Q3 FUEL)) (Aa Xc Ab) [] trivial
theorem ok274:OKP (zzf F274):=ST.ok1 (q274 F229 (Q3 FUEL)) (Aa Xc Ab) Tryz.func274 [1] ⟨⟨_,rfl,zwv⟩,trivial⟩
abbrev Lm:=(R:Type)→(LI×Unit)→(Int→Option R)→Option R
def zn9 (F:Lm):Ent:=eV 256 [(.pair (.sl (.int .u64)) .unit)] [(.int .u64)] F
def p256 (F274:zd1) (F275:N8):Lm:=fun R a0 k=>
F275 R a0 fun y1=>
F274 R a0 y1 fun y2=>
k y2
theorem q256 (F274:zd1) (F275:N8):EQ (zn9 (p256 F274 F275)) (sE 0 7 [] [zzf F274,zn8 F275] []) Tryz.f256 [(.tmp 2,28,false)]:=fun _ _ _=>by kernel_rfl
def F256:Lm:=p256 F274 F275
theorem zie:OKP (zn9 F256):=ST.ok0 (q256 F274 F275) (Aa ok274 (Aa zmb Ab)) Tryz.func256
abbrev zdz:=(R:Type)→Tq40→(Int→Bool→Option R)→Option R
def zze (F:zdz):Ent:=eV 281 [Kq40] [(.int .u64),.bool] F
def p281:zdz:=fun R a0 k=>
let v1:=a0.1==1;(match v1 with
|true=>let v2:=(a0.2.1.length:Int);let v3:=IntKind.u64.wrap v2;let v4:=IntKind.u64.wrap (v3*8);let v5:=decide (a0.2.2.1≤v4);k a0.2.2.1 v5
|false=>let v6:=a0.1==2;(match v6 with
|true=>k (4611686018427387904:Int) true
|false=>k (0:Int) false))
theorem q281:EQ (zze p281) (sE 0 20 [] [] []) Tryz.f281 [(.tmp 2,28,false),(.tmp 3,4,false)]:=fun _ _ _=>by kernel_rfl
def F281:zdz:=p281
theorem ok281:OKP (zze F281):=ST.ok0 q281 Ab Tryz.func281
abbrev N9:=(R:Type)→Tq40→(Bool→Option R)→Option R
def ziz (F:N9):Ent:=eV 266 [Kq40] [.bool] F
def p266 (F281:zdz):N9:=fun R a0 k=>
F281 R a0 fun y1 y2=>
(match y2 with
|true=>let v3:=decide (a0.2.2.2.2.2.1≤y1);k v3
|false=>k false)
theorem q266 (F281:zdz):EQ (ziz (p266 F281)) (sE 0 17 [] [zze F281] []) Tryz.f266 [(.tmp 2,4,false)]:=fun _ _ _=>by kernel_rfl
def F266:N9:=p266 F281
theorem zmc:OKP (ziz F266):=ST.ok0 (q266 F281) (Aa ok281 Ab) Tryz.func266
abbrev zd7:=(R:Type)→Tq40→Int→Int→(Bool→Option R)→Option R
def en262 (F:zd7):Ent:=eV 262 [Kq40,(.int .u64),(.int .i64)] [.bool] F
def p262 (F266:N9):zd7:=fun R a0 a1 a2 k=>
F266 R a0 fun y1=>
(match y1 with
|true=>let v2:=decide (a1>0);(match v2 with
|true=>let v3:=decide (a1<9223372036854775808);(match v3 with
|true=>let v4:=decide (a2>0);(match v4 with
|true=>let v5:=decide (a2≤64);k v5
|false=>k false)
|false=>k false)
|false=>k false)
|false=>k false)
theorem q262 (F266:N9):EQ (en262 (p262 F266)) (sE 0 25 [] [ziz F266] []) Tryz.f262 [(.tmp 6,4,false)]:=fun _ _ _=>by kernel_rfl
def F262:zd7:=p262 F266
theorem ok262:OKP (en262 F262):=ST.ok0 (q262 F266) (Aa zmc Ab) Tryz.func262
abbrev zqs:=(R:Type)→Int→(Int→Option R)→Option R
def en279 (F:zqs):Ent:=eV 279 [(.int .u64)] [(.int .i64)] F
abbrev ztq (Z:Type):=Int→Int→Z
abbrev E279_1 (R:Type):=(Int→Option R)→Option R
abbrev Mv:=(R:Type)→ztq (E279_1 R)
def zar (L:Mv):LEnt:=lM 1 [.val 0 (.int .u64),.val 2 (.int .i64)] 0 [(.exit 0,[.val 2 (.int .i64)])] L
def e279 (L1:Mv):=sE 0 10 [] [] [zar L1]
def zge (R:Type):ztq (ztq (Option R)→E279_1 R):=fun x1 x2 kc k0=>
let v3:=x1 !=0;(match v3 with
|true=>let v4:=IntKind.i64.wrap (x2+1);let v5:=ishr .u64 x1 (1:Int);kc v5 v4
|false=>k0 x2)
theorem q279_1 (L1:Mv):LEQ (zar L1) (e279 L1) Tryz.f279 zge:=fun _ _ _ _=>by kernel_rfl
def Om:Nat→Mv
 | 0=>fun _ _ _ _=>none
 | n+1=>fun R x1 x2 k0=>zge R x1 x2 (fun x1 x2=>Om n R x1 x2 k0) k0
def p279 (L1:Mv):zqs:=fun R a0 k=>
L1 R a0 (0:Int) (fun x1=>
k x1)
theorem q279 (L1:Mv):EQ (en279 (p279 L1)) (e279 L1) Tryz.f279 [(.tmp 2,3,false)]:=fun _ _ _=>by kernel_rfl
def F279:zqs:=p279 (Om FUEL)
theorem zwu:LKP (zar (Om FUEL)) 0 10 1 Tryz.f279:=ST.lok (q279_1 (Om FUEL)) Ab [] trivial
theorem ok279:OKP (en279 F279):=ST.ok1 (q279 (Om FUEL)) Ab Tryz.func279 [1] ⟨⟨_,rfl,zwu⟩,trivial⟩
abbrev zd5:=(R:Type)→Int→(Int→Option R)→Option R
def en264 (F:zd5):Ent:=eV 264 [(.int .u64)] [(.int .i64)] F
def p264 (F279:zqs):zd5:=fun R a0 k=>
let v1:=if (1:Int)>a0 then (1:Int) else a0;let v2:=IntKind.u64.wrap (v1 - 1);F279 R v2 fun y3=>
k y3
theorem q264 (F279:zqs):EQ (en264 (p264 F279)) (sE 0 7 [] [en279 F279] []) Tryz.f264 [(.tmp 2,3,false)]:=fun _ _ _=>by kernel_rfl
def F264:zd5:=p264 F279
theorem ok264:OKP (en264 F264):=ST.ok0 (q264 F279) (Aa ok279 Ab) Tryz.func264
abbrev zd0:=(R:Type)→Tq40→(Int→Option R)→Option R
def en277 (F:zd0):Ent:=eV 277 [Kq40] [(.int .u64)] F
def p277 (F266:N9) (F281:zdz):zd0:=fun R a0 k=>
F266 R a0 fun y1=>
(match (!y1) with
|true=>k (0:Int)
|false=>F281 R a0 fun y2 y3=>
let v4:=IntKind.u64.wrap (y2 - a0.2.2.2.2.2.1);k v4)
theorem q277 (F266:N9) (F281:zdz):EQ (en277 (p277 F266 F281)) (sE 0 17 [] [ziz F266,zze F281] []) Tryz.f277 [(.tmp 2,28,false)]:=fun _ _ _=>by kernel_rfl
def F277:zd0:=p277 F266 F281
theorem ok277:OKP (en277 F277):=ST.ok0 (q277 F266 F281) (Aa zmc (Aa ok281 Ab)) Tryz.func277
abbrev zqo:=(R:Type)→LI→Int→Int→(LI→Option R)→Option R
def en290 (F:zqo):Ent:=eV 290 [(.arr 32 (.int .u8)),(.int .u64),(.int .u64)] [(.arr 32 (.int .u8))] F
def p290 (F189:Vx) (F203:Lo):zqo:=fun R a0 a1 a2 k=>
F203 R a1 fun y1=>
F203 R a2 fun y2=>
let v3:=([(List.take 32 (List.drop 0 a0)),(List.take 8 (List.drop 0 y1)),(List.take 8 (List.drop 0 y2))]:(List LI));F189 R v3 fun y4=>
k y4
theorem q290 (F189:Vx) (F203:Lo):EQ (en290 (p290 F189 F203)) (sE 0 18 [] [zoe F189,zcn F203] []) Tryz.f290 [(.cell 6 25,25,false)]:=fun _ _ _=>by kernel_rfl
def F290:zqo:=p290 F189 F203
theorem ok290:OKP (en290 F290):=ST.ok0 (q290 F189 F203) (Aa ok189 (Aa zme Ab)) Tryz.func290
abbrev FT285:=(R:Type)→Tq43→Int→(Int→Tq43→Option R)→Option R
def en285 (F:FT285):Ent:=eM 285 [(true,Kq43),(false,(.int .u64))] [(false,(.int .u8))] F
def p285 (F290:zqo):FT285:=fun R a0 a1 k=>
let v1:=a0.1.1==1;(match v1 with
|true=>(match bnd a1 a0.1.2.1.length with
|true=>let v2:=a0.1.2.1.getD a1.toNat 0;k v2 a0
|false=>none)
|false=>let v3:=IntKind.u64.wrap (Int.tdiv a1 (32:Int));let v4:= !a0.2.2.2.1;(match v4 with
|true=>F290 R a0.1.2.2.2.1 a0.1.2.2.2.2.1 v3 fun y5=>
let v6:=Int.tmod a1 (32:Int);(match (bnd v6 (32:Int)) with
|true=>let v7:=y5.getD v6.toNat 0;k v7 (a0.1,y5,v3,true,a0.2.2.2.2)
|false=>none)
|false=>let v8:=v3 !=a0.2.2.1;(match v8 with
|true=>F290 R a0.1.2.2.2.1 a0.1.2.2.2.2.1 v3 fun y9=>
let v10:=Int.tmod a1 (32:Int);(match (bnd v10 (32:Int)) with
|true=>let v11:=y9.getD v10.toNat 0;k v11 (a0.1,y9,v3,true,a0.2.2.2.2)
|false=>none)
|false=>let v12:=Int.tmod a1 (32:Int);(match (bnd v12 (32:Int)) with
|true=>let v13:=a0.2.1.getD v12.toNat 0;k v13 a0
|false=>none))))
theorem q285 (F290:zqo):EQ (en285 (p285 F290)) (sE 1 67 [] [en290 F290] []) Tryz.f285 [(.tmp 4,5,false)]:=fun _ _ _=>by kernel_rfl
def F285:FT285:=p285 F290
theorem ok285:OKP (en285 F285):=ST.ok0 (q285 F290) (Aa ok290 Ab) Tryz.func285
abbrev zjm:Type 1:=(R:Type)→Tq43→(Int→Tq43→Option R)→Option R
abbrev KS278:Kd:=Kq40
abbrev Yi:Kd:=Kq42
abbrev K278:Kd:=.pair KS278 Yi
def en278 (F:zjm):Ent:=⟨278,[(true,K278)],[(false,(.int .u64))],fun R x k=>F R x.1 (fun y1 p1=>k (y1,()) (p1,()))⟩
def res278:List (ResultVar×TypeId×Bool):=[(.tmp 2,28,false)]
def u278:(R:Type)→K278.T→Int→Yi.T→(Int→K278.T→Option R)→Option R:=fun R a0 y2 q k=>
let v6:=ishr .u8 y2 (IntKind.u64.wrap ((7:Int) - (Int.tmod a0.1.2.2.2.2.2.1 (8:Int))));let v7:=IntKind.u64.wrap (a0.1.2.2.2.2.2.1+1);let v8:=iand .u8 v6 (1:Int);let v9:=IntKind.u64.wrap v8;k v9 ((a0.1.1,a0.1.2.1,a0.1.2.2.1,a0.1.2.2.2.1,a0.1.2.2.2.2.1,v7,a0.1.2.2.2.2.2.2),q)
def F278:zjm:=fun R a0 k=>
F285 R a0 (IntKind.u64.wrap (Int.tdiv a0.1.2.2.2.2.2.1 (8:Int))) fun y2 p3=>
match decide (0≤IntKind.u64.wrap ((7:Int) - (Int.tmod a0.1.2.2.2.2.2.1 (8:Int)))) with
|true=>u278 R a0 y2 p3.2 k
|false=>none
theorem zsn (R:Type) (a0:K278.T) (a1:Int) (k:Int→K278.T→Option R):F285 R a0 a1 k=F285 R a0 a1 (fun y p=>@ite (Option R) (p.1=a0.1) (Classical.propDecidable _) (k y p) none):=by
 simp only [F285,p285,if_true]
def zvz {α:Type} (x y:α):Bool:=@decide (x=y) (Classical.propDecidable _)
theorem zh9 {α:Type} (x:α):zvz x x=true:=@decide_eq_true _ (Classical.propDecidable _) rfl
theorem zvy {α:Type} {x y:α} (h:zvz x y=true):x=y:=@of_decide_eq_true _ (Classical.propDecidable _) h
def zn7 (a0:K278.T) (a1 y:Int) (q:Yi.T):Ent:=⟨285,[(true,K278),(false,(.int .u64))],[(false,(.int .u8))],fun _ x k=>match zvz x (a0,a1,()) with | true=>k (y,()) ((a0.1,q),()) | false=>none⟩
theorem ok285c {a0:K278.T} {a1 y:Int} {q:Yi.T} (h:Sh Tryz.prog 285 (avs [(true,K278),(false,(.int .u64))] (a0,a1,())) (rvs [(false,(.int .u8))] (y,())) (tvs [(true,K278),(false,(.int .u64))] ((a0.1,q),()))):(zn7 a0 a1 y q).OK Tryz.prog:=by
 intro R x k r hr;simp only [zn7] at hr;split at hr
 ·rename_i he
  have:=zvy he;subst this;exact ⟨(y,()),((a0.1,q),()),h,hr⟩
 ·cases hr
def c278 (a0:K278.T) (a1 y:Int) (q:Yi.T):Env (St×List Acc):=⟨TT,EQT,1,32,Bu [],Bc [zn7 a0 a1 y q] _,Bm [] _,[],Be [],[]⟩
def e278 (R:Type):Env R:=⟨TT,EQT,1,32,Bu [],Bc [] R,Bm [] R,[],Be [],[]⟩
def K4:Code→Code
 | .seq a _=>a
 | c=>c
def zgr:Code→Array Oper
 | .seq _ (.seq (.region _ ops _) _)=>ops
 | _=>#[]
def o12278:Code→Oper
 | .seq _ (.seq (.region _ ops _) _)=>(ops[12]?).getD ⟨none,.assign (.tmp 0),0,"",#[],none⟩
 | _=>⟨none,.assign (.tmp 0),0,"",#[],none⟩
def Ug:Code→Code
 | .seq _ (.seq _ c)=>c
 | c=>c
def zvi (a0:K278.T):St:=⟨[(0,.ptr 0 [] K278)],[(0,.var K278 a0 false)],1⟩
def zvh (a0:K278.T):St:=⟨[(2,.val (.int .u64) (0:Int)),(0,.ptr 0 [] K278)],[(0,.var K278 a0 false)],1⟩
def z2278 (a0:K278.T) (y:Int) (q:Yi.T):St:=
 ⟨[(3,.val (.int .u8) (ishr .u8 y (IntKind.u64.wrap ((7:Int) - (Int.tmod a0.1.2.2.2.2.2.1 (8:Int)))))),(19,.val (.int .u8) (ishr .u8 y (IntKind.u64.wrap ((7:Int) - (Int.tmod a0.1.2.2.2.2.2.1 (8:Int)))))),
  (18,.val (.int .u64) (IntKind.u64.wrap ((7:Int) - (Int.tmod a0.1.2.2.2.2.2.1 (8:Int))))),(17,.val (.int .u64) (Int.tmod a0.1.2.2.2.2.2.1 (8:Int))),(16,.val (.int .u64) a0.1.2.2.2.2.2.1),
  (15,.ptr 0 [.fld 0,.fld 5] (.int .u64)),(14,.ptr 0 [.fld 0] KS278),(13,.ptr 0 [] K278),(12,.ptr 0 [] K278),(11,.val (.int .u8) y),(10,.val (.int .u64) (IntKind.u64.wrap (Int.tdiv a0.1.2.2.2.2.2.1 (8:Int)))),(9,.val (.int .u64) a0.1.2.2.2.2.2.1),
  (8,.ptr 0 [.fld 0,.fld 5] (.int .u64)),(7,.ptr 0 [.fld 0] KS278),(6,.ptr 0 [] K278),(5,.ptr 0 [] K278),(4,.ptr 0 [] K278),(2,.val (.int .u64) (0:Int)),(0,.ptr 0 [] K278)],
 [(0,.var K278 (a0.1,q) false),(0,.var K278 a0 false)],1⟩
def acc278:List Acc:=[([],[],false),([],[],false),([],[],false),([],[],false),([],[0],false),([],[],false),([],[],false),([],[],false),([],[],false),([0],[0,0],false),([],[],false),([],[0],false),([],[],false),([],[],false),([],[],false),([],[],false),([],[],false)]
theorem x0278 (a0:K278.T):exec (e278 St) (K4 (Ah Tryz.f278)) (zvi a0) (fun e σ=>match e with | .normal=>some σ | _=>none)=some (zvh a0):=by kernel_rfl
theorem x1278 (a0:K278.T) (y:Int) (q:Yi.T):xops (c278 a0 (IntKind.u64.wrap (Int.tdiv a0.1.2.2.2.2.2.1 (8:Int))) y q) 1 (zgr (Ah Tryz.f278)) (zgr (Ah Tryz.f278)).toList 0 (zvh a0) [] (fun σ' accs=>some (σ',accs))=
  (match zvz (a0,IntKind.u64.wrap (Int.tdiv a0.1.2.2.2.2.2.1 (8:Int)),()) (a0,IntKind.u64.wrap (Int.tdiv a0.1.2.2.2.2.2.1 (8:Int)),()) with
  | true=>(match decide (0≤IntKind.u64.wrap ((7:Int) - (Int.tmod a0.1.2.2.2.2.2.1 (8:Int)))) with | true=>some (z2278 a0 y q,acc278) | false=>none)
  | false=>none):=by kernel_rfl
theorem x2278 (R:Type) (a0:K278.T) (y:Int) (q:Yi.T) (k:RT [(false,Kd.int .u64)]→PT [(true,K278)]→Option R):
  exec (e278 R) (Ug (Ah Tryz.f278)) (z2278 a0 y q) (funK (e278 R) res278 (finK [(false,.int .u64)] [(true,K278)] k))=u278 R a0 y q (fun y1 p1=>k (y1,()) (p1,())):=by kernel_rfl
theorem ok278:(en278 F278).OK Tryz.prog:=by
 intro R x k r h;obtain ⟨a0,u⟩:=x
 change F278 R a0 (fun y1 p1=>k (y1,()) (p1,()))=some r at h
 unfold F278 at h;rw [zsn] at h;obtain ⟨⟨y,uy⟩,⟨⟨p1,q⟩,up⟩,hH,hk⟩:=ok285 R (a0,IntKind.u64.wrap (Int.tdiv a0.1.2.2.2.2.2.1 (8:Int)),()) (fun y p=>(fun (y:Int) (p:K278.T)=>@ite (Option R) (p.1=a0.1) (Classical.propDecidable _) (match decide (0≤IntKind.u64.wrap ((7:Int) - (Int.tmod a0.1.2.2.2.2.2.1 (8:Int)))) with
  | true=>u278 R a0 y p.2 (fun y1 p1=>k (y1,()) (p1,()))
  | false=>none) none) y.1 p.1) r h
 simp only at hk;split at hk<;>try (cases hk; done)
 rename_i hp;subst hp;split at hk<;>try (cases hk; done)
 rename_i hv;have hE0:A4 Tryz.prog (e278 R):=⟨tabOK,eqOK,Aq Ab,B0,Al⟩
 have hE1:A4 Tryz.prog (e278 St):=⟨tabOK,eqOK,Aq Ab,B0,Al⟩
 have hE2:A4 Tryz.prog (c278 a0 (IntKind.u64.wrap (Int.tdiv a0.1.2.2.2.2.2.1 (8:Int))) y q):=⟨tabOK,eqOK,Aq (Aa (ok285c hH) Ab),B0,Al⟩
 have hL0:Leads 1 32 Tryz.prog (K4 (Ah Tryz.f278)) (zvi a0) .normal (zvh a0):=by
  obtain ⟨e,σ,h1,_,h2⟩:=De hE1 mixed (K4 (Ah Tryz.f278)) (by rw [show Ar (K4 (Ah Tryz.f278))=[] from by kernel_rfl]; exact Bx) _ _ _ (x0278 a0);cases e with
  | normal=>simp only [Option.some.injEq] at h1; subst h1; exact h2
  | exit i=>cases h1
  | ret=>cases h1
 have hL1:Leads 1 32 Tryz.prog (.region 1 (zgr (Ah Tryz.f278)) true) (zvh a0) .normal (z2278 a0 y q):=by
  have hx:=x1278 a0 y q;rw [zh9,hv] at hx;obtain ⟨w1,w2⟩:=zv2 (i0:=7) (b:=0) (l:=acc278.reverse) (by kernel_rfl);exact zik (j0:=12) (i0:=7) (b:=0) (d:=16) (t:=15) (nx:=1) (o:=o12278 (Ah Tryz.f278)) (b1:=.var K278 a0 false) (b2:=.var K278 (a0.1,q) false) hE2 mixed hx (by kernel_rfl) w1 w2 (by omega)
   (by kernel_rfl) (by kernel_rfl) (by kernel_rfl) (by kernel_rfl) rfl (Nat.lt_of_succ_le (Nat.le_of_ble_eq_true rfl)) (zkg (by kernel_rfl)) (zkf (by kernel_rfl))
   (by rw [show (o12278 (Ah Tryz.f278)).op.operands=#[.tmp 15] from by kernel_rfl]; intro x hx; simpa using hx) rfl rfl
   (fun B hB=>by rcases hB with rfl | rfl<;>kernel_rfl)
 have hbody:Ah Tryz.f278=.seq (K4 (Ah Tryz.f278)) (.seq (.region 1 (zgr (Ah Tryz.f278)) true) (Ug (Ah Tryz.f278))):=by kernel_rfl
 have hx2:=x2278 R a0 y q k;rw [hk] at hx2;obtain ⟨e,σ,h1,_,h2⟩:=De hE0 mixed (Ug (Ah Tryz.f278)) (by rw [show Ar (Ug (Ah Tryz.f278))=[] from by kernel_rfl]; exact Bx) _ _ _ hx2;have hL:=Leads.seq hL0 (Leads.seq hL1 h2);rw [←hbody] at hL;obtain ⟨rs,os,g1,g2⟩:=zh3 hE0 Tryz.func278 (body:=Ah Tryz.f278) (by kernel_rfl) (enters Tryz.func278 (by kernel_rfl) (by kernel_rfl)) (by kernel_rfl) (res:=res278) (by kernel_rfl) («as»:=[.ptr K278 a0]) rfl (Nat.le_of_ble_eq_true rfl) (tm0:=(zvi a0).tm) (me0:=(zvi a0).me) rfl hL h1;unfold finK at g2;split at g2<;>try (cases g2; done)
 rename_i y' hy;split at g2<;>try (cases g2; done)
 rename_i p' hp;rw [Jb hy,K7 hp] at g1;exact ⟨y',p',g1,g2⟩
end Go.PG
end
