/- A part of the proof over this seat (own work; the framework that reads a Go function as a pure one, or a use of it). No condition of its own. -/
import Derived.Test.YtlkohcnigichaaaGreatLNews3
import Derived.Shelf.Spec.SlicesInsertGrow
import Derived.KernelRfl
import Derived.Test.YtlkohcnigichaaaGreatProg
set_option linter.unusedVariables false
set_option linter.unusedSimpArgs false
set_option linter.unusedSectionVars false
noncomputable section
set_option linter.unusedVariables false
set_option linter.unusedSimpArgs false
namespace Go.PG
open Go.Proofs Go.Shelf Go.RowKit Go.Lib
structure InsL (P:Program) (ρ:Ren) (fn:Func):Prop where
 mixed:P.follows .mixedOrders=true
 f22:P.funcs[ρ.f 22]?=some fn
 bd:∃nm ta pr rs fl tn,fn={Body2.n22 ρ with name:=nm,targs:=ta,params:=pr,resultTypes:=rs,file:=fl,tmpNames:=tn}
 t3:P.underlying (ρ.t 3)=some (TypeDesc.int IntKind.i64)
 t4:P.underlying (ρ.t 4)=some (TypeDesc.bool)
 t24:P.underlying (ρ.t 24)=some (TypeDesc.slice (ρ.t 9))
variable {P:Program} {ρ:Ren} {fn:Func}
set_option maxHeartbeats 4000000 in
set_option maxRecDepth 100000 in
theorem zro (L:InsL P ρ fn) {sz:Nat} (z9:∀w,(Go.sizeOf (ρ.t 9)).run P w=.ok sz w) (base vb:Option Addr) (n c i vc:Nat) (w:World) (hi:i≤n) (hnc:n≤c) (hc63:c≤9223372036854775807) (hnil:base=none→c=0):
  Calls P (ρ.f 22) #[.slice base n c,.int .i64 i,.slice vb 0 vc] w fun e w'=>e=.returned (.slice base n c)∧w'=w:=by
 have t3:=L.t3; have t4:=L.t4; have t24:=L.t24;have u3:=run_underlying L.t3; have u4:=run_underlying L.t4; have u24:=run_underlying L.t24;have mixed:=L.mixed;obtain ⟨nm,ta,pr,rs,fl,tn,hfn⟩:=L.bd;have F22:=L.f22;rw [hfn] at F22;cases base with
 | none=>
  have h0:=hnil rfl;subst h0;have h1:n=0:=by omega
  subst h1;have h2:i=0:=by omega
  subst h2
  go_enter F22,Body2.n22_ntmps ρ
  go_wp2
  go_ret
  exact ⟨rfl,rfl⟩
 | some b=>
  go_enter F22,Body2.n22_ntmps ρ
  go_wp2
  all_goals (go_ret; exact ⟨rfl,rfl⟩)
set_option maxHeartbeats 4000000 in
set_option maxRecDepth 100000 in
/-- at the end: append. -/
theorem ins_end (L:InsL P ρ fn) {sz:Nat} (z9:∀w,(Go.sizeOf (ρ.t 9)).run P w=.ok sz w) (base vb:Option Addr) (n c m vc:Nat) (w:World) (hm:0<m) (hnc:n≤c) (hc63:c≤9223372036854775807) (hnil:base=none→c=0)
  {u:Value} {w1:World} (hap:(Builtin.append_ #[ρ.t 24,ρ.t 24] (ρ.t 24) #[.slice base n c,.slice vb m vc]).run P w=.ok u w1):
  Calls P (ρ.f 22) #[.slice base n c,.int .i64 n,.slice vb m vc] w fun e w'=>e=.returned u∧w'=w1:=by
 have t3:=L.t3; have t4:=L.t4; have t24:=L.t24;have u3:=run_underlying L.t3; have u4:=run_underlying L.t4; have u24:=run_underlying L.t24;have mixed:=L.mixed;obtain ⟨nm,ta,pr,rs,fl,tn,hfn⟩:=L.bd;have F22:=L.f22;rw [hfn] at F22;have hz1:¬((m:Int)=0):=by omega
 cases base with
 | none=>
  have h0:=hnil rfl;subst h0;have h1:n=0:=by omega
  subst h1
  go_enter F22,Body2.n22_ntmps ρ
  go_wp2_with (at_builtin; refine Lib.wpList_append_run _ rfl _ _ (ρ.t 24) (ρ.t 24) rfl _ _ rfl rfl _ _ hap ?_)
  all_goals (go_ret; exact ⟨rfl,rfl⟩)
 | some b=>
  go_enter F22,Body2.n22_ntmps ρ
  go_wp2_with (at_builtin; refine Lib.wpList_append_run _ rfl _ _ (ρ.t 24) (ρ.t 24) rfl _ _ rfl rfl _ _ hap ?_)
  all_goals (go_ret; exact ⟨rfl,rfl⟩)
set_option maxHeartbeats 4000000 in
set_option maxRecDepth 100000 in
/-- no room: a new row. -/
theorem zrq (L:InsL P ρ fn) {sz:Nat} (z9:∀w,(Go.sizeOf (ρ.t 9)).run P w=.ok sz w) (b g2:Nat) (vb:Option Addr) (n c i m vc G:Nat) (w w1 w2 w3:World) (hm:0<m) (hi:i<n) (hnc:n≤c) (hroom:c<n+m) (h63:n+m≤9223372036854775807)
  (hG:n+m≤G) (hG63:G≤9223372036854775807)
  (hz:∀ty,(Builtin.append_ #[ρ.t 24,ρ.t 3] ty #[.slice (some ⟨b,0,none⟩) i c,.int .i64 ((n:Int)+(m:Int) - (i:Int))]).run P w=.ok (.slice (some ⟨g2,0,none⟩) (n+m) G) w1)
  {u1 u2:Value} (hA:∀ty,(Builtin.copy_ #[ρ.t 24,ρ.t 24] ty #[.slice (some ⟨g2,i*sz,none⟩) (n+m - i) (G - i),.slice vb m vc]).run P w1=.ok u1 w2)
  (hB:∀ty,(Builtin.copy_ #[ρ.t 24,ρ.t 24] ty #[.slice (some ⟨g2,(i+m)*sz,none⟩) (n+m - (i+m)) (G - (i+m)),.slice (some ⟨b,i*sz,none⟩) (n - i) (c - i)]).run P w2.drew=.ok u2 w3):
  Calls P (ρ.f 22) #[.slice (some ⟨b,0,none⟩) n c,.int .i64 i,.slice vb m vc] w fun e w'=>e=.returned (.slice (some ⟨g2,0,none⟩) (n+m) G)∧w'=w3:=by
 have t3:=L.t3; have t4:=L.t4; have t24:=L.t24;have u3:=run_underlying L.t3; have u4:=run_underlying L.t4; have u24:=run_underlying L.t24;have mixed:=L.mixed;obtain ⟨nm,ta,pr,rs,fl,tn,hfn⟩:=L.bd;have F22:=L.f22;rw [hfn] at F22;have hz1:¬((m:Int)=0):=by omega
 have hz2:¬((i:Int)=(n:Int)):=by omega
 have hz3:(c:Int)<(n:Int)+(m:Int):=by omega
 have hc63:c≤9223372036854775807:=by omega
 have hGi:¬(G=i):=by omega
 have hGim:¬(G=i+m):=by omega
 have hci:¬(c=i):=by omega
 have hw1:IntKind.i64.wrap ((i:Int)+(m:Int))=(i:Int)+(m:Int):=by rw [IntKind.wrap_i64]; omega
 have hw2:IntKind.i64.wrap ((n:Int)+(m:Int))=(n:Int)+(m:Int):=by rw [IntKind.wrap_i64]; omega
 have hb1:(0:Int)≤(i:Int)+(m:Int):=by omega
 have hin:i≤n:=by omega
 have htn:((i:Int)+(m:Int)).toNat=i+m:=by omega
 have hb3:(i:Int)≤(n:Int):=by omega
 go_enter F22,Body2.n22_ntmps ρ
 go_wp2_with (first
  | (at_builtin; refine Lib.wpList_append_run _ rfl _ _ _ _ rfl _ _ rfl rfl _ _ (hz _) ?_)
  | (at_builtin; refine wpList_copy_runI _ rfl _ _ (ρ.t 24) (ρ.t 24) rfl _ _ rfl rfl (hA _) ?_))
 go_region_law_o (refine step_copy_runI rfl _ _ (ρ.t 24) (ρ.t 24) rfl (.slice (some ⟨g2,(i+m)*sz,none⟩) (n+m - (i+m)) (G - (i+m))) (.slice (some ⟨b,i*sz,none⟩) (n - i) (c - i)) (by simp [Act.eval,Act.put]) (by simp [Act.eval,Act.put]) (hB (ρ.t 3)) ?_)
 go_wp2
 go_ret
 exact ⟨rfl,rfl⟩
set_option maxHeartbeats 4000000 in
set_option maxRecDepth 100000 in
/-- there is room: in place. -/
theorem zhv (L:InsL P ρ fn) {sz:Nat} (z9:∀w,(Go.sizeOf (ρ.t 9)).run P w=.ok sz w) (b:Nat) (vb:Option Addr) (n c i m vc:Nat) (w w2 w3:World) (hm:0<m) (hi:i<n) (hroom:n+m≤c) (hc63:c≤9223372036854775807)
  (hov:(callFunc (ρ.f 29) #[.slice vb m vc,.slice (some ⟨b,(i+m)*sz,none⟩) (n+m - (i+m)) (c - (i+m))]).run P w=.ok (.value (.bool false)) w)
  {u1 u2:Value} (hA:∀ty,(Builtin.copy_ #[ρ.t 24,ρ.t 24] ty #[.slice (some ⟨b,(i+m)*sz,none⟩) (n+m - (i+m)) (c - (i+m)),.slice (some ⟨b,i*sz,none⟩) (n+m - i) (c - i)]).run P w.drew=.ok u1 w2)
  (hB:∀ty,(Builtin.copy_ #[ρ.t 24,ρ.t 24] ty #[.slice (some ⟨b,i*sz,none⟩) (n+m - i) (c - i),.slice vb m vc]).run P w2=.ok u2 w3):
  Calls P (ρ.f 22) #[.slice (some ⟨b,0,none⟩) n c,.int .i64 i,.slice vb m vc] w fun e w'=>e=.returned (.slice (some ⟨b,0,none⟩) (n+m) c)∧w'=w3:=by
 have t3:=L.t3; have t4:=L.t4; have t24:=L.t24;have u3:=run_underlying L.t3; have u4:=run_underlying L.t4; have u24:=run_underlying L.t24;have mixed:=L.mixed;obtain ⟨nm,ta,pr,rs,fl,tn,hfn⟩:=L.bd;have F22:=L.f22;rw [hfn] at F22;have hz1:¬((m:Int)=0):=by omega
 have hz2:¬((i:Int)=(n:Int)):=by omega
 have hw1:IntKind.i64.wrap ((i:Int)+(m:Int))=(i:Int)+(m:Int):=by rw [IntKind.wrap_i64]; omega
 have hb1:(0:Int)≤(i:Int)+(m:Int):=by omega
 have hin:i≤n:=by omega
 have htn:((i:Int)+(m:Int)).toNat=i+m:=by omega
 have hb2:¬(c=i+m):=by omega
 have hb3:(i:Int)≤(n:Int)+(m:Int):=by omega
 have hb4:¬(c=i):=by omega
 go_enter F22,Body2.n22_ntmps ρ
 go_wp2_with (simp only [hov])
 go_region_law_o (refine step_copy_runI rfl _ _ (ρ.t 24) (ρ.t 24) rfl (.slice (some ⟨b,(i+m)*sz,none⟩) (n+m - (i+m)) (c - (i+m))) (.slice (some ⟨b,i*sz,none⟩) (n+m - i) (c - i)) (by simp [Act.eval,Act.put]) (by simp [Act.eval,Act.put]) (hA _) ?_)
 go_wp2_with (at_builtin; refine wpList_copy_runI _ rfl _ _ (ρ.t 24) (ρ.t 24) rfl _ _ rfl rfl (hB _) ?_)
 go_ret
 exact ⟨rfl,rfl⟩
end Go.PG
set_option linter.unusedVariables false
set_option linter.unusedSimpArgs false
namespace Go.PG
open Go.Proofs Go.Shelf Go.RowKit
section
variable {C:Ctx} {tm:Nat→SV} {me:Nat→Option Blk} {pl:Nat→Plc} {S:Nat→Prop} {a:Act} {w:World} {P:Program} {T:Tab} {ρ:Ren} {fn:Func}
theorem M5 (w:World) (tS tR e:TypeId) (ht:P.underlying tS=some (.slice e)) (size:Nat) (hz:∀w,(Go.sizeOf e).run P w=.ok size w)
  (a b:Addr) (la ca lb cb:Nat) (hne:a.block≠b.block) {c1 c2:Array Value} {t1 t2:TypeId} {f1:Nat×Nat}
  (h1:w.heap[a.block]?=some (.cells c1 t1 f1)) (h2:w.heap[b.block]?=some (.cells c2 t2 (0,0))) (hk1:c1.size≠0) (hk:c2.size≠0):
  (Extern.SlicesOverlaps.overlaps #[tS,tS] #[tR] #[.slice (some a) la ca,.slice (some b) lb cb]).run P w=.ok (.bool false) w:=by
 have hnb:(a.block !=b.block)=true:=by simpa using hne
 have hnb':(a.block==b.block)=false:=by simpa using hne
 have hsa:w.shape? a.block=some (t1,c1.size):=by simp [World.shape?,h1]
 have hsb:w.shape? b.block=some (t2,c2.size):=by simp [World.shape?,h2]
 have hfb:w.frozen? b=false:=by simp [World.frozen?,h2]
 have hfe:w.frozen? {block:=b.block,off:=c2.size}=false:=by simp [World.frozen?,h2]
 change Sem.run P (α:=Value) (do
  let some t:=(#[tS,tS]:Array TypeId)[0]? | stuck "slices.overlaps: no parameter types"
  let .slice elem ←underlying t | stuck "slices.overlaps: slice type expected"
  let size ←sizeOf elem
  match (some a:Option Addr),(some b:Option Addr) with
  | some a,some b=>
   if la=0∨lb=0∨size=0 then pure (Value.bool false)
   else if a.block !=b.block&&(←frozen a)&&(←frozen b) then unsupported .addressObserved
   else do
    if a.block !=b.block then do
     noView a; noView b
     if ←mayBeOne a b then return Value.bool ((←choose (.extern "sameAddr.stringBytes" 2))==1)
    pure (Value.bool (a.block==b.block&&a.off<b.off+lb*size&&b.off<a.off+la*size))
  | _,_=>pure (Value.bool false)) w=_
 by_cases h0:la=0∨lb=0∨size=0
 ·simp [run_underlying ht,hz,h0]
 ·generalize c2.size=kB at*
  generalize c1.size=kA at*;cases kA with
  | zero=>exact absurd rfl hk1
  | succ kA=>
  cases kB with
  | zero=>exact absurd rfl hk
  | succ kB=>
   cases hfa:w.frozen? a<;>cases hfe1:w.frozen? {block:=a.block,off:=kA+1}<;>
    simp [run_underlying ht,hz,h0,hnb,hnb',frozen,noView,viewAt,mayBeOne,stringish,shape,Sem.run,hsa,hsb,hfb,hfe,hfa,hfe1]
theorem Mr (w:World) (c c':Array Value) (t:TypeId):(w.alloc (.cells c t)).setRow w.heap.size c'=w.alloc (.cells c' t):=by
 have:((w.heap.push (.cells c t)).modify w.heap.size fun | .cells _ elem frozen=>.cells c' elem frozen | o=>o)=w.heap.push (.cells c' t):=by
  apply Array.ext
  ·simp
  ·intro i h1 h2
   rw [Array.getElem_modify];simp only [Array.getElem_push]
   by_cases h:i<w.heap.size
   ·simp [h,show ¬w.heap.size=i by omega]
   ·simp at h2
    have:i=w.heap.size:=by omega
    subst this;simp
 simp only [World.setRow,World.alloc];exact congrArg (fun h=>{w with heap:=h}) this
theorem Ru (hT:Av P T) {t ts ty et:TypeId} {sz:Nat} (hd:Bm T t=some (.slice et)) (hz:∀w,(sizeOf et).run P w=.ok sz w) {g o dl dc sl:Nat} {vs:Value} {ds:List Value} {c:Array Value} {tb:TypeId}
  (hl:(Builtin.lenOf vs).run P w=.ok sl w) (hf:(Builtin.firstCells sz (min sl dl) vs).run P w=.ok ds.toArray w) (hg:w.heap[g]?=some (.cells c tb (0,0))) (hfit:o+ds.length≤c.size) (h1:∀v∈ds,v.oneCell'=true):
  (Builtin.copy_ #[t,ts] ty #[.slice (some ⟨g,o,none⟩) dl dc,vs]).run P w=.ok (goInt (min sl dl:Nat)) (w.setRow g (c.toList.take o++ds++c.toList.drop (o+ds.length)).toArray):=by
 refine Hz hT hd hz hl hf ?_;have:=run_storeCells_at P g o tb ds 0 c w hg (by omega) h1;simpa using this
theorem zx4 {e:Kd} {l:List e.T} {c:Array Value} (h:RdL (Rd S w e) l (c.toList.take (l.length*e.size))) (hc:l.length*e.size≤c.size) (i:Nat) (hi:i≤l.length):
  RdL (Rd S w e) (l.take i) (c.toList.take (i*e.size))∧RdL (Rd S w e) (l.drop i) ((c.toList.drop (i*e.size)).take ((l.length - i)*e.size)):=by
 have h1:=RdL.window (Rd.length e) h 0 i;have h2:=RdL.window (Rd.length e) h i (l.length - i);rw [Nat.zero_mul,List.drop_zero,List.drop_zero,List.take_take,Nat.min_eq_left (Nat.mul_le_mul_right _ hi)] at h1;refine ⟨h1,?_⟩;rw [List.take_of_length_le (by simp)] at h2;rw [List.drop_take,List.take_take] at h2
 rwa [show min ((l.length - i)*e.size) (l.length*e.size - i*e.size)=(l.length - i)*e.size by rw [←Nat.sub_mul]; omega] at h2
theorem zrp (hT:Av P T) (L:InsL P ρ fn) {e:Kd} (hsz:0<e.size) (hkt:tkd T (ρ.t 24)=some (.sl e)) (hd:Bm T (ρ.t 24)=some (.slice (ρ.t 9))) {dd:TyD} (hdd:Gv T (ρ.t 9)=some dd)
  (hov:∀(args:Array Value) (w:World) (b:Value) (w':World),(Extern.SlicesOverlaps.overlaps #[ρ.t 24,ρ.t 24] #[ρ.t 4] args).run P w=.ok b w'→(callFunc (ρ.f 29) args).run P w=.ok (.value b) w')
  {j ver:Nat} {l vs:List e.T} {i:Nat} (hjn:C.pp.length≤j) (hI:Inv C tm me pl S a w) (hm:me j=some (.row e l ver false)) {v0 vv:Value} (hrow:RowV (pl j) l.length v0) (hv:RdSl (Rd S w e) S w e.size vs vv)
  (hi:i≤l.length) (hlim:l.length+vs.length≤LIMB/dd.bytes):
  Calls P (ρ.f 22) #[v0,.int .i64 i,vv] w fun
   | .returned u,w'=>Cu C tm me (.own j (ver+1)) [(j,.row e (l.take i++vs++l.drop i) (ver+1) false)] a u w'
   | _,_=>False:=by
 have z9:∀w,(sizeOf (ρ.t 9)).run P w=.ok e.size w:=fun w=>Ar hT w (Eu hT hkt hd)
 obtain ⟨lim1,lim2⟩:=limb hlim;obtain ⟨ti,hti,hti2,hti3,hti4⟩:=(hT _ dd hdd).info;have hkd:dd.kd=some e:=by
  have:=Eu hT hkt hd;simpa [tkd,hdd] using this
 obtain ⟨z,hz1,hz2,_⟩:=hti4 e hkd;have hisz:ti.size=e.size:=by rw [hti2,((hT _ dd hdd).kd e hkd).1]
 have hzs:=F6 e hz2;have hsum:l.length+vs.length≤140737488355328:=by
  rcases Nat.eq_zero_or_pos dd.bytes with h0 | h0
  ·have:=lim2 h0; omega
  ·exact Nat.le_trans (Nat.le_mul_of_pos_right _ h0) lim1
 -- nothing to be put in
 have hvv:∃vb vc,vv=.slice vb vs.length vc:=by
  rcases hv with ⟨h,h0⟩ | ⟨g,off,cap,c,t,fr,h,_⟩
  ·exact ⟨none,0,by rw [h,h0]; rfl⟩
  ·exact ⟨_,_,h⟩
 obtain ⟨vb,vc,hvv⟩:=hvv;have hv0:∃base cap,v0=.slice base l.length cap∧l.length≤cap∧cap≤maxLen∧(base=none→cap=0):=by
  rcases hI.mem j _ hm with ⟨hg,hl0,hc0⟩ | ⟨g,c,tb,hg,hoff,hc,h6,h7,h8,h9,h10⟩
  ·rcases hrow with ⟨_,h⟩ | ⟨g,hg',_⟩
   ·exact ⟨none,0,by rw [h,hl0]; rfl,by rw [hl0]; simp,by simp,fun _=>rfl⟩
   ·rw [hg] at hg'; cases hg'
  ·rcases hrow with ⟨hg',_⟩ | ⟨g',hg',h⟩
   ·rw [hg] at hg'; cases hg'
   ·exact ⟨_,_,h,h6,h7,fun h=>by cases h⟩
 obtain ⟨base,cap,hv0,hlc,hcm,hnil⟩:=hv0;have hcm':cap≤9223372036854775807:=by simp only [maxLen] at hcm; omega
 by_cases hv00:vs=[]
 ·subst hv00
  have:=zro L z9 base vb l.length cap i vc w hi hlc hcm' hnil;rw [hv0,hvv];refine this.mono fun x w' hx=>?_
  obtain ⟨rfl,rfl⟩:=hx;simp only;rw [List.append_nil,List.take_append_drop];refine ⟨pl,S,?_,?_⟩
  ·rw [Ae,Ad]; exact hI.bump hm (Nat.le_succ _)
  ·rw [Ae,Ad,←hv0]
   exact ⟨e,l,ver+1,false,Aj _ _ _,Nat.le_refl _,fun _=>hrow⟩
 have hpos:0<vs.length:=List.length_pos_iff.2 hv00
 by_cases hin:i=l.length
 ·subst hin
  have h:=J3 (C:=C) (tm:=tm) (me:=me) (pl:=pl) (S:=S) (a:=a) (w:=w) (ty:=ρ.t 24) hT (np:=C.pp.length) rfl (rd:=me) (t:=ρ.t 24) (s:=.own j ver) (x:=.val (.sl e) vs) (nx:=0) (vs:=v0) (vx:=vv)
   (r:=⟨true,.own j (ver+1),[(j,.row e (l++vs) (ver+1) false)],[j],0⟩) (by
    have hb:Nat.blt j C.pp.length=false:=by
     cases hb:Nat.blt j C.pp.length with
     | false=>rfl
     | true=>simp [Nat.blt_eq] at hb; omega
    simp [R9,hkt,hd,hdd,rdSl,TV.as_self,hm,hb,hlim]) rfl (fun _ _=>rfl) hI ⟨e,l,ver,false,hm,Nat.le_refl _,fun _=>hrow⟩ (VRd.sl.2 hv)
  obtain ⟨u,w1,hrun,haft⟩:=h;rw [hv0,hvv] at hrun;have:=ins_end L z9 base vb l.length cap vs.length vc w hpos hlc hcm' hnil hrun;rw [hv0,hvv];refine this.mono fun x w' hx=>?_
  obtain ⟨rfl,rfl⟩:=hx;simp only;rw [List.take_length,List.drop_length,List.append_nil];exact haft
 have hil:i<l.length:=by omega
 rcases hI.mem j _ hm with ⟨hg,hl0,hc0⟩ | ⟨g,c,tb,hg,hoff,hc,h6,h7,h8,h9,h10⟩
 ·rw [hl0] at hil; simp at hil
 have hvb:v0=.slice (some ⟨g,0,none⟩) l.length (pl j).cap:=by
  rcases hrow with ⟨hg',_⟩ | ⟨g',hg',h⟩
  ·rw [hg] at hg'; cases hg'
  ·rw [hg] at hg'; cases hg'; exact h
 rw [hvb] at hv0;simp only [Value.slice.injEq] at hv0;obtain ⟨rfl,_,rfl⟩:=hv0;rw [hvb,hvv];have hnS:¬S g:=fun h=>by have:=h10.2 h; cases this
 have hlsz:l.length*e.size≤c.size:=by rw [h8]; exact Nat.mul_le_mul_right _ h6
 have hcl:c.toList.length=c.size:=by simp
 obtain ⟨hr1,hr2⟩:=zx4 h9 hlsz i hi;have hsg:((c.toList.drop (i*e.size)).take ((l.length - i)*e.size)).length=(l.length - i)*e.size:=by
  have:=RdL.length (Rd.length e) hr2;rw [this,List.length_drop]
 have hsg1:(c.toList.take (i*e.size)).length=i*e.size:=by
  have:=RdL.length (Rd.length e) hr1;rw [this,List.length_take,Nat.min_eq_left hi]
 have hgw:g<w.heap.size:=(Array.getElem?_eq_some_iff.1 hc).1;obtain ⟨seg,hseg⟩:∃seg,seg=(c.toList.drop (i*e.size)).take ((l.length - i)*e.size):=⟨_,rfl⟩
 rw [←hseg] at hr2 hsg;have him:(l.length+vs.length)*e.size=i*e.size+vs.length*e.size+(l.length - i)*e.size:=by
  rw [←Nat.add_mul,←Nat.add_mul]; congr 1; omega
 have hlen3:(l.take i++vs++l.drop i).length=l.length+vs.length:=by simp; omega
 by_cases hroom:l.length+vs.length≤(pl j).cap
 ·-- in place
  have hfitc:(l.length+vs.length)*e.size≤c.size:=by rw [h8]; exact Nat.mul_le_mul_right _ hroom
  have hsA:min (l.length+vs.length - i) (l.length+vs.length - (i+vs.length))=l.length - i:=by omega
  have hfA:(Builtin.firstCells e.size (min (l.length+vs.length - i) (l.length+vs.length - (i+vs.length))) (.slice (some ⟨g,i*e.size,none⟩) (l.length+vs.length - i) ((pl j).cap - i))).run P w.drew=.ok seg.toArray w.drew:=by
   rw [hsA];exact run_firstCells_some (P:=P) w.drew e.size (l.length - i) ⟨g,i*e.size,none⟩ _ _ seg hsg (fun q u hq=>by
    rw [C8,cell_of_row w.drew g (i*e.size+q) c tb (0,0) hc];exact Ew hseg.symm q u hq)
  have hA:∀ty,_:=fun ty=>Ru (P:=P) (w:=w.drew) hT hd (ts:=ρ.t 24) (ty:=ty) z9 (g:=g) (o:=(i+vs.length)*e.size) (dl:=l.length+vs.length - (i+vs.length)) (dc:=(pl j).cap - (i+vs.length)) (by simp [Builtin.lenOf]) hfA hc (by rw [hsg,←Nat.add_mul]; refine Nat.le_trans (Nat.mul_le_mul_right _ ?_) hfitc; omega) (RdL.one hr2)
  obtain ⟨c2,hc2⟩:∃c2:Array Value,c2=(c.toList.take ((i+vs.length)*e.size)++seg++c.toList.drop ((i+vs.length)*e.size+seg.length)).toArray:=⟨_,rfl⟩
  rw [←hc2] at hA;have hc2l:c2.toList=c.toList.take ((i+vs.length)*e.size)++seg++c.toList.drop ((i+vs.length)*e.size+seg.length):=by rw [hc2]
  have hvsz:(i+vs.length)*e.size+seg.length≤c.size:=by rw [hsg,←Nat.add_mul]; refine Nat.le_trans (Nat.mul_le_mul_right _ ?_) hfitc; omega
  have hc2s:c2.size=c.size:=by
   have:=congrArg List.length hc2l;simp only [Array.length_toList,List.length_append,List.length_take,List.length_drop] at this;omega
  have hg2:(w.drew.setRow g c2).heap[g]?=some (.cells c2 tb (0,0)):=setRow_heap w.drew g c _ tb (0,0) hc;have hs2:∀b,S b→S b∧(w.drew.setRow g c2).heap[b]?=w.heap[b]?:=fun b hb=>⟨hb,setRow_other w.drew g b _ (fun e=>hnS (e ▸ hb))⟩
  have hv2:RdSl (Rd S (w.drew.setRow g c2) e) S (w.drew.setRow g c2) e.size vs (.slice vb vs.length vc):=by
   rw [←hvv]; exact RdSl.mono hs2 (fun x cs h=>Rd.mono hs2 e x cs h) hv
  obtain ⟨news,hf,hnr⟩:=hv2.first (P:=P) (Rd.length e) (n:=vs.length) (Nat.le_refl _);rw [List.take_length] at hnr;have hnl:=RdL.length (Rd.length e) hnr;have hlenv:=hv2.len (P:=P);have hB:∀ty,_:=fun ty=>Ru (P:=P) (w:=w.drew.setRow g c2) hT hd (ts:=ρ.t 24) (ty:=ty) z9 (g:=g) (o:=i*e.size) (dl:=l.length+vs.length - i) (dc:=(pl j).cap - i) hlenv
   (by rw [Nat.min_eq_left (by omega)]; exact hf) hg2 (by rw [hnl,hc2s]; omega) (RdL.one hnr)
  have hvb':∃ad,vb=some ad∧∃cv tv fv,w.heap[ad.block]?=some (.cells cv tv fv)∧cv.size≠0∧ad.block≠g:=by
   rcases hv with ⟨_,h⟩ | ⟨gv,off,capv,cv,tv,fv,h,q1,q2,q3,q4⟩
   ·exact absurd h hv00
   ·rw [h] at hvv
    simp only [Value.slice.injEq] at hvv;refine ⟨⟨gv,off,none⟩,hvv.1.symm,cv,tv,fv,q3,fun h0=>?_,fun h=>hnS (h ▸ q2)⟩;have:=RdL.length (Rd.length e) q4;simp at this;have h5:0<vs.length*e.size:=Nat.mul_pos hpos hsz;omega
  obtain ⟨ad,rfl,cv,tv,fv,q3,q4,q5⟩:=hvb';have hc0:c.size≠0:=by
   have:0<(l.length+vs.length)*e.size:=Nat.mul_pos (by omega) hsz;omega
  have hover:=hov #[.slice (some ad) vs.length vc,.slice (some ⟨g,(i+vs.length)*e.size,none⟩) (l.length+vs.length - (i+vs.length)) ((pl j).cap - (i+vs.length))] w _ _
   (M5 (P:=P) w (ρ.t 24) (ρ.t 4) (ρ.t 9) (Ah hT hd) e.size z9 ad ⟨g,(i+vs.length)*e.size,none⟩ _ _ _ _ q5 q3 hc q4 hc0)
  have:=zhv L z9 g (some ad) l.length (pl j).cap i vs.length vc w _ _ hpos hil hroom hcm' hover hA hB;refine this.mono fun x w' hx=>?_
  obtain ⟨rfl,rfl⟩:=hx;simp only;rw [setRow_setRow];obtain ⟨c3,hc3⟩:∃c3:Array Value,c3=(c2.toList.take (i*e.size)++news++c2.toList.drop (i*e.size+news.length)).toArray:=⟨_,rfl⟩
  rw [←hc3];have hc3l:c3.toList=c2.toList.take (i*e.size)++news++c2.toList.drop (i*e.size+news.length):=by rw [hc3]
  have hc3s:c3.size=c.size:=by
   have:=congrArg List.length hc3l;simp only [Array.length_toList,List.length_append,List.length_take,List.length_drop] at this;omega
  have e1:c2.toList.take (i*e.size)=c.toList.take (i*e.size):=by
   rw [hc2l,List.append_assoc,List.take_append_of_le_length (by simp; rw [hcl.symm] at hvsz; simp at hvsz; rw [Nat.add_mul]; omega),List.take_take,Nat.min_eq_left (by rw [Nat.add_mul]; omega)]
  have e2:c2.toList.drop (i*e.size+news.length)=seg++c.toList.drop ((i+vs.length)*e.size+seg.length):=by
   have hh:(c.toList.take ((i+vs.length)*e.size)).length=i*e.size+news.length:=by
    rw [List.length_take,hnl,←Nat.add_mul,hcl]; omega
   rw [hc2l,List.append_assoc,←hh,List.drop_left]
  have e3:c3.toList.take ((l.take i++vs++l.drop i).length*e.size)=c.toList.take (i*e.size)++news++seg:=by
   rw [hc3l,e1,e2,←List.append_assoc];have hh:(c.toList.take (i*e.size)++news++seg).length=(l.take i++vs++l.drop i).length*e.size:=by
    rw [hlen3,him,List.length_append,List.length_append,hsg,hsg1,hnl]
   rw [←hh,List.take_left]
  have hs3:∀b,S b→S b∧(w.drew.setRow g c3).heap[b]?=w.heap[b]?:=fun b hb=>⟨hb,setRow_other w.drew g b _ (fun e=>hnS (e ▸ hb))⟩
  have hs23:∀b,S b→S b∧(w.drew.setRow g c3).heap[b]?=(w.drew.setRow g c2).heap[b]?:=fun b hb=>⟨hb,by rw [(hs3 b hb).2,(hs2 b hb).2]⟩
  refine ⟨pl,S,?_,?_⟩
  ·rw [Ae,Ad]
   refine (hI.drew).write hm hg hnS hc hc3s (by rw [hoff]; simp) (fun h=>by obtain ⟨k,x,s,e⟩:=h; cases e) rfl ⟨fun h=>(by obtain ⟨k,x,s,e⟩:=h; cases e),fun h=>(by obtain ⟨k,x,s,e⟩:=h; cases e)⟩ ⟨rfl,Nat.le_succ _,fun h=>absurd h (by omega)⟩ ?_;refine .inr ⟨g,_,tb,hg,hoff,setRow_heap w.drew g c _ tb (0,0) hc,by rw [hlen3]; exact hroom,h7,by rw [hc3s]; exact h8,?_,by simp; exact hnS⟩;rw [e3];exact RdL.append (RdL.append (RdL.mono hs3 hr1) (RdL.mono hs23 hnr)) (RdL.mono hs3 hr2)
  ·rw [Ae,Ad]
   exact ⟨e,_,ver+1,false,Aj _ _ _,Nat.le_refl _,fun _=>.inr ⟨g,hg,by rw [hlen3]⟩⟩
 ·-- a new row
  have hik:i+(l.length+vs.length - i)=l.length+vs.length:=by omega
  have hkk:(l.length:Int)+(vs.length:Int) - (i:Int)=((l.length+vs.length - i:Nat):Int):=by omega
  have hold:(Builtin.firstCells ti.size i (.slice (some ⟨g,0,none⟩) i (pl j).cap)).run P w.drew=.ok (c.toList.take (i*e.size)).toArray w.drew:=by
   rw [hisz];exact run_firstCells_some (P:=P) w.drew e.size i ⟨g,0,none⟩ _ _ _ hsg1 (fun q u hq=>by
    rw [C8,cell_of_row w.drew g (0+q) c tb (0,0) hc];exact Ew (off:=0) (by rw [List.drop_zero]) q u hq)
  have hbl:dd.bytes=0→False:=fun h0=>by have:=lim2 h0; omega
  have hb48:(l.length+vs.length - i)*ti.bytes≤281474976710656:=by
   rw [hti3];refine Nat.le_trans (Nat.mul_le_mul_right _ (Nat.sub_le _ _)) (by omega)
  have hz:∀ty,_:=fun ty=>Lib.run_append_grow_zeros (P:=P) w (ρ.t 24) (ρ.t 3) ty (ρ.t 9) ti z .i64 .i64 (Ah hT hd) L.t3 hti hz1 (some ⟨g,0,none⟩) i (pl j).cap _ hold (l.length+vs.length - i) (by omega) (by omega) (by omega) (by omega) hb48 (by rw [hti3,hik]; exact growslice_fits (by omega) lim1)
  rw [hik,←hkk] at hz;obtain ⟨Gc,hGc⟩:∃G,G=grownCap w (l.length+vs.length) (pl j).cap (ρ.t 9):=⟨_,rfl⟩
  rw [←hGc] at hz;have hG1:l.length+vs.length≤Gc:=by rw [hGc]; exact grownCap_ge w _ _ _
  have hG2:Gc≤maxLen:=by rw [hGc]; exact grownCap_le_maxLen w _ _ _ (by simp only [maxLen]; omega)
  have hG3:Gc≤9223372036854775807:=by simp only [maxLen] at hG2; omega
  obtain ⟨R1,hR1⟩:∃R:Array Value,R=(c.toList.take (i*e.size)).toArray++Builtin.zeroCells z.cells (l.length+vs.length - i)++Builtin.zeroCells z.cells (Gc - (l.length+vs.length)):=⟨_,rfl⟩
  rw [←hR1] at hz;have hR1s:R1.size=Gc*e.size:=by
   rw [hR1];simp only [Array.size_append,List.size_toArray,size_zeroCells,hzs,hsg1];rw [←Nat.add_mul,←Nat.add_mul]; congr 1; omega
  have hGsz:(l.length+vs.length)*e.size≤Gc*e.size:=Nat.mul_le_mul_right _ hG1;have hg2:(w.drew.alloc (.cells R1 (ρ.t 9))).heap[w.heap.size]?=some (.cells R1 (ρ.t 9) (0,0)):=heap_alloc_new w.drew _;have ho2:∀b,b<w.heap.size→∀R,(w.drew.alloc (.cells R (ρ.t 9))).heap[b]?=w.heap[b]?:=fun b hb R=>heap_alloc_old w.drew _ hb
  have hs2:∀b,S b→S b∧(w.drew.alloc (.cells R1 (ρ.t 9))).heap[b]?=w.heap[b]?:=fun b hb=>⟨hb,ho2 b (hI.sfr b hb).1 R1⟩
  have hv2:RdSl (Rd S (w.drew.alloc (.cells R1 (ρ.t 9))) e) S (w.drew.alloc (.cells R1 (ρ.t 9))) e.size vs (.slice vb vs.length vc):=by
   rw [←hvv]; exact RdSl.mono hs2 (fun x cs h=>Rd.mono hs2 e x cs h) hv
  obtain ⟨news,hf,hnr⟩:=hv2.first (P:=P) (Rd.length e) (n:=vs.length) (Nat.le_refl _);rw [List.take_length] at hnr;have hnl:=RdL.length (Rd.length e) hnr;have hlenv:=hv2.len (P:=P);have hA:∀ty,_:=fun ty=>Ru (P:=P) (w:=w.drew.alloc (.cells R1 (ρ.t 9))) hT hd (ts:=ρ.t 24) (ty:=ty) z9 (g:=w.heap.size) (o:=i*e.size) (dl:=l.length+vs.length - i) (dc:=Gc - i) hlenv
   (by rw [Nat.min_eq_left (by omega)]; exact hf) hg2 (by rw [hnl,hR1s]; omega) (RdL.one hnr)
  obtain ⟨R2,hR2⟩:∃R2:Array Value,R2=(R1.toList.take (i*e.size)++news++R1.toList.drop (i*e.size+news.length)).toArray:=⟨_,rfl⟩
  have hR2l:R2.toList=R1.toList.take (i*e.size)++news++R1.toList.drop (i*e.size+news.length):=by rw [hR2]
  have hw2:(w.drew.alloc (.cells R1 (ρ.t 9))).setRow w.heap.size R2=w.drew.alloc (.cells R2 (ρ.t 9)):=Mr w.drew R1 R2 _;rw [←hR2,hw2] at hA;have hR1l:R1.toList.length=R1.size:=by simp
  have hR2s:R2.size=Gc*e.size:=by
   have:=congrArg List.length hR2l;simp only [Array.length_toList,List.length_append,List.length_take,List.length_drop] at this;omega
  have hR2l':R2.toList.length=R2.size:=by simp
  have hcB:(w.drew.alloc (.cells R2 (ρ.t 9))).drew.heap[g]?=some (.cells c tb (0,0)):=by
   show (w.drew.alloc (.cells R2 (ρ.t 9))).heap[g]?=_;rw [ho2 g hgw]; exact hc
  have hfB:(Builtin.firstCells e.size (min (l.length - i) (l.length+vs.length - (i+vs.length))) (.slice (some ⟨g,i*e.size,none⟩) (l.length - i) ((pl j).cap - i))).run P (w.drew.alloc (.cells R2 (ρ.t 9))).drew=.ok seg.toArray (w.drew.alloc (.cells R2 (ρ.t 9))).drew:=by
   rw [show min (l.length - i) (l.length+vs.length - (i+vs.length))=l.length - i by omega];exact run_firstCells_some (P:=P) _ e.size (l.length - i) ⟨g,i*e.size,none⟩ _ _ seg hsg (fun q u hq=>by
    rw [C8,cell_of_row _ g (i*e.size+q) c tb (0,0) hcB];exact Ew hseg.symm q u hq)
  have hvsz:(i+vs.length)*e.size+seg.length≤R2.size:=by rw [hsg,hR2s,←Nat.add_mul]; refine Nat.le_trans (Nat.mul_le_mul_right _ ?_) hGsz; omega
  have hB:∀ty,_:=fun ty=>Ru (P:=P) (w:=(w.drew.alloc (.cells R2 (ρ.t 9))).drew) hT hd (ts:=ρ.t 24) (ty:=ty) z9 (g:=w.heap.size) (o:=(i+vs.length)*e.size) (dl:=l.length+vs.length - (i+vs.length)) (dc:=Gc - (i+vs.length)) (by simp [Builtin.lenOf]) hfB
   (c:=R2) (tb:=ρ.t 9) (heap_alloc_new w.drew _) hvsz (RdL.one hr2)
  have:=zrq L z9 g w.heap.size vb l.length (pl j).cap i vs.length vc Gc w _ _ _ hpos hil hlc (by omega) (by omega) hG1 hG3 hz hA hB;refine this.mono fun x w' hx=>?_
  obtain ⟨rfl,rfl⟩:=hx;simp only;obtain ⟨R3,hR3⟩:∃R3:Array Value,R3=(R2.toList.take ((i+vs.length)*e.size)++seg++R2.toList.drop ((i+vs.length)*e.size+seg.length)).toArray:=⟨_,rfl⟩
  have hR3l:R3.toList=R2.toList.take ((i+vs.length)*e.size)++seg++R2.toList.drop ((i+vs.length)*e.size+seg.length):=by rw [hR3]
  have hw3:(w.drew.alloc (.cells R2 (ρ.t 9))).drew.setRow w.heap.size R3=w.drew.drew.alloc (.cells R3 (ρ.t 9)):=Mr w.drew.drew R2 R3 _;rw [←hR3,hw3];have hR3s:R3.size=Gc*e.size:=by
   have:=congrArg List.length hR3l;simp only [Array.length_toList,List.length_append,List.length_take,List.length_drop] at this;omega
  have e1:R2.toList.take ((i+vs.length)*e.size)=c.toList.take (i*e.size)++news:=by
   have hh:(c.toList.take (i*e.size)++news).length=(i+vs.length)*e.size:=by rw [List.length_append,hsg1,hnl,Nat.add_mul]
   have e0:R1.toList.take (i*e.size)=c.toList.take (i*e.size):=by
    rw [hR1];simp only [Array.toList_append,List.append_assoc];rw [List.take_append_of_le_length (by rw [List.toList_toArray,hsg1]; exact Nat.le_refl _),List.toList_toArray,List.take_take,Nat.min_self]
   rw [hR2l,e0,←hh,List.take_left]
  have e3:R3.toList.take ((l.take i++vs++l.drop i).length*e.size)=c.toList.take (i*e.size)++news++seg:=by
   rw [hR3l,e1];have hh:(c.toList.take (i*e.size)++news++seg).length=(l.take i++vs++l.drop i).length*e.size:=by
    rw [hlen3,him,List.length_append,List.length_append,hsg,hsg1,hnl]
   rw [←hh,List.take_left]
  have hs3:∀b,S b→S b∧w.drew.drew.heap[b]?=w.heap[b]?:=fun b hb=>⟨hb,rfl⟩
  have hs23:∀b,S b→S b∧w.drew.drew.heap[b]?=(w.drew.alloc (.cells R1 (ρ.t 9))).heap[b]?:=fun b hb=>⟨hb,by rw [(hs2 b hb).2]; rfl⟩
  refine ⟨upd pl j ⟨some w.drew.drew.heap.size,0,Gc⟩,S,?_,?_⟩
  ·rw [Ae,Ad]
   refine (hI.drew.drew).grownRow (fun b0 hb0=>by rw [hm] at hb0; cases hb0; exact ⟨_,_,_,rfl,Nat.lt_succ_self _⟩) hjn (by rw [hlen3]; exact hG1) hG2 hR3s ?_;rw [e3];exact RdL.append (RdL.append (RdL.mono hs3 hr1) (RdL.mono hs23 hnr)) (RdL.mono hs3 hr2)
  ·rw [Ae,Ad]
   exact ⟨e,_,ver+1,false,Aj _ _ _,Nat.le_refl _,fun _=>.inr ⟨w.heap.size,by simp,by rw [hlen3]; simp⟩⟩
end
end Go.PG
namespace Go.PG
open Go.Proofs Go.Shelf Go.RowKit
variable {P:Program} {T:Tab} {ρ:Ren} {fn:Func}
theorem ins_ok (hT:Av P T) (L:InsL P ρ fn) (hname:(fn.name== "runtime.NumGoroutine")=false) {e:Kd} (hsz:0<e.size) (hkt:tkd T (ρ.t 24)=some (.sl e)) (hd:Bm T (ρ.t 24)=some (.slice (ρ.t 9))) {dd:TyD} (hdd:Gv T (ρ.t 9)=some dd)
  {fo:Func} (hf:P.funcs[ρ.f 29]?=some fo) (hn:(fo.name== "runtime.NumGoroutine")=false) (hb:fo.body.isNone=true) (hx:Extern.findNext fo=none) (hy:Extern.find fo=some (Extern.SlicesOverlaps.overlaps #[ρ.t 24,ρ.t 24] #[ρ.t 4])) {lim:Nat} (hlim:lim=LIMB/dd.bytes) (hl0:(Nat.beq lim 0)=false):
  Sb P (ρ.f 22) e lim:=by
 refine ⟨enters L.f22 hname ?_,⟨fun h=>absurd hl0 (by rw [h]; decide),fun _ C tm me pl S a w j ver l vs i v0 vv hjn hI hm hrow hv hi hl=>?_⟩⟩
 ·obtain ⟨nm,ta,pr,rs,fl,tn,hfn⟩:=L.bd
  rw [hfn]; rfl
 ·refine zrp hT L hsz hkt hd hdd (fun args w b w' h=>?_) hjn hI hm hrow hv hi (by rw [←hlim]; exact hl)
  rw [run_callFunc_extern hf hn hb hx hy,h];rfl
end Go.PG
namespace Go.PG
section
variable {P:Program}
def zxr {e:Kd} (E:Env (List e.T)) (body:Code) (t:Tmp) (l:List e.T):Option (List e.T):=
 exec E body ⟨[(0,.val (.sl e) l)],[],0⟩ fun x σ=>match x with
  | .exit _=>none
  | _=>match tget σ.tm t with
   | .cap e' l'=>TV.as ⟨.sl e',l'⟩ (.sl e)
   | _=>none
theorem V6 {e:Kd} {E:Env (List e.T)} (hE:Az P E) (hm:P.follows .mixedOrders=true) {f:FuncId} {fn:Func} {body:Code} (hf:P.funcs[f]?=some fn) (hb:fn.body=some body)
  (hnp:E.np=0) (hntf:fn.ntmps=E.nt) {t:Tmp} (hres:fn.results.toList=[.tmp t]) (hle:1≤E.nt) (hl:Ap body=[]) {l:List e.T} (h:zxr E body t l=some l)
  (w:World) (S:Nat→Prop) (v:Value) (hS:∀b,S b→b<w.heap.size) (hv:VRd S w (.sl e) l v):
  Calls P f #[v] w fun
   | .returned u,w'=>∃S':Nat→Prop,(∀b,S b→S' b)∧(∀b,S' b→b<w'.heap.size∧(S b∨w.heap.size≤b))∧Gj w [] w'∧VRd S' w' (.sl e) l u∧∃a n,u=.slice a n n
   | _,_=>False:=by
 unfold zxr at h;obtain ⟨ex,σ,h1,_,h2⟩:=Cz hE hm body (by rw [hl]; intro l hl; cases hl) _ _ _ h;have h1':(ex=.normal∨ex=.ret)∧tget σ.tm t=.cap e l:=by
  have main:(match tget σ.tm t with
   | .cap e' l'=>TV.as ⟨.sl e',l'⟩ (.sl e)
   | _=>none)=some l→tget σ.tm t=.cap e l:=by
   intro h1;split at h1<;>try (cases h1; done)
   rename_i e' l' hl';have:=TV.as_some h1;cases this;exact hl'
  cases ex with
  | exit i=>simp at h1
  | normal=>exact ⟨.inl rfl,main h1⟩
  | ret=>exact ⟨.inr rfl,main h1⟩
 obtain ⟨he,htm⟩:=h1';refine calls_of_wp hf hb ?_
 let C:Ctx:=⟨w,S,E.nt,[],fun _ _=>False,fun _=>False⟩
 let pl:Nat→Plc:=fun _=>⟨none,0,0⟩
 refine h2 C hnp rfl (fun _ _ _ h=>h) (bodyPost P fn _) (fun pl' S' a' w' hI'=>?_) pl S _ w ?_
 ·have hG:=hI'.tms t
  rw [htm] at hG;obtain ⟨q1,q2⟩:=hG;have hrun:=Dj (P:=P) (w:=w') (fn:=fn) (res:=[(.tmp t,0,false)]) (by rw [hres]; rfl) (vs:=[a'.tmps.getD t undef]) ⟨[],rfl,rfl⟩;have hpost:∃S'':Nat→Prop,(∀b,S b→S'' b)∧(∀b,S'' b→b<w'.heap.size∧(S b∨w.heap.size≤b))∧Gj w [] w'∧VRd S'' w' (.sl e) l (Gx [a'.tmps.getD t undef])∧∃a n,Gx [a'.tmps.getD t undef]=.slice a n n:=
   ⟨S',hI'.s0,fun b hb=>⟨(hI'.sfr b hb).1,(hI'.sfr b hb).2.imp id (fun h=>h.resolve_right id)⟩,hI'.fr,q1,q2⟩
  rcases he with rfl | rfl
  ·exact ⟨hI'.df,_,hrun,hpost⟩
  ·exact ⟨hI'.df,_,hrun,hpost⟩
 ·refine ⟨?_,rfl,fun t=>?_,fun i b hi=>(by cases hi),fun i b hi=>(by cases hi),fun i j bi bj g _ hi=>(by cases hi),fun _ h=>h,fun b hb=>⟨hS b hb,.inl hb⟩,⟨rfl,rfl,rfl,Nat.le_refl _,fun _ _ _ _=>rfl,fun e he _=>(by cases he)⟩,fun e he=>(by cases he),fun _ _ h=>h.elim⟩
  ·simp only [Array.size_append,Array.size_replicate,C,List.size_toArray,List.length_cons,List.length_nil]
   omega
  ·show G S w (mget []) pl (tget [(0,.val (.sl e) l)] t) _
   cases t with
   | zero=>
    have e1:(#[v]++Array.replicate (fn.ntmps - #[v].size) undef).getD 0 undef=v:=by
     rw [Array.getD_eq_getD_getElem?,Array.getElem?_append_left (by simp)];simp
    rw [e1];exact hv
   | succ t=>exact trivial
theorem clip_ok {e:Kd} {E:Env (List e.T)} (hE:Az P E) (hm:P.follows .mixedOrders=true) {f:FuncId} {fn:Func} {body:Code} (hf:P.funcs[f]?=some fn) (hb:fn.body=some body) (hname:(fn.name== "runtime.NumGoroutine")=false)
  (hnp:E.np=0) (hntf:fn.ntmps=E.nt) {t:Tmp} (hres:fn.results.toList=[.tmp t]) (hle:1≤E.nt) (hl:Ap body=[])
  (heq:∀l,zxr E body t l=(match decide ((List.length l:Int)=(List.length l:Int)∧(0:Int)≤(List.length l:Int)∧(List.length l:Int)≤(List.length l:Int)) with | true=>some (List.take (Int.toNat (List.length l:Int)) l) | false=>none)):
  Sb P f e 0:=
 ⟨enters hf hname (by rw [hb]; rfl),fun _ w S l v hS hv=>V6 hE hm hf hb hnp hntf hres hle hl (by
  rw [heq l];have:decide ((List.length l:Int)=(List.length l:Int)∧(0:Int)≤(List.length l:Int)∧(List.length l:Int)≤(List.length l:Int))=true:=by simp
  rw [this];simp) w S v hS hv,fun h=>absurd rfl h⟩
end
end Go.PG
namespace Go.PG
def cP (R:Type):Ins→Type
 | []=>Option R
 | (true,k)::l=>k.T→cP R l
 | (false,_)::l=>cP R l
def cK (R:Type) (ins:Ins):Ins→Type
 | []=>cP R ins
 | (b,k)::l=>RT1 b k→cK R ins l
def cA (R:Type) (K:Type):Ins→Type
 | []=>K→Option R
 | (_,k)::l=>k.T→cA R K l
def pP (R:Type):(l:Ins)→(PT l→Option R)→cP R l
 | [],f=>f ()
 | (true,_)::l,f=>fun x=>pP R l fun y=>f (x,y)
 | (false,_)::l,f=>pP R l f
def pK (R:Type) (ins:Ins):(l:Ins)→(RT l→PT ins→Option R)→cK R ins l
 | [],f=>pP R ins (f ())
 | (_,_)::l,f=>fun x=>pK R ins l fun y=>f (x,y)
def pA (R:Type) (K:Type):(l:Ins)→cA R K l→AT l→K→Option R
 | [],f,_=>f
 | (_,_)::l,f,x=>pA R K l (f x.1) x.2
def eM (f:FuncId) (ins outs:Ins) (F:(R:Type)→cA R (cK R ins outs) ins):Ent:=
 ⟨f,ins,outs,fun R x k=>pA R _ ins (F R) x (pK R ins outs k)⟩
def vI (l:List Kd):Ins:=l.map fun k=>(false,k)
def eV (f:FuncId) (ins outs:List Kd) (F:(R:Type)→cA R (cK R (vI ins) (vI outs)) (vI ins)):Ent:=eM f (vI ins) (vI outs) F
def cH (K:Type):List HI→Type
 | []=>K
 | .val _ k::l=>k.T→cH K l
 | .fix _ _::l=>cH K l
 | .var _ k _::l=>k.T→cH K l
 | .row _ e _::l=>List e.T→cH K l
 | .mix _ fl::l=>MT fl→cH K l
 | .map _ kk kv::l=>List (kk.T×kv.T)→cH K l
def aH (K:Type):(H:List HI)→cH K H→HT H→K
 | [],f,_=>f
 | .val _ _::l,f,x=>aH K l (f x.1) x.2
 | .fix _ _::l,f,x=>aH K l f x
 | .var _ _ _::l,f,x=>aH K l (f x.1) x.2
 | .row _ _ _::l,f,x=>aH K l (f x.1) x.2
 | .mix _ _::l,f,x=>aH K l (f x.1) x.2
 | .map _ _ _::l,f,x=>aH K l (f x.1) x.2
def lH (K:Type):(H:List HI)→(HT H→K)→cH K H
 | [],f=>f ()
 | .val _ _::l,f=>fun x=>lH K l fun y=>f (x,y)
 | .fix _ _::l,f=>lH K l f
 | .var _ _ _::l,f=>fun x=>lH K l fun y=>f (x,y)
 | .row _ _ _::l,f=>fun x=>lH K l fun y=>f (x,y)
 | .mix _ _::l,f=>fun x=>lH K l fun y=>f (x,y)
 | .map _ _ _::l,f=>fun x=>lH K l fun y=>f (x,y)
def cE (R:Type):Exs→Type
 | []=>Option R
 | (_,h)::l=>cH (Option R) h→cE R l
def aE (R:Type):(l:Exs)→cE R l→KT R l→Option R
 | [],f,_=>f
 | (_,h)::l,f,k=>aE R l (f (lH (Option R) h k.1)) k.2
def lM (id:Nat) (H:List HI) (nx:Nat) (exs:Exs) (L:(R:Type)→cH (cE R exs) H):LEnt:=
 ⟨id,H,nx,exs,fun R x ke=>aE R exs (aH _ H (L R) x) ke⟩
def EQ (en:Ent) (E:(R:Type)→Env R) (fn:Func) (res:List (ResultVar×TypeId×Bool)):Prop:=
 ∀R x k,xfun (E R) (Ag fn) res (avs en.ins x) (finK en.outs en.ins k)=en.F R x k
def LEQ (le:LEnt) (E:(R:Type)→Env R) (fn:Func) (p:(R:Type)→cH (cE R ((.normal,le.H)::le.exs)) le.H):Prop:=
 ∀R x kc ke,exec (E R) (Cf le.id (Ag fn)) (stOf le.H x le.nx) (Mg le.H le.exs kc ke)=aE R ((.normal,le.H)::le.exs) (aH _ le.H (p R) x) (kc,ke)
def mE (T:Tab) (eqt:List Nat) (np nt:Nat) (own:List (Nat×Nat)) (ents:List Ent) (les:List LEnt) (R:Type):Env R:=
 ⟨T,eqt,np,nt,Bo own,Bc ents R,Bf les R,[],Bd [],[]⟩
def resB:List ResultVar→List (ResultVar×TypeId×Bool)→Bool
 | [],[]=>true
 | .tmp t::l,(.tmp t',_)::m=>Nat.beq t t'&&resB l m
 | .cell t k::l,(.cell t' k',_)::m=>Nat.beq t t'&&Nat.beq k k'&&resB l m
 | _,_=>false
theorem Wj:∀{l:List ResultVar} {m:List (ResultVar×TypeId×Bool)},resB l m=true→l=m.map (·.1)
 | [],[],_=>rfl
 | .tmp t::l,(.tmp t',_)::m,h=>by
  simp only [resB,Bool.and_eq_true] at h;rw [List.map_cons,←Wj h.2,Nat.eq_of_beq_eq_true h.1]
 | .cell t k::l,(.cell t' k',_)::m,h=>by
  simp only [resB,Bool.and_eq_true] at h;rw [List.map_cons,←Wj h.2,Nat.eq_of_beq_eq_true h.1.1,Nat.eq_of_beq_eq_true h.1.2]
 | .tmp _::_,(.cell _ _,_)::_,h=>by cases h
 | .cell _ _::_,(.tmp _,_)::_,h=>by cases h
 | [],_::_,h=>by cases h
 | .tmp _::_,[],h=>by cases h
 | .cell _ _::_,[],h=>by cases h
def ptrs:Ins→Nat
 | []=>0
 | (true,_)::l=>Nat.succ (ptrs l)
 | (false,_)::l=>ptrs l
theorem Wk:∀{l:Ins} (x:AT l),nptr (avs l x)=ptrs l
 | [],_=>rfl
 | (true,k)::l,x=>by
  have:=Wk (l:=l) x.2;simp only [avs,nptr,ptrs,this]
 | (false,k)::l,x=>by
  have:=Wk (l:=l) x.2;simp only [avs,nptr,ptrs,this]
theorem zi6:∀{l:Ins} (x:AT l),(avs l x).length=l.length
 | [],_=>rfl
 | (b,k)::l,x=>by simp only [avs,List.length_cons,zi6 (l:=l) x.2]
def fnB (fn:Func) (np nt:Nat) (res:List (ResultVar×TypeId×Bool)) (ins:Ins):Bool:=
 fn.body.isSome&& !(fn.name== "runtime.NumGoroutine")&&Nat.beq fn.ntmps nt&&resB fn.results.toList res&&Nat.beq (ptrs ins) np&&Nat.ble ins.length nt
structure Seat (P:Program) (T:Tab) (eqt:List Nat):Prop where
 tab:Av P T
 eq:∀t∈eqt,∀k,tkd T t=some k→EqOK P t k
 mixed:P.follows .mixedOrders=true
def LL (P:Program) (np nt:Nat) (les:List LEnt) (body:Code):List Nat→Prop
 | []=>True
 | i::ids=>(∃e,zqb les (Eb (Cf i body))=some e∧e.OK P np nt (Cf i body))∧LL P np nt les body ids
section
variable {P:Program} {T:Tab} {eqt:List Nat}
theorem LL.ok {E:(R:Type)→Env R} {les:List LEnt} {np nt:Nat} (hnp:∀R,(E R).np=np) (hnt:∀R,(E R).nt=nt) (hlo:∀R,(E R).loop=Bf les R) {body:Code}:
  ∀{ids:List Nat} {cs:List Code},LL P np nt les body ids→cs=ids.map (Cf · body)→∀R,∀l∈cs,Fj (E R) P l
 | [],cs,_,h,R,l,hl=>by rw [h] at hl; cases hl
 | i::ids,cs,⟨⟨e,h1,h2⟩,h3⟩,h,R,l,hl=>by
  rw [h,List.map_cons] at hl;rcases List.mem_cons.1 hl with rfl | hl
  ·exact H5 (hlo R) h1 (by rw [hnp,hnt]; exact h2)
  ·exact LL.ok hnp hnt hlo h3 rfl R l hl
theorem Seat.ok2 (S:Seat P T eqt) {en:Ent} {E:(R:Type)→Env R} {fn:Func} {res:List (ResultVar×TypeId×Bool)} (q:EQ en E fn res) (hE:∀R,Az P (E R)) (hf:P.funcs[en.f]?=some fn)
  {np nt:Nat} (hnp:∀R,(E R).np=np) (hnt:∀R,(E R).nt=nt) (hB:fnB fn np nt res en.ins=true) (hl:∀R,∀l∈Ap (Ag fn),Fj (E R) P l):en.OK P:=by
 simp only [fnB,Bool.and_eq_true,Bool.not_eq_true'] at hB;obtain ⟨⟨⟨⟨⟨h1,h2⟩,h3⟩,h4⟩,h5⟩,h6⟩:=hB;obtain ⟨body,hb⟩:=Option.isSome_iff_exists.1 h1;have hcb:Ag fn=body:=by unfold Ag; rw [hb]; rfl
 exact ent_ok hE S.mixed hf (body:=Ag fn) (by rw [hcb]; exact hb) h2 hnp hnt (Nat.eq_of_beq_eq_true h3) (Wj h4) (fun x=>by rw [Wk]; exact Nat.eq_of_beq_eq_true h5) (fun x=>by rw [zi6]; exact Nat.le_of_ble_eq_true h6) hl q
theorem Seat.env (S:Seat P T eqt) {np nt:Nat} {own:List (Nat×Nat)} {ents:List Ent} {les:List LEnt} (he:∀e∈ents,e.OK P) (R:Type):Az P (mE T eqt np nt own ents les R):=
 ⟨S.tab,S.eq,Aq he,Bs,Ak⟩
theorem Seat.ok0 (S:Seat P T eqt) {en:Ent} {fn:Func} {np nt:Nat} {own:List (Nat×Nat)} {ents:List Ent} {res:List (ResultVar×TypeId×Bool)} (q:EQ en (mE T eqt np nt own ents []) fn res) (he:∀e∈ents,e.OK P)
  (hf:P.funcs[en.f]?=some fn) (hB:(fnB fn np nt res en.ins&&zhr (Ap (Ag fn)))=true:=by kernel_rfl):en.OK P:=by
 rw [Bool.and_eq_true] at hB;refine S.ok2 q (S.env he) hf (fun _=>rfl) (fun _=>rfl) hB.1 (fun R l hl=>?_);cases hn:Ap (Ag fn) with
 | nil=>rw [hn] at hl; cases hl
 | cons _ _=>rw [hn] at hB; cases hB.2
theorem Seat.ok1 (S:Seat P T eqt) {en:Ent} {fn:Func} {np nt:Nat} {own:List (Nat×Nat)} {ents:List Ent} {les:List LEnt} {res:List (ResultVar×TypeId×Bool)} (q:EQ en (mE T eqt np nt own ents les) fn res) (he:∀e∈ents,e.OK P)
  (hf:P.funcs[en.f]?=some fn) (ids:List Nat) (hl:LL P np nt les (Ag fn) ids) (hB:fnB fn np nt res en.ins=true:=by kernel_rfl) (hi:Ap (Ag fn)=ids.map (Cf · (Ag fn)):=by kernel_rfl):en.OK P:=
 S.ok2 q (S.env he) hf (fun _=>rfl) (fun _=>rfl) hB (hl.ok (fun _=>rfl) (fun _=>rfl) (fun _=>rfl) hi)
theorem Seat.lok2 (S:Seat P T eqt) {id:Nat} {H:List HI} {nx:Nat} {exs:Exs} {G:Nat→(R:Type)→cH (cE R exs) H} {p:(R:Type)→cH (cE R ((.normal,H)::exs)) H} {E:(R:Type)→Env R} {fn:Func} {np nt:Nat}
  (q:LEQ (lM id H nx exs (G FUEL)) E fn p) (hE:∀R,Az P (E R)) (hnp:∀R,(E R).np=np) (hnt:∀R,(E R).nt=nt) (hl:∀R,∀l∈Ap (Cf id (Ag fn)),Fj (E R) P l)
  (h0:∀R x ke,aE R exs (aH _ H (G 0 R) x) ke=none) (hs:∀n R x ke,aE R exs (aH _ H (G (n+1) R) x) ke=aE R ((.normal,H)::exs) (aH _ H (p R) x) (fun x'=>aE R exs (aH _ H (G n R) x') ke,ke)):
  (lM id H nx exs (G FUEL)).OK P np nt (Cf id (Ag fn)):=by
 have key:∀(n:Nat) (R:Type) (x:HT H) (ke:KT R exs),iter (fun R x kc ke=>aE R ((.normal,H)::exs) (aH _ H (p R) x) (kc,ke)) n R x ke=aE R exs (aH _ H (G n R) x) ke:=by
  intro n
  induction n with
  | zero=>intro R x ke; exact (h0 R x ke).symm
  | succ n ih=>
   intro R x ke;simp only [iter];rw [hs,show (fun x'=>iter (fun R x kc ke=>aE R ((.normal,H)::exs) (aH _ H (p R) x) (kc,ke)) n R x' ke)=fun x'=>aE R exs (aH _ H (G n R) x') ke from funext fun x'=>ih R x' ke]
 exact fun R x ke r h=>Ek E np nt hnp hnt hE S.mixed hl (T:=fun R x kc ke=>aE R ((.normal,H)::exs) (aH _ H (p R) x) (kc,ke)) q FUEL R x ke r ((key FUEL R x ke).trans h)
theorem Seat.lok (S:Seat P T eqt) {id:Nat} {H:List HI} {nx:Nat} {exs:Exs} {G:Nat→(R:Type)→cH (cE R exs) H} {p:(R:Type)→cH (cE R ((.normal,H)::exs)) H} {fn:Func} {np nt:Nat} {own:List (Nat×Nat)} {ents:List Ent} {les:List LEnt}
  (q:LEQ (lM id H nx exs (G FUEL)) (mE T eqt np nt own ents les) fn p) (he:∀e∈ents,e.OK P) (ids:List Nat) (hl:LL P np nt les (Ag fn) ids) (hi:Ap (Cf id (Ag fn))=ids.map (Cf · (Ag fn)):=by kernel_rfl)
  (h0:∀R x ke,aE R exs (aH _ H (G 0 R) x) ke=none:=by intro _ _ _; kernel_rfl) (hs:∀n R x ke,aE R exs (aH _ H (G (n+1) R) x) ke=aE R ((.normal,H)::exs) (aH _ H (p R) x) (fun x'=>aE R exs (aH _ H (G n R) x') ke,ke):=by intro _ _ _ _; kernel_rfl):
  (lM id H nx exs (G FUEL)).OK P np nt (Cf id (Ag fn)):=
 S.lok2 q (S.env he) (fun _=>rfl) (fun _=>rfl) (hl.ok (fun _=>rfl) (fun _=>rfl) (fun _=>rfl) hi) h0 hs
theorem Seat.ok3 (S:Seat P T eqt) {en:Ent} {E:(R:Type)→Env R} {fn:Func} {res:List (ResultVar×TypeId×Bool)} (q:EQ en E fn res) (hE:∀R,Az P (E R)) (hf:P.funcs[en.f]?=some fn)
  {np nt:Nat} {les:List LEnt} (hnp:∀R,(E R).np=np) (hnt:∀R,(E R).nt=nt) (hlo:∀R,(E R).loop=Bf les R) (ids:List Nat) (hl:LL P np nt les (Ag fn) ids) (hB:fnB fn np nt res en.ins=true:=by kernel_rfl) (hi:Ap (Ag fn)=ids.map (Cf · (Ag fn)):=by kernel_rfl):en.OK P:=
 S.ok2 q hE hf hnp hnt hB (hl.ok hnp hnt hlo hi)
theorem Seat.lok3 (S:Seat P T eqt) {id:Nat} {H:List HI} {nx:Nat} {exs:Exs} {G:Nat→(R:Type)→cH (cE R exs) H} {p:(R:Type)→cH (cE R ((.normal,H)::exs)) H} {E:(R:Type)→Env R} {fn:Func} {np nt:Nat} {les:List LEnt}
  (q:LEQ (lM id H nx exs (G FUEL)) E fn p) (hE:∀R,Az P (E R)) (hnp:∀R,(E R).np=np) (hnt:∀R,(E R).nt=nt) (hlo:∀R,(E R).loop=Bf les R) (ids:List Nat) (hl:LL P np nt les (Ag fn) ids) (hi:Ap (Cf id (Ag fn))=ids.map (Cf · (Ag fn)):=by kernel_rfl)
  (h0:∀R x ke,aE R exs (aH _ H (G 0 R) x) ke=none:=by intro _ _ _; kernel_rfl) (hs:∀n R x ke,aE R exs (aH _ H (G (n+1) R) x) ke=aE R ((.normal,H)::exs) (aH _ H (p R) x) (fun x'=>aE R exs (aH _ H (G n R) x') ke,ke):=by intro _ _ _ _; kernel_rfl):
  (lM id H nx exs (G FUEL)).OK P np nt (Cf id (Ag fn)):=
 S.lok2 q hE hnp hnt (hl.ok hnp hnt hlo hi) h0 hs
end
end Go.PG
set_option maxRecDepth 100000
namespace Go.PG
open Go.Proofs
abbrev LI:=List Int
abbrev Kq1:Kd:=(.pair .bool (.pair (.arr 32 (.int .u8)) .unit))
abbrev Tq1:Type:=(Bool×(LI×Unit))
abbrev Kq2:Kd:=(.pair (.arr 32 (.int .u8)) Kq1)
abbrev Tq2:Type:=(LI×Tq1)
abbrev Kq3:Kd:=(.pair (.int .i64) Kq2)
abbrev Tq3:Type:=(Int×Tq2)
abbrev Kq4:Kd:=(.pair (.int .u64) (.pair (.int .u64) .unit))
abbrev Tq4:Type:=(Int×(Int×Unit))
abbrev Kq5:Kd:=(.pair (.arr 32 (.int .u8)) Kq4)
abbrev Tq5:Type:=(LI×Tq4)
abbrev Tq6:Type:=(LI×Int)
abbrev Kq7:Kd:=(.pair (.int .u64) (.pair (.int .i64) .unit))
abbrev Tq7:Type:=(Int×(Int×Unit))
abbrev Kq8:Kd:=(.pair .fn (.pair .fn .unit))
abbrev Tq8:Type:=(FnV×(FnV×Unit))
abbrev Kq9:Kd:=(.pair (.int .i64) Kq8)
abbrev Tq9:Type:=(Int×Tq8)
abbrev Kq10:Kd:=(.pair (.arr 32 (.int .u8)) (.pair (.int .i64) .unit))
abbrev Tq10:Type:=(LI×(Int×Unit))
abbrev Kq11:Kd:=(.pair (.int .u64) Kq10)
abbrev Tq11:Type:=(Int×Tq10)
abbrev Kq12:Kd:=(.pair (.int .i64) Kq11)
abbrev Tq12:Type:=(Int×Tq11)
abbrev Kq13:Kd:=(.pair (.int .i64) Kq12)
abbrev Tq13:Type:=(Int×Tq12)
abbrev Tq14:Type:=(Int×FnV)
abbrev Kq15:Kd:=(.pair (.sl (.int .i64)) (.pair (.arr 32 (.int .u8)) .unit))
abbrev Tq15:Type:=(LI×(LI×Unit))
abbrev Kq16:Kd:=(.pair (.int .u64) Kq15)
abbrev Tq16:Type:=(Int×Tq15)
abbrev Kq17:Kd:=(.pair (.int .i64) Kq16)
abbrev Tq17:Type:=(Int×Tq16)
abbrev Kq18:Kd:=(.pair (.int .i64) (.pair (.int .i64) .unit))
abbrev Tq18:Type:=(Int×(Int×Unit))
abbrev Kq19:Kd:=(.pair (.int .i64) Kq18)
abbrev Tq19:Type:=(Int×Tq18)
abbrev Kq20:Kd:=(.pair (.int .i64) Kq19)
abbrev Tq20:Type:=(Int×Tq19)
abbrev Kq21:Kd:=(.pair (.int .i64) Kq20)
abbrev Tq21:Type:=(Int×Tq20)
abbrev Kq22:Kd:=(.pair (.arr 32 (.int .u8)) (.pair (.sl Kq3) .unit))
abbrev Tq22:Type:=(LI×((List Tq3)×Unit))
abbrev Kq23:Kd:=(.pair (.arr 32 (.int .u8)) Kq22)
abbrev Tq23:Type:=(LI×Tq22)
abbrev Kq24:Kd:=(.pair (.int .u64) Kq23)
abbrev Tq24:Type:=(Int×Tq23)
abbrev Kq25:Kd:=(.pair (.sl (.int .i64)) (.pair (.sl (.int .i64)) .unit))
abbrev Tq25:Type:=(LI×(LI×Unit))
abbrev Kq26:Kd:=(.pair Kq24 Kq25)
abbrev Tq26:Type:=(Tq24×Tq25)
abbrev Kq27:Kd:=(.pair (.sl Kq5) Kq26)
abbrev Tq27:Type:=((List Tq5)×Tq26)
abbrev Kq28:Kd:=(.pair (.int .i64) Kq27)
abbrev Tq28:Type:=(Int×Tq27)
abbrev Kq29:Kd:=(.pair Kq21 Kq28)
abbrev Tq29:Type:=(Tq21×Tq28)
abbrev Kq30:Kd:=(.pair Kq17 .unit)
abbrev Tq30:Type:=(Tq17×Unit)
abbrev Kq31:Kd:=(.pair Kq29 Kq30)
abbrev Tq31:Type:=(Tq29×Tq30)
abbrev Kq32:Kd:=(.pair (.sl (.int .u8)) (.pair (.int .u64) .unit))
abbrev Tq32:Type:=(LI×(Int×Unit))
abbrev Kq33:Kd:=(.pair (.arr 8 (.int .u32)) Kq32)
abbrev Tq33:Type:=(LI×Tq32)
abbrev Kq34:Kd:=(.pair Kq33 .unit)
abbrev Tq34:Type:=(Tq33×Unit)
abbrev Kq35:Kd:=(.pair (.arr 32 (.int .u8)) (.pair (.arr 32 (.int .u8)) .unit))
abbrev Tq35:Type:=(LI×(LI×Unit))
abbrev Kq36:Kd:=(.pair (.arr 32 (.int .u8)) Kq35)
abbrev Tq36:Type:=(LI×Tq35)
abbrev Kq37:Kd:=(.pair (.int .u64) Kq36)
abbrev Tq37:Type:=(Int×Tq36)
abbrev Kq38:Kd:=(.pair (.int .u64) Kq5)
abbrev Tq38:Type:=(Int×Tq5)
abbrev Kq39:Kd:=(.pair (.sl (.int .u8)) Kq38)
abbrev Tq39:Type:=(LI×Tq38)
abbrev Kq40:Kd:=(.pair (.int .i64) Kq39)
abbrev Tq40:Type:=(Int×Tq39)
abbrev Kq41:Kd:=(.pair (.int .u64) (.pair .bool .unit))
abbrev Tq41:Type:=(Int×(Bool×Unit))
abbrev Kq42:Kd:=(.pair (.arr 32 (.int .u8)) Kq41)
abbrev Tq42:Type:=(LI×Tq41)
abbrev Kq43:Kd:=(.pair Kq40 Kq42)
abbrev Tq43:Type:=(Tq40×Tq42)
abbrev Kq44:Kd:=(.pair (.int .u64) (.pair (.sl Kq7) .unit))
abbrev Tq44:Type:=(Int×((List Tq7)×Unit))
abbrev Kq45:Kd:=(.pair (.sl (.int .u64)) Kq25)
abbrev Kq46:Kd:=(.pair Kq44 Kq45)
abbrev Tq47:Type:=(Int×Tq24)
abbrev Tq48:Type:=(Int×Tq47)
abbrev Tq49:Type:=(Int×Tq48)
abbrev Tq50:Type:=(Int×Tq49)
abbrev Tq51:Type:=(Int×Tq50)
abbrev Tq52:Type:=(Int×Tq51)
def TT:Tab:=[
 (3,⟨.int .i64,1,8,some (.int .i64)⟩),
 (4,⟨.bool,1,1,some .bool⟩),
 (5,⟨.int .u8,1,1,some (.int .u8)⟩),
 (9,⟨.string,1,16,some .str⟩),
 (23,⟨.struct #[{name:= "Slots",type:=3,offset:=0,embedded:=false,tag:= "",pkgPath:= "",byteOffset:=0},{name:= "Commit",type:=3,offset:=1,embedded:=false,tag:= "",pkgPath:= "",byteOffset:=8},{name:= "Reveal",type:=3,offset:=2,embedded:=false,tag:= "",pkgPath:= "",byteOffset:=16},{name:= "Attempts",type:=3,offset:=3,embedded:=false,tag:= "",pkgPath:= "",byteOffset:=24},{name:= "Most",type:=3,offset:=4,embedded:=false,tag:= "",pkgPath:= "",byteOffset:=32}],5,40,some Kq21⟩),
 (25,⟨.array 32 5,32,32,some (.arr 32 (.int .u8))⟩),
 (27,⟨.slice 60,1,24,some (.sl Kq5)⟩),
 (28,⟨.int .u64,1,8,some (.int .u64)⟩),
 (29,⟨.slice 151,1,24,some (.sl Kq3)⟩),
 (31,⟨.struct #[{name:= "Epoch",type:=28,offset:=0,embedded:=false,tag:= "",pkgPath:= "",byteOffset:=0},{name:= "Seed",type:=25,offset:=1,embedded:=false,tag:= "",pkgPath:= "",byteOffset:=8},{name:= "Mix",type:=25,offset:=33,embedded:=false,tag:= "",pkgPath:= "",byteOffset:=40},{name:= "Commits",type:=29,offset:=65,embedded:=false,tag:= "",pkgPath:= "",byteOffset:=72}],66,96,some Kq24⟩),
 (32,⟨.slice 3,1,24,some (.sl (.int .i64))⟩),
 (34,⟨.struct #[{name:= "Config",type:=23,offset:=0,embedded:=false,tag:= "",pkgPath:= "",byteOffset:=0},{name:= "Slot",type:=3,offset:=5,embedded:=false,tag:= "",pkgPath:= "",byteOffset:=40},{name:= "Vals",type:=27,offset:=6,embedded:=false,tag:= "",pkgPath:= "",byteOffset:=48},{name:= "Beacon",type:=31,offset:=7,embedded:=false,tag:= "",pkgPath:= "",byteOffset:=72},{name:= "Leaders",type:=32,offset:=73,embedded:=false,tag:= "",pkgPath:= "",byteOffset:=168},{name:= "Missed",type:=32,offset:=74,embedded:=false,tag:= "",pkgPath:= "",byteOffset:=192}],75,216,some Kq29⟩),
 (35,⟨.int .i64,1,8,some (.int .i64)⟩),
 (40,⟨.array 5 5,5,5,some (.arr 5 (.int .u8))⟩),
 (41,⟨.slice 48,1,24,some (.sl Kq13)⟩),
 (44,⟨.struct #[{name:= "Err",type:=35,offset:=0,embedded:=false,tag:= "",pkgPath:= "",byteOffset:=0},{name:= "N",type:=28,offset:=1,embedded:=false,tag:= "",pkgPath:= "",byteOffset:=8},{name:= "Who",type:=32,offset:=2,embedded:=false,tag:= "",pkgPath:= "",byteOffset:=16},{name:= "Hash",type:=25,offset:=3,embedded:=false,tag:= "",pkgPath:= "",byteOffset:=40}],35,72,some Kq17⟩),
 (48,⟨.struct #[{name:= "Kind",type:=3,offset:=0,embedded:=false,tag:= "",pkgPath:= "",byteOffset:=0},{name:= "Who",type:=3,offset:=1,embedded:=false,tag:= "",pkgPath:= "",byteOffset:=8},{name:= "Amount",type:=28,offset:=2,embedded:=false,tag:= "",pkgPath:= "",byteOffset:=16},{name:= "Hash",type:=25,offset:=3,embedded:=false,tag:= "",pkgPath:= "",byteOffset:=24},{name:= "N",type:=3,offset:=35,embedded:=false,tag:= "",pkgPath:= "",byteOffset:=56}],36,64,some Kq13⟩),
 (51,⟨.slice 44,1,24,some (.sl Kq17)⟩),
 (60,⟨.struct #[{name:= "Key",type:=25,offset:=0,embedded:=false,tag:= "",pkgPath:= "",byteOffset:=0},{name:= "Stake",type:=28,offset:=32,embedded:=false,tag:= "",pkgPath:= "",byteOffset:=32},{name:= "Next",type:=28,offset:=33,embedded:=false,tag:= "",pkgPath:= "",byteOffset:=40}],34,48,some Kq5⟩),
 (63,⟨.slice 28,1,24,some (.sl (.int .u64))⟩),
 (66,⟨.slice 35,1,24,some (.sl (.int .i64))⟩),
 (74,⟨.func #[79,48] #[35] false,1,8,some .fn⟩),
 (76,⟨.map 3 74,1,8,some .mp⟩),
 (81,⟨.struct #[{name:= "Ledger",type:=34,offset:=0,embedded:=true,tag:= "",pkgPath:= "",byteOffset:=0},{name:= "answer",type:=44,offset:=75,embedded:=false,tag:= "",pkgPath:= "drawlot/ledger",byteOffset:=216}],110,288,some Kq31⟩),
 (87,⟨.struct #[{name:= "Tree",type:=63,offset:=0,embedded:=false,tag:= "",pkgPath:= "",byteOffset:=0}],1,24,some (.pair (.sl (.int .u64)) .unit)⟩),
 (93,⟨.slice 5,1,24,some (.sl (.int .u8))⟩),
 (95,⟨.array 8 5,8,8,some (.arr 8 (.int .u8))⟩),
 (98,⟨.int .u64,1,8,some (.int .u64)⟩),
 (105,⟨.func #[48] #[93] false,1,8,some .fn⟩),
 (122,⟨.struct #[{name:= "Epoch",type:=28,offset:=0,embedded:=false,tag:= "",pkgPath:= "",byteOffset:=0},{name:= "Seed",type:=25,offset:=1,embedded:=false,tag:= "",pkgPath:= "",byteOffset:=8},{name:= "Mix",type:=25,offset:=33,embedded:=false,tag:= "",pkgPath:= "",byteOffset:=40},{name:= "Next",type:=25,offset:=65,embedded:=false,tag:= "",pkgPath:= "",byteOffset:=72}],97,104,some Kq37⟩),
 (132,⟨.struct #[{name:= "Kind",type:=3,offset:=0,embedded:=false,tag:= "",pkgPath:= "",byteOffset:=0},{name:= "Tape",type:=93,offset:=1,embedded:=false,tag:= "",pkgPath:= "",byteOffset:=8},{name:= "Bits",type:=28,offset:=2,embedded:=false,tag:= "",pkgPath:= "",byteOffset:=32},{name:= "Seed",type:=25,offset:=3,embedded:=false,tag:= "",pkgPath:= "",byteOffset:=40},{name:= "Domain",type:=28,offset:=35,embedded:=false,tag:= "",pkgPath:= "",byteOffset:=72},{name:= "At",type:=28,offset:=36,embedded:=false,tag:= "",pkgPath:= "",byteOffset:=80}],37,88,some Kq40⟩),
 (136,⟨.int .u32,1,4,some (.int .u32)⟩),
 (137,⟨.slice 185,1,24,some (.sl (.arr 64 (.int .u8)))⟩),
 (143,⟨.array 8 136,8,32,some (.arr 8 (.int .u32))⟩),
 (151,⟨.struct #[{name:= "Who",type:=3,offset:=0,embedded:=false,tag:= "",pkgPath:= "",byteOffset:=0},{name:= "Hash",type:=25,offset:=1,embedded:=false,tag:= "",pkgPath:= "",byteOffset:=8},{name:= "Done",type:=4,offset:=33,embedded:=false,tag:= "",pkgPath:= "",byteOffset:=40},{name:= "Value",type:=25,offset:=34,embedded:=false,tag:= "",pkgPath:= "",byteOffset:=41}],66,80,some Kq3⟩),
 (162,⟨.slice 167,1,24,some (.sl Kq9)⟩),
 (165,⟨.func #[168,93] #[] false,1,8,some .fn⟩),
 (167,⟨.struct #[{name:= "size",type:=3,offset:=0,embedded:=false,tag:= "",pkgPath:= "drawlot/op",byteOffset:=0},{name:= "put",type:=105,offset:=1,embedded:=false,tag:= "",pkgPath:= "drawlot/op",byteOffset:=8},{name:= "take",type:=165,offset:=2,embedded:=false,tag:= "",pkgPath:= "drawlot/op",byteOffset:=16}],3,24,some Kq9⟩),
 (185,⟨.array 64 5,64,64,some (.arr 64 (.int .u8))⟩),
 (188,⟨.array 4 5,4,4,some (.arr 4 (.int .u8))⟩),
 (191,⟨.map 25 3,1,8,some .mp⟩),
 (205,⟨.struct #[{name:= "seed",type:=25,offset:=0,embedded:=false,tag:= "",pkgPath:= "drawlot/slots",byteOffset:=0},{name:= "attempts",type:=3,offset:=32,embedded:=false,tag:= "",pkgPath:= "drawlot/slots",byteOffset:=32}],33,40,some Kq10⟩),
 (211,⟨.slice 25,1,24,some (.sl (.arr 32 (.int .u8)))⟩),
 (213,⟨.slice 245,1,24,some (.sl Kq7)⟩),
 (215,⟨.struct #[{name:= "Total",type:=28,offset:=0,embedded:=false,tag:= "",pkgPath:= "",byteOffset:=0},{name:= "Cells",type:=213,offset:=1,embedded:=false,tag:= "",pkgPath:= "",byteOffset:=8}],2,32,some Kq44⟩),
 (222,⟨.array 64 136,64,256,some (.arr 64 (.int .u32))⟩),
 (223,⟨.array 64 136,64,256,some (.arr 64 (.int .u32))⟩),
 (243,⟨.func #[168] #[242] false,1,8,some .fn⟩),
 (245,⟨.struct #[{name:= "Cut",type:=28,offset:=0,embedded:=false,tag:= "",pkgPath:= "",byteOffset:=0},{name:= "Alias",type:=3,offset:=1,embedded:=false,tag:= "",pkgPath:= "",byteOffset:=8}],2,16,some Kq7⟩),
 (256,⟨.slice 93,1,24,some (.sl (.sl (.int .u8)))⟩),
 (258,⟨.struct #[{name:= "State",type:=143,offset:=0,embedded:=false,tag:= "",pkgPath:= "",byteOffset:=0},{name:= "Rest",type:=93,offset:=8,embedded:=false,tag:= "",pkgPath:= "",byteOffset:=32},{name:= "Bytes",type:=28,offset:=9,embedded:=false,tag:= "",pkgPath:= "",byteOffset:=56}],10,64,some Kq33⟩),
 (269,⟨.slice 3,1,24,some (.sl (.int .i64))⟩),
 (271,⟨.struct #[{name:= "Table",type:=215,offset:=0,embedded:=true,tag:= "",pkgPath:= "",byteOffset:=0},{name:= "has",type:=63,offset:=2,embedded:=false,tag:= "",pkgPath:= "drawlot/alias",byteOffset:=32},{name:= "small",type:=269,offset:=3,embedded:=false,tag:= "",pkgPath:= "drawlot/alias",byteOffset:=56},{name:= "large",type:=269,offset:=4,embedded:=false,tag:= "",pkgPath:= "drawlot/alias",byteOffset:=80}],5,104,some Kq46⟩),
 (282,⟨.struct #[{name:= "Writer",type:=258,offset:=0,embedded:=true,tag:= "",pkgPath:= "",byteOffset:=0}],10,64,some Kq34⟩),
 (301,⟨.struct #[{name:= "Source",type:=132,offset:=0,embedded:=true,tag:= "",pkgPath:= "",byteOffset:=0},{name:= "block",type:=25,offset:=37,embedded:=false,tag:= "",pkgPath:= "drawlot/tape",byteOffset:=88},{name:= "at",type:=28,offset:=69,embedded:=false,tag:= "",pkgPath:= "drawlot/tape",byteOffset:=120},{name:= "some",type:=4,offset:=70,embedded:=false,tag:= "",pkgPath:= "drawlot/tape",byteOffset:=128}],71,136,some Kq43⟩),
 (307,⟨.slice 136,1,24,some (.sl (.int .u32))⟩)]
def EQT:List Nat:=[3,23,25,48,60,151]
theorem ty3:TyOK Tryz.prog TT 3 ⟨.int .i64,1,8,some (.int .i64)⟩:=Ao Tryz.underlying3 (by kernel_rfl)
theorem ty4:TyOK Tryz.prog TT 4 ⟨.bool,1,1,some .bool⟩:=Ao Tryz.underlying4 (by kernel_rfl)
theorem ty5:TyOK Tryz.prog TT 5 ⟨.int .u8,1,1,some (.int .u8)⟩:=Ao Tryz.underlying5 (by kernel_rfl)
theorem ty9:TyOK Tryz.prog TT 9 ⟨.string,1,16,some .str⟩:=Ao Tryz.underlying9 (by kernel_rfl)
theorem ty23:TyOK Tryz.prog TT 23 ⟨.struct #[{name:= "Slots",type:=3,offset:=0,embedded:=false,tag:= "",pkgPath:= "",byteOffset:=0},{name:= "Commit",type:=3,offset:=1,embedded:=false,tag:= "",pkgPath:= "",byteOffset:=8},{name:= "Reveal",type:=3,offset:=2,embedded:=false,tag:= "",pkgPath:= "",byteOffset:=16},{name:= "Attempts",type:=3,offset:=3,embedded:=false,tag:= "",pkgPath:= "",byteOffset:=24},{name:= "Most",type:=3,offset:=4,embedded:=false,tag:= "",pkgPath:= "",byteOffset:=32}],5,40,some Kq21⟩:=Ao Tryz.underlying23 (by kernel_rfl)
theorem ty25:TyOK Tryz.prog TT 25 ⟨.array 32 5,32,32,some (.arr 32 (.int .u8))⟩:=Ao Tryz.underlying25 (by kernel_rfl)
theorem ty27:TyOK Tryz.prog TT 27 ⟨.slice 60,1,24,some (.sl Kq5)⟩:=Ao Tryz.underlying27 (by kernel_rfl)
theorem ty28:TyOK Tryz.prog TT 28 ⟨.int .u64,1,8,some (.int .u64)⟩:=Ao Tryz.underlying28 (by kernel_rfl)
theorem ty29:TyOK Tryz.prog TT 29 ⟨.slice 151,1,24,some (.sl Kq3)⟩:=Ao Tryz.underlying29 (by kernel_rfl)
theorem ty31:TyOK Tryz.prog TT 31 ⟨.struct #[{name:= "Epoch",type:=28,offset:=0,embedded:=false,tag:= "",pkgPath:= "",byteOffset:=0},{name:= "Seed",type:=25,offset:=1,embedded:=false,tag:= "",pkgPath:= "",byteOffset:=8},{name:= "Mix",type:=25,offset:=33,embedded:=false,tag:= "",pkgPath:= "",byteOffset:=40},{name:= "Commits",type:=29,offset:=65,embedded:=false,tag:= "",pkgPath:= "",byteOffset:=72}],66,96,some Kq24⟩:=Ao Tryz.underlying31 (by kernel_rfl)
theorem ty32:TyOK Tryz.prog TT 32 ⟨.slice 3,1,24,some (.sl (.int .i64))⟩:=Ao Tryz.underlying32 (by kernel_rfl)
theorem ty34:TyOK Tryz.prog TT 34 ⟨.struct #[{name:= "Config",type:=23,offset:=0,embedded:=false,tag:= "",pkgPath:= "",byteOffset:=0},{name:= "Slot",type:=3,offset:=5,embedded:=false,tag:= "",pkgPath:= "",byteOffset:=40},{name:= "Vals",type:=27,offset:=6,embedded:=false,tag:= "",pkgPath:= "",byteOffset:=48},{name:= "Beacon",type:=31,offset:=7,embedded:=false,tag:= "",pkgPath:= "",byteOffset:=72},{name:= "Leaders",type:=32,offset:=73,embedded:=false,tag:= "",pkgPath:= "",byteOffset:=168},{name:= "Missed",type:=32,offset:=74,embedded:=false,tag:= "",pkgPath:= "",byteOffset:=192}],75,216,some Kq29⟩:=Ao Tryz.underlying34 (by kernel_rfl)
theorem ty35:TyOK Tryz.prog TT 35 ⟨.int .i64,1,8,some (.int .i64)⟩:=Ao Tryz.underlying35 (by kernel_rfl)
theorem ty40:TyOK Tryz.prog TT 40 ⟨.array 5 5,5,5,some (.arr 5 (.int .u8))⟩:=Ao Tryz.underlying40 (by kernel_rfl)
theorem ty41:TyOK Tryz.prog TT 41 ⟨.slice 48,1,24,some (.sl Kq13)⟩:=Ao Tryz.underlying41 (by kernel_rfl)
theorem ty44:TyOK Tryz.prog TT 44 ⟨.struct #[{name:= "Err",type:=35,offset:=0,embedded:=false,tag:= "",pkgPath:= "",byteOffset:=0},{name:= "N",type:=28,offset:=1,embedded:=false,tag:= "",pkgPath:= "",byteOffset:=8},{name:= "Who",type:=32,offset:=2,embedded:=false,tag:= "",pkgPath:= "",byteOffset:=16},{name:= "Hash",type:=25,offset:=3,embedded:=false,tag:= "",pkgPath:= "",byteOffset:=40}],35,72,some Kq17⟩:=Ao Tryz.underlying44 (by kernel_rfl)
theorem ty48:TyOK Tryz.prog TT 48 ⟨.struct #[{name:= "Kind",type:=3,offset:=0,embedded:=false,tag:= "",pkgPath:= "",byteOffset:=0},{name:= "Who",type:=3,offset:=1,embedded:=false,tag:= "",pkgPath:= "",byteOffset:=8},{name:= "Amount",type:=28,offset:=2,embedded:=false,tag:= "",pkgPath:= "",byteOffset:=16},{name:= "Hash",type:=25,offset:=3,embedded:=false,tag:= "",pkgPath:= "",byteOffset:=24},{name:= "N",type:=3,offset:=35,embedded:=false,tag:= "",pkgPath:= "",byteOffset:=56}],36,64,some Kq13⟩:=Ao Tryz.underlying48 (by kernel_rfl)
theorem ty51:TyOK Tryz.prog TT 51 ⟨.slice 44,1,24,some (.sl Kq17)⟩:=Ao Tryz.underlying51 (by kernel_rfl)
theorem ty60:TyOK Tryz.prog TT 60 ⟨.struct #[{name:= "Key",type:=25,offset:=0,embedded:=false,tag:= "",pkgPath:= "",byteOffset:=0},{name:= "Stake",type:=28,offset:=32,embedded:=false,tag:= "",pkgPath:= "",byteOffset:=32},{name:= "Next",type:=28,offset:=33,embedded:=false,tag:= "",pkgPath:= "",byteOffset:=40}],34,48,some Kq5⟩:=Ao Tryz.underlying60 (by kernel_rfl)
theorem ty63:TyOK Tryz.prog TT 63 ⟨.slice 28,1,24,some (.sl (.int .u64))⟩:=Ao Tryz.underlying63 (by kernel_rfl)
theorem ty66:TyOK Tryz.prog TT 66 ⟨.slice 35,1,24,some (.sl (.int .i64))⟩:=Ao Tryz.underlying66 (by kernel_rfl)
theorem ty74:TyOK Tryz.prog TT 74 ⟨.func #[79,48] #[35] false,1,8,some .fn⟩:=Ao Tryz.underlying74 (by kernel_rfl)
theorem ty76:TyOK Tryz.prog TT 76 ⟨.map 3 74,1,8,some .mp⟩:=Ao Tryz.underlying76 (by kernel_rfl)
theorem ty81:TyOK Tryz.prog TT 81 ⟨.struct #[{name:= "Ledger",type:=34,offset:=0,embedded:=true,tag:= "",pkgPath:= "",byteOffset:=0},{name:= "answer",type:=44,offset:=75,embedded:=false,tag:= "",pkgPath:= "drawlot/ledger",byteOffset:=216}],110,288,some Kq31⟩:=Ao Tryz.underlying81 (by kernel_rfl)
theorem ty87:TyOK Tryz.prog TT 87 ⟨.struct #[{name:= "Tree",type:=63,offset:=0,embedded:=false,tag:= "",pkgPath:= "",byteOffset:=0}],1,24,some (.pair (.sl (.int .u64)) .unit)⟩:=Ao Tryz.underlying87 (by kernel_rfl)
theorem ty93:TyOK Tryz.prog TT 93 ⟨.slice 5,1,24,some (.sl (.int .u8))⟩:=Ao Tryz.underlying93 (by kernel_rfl)
theorem ty95:TyOK Tryz.prog TT 95 ⟨.array 8 5,8,8,some (.arr 8 (.int .u8))⟩:=Ao Tryz.underlying95 (by kernel_rfl)
theorem ty98:TyOK Tryz.prog TT 98 ⟨.int .u64,1,8,some (.int .u64)⟩:=Ao Tryz.underlying98 (by kernel_rfl)
theorem ty105:TyOK Tryz.prog TT 105 ⟨.func #[48] #[93] false,1,8,some .fn⟩:=Ao Tryz.underlying105 (by kernel_rfl)
theorem ty122:TyOK Tryz.prog TT 122 ⟨.struct #[{name:= "Epoch",type:=28,offset:=0,embedded:=false,tag:= "",pkgPath:= "",byteOffset:=0},{name:= "Seed",type:=25,offset:=1,embedded:=false,tag:= "",pkgPath:= "",byteOffset:=8},{name:= "Mix",type:=25,offset:=33,embedded:=false,tag:= "",pkgPath:= "",byteOffset:=40},{name:= "Next",type:=25,offset:=65,embedded:=false,tag:= "",pkgPath:= "",byteOffset:=72}],97,104,some Kq37⟩:=Ao Tryz.underlying122 (by kernel_rfl)
theorem ty132:TyOK Tryz.prog TT 132 ⟨.struct #[{name:= "Kind",type:=3,offset:=0,embedded:=false,tag:= "",pkgPath:= "",byteOffset:=0},{name:= "Tape",type:=93,offset:=1,embedded:=false,tag:= "",pkgPath:= "",byteOffset:=8},{name:= "Bits",type:=28,offset:=2,embedded:=false,tag:= "",pkgPath:= "",byteOffset:=32},{name:= "Seed",type:=25,offset:=3,embedded:=false,tag:= "",pkgPath:= "",byteOffset:=40},{name:= "Domain",type:=28,offset:=35,embedded:=false,tag:= "",pkgPath:= "",byteOffset:=72},{name:= "At",type:=28,offset:=36,embedded:=false,tag:= "",pkgPath:= "",byteOffset:=80}],37,88,some Kq40⟩:=Ao Tryz.underlying132 (by kernel_rfl)
theorem ty136:TyOK Tryz.prog TT 136 ⟨.int .u32,1,4,some (.int .u32)⟩:=Ao Tryz.underlying136 (by kernel_rfl)
theorem ty137:TyOK Tryz.prog TT 137 ⟨.slice 185,1,24,some (.sl (.arr 64 (.int .u8)))⟩:=Ao Tryz.underlying137 (by kernel_rfl)
theorem ty143:TyOK Tryz.prog TT 143 ⟨.array 8 136,8,32,some (.arr 8 (.int .u32))⟩:=Ao Tryz.underlying143 (by kernel_rfl)
theorem ty151:TyOK Tryz.prog TT 151 ⟨.struct #[{name:= "Who",type:=3,offset:=0,embedded:=false,tag:= "",pkgPath:= "",byteOffset:=0},{name:= "Hash",type:=25,offset:=1,embedded:=false,tag:= "",pkgPath:= "",byteOffset:=8},{name:= "Done",type:=4,offset:=33,embedded:=false,tag:= "",pkgPath:= "",byteOffset:=40},{name:= "Value",type:=25,offset:=34,embedded:=false,tag:= "",pkgPath:= "",byteOffset:=41}],66,80,some Kq3⟩:=Ao Tryz.underlying151 (by kernel_rfl)
theorem ty162:TyOK Tryz.prog TT 162 ⟨.slice 167,1,24,some (.sl Kq9)⟩:=Ao Tryz.underlying162 (by kernel_rfl)
theorem ty165:TyOK Tryz.prog TT 165 ⟨.func #[168,93] #[] false,1,8,some .fn⟩:=Ao Tryz.underlying165 (by kernel_rfl)
theorem ty167:TyOK Tryz.prog TT 167 ⟨.struct #[{name:= "size",type:=3,offset:=0,embedded:=false,tag:= "",pkgPath:= "drawlot/op",byteOffset:=0},{name:= "put",type:=105,offset:=1,embedded:=false,tag:= "",pkgPath:= "drawlot/op",byteOffset:=8},{name:= "take",type:=165,offset:=2,embedded:=false,tag:= "",pkgPath:= "drawlot/op",byteOffset:=16}],3,24,some Kq9⟩:=Ao Tryz.underlying167 (by kernel_rfl)
theorem ty185:TyOK Tryz.prog TT 185 ⟨.array 64 5,64,64,some (.arr 64 (.int .u8))⟩:=Ao Tryz.underlying185 (by kernel_rfl)
theorem ty188:TyOK Tryz.prog TT 188 ⟨.array 4 5,4,4,some (.arr 4 (.int .u8))⟩:=Ao Tryz.underlying188 (by kernel_rfl)
theorem ty191:TyOK Tryz.prog TT 191 ⟨.map 25 3,1,8,some .mp⟩:=Ao Tryz.underlying191 (by kernel_rfl)
theorem ty205:TyOK Tryz.prog TT 205 ⟨.struct #[{name:= "seed",type:=25,offset:=0,embedded:=false,tag:= "",pkgPath:= "drawlot/slots",byteOffset:=0},{name:= "attempts",type:=3,offset:=32,embedded:=false,tag:= "",pkgPath:= "drawlot/slots",byteOffset:=32}],33,40,some Kq10⟩:=Ao Tryz.underlying205 (by kernel_rfl)
theorem ty211:TyOK Tryz.prog TT 211 ⟨.slice 25,1,24,some (.sl (.arr 32 (.int .u8)))⟩:=Ao Tryz.underlying211 (by kernel_rfl)
theorem ty213:TyOK Tryz.prog TT 213 ⟨.slice 245,1,24,some (.sl Kq7)⟩:=Ao Tryz.underlying213 (by kernel_rfl)
theorem ty215:TyOK Tryz.prog TT 215 ⟨.struct #[{name:= "Total",type:=28,offset:=0,embedded:=false,tag:= "",pkgPath:= "",byteOffset:=0},{name:= "Cells",type:=213,offset:=1,embedded:=false,tag:= "",pkgPath:= "",byteOffset:=8}],2,32,some Kq44⟩:=Ao Tryz.underlying215 (by kernel_rfl)
theorem ty222:TyOK Tryz.prog TT 222 ⟨.array 64 136,64,256,some (.arr 64 (.int .u32))⟩:=Ao Tryz.underlying222 (by kernel_rfl)
theorem ty223:TyOK Tryz.prog TT 223 ⟨.array 64 136,64,256,some (.arr 64 (.int .u32))⟩:=Ao Tryz.underlying223 (by kernel_rfl)
theorem ty243:TyOK Tryz.prog TT 243 ⟨.func #[168] #[242] false,1,8,some .fn⟩:=Ao Tryz.underlying243 (by kernel_rfl)
theorem ty245:TyOK Tryz.prog TT 245 ⟨.struct #[{name:= "Cut",type:=28,offset:=0,embedded:=false,tag:= "",pkgPath:= "",byteOffset:=0},{name:= "Alias",type:=3,offset:=1,embedded:=false,tag:= "",pkgPath:= "",byteOffset:=8}],2,16,some Kq7⟩:=Ao Tryz.underlying245 (by kernel_rfl)
theorem ty256:TyOK Tryz.prog TT 256 ⟨.slice 93,1,24,some (.sl (.sl (.int .u8)))⟩:=Ao Tryz.underlying256 (by kernel_rfl)
theorem ty258:TyOK Tryz.prog TT 258 ⟨.struct #[{name:= "State",type:=143,offset:=0,embedded:=false,tag:= "",pkgPath:= "",byteOffset:=0},{name:= "Rest",type:=93,offset:=8,embedded:=false,tag:= "",pkgPath:= "",byteOffset:=32},{name:= "Bytes",type:=28,offset:=9,embedded:=false,tag:= "",pkgPath:= "",byteOffset:=56}],10,64,some Kq33⟩:=Ao Tryz.underlying258 (by kernel_rfl)
theorem ty269:TyOK Tryz.prog TT 269 ⟨.slice 3,1,24,some (.sl (.int .i64))⟩:=Ao Tryz.underlying269 (by kernel_rfl)
theorem ty271:TyOK Tryz.prog TT 271 ⟨.struct #[{name:= "Table",type:=215,offset:=0,embedded:=true,tag:= "",pkgPath:= "",byteOffset:=0},{name:= "has",type:=63,offset:=2,embedded:=false,tag:= "",pkgPath:= "drawlot/alias",byteOffset:=32},{name:= "small",type:=269,offset:=3,embedded:=false,tag:= "",pkgPath:= "drawlot/alias",byteOffset:=56},{name:= "large",type:=269,offset:=4,embedded:=false,tag:= "",pkgPath:= "drawlot/alias",byteOffset:=80}],5,104,some Kq46⟩:=Ao Tryz.underlying271 (by kernel_rfl)
theorem ty282:TyOK Tryz.prog TT 282 ⟨.struct #[{name:= "Writer",type:=258,offset:=0,embedded:=true,tag:= "",pkgPath:= "",byteOffset:=0}],10,64,some Kq34⟩:=Ao Tryz.underlying282 (by kernel_rfl)
theorem ty301:TyOK Tryz.prog TT 301 ⟨.struct #[{name:= "Source",type:=132,offset:=0,embedded:=true,tag:= "",pkgPath:= "",byteOffset:=0},{name:= "block",type:=25,offset:=37,embedded:=false,tag:= "",pkgPath:= "drawlot/tape",byteOffset:=88},{name:= "at",type:=28,offset:=69,embedded:=false,tag:= "",pkgPath:= "drawlot/tape",byteOffset:=120},{name:= "some",type:=4,offset:=70,embedded:=false,tag:= "",pkgPath:= "drawlot/tape",byteOffset:=128}],71,136,some Kq43⟩:=Ao Tryz.underlying301 (by kernel_rfl)
theorem ty307:TyOK Tryz.prog TT 307 ⟨.slice 136,1,24,some (.sl (.int .u32))⟩:=Ao Tryz.underlying307 (by kernel_rfl)
theorem tabOK:Av Tryz.prog TT:=zpc (Af ty3 (Af ty4 (Af ty5 (Af ty9 (Af ty23 (Af ty25 (Af ty27 (Af ty28 (Af ty29 (Af ty31 (Af ty32 (Af ty34 (Af ty35 (Af ty40 (Af ty41 (Af ty44 (Af ty48 (Af ty51 (Af ty60 (Af ty63 (Af ty66 (Af ty74 (Af ty76 (Af ty81 (Af ty87 (Af ty93 (Af ty95 (Af ty98 (Af ty105 (Af ty122 (Af ty132 (Af ty136 (Af ty137 (Af ty143 (Af ty151 (Af ty162 (Af ty165 (Af ty167 (Af ty185 (Af ty188 (Af ty191 (Af ty205 (Af ty211 (Af ty213 (Af ty215 (Af ty222 (Af ty223 (Af ty243 (Af ty245 (Af ty256 (Af ty258 (Af ty269 (Af ty271 (Af ty282 (Af ty301 (Af ty307 Bp))))))))))))))))))))))))))))))))))))))))))))))))))))))))
theorem eqOK:∀t∈EQT,∀k,tkd TT t=some k→EqOK Tryz.prog t k:=(Af (fun k h=>by
  have h':some ((.int .i64):Kd)=some k:=h;cases h';exact Kw tabOK (k:=(.int .i64)) rfl (by kernel_rfl) (by kernel_rfl) (by decide)) (Af (fun k h=>by
  have h':some (Kq21:Kd)=some k:=h;cases h';exact Kw tabOK (k:=Kq21) rfl (by kernel_rfl) (by kernel_rfl) (by decide)) (Af (fun k h=>by
  have h':some ((.arr 32 (.int .u8)):Kd)=some k:=h;cases h';exact Kw tabOK (k:=(.arr 32 (.int .u8))) rfl (by kernel_rfl) (by kernel_rfl) (by decide)) (Af (fun k h=>by
  have h':some (Kq13:Kd)=some k:=h;cases h';exact Kw tabOK (k:=Kq13) rfl (by kernel_rfl) (by kernel_rfl) (by decide)) (Af (fun k h=>by
  have h':some (Kq5:Kd)=some k:=h;cases h';exact Kw tabOK (k:=Kq5) rfl (by kernel_rfl) (by kernel_rfl) (by decide)) (Af (fun k h=>by
  have h':some (Kq3:Kd)=some k:=h;cases h';exact Kw tabOK (k:=Kq3) rfl (by kernel_rfl) (by kernel_rfl) (by decide)) Bp))))))
theorem mixed:Tryz.prog.follows .mixedOrders=true:=by kernel_rfl
abbrev OKP (e:Ent):Prop:=e.OK Tryz.prog
abbrev LKP (e:LEnt) (np nt l:Nat) (f:Func):Prop:=e.OK Tryz.prog np nt (Cf l (Ag f))
abbrev sE:=mE TT EQT
theorem ST:Seat Tryz.prog TT EQT:=⟨tabOK,eqOK,mixed⟩
abbrev FT48:=(R:Type)→Int→Int→Int→(Bool→Option R)→Option R
def en48 (F:FT48):Ent:=eV 48 [(.int .i64),(.int .i64),(.int .i64)] [.bool] F
def p48:FT48:=fun R a0 a1 a2 k=>
let v1:=decide (a0≥a1);(match v1 with
|true=>let v2:=decide (a0≤a2);k v2
|false=>k false)
theorem q48:EQ (en48 p48) (sE 0 15 [] [] []) Tryz.f48 [(.tmp 6,4,false)]:=fun _ _ _=>by kernel_rfl
def F48:FT48:=p48
theorem ok48:OKP (en48 F48):=ST.ok0 q48 Ab Tryz.func48
abbrev FT25:=(R:Type)→Tq21→(Bool→Option R)→Option R
def en25 (F:FT25):Ent:=eV 25 [Kq21] [.bool] F
def p25 (F48:FT48):FT25:=fun R a0 k=>
F48 R a0.1 (1:Int) (1024:Int) fun y1=>
(match y1 with
|true=>F48 R a0.2.1 (0:Int) a0.1 fun y2=>
(match y2 with
|true=>let v3:=IntKind.i64.wrap (a0.1 - a0.2.1);F48 R a0.2.2.1 (0:Int) v3 fun y4=>
(match y4 with
|true=>F48 R a0.2.2.2.1 (1:Int) (64:Int) fun y5=>
(match y5 with
|true=>F48 R a0.2.2.2.2.1 (1:Int) (1048576:Int) fun y6=>
k y6
|false=>k false)
|false=>k false)
|false=>k false)
|false=>k false)
theorem q25 (F48:FT48):EQ (en25 (p25 F48)) (sE 0 33 [] [en48 F48] []) Tryz.f25 [(.tmp 2,4,false)]:=fun _ _ _=>by kernel_rfl
def F25:FT25:=p25 F48
theorem ok25:OKP (en25 F25):=ST.ok0 (q25 F48) (Aa ok48 Ab) Tryz.func25
abbrev FT26:=(R:Type)→LI→(Tq24→Option R)→Option R
def en26 (F:FT26):Ent:=eV 26 [(.arr 32 (.int .u8))] [Kq24] F
def p26:FT26:=fun R a0 k=>
k ((0:Int),a0,(List.replicate 32 (0:Int)),([]:(List Tq3)),())
theorem q26:EQ (en26 p26) (sE 0 5 [] [] []) Tryz.f26 [(.cell 2 31,31,false)]:=fun _ _ _=>by kernel_rfl
def F26:FT26:=p26
theorem ok26:OKP (en26 F26):=ST.ok0 q26 Ab Tryz.func26
abbrev FT96:=(R:Type)→Int→Int→(Int→Int→Option R)→Option R
def en96 (F:FT96):Ent:=eV 96 [(.int .u64),(.int .u64)] [(.int .u64),(.int .u64)] F
def p96:FT96:=fun R a0 a1 k=>
let v1:=iand .u64 a0 (4294967295:Int);let v2:=ishr .u64 a0 (32:Int);let v3:=iand .u64 a1 (4294967295:Int);let v4:=ishr .u64 a1 (32:Int);let v5:=IntKind.u64.wrap (v1*v3);let v6:=IntKind.u64.wrap (v2*v3);let v7:=ishr .u64 v5 (32:Int);let v8:=IntKind.u64.wrap (v6+v7);let v9:=iand .u64 v8 (4294967295:Int);let v10:=ishr .u64 v8 (32:Int);let v11:=IntKind.u64.wrap (v1*v4);let v12:=IntKind.u64.wrap (v9+v11);let v13:=IntKind.u64.wrap (v2*v4);let v14:=IntKind.u64.wrap (v13+v10);let v15:=ishr .u64 v12 (32:Int);let v16:=IntKind.u64.wrap (v14+v15);let v17:=IntKind.u64.wrap (a0*a1);k v16 v17
theorem q96:EQ (en96 p96) (sE 0 51 [] [] []) Tryz.f96 [(.tmp 4,28,false),(.tmp 5,28,false)]:=fun _ _ _=>by kernel_rfl
def F96:FT96:=p96
theorem ok96:OKP (en96 F96):=ST.ok0 q96 Ab Tryz.func96
abbrev FT49:=(R:Type)→Int→Int→(Int→Int→Option R)→Option R
def en49 (F:FT49):Ent:=eV 49 [(.int .u64),(.int .u64)] [(.int .u64),(.int .u64)] F
def p49 (F96:FT96):FT49:=fun R a0 a1 k=>
F96 R a0 a1 fun y1 y2=>
k y1 y2
theorem q49 (F96:FT96):EQ (en49 (p49 F96)) (sE 0 30 [] [en96 F96] []) Tryz.f49 [(.tmp 4,98,false),(.tmp 5,98,false)]:=fun _ _ _=>by kernel_rfl
def F49:FT49:=p49 F96
theorem ok49:OKP (en49 F49):=ST.ok0 (q49 F96) (Aa ok96 Ab) Tryz.func49
abbrev FT27:=(R:Type)→LI→Int→(LI→Option R)→Option R
def en27 (F:FT27):Ent:=eV 27 [(.sl (.int .i64)),(.int .i64)] [(.sl (.int .i64))] F
abbrev D27_8 (Z:Type):=Int→LI→Z
abbrev E27_8 (R:Type):=(LI→Option R)→Option R
abbrev Qn:=(R:Type)→D27_8 (E27_8 R)
def zhi (L:Qn):LEnt:=lM 8 [.fix 7 (.own 0 0),.val 8 (.int .i64),.row 0 (.int .i64) false] 1 [(.exit 0,[.fix 7 (.own 0 0),.row 0 (.int .i64) false])] L
def e27 (F49:FT49) (L8:Qn):=sE 0 48 [] [en49 F49] [zhi L8]
def zys (R:Type):D27_8 (D27_8 (Option R)→E27_8 R):=fun x1 x2 kc k0=>
let v3:=(x2.length:Int);let v4:=decide (x1<v3);(match v4 with
|true=>(match (decide (0≤x1∧x1≤(x2.length:Int)∧(x2.length:Int)≤(x2.length:Int)∧(x2.length:Int)≤(x2.length:Int))) with
|true=>(match (decide (0≤(0:Int)∧(0:Int)≤x1∧x1≤x1∧x1≤(x2.length:Int))) with
|true=>let v5:=lay x2 x1.toNat (List.take (Int.toNat ((x2.length:Int) - x1)) (List.take (Int.toNat (x1 - 0)) (List.drop 0 x2)));let v6:=IntKind.i64.wrap (x1+((min (List.length (List.take (Int.toNat (x1 - 0)) (List.drop 0 x2))) (Int.toNat ((x2.length:Int) - x1)):Nat):Int));kc v6 v5
|false=>none)
|false=>none)
|false=>k0 x2)
theorem q27_8 (F49:FT49) (L8:Qn):LEQ (zhi L8) (e27 F49 L8) Tryz.f27 zys:=fun _ _ _ _=>by kernel_rfl
def Y4:Nat→Qn
 | 0=>fun _ _ _ _=>none
 | n+1=>fun R x1 x2 k0=>zys R x1 x2 (fun x1 x2=>Y4 n R x1 x2 k0) k0
def p27 (F49:FT49) (L8:Qn):FT27:=fun R a0 a1 k=>
let v1:=decide (a1<0);(match v1 with
|true=>none
|false=>let v2:=(a0.length:Int);let v3:=IntKind.u64.wrap v2;let v4:=IntKind.u64.wrap a1;F49 R v3 v4 fun y5 y6=>
let v7:=decide (y5>0);(match v7 with
|true=>none
|false=>let v8:=decide (y6>9223372036854775807);(match v8 with
|true=>none
|false=>let v9:=IntKind.i64.wrap y6;(match (decide (0≤v9∧v9≤v9∧v9≤17592186044416)) with
|true=>let v10:=List.replicate v9.toNat (0:Int);let v11:=lay v10 0 (List.take (v10.length) a0);L8 R ((min (a0.length) (v10.length):Nat):Int) v11 (fun x12=>
k x12)
|false=>none))))
theorem q27 (F49:FT49) (L8:Qn):EQ (en27 (p27 F49 L8)) (e27 F49 L8) Tryz.f27 [(.tmp 4,32,false)]:=fun _ _ _=>by kernel_rfl
def F27:FT27:=p27 F49 (Y4 FUEL)
theorem zz4:LKP (zhi (Y4 FUEL)) 0 48 8 Tryz.f27:=ST.lok (q27_8 F49 (Y4 FUEL)) (Aa ok49 Ab) [] trivial
theorem ok27:OKP (en27 F27):=ST.ok1 (q27 F49 (Y4 FUEL)) (Aa ok49 Ab) Tryz.func27 [8] ⟨⟨_,rfl,zz4⟩,trivial⟩
abbrev FT9:=(R:Type)→Tq21→LI→(Tq29→Int→Option R)→Option R
def en9 (F:FT9):Ent:=eV 9 [Kq21,(.arr 32 (.int .u8))] [Kq29,(.int .i64)] F
def p9 (F25:FT25) (F26:FT26) (F27:FT27):FT9:=fun R a0 a1 k=>
F25 R a0 fun y1=>
(match (!y1) with
|true=>k (((0:Int),(0:Int),(0:Int),(0:Int),(0:Int),()),(0:Int),([]:(List Tq5)),((0:Int),(List.replicate 32 (0:Int)),(List.replicate 32 (0:Int)),([]:(List Tq3)),()),([]:LI),([]:LI),()) (1:Int)
|false=>F26 R a1 fun y2=>
let v3:=([(-1:Int)]:LI);F27 R v3 a0.1 fun y4=>
k (a0,(0:Int),([]:(List Tq5)),y2,y4,([]:LI),()) (0:Int))
theorem q9 (F25:FT25) (F26:FT26) (F27:FT27):EQ (en9 (p9 F25 F26 F27)) (sE 0 18 [] [en25 F25,en26 F26,en27 F27] []) Tryz.f9 [(.cell 4 34,34,false),(.tmp 5,35,false)]:=fun _ _ _=>by kernel_rfl
def F9:FT9:=p9 F25 F26 F27
theorem ok9:OKP (en9 F9):=ST.ok0 (q9 F25 F26 F27) (Aa ok25 (Aa ok26 (Aa ok27 Ab))) Tryz.func9
abbrev FT46:=(R:Type)→LI→(LI→Option R)→Option R
def en46 (F:FT46):Ent:=eM 46 [(false,(.arr 32 (.int .u8)))] [(true,(.int .u8))] F
abbrev D46_3 (Z:Type):=Int→LI→LI→Z
abbrev E46_3 (R:Type):=(LI→Option R)→Option R
abbrev Qk:=(R:Type)→D46_3 (E46_3 R)
def zhf (L:Qk):LEnt:=lM 3 [.fix 1 (.ptr 0 [] (.arr 32 (.int .u8))),.fix 3 (.own 1 0),.val 4 (.int .i64),.var 0 (.arr 32 (.int .u8)) false,.row 1 (.int .u8) false] 2 [(.exit 0,[.fix 3 (.own 1 0),.row 1 (.int .u8) false])] L
def e46 (L3:Qk):=sE 0 16 [(1,0)] [] [zhf L3]
def zyp (R:Type):D46_3 (D46_3 (Option R)→E46_3 R):=fun x1 x2 x3 kc k0=>
let v4:=decide (x1<32);(match v4 with
|true=>(match (bnd x1 (32:Int)) with
|true=>let v5:=x2.getD x1.toNat 0;let v6:=([v5]:LI);(match (decide (x3.length+v6.length≤140737488355328)) with
|true=>let v7:=x3++v6;let v8:=IntKind.i64.wrap (x1+1);kc v8 x2 v7
|false=>none)
|false=>none)
|false=>k0 x3)
theorem q46_3 (L3:Qk):LEQ (zhf L3) (e46 L3) Tryz.f46 zyp:=fun _ _ _ _=>by kernel_rfl
def Y1:Nat→Qk
 | 0=>fun _ _ _ _ _=>none
 | n+1=>fun R x1 x2 x3 k0=>zyp R x1 x2 x3 (fun x1 x2 x3=>Y1 n R x1 x2 x3 k0) k0
def p46 (L3:Qk):FT46:=fun R a0 k=>
L3 R (0:Int) a0 ([]:LI) (fun x1=>
k x1)
theorem q46 (L3:Qk):EQ (en46 (p46 L3)) (e46 L3) Tryz.f46 [(.tmp 2,93,true)]:=fun _ _ _=>by kernel_rfl
def F46:FT46:=p46 (Y1 FUEL)
theorem zz1:LKP (zhf (Y1 FUEL)) 0 16 3 Tryz.f46:=ST.lok (q46_3 (Y1 FUEL)) Ab [] trivial
theorem ok46:OKP (en46 F46):=ST.ok1 (q46 (Y1 FUEL)) Ab Tryz.func46 [3] ⟨⟨_,rfl,zz1⟩,trivial⟩
abbrev FT47:=(R:Type)→Int→(LI→Option R)→Option R
def en47 (F:FT47):Ent:=eV 47 [(.int .u64)] [(.arr 8 (.int .u8))] F
abbrev D47_3 (Z:Type):=Int→Int→LI→LI→Z
abbrev E47_3 (R:Type):=(LI→LI→Option R)→Option R
abbrev Qj:=(R:Type)→D47_3 (E47_3 R)
def zhe (L:Qj):LEnt:=lM 3 [.val 0 (.int .u64),.fix 2 (.ptr 0 [] (.arr 8 (.int .u8))),.fix 3 (.ptr 1 [] (.arr 8 (.int .u8))),.val 4 (.int .i64),.var 0 (.arr 8 (.int .u8)) false,.var 1 (.arr 8 (.int .u8)) false] 2 [(.exit 0,[.fix 2 (.ptr 0 [] (.arr 8 (.int .u8))),.fix 3 (.ptr 1 [] (.arr 8 (.int .u8))),.var 0 (.arr 8 (.int .u8)) false,.var 1 (.arr 8 (.int .u8)) false])] L
def e47 (L3:Qj):=sE 0 17 [] [] [zhe L3]
def zpv (R:Type):D47_3 (D47_3 (Option R)→E47_3 R):=fun x1 x2 x3 x4 kc k0=>
let v5:=decide (x2≥0);(match v5 with
|true=>let v6:=Int.tmod x1 (256:Int);let v7:=IntKind.u8.wrap v6;(match (bnd x2 (8:Int)) with
|true=>let v8:=x4.set x2.toNat v7;let v9:=IntKind.u64.wrap (Int.tdiv x1 (256:Int));let v10:=IntKind.i64.wrap (x2 - 1);kc v9 v10 x3 v8
|false=>none)
|false=>k0 x3 x4)
theorem q47_3 (L3:Qj):LEQ (zhe L3) (e47 L3) Tryz.f47 zpv:=fun _ _ _ _=>by kernel_rfl
def U6:Nat→Qj
 | 0=>fun _ _ _ _ _ _=>none
 | n+1=>fun R x1 x2 x3 x4 k0=>zpv R x1 x2 x3 x4 (fun x1 x2 x3 x4=>U6 n R x1 x2 x3 x4 k0) k0
def p47 (L3:Qj):FT47:=fun R a0 k=>
L3 R a0 (7:Int) (List.replicate 8 (0:Int)) (List.replicate 8 (0:Int)) (fun x1 x2=>
k x2)
theorem q47 (L3:Qj):EQ (en47 (p47 L3)) (e47 L3) Tryz.f47 [(.cell 2 95,95,false)]:=fun _ _ _=>by kernel_rfl
def F47:FT47:=p47 (U6 FUEL)
theorem zz0:LKP (zhe (U6 FUEL)) 0 17 3 Tryz.f47:=ST.lok (q47_3 (U6 FUEL)) Ab [] trivial
theorem ok47:OKP (en47 F47):=ST.ok1 (q47 (U6 FUEL)) Ab Tryz.func47 [3] ⟨⟨_,rfl,zz0⟩,trivial⟩
abbrev zl0:=(R:Type)→LI→Int→(LI→Bool→Option R)→Option R
def en134 (F:zl0):Ent:=eV 134 [(.sl (.int .u8)),(.int .u64)] [(.sl (.int .u8)),.bool] F
abbrev zol (Z:Type):=Int→LI→Z
abbrev zxa (R:Type):=(Int→LI→Option R)→Option R
abbrev Jb:=(R:Type)→zol (zxa R)
def X8 (L:Jb):LEnt:=lM 4 [.val 1 (.int .u64),.fix 6 (.own 0 0),.row 0 (.int .u8) false] 1 [(.exit 0,[.val 1 (.int .u64),.fix 6 (.own 0 0),.row 0 (.int .u8) false])] L
abbrev zok (Z:Type):=Int→LI→LI→Z
abbrev zw9 (R:Type):=(LI→Option R)→Option R
abbrev Ja:=(R:Type)→zok (zw9 R)
def X7 (L:Ja):LEnt:=lM 8 [.fix 6 (.own 0 0),.fix 7 (.ptr 1 [] (.arr 8 (.int .u8))),.val 8 (.int .i64),.row 0 (.int .u8) false,.var 1 (.arr 8 (.int .u8)) false] 2 [(.exit 2,[.fix 6 (.own 0 0),.row 0 (.int .u8) false])] L
def e134 (F47:FT47) (L4:Jb) (L8:Ja):=sE 0 45 [(3,0)] [en47 F47] [X8 L4,X7 L8]
def zbs (R:Type):zol (zol (Option R)→zxa R):=fun x1 x2 kc k0=>
let v3:=(x2.length:Int);let v4:=Int.tmod v3 (64:Int);let v5:=v4 !=56;(match v5 with
|true=>let v6:=([(0:Int)]:LI);(match (decide (x2.length+v6.length≤140737488355328)) with
|true=>let v7:=x2++v6;kc x1 v7
|false=>none)
|false=>k0 x1 x2)
theorem q134_4 (F47:FT47) (L4:Jb) (L8:Ja):LEQ (X8 L4) (e134 F47 L4 L8) Tryz.f134 zbs:=fun _ _ _ _=>by kernel_rfl
def Kb:Nat→Jb
 | 0=>fun _ _ _ _=>none
 | n+1=>fun R x1 x2 k0=>zbs R x1 x2 (fun x1 x2=>Kb n R x1 x2 k0) k0
def zgl (R:Type):zok (zok (Option R)→zw9 R):=fun x1 x2 x3 kc k0=>
let v4:=decide (x1<8);(match v4 with
|true=>(match (bnd x1 (8:Int)) with
|true=>let v5:=x3.getD x1.toNat 0;let v6:=([v5]:LI);(match (decide (x2.length+v6.length≤140737488355328)) with
|true=>let v7:=x2++v6;let v8:=IntKind.i64.wrap (x1+1);kc v8 v7 x3
|false=>none)
|false=>none)
|false=>k0 x2)
theorem q134_8 (F47:FT47) (L4:Jb) (L8:Ja):LEQ (X7 L8) (e134 F47 L4 L8) Tryz.f134 zgl:=fun _ _ _ _=>by kernel_rfl
def Ka:Nat→Ja
 | 0=>fun _ _ _ _ _=>none
 | n+1=>fun R x1 x2 x3 k0=>zgl R x1 x2 x3 (fun x1 x2 x3=>Ka n R x1 x2 x3 k0) k0
def p134 (F47:FT47) (L4:Jb) (L8:Ja):zl0:=fun R a0 a1 k=>
let v1:=decide (a1≥2305843009213693952);(match v1 with
|true=>k ([]:LI) false
|false=>let v2:=(a0.length:Int);let v3:=IntKind.u64.wrap v2;let v4:=Int.tmod a1 (64:Int);let v5:=v3 !=v4;(match v5 with
|true=>k ([]:LI) false
|false=>let v6:=([]:LI);(match (decide (v6.length+a0.length≤140737488355328)) with
|true=>let v7:=v6++a0;let v8:=([(128:Int)]:LI);(match (decide (v7.length+v8.length≤140737488355328)) with
|true=>let v9:=v7++v8;L4 R a1 v9 (fun x10 x11=>
let v12:=IntKind.u64.wrap ((8:Int)*x10);F47 R v12 fun y13=>
L8 R (0:Int) x11 y13 (fun x14=>
k x14 true))
|false=>none)
|false=>none)))
theorem q134 (F47:FT47) (L4:Jb) (L8:Ja):EQ (en134 (p134 F47 L4 L8)) (e134 F47 L4 L8) Tryz.f134 [(.tmp 4,93,false),(.tmp 5,4,false)]:=fun _ _ _=>by kernel_rfl
def F134:zl0:=p134 F47 (Kb FUEL) (Ka FUEL)
theorem zrf:LKP (X8 (Kb FUEL)) 0 45 4 Tryz.f134:=ST.lok (q134_4 F47 (Kb FUEL) (Ka FUEL)) (Aa ok47 Ab) [] trivial
theorem zre:LKP (X7 (Ka FUEL)) 0 45 8 Tryz.f134:=ST.lok (q134_8 F47 (Kb FUEL) (Ka FUEL)) (Aa ok47 Ab) [] trivial
theorem ok134:OKP (en134 F134):=ST.ok1 (q134 F47 (Kb FUEL) (Ka FUEL)) (Aa ok47 Ab) Tryz.func134 [4,8] ⟨⟨_,rfl,zrf⟩,⟨⟨_,rfl,zre⟩,trivial⟩⟩
abbrev FT91:=(R:Type)→LI→(LI→Option R)→Option R
def en91 (F:FT91):Ent:=eV 91 [(.sl (.int .u8))] [(.sl (.int .u8))] F
def p91 (F134:zl0):FT91:=fun R a0 k=>
let v1:=(a0.length:Int);let v2:=(a0.length:Int);let v3:=Int.tmod v2 (64:Int);let v4:=IntKind.i64.wrap (v1 - v3);(match (decide (0≤v4∧v4≤(a0.length:Int)∧(a0.length:Int)≤(a0.length:Int)∧(a0.length:Int)≤(a0.length:Int))) with
|true=>let v5:=List.take (Int.toNat ((a0.length:Int) - v4)) (List.drop v4.toNat a0);let v6:=(a0.length:Int);let v7:=IntKind.u64.wrap v6;F134 R v5 v7 fun y8 y9=>
let v10:=([]:LI);(match (decide (0≤(0:Int)∧(0:Int)≤v4∧v4≤v4∧v4≤(a0.length:Int))) with
|true=>let v11:=List.take (Int.toNat (v4 - 0)) (List.drop 0 a0);(match (decide (v10.length+v11.length≤140737488355328)) with
|true=>let v12:=v10++v11;(match (decide (v12.length+y8.length≤140737488355328)) with
|true=>let v13:=v12++y8;k v13
|false=>none)
|false=>none)
|false=>none)
|false=>none)
theorem q91 (F134:zl0):EQ (en91 (p91 F134)) (sE 0 29 [(3,0)] [en134 F134] []) Tryz.f91 [(.tmp 2,93,false)]:=fun _ _ _=>by kernel_rfl
def F91:FT91:=p91 F134
theorem ok91:OKP (en91 F91):=ST.ok0 (q91 F134) (Aa ok134 Ab) Tryz.func91
abbrev FT90:=(R:Type)→LI→((List LI)→LI→Option R)→Option R
def en90 (F:FT90):Ent:=eV 90 [(.sl (.int .u8))] [(.sl (.arr 64 (.int .u8))),(.sl (.int .u8))] F
abbrev D90_3 (Z:Type):=LI→Int→(List LI)→Z
abbrev E90_3 (R:Type):=(LI→Int→(List LI)→Option R)→Option R
abbrev Ov:=(R:Type)→D90_3 (E90_3 R)
def zg9 (L:Ov):LEnt:=lM 3 [.val 0 (.sl (.int .u8)),.fix 4 (.own 0 0),.val 5 (.int .i64),.row 0 (.arr 64 (.int .u8)) false] 1 [(.exit 0,[.val 0 (.sl (.int .u8)),.fix 4 (.own 0 0),.val 5 (.int .i64),.row 0 (.arr 64 (.int .u8)) false])] L
abbrev D90_6 (Z:Type):=LI→Int→Int→(List LI)→LI→Z
abbrev E90_6 (R:Type):=(LI→Int→(List LI)→LI→Option R)→Option R
abbrev Ou:=(R:Type)→D90_6 (E90_6 R)
def zg8 (L:Ou):LEnt:=lM 6 [.val 0 (.sl (.int .u8)),.fix 4 (.own 0 0),.val 5 (.int .i64),.fix 6 (.ptr 1 [] (.arr 64 (.int .u8))),.val 7 (.int .i64),.row 0 (.arr 64 (.int .u8)) false,.var 1 (.arr 64 (.int .u8)) false] 2 [(.exit 2,[.val 0 (.sl (.int .u8)),.fix 4 (.own 0 0),.val 5 (.int .i64),.fix 6 (.ptr 1 [] (.arr 64 (.int .u8))),.row 0 (.arr 64 (.int .u8)) false,.var 1 (.arr 64 (.int .u8)) false])] L
def e90 (L3:Ov) (L6:Ou):=sE 0 35 [(1,0)] [] [zg9 L3,zg8 L6]
def zyk (R:Type):D90_6 (D90_6 (Option R)→E90_6 R):=fun x1 x2 x3 x4 x5 kc k0=>
let v6:=decide (x3<64);(match v6 with
|true=>let v7:=IntKind.i64.wrap (x2+x3);(match bnd v7 x1.length with
|true=>let v8:=x1.getD v7.toNat 0;(match (bnd x3 (64:Int)) with
|true=>let v9:=x5.set x3.toNat v8;let v10:=IntKind.i64.wrap (x3+1);kc x1 x2 v10 x4 v9
|false=>none)
|false=>none)
|false=>k0 x1 x2 x4 x5)
theorem q90_6 (L3:Ov) (L6:Ou):LEQ (zg8 L6) (e90 L3 L6) Tryz.f90 zyk:=fun _ _ _ _=>by kernel_rfl
def U4:Nat→Ou
 | 0=>fun _ _ _ _ _ _ _=>none
 | n+1=>fun R x1 x2 x3 x4 x5 k0=>zyk R x1 x2 x3 x4 x5 (fun x1 x2 x3 x4 x5=>U4 n R x1 x2 x3 x4 x5 k0) k0
def zyl (L6:Ou) (R:Type):D90_3 (D90_3 (Option R)→E90_3 R):=fun x1 x2 x3 kc k0=>
let v4:=IntKind.i64.wrap (x2+64);let v5:=(x1.length:Int);let v6:=decide (v4≤v5);(match v6 with
|true=>L6 R x1 x2 (0:Int) x3 (List.replicate 64 (0:Int)) (fun x7 x8 x9 x10=>
let v11:=([x10]:(List LI));(match (decide (x9.length+v11.length≤2199023255552)) with
|true=>let v12:=x9++v11;let v13:=IntKind.i64.wrap (x8+64);kc x7 v13 v12
|false=>none))
|false=>k0 x1 x2 x3)
theorem q90_3 (L3:Ov) (L6:Ou):LEQ (zg9 L3) (e90 L3 L6) Tryz.f90 (zyl L6):=fun _ _ _ _=>by kernel_rfl
def Sc:Nat→Ov
 | 0=>fun _ _ _ _ _=>none
 | n+1=>fun R x1 x2 x3 k0=>zyl (U4 FUEL) R x1 x2 x3 (fun x1 x2 x3=>Sc n R x1 x2 x3 k0) k0
def p90 (L3:Ov):FT90:=fun R a0 k=>
L3 R a0 (0:Int) ([]:(List LI)) (fun x1 x2 x3=>
(match (decide (0≤x2∧x2≤(x1.length:Int)∧(x1.length:Int)≤(x1.length:Int)∧(x1.length:Int)≤(x1.length:Int))) with
|true=>let v4:=List.take (Int.toNat ((x1.length:Int) - x2)) (List.drop x2.toNat x1);k x3 v4
|false=>none))
theorem q90 (L3:Ov) (L6:Ou):EQ (en90 (p90 L3)) (e90 L3 L6) Tryz.f90 [(.tmp 2,137,false),(.tmp 3,93,false)]:=fun _ _ _=>by kernel_rfl
def F90:FT90:=p90 (Sc FUEL)
theorem zzu:LKP (zg8 (U4 FUEL)) 0 35 6 Tryz.f90:=ST.lok (q90_6 (Sc FUEL) (U4 FUEL)) Ab [] trivial
theorem zzv:LKP (zg9 (Sc FUEL)) 0 35 3 Tryz.f90:=ST.lok (q90_3 (Sc FUEL) (U4 FUEL)) Ab [6] ⟨⟨_,rfl,zzu⟩,trivial⟩
theorem ok90:OKP (en90 F90):=ST.ok1 (q90 (Sc FUEL) (U4 FUEL)) Ab Tryz.func90 [3] ⟨⟨_,rfl,zzv⟩,trivial⟩
abbrev FT94:=(R:Type)→(LI→Option R)→Option R
def en94 (F:FT94):Ent:=eV 94 [] [(.arr 8 (.int .u32))] F
def p94:FT94:=fun R k=>
let v1:=List.set (List.set (List.set (List.set (List.set (List.set (List.set (List.set (List.replicate 8 (0:Int)) 0 (1779033703:Int)) 1 (3144134277:Int)) 2 (1013904242:Int)) 3 (2773480762:Int)) 4 (1359893119:Int)) 5 (2600822924:Int)) 6 (528734635:Int)) 7 (1541459225:Int);k v1
theorem q94:EQ (en94 p94) (sE 0 2 [] [] []) Tryz.f94 [(.cell 0 143,143,false)]:=fun _ _ _=>by kernel_rfl
def F94:FT94:=p94
theorem ok94:OKP (en94 F94):=ST.ok0 q94 Ab Tryz.func94
abbrev Vt:=(R:Type)→LI→(Int→Option R)→Option R
def en216 (F:Vt):Ent:=eV 216 [(.arr 4 (.int .u8))] [(.int .u32)] F
abbrev znv (Z:Type):=Int→Int→LI→Z
abbrev zwk (R:Type):=(Int→Option R)→Option R
abbrev Lm:=(R:Type)→znv (zwk R)
def Xp (L:Lm):LEnt:=lM 3 [.fix 1 (.ptr 0 [] (.arr 4 (.int .u8))),.val 3 (.int .u32),.val 4 (.int .i64),.var 0 (.arr 4 (.int .u8)) false] 1 [(.exit 0,[.val 3 (.int .u32)])] L
def e216 (L3:Lm):=sE 0 17 [] [] [Xp L3]
def zf5 (R:Type):znv (znv (Option R)→zwk R):=fun x1 x2 x3 kc k0=>
let v4:=decide (x2<4);(match v4 with
|true=>let v5:=IntKind.u32.wrap (x1*256);(match (bnd x2 (4:Int)) with
|true=>let v6:=x3.getD x2.toNat 0;let v7:=IntKind.u32.wrap v6;let v8:=IntKind.u32.wrap (v5+v7);let v9:=IntKind.i64.wrap (x2+1);kc v8 v9 x3
|false=>none)
|false=>k0 x1)
theorem q216_3 (L3:Lm):LEQ (Xp L3) (e216 L3) Tryz.f216 zf5:=fun _ _ _ _=>by kernel_rfl
def Qu:Nat→Lm
 | 0=>fun _ _ _ _ _=>none
 | n+1=>fun R x1 x2 x3 k0=>zf5 R x1 x2 x3 (fun x1 x2 x3=>Qu n R x1 x2 x3 k0) k0
def p216 (L3:Lm):Vt:=fun R a0 k=>
L3 R (0:Int) (0:Int) a0 (fun x1=>
k x1)
theorem q216 (L3:Lm):EQ (en216 (p216 L3)) (e216 L3) Tryz.f216 [(.tmp 2,136,false)]:=fun _ _ _=>by kernel_rfl
def F216:Vt:=p216 (Qu FUEL)
theorem zqv:LKP (Xp (Qu FUEL)) 0 17 3 Tryz.f216:=ST.lok (q216_3 (Qu FUEL)) Ab [] trivial
theorem zza:OKP (en216 F216):=ST.ok1 (q216 (Qu FUEL)) Ab Tryz.func216 [3] ⟨⟨_,rfl,zqv⟩,trivial⟩
abbrev Se:=(R:Type)→Int→Int→(Int→Option R)→Option R
def zic (F:Se):Ent:=eV 248 [(.int .u32),(.int .i64)] [(.int .u32)] F
abbrev zno (Z:Type):=Int→Int→Int→Z
abbrev zwd (R:Type):=(Int→Option R)→Option R
abbrev Lf:=(R:Type)→zno (zwd R)
def Xi (L:Lf):LEnt:=lM 5 [.val 0 (.int .u32),.val 1 (.int .i64),.val 5 (.int .i64)] 0 [(.exit 0,[.val 0 (.int .u32)])] L
def e248 (L5:Lf):=sE 0 24 [] [] [Xi L5]
def zf0 (R:Type):zno (zno (Option R)→zwd R):=fun x1 x2 x3 kc k0=>
let v4:=decide (x3<x2);(match v4 with
|true=>let v5:=IntKind.u32.wrap (Int.tdiv x1 (2:Int));let v6:=Int.tmod x1 (2:Int);let v7:=IntKind.u32.wrap (v6*2147483648);let v8:=IntKind.u32.wrap (v5+v7);let v9:=IntKind.i64.wrap (x3+1);kc v8 x2 v9
|false=>k0 x1)
theorem q248_5 (L5:Lf):LEQ (Xi L5) (e248 L5) Tryz.f248 zf0:=fun _ _ _ _=>by kernel_rfl
def O1:Nat→Lf
 | 0=>fun _ _ _ _ _=>none
 | n+1=>fun R x1 x2 x3 k0=>zf0 R x1 x2 x3 (fun x1 x2 x3=>O1 n R x1 x2 x3 k0) k0
def p248 (L5:Lf):Se:=fun R a0 a1 k=>
let v1:=Int.tmod a1 (32:Int);let v2:=decide (v1<0);(match v2 with
|true=>let v3:=IntKind.i64.wrap (v1+32);L5 R a0 v3 (0:Int) (fun x4=>
k x4)
|false=>L5 R a0 v1 (0:Int) (fun x5=>
k x5))
theorem q248 (L5:Lf):EQ (zic (p248 L5)) (e248 L5) Tryz.f248 [(.tmp 4,136,false)]:=fun _ _ _=>by kernel_rfl
def F248:Se:=p248 (O1 FUEL)
theorem zqo:LKP (Xi (O1 FUEL)) 0 24 5 Tryz.f248:=ST.lok (q248_5 (O1 FUEL)) Ab [] trivial
theorem zy6:OKP (zic F248):=ST.ok1 (q248 (O1 FUEL)) Ab Tryz.func248 [5] ⟨⟨_,rfl,zqo⟩,trivial⟩
abbrev Vp:=(R:Type)→Int→Int→(Int→Option R)→Option R
def zsg (F:Vp):Ent:=eV 247 [(.int .u32),(.int .i64)] [(.int .u32)] F
abbrev znp (Z:Type):=Int→Int→Int→Z
abbrev zwe (R:Type):=(Int→Option R)→Option R
abbrev Lg:=(R:Type)→znp (zwe R)
def Xj (L:Lg):LEnt:=lM 4 [.val 0 (.int .u32),.val 1 (.int .i64),.val 5 (.int .i64)] 0 [(.exit 0,[.val 0 (.int .u32)])] L
def e247 (L4:Lg):=sE 0 16 [] [] [Xj L4]
def zf1 (R:Type):znp (znp (Option R)→zwe R):=fun x1 x2 x3 kc k0=>
let v4:=decide (x3<x2);(match v4 with
|true=>let v5:=IntKind.u32.wrap (Int.tdiv x1 (2:Int));let v6:=IntKind.i64.wrap (x3+1);kc v5 x2 v6
|false=>k0 x1)
theorem q247_4 (L4:Lg):LEQ (Xj L4) (e247 L4) Tryz.f247 zf1:=fun _ _ _ _=>by kernel_rfl
def O2:Nat→Lg
 | 0=>fun _ _ _ _ _=>none
 | n+1=>fun R x1 x2 x3 k0=>zf1 R x1 x2 x3 (fun x1 x2 x3=>O2 n R x1 x2 x3 k0) k0
def p247 (L4:Lg):Vp:=fun R a0 a1 k=>
let v1:=decide (a1>31);(match v1 with
|true=>k (0:Int)
|false=>L4 R a0 a1 (0:Int) (fun x2=>
k x2))
theorem q247 (L4:Lg):EQ (zsg (p247 L4)) (e247 L4) Tryz.f247 [(.tmp 4,136,false)]:=fun _ _ _=>by kernel_rfl
def F247:Vp:=p247 (O2 FUEL)
theorem zqp:LKP (Xj (O2 FUEL)) 0 16 4 Tryz.f247:=ST.lok (q247_4 (O2 FUEL)) Ab [] trivial
theorem ok247:OKP (zsg F247):=ST.ok1 (q247 (O2 FUEL)) Ab Tryz.func247 [4] ⟨⟨_,rfl,zqp⟩,trivial⟩
abbrev Vs:=(R:Type)→Int→(Int→Option R)→Option R
def en217 (F:Vs):Ent:=eV 217 [(.int .u32)] [(.int .u32)] F
def p217 (F247:Vp) (F248:Se):Vs:=fun R a0 k=>
F248 R a0 (17:Int) fun y1=>
F248 R a0 (19:Int) fun y2=>
let v3:=ixor .u32 y1 y2;F247 R a0 (10:Int) fun y4=>
let v5:=ixor .u32 v3 y4;k v5
theorem q217 (F247:Vp) (F248:Se):EQ (en217 (p217 F247 F248)) (sE 0 11 [] [zsg F247,zic F248] []) Tryz.f217 [(.tmp 2,136,false)]:=fun _ _ _=>by kernel_rfl
def F217:Vs:=p217 F247 F248
theorem zy9:OKP (en217 F217):=ST.ok0 (q217 F247 F248) (Aa ok247 (Aa zy6 Ab)) Tryz.func217
abbrev Vr:=(R:Type)→Int→(Int→Option R)→Option R
def en218 (F:Vr):Ent:=eV 218 [(.int .u32)] [(.int .u32)] F
def p218 (F247:Vp) (F248:Se):Vr:=fun R a0 k=>
F248 R a0 (7:Int) fun y1=>
F248 R a0 (18:Int) fun y2=>
let v3:=ixor .u32 y1 y2;F247 R a0 (3:Int) fun y4=>
let v5:=ixor .u32 v3 y4;k v5
theorem q218 (F247:Vp) (F248:Se):EQ (en218 (p218 F247 F248)) (sE 0 11 [] [zsg F247,zic F248] []) Tryz.f218 [(.tmp 2,136,false)]:=fun _ _ _=>by kernel_rfl
def F218:Vr:=p218 F247 F248
theorem zy8:OKP (en218 F218):=ST.ok0 (q218 F247 F248) (Aa ok247 (Aa zy6 Ab)) Tryz.func218
abbrev Vz:=(R:Type)→LI→(LI→Option R)→Option R
def en175 (F:Vz):Ent:=eV 175 [(.arr 64 (.int .u8))] [(.arr 64 (.int .u32))] F
abbrev zn7 (Z:Type):=Int→LI→LI→LI→Z
abbrev zww (R:Type):=(LI→LI→Option R)→Option R
abbrev I7:=(R:Type)→zn7 (zww R)
def Xz (L:I7):LEnt:=lM 3 [.fix 1 (.ptr 0 [] (.arr 64 (.int .u8))),.fix 2 (.ptr 1 [] (.arr 64 (.int .u32))),.fix 3 (.ptr 2 [] (.arr 64 (.int .u32))),.val 4 (.int .i64),.var 0 (.arr 64 (.int .u8)) false,.var 1 (.arr 64 (.int .u32)) false,.var 2 (.arr 64 (.int .u32)) false] 3 [(.exit 0,[.fix 2 (.ptr 1 [] (.arr 64 (.int .u32))),.fix 3 (.ptr 2 [] (.arr 64 (.int .u32))),.var 1 (.arr 64 (.int .u32)) false,.var 2 (.arr 64 (.int .u32)) false])] L
abbrev zn6 (Z:Type):=Int→LI→LI→Z
abbrev zwv (R:Type):=(LI→LI→Option R)→Option R
abbrev I6:=(R:Type)→zn6 (zwv R)
def Xy (L:I6):LEnt:=lM 7 [.fix 2 (.ptr 1 [] (.arr 64 (.int .u32))),.fix 3 (.ptr 2 [] (.arr 64 (.int .u32))),.val 5 (.int .i64),.var 1 (.arr 64 (.int .u32)) false,.var 2 (.arr 64 (.int .u32)) false] 3 [(.exit 2,[.fix 2 (.ptr 1 [] (.arr 64 (.int .u32))),.fix 3 (.ptr 2 [] (.arr 64 (.int .u32))),.var 1 (.arr 64 (.int .u32)) false,.var 2 (.arr 64 (.int .u32)) false])] L
def e175 (F216:Vt) (F217:Vs) (F218:Vr) (L3:I7) (L7:I6):=sE 0 61 [] [en216 F216,en217 F217,en218 F218] [Xz L3,Xy L7]
def zgd (F216:Vt) (R:Type):zn7 (zn7 (Option R)→zww R):=fun x1 x2 x3 x4 kc k0=>
let v5:=decide (x1<16);(match v5 with
|true=>let v6:=IntKind.i64.wrap ((4:Int)*x1);(match (bnd v6 (64:Int)) with
|true=>let v7:=x2.getD v6.toNat 0;let v8:=IntKind.i64.wrap ((4:Int)*x1);let v9:=IntKind.i64.wrap (v8+1);(match (bnd v9 (64:Int)) with
|true=>let v10:=x2.getD v9.toNat 0;let v11:=IntKind.i64.wrap ((4:Int)*x1);let v12:=IntKind.i64.wrap (v11+2);(match (bnd v12 (64:Int)) with
|true=>let v13:=x2.getD v12.toNat 0;let v14:=IntKind.i64.wrap ((4:Int)*x1);let v15:=IntKind.i64.wrap (v14+3);(match (bnd v15 (64:Int)) with
|true=>let v16:=x2.getD v15.toNat 0;let v17:=List.set (List.set (List.set (List.set (List.replicate 4 (0:Int)) 0 v7) 1 v10) 2 v13) 3 v16;F216 R v17 fun y18=>
(match (bnd x1 (64:Int)) with
|true=>let v19:=x4.set x1.toNat y18;let v20:=IntKind.i64.wrap (x1+1);kc v20 x2 x3 v19
|false=>none)
|false=>none)
|false=>none)
|false=>none)
|false=>none)
|false=>k0 x3 x4)
theorem q175_3 (F216:Vt) (F217:Vs) (F218:Vr) (L3:I7) (L7:I6):LEQ (Xz L3) (e175 F216 F217 F218 L3 L7) Tryz.f175 (zgd F216):=fun _ _ _ _=>by kernel_rfl
def M0:Nat→I7
 | 0=>fun _ _ _ _ _ _=>none
 | n+1=>fun R x1 x2 x3 x4 k0=>zgd F216 R x1 x2 x3 x4 (fun x1 x2 x3 x4=>M0 n R x1 x2 x3 x4 k0) k0
def zgc (F217:Vs) (F218:Vr) (R:Type):zn6 (zn6 (Option R)→zwv R):=fun x1 x2 x3 kc k0=>
let v4:=decide (x1<64);(match v4 with
|true=>let v5:=IntKind.i64.wrap (x1 - 2);(match (bnd v5 (64:Int)) with
|true=>let v6:=x3.getD v5.toNat 0;F217 R v6 fun y7=>
let v8:=IntKind.i64.wrap (x1 - 7);(match (bnd v8 (64:Int)) with
|true=>let v9:=x3.getD v8.toNat 0;let v10:=IntKind.u32.wrap (y7+v9);let v11:=IntKind.i64.wrap (x1 - 15);(match (bnd v11 (64:Int)) with
|true=>let v12:=x3.getD v11.toNat 0;F218 R v12 fun y13=>
let v14:=IntKind.u32.wrap (v10+y13);let v15:=IntKind.i64.wrap (x1 - 16);(match (bnd v15 (64:Int)) with
|true=>let v16:=x3.getD v15.toNat 0;let v17:=IntKind.u32.wrap (v14+v16);(match (bnd x1 (64:Int)) with
|true=>let v18:=x3.set x1.toNat v17;let v19:=IntKind.i64.wrap (x1+1);kc v19 x2 v18
|false=>none)
|false=>none)
|false=>none)
|false=>none)
|false=>none)
|false=>k0 x2 x3)
theorem q175_7 (F216:Vt) (F217:Vs) (F218:Vr) (L3:I7) (L7:I6):LEQ (Xy L7) (e175 F216 F217 F218 L3 L7) Tryz.f175 (zgc F217 F218):=fun _ _ _ _=>by kernel_rfl
def J8:Nat→I6
 | 0=>fun _ _ _ _ _=>none
 | n+1=>fun R x1 x2 x3 k0=>zgc F217 F218 R x1 x2 x3 (fun x1 x2 x3=>J8 n R x1 x2 x3 k0) k0
def p175 (L3:I7) (L7:I6):Vz:=fun R a0 k=>
L3 R (0:Int) a0 (List.replicate 64 (0:Int)) (List.replicate 64 (0:Int)) (fun x1 x2=>
L7 R (16:Int) x1 x2 (fun x3 x4=>
k x4))
theorem q175 (F216:Vt) (F217:Vs) (F218:Vr) (L3:I7) (L7:I6):EQ (en175 (p175 L3 L7)) (e175 F216 F217 F218 L3 L7) Tryz.f175 [(.cell 2 223,223,false)]:=fun _ _ _=>by kernel_rfl
def F175:Vz:=p175 (M0 FUEL) (J8 FUEL)
theorem zq5:LKP (Xz (M0 FUEL)) 0 61 3 Tryz.f175:=ST.lok (q175_3 F216 F217 F218 (M0 FUEL) (J8 FUEL)) (Aa zza (Aa zy9 (Aa zy8 Ab))) [] trivial
theorem zq4:LKP (Xy (J8 FUEL)) 0 61 7 Tryz.f175:=ST.lok (q175_7 F216 F217 F218 (M0 FUEL) (J8 FUEL)) (Aa zza (Aa zy9 (Aa zy8 Ab))) [] trivial
theorem zzg:OKP (en175 F175):=ST.ok1 (q175 F216 F217 F218 (M0 FUEL) (J8 FUEL)) (Aa zza (Aa zy9 (Aa zy8 Ab))) Tryz.func175 [3,7] ⟨⟨_,rfl,zq5⟩,⟨⟨_,rfl,zq4⟩,trivial⟩⟩
abbrev Vx:=(R:Type)→Int→(Int→Option R)→Option R
def en177 (F:Vx):Ent:=eV 177 [(.int .i64)] [(.int .u32)] F
def p177:Vx:=fun R a0 k=>
let v1:=decide (a0<0);(match v1 with
|true=>k (0:Int)
|false=>let v2:=decide (a0>63);(match v2 with
|true=>k (0:Int)
|false=>let v3:=List.set (List.set (List.set (List.set (List.set (List.set (List.set (List.set (List.set (List.set (List.set (List.set (List.set (List.set (List.set (List.set (List.set (List.set (List.set (List.set (List.set (List.set (List.set (List.set (List.set (List.set (List.set (List.set (List.set (List.set (List.set (List.set (List.set (List.set (List.set (List.set (List.set (List.set (List.set (List.set (List.set (List.set (List.set (List.set (List.set (List.set (List.set (List.set (List.set (List.set (List.set (List.set (List.set (List.set (List.set (List.set (List.set (List.set (List.set (List.set (List.set (List.set (List.set (List.set (List.replicate 64 (0:Int)) 0 (1116352408:Int)) 1 (1899447441:Int)) 2 (3049323471:Int)) 3 (3921009573:Int)) 4 (961987163:Int)) 5 (1508970993:Int)) 6 (2453635748:Int)) 7 (2870763221:Int)) 8 (3624381080:Int)) 9 (310598401:Int)) 10 (607225278:Int)) 11 (1426881987:Int)) 12 (1925078388:Int)) 13 (2162078206:Int)) 14 (2614888103:Int)) 15 (3248222580:Int)) 16 (3835390401:Int)) 17 (4022224774:Int)) 18 (264347078:Int)) 19 (604807628:Int)) 20 (770255983:Int)) 21 (1249150122:Int)) 22 (1555081692:Int)) 23 (1996064986:Int)) 24 (2554220882:Int)) 25 (2821834349:Int)) 26 (2952996808:Int)) 27 (3210313671:Int)) 28 (3336571891:Int)) 29 (3584528711:Int)) 30 (113926993:Int)) 31 (338241895:Int)) 32 (666307205:Int)) 33 (773529912:Int)) 34 (1294757372:Int)) 35 (1396182291:Int)) 36 (1695183700:Int)) 37 (1986661051:Int)) 38 (2177026350:Int)) 39 (2456956037:Int)) 40 (2730485921:Int)) 41 (2820302411:Int)) 42 (3259730800:Int)) 43 (3345764771:Int)) 44 (3516065817:Int)) 45 (3600352804:Int)) 46 (4094571909:Int)) 47 (275423344:Int)) 48 (430227734:Int)) 49 (506948616:Int)) 50 (659060556:Int)) 51 (883997877:Int)) 52 (958139571:Int)) 53 (1322822218:Int)) 54 (1537002063:Int)) 55 (1747873779:Int)) 56 (1955562222:Int)) 57 (2024104815:Int)) 58 (2227730452:Int)) 59 (2361852424:Int)) 60 (2428436474:Int)) 61 (2756734187:Int)) 62 (3204031479:Int)) 63 (3329325298:Int);(match (bnd a0 (64:Int)) with
|true=>let v4:=v3.getD a0.toNat 0;k v4
|false=>none)))
theorem q177:EQ (en177 p177) (sE 0 12 [] [] []) Tryz.f177 [(.tmp 2,136,false)]:=fun _ _ _=>by kernel_rfl
def F177:Vx:=p177
theorem zze:OKP (en177 F177):=ST.ok0 q177 Ab Tryz.func177
abbrev zlh:=(R:Type)→Int→Int→Int→Int→(Int→Option R)→Option R
def en219 (F:zlh):Ent:=eV 219 [(.int .u32),(.int .i64),(.int .i64),(.int .i64)] [(.int .u32)] F
def p219 (F248:Se):zlh:=fun R a0 a1 a2 a3 k=>
F248 R a0 a1 fun y1=>
F248 R a0 a2 fun y2=>
let v3:=ixor .u32 y1 y2;F248 R a0 a3 fun y4=>
let v5:=ixor .u32 v3 y4;k v5
theorem q219 (F248:Se):EQ (en219 (p219 F248)) (sE 0 20 [] [zic F248] []) Tryz.f219 [(.tmp 8,136,false)]:=fun _ _ _=>by kernel_rfl
def F219:zlh:=p219 F248
theorem ok219:OKP (en219 F219):=ST.ok0 (q219 F248) (Aa zy6 Ab) Tryz.func219
abbrev zlg:=(R:Type)→Int→Int→Int→(Int→Option R)→Option R
def en220 (F:zlg):Ent:=eV 220 [(.int .u32),(.int .u32),(.int .u32)] [(.int .u32)] F
def p220:zlg:=fun R a0 a1 a2 k=>
let v1:=iand .u32 a0 a1;let v2:=IntKind.u32.wrap ((4294967295:Int) - a0);let v3:=iand .u32 v2 a2;let v4:=ior .u32 v1 v3;k v4
theorem q220:EQ (en220 p220) (sE 0 15 [] [] []) Tryz.f220 [(.tmp 6,136,false)]:=fun _ _ _=>by kernel_rfl
def F220:zlg:=p220
theorem ok220:OKP (en220 F220):=ST.ok0 q220 Ab Tryz.func220
abbrev zlf:=(R:Type)→Int→Int→Int→(Int→Option R)→Option R
def en221 (F:zlf):Ent:=eV 221 [(.int .u32),(.int .u32),(.int .u32)] [(.int .u32)] F
def p221:zlf:=fun R a0 a1 a2 k=>
let v1:=iand .u32 a0 a1;let v2:=iand .u32 a0 a2;let v3:=ior .u32 v1 v2;let v4:=iand .u32 a1 a2;let v5:=ior .u32 v3 v4;k v5
theorem q221:EQ (en221 p221) (sE 0 18 [] [] []) Tryz.f221 [(.tmp 6,136,false)]:=fun _ _ _=>by kernel_rfl
def F221:zlf:=p221
theorem ok221:OKP (en221 F221):=ST.ok0 q221 Ab Tryz.func221
abbrev Vy:=(R:Type)→LI→Int→Int→(LI→Option R)→Option R
def en176 (F:Vy):Ent:=eV 176 [(.arr 8 (.int .u32)),(.int .u32),(.int .u32)] [(.arr 8 (.int .u32))] F
def p176 (F219:zlh) (F220:zlg) (F221:zlf):Vy:=fun R a0 a1 a2 k=>
let v1:=a0.getD 7 0;let v2:=a0.getD 4 0;F219 R v2 (6:Int) (11:Int) (25:Int) fun y3=>
let v4:=IntKind.u32.wrap (v1+y3);let v5:=a0.getD 4 0;let v6:=a0.getD 5 0;let v7:=a0.getD 6 0;F220 R v5 v6 v7 fun y8=>
let v9:=IntKind.u32.wrap (v4+y8);let v10:=IntKind.u32.wrap (v9+a2);let v11:=IntKind.u32.wrap (v10+a1);let v12:=a0.getD 0 0;F219 R v12 (2:Int) (13:Int) (22:Int) fun y13=>
let v14:=a0.getD 0 0;let v15:=a0.getD 1 0;let v16:=a0.getD 2 0;F221 R v14 v15 v16 fun y17=>
let v18:=IntKind.u32.wrap (y13+y17);let v19:=IntKind.u32.wrap (v11+v18);let v20:=a0.getD 0 0;let v21:=a0.getD 1 0;let v22:=a0.getD 2 0;let v23:=a0.getD 3 0;let v24:=IntKind.u32.wrap (v23+v11);let v25:=a0.getD 4 0;let v26:=a0.getD 5 0;let v27:=a0.getD 6 0;let v28:=List.set (List.set (List.set (List.set (List.set (List.set (List.set (List.set (List.replicate 8 (0:Int)) 0 v19) 1 v20) 2 v21) 3 v22) 4 v24) 5 v25) 6 v26) 7 v27;k v28
theorem q176 (F219:zlh) (F220:zlg) (F221:zlf):EQ (en176 (p176 F219 F220 F221)) (sE 0 58 [] [en219 F219,en220 F220,en221 F221] []) Tryz.f176 [(.cell 6 143,143,false)]:=fun _ _ _=>by kernel_rfl
def F176:Vy:=p176 F219 F220 F221
theorem zzf:OKP (en176 F176):=ST.ok0 (q176 F219 F220 F221) (Aa ok219 (Aa ok220 (Aa ok221 Ab))) Tryz.func176
abbrev zae:=(R:Type)→LI→LI→(LI→Option R)→Option R
def en136 (F:zae):Ent:=eV 136 [(.arr 8 (.int .u32)),(.arr 64 (.int .u8))] [(.arr 8 (.int .u32))] F
abbrev zoj (Z:Type):=Int→LI→LI→LI→LI→Z
abbrev zw8 (R:Type):=(LI→LI→LI→Option R)→Option R
abbrev I9:=(R:Type)→zoj (zw8 R)
def X6 (L:I9):LEnt:=lM 4 [.fix 2 (.ptr 0 [] (.arr 8 (.int .u32))),.fix 4 (.ptr 2 [] (.arr 8 (.int .u32))),.fix 5 (.ptr 3 [] (.arr 64 (.int .u32))),.fix 6 (.ptr 4 [] (.arr 8 (.int .u32))),.val 7 (.int .i64),.var 0 (.arr 8 (.int .u32)) false,.var 2 (.arr 8 (.int .u32)) false,.var 3 (.arr 64 (.int .u32)) false,.var 4 (.arr 8 (.int .u32)) false] 5 [(.exit 0,[.fix 2 (.ptr 0 [] (.arr 8 (.int .u32))),.fix 4 (.ptr 2 [] (.arr 8 (.int .u32))),.fix 6 (.ptr 4 [] (.arr 8 (.int .u32))),.var 0 (.arr 8 (.int .u32)) false,.var 2 (.arr 8 (.int .u32)) false,.var 4 (.arr 8 (.int .u32)) false])] L
abbrev zoi (Z:Type):=Int→LI→LI→LI→Z
abbrev zw7 (R:Type):=(LI→LI→Option R)→Option R
abbrev I8:=(R:Type)→zoi (zw7 R)
def X5 (L:I8):LEnt:=lM 8 [.fix 2 (.ptr 0 [] (.arr 8 (.int .u32))),.fix 4 (.ptr 2 [] (.arr 8 (.int .u32))),.fix 6 (.ptr 4 [] (.arr 8 (.int .u32))),.val 8 (.int .i64),.var 0 (.arr 8 (.int .u32)) false,.var 2 (.arr 8 (.int .u32)) false,.var 4 (.arr 8 (.int .u32)) false] 5 [(.exit 2,[.fix 4 (.ptr 2 [] (.arr 8 (.int .u32))),.fix 6 (.ptr 4 [] (.arr 8 (.int .u32))),.var 2 (.arr 8 (.int .u32)) false,.var 4 (.arr 8 (.int .u32)) false])] L
def e136 (F175:Vz) (F176:Vy) (F177:Vx) (L4:I9) (L8:I8):=sE 0 37 [] [en175 F175,en176 F176,en177 F177] [X6 L4,X5 L8]
def zgk (F176:Vy) (F177:Vx) (R:Type):zoj (zoj (Option R)→zw8 R):=fun x1 x2 x3 x4 x5 kc k0=>
let v6:=decide (x1<64);(match v6 with
|true=>(match (bnd x1 (64:Int)) with
|true=>let v7:=x4.getD x1.toNat 0;F177 R x1 fun y8=>
F176 R x5 v7 y8 fun y9=>
let v10:=IntKind.i64.wrap (x1+1);kc v10 x2 x3 x4 y9
|false=>none)
|false=>k0 x2 x3 x5)
theorem q136_4 (F175:Vz) (F176:Vy) (F177:Vx) (L4:I9) (L8:I8):LEQ (X6 L4) (e136 F175 F176 F177 L4 L8) Tryz.f136 (zgk F176 F177):=fun _ _ _ _=>by kernel_rfl
def M1:Nat→I9
 | 0=>fun _ _ _ _ _ _ _=>none
 | n+1=>fun R x1 x2 x3 x4 x5 k0=>zgk F176 F177 R x1 x2 x3 x4 x5 (fun x1 x2 x3 x4 x5=>M1 n R x1 x2 x3 x4 x5 k0) k0
def zgj (R:Type):zoi (zoi (Option R)→zw7 R):=fun x1 x2 x3 x4 kc k0=>
let v5:=decide (x1<8);(match v5 with
|true=>(match (bnd x1 (8:Int)) with
|true=>let v6:=x4.getD x1.toNat 0;(match (bnd x1 (8:Int)) with
|true=>let v7:=x2.getD x1.toNat 0;let v8:=IntKind.u32.wrap (v6+v7);(match (bnd x1 (8:Int)) with
|true=>let v9:=x4.set x1.toNat v8;let v10:=IntKind.i64.wrap (x1+1);kc v10 x2 x3 v9
|false=>none)
|false=>none)
|false=>none)
|false=>k0 x3 x4)
theorem q136_8 (F175:Vz) (F176:Vy) (F177:Vx) (L4:I9) (L8:I8):LEQ (X5 L8) (e136 F175 F176 F177 L4 L8) Tryz.f136 zgj:=fun _ _ _ _=>by kernel_rfl
def J9:Nat→I8
 | 0=>fun _ _ _ _ _ _=>none
 | n+1=>fun R x1 x2 x3 x4 k0=>zgj R x1 x2 x3 x4 (fun x1 x2 x3 x4=>J9 n R x1 x2 x3 x4 k0) k0
def p136 (F175:Vz) (L4:I9) (L8:I8):zae:=fun R a0 a1 k=>
F175 R a1 fun y1=>
L4 R (0:Int) a0 (List.replicate 8 (0:Int)) y1 a0 (fun x2 x3 x4=>
L8 R (0:Int) x2 x3 x4 (fun x5 x6=>
k x6))
theorem q136 (F175:Vz) (F176:Vy) (F177:Vx) (L4:I9) (L8:I8):EQ (en136 (p136 F175 L4 L8)) (e136 F175 F176 F177 L4 L8) Tryz.f136 [(.cell 4 143,143,false)]:=fun _ _ _=>by kernel_rfl
def F136:zae:=p136 F175 (M1 FUEL) (J9 FUEL)
theorem zrd:LKP (X6 (M1 FUEL)) 0 37 4 Tryz.f136:=ST.lok (q136_4 F175 F176 F177 (M1 FUEL) (J9 FUEL)) (Aa zzg (Aa zzf (Aa zze Ab))) [] trivial
theorem zrc:LKP (X5 (J9 FUEL)) 0 37 8 Tryz.f136:=ST.lok (q136_8 F175 F176 F177 (M1 FUEL) (J9 FUEL)) (Aa zzg (Aa zzf (Aa zze Ab))) [] trivial
theorem ok136:OKP (en136 F136):=ST.ok1 (q136 F175 F176 F177 (M1 FUEL) (J9 FUEL)) (Aa zzg (Aa zzf (Aa zze Ab))) Tryz.func136 [4,8] ⟨⟨_,rfl,zrd⟩,⟨⟨_,rfl,zrc⟩,trivial⟩⟩
abbrev FT93:=(R:Type)→LI→(List LI)→(LI→Option R)→Option R
def en93 (F:FT93):Ent:=eV 93 [(.arr 8 (.int .u32)),(.sl (.arr 64 (.int .u8)))] [(.arr 8 (.int .u32))] F
abbrev D93_2 (Z:Type):=(List LI)→Int→LI→LI→Z
abbrev E93_2 (R:Type):=(LI→LI→Option R)→Option R
abbrev Qe:=(R:Type)→D93_2 (E93_2 R)
def zg5 (L:Qe):LEnt:=lM 2 [.val 1 (.sl (.arr 64 (.int .u8))),.fix 2 (.ptr 0 [] (.arr 8 (.int .u32))),.fix 4 (.ptr 1 [] (.arr 8 (.int .u32))),.val 5 (.int .i64),.var 0 (.arr 8 (.int .u32)) false,.var 1 (.arr 8 (.int .u32)) false] 2 [(.exit 0,[.fix 2 (.ptr 0 [] (.arr 8 (.int .u32))),.fix 4 (.ptr 1 [] (.arr 8 (.int .u32))),.var 0 (.arr 8 (.int .u32)) false,.var 1 (.arr 8 (.int .u32)) false])] L
def e93 (F136:zae) (L2:Qe):=sE 0 19 [] [en136 F136] [zg5 L2]
def zyh (F136:zae) (R:Type):D93_2 (D93_2 (Option R)→E93_2 R):=fun x1 x2 x3 x4 kc k0=>
let v5:=(x1.length:Int);let v6:=decide (x2<v5);(match v6 with
|true=>(match bnd x2 x1.length with
|true=>let v7:=x1.getD x2.toNat (List.replicate 64 0);F136 R x3 v7 fun y8=>
let v9:=IntKind.i64.wrap (x2+1);kc x1 v9 y8 x4
|false=>none)
|false=>k0 x3 x4)
theorem q93_2 (F136:zae) (L2:Qe):LEQ (zg5 L2) (e93 F136 L2) Tryz.f93 (zyh F136):=fun _ _ _ _=>by kernel_rfl
def Yx:Nat→Qe
 | 0=>fun _ _ _ _ _ _=>none
 | n+1=>fun R x1 x2 x3 x4 k0=>zyh F136 R x1 x2 x3 x4 (fun x1 x2 x3 x4=>Yx n R x1 x2 x3 x4 k0) k0
def p93 (L2:Qe):FT93:=fun R a0 a1 k=>
L2 R a1 (0:Int) a0 (List.replicate 8 (0:Int)) (fun x1 x2=>
k x1)
theorem q93 (F136:zae) (L2:Qe):EQ (en93 (p93 L2)) (e93 F136 L2) Tryz.f93 [(.cell 4 143,143,false)]:=fun _ _ _=>by kernel_rfl
def F93:FT93:=p93 (Yx FUEL)
theorem zzr:LKP (zg5 (Yx FUEL)) 0 19 2 Tryz.f93:=ST.lok (q93_2 F136 (Yx FUEL)) (Aa ok136 Ab) [] trivial
theorem ok93:OKP (en93 F93):=ST.ok1 (q93 F136 (Yx FUEL)) (Aa ok136 Ab) Tryz.func93 [2] ⟨⟨_,rfl,zzr⟩,trivial⟩
abbrev V2:=(R:Type)→Int→(LI→Option R)→Option R
def en135 (F:V2):Ent:=eV 135 [(.int .u32)] [(.arr 4 (.int .u8))] F
def p135:V2:=fun R a0 k=>
let v1:=IntKind.u32.wrap (Int.tdiv a0 (16777216:Int));let v2:=IntKind.u8.wrap v1;let v3:=IntKind.u32.wrap (Int.tdiv a0 (65536:Int));let v4:=Int.tmod v3 (256:Int);let v5:=IntKind.u8.wrap v4;let v6:=IntKind.u32.wrap (Int.tdiv a0 (256:Int));let v7:=Int.tmod v6 (256:Int);let v8:=IntKind.u8.wrap v7;let v9:=Int.tmod a0 (256:Int);let v10:=IntKind.u8.wrap v9;let v11:=List.set (List.set (List.set (List.set (List.replicate 4 (0:Int)) 0 v2) 1 v5) 2 v8) 3 v10;k v11
theorem q135:EQ (en135 p135) (sE 0 18 [] [] []) Tryz.f135 [(.cell 2 188,188,false)]:=fun _ _ _=>by kernel_rfl
def F135:V2:=p135
theorem zzk:OKP (en135 F135):=ST.ok0 q135 Ab Tryz.func135
abbrev FT92:=(R:Type)→LI→(LI→Option R)→Option R
def en92 (F:FT92):Ent:=eV 92 [(.arr 8 (.int .u32))] [(.arr 32 (.int .u8))] F
abbrev D92_3 (Z:Type):=Int→LI→LI→LI→Z
abbrev E92_3 (R:Type):=(LI→LI→Option R)→Option R
abbrev Ot:=(R:Type)→D92_3 (E92_3 R)
def zg7 (L:Ot):LEnt:=lM 3 [.fix 1 (.ptr 0 [] (.arr 8 (.int .u32))),.fix 2 (.ptr 1 [] (.arr 32 (.int .u8))),.fix 3 (.ptr 2 [] (.arr 32 (.int .u8))),.val 4 (.int .i64),.var 0 (.arr 8 (.int .u32)) false,.var 1 (.arr 32 (.int .u8)) false,.var 2 (.arr 32 (.int .u8)) false] 3 [(.exit 0,[.fix 2 (.ptr 1 [] (.arr 32 (.int .u8))),.fix 3 (.ptr 2 [] (.arr 32 (.int .u8))),.var 1 (.arr 32 (.int .u8)) false,.var 2 (.arr 32 (.int .u8)) false])] L
abbrev D92_7 (Z:Type):=Int→Int→LI→LI→LI→LI→Z
abbrev E92_7 (R:Type):=(Int→LI→LI→LI→Option R)→Option R
abbrev Oq:=(R:Type)→D92_7 (E92_7 R)
def zg6 (L:Oq):LEnt:=lM 7 [.fix 1 (.ptr 0 [] (.arr 8 (.int .u32))),.fix 2 (.ptr 1 [] (.arr 32 (.int .u8))),.fix 3 (.ptr 2 [] (.arr 32 (.int .u8))),.val 4 (.int .i64),.fix 5 (.ptr 3 [] (.arr 4 (.int .u8))),.val 6 (.int .i64),.var 0 (.arr 8 (.int .u32)) false,.var 1 (.arr 32 (.int .u8)) false,.var 2 (.arr 32 (.int .u8)) false,.var 3 (.arr 4 (.int .u8)) false] 4 [(.exit 2,[.fix 1 (.ptr 0 [] (.arr 8 (.int .u32))),.fix 2 (.ptr 1 [] (.arr 32 (.int .u8))),.fix 3 (.ptr 2 [] (.arr 32 (.int .u8))),.val 4 (.int .i64),.var 0 (.arr 8 (.int .u32)) false,.var 1 (.arr 32 (.int .u8)) false,.var 2 (.arr 32 (.int .u8)) false])] L
def e92 (F135:V2) (L3:Ot) (L7:Oq):=sE 0 28 [] [en135 F135] [zg7 L3,zg6 L7]
def zyi (R:Type):D92_7 (D92_7 (Option R)→E92_7 R):=fun x1 x2 x3 x4 x5 x6 kc k0=>
let v7:=decide (x2<4);(match v7 with
|true=>let v8:=IntKind.i64.wrap ((4:Int)*x1);let v9:=IntKind.i64.wrap (v8+x2);(match (bnd x2 (4:Int)) with
|true=>let v10:=x6.getD x2.toNat 0;(match (bnd v9 (32:Int)) with
|true=>let v11:=x5.set v9.toNat v10;let v12:=IntKind.i64.wrap (x2+1);kc x1 v12 x3 x4 v11 x6
|false=>none)
|false=>none)
|false=>k0 x1 x3 x4 x5)
theorem q92_7 (F135:V2) (L3:Ot) (L7:Oq):LEQ (zg6 L7) (e92 F135 L3 L7) Tryz.f92 zyi:=fun _ _ _ _=>by kernel_rfl
def U3:Nat→Oq
 | 0=>fun _ _ _ _ _ _ _ _=>none
 | n+1=>fun R x1 x2 x3 x4 x5 x6 k0=>zyi R x1 x2 x3 x4 x5 x6 (fun x1 x2 x3 x4 x5 x6=>U3 n R x1 x2 x3 x4 x5 x6 k0) k0
def zyj (F135:V2) (L7:Oq) (R:Type):D92_3 (D92_3 (Option R)→E92_3 R):=fun x1 x2 x3 x4 kc k0=>
let v5:=decide (x1<8);(match v5 with
|true=>(match (bnd x1 (8:Int)) with
|true=>let v6:=x2.getD x1.toNat 0;F135 R v6 fun y7=>
L7 R x1 (0:Int) x2 x3 x4 y7 (fun x8 x9 x10 x11=>
let v12:=IntKind.i64.wrap (x8+1);kc v12 x9 x10 x11)
|false=>none)
|false=>k0 x3 x4)
theorem q92_3 (F135:V2) (L3:Ot) (L7:Oq):LEQ (zg7 L3) (e92 F135 L3 L7) Tryz.f92 (zyj F135 L7):=fun _ _ _ _=>by kernel_rfl
def M9:Nat→Ot
 | 0=>fun _ _ _ _ _ _=>none
 | n+1=>fun R x1 x2 x3 x4 k0=>zyj F135 (U3 FUEL) R x1 x2 x3 x4 (fun x1 x2 x3 x4=>M9 n R x1 x2 x3 x4 k0) k0
def p92 (L3:Ot):FT92:=fun R a0 k=>
L3 R (0:Int) a0 (List.replicate 32 (0:Int)) (List.replicate 32 (0:Int)) (fun x1 x2=>
k x2)
theorem q92 (F135:V2) (L3:Ot) (L7:Oq):EQ (en92 (p92 L3)) (e92 F135 L3 L7) Tryz.f92 [(.cell 2 25,25,false)]:=fun _ _ _=>by kernel_rfl
def F92:FT92:=p92 (M9 FUEL)
theorem zzs:LKP (zg6 (U3 FUEL)) 0 28 7 Tryz.f92:=ST.lok (q92_7 F135 (M9 FUEL) (U3 FUEL)) (Aa zzk Ab) [] trivial
theorem zzt:LKP (zg7 (M9 FUEL)) 0 28 3 Tryz.f92:=ST.lok (q92_3 F135 (M9 FUEL) (U3 FUEL)) (Aa zzk Ab) [7] ⟨⟨_,rfl,zzs⟩,trivial⟩
theorem ok92:OKP (en92 F92):=ST.ok1 (q92 F135 (M9 FUEL) (U3 FUEL)) (Aa zzk Ab) Tryz.func92 [3] ⟨⟨_,rfl,zzt⟩,trivial⟩
abbrev FT45:=(R:Type)→LI→(LI→Option R)→Option R
def en45 (F:FT45):Ent:=eV 45 [(.sl (.int .u8))] [(.arr 32 (.int .u8))] F
def p45 (F90:FT90) (F91:FT91) (F92:FT92) (F93:FT93) (F94:FT94):FT45:=fun R a0 k=>
F91 R a0 fun y1=>
F90 R y1 fun y2 y3=>
F94 R  fun y4=>
F93 R y4 y2 fun y5=>
F92 R y5 fun y6=>
k y6
theorem q45 (F90:FT90) (F91:FT91) (F92:FT92) (F93:FT93) (F94:FT94):EQ (en45 (p45 F90 F91 F92 F93 F94)) (sE 0 15 [] [en90 F90,en91 F91,en92 F92,en93 F93,en94 F94] []) Tryz.f45 [(.cell 2 25,25,false)]:=fun _ _ _=>by kernel_rfl
def F45:FT45:=p45 F90 F91 F92 F93 F94
theorem ok45:OKP (en45 F45):=ST.ok0 (q45 F90 F91 F92 F93 F94) (Aa ok90 (Aa ok91 (Aa ok92 (Aa ok93 (Aa ok94 Ab))))) Tryz.func45
abbrev FT23:=(R:Type)→LI→(LI→Option R)→Option R
def en23 (F:FT23):Ent:=eV 23 [(.arr 32 (.int .u8))] [(.arr 32 (.int .u8))] F
def p23 (F45:FT45) (F46:FT46):FT23:=fun R a0 k=>
F46 R a0 fun y1=>
F45 R y1 fun y2=>
k y2
theorem q23 (F45:FT45) (F46:FT46):EQ (en23 (p23 F45 F46)) (sE 0 6 [] [en45 F45,en46 F46] []) Tryz.f23 [(.cell 2 25,25,false)]:=fun _ _ _=>by kernel_rfl
def F23:FT23:=p23 F45 F46
theorem ok23:OKP (en23 F23):=ST.ok0 (q23 F45 F46) (Aa ok45 (Aa ok46 Ab)) Tryz.func23
abbrev Z7:=(R:Type)→Tq5→(Int→Option R)→Option R
def en158 (F:Z7):Ent:=eV 158 [Kq5] [(.int .u64)] F
def p158:Z7:=fun R a0 k=>
k a0.2.1
theorem q158:EQ (en158 p158) (sE 0 5 [] [] []) Tryz.f158 [(.tmp 2,28,false)]:=fun _ _ _=>by kernel_rfl
def F158:Z7:=p158
theorem ok158:OKP (en158 F158):=ST.ok0 q158 Ab Tryz.func158
abbrev Gs:Type 1:=(R:Type)→(List Tq5)→(LI→Option R)→Option R
def Fi (F:Gs):EntF:=⟨157,158,[(false,(.sl Kq5))],[(false,(.sl (.int .u64)))],fun R x k=>F R x.1 (fun y1=>k (y1,()) ())⟩
def To:List (ResultVar×TypeId×Bool):=[(.tmp 4,63,false)]
abbrev Ep:Type 1:=(R:Type)→(List Tq5)→Int→Int→LI→(LI→Option R)→Option R
def Bj (L:Ep):LEnt:=⟨3,[.fix 1 (.fn 158),.fix 5 (.own 0 0),.val 11 (.sl Kq5),.val 12 (.int .i64),.val 13 (.int .i64),.row 0 (.int .u64) false],1,[(.exit 0,[.fix 5 (.own 0 0),.row 0 (.int .u64) false])],fun R x ke=>L R x.1 x.2.1 x.2.2.1 x.2.2.2.1 (fun y1=>ke.1 (y1,()))⟩
def Oe (F158:Z7) (L3:Ep) (R:Type):Env R:=⟨TT,EQT,0,25,Bo [],Bc [en158 F158] R,Bf [Bj L3] R,[],Bd [],[]⟩
def Js (F158:Z7):(R:Type)→(List Tq5)→Int→Int→LI→((List Tq5)→Int→Int→LI→Option R)→(LI→Option R)→Option R:=fun R x1 x2 x3 x4 kc k0=>
let v5:=decide (x3<x2);(match v5 with
|true=>(match bnd x3 x1.length with
|true=>let v6:=x1.getD x3.toNat ((List.replicate 32 0),0,0,());F158 R v6 fun y7=>
let v8:=([y7]:LI);(match (decide (x4.length+v8.length≤17592186044416)) with
|true=>let v9:=x4++v8;let v10:=IntKind.i64.wrap (x3+1);kc x1 x2 v10 v9
|false=>none)
|false=>none)
|false=>k0 x4)
theorem zfg (F158:Z7) (L3:Ep) (R:Type) (x:HT (Bj L3).H) (kc:HT (Bj L3).H→Option R) (ke:KT R (Bj L3).exs):
 exec (Oe F158 L3 R) (Cf 3 (Ag Tryz.f157)) (stOf (Bj L3).H x 1) (Mg (Bj L3).H (Bj L3).exs kc ke)=
  Js F158 R x.1 x.2.1 x.2.2.1 x.2.2.2.1 (fun x1 x2 x3 x4=>kc (x1,x2,x3,x4,())) (fun y1=>ke.1 (y1,())):=by kernel_rfl
def A8:Nat→Ep
 | 0=>fun _ _ _ _ _ _=>none
 | n+1=>fun R x1 x2 x3 x4 k0=>Js F158 R x1 x2 x3 x4 (fun x1 x2 x3 x4=>A8 n R x1 x2 x3 x4 k0) k0
def Wu (L3:Ep):Gs:=fun R a0 k=>
let v1:=(a0.length:Int);(match (decide (0≤(0:Int)∧(0:Int)≤v1∧v1≤17592186044416)) with
|true=>let v2:=List.replicate 0 (0:Int);let v3:=(a0.length:Int);L3 R a0 v3 (0:Int) v2 (fun x4=>
k x4)
|false=>none)
theorem zyc (F158:Z7) (L3:Ep) (F:Gs) (R:Type) (x:AT (Fi F).ins) (k:RT (Fi F).outs→PT (Fi F).ins→Option R):
 xfun (Oe F158 L3 R) (Ag Tryz.f157) To (avs (Fi F).ins x++[AV.fn 158]) (finK (Fi F).outs (Fi F).ins k)=Wu L3 R x.1 (fun y1=>k (y1,()) ()):=by kernel_rfl
def Dr:Gs:=Wu (A8 FUEL)
theorem Ud (R:Type):Az Tryz.prog (Oe F158 (A8 FUEL) R):=⟨tabOK,eqOK,Aq (Aa ok158 Ab),Bs,Ak⟩
def Ho:(R:Type)→HT (Bj (A8 FUEL)).H→(HT (Bj (A8 FUEL)).H→Option R)→KT R (Bj (A8 FUEL)).exs→Option R:=fun R x kc ke=>Js F158 R x.1 x.2.1 x.2.2.1 x.2.2.2.1 (fun x1 x2 x3 x4=>kc (x1,x2,x3,x4,())) (fun y1=>ke.1 (y1,()))
theorem zdt:∀(n:Nat) (R:Type) (x:HT (Bj (A8 FUEL)).H) (ke:KT R (Bj (A8 FUEL)).exs),iter Ho n R x ke=A8 n R x.1 x.2.1 x.2.2.1 x.2.2.2.1 (fun y1=>ke.1 (y1,())):=by
 intro n
 induction n with
 | zero=>intro R x ke; rfl
 | succ n ih=>
  intro R x ke;show Ho R x (fun x'=>iter Ho n R x' ke) ke=_
  rw [show (fun x'=>iter Ho n R x' ke)=fun x=>A8 n R x.1 x.2.1 x.2.2.1 x.2.2.2.1 (fun y1=>ke.1 (y1,())) from funext fun x'=>ih R x' ke];rfl
theorem W5:(Bj (A8 FUEL)).OK Tryz.prog 0 25 (Cf 3 (Ag Tryz.f157)):=fun R x ke r h=>
 Ek (fun R=>Oe F158 (A8 FUEL) R) 0 25 (fun _=>rfl) (fun _=>rfl) (fun R=>Ud R) mixed (by
  intro R;rw [show Ap (Cf 3 (Ag Tryz.f157))=[] from by kernel_rfl];exact Bp) (T:=Ho) (fun R x kc ke=>zfg F158 (A8 FUEL) R x kc ke) FUEL R x ke r ((zdt FUEL R x ke).trans h)
theorem zp6:(Fi Dr).OK Tryz.prog:=
 Iv (Ef:=fun R=>Oe F158 (A8 FUEL) R) (fun R=>Ud R) mixed Tryz.func157 (body:=Ag Tryz.f157) (by kernel_rfl) (by kernel_rfl) (np:=0) (nt:=25) (fun _=>rfl) (fun _=>rfl) (by kernel_rfl) (res:=To) (by kernel_rfl) (fun _=>rfl) (fun _=>Nat.le_of_ble_eq_true rfl) (by
  intro R;rw [show Ap (Ag Tryz.f157)=[Cf 3 (Ag Tryz.f157)] from by kernel_rfl];exact (Af (H5 (e:=Bj (A8 FUEL)) rfl rfl W5) Bp)) (fun R x k=>zyc F158 (A8 FUEL) Dr R x k)
abbrev Kh:=(R:Type)→(List Tq5)→(LI→Option R)→Option R
def Yi (F:Kh):Ent:=eV 110 [(.sl Kq5)] [(.sl (.int .u64))] F
def e110 (Dr:Gs) (R:Type):Env R:=⟨TT,EQT,0,5,Bo [],D7 [Fi Dr] [] R,Bf [] R,[],Bd [],[]⟩
def p110 (Dr:Gs):Kh:=fun R a0 k=>
Dr R a0 fun y1=>
k y1
theorem q110 (Dr:Gs):EQ (Yi (p110 Dr)) (e110 Dr) Tryz.f110 [(.tmp 2,63,false)]:=fun _ _ _=>by kernel_rfl
def F110:Kh:=p110 Dr
theorem env110 (R:Type):Az Tryz.prog (e110 Dr R):=⟨tabOK,eqOK,Cj (E7 zp6 Ed) Ab,Bs,Ak⟩
theorem zgu:OKP (Yi F110):=ST.ok3 (q110 Dr) env110 Tryz.func110 (fun _=>rfl) (fun _=>rfl) (fun _=>rfl) [] trivial
abbrev ztf:Type 1:=(R:Type)→Int→Int→Int→(Int→Int→Option R)→Option R
def en180 (F:ztf):Ent:=⟨180,[(false,(.int .u64)),(false,(.int .u64)),(false,(.int .u64))],[(false,(.int .u64)),(false,(.int .u64))],fun R x k=>F R x.1 x.2.1 x.2.2.1 (fun y1 y2=>k (y1,y2,()) ())⟩
def F180:ztf:=fun R a0 a1 a2 k=>match decide (0≤a0∧0≤a1∧0≤a2∧a2≤1) with | true=>k ((a0+a1+a2) % 18446744073709551616) ((a0+a1+a2)/18446744073709551616) | false=>none
theorem ok180:(en180 F180).OK Tryz.prog:=zs6 Tryz.func180 (by kernel_rfl) (by kernel_rfl) (by kernel_rfl) (by kernel_rfl)
abbrev zle:=(R:Type)→Int→(Bool→Option R)→Option R
def en222 (F:zle):Ent:=eV 222 [(.int .u64)] [.bool] F
def p222:zle:=fun R a0 k=>
let v1:=decide (a0<9223372036854775808);k v1
theorem q222:EQ (en222 p222) (sE 0 5 [] [] []) Tryz.f222 [(.tmp 2,4,false)]:=fun _ _ _=>by kernel_rfl
def F222:zle:=p222
theorem ok222:OKP (en222 F222):=ST.ok0 q222 Ab Tryz.func222
abbrev Z5:=(R:Type)→Int→Int→(Int→Bool→Option R)→Option R
def zsn (F:Z5):Ent:=eV 179 [(.int .u64),(.int .u64)] [(.int .u64),.bool] F
def p179 (F222:zle):Z5:=fun R a0 a1 k=>
let v1:=a1 !=0;(match v1 with
|true=>k (0:Int) false
|false=>F222 R a0 fun y2=>
(match (!y2) with
|true=>k (0:Int) false
|false=>k a0 true))
theorem q179 (F222:zle):EQ (zsn (p179 F222)) (sE 0 14 [] [en222 F222] []) Tryz.f179 [(.tmp 4,28,false),(.tmp 5,4,false)]:=fun _ _ _=>by kernel_rfl
def F179:Z5:=p179 F222
theorem ok179:OKP (zsn F179):=ST.ok0 (q179 F222) (Aa ok222 Ab) Tryz.func179
abbrev Kg:=(R:Type)→Int→Int→(Int→Bool→Option R)→Option R
def zik (F:Kg):Ent:=eV 141 [(.int .u64),(.int .u64)] [(.int .u64),.bool] F
def p141 (F179:Z5) (F180:ztf):Kg:=fun R a0 a1 k=>
F180 R a0 a1 (0:Int) fun y1 y2=>
F179 R y1 y2 fun y3 y4=>
k y3 y4
theorem q141 (F179:Z5) (F180:ztf):EQ (zik (p141 F179 F180)) (sE 0 14 [] [zsn F179,en180 F180] []) Tryz.f141 [(.tmp 4,28,false),(.tmp 5,4,false)]:=fun _ _ _=>by kernel_rfl
def F141:Kg:=p141 F179 F180
theorem zgs:OKP (zik F141):=ST.ok0 (q141 F179 F180) (Aa ok179 (Aa ok180 Ab)) Tryz.func141
abbrev Je:=(R:Type)→LI→(Int→Bool→Option R)→Option R
def zd3 (F:Je):Ent:=eV 139 [(.sl (.int .u64))] [(.int .u64),.bool] F
abbrev zoh (Z:Type):=Int→LI→Int→Int→Z
abbrev zw6 (R:Type):=(Int→Bool→Option R)→(Int→Option R)→Option R
abbrev Lw:=(R:Type)→zoh (zw6 R)
def X4 (L:Lw):LEnt:=lM 2 [.val 2 (.int .u64),.val 6 (.sl (.int .u64)),.val 7 (.int .i64),.val 8 (.int .i64)] 0 [(.ret,[.val 2 (.int .u64),.val 3 .bool]),(.exit 0,[.val 2 (.int .u64)])] L
def e139 (F141:Kg) (L2:Lw):=sE 0 22 [] [zik F141] [X4 L2]
def zgi (F141:Kg) (R:Type):zoh (zoh (Option R)→zw6 R):=fun x1 x2 x3 x4 kc k0 k1=>
let v5:=decide (x4<x3);(match v5 with
|true=>(match bnd x4 x2.length with
|true=>let v6:=x2.getD x4.toNat 0;F141 R x1 v6 fun y7 y8=>
(match (!y8) with
|true=>k0 (0:Int) false
|false=>let v9:=IntKind.i64.wrap (x4+1);kc y7 x2 x3 v9)
|false=>none)
|false=>k1 x1)
theorem q139_2 (F141:Kg) (L2:Lw):LEQ (X4 L2) (e139 F141 L2) Tryz.f139 (zgi F141):=fun _ _ _ _=>by kernel_rfl
def Pd:Nat→Lw
 | 0=>fun _ _ _ _ _ _ _=>none
 | n+1=>fun R x1 x2 x3 x4 k0 k1=>zgi F141 R x1 x2 x3 x4 (fun x1 x2 x3 x4=>Pd n R x1 x2 x3 x4 k0 k1) k0 k1
def p139 (L2:Lw):Je:=fun R a0 k=>
let v1:=(a0.length:Int);L2 R (0:Int) a0 v1 (0:Int) (fun x2 x3=>
k x2 x3) (fun x4=>
k x4 true)
theorem q139 (F141:Kg) (L2:Lw):EQ (zd3 (p139 L2)) (e139 F141 L2) Tryz.f139 [(.tmp 2,28,false),(.tmp 3,4,false)]:=fun _ _ _=>by kernel_rfl
def F139:Je:=p139 (Pd FUEL)
theorem zra:LKP (X4 (Pd FUEL)) 0 22 2 Tryz.f139:=ST.lok (q139_2 F141 (Pd FUEL)) (Aa zgs Ab) [] trivial
theorem zgt:OKP (zd3 F139):=ST.ok1 (q139 F141 (Pd FUEL)) (Aa zgs Ab) Tryz.func139 [2] ⟨⟨_,rfl,zra⟩,trivial⟩
abbrev Z6:=(R:Type)→Tq5→(Int→Option R)→Option R
def en178 (F:Z6):Ent:=eV 178 [Kq5] [(.int .u64)] F
def p178:Z6:=fun R a0 k=>
k a0.2.2.1
theorem q178:EQ (en178 p178) (sE 0 5 [] [] []) Tryz.f178 [(.tmp 2,28,false)]:=fun _ _ _=>by kernel_rfl
def F178:Z6:=p178
theorem ok178:OKP (en178 F178):=ST.ok0 q178 Ab Tryz.func178
abbrev Gr:Type 1:=(R:Type)→(List Tq5)→(LI→Option R)→Option R
def Fh (F:Gr):EntF:=⟨157,178,[(false,(.sl Kq5))],[(false,(.sl (.int .u64)))],fun R x k=>F R x.1 (fun y1=>k (y1,()) ())⟩
def Tn:List (ResultVar×TypeId×Bool):=[(.tmp 4,63,false)]
abbrev Eo:Type 1:=(R:Type)→(List Tq5)→Int→Int→LI→(LI→Option R)→Option R
def Bi (L:Eo):LEnt:=⟨3,[.fix 1 (.fn 178),.fix 5 (.own 0 0),.val 11 (.sl Kq5),.val 12 (.int .i64),.val 13 (.int .i64),.row 0 (.int .u64) false],1,[(.exit 0,[.fix 5 (.own 0 0),.row 0 (.int .u64) false])],fun R x ke=>L R x.1 x.2.1 x.2.2.1 x.2.2.2.1 (fun y1=>ke.1 (y1,()))⟩
def Od (F178:Z6) (L3:Eo) (R:Type):Env R:=⟨TT,EQT,0,25,Bo [],Bc [en178 F178] R,Bf [Bi L3] R,[],Bd [],[]⟩
def Jr (F178:Z6):(R:Type)→(List Tq5)→Int→Int→LI→((List Tq5)→Int→Int→LI→Option R)→(LI→Option R)→Option R:=fun R x1 x2 x3 x4 kc k0=>
let v5:=decide (x3<x2);(match v5 with
|true=>(match bnd x3 x1.length with
|true=>let v6:=x1.getD x3.toNat ((List.replicate 32 0),0,0,());F178 R v6 fun y7=>
let v8:=([y7]:LI);(match (decide (x4.length+v8.length≤17592186044416)) with
|true=>let v9:=x4++v8;let v10:=IntKind.i64.wrap (x3+1);kc x1 x2 v10 v9
|false=>none)
|false=>none)
|false=>k0 x4)
theorem zff (F178:Z6) (L3:Eo) (R:Type) (x:HT (Bi L3).H) (kc:HT (Bi L3).H→Option R) (ke:KT R (Bi L3).exs):
 exec (Od F178 L3 R) (Cf 3 (Ag Tryz.f157)) (stOf (Bi L3).H x 1) (Mg (Bi L3).H (Bi L3).exs kc ke)=
  Jr F178 R x.1 x.2.1 x.2.2.1 x.2.2.2.1 (fun x1 x2 x3 x4=>kc (x1,x2,x3,x4,())) (fun y1=>ke.1 (y1,())):=by kernel_rfl
def A7:Nat→Eo
 | 0=>fun _ _ _ _ _ _=>none
 | n+1=>fun R x1 x2 x3 x4 k0=>Jr F178 R x1 x2 x3 x4 (fun x1 x2 x3 x4=>A7 n R x1 x2 x3 x4 k0) k0
def Wt (L3:Eo):Gr:=fun R a0 k=>
let v1:=(a0.length:Int);(match (decide (0≤(0:Int)∧(0:Int)≤v1∧v1≤17592186044416)) with
|true=>let v2:=List.replicate 0 (0:Int);let v3:=(a0.length:Int);L3 R a0 v3 (0:Int) v2 (fun x4=>
k x4)
|false=>none)
theorem zyb (F178:Z6) (L3:Eo) (F:Gr) (R:Type) (x:AT (Fh F).ins) (k:RT (Fh F).outs→PT (Fh F).ins→Option R):
 xfun (Od F178 L3 R) (Ag Tryz.f157) Tn (avs (Fh F).ins x++[AV.fn 178]) (finK (Fh F).outs (Fh F).ins k)=Wt L3 R x.1 (fun y1=>k (y1,()) ()):=by kernel_rfl
def Dq:Gr:=Wt (A7 FUEL)
theorem Uc (R:Type):Az Tryz.prog (Od F178 (A7 FUEL) R):=⟨tabOK,eqOK,Aq (Aa ok178 Ab),Bs,Ak⟩
def Hn:(R:Type)→HT (Bi (A7 FUEL)).H→(HT (Bi (A7 FUEL)).H→Option R)→KT R (Bi (A7 FUEL)).exs→Option R:=fun R x kc ke=>Jr F178 R x.1 x.2.1 x.2.2.1 x.2.2.2.1 (fun x1 x2 x3 x4=>kc (x1,x2,x3,x4,())) (fun y1=>ke.1 (y1,()))
theorem zds:∀(n:Nat) (R:Type) (x:HT (Bi (A7 FUEL)).H) (ke:KT R (Bi (A7 FUEL)).exs),iter Hn n R x ke=A7 n R x.1 x.2.1 x.2.2.1 x.2.2.2.1 (fun y1=>ke.1 (y1,())):=by
 intro n
 induction n with
 | zero=>intro R x ke; rfl
 | succ n ih=>
  intro R x ke;show Hn R x (fun x'=>iter Hn n R x' ke) ke=_
  rw [show (fun x'=>iter Hn n R x' ke)=fun x=>A7 n R x.1 x.2.1 x.2.2.1 x.2.2.2.1 (fun y1=>ke.1 (y1,())) from funext fun x'=>ih R x' ke];rfl
theorem W4:(Bi (A7 FUEL)).OK Tryz.prog 0 25 (Cf 3 (Ag Tryz.f157)):=fun R x ke r h=>
 Ek (fun R=>Od F178 (A7 FUEL) R) 0 25 (fun _=>rfl) (fun _=>rfl) (fun R=>Uc R) mixed (by
  intro R;rw [show Ap (Cf 3 (Ag Tryz.f157))=[] from by kernel_rfl];exact Bp) (T:=Hn) (fun R x kc ke=>zff F178 (A7 FUEL) R x kc ke) FUEL R x ke r ((zds FUEL R x ke).trans h)
theorem zp5:(Fh Dq).OK Tryz.prog:=
 Iv (Ef:=fun R=>Od F178 (A7 FUEL) R) (fun R=>Uc R) mixed Tryz.func157 (body:=Ag Tryz.f157) (by kernel_rfl) (by kernel_rfl) (np:=0) (nt:=25) (fun _=>rfl) (fun _=>rfl) (by kernel_rfl) (res:=Tn) (by kernel_rfl) (fun _=>rfl) (fun _=>Nat.le_of_ble_eq_true rfl) (by
  intro R;rw [show Ap (Ag Tryz.f157)=[Cf 3 (Ag Tryz.f157)] from by kernel_rfl];exact (Af (H5 (e:=Bi (A7 FUEL)) rfl rfl W4) Bp)) (fun R x k=>zyb F178 (A7 FUEL) Dq R x k)
abbrev Sj:=(R:Type)→(List Tq5)→(LI→Option R)→Option R
def zsu (F:Sj):Ent:=eV 140 [(.sl Kq5)] [(.sl (.int .u64))] F
def e140 (Dq:Gr) (R:Type):Env R:=⟨TT,EQT,0,5,Bo [],D7 [Fh Dq] [] R,Bf [] R,[],Bd [],[]⟩
def p140 (Dq:Gr):Sj:=fun R a0 k=>
Dq R a0 fun y1=>
k y1
theorem q140 (Dq:Gr):EQ (zsu (p140 Dq)) (e140 Dq) Tryz.f140 [(.tmp 2,63,false)]:=fun _ _ _=>by kernel_rfl
def F140:Sj:=p140 Dq
theorem env140 (R:Type):Az Tryz.prog (e140 Dq R):=⟨tabOK,eqOK,Cj (E7 zp5 Ed) Ab,Bs,Ak⟩
theorem ok140:OKP (zsu F140):=ST.ok3 (q140 Dq) env140 Tryz.func140 (fun _=>rfl) (fun _=>rfl) (fun _=>rfl) [] trivial
abbrev Px:Type 1:=(R:Type)→(List Tq5)→((List Tq6)→Option R)→Option R
def Rs (F:Px):EntR:=⟨138,(.arr 32 (.int .u8)),(.int .i64),[(false,(.sl Kq5))],fun R x k=>F R x.1 k⟩
abbrev Lx:Type 1:=(R:Type)→(List Tq5)→Int→Int→(List Tq6)→((List Tq6)→Option R)→Option R
def C3 (L:Lx):LEnt:=⟨3,[.fix 3 (.mp 0),.val 11 (.sl Kq5),.val 12 (.int .i64),.val 13 (.int .i64),.map 0 (.arr 32 (.int .u8)) (.int .i64)],1,[(.exit 0,[.fix 3 (.mp 0),.map 0 (.arr 32 (.int .u8)) (.int .i64)])],fun R x ke=>L R x.1 x.2.1 x.2.2.1 x.2.2.2.1 (fun y1=>ke.1 (y1,()))⟩
def e138 (L3:Lx) (R:Type):Env R:=⟨TT,EQT,0,33,Bo [],Bc [] R,Bf [C3 L3] R,[],Bd [],[]⟩
def zbr:(R:Type)→(List Tq5)→Int→Int→(List Tq6)→((List Tq5)→Int→Int→(List Tq6)→Option R)→((List Tq6)→Option R)→Option R:=fun R x1 x2 x3 x4 kc k0=>
let v5:=decide (x3<x2);(match v5 with
|true=>(match bnd x3 x1.length with
|true=>let v6:=x1.getD x3.toNat ((List.replicate 32 0),0,0,());let v7:=Option.getD (Bu (Kd.eqv (.arr 32 (.int .u8))) x4 v6.1) (0:Int);let v8:=Option.isSome (Bu (Kd.eqv (.arr 32 (.int .u8))) x4 v6.1);(match (!v8) with
|true=>(match (Option.isNone (Bu (Kd.eqv (.arr 32 (.int .u8))) x4 v6.1)) with
|true=>let v9:=x4++[(v6.1,x3)];let v10:=IntKind.i64.wrap (x3+1);kc x1 x2 v10 v9
|false=>none)
|false=>let v11:=IntKind.i64.wrap (x3+1);kc x1 x2 v11 x4)
|false=>none)
|false=>k0 x4)
theorem q138_3 (L3:Lx) (R:Type) (x:HT (C3 L3).H) (kc:HT (C3 L3).H→Option R) (ke:KT R (C3 L3).exs):
 exec (e138 L3 R) (Cf 3 (Ag Tryz.f138)) (stOf (C3 L3).H x 1) (Mg (C3 L3).H (C3 L3).exs kc ke)=
  zbr R x.1 x.2.1 x.2.2.1 x.2.2.2.1 (fun x1 x2 x3 x4=>kc (x1,x2,x3,x4,())) (fun y1=>ke.1 (y1,())):=by kernel_rfl
def Db:Nat→Lx
 | 0=>fun _ _ _ _ _ _=>none
 | n+1=>fun R x1 x2 x3 x4 k0=>zbr R x1 x2 x3 x4 (fun x1 x2 x3 x4=>Db n R x1 x2 x3 x4 k0) k0
def p138 (L3:Lx):Px:=fun R a0 k=>
let v1:=(a0.length:Int);let v2:=(a0.length:Int);L3 R a0 v2 (0:Int) ([]:List (LI×Int)) (fun x3=>
k x3)
theorem q138 (L3:Lx) (F:Px) (R:Type) (x:AT (Rs F).ins) (k:List ((Rs F).kk.T×(Rs F).kv.T)→Option R):
 zo4 (e138 L3 R) (Ag Tryz.f138) 2 (Rs F).kk (Rs F).kv (avs (Rs F).ins x) k=p138 L3 R x.1 k:=by kernel_rfl
def F138:Px:=p138 (Db FUEL)
theorem zt3 (R:Type):Az Tryz.prog (e138 (Db FUEL) R):=⟨tabOK,eqOK,Aq Ab,Bs,Ak⟩
def Uz:(R:Type)→HT (C3 (Db FUEL)).H→(HT (C3 (Db FUEL)).H→Option R)→KT R (C3 (Db FUEL)).exs→Option R:=fun R x kc ke=>zbr R x.1 x.2.1 x.2.2.1 x.2.2.2.1 (fun x1 x2 x3 x4=>kc (x1,x2,x3,x4,())) (fun y1=>ke.1 (y1,()))
theorem it138_3:∀(n:Nat) (R:Type) (x:HT (C3 (Db FUEL)).H) (ke:KT R (C3 (Db FUEL)).exs),iter Uz n R x ke=Db n R x.1 x.2.1 x.2.2.1 x.2.2.2.1 (fun y1=>ke.1 (y1,())):=by
 intro n
 induction n with
 | zero=>intro R x ke; rfl
 | succ n ih=>
  intro R x ke;show Uz R x (fun x'=>iter Uz n R x' ke) ke=_
  rw [show (fun x'=>iter Uz n R x' ke)=fun x=>Db n R x.1 x.2.1 x.2.2.1 x.2.2.2.1 (fun y1=>ke.1 (y1,())) from funext fun x'=>ih R x' ke];rfl
theorem zrb:(C3 (Db FUEL)).OK Tryz.prog 0 33 (Cf 3 (Ag Tryz.f138)):=fun R x ke r h=>
 Ek (fun R=>e138 (Db FUEL) R) 0 33 (fun _=>rfl) (fun _=>rfl) (fun R=>zt3 R) mixed (by
  intro R;rw [show Ap (Cf 3 (Ag Tryz.f138))=[] from by kernel_rfl];exact Bp) (T:=Uz) (fun R x kc ke=>q138_3 (Db FUEL) R x kc ke) FUEL R x ke r ((it138_3 FUEL R x ke).trans h)
theorem ok138:(Rs F138).OK Tryz.prog:=
 ent_okR (Ef:=fun R=>e138 (Db FUEL) R) (fun R=>zt3 R) mixed Tryz.func138 (body:=Ag Tryz.f138) (by kernel_rfl) (by kernel_rfl) (nt:=33) (fun _=>rfl) (fun _=>rfl) (by kernel_rfl) (t:=2) (by kernel_rfl) (fun _=>Nat.le_of_ble_eq_true rfl) (by
  intro R;rw [show Ap (Ag Tryz.f138)=[Cf 3 (Ag Tryz.f138)] from by kernel_rfl];exact (Af (H5 (e:=C3 (Db FUEL)) rfl rfl zrb) Bp)) (fun R x k=>q138 (Db FUEL) F138 R x k)
abbrev V1:=(R:Type)→(List Tq5)→(Bool→Option R)→Option R
def zsv (F:V1):Ent:=eV 137 [(.sl Kq5)] [.bool] F
def e137 (F110:Kh) (F138:Px) (F139:Je) (F140:Sj) (R:Type):Env R:=⟨TT,EQT,0,36,Bo [(3,11)],Bc [Yi F110,zd3 F139,zsu F140] R,Bf [] R,[],Bd [(138,inlR 0 (Rs F138) R)],[]⟩
def p137 (F110:Kh) (F138:Px) (F139:Je) (F140:Sj):V1:=fun R a0 k=>
F110 R a0 fun y1=>
F139 R y1 fun y2 y3=>
F140 R a0 fun y4=>
F139 R y4 fun y5 y6=>
(match y3 with
|true=>(match y6 with
|true=>let v7:=(a0.length:Int);let v8:=decide (v7≤1048576);(match v8 with
|true=>F138 R a0 fun m9=>
let v10:=(m9.length:Int);let v11:=(a0.length:Int);let v12:=v10==v11;k v12
|false=>k false)
|false=>k false)
|false=>k false)
theorem q137 (F110:Kh) (F138:Px) (F139:Je) (F140:Sj):EQ (zsv (p137 F110 F138 F139 F140)) (e137 F110 F138 F139 F140) Tryz.f137 [(.tmp 2,4,false)]:=fun _ _ _=>by kernel_rfl
def F137:V1:=p137 F110 F138 F139 F140
theorem env137 (R:Type):Az Tryz.prog (e137 F110 F138 F139 F140 R):=⟨tabOK,eqOK,Aq (Aa zgu (Aa zgt (Aa ok140 Ab))),Bs,(N6 ok138 Ak)⟩
theorem ok137:OKP (zsv F137):=ST.ok3 (q137 F110 F138 F139 F140) env137 Tryz.func137 (fun _=>rfl) (fun _=>rfl) (fun _=>rfl) [] trivial
def e142:Env (List (Kd.T Kq5)):=⟨TT,EQT,0,9,Bo [(1,5)],fun _ _ _=>none,fun _ _ _=>none,[],Bd [],[]⟩
theorem ok142:Sb Tryz.prog 142 Kq5 0:=
 clip_ok (e:=Kq5) (E:=e142) ⟨tabOK,eqOK,(fun f b K r h=>by cases h),Bs,Ak⟩ mixed Tryz.func142 (body:=Ag Tryz.f142) (by kernel_rfl) (by kernel_rfl) rfl (by kernel_rfl) (t:=2) (by kernel_rfl) (by decide) (by kernel_rfl) (fun l=>by kernel_rfl)
abbrev Vw:Type 1:=(R:Type)→(List Tq5)→((List Tq5)→Option R)→Option R
def en181 (F:Vw):Ent:=⟨181,[(false,(.sl Kq5))],[(true,Kq5)],fun R x k=>F R x.1 (fun y1=>k (y1,()) ())⟩
def e181:Env (RT [(true,Kq5)]):=⟨TT,EQT,0,8,Bo [(2,0),(3,0)],fun _ _ _=>none,fun _ _ _=>none,[],Bd [],[]⟩
def F181:Vw:=fun R a0 k=>match decide (List.length ([]:(List Tq5))+a0.length≤2932031007402) with | true=>k a0 | false=>none
theorem zzd:(en181 F181).OK Tryz.prog:=
 H8 (e:=Kq5) e181 ⟨tabOK,eqOK,(fun f b K r h=>by cases h),Bs,Ak⟩ mixed Tryz.func181 (body:=Ag Tryz.f181) (by kernel_rfl) (by kernel_rfl) (by kernel_rfl) (res:=[(.tmp 2,27,true)]) (by kernel_rfl) rfl (by decide) (by kernel_rfl) (lim:=2932031007402) (by kernel_rfl) (fun l=>by kernel_rfl)
abbrev Pw:=(R:Type)→(List Tq5)→Int→Int→((List Tq5)→Option R)→Option R
def zij (F:Pw):Ent:=eV 143 [(.sl Kq5),(.int .i64),(.int .u64)] [(.sl Kq5)] F
def p143 (F181:Vw):Pw:=fun R a0 a1 a2 k=>
F181 R a0 fun y1=>
(match bnd a1 y1.length with
|true=>let v2:=y1.set a1.toNat ((y1.getD a1.toNat ((List.replicate 32 0),0,0,())).1,(y1.getD a1.toNat ((List.replicate 32 0),0,0,())).2.1,a2,(y1.getD a1.toNat ((List.replicate 32 0),0,0,())).2.2.2);k v2
|false=>none)
theorem q143 (F181:Vw):EQ (zij (p143 F181)) (sE 0 15 [] [en181 F181] []) Tryz.f143 [(.tmp 6,27,false)]:=fun _ _ _=>by kernel_rfl
def F143:Pw:=p143 F181
theorem zzj:OKP (zij F143):=ST.ok0 (q143 F181) (Aa zzd Ab) Tryz.func143
abbrev FT97:=(R:Type)→(List Tq5)→LI→Int→Int→((List Tq5)→Int→Int→Option R)→Option R
def en97 (F:FT97):Ent:=eV 97 [(.sl Kq5),(.arr 32 (.int .u8)),(.int .u64),(.int .i64)] [(.sl Kq5),(.int .i64),(.int .i64)] F
def e97 (F137:V1) (F138:Px) (F139:Je) (F140:Sj) (F141:Kg) (F143:Pw) (R:Type):Env R:=⟨TT,EQT,0,83,Bo [(3,1),(13,1)],Bc [zsv F137,zd3 F139,zsu F140,zik F141,zij F143] R,Bf [] R,[(142,Kq5,0)],Bd [(138,inlR 0 (Rs F138) R)],[]⟩
def p97 (F137:V1) (F138:Px) (F139:Je) (F140:Sj) (F141:Kg) (F143:Pw):FT97:=fun R a0 a1 a2 a3 k=>
F137 R a0 fun y1=>
(match (!y1) with
|true=>k ([]:(List Tq5)) (0:Int) (1:Int)
|false=>let v2:=a2==0;(match v2 with
|true=>k ([]:(List Tq5)) (0:Int) (1:Int)
|false=>let v3:=decide (a3<1);(match v3 with
|true=>k ([]:(List Tq5)) (0:Int) (1:Int)
|false=>let v4:=decide (a3>1048576);(match v4 with
|true=>k ([]:(List Tq5)) (0:Int) (1:Int)
|false=>F138 R a0 fun m5=>
let v6:=Option.getD (Bu (Kd.eqv (.arr 32 (.int .u8))) m5 a1) (0:Int);let v7:=Option.isSome (Bu (Kd.eqv (.arr 32 (.int .u8))) m5 a1);(match (!v7) with
|true=>let v8:=(a0.length:Int);let v9:=decide (v8≥a3);(match v9 with
|true=>(match (!v7) with
|true=>k ([]:(List Tq5)) (0:Int) (4:Int)
|false=>F140 R a0 fun y10=>
F139 R y10 fun y11 y12=>
F141 R y11 a2 fun y13 y14=>
(match (!y14) with
|true=>k ([]:(List Tq5)) (0:Int) (11:Int)
|false=>(match (!v7) with
|true=>let v15:=([(a1,(0:Int),(0:Int),())]:(List Tq5));(match (decide (0<v15.length∧a0.length+v15.length≤2932031007402)) with
|true=>let v16:=a0++v15;(match bnd v8 v16.length with
|true=>let v17:=(v16.getD v8.toNat ((List.replicate 32 0),0,0,())).2.2.1;let v18:=IntKind.u64.wrap (v17+a2);F143 R v16 v8 v18 fun y19=>
k y19 v8 (0:Int)
|false=>none)
|false=>none)
|false=>(match bnd v8 a0.length with
|true=>let v20:=(a0.getD v8.toNat ((List.replicate 32 0),0,0,())).2.2.1;let v21:=IntKind.u64.wrap (v20+a2);F143 R a0 v8 v21 fun y22=>
k y22 v8 (0:Int)
|false=>none))))
|false=>F140 R a0 fun y23=>
F139 R y23 fun y24 y25=>
F141 R y24 a2 fun y26 y27=>
(match (!y27) with
|true=>k ([]:(List Tq5)) (0:Int) (11:Int)
|false=>(match (!v7) with
|true=>let v28:=([(a1,(0:Int),(0:Int),())]:(List Tq5));(match (decide (0<v28.length∧a0.length+v28.length≤2932031007402)) with
|true=>let v29:=a0++v28;(match bnd v8 v29.length with
|true=>let v30:=(v29.getD v8.toNat ((List.replicate 32 0),0,0,())).2.2.1;let v31:=IntKind.u64.wrap (v30+a2);F143 R v29 v8 v31 fun y32=>
k y32 v8 (0:Int)
|false=>none)
|false=>none)
|false=>(match bnd v8 a0.length with
|true=>let v33:=(a0.getD v8.toNat ((List.replicate 32 0),0,0,())).2.2.1;let v34:=IntKind.u64.wrap (v33+a2);F143 R a0 v8 v34 fun y35=>
k y35 v8 (0:Int)
|false=>none))))
|false=>let v36:=decide (v6≥a3);(match v36 with
|true=>(match (!v7) with
|true=>k ([]:(List Tq5)) (0:Int) (4:Int)
|false=>F140 R a0 fun y37=>
F139 R y37 fun y38 y39=>
F141 R y38 a2 fun y40 y41=>
(match (!y41) with
|true=>k ([]:(List Tq5)) (0:Int) (11:Int)
|false=>(match (!v7) with
|true=>let v42:=([(a1,(0:Int),(0:Int),())]:(List Tq5));(match (decide (0<v42.length∧a0.length+v42.length≤2932031007402)) with
|true=>let v43:=a0++v42;(match bnd v6 v43.length with
|true=>let v44:=(v43.getD v6.toNat ((List.replicate 32 0),0,0,())).2.2.1;let v45:=IntKind.u64.wrap (v44+a2);F143 R v43 v6 v45 fun y46=>
k y46 v6 (0:Int)
|false=>none)
|false=>none)
|false=>(match bnd v6 a0.length with
|true=>let v47:=(a0.getD v6.toNat ((List.replicate 32 0),0,0,())).2.2.1;let v48:=IntKind.u64.wrap (v47+a2);F143 R a0 v6 v48 fun y49=>
k y49 v6 (0:Int)
|false=>none))))
|false=>F140 R a0 fun y50=>
F139 R y50 fun y51 y52=>
F141 R y51 a2 fun y53 y54=>
(match (!y54) with
|true=>k ([]:(List Tq5)) (0:Int) (11:Int)
|false=>(match (!v7) with
|true=>let v55:=([(a1,(0:Int),(0:Int),())]:(List Tq5));(match (decide (0<v55.length∧a0.length+v55.length≤2932031007402)) with
|true=>let v56:=a0++v55;(match bnd v6 v56.length with
|true=>let v57:=(v56.getD v6.toNat ((List.replicate 32 0),0,0,())).2.2.1;let v58:=IntKind.u64.wrap (v57+a2);F143 R v56 v6 v58 fun y59=>
k y59 v6 (0:Int)
|false=>none)
|false=>none)
|false=>(match bnd v6 a0.length with
|true=>let v60:=(a0.getD v6.toNat ((List.replicate 32 0),0,0,())).2.2.1;let v61:=IntKind.u64.wrap (v60+a2);F143 R a0 v6 v61 fun y62=>
k y62 v6 (0:Int)
|false=>none)))))))))
theorem q97 (F137:V1) (F138:Px) (F139:Je) (F140:Sj) (F141:Kg) (F143:Pw):EQ (en97 (p97 F137 F138 F139 F140 F141 F143)) (e97 F137 F138 F139 F140 F141 F143) Tryz.f97 [(.tmp 8,27,false),(.tmp 9,3,false),(.tmp 10,35,false)]:=fun _ _ _=>by kernel_rfl
def F97:FT97:=p97 F137 F138 F139 F140 F141 F143
theorem env97 (R:Type):Az Tryz.prog (e97 F137 F138 F139 F140 F141 F143 R):=⟨tabOK,eqOK,Aq (Aa ok137 (Aa zgt (Aa ok140 (Aa zgs (Aa zzj Ab))))),zt0 ok142,(N6 ok138 Ak)⟩
theorem ok97:OKP (en97 F97):=ST.ok3 (q97 F137 F138 F139 F140 F141 F143) env97 Tryz.func97 (fun _=>rfl) (fun _=>rfl) (fun _=>rfl) [] trivial
abbrev FT51:=(R:Type)→Tq31→Tq13→(Int→Tq31→Option R)→Option R
def en51 (F:FT51):Ent:=eM 51 [(true,Kq31),(false,Kq13)] [(false,(.int .i64))] F
def p51 (F97:FT97):FT51:=fun R a0 a1 k=>
F97 R a0.1.2.2.1 a1.2.2.2.1 a1.2.2.1 a0.1.1.2.2.2.2.1 fun y1 y2 y3=>
let v4:=IntKind.u64.wrap y2;k y3 ((a0.1.1,a0.1.2.1,y1,a0.1.2.2.2),(a0.2.1.1,v4,a0.2.1.2.2),a0.2.2)
theorem q51 (F97:FT97):EQ (en51 (p51 F97)) (sE 1 40 [] [en97 F97] []) Tryz.f51 [(.tmp 4,35,false)]:=fun _ _ _=>by kernel_rfl
def F51:FT51:=p51 F97
theorem ok51:OKP (en51 F51):=ST.ok0 (q51 F97) (Aa ok97 Ab) Tryz.func51
abbrev zad:=(R:Type)→(List Tq5)→Int→(Int→Option R)→Option R
def zst (F:zad):Ent:=eV 144 [(.sl Kq5),(.int .i64)] [(.int .i64)] F
def p144 (F137:V1):zad:=fun R a0 a1 k=>
F137 R a0 fun y1=>
(match (!y1) with
|true=>k (1:Int)
|false=>let v2:=decide (a1<0);(match v2 with
|true=>k (5:Int)
|false=>let v3:=(a0.length:Int);let v4:=decide (a1≥v3);(match v4 with
|true=>k (5:Int)
|false=>k (0:Int))))
theorem q144 (F137:V1):EQ (zst (p144 F137)) (sE 0 18 [] [zsv F137] []) Tryz.f144 [(.tmp 4,35,false)]:=fun _ _ _=>by kernel_rfl
def F144:zad:=p144 F137
theorem ok144:OKP (zst F144):=ST.ok0 (q144 F137) (Aa ok137 Ab) Tryz.func144
abbrev FT98:=(R:Type)→(List Tq5)→Int→Int→((List Tq5)→Int→Int→Option R)→Option R
def en98 (F:FT98):Ent:=eV 98 [(.sl Kq5),(.int .i64),(.int .u64)] [(.sl Kq5),(.int .u64),(.int .i64)] F
def p98 (F143:Pw) (F144:zad):FT98:=fun R a0 a1 a2 k=>
F144 R a0 a1 fun y1=>
let v2:=a2==0;(match v2 with
|true=>k ([]:(List Tq5)) (0:Int) (1:Int)
|false=>let v3:=y1 !=0;(match v3 with
|true=>k ([]:(List Tq5)) (0:Int) y1
|false=>(match bnd a1 a0.length with
|true=>let v4:=(a0.getD a1.toNat ((List.replicate 32 0),0,0,())).2.2.1;let v5:=decide (a2>v4);(match v5 with
|true=>k ([]:(List Tq5)) (0:Int) (12:Int)
|false=>(match bnd a1 a0.length with
|true=>let v6:=(a0.getD a1.toNat ((List.replicate 32 0),0,0,())).2.2.1;let v7:=IntKind.u64.wrap (v6 - a2);F143 R a0 a1 v7 fun y8=>
k y8 v7 (0:Int)
|false=>none))
|false=>none)))
theorem q98 (F143:Pw) (F144:zad):EQ (en98 (p98 F143 F144)) (sE 0 41 [] [zij F143,zst F144] []) Tryz.f98 [(.tmp 6,27,false),(.tmp 7,28,false),(.tmp 8,35,false)]:=fun _ _ _=>by kernel_rfl
def F98:FT98:=p98 F143 F144
theorem ok98:OKP (en98 F98):=ST.ok0 (q98 F143 F144) (Aa zzj (Aa ok144 Ab)) Tryz.func98
abbrev FT52:=(R:Type)→Tq31→Tq13→(Int→Tq31→Option R)→Option R
def en52 (F:FT52):Ent:=eM 52 [(true,Kq31),(false,Kq13)] [(false,(.int .i64))] F
def p52 (F98:FT98):FT52:=fun R a0 a1 k=>
F98 R a0.1.2.2.1 a1.2.1 a1.2.2.1 fun y1 y2 y3=>
k y3 ((a0.1.1,a0.1.2.1,y1,a0.1.2.2.2),(a0.2.1.1,y2,a0.2.1.2.2),a0.2.2)
theorem q52 (F98:FT98):EQ (en52 (p52 F98)) (sE 1 28 [] [en98 F98] []) Tryz.f52 [(.tmp 4,35,false)]:=fun _ _ _=>by kernel_rfl
def F52:FT52:=p52 F98
theorem ok52:OKP (en52 F52):=ST.ok0 (q52 F98) (Aa ok98 Ab) Tryz.func52
abbrev FT99:=(R:Type)→(List Tq5)→Int→Int→((List Tq5)→Int→Int→Option R)→Option R
def en99 (F:FT99):Ent:=eV 99 [(.sl Kq5),(.int .i64),(.int .u64)] [(.sl Kq5),(.int .u64),(.int .i64)] F
def p99 (F143:Pw) (F144:zad):FT99:=fun R a0 a1 a2 k=>
F144 R a0 a1 fun y1=>
let v2:=y1 !=0;(match v2 with
|true=>k ([]:(List Tq5)) (0:Int) y1
|false=>(match bnd a1 a0.length with
|true=>let v3:=(a0.getD a1.toNat ((List.replicate 32 0),0,0,())).2.2.1;let v4:=if v3<a2 then v3 else a2;(match bnd a1 a0.length with
|true=>let v5:=(a0.getD a1.toNat ((List.replicate 32 0),0,0,())).2.2.1;let v6:=IntKind.u64.wrap (v5 - v4);F143 R a0 a1 v6 fun y7=>
k y7 v4 (0:Int)
|false=>none)
|false=>none))
theorem q99 (F143:Pw) (F144:zad):EQ (en99 (p99 F143 F144)) (sE 0 35 [] [zij F143,zst F144] []) Tryz.f99 [(.tmp 6,27,false),(.tmp 7,28,false),(.tmp 8,35,false)]:=fun _ _ _=>by kernel_rfl
def F99:FT99:=p99 F143 F144
theorem ok99:OKP (en99 F99):=ST.ok0 (q99 F143 F144) (Aa zzj (Aa ok144 Ab)) Tryz.func99
abbrev FT53:=(R:Type)→Tq31→Tq13→(Int→Tq31→Option R)→Option R
def en53 (F:FT53):Ent:=eM 53 [(true,Kq31),(false,Kq13)] [(false,(.int .i64))] F
def p53 (F99:FT99):FT53:=fun R a0 a1 k=>
F99 R a0.1.2.2.1 a1.2.1 a1.2.2.1 fun y1 y2 y3=>
k y3 ((a0.1.1,a0.1.2.1,y1,a0.1.2.2.2),(a0.2.1.1,y2,a0.2.1.2.2),a0.2.2)
theorem q53 (F99:FT99):EQ (en53 (p53 F99)) (sE 1 28 [] [en99 F99] []) Tryz.f53 [(.tmp 4,35,false)]:=fun _ _ _=>by kernel_rfl
def F53:FT53:=p53 F99
theorem ok53:OKP (en53 F53):=ST.ok0 (q53 F99) (Aa ok99 Ab) Tryz.func53
abbrev Pj:=(R:Type)→Tq31→Int→(Int→Tq31→Option R)→Option R
def zin (F:Pj):Ent:=eM 100 [(true,Kq31),(false,(.int .i64))] [(false,(.int .i64))] F
def p100:Pj:=fun R a0 a1 k=>
let v1:=decide (a1<0);(match v1 with
|true=>k (5:Int) a0
|false=>let v2:=(a0.1.2.2.1.length:Int);let v3:=decide (a1≥v2);(match v3 with
|true=>k (5:Int) a0
|false=>k (0:Int) a0))
theorem q100:EQ (zin p100) (sE 1 17 [] [] []) Tryz.f100 [(.tmp 4,35,false)]:=fun _ _ _=>by kernel_rfl
def F100:Pj:=p100
theorem zzn:OKP (zin F100):=ST.ok0 q100 Ab Tryz.func100
abbrev zac:=(R:Type)→Tq21→Int→(Bool→Option R)→Option R
def zss (F:zac):Ent:=eV 145 [Kq21,(.int .i64)] [.bool] F
def p145 (F25:FT25):zac:=fun R a0 a1 k=>
F25 R a0 fun y1=>
(match y1 with
|true=>let v2:=decide (a1≥0);(match v2 with
|true=>let v3:=decide (a1<a0.1);k v3
|false=>k false)
|false=>k false)
theorem q145 (F25:FT25):EQ (zss (p145 F25)) (sE 0 17 [] [en25 F25] []) Tryz.f145 [(.tmp 4,4,false)]:=fun _ _ _=>by kernel_rfl
def F145:zac:=p145 F25
theorem ok145:OKP (zss F145):=ST.ok0 (q145 F25) (Aa ok25 Ab) Tryz.func145
abbrev Sm:=(R:Type)→Tq21→Int→(Int→Option R)→Option R
def zsz (F:Sm):Ent:=eV 101 [Kq21,(.int .i64)] [(.int .i64)] F
def p101 (F145:zac):Sm:=fun R a0 a1 k=>
F145 R a0 a1 fun y1=>
(match (!y1) with
|true=>k (0:Int)
|false=>let v2:=decide (a1<a0.2.1);(match v2 with
|true=>k (1:Int)
|false=>let v3:=IntKind.i64.wrap (a0.2.1+a0.2.2.1);let v4:=decide (a1<v3);(match v4 with
|true=>k (2:Int)
|false=>k (3:Int))))
theorem q101 (F145:zac):EQ (zsz (p101 F145)) (sE 0 23 [] [zss F145] []) Tryz.f101 [(.tmp 4,3,false)]:=fun _ _ _=>by kernel_rfl
def F101:Sm:=p101 F145
theorem ok101:OKP (zsz F101):=ST.ok0 (q101 F145) (Aa ok145 Ab) Tryz.func101
abbrev zk8:=(R:Type)→(LI→Option R)→Option R
def en252 (F:zk8):Ent:=eV 252 [] [(.arr 8 (.int .u32))] F
def p252:zk8:=fun R k=>
let v1:=List.set (List.set (List.set (List.set (List.set (List.set (List.set (List.set (List.replicate 8 (0:Int)) 0 (1779033703:Int)) 1 (3144134277:Int)) 2 (1013904242:Int)) 3 (2773480762:Int)) 4 (1359893119:Int)) 5 (2600822924:Int)) 6 (528734635:Int)) 7 (1541459225:Int);k v1
theorem q252:EQ (en252 p252) (sE 0 2 [] [] []) Tryz.f252 [(.cell 0 143,143,false)]:=fun _ _ _=>by kernel_rfl
def F252:zk8:=p252
theorem ok252:OKP (en252 F252):=ST.ok0 q252 Ab Tryz.func252
abbrev zlb:=(R:Type)→(Tq33→Option R)→Option R
def en226 (F:zlb):Ent:=eV 226 [] [Kq33] F
def p226 (F252:zk8):zlb:=fun R k=>
F252 R  fun y1=>
k (y1,([]:LI),(0:Int),())
theorem q226 (F252:zk8):EQ (en226 (p226 F252)) (sE 0 3 [] [en252 F252] []) Tryz.f226 [(.cell 0 258,258,false)]:=fun _ _ _=>by kernel_rfl
def F226:zlb:=p226 F252
theorem ok226:OKP (en226 F226):=ST.ok0 (q226 F252) (Aa ok252 Ab) Tryz.func226
abbrev Zv:=(R:Type)→Tq33→(Bool→Option R)→Option R
def en250 (F:Zv):Ent:=eV 250 [Kq33] [.bool] F
def p250:Zv:=fun R a0 k=>
let v1:=decide (a0.2.2.1<2305843009213693952);(match v1 with
|true=>let v2:=(a0.2.1.length:Int);let v3:=IntKind.u64.wrap v2;let v4:=iand .u64 a0.2.2.1 (63:Int);let v5:=v3==v4;k v5
|false=>k false)
theorem q250:EQ (en250 p250) (sE 0 16 [] [] []) Tryz.f250 [(.tmp 2,4,false)]:=fun _ _ _=>by kernel_rfl
def F250:Zv:=p250
theorem ok250:OKP (en250 F250):=ST.ok0 q250 Ab Tryz.func250
abbrev ztc:Type 1:=(R:Type)→LI→(LI→Option R)→Option R
def en270 (F:ztc):Ent:=⟨270,[(false,(.sl (.int .u8)))],[(true,(.int .u8))],fun R x k=>F R x.1 (fun y1=>k (y1,()) ())⟩
def e270:Env (RT [(true,(.int .u8))]):=⟨TT,EQT,0,8,Bo [(2,0),(3,0)],fun _ _ _=>none,fun _ _ _=>none,[],Bd [],[]⟩
def F270:ztc:=fun R a0 k=>match decide (List.length ([]:LI)+a0.length≤140737488355328) with | true=>k a0 | false=>none
theorem ok270:(en270 F270).OK Tryz.prog:=
 H8 (e:=(.int .u8)) e270 ⟨tabOK,eqOK,(fun f b K r h=>by cases h),Bs,Ak⟩ mixed Tryz.func270 (body:=Ag Tryz.f270) (by kernel_rfl) (by kernel_rfl) (by kernel_rfl) (res:=[(.tmp 2,93,true)]) (by kernel_rfl) rfl (by decide) (by kernel_rfl) (lim:=140737488355328) (by kernel_rfl) (fun l=>by kernel_rfl)
abbrev Zn:=(R:Type)→LI→((List LI)→LI→Option R)→Option R
def en272 (F:Zn):Ent:=eV 272 [(.sl (.int .u8))] [(.sl (.arr 64 (.int .u8))),(.sl (.int .u8))] F
abbrev znf (Z:Type):=LI→(List LI)→Z
abbrev zv4 (R:Type):=(LI→(List LI)→Option R)→Option R
abbrev Lb:=(R:Type)→znf (zv4 R)
def Xc (L:Lb):LEnt:=lM 1 [.val 0 (.sl (.int .u8)),.fix 2 (.own 0 0),.row 0 (.arr 64 (.int .u8)) false] 1 [(.exit 0,[.val 0 (.sl (.int .u8)),.fix 2 (.own 0 0),.row 0 (.arr 64 (.int .u8)) false])] L
def e272 (L1:Lb):=sE 0 17 [(0,0)] [] [Xc L1]
def zfv (R:Type):znf (znf (Option R)→zv4 R):=fun x1 x2 kc k0=>
let v3:=(x1.length:Int);let v4:=decide (v3≥64);(match v4 with
|true=>(match (decide ((64:Int)≤(x1.length:Int))) with
|true=>let v5:=List.take 64 x1;let v6:=([v5]:(List LI));(match (decide (x2.length+v6.length≤2199023255552)) with
|true=>let v7:=x2++v6;(match (decide (0≤(64:Int)∧(64:Int)≤(x1.length:Int)∧(x1.length:Int)≤(x1.length:Int)∧(x1.length:Int)≤(x1.length:Int))) with
|true=>let v8:=List.take (Int.toNat ((x1.length:Int) - (64:Int))) (List.drop 64 x1);kc v8 v7
|false=>none)
|false=>none)
|false=>none)
|false=>k0 x1 x2)
theorem q272_1 (L1:Lb):LEQ (Xc L1) (e272 L1) Tryz.f272 zfv:=fun _ _ _ _=>by kernel_rfl
def Oy:Nat→Lb
 | 0=>fun _ _ _ _=>none
 | n+1=>fun R x1 x2 k0=>zfv R x1 x2 (fun x1 x2=>Oy n R x1 x2 k0) k0
def p272 (L1:Lb):Zn:=fun R a0 k=>
L1 R a0 ([]:(List LI)) (fun x1 x2=>
k x2 x1)
theorem q272 (L1:Lb):EQ (en272 (p272 L1)) (e272 L1) Tryz.f272 [(.tmp 2,137,false),(.tmp 3,93,false)]:=fun _ _ _=>by kernel_rfl
def F272:Zn:=p272 (Oy FUEL)
theorem zqi:LKP (Xc (Oy FUEL)) 0 17 1 Tryz.f272:=ST.lok (q272_1 (Oy FUEL)) Ab [] trivial
theorem ok272:OKP (en272 F272):=ST.ok1 (q272 (Oy FUEL)) Ab Tryz.func272 [1] ⟨⟨_,rfl,zqi⟩,trivial⟩
abbrev Vn:=(R:Type)→(LI→Option R)→Option R
def en282 (F:Vn):Ent:=eV 282 [] [(.arr 64 (.int .u32))] F
def p282:Vn:=fun R k=>
let v1:=List.set (List.set (List.set (List.set (List.set (List.set (List.set (List.set (List.set (List.set (List.set (List.set (List.set (List.set (List.set (List.set (List.set (List.set (List.set (List.set (List.set (List.set (List.set (List.set (List.set (List.set (List.set (List.set (List.set (List.set (List.set (List.set (List.set (List.set (List.set (List.set (List.set (List.set (List.set (List.set (List.set (List.set (List.set (List.set (List.set (List.set (List.set (List.set (List.set (List.set (List.set (List.set (List.set (List.set (List.set (List.set (List.set (List.set (List.set (List.set (List.set (List.set (List.set (List.set (List.replicate 64 (0:Int)) 0 (1116352408:Int)) 1 (1899447441:Int)) 2 (3049323471:Int)) 3 (3921009573:Int)) 4 (961987163:Int)) 5 (1508970993:Int)) 6 (2453635748:Int)) 7 (2870763221:Int)) 8 (3624381080:Int)) 9 (310598401:Int)) 10 (607225278:Int)) 11 (1426881987:Int)) 12 (1925078388:Int)) 13 (2162078206:Int)) 14 (2614888103:Int)) 15 (3248222580:Int)) 16 (3835390401:Int)) 17 (4022224774:Int)) 18 (264347078:Int)) 19 (604807628:Int)) 20 (770255983:Int)) 21 (1249150122:Int)) 22 (1555081692:Int)) 23 (1996064986:Int)) 24 (2554220882:Int)) 25 (2821834349:Int)) 26 (2952996808:Int)) 27 (3210313671:Int)) 28 (3336571891:Int)) 29 (3584528711:Int)) 30 (113926993:Int)) 31 (338241895:Int)) 32 (666307205:Int)) 33 (773529912:Int)) 34 (1294757372:Int)) 35 (1396182291:Int)) 36 (1695183700:Int)) 37 (1986661051:Int)) 38 (2177026350:Int)) 39 (2456956037:Int)) 40 (2730485921:Int)) 41 (2820302411:Int)) 42 (3259730800:Int)) 43 (3345764771:Int)) 44 (3516065817:Int)) 45 (3600352804:Int)) 46 (4094571909:Int)) 47 (275423344:Int)) 48 (430227734:Int)) 49 (506948616:Int)) 50 (659060556:Int)) 51 (883997877:Int)) 52 (958139571:Int)) 53 (1322822218:Int)) 54 (1537002063:Int)) 55 (1747873779:Int)) 56 (1955562222:Int)) 57 (2024104815:Int)) 58 (2227730452:Int)) 59 (2361852424:Int)) 60 (2428436474:Int)) 61 (2756734187:Int)) 62 (3204031479:Int)) 63 (3329325298:Int);k v1
theorem q282:EQ (en282 p282) (sE 0 2 [] [] []) Tryz.f282 [(.cell 0 222,222,false)]:=fun _ _ _=>by kernel_rfl
def F282:Vn:=p282
theorem zy5:OKP (en282 F282):=ST.ok0 q282 Ab Tryz.func282
abbrev Na:=(R:Type)→LI→(Int→Option R)→Option R
def zid (F:Na):Ent:=eV 244 [(.arr 4 (.int .u8))] [(.int .u32)] F
abbrev znq (Z:Type):=Int→LI→Int→Z
abbrev zwf (R:Type):=(Int→Option R)→Option R
abbrev Lh:=(R:Type)→znq (zwf R)
def Xk (L:Lh):LEnt:=lM 2 [.val 2 (.int .u32),.val 5 (.arr 4 (.int .u8)),.val 6 (.int .i64)] 0 [(.exit 0,[.val 2 (.int .u32)])] L
def e244 (L2:Lh):=sE 0 16 [] [] [Xk L2]
def zf2 (R:Type):znq (znq (Option R)→zwf R):=fun x1 x2 x3 kc k0=>
let v4:=decide (x3<4);(match v4 with
|true=>(match (bnd x3 (4:Int)) with
|true=>let v5:=x2.getD x3.toNat 0;let v6:=ishl .u32 x1 (8:Int);let v7:=IntKind.u32.wrap v5;let v8:=ior .u32 v6 v7;let v9:=IntKind.i64.wrap (x3+1);kc v8 x2 v9
|false=>none)
|false=>k0 x1)
theorem q244_2 (L2:Lh):LEQ (Xk L2) (e244 L2) Tryz.f244 zf2:=fun _ _ _ _=>by kernel_rfl
def Qt:Nat→Lh
 | 0=>fun _ _ _ _ _=>none
 | n+1=>fun R x1 x2 x3 k0=>zf2 R x1 x2 x3 (fun x1 x2 x3=>Qt n R x1 x2 x3 k0) k0
def p244 (L2:Lh):Na:=fun R a0 k=>
L2 R (0:Int) a0 (0:Int) (fun x1=>
k x1)
theorem q244 (L2:Lh):EQ (zid (p244 L2)) (e244 L2) Tryz.f244 [(.tmp 2,136,false)]:=fun _ _ _=>by kernel_rfl
def F244:Na:=p244 (Qt FUEL)
theorem zqq:LKP (Xk (Qt FUEL)) 0 16 2 Tryz.f244:=ST.lok (q244_2 (Qt FUEL)) Ab [] trivial
theorem zpy:OKP (zid F244):=ST.ok1 (q244 (Qt FUEL)) Ab Tryz.func244 [2] ⟨⟨_,rfl,zqq⟩,trivial⟩
abbrev Ze:=(R:Type)→Int→Int→(Int→Option R)→Option R
def zr9 (F:Ze):Ent:=eV 293 [(.int .u32),(.int .i64)] [(.int .u32)] F
def p293:Ze:=fun R a0 a1 k=>
let v1:=IntKind.u64.wrap a1;let v2:=Int.tmod v1 (32:Int);(match (decide (0≤v2)) with
|true=>let v3:=ishr .u32 a0 v2;let v4:=IntKind.u64.wrap ((32:Int) - v2);(match (decide (0≤v4)) with
|true=>let v5:=ishl .u32 a0 v4;let v6:=ior .u32 v3 v5;k v6
|false=>none)
|false=>none)
theorem q293:EQ (zr9 p293) (sE 0 17 [] [] []) Tryz.f293 [(.tmp 4,136,false)]:=fun _ _ _=>by kernel_rfl
def F293:Ze:=p293
theorem ok293:OKP (zr9 F293):=ST.ok0 q293 Ab Tryz.func293
abbrev zkx:=(R:Type)→Int→Int→(Int→Option R)→Option R
def en294 (F:zkx):Ent:=eV 294 [(.int .u32),(.int .i64)] [(.int .u32)] F
def p294:zkx:=fun R a0 a1 k=>
let v1:=if (0:Int)>a1 then (0:Int) else a1;let v2:=IntKind.u64.wrap v1;(match (decide (0≤v2)) with
|true=>let v3:=ishr .u32 a0 v2;k v3
|false=>none)
theorem q294:EQ (en294 p294) (sE 0 10 [] [] []) Tryz.f294 [(.tmp 4,136,false)]:=fun _ _ _=>by kernel_rfl
def F294:zkx:=p294
theorem ok294:OKP (en294 F294):=ST.ok0 q294 Ab Tryz.func294
abbrev Zg:=(R:Type)→Int→Int→Int→Int→(Int→Option R)→Option R
def zsb (F:Zg):Ent:=eV 291 [(.int .u32),(.int .i64),(.int .i64),(.int .i64)] [(.int .u32)] F
def p291 (F293:Ze) (F294:zkx):Zg:=fun R a0 a1 a2 a3 k=>
F293 R a0 a1 fun y1=>
F293 R a0 a2 fun y2=>
let v3:=ixor .u32 y1 y2;F294 R a0 a3 fun y4=>
let v5:=ixor .u32 v3 y4;k v5
theorem q291 (F293:Ze) (F294:zkx):EQ (zsb (p291 F293 F294)) (sE 0 20 [] [zr9 F293,en294 F294] []) Tryz.f291 [(.tmp 8,136,false)]:=fun _ _ _=>by kernel_rfl
def F291:Zg:=p291 F293 F294
theorem ok291:OKP (zsb F291):=ST.ok0 (q291 F293 F294) (Aa ok293 (Aa ok294 Ab)) Tryz.func291
abbrev Zi:=(R:Type)→Int→(Int→Option R)→Option R
def en286 (F:Zi):Ent:=eV 286 [(.int .u32)] [(.int .u32)] F
def p286 (F291:Zg):Zi:=fun R a0 k=>
F291 R a0 (17:Int) (19:Int) (10:Int) fun y1=>
k y1
theorem q286 (F291:Zg):EQ (en286 (p286 F291)) (sE 0 5 [] [zsb F291] []) Tryz.f286 [(.tmp 2,136,false)]:=fun _ _ _=>by kernel_rfl
def F286:Zi:=p286 F291
theorem ok286:OKP (en286 F286):=ST.ok0 (q286 F291) (Aa ok291 Ab) Tryz.func286
abbrev Zh:=(R:Type)→Int→(Int→Option R)→Option R
def en287 (F:Zh):Ent:=eV 287 [(.int .u32)] [(.int .u32)] F
def p287 (F291:Zg):Zh:=fun R a0 k=>
F291 R a0 (7:Int) (18:Int) (3:Int) fun y1=>
k y1
theorem q287 (F291:Zg):EQ (en287 (p287 F291)) (sE 0 5 [] [zsb F291] []) Tryz.f287 [(.tmp 2,136,false)]:=fun _ _ _=>by kernel_rfl
def F287:Zh:=p287 F291
theorem ok287:OKP (en287 F287):=ST.ok0 (q287 F291) (Aa ok291 Ab) Tryz.func287
abbrev Vm:=(R:Type)→LI→(LI→Option R)→Option R
def en283 (F:Vm):Ent:=eV 283 [(.arr 64 (.int .u8))] [(.arr 64 (.int .u32))] F
abbrev zna (Z:Type):=Int→LI→LI→Z
abbrev zvz (R:Type):=(LI→Option R)→Option R
abbrev K8:=(R:Type)→zna (zvz R)
def W7 (L:K8):LEnt:=lM 2 [.fix 1 (.ptr 0 [] (.arr 64 (.int .u8))),.fix 2 (.ptr 1 [] (.arr 64 (.int .u32))),.val 5 (.int .i64),.var 0 (.arr 64 (.int .u8)) false,.var 1 (.arr 64 (.int .u32)) false] 2 [(.exit 0,[.fix 2 (.ptr 1 [] (.arr 64 (.int .u32))),.var 1 (.arr 64 (.int .u32)) false])] L
def e283 (F244:Na) (F286:Zi) (F287:Zh) (L2:K8):=sE 0 46 [] [zid F244,en286 F286,en287 F287] [W7 L2]
def zfr (F244:Na) (F286:Zi) (F287:Zh) (R:Type):zna (zna (Option R)→zvz R):=fun x1 x2 x3 kc k0=>
let v4:=decide (x1<64);(match v4 with
|true=>let v5:=IntKind.i64.wrap ((4:Int)*x1);let v6:=decide (v5<64);(match v6 with
|true=>let v7:=IntKind.i64.wrap (v5+4);(match (decide (0≤v5∧v5≤v7∧v7≤64)) with
|true=>(match (decide ((4:Int)≤((Int.toNat (v7 - v5)):Nat))) with
|true=>let v8:=List.take 4 (List.drop v5.toNat x2);F244 R v8 fun y9=>
(match (bnd x1 (64:Int)) with
|true=>let v10:=x3.set x1.toNat y9;let v11:=IntKind.i64.wrap (x1+1);kc v11 x2 v10
|false=>none)
|false=>none)
|false=>none)
|false=>let v12:=IntKind.i64.wrap (x1 - 2);(match (bnd v12 (64:Int)) with
|true=>let v13:=x3.getD v12.toNat 0;F286 R v13 fun y14=>
let v15:=IntKind.i64.wrap (x1 - 7);(match (bnd v15 (64:Int)) with
|true=>let v16:=x3.getD v15.toNat 0;let v17:=IntKind.u32.wrap (y14+v16);let v18:=IntKind.i64.wrap (x1 - 15);(match (bnd v18 (64:Int)) with
|true=>let v19:=x3.getD v18.toNat 0;F287 R v19 fun y20=>
let v21:=IntKind.u32.wrap (v17+y20);let v22:=IntKind.i64.wrap (x1 - 16);(match (bnd v22 (64:Int)) with
|true=>let v23:=x3.getD v22.toNat 0;let v24:=IntKind.u32.wrap (v21+v23);(match (bnd x1 (64:Int)) with
|true=>let v25:=x3.set x1.toNat v24;let v26:=IntKind.i64.wrap (x1+1);kc v26 x2 v25
|false=>none)
|false=>none)
|false=>none)
|false=>none)
|false=>none))
|false=>k0 x3)
theorem q283_2 (F244:Na) (F286:Zi) (F287:Zh) (L2:K8):LEQ (W7 L2) (e283 F244 F286 F287 L2) Tryz.f283 (zfr F244 F286 F287):=fun _ _ _ _=>by kernel_rfl
def Ow:Nat→K8
 | 0=>fun _ _ _ _ _=>none
 | n+1=>fun R x1 x2 x3 k0=>zfr F244 F286 F287 R x1 x2 x3 (fun x1 x2 x3=>Ow n R x1 x2 x3 k0) k0
def p283 (L2:K8):Vm:=fun R a0 k=>
L2 R (0:Int) a0 (List.replicate 64 (0:Int)) (fun x1=>
k x1)
theorem q283 (F244:Na) (F286:Zi) (F287:Zh) (L2:K8):EQ (en283 (p283 L2)) (e283 F244 F286 F287 L2) Tryz.f283 [(.cell 2 223,223,false)]:=fun _ _ _=>by kernel_rfl
def F283:Vm:=p283 (Ow FUEL)
theorem zqd:LKP (W7 (Ow FUEL)) 0 46 2 Tryz.f283:=ST.lok (q283_2 F244 F286 F287 (Ow FUEL)) (Aa zpy (Aa ok286 (Aa ok287 Ab))) [] trivial
theorem zy4:OKP (en283 F283):=ST.ok1 (q283 F244 F286 F287 (Ow FUEL)) (Aa zpy (Aa ok286 (Aa ok287 Ab))) Tryz.func283 [2] ⟨⟨_,rfl,zqd⟩,trivial⟩
abbrev Zf:=(R:Type)→Int→Int→Int→Int→(Int→Option R)→Option R
def zsa (F:Zf):Ent:=eV 292 [(.int .u32),(.int .i64),(.int .i64),(.int .i64)] [(.int .u32)] F
def p292 (F293:Ze):Zf:=fun R a0 a1 a2 a3 k=>
F293 R a0 a1 fun y1=>
F293 R a0 a2 fun y2=>
let v3:=ixor .u32 y1 y2;F293 R a0 a3 fun y4=>
let v5:=ixor .u32 v3 y4;k v5
theorem q292 (F293:Ze):EQ (zsa (p292 F293)) (sE 0 20 [] [zr9 F293] []) Tryz.f292 [(.tmp 8,136,false)]:=fun _ _ _=>by kernel_rfl
def F292:Zf:=p292 F293
theorem ok292:OKP (zsa F292):=ST.ok0 (q292 F293) (Aa ok293 Ab) Tryz.func292
abbrev zk0:=(R:Type)→Int→Int→Int→(Int→Option R)→Option R
def en288 (F:zk0):Ent:=eV 288 [(.int .u32),(.int .u32),(.int .u32)] [(.int .u32)] F
def p288 (F292:Zf):zk0:=fun R a0 a1 a2 k=>
F292 R a0 (6:Int) (11:Int) (25:Int) fun y1=>
let v2:=iand .u32 a0 a1;let v3:=ixor .u32 (4294967295:Int) a0;let v4:=iand .u32 v3 a2;let v5:=ixor .u32 v2 v4;let v6:=IntKind.u32.wrap (y1+v5);k v6
theorem q288 (F292:Zf):EQ (en288 (p288 F292)) (sE 0 18 [] [zsa F292] []) Tryz.f288 [(.tmp 6,136,false)]:=fun _ _ _=>by kernel_rfl
def F288:zk0:=p288 F292
theorem ok288:OKP (en288 F288):=ST.ok0 (q288 F292) (Aa ok292 Ab) Tryz.func288
abbrev zkz:=(R:Type)→Int→Int→Int→(Int→Option R)→Option R
def en289 (F:zkz):Ent:=eV 289 [(.int .u32),(.int .u32),(.int .u32)] [(.int .u32)] F
def p289 (F292:Zf):zkz:=fun R a0 a1 a2 k=>
F292 R a0 (2:Int) (13:Int) (22:Int) fun y1=>
let v2:=iand .u32 a0 a1;let v3:=iand .u32 a0 a2;let v4:=ixor .u32 v2 v3;let v5:=iand .u32 a1 a2;let v6:=ixor .u32 v4 v5;let v7:=IntKind.u32.wrap (y1+v6);k v7
theorem q289 (F292:Zf):EQ (en289 (p289 F292)) (sE 0 21 [] [zsa F292] []) Tryz.f289 [(.tmp 6,136,false)]:=fun _ _ _=>by kernel_rfl
def F289:zkz:=p289 F292
theorem ok289:OKP (en289 F289):=ST.ok0 (q289 F292) (Aa ok292 Ab) Tryz.func289
abbrev Vl:=(R:Type)→LI→Int→Int→(LI→Option R)→Option R
def en284 (F:Vl):Ent:=eV 284 [(.arr 8 (.int .u32)),(.int .u32),(.int .u32)] [(.arr 8 (.int .u32))] F
def p284 (F288:zk0) (F289:zkz):Vl:=fun R a0 a1 a2 k=>
let v1:=a0.getD 7 0;let v2:=a0.getD 4 0;let v3:=a0.getD 5 0;let v4:=a0.getD 6 0;F288 R v2 v3 v4 fun y5=>
let v6:=IntKind.u32.wrap (v1+y5);let v7:=IntKind.u32.wrap (v6+a2);let v8:=IntKind.u32.wrap (v7+a1);let v9:=lay (List.replicate 8 (0:Int)) 1 (List.take 7 (List.take 7 (List.drop 0 a0)));let v10:=a0.getD 0 0;let v11:=a0.getD 1 0;let v12:=a0.getD 2 0;F289 R v10 v11 v12 fun y13=>
let v14:=IntKind.u32.wrap (v8+y13);let v15:=v9.set 0 v14;let v16:=v15.getD 4 0;let v17:=IntKind.u32.wrap (v16+v8);let v18:=v15.set 4 v17;k v18
theorem q284 (F288:zk0) (F289:zkz):EQ (en284 (p284 F288 F289)) (sE 0 41 [] [en288 F288,en289 F289] []) Tryz.f284 [(.cell 6 143,143,false)]:=fun _ _ _=>by kernel_rfl
def F284:Vl:=p284 F288 F289
theorem zy3:OKP (en284 F284):=ST.ok0 (q284 F288 F289) (Aa ok288 (Aa ok289 Ab)) Tryz.func284
abbrev Zm:=(R:Type)→LI→LI→(LI→Option R)→Option R
def en273 (F:Zm):Ent:=eV 273 [(.arr 8 (.int .u32)),(.arr 64 (.int .u8))] [(.arr 8 (.int .u32))] F
abbrev zne (Z:Type):=LI→Int→LI→LI→LI→LI→Z
abbrev zv3 (R:Type):=(LI→LI→LI→Option R)→Option R
abbrev I0:=(R:Type)→zne (zv3 R)
def Xb (L:I0):LEnt:=lM 3 [.fix 2 (.ptr 0 [] (.arr 8 (.int .u32))),.fix 4 (.ptr 2 [] (.arr 8 (.int .u32))),.fix 5 (.ptr 3 [] (.arr 8 (.int .u32))),.fix 6 (.ptr 4 [] (.arr 64 (.int .u32))),.val 13 (.arr 64 (.int .u32)),.val 14 (.int .i64),.var 0 (.arr 8 (.int .u32)) false,.var 2 (.arr 8 (.int .u32)) false,.var 3 (.arr 8 (.int .u32)) false,.var 4 (.arr 64 (.int .u32)) false] 5 [(.exit 0,[.fix 2 (.ptr 0 [] (.arr 8 (.int .u32))),.fix 4 (.ptr 2 [] (.arr 8 (.int .u32))),.fix 5 (.ptr 3 [] (.arr 8 (.int .u32))),.var 0 (.arr 8 (.int .u32)) false,.var 2 (.arr 8 (.int .u32)) false,.var 3 (.arr 8 (.int .u32)) false])] L
abbrev znd (Z:Type):=Int→LI→LI→LI→Z
abbrev zv2 (R:Type):=(LI→LI→Option R)→Option R
abbrev Iz:=(R:Type)→znd (zv2 R)
def Xa (L:Iz):LEnt:=lM 8 [.fix 2 (.ptr 0 [] (.arr 8 (.int .u32))),.fix 4 (.ptr 2 [] (.arr 8 (.int .u32))),.fix 5 (.ptr 3 [] (.arr 8 (.int .u32))),.val 25 (.int .i64),.var 0 (.arr 8 (.int .u32)) false,.var 2 (.arr 8 (.int .u32)) false,.var 3 (.arr 8 (.int .u32)) false] 4 [(.exit 2,[.fix 4 (.ptr 2 [] (.arr 8 (.int .u32))),.fix 5 (.ptr 3 [] (.arr 8 (.int .u32))),.var 2 (.arr 8 (.int .u32)) false,.var 3 (.arr 8 (.int .u32)) false])] L
def e273 (F282:Vn) (F283:Vm) (F284:Vl) (L3:I0) (L8:Iz):=sE 0 38 [] [en282 F282,en283 F283,en284 F284] [Xb L3,Xa L8]
def zfu (F284:Vl) (R:Type):zne (zne (Option R)→zv3 R):=fun x1 x2 x3 x4 x5 x6 kc k0=>
let v7:=decide (x2<64);(match v7 with
|true=>(match (bnd x2 (64:Int)) with
|true=>let v8:=x1.getD x2.toNat 0;(match (bnd x2 (64:Int)) with
|true=>let v9:=x6.getD x2.toNat 0;F284 R x5 v8 v9 fun y10=>
let v11:=IntKind.i64.wrap (x2+1);kc x1 v11 x3 x4 y10 x6
|false=>none)
|false=>none)
|false=>k0 x3 x4 x5)
theorem q273_3 (F282:Vn) (F283:Vm) (F284:Vl) (L3:I0) (L8:Iz):LEQ (Xb L3) (e273 F282 F283 F284 L3 L8) Tryz.f273 (zfu F284):=fun _ _ _ _=>by kernel_rfl
def Mt:Nat→I0
 | 0=>fun _ _ _ _ _ _ _ _=>none
 | n+1=>fun R x1 x2 x3 x4 x5 x6 k0=>zfu F284 R x1 x2 x3 x4 x5 x6 (fun x1 x2 x3 x4 x5 x6=>Mt n R x1 x2 x3 x4 x5 x6 k0) k0
def zft (R:Type):znd (znd (Option R)→zv2 R):=fun x1 x2 x3 x4 kc k0=>
let v5:=decide (x1<8);(match v5 with
|true=>(match (bnd x1 (8:Int)) with
|true=>let v6:=x4.getD x1.toNat 0;(match (bnd x1 (8:Int)) with
|true=>let v7:=x2.getD x1.toNat 0;let v8:=IntKind.u32.wrap (v6+v7);(match (bnd x1 (8:Int)) with
|true=>let v9:=x4.set x1.toNat v8;let v10:=IntKind.i64.wrap (x1+1);kc v10 x2 x3 v9
|false=>none)
|false=>none)
|false=>none)
|false=>k0 x3 x4)
theorem q273_8 (F282:Vn) (F283:Vm) (F284:Vl) (L3:I0) (L8:Iz):LEQ (Xa L8) (e273 F282 F283 F284 L3 L8) Tryz.f273 zft:=fun _ _ _ _=>by kernel_rfl
def J5:Nat→Iz
 | 0=>fun _ _ _ _ _ _=>none
 | n+1=>fun R x1 x2 x3 x4 k0=>zft R x1 x2 x3 x4 (fun x1 x2 x3 x4=>J5 n R x1 x2 x3 x4 k0) k0
def p273 (F282:Vn) (F283:Vm) (L3:I0) (L8:Iz):Zm:=fun R a0 a1 k=>
F282 R  fun y1=>
F283 R a1 fun y2=>
L3 R y2 (0:Int) a0 (List.replicate 8 (0:Int)) a0 y1 (fun x3 x4 x5=>
L8 R (0:Int) x3 x4 x5 (fun x6 x7=>
k x7))
theorem q273 (F282:Vn) (F283:Vm) (F284:Vl) (L3:I0) (L8:Iz):EQ (en273 (p273 F282 F283 L3 L8)) (e273 F282 F283 F284 L3 L8) Tryz.f273 [(.cell 4 143,143,false)]:=fun _ _ _=>by kernel_rfl
def F273:Zm:=p273 F282 F283 (Mt FUEL) (J5 FUEL)
theorem zqh:LKP (Xb (Mt FUEL)) 0 38 3 Tryz.f273:=ST.lok (q273_3 F282 F283 F284 (Mt FUEL) (J5 FUEL)) (Aa zy5 (Aa zy4 (Aa zy3 Ab))) [] trivial
theorem zqg:LKP (Xa (J5 FUEL)) 0 38 8 Tryz.f273:=ST.lok (q273_8 F282 F283 F284 (Mt FUEL) (J5 FUEL)) (Aa zy5 (Aa zy4 (Aa zy3 Ab))) [] trivial
theorem ok273:OKP (en273 F273):=ST.ok1 (q273 F282 F283 F284 (Mt FUEL) (J5 FUEL)) (Aa zy5 (Aa zy4 (Aa zy3 Ab))) Tryz.func273 [3,8] ⟨⟨_,rfl,zqh⟩,⟨⟨_,rfl,zqg⟩,trivial⟩⟩
abbrev Zt:=(R:Type)→Tq34→LI→(LI→Tq34→Option R)→Option R
def zsf (F:Zt):Ent:=eM 254 [(true,Kq34),(false,(.sl (.int .u8)))] [(false,(.sl (.int .u8)))] F
abbrev znn (Z:Type):=LI→(List LI)→Int→Int→Tq34→Z
abbrev zwc (R:Type):=(LI→Tq34→Option R)→Option R
abbrev Le:=(R:Type)→znn (zwc R)
def Xh (L:Le):LEnt:=lM 3 [.fix 0 (.ptr 0 [] Kq34),.val 6 (.sl (.int .u8)),.val 14 (.sl (.arr 64 (.int .u8))),.val 15 (.int .i64),.val 16 (.int .i64),.var 0 Kq34 false] 1 [(.exit 0,[.val 6 (.sl (.int .u8)),.var 0 Kq34 false])] L
def e254 (F272:Zn) (F273:Zm) (L3:Le):=sE 1 33 [] [en272 F272,en273 F273] [Xh L3]
def zfz (F273:Zm) (R:Type):znn (znn (Option R)→zwc R):=fun x1 x2 x3 x4 x5 kc k0=>
let v6:=decide (x4<x3);(match v6 with
|true=>(match bnd x4 x2.length with
|true=>let v7:=x2.getD x4.toNat (List.replicate 64 0);F273 R x5.1.1 v7 fun y8=>
let v9:=IntKind.i64.wrap (x4+1);kc x1 x2 x3 v9 ((y8,x5.1.2),x5.2)
|false=>none)
|false=>k0 x1 x5)
theorem q254_3 (F272:Zn) (F273:Zm) (L3:Le):LEQ (Xh L3) (e254 F272 F273 L3) Tryz.f254 (zfz F273):=fun _ _ _ _=>by kernel_rfl
def O0:Nat→Le
 | 0=>fun _ _ _ _ _ _ _=>none
 | n+1=>fun R x1 x2 x3 x4 x5 k0=>zfz F273 R x1 x2 x3 x4 x5 (fun x1 x2 x3 x4 x5=>O0 n R x1 x2 x3 x4 x5 k0) k0
def p254 (F272:Zn) (L3:Le):Zt:=fun R a0 a1 k=>
F272 R a1 fun y1 y2=>
let v3:=(y1.length:Int);L3 R y2 y1 v3 (0:Int) a0 (fun x4 x5=>
k x4 x5)
theorem q254 (F272:Zn) (F273:Zm) (L3:Le):EQ (zsf (p254 F272 L3)) (e254 F272 F273 L3) Tryz.f254 [(.tmp 4,93,false)]:=fun _ _ _=>by kernel_rfl
def F254:Zt:=p254 F272 (O0 FUEL)
theorem zqn:LKP (Xh (O0 FUEL)) 1 33 3 Tryz.f254:=ST.lok (q254_3 F272 F273 (O0 FUEL)) (Aa ok272 (Aa ok273 Ab)) [] trivial
theorem ok254:OKP (zsf F254):=ST.ok1 (q254 F272 F273 (O0 FUEL)) (Aa ok272 (Aa ok273 Ab)) Tryz.func254 [3] ⟨⟨_,rfl,zqn⟩,trivial⟩
abbrev Zu:=(R:Type)→Tq34→LI→(Tq34→Option R)→Option R
def en251 (F:Zu):Ent:=eM 251 [(true,Kq34),(false,(.sl (.int .u8)))] [] F
def p251 (F254:Zt) (F270:ztc):Zu:=fun R a0 a1 k=>
let v1:=(a1.length:Int);let v2:=IntKind.u64.wrap v1;let v3:=IntKind.u64.wrap (a0.1.2.2.1+v2);F270 R a0.1.2.1 fun y4=>
(match (decide (y4.length+a1.length≤140737488355328)) with
|true=>let v5:=y4++a1;F254 R ((a0.1.1,a0.1.2.1,v3,a0.1.2.2.2),a0.2) v5 fun y6 p7=>
k ((p7.1.1,y6,p7.1.2.2),p7.2)
|false=>none)
theorem q251 (F254:Zt) (F270:ztc):EQ (en251 (p251 F254 F270)) (sE 1 30 [] [zsf F254,en270 F270] []) Tryz.f251 []:=fun _ _ _=>by kernel_rfl
def F251:Zu:=p251 F254 F270
theorem ok251:OKP (en251 F251):=ST.ok0 (q251 F254 F270) (Aa ok254 (Aa ok270 Ab)) Tryz.func251
abbrev zlc:=(R:Type)→Tq33→(List LI)→(Tq33→Int→Option R)→Option R
def en225 (F:zlc):Ent:=eV 225 [Kq33,(.sl (.sl (.int .u8)))] [Kq33,(.int .i64)] F
abbrev znu (Z:Type):=(List LI)→Int→Int→Tq33→Tq34→Z
abbrev zwj (R:Type):=(Int→Tq33→Option R)→(Tq33→Tq34→Option R)→Option R
abbrev Ll:=(R:Type)→znu (zwj R)
def Xo (L:Ll):LEnt:=lM 5 [.fix 4 (.ptr 1 [] Kq33),.fix 6 (.ptr 2 [] Kq34),.val 15 (.sl (.sl (.int .u8))),.val 16 (.int .i64),.val 17 (.int .i64),.var 1 Kq33 false,.var 2 Kq34 false] 3 [(.ret,[.fix 4 (.ptr 1 [] Kq33),.val 5 (.int .i64),.var 1 Kq33 false]),(.exit 0,[.fix 4 (.ptr 1 [] Kq33),.fix 6 (.ptr 2 [] Kq34),.var 1 Kq33 false,.var 2 Kq34 false])] L
def e225 (F250:Zv) (F251:Zu) (L5:Ll):=sE 0 31 [] [en250 F250,en251 F251] [Xo L5]
def zbo (F251:Zu) (R:Type):znu (znu (Option R)→zwj R):=fun x1 x2 x3 x4 x5 kc k0 k1=>
let v6:=decide (x3<x2);(match v6 with
|true=>(match bnd x3 x1.length with
|true=>let v7:=x1.getD x3.toNat [];F251 R x5 v7 fun p8=>
let v9:=decide (p8.1.2.2.1≥2305843009213693952);(match v9 with
|true=>k0 (11:Int) ((List.replicate 8 (0:Int)),([]:LI),(0:Int),())
|false=>let v10:=IntKind.i64.wrap (x3+1);kc x1 x2 v10 x4 p8)
|false=>none)
|false=>k1 x4 x5)
theorem q225_5 (F250:Zv) (F251:Zu) (L5:Ll):LEQ (Xo L5) (e225 F250 F251 L5) Tryz.f225 (zbo F251):=fun _ _ _ _=>by kernel_rfl
def Mx:Nat→Ll
 | 0=>fun _ _ _ _ _ _ _ _=>none
 | n+1=>fun R x1 x2 x3 x4 x5 k0 k1=>zbo F251 R x1 x2 x3 x4 x5 (fun x1 x2 x3 x4 x5=>Mx n R x1 x2 x3 x4 x5 k0 k1) k0 k1
def p225 (F250:Zv) (L5:Ll):zlc:=fun R a0 a1 k=>
F250 R a0 fun y1=>
(match (!y1) with
|true=>k ((List.replicate 8 (0:Int)),([]:LI),(0:Int),()) (1:Int)
|false=>let v2:=(a1.length:Int);L5 R a1 v2 (0:Int) ((List.replicate 8 (0:Int)),([]:LI),(0:Int),()) (a0,()) (fun x3 x4=>
k x4 x3) (fun x5 x6=>
k x6.1 (0:Int)))
theorem q225 (F250:Zv) (F251:Zu) (L5:Ll):EQ (en225 (p225 F250 L5)) (e225 F250 F251 L5) Tryz.f225 [(.cell 4 258,258,false),(.tmp 5,35,false)]:=fun _ _ _=>by kernel_rfl
def F225:zlc:=p225 F250 (Mx FUEL)
theorem zqu:LKP (Xo (Mx FUEL)) 0 31 5 Tryz.f225:=ST.lok (q225_5 F250 F251 (Mx FUEL)) (Aa ok250 (Aa ok251 Ab)) [] trivial
theorem ok225:OKP (en225 F225):=ST.ok1 (q225 F250 F251 (Mx FUEL)) (Aa ok250 (Aa ok251 Ab)) Tryz.func225 [5] ⟨⟨_,rfl,zqu⟩,trivial⟩
abbrev zk3:=(R:Type)→Int→(Int→Option R)→Option R
def en271 (F:zk3):Ent:=eV 271 [(.int .u64)] [(.int .u64)] F
def p271:zk3:=fun R a0 k=>
let v1:=decide (a0≥2305843009213693952);(match v1 with
|true=>k (0:Int)
|false=>let v2:=IntKind.u64.wrap (a0+8);let v3:=IntKind.u64.wrap (v2+64);let v4:=IntKind.u64.wrap (Int.tdiv v3 (64:Int));k v4)
theorem q271:EQ (en271 p271) (sE 0 9 [] [] []) Tryz.f271 [(.tmp 2,28,false)]:=fun _ _ _=>by kernel_rfl
def F271:zk3:=p271
theorem ok271:OKP (en271 F271):=ST.ok0 q271 Ab Tryz.func271
abbrev Kf:=(R:Type)→Int→(LI→Option R)→Option R
def Yh (F:Kf):Ent:=eV 203 [(.int .u64)] [(.arr 8 (.int .u8))] F
abbrev znz (Z:Type):=Int→Int→LI→Z
abbrev zwo (R:Type):=(LI→Option R)→Option R
abbrev Lo:=(R:Type)→znz (zwo R)
def Xr (L:Lo):LEnt:=lM 2 [.val 0 (.int .u64),.fix 2 (.ptr 0 [] (.arr 8 (.int .u8))),.val 4 (.int .i64),.var 0 (.arr 8 (.int .u8)) false] 1 [(.exit 0,[.fix 2 (.ptr 0 [] (.arr 8 (.int .u8))),.var 0 (.arr 8 (.int .u8)) false])] L
def e203 (L2:Lo):=sE 0 18 [] [] [Xr L2]
def zf7 (R:Type):znz (znz (Option R)→zwo R):=fun x1 x2 x3 kc k0=>
let v4:=decide (x2<8);(match v4 with
|true=>let v5:=IntKind.i64.wrap ((7:Int) - x2);let v6:=IntKind.i64.wrap ((8:Int)*v5);let v7:=IntKind.u64.wrap v6;(match (decide (0≤v7)) with
|true=>let v8:=ishr .u64 x1 v7;let v9:=IntKind.u8.wrap v8;(match (bnd x2 (8:Int)) with
|true=>let v10:=x3.set x2.toNat v9;let v11:=IntKind.i64.wrap (x2+1);kc x1 v11 v10
|false=>none)
|false=>none)
|false=>k0 x3)
theorem q203_2 (L2:Lo):LEQ (Xr L2) (e203 L2) Tryz.f203 zf7:=fun _ _ _ _=>by kernel_rfl
def O5:Nat→Lo
 | 0=>fun _ _ _ _ _=>none
 | n+1=>fun R x1 x2 x3 k0=>zf7 R x1 x2 x3 (fun x1 x2 x3=>O5 n R x1 x2 x3 k0) k0
def p203 (L2:Lo):Kf:=fun R a0 k=>
L2 R a0 (0:Int) (List.replicate 8 (0:Int)) (fun x1=>
k x1)
theorem q203 (L2:Lo):EQ (Yh (p203 L2)) (e203 L2) Tryz.f203 [(.cell 2 95,95,false)]:=fun _ _ _=>by kernel_rfl
def F203:Kf:=p203 (O5 FUEL)
theorem zqx:LKP (Xr (O5 FUEL)) 0 18 2 Tryz.f203:=ST.lok (q203_2 (O5 FUEL)) Ab [] trivial
theorem zgr:OKP (Yh F203):=ST.ok1 (q203 (O5 FUEL)) Ab Tryz.func203 [2] ⟨⟨_,rfl,zqx⟩,trivial⟩
abbrev zk7:=(R:Type)→LI→Int→(LI→Bool→Option R)→Option R
def en253 (F:zk7):Ent:=eV 253 [(.sl (.int .u8)),(.int .u64)] [(.sl (.int .u8)),.bool] F
def p253 (F203:Kf) (F271:zk3):zk7:=fun R a0 a1 k=>
let v1:=decide (a1≥2305843009213693952);(match v1 with
|true=>k ([]:LI) false
|false=>let v2:=(a0.length:Int);let v3:=IntKind.u64.wrap v2;let v4:=Int.tmod a1 (64:Int);let v5:=v3 !=v4;(match v5 with
|true=>k ([]:LI) false
|false=>F271 R a1 fun y6=>
let v7:=IntKind.u64.wrap (Int.tdiv a1 (64:Int));let v8:=IntKind.u64.wrap (y6 - v7);let v9:=IntKind.i64.wrap v8;let v10:=IntKind.i64.wrap (v9*64);(match (decide (0≤v10∧v10≤v10∧v10≤140737488355328)) with
|true=>let v11:=List.replicate v10.toNat (0:Int);let v12:=lay v11 0 (List.take (v11.length) a0);let v13:=(a0.length:Int);(match bnd v13 v12.length with
|true=>let v14:=v12.set v13.toNat (128:Int);let v15:=ishl .u64 a1 (3:Int);F203 R v15 fun y16=>
let v17:=IntKind.i64.wrap (v10 - 8);(match (decide (0≤v17∧v17≤(v14.length:Int)∧(v14.length:Int)≤(v14.length:Int)∧(v14.length:Int)≤(v14.length:Int))) with
|true=>let v18:=lay v14 v17.toNat (List.take (Int.toNat ((v14.length:Int) - v17)) (List.take 8 (List.drop 0 y16)));k v18 true
|false=>none)
|false=>none)
|false=>none)))
theorem q253 (F203:Kf) (F271:zk3):EQ (en253 (p253 F203 F271)) (sE 0 45 [] [Yh F203,en271 F271] []) Tryz.f253 [(.tmp 4,93,false),(.tmp 5,4,false)]:=fun _ _ _=>by kernel_rfl
def F253:zk7:=p253 F203 F271
theorem ok253:OKP (en253 F253):=ST.ok0 (q253 F203 F271) (Aa zgr (Aa ok271 Ab)) Tryz.func253
abbrev Nb:=(R:Type)→Int→(LI→Option R)→Option R
def zie (F:Nb):Ent:=eV 242 [(.int .u32)] [(.arr 4 (.int .u8))] F
def p242:Nb:=fun R a0 k=>
let v1:=ishr .u32 a0 (24:Int);let v2:=IntKind.u8.wrap v1;let v3:=ishr .u32 a0 (16:Int);let v4:=IntKind.u8.wrap v3;let v5:=ishr .u32 a0 (8:Int);let v6:=IntKind.u8.wrap v5;let v7:=IntKind.u8.wrap a0;let v8:=List.set (List.set (List.set (List.set (List.replicate 4 (0:Int)) 0 v2) 1 v4) 2 v6) 3 v7;k v8
theorem q242:EQ (zie p242) (sE 0 15 [] [] []) Tryz.f242 [(.cell 2 188,188,false)]:=fun _ _ _=>by kernel_rfl
def F242:Nb:=p242
theorem zpz:OKP (zie F242):=ST.ok0 q242 Ab Tryz.func242
abbrev zk6:=(R:Type)→Tq34→(LI→Tq34→Option R)→Option R
def en255 (F:zk6):Ent:=eM 255 [(true,Kq34)] [(false,(.arr 32 (.int .u8)))] F
abbrev znm (Z:Type):=LI→Int→Tq34→LI→Z
abbrev zwb (R:Type):=(Tq34→LI→Option R)→Option R
abbrev Ld:=(R:Type)→znm (zwb R)
def Xg (L:Ld):LEnt:=lM 2 [.fix 2 (.ptr 1 [] (.arr 32 (.int .u8))),.val 10 (.arr 8 (.int .u32)),.val 11 (.int .i64),.var 0 Kq34 false,.var 1 (.arr 32 (.int .u8)) false] 2 [(.exit 0,[.fix 2 (.ptr 1 [] (.arr 32 (.int .u8))),.var 0 Kq34 false,.var 1 (.arr 32 (.int .u8)) false])] L
def e255 (F242:Nb) (L2:Ld):=sE 1 24 [] [zie F242] [Xg L2]
def zfy (F242:Nb) (R:Type):znm (znm (Option R)→zwb R):=fun x1 x2 x3 x4 kc k0=>
let v5:=decide (x2<8);(match v5 with
|true=>(match (bnd x2 (8:Int)) with
|true=>let v6:=x1.getD x2.toNat 0;F242 R v6 fun y7=>
let v8:=IntKind.i64.wrap ((4:Int)*x2);(match (decide (0≤v8∧v8≤(32:Int)∧(32:Int)≤(32:Int))) with
|true=>let v9:=lay x4 v8.toNat (List.take (Int.toNat ((32:Int) - v8)) (List.take 4 (List.drop 0 y7)));let v10:=IntKind.i64.wrap (x2+1);kc x1 v10 x3 v9
|false=>none)
|false=>none)
|false=>k0 x3 x4)
theorem q255_2 (F242:Nb) (L2:Ld):LEQ (Xg L2) (e255 F242 L2) Tryz.f255 (zfy F242):=fun _ _ _ _=>by kernel_rfl
def Oz:Nat→Ld
 | 0=>fun _ _ _ _ _ _=>none
 | n+1=>fun R x1 x2 x3 x4 k0=>zfy F242 R x1 x2 x3 x4 (fun x1 x2 x3 x4=>Oz n R x1 x2 x3 x4 k0) k0
def p255 (L2:Ld):zk6:=fun R a0 k=>
L2 R a0.1.1 (0:Int) a0 (List.replicate 32 (0:Int)) (fun x1 x2=>
k x2 x1)
theorem q255 (F242:Nb) (L2:Ld):EQ (en255 (p255 L2)) (e255 F242 L2) Tryz.f255 [(.cell 2 25,25,false)]:=fun _ _ _=>by kernel_rfl
def F255:zk6:=p255 (Oz FUEL)
theorem zqm:LKP (Xg (Oz FUEL)) 1 24 2 Tryz.f255:=ST.lok (q255_2 F242 (Oz FUEL)) (Aa zpz Ab) [] trivial
theorem ok255:OKP (en255 F255):=ST.ok1 (q255 F242 (Oz FUEL)) (Aa zpz Ab) Tryz.func255 [2] ⟨⟨_,rfl,zqm⟩,trivial⟩
abbrev zla:=(R:Type)→Tq33→(LI→Int→Option R)→Option R
def en227 (F:zla):Ent:=eV 227 [Kq33] [(.arr 32 (.int .u8)),(.int .i64)] F
def p227 (F253:zk7) (F254:Zt) (F255:zk6):zla:=fun R a0 k=>
F253 R a0.2.1 a0.2.2.1 fun y1 y2=>
(match (!y2) with
|true=>let v3:=List.replicate 32 (0:Int);k v3 (1:Int)
|false=>F254 R (a0,()) y1 fun y4 p5=>
F255 R p5 fun y6 p7=>
k y6 (0:Int))
theorem q227 (F253:zk7) (F254:Zt) (F255:zk6):EQ (en227 (p227 F253 F254 F255)) (sE 0 23 [] [en253 F253,zsf F254,en255 F255] []) Tryz.f227 [(.cell 2 25,25,false),(.tmp 3,35,false)]:=fun _ _ _=>by kernel_rfl
def F227:zla:=p227 F253 F254 F255
theorem ok227:OKP (en227 F227):=ST.ok0 (q227 F253 F254 F255) (Aa ok253 (Aa ok254 (Aa ok255 Ab))) Tryz.func227
abbrev Sh:=(R:Type)→(List LI)→(LI→Option R)→Option R
def zif (F:Sh):Ent:=eV 189 [(.sl (.sl (.int .u8)))] [(.arr 32 (.int .u8))] F
def p189 (F225:zlc) (F226:zlb) (F227:zla):Sh:=fun R a0 k=>
F226 R  fun y1=>
F225 R y1 a0 fun y2 y3=>
F227 R y2 fun y4 y5=>
k y4
theorem q189 (F225:zlc) (F226:zlb) (F227:zla):EQ (zif (p189 F225 F226 F227)) (sE 0 19 [] [en225 F225,en226 F226,en227 F227] []) Tryz.f189 [(.cell 2 25,25,false)]:=fun _ _ _=>by kernel_rfl
def F189:Sh:=p189 F225 F226 F227
theorem zzc:OKP (zif F189):=ST.ok0 (q189 F225 F226 F227) (Aa ok225 (Aa ok226 (Aa ok227 Ab))) Tryz.func189
abbrev Z8:=(R:Type)→LI→(LI→Option R)→Option R
def zso (F:Z8):Ent:=eV 152 [(.arr 32 (.int .u8))] [(.arr 32 (.int .u8))] F
def p152 (F189:Sh):Z8:=fun R a0 k=>
let v1:=([(List.take 32 (List.drop 0 a0))]:(List LI));F189 R v1 fun y2=>
k y2
theorem q152 (F189:Sh):EQ (zso (p152 F189)) (sE 0 6 [] [zif F189] []) Tryz.f152 [(.cell 2 25,25,false)]:=fun _ _ _=>by kernel_rfl
def F152:Z8:=p152 F189
theorem ok152:OKP (zso F152):=ST.ok0 (q152 F189) (Aa zzc Ab) Tryz.func152
abbrev Z4:=(R:Type)→Tq3→(Bool→Option R)→Option R
def en182 (F:Z4):Ent:=eV 182 [Kq3] [.bool] F
def p182 (F152:Z8):Z4:=fun R a0 k=>
(match a0.2.2.1 with
|true=>let v1:=decide (a0.1≥0);(match v1 with
|true=>F152 R a0.2.2.2.1 fun y2=>
let v3:=Kd.eqv (.arr 32 (.int .u8)) y2 a0.2.1;k v3
|false=>k false)
|false=>let v4:=decide (a0.1≥0);(match v4 with
|true=>let v5:=List.replicate 32 (0:Int);let v6:=Kd.eqv (.arr 32 (.int .u8)) a0.2.2.2.1 v5;k v6
|false=>k false))
theorem q182 (F152:Z8):EQ (en182 (p182 F152)) (sE 0 25 [] [zso F152] []) Tryz.f182 [(.tmp 2,4,false)]:=fun _ _ _=>by kernel_rfl
def F182:Z4:=p182 F152
theorem ok182:OKP (en182 F182):=ST.ok0 (q182 F152) (Aa ok152 Ab) Tryz.func182
abbrev Pv:=(R:Type)→(List Tq3)→(Bool→Option R)→Option R
def zii (F:Pv):Ent:=eV 147 [(.sl Kq3)] [.bool] F
abbrev zog (Z:Type):=(List Tq3)→(List Tq3)→Int→Int→Z
abbrev zw5 (R:Type):=(Bool→Option R)→(Option R)→Option R
abbrev Lv:=(R:Type)→zog (zw5 R)
def X3 (L:Lv):LEnt:=lM 2 [.val 0 (.sl Kq3),.val 5 (.sl Kq3),.val 6 (.int .i64),.val 7 (.int .i64)] 0 [(.ret,[.val 2 .bool]),(.exit 0,[])] L
def e147 (F182:Z4) (L2:Lv):=sE 0 31 [] [en182 F182] [X3 L2]
def zgh (F182:Z4) (R:Type):zog (zog (Option R)→zw5 R):=fun x1 x2 x3 x4 kc k0 k1=>
let v5:=decide (x4<x3);(match v5 with
|true=>(match bnd x4 x2.length with
|true=>let v6:=x2.getD x4.toNat (0,(List.replicate 32 0),false,(List.replicate 32 0),());F182 R v6 fun y7=>
(match (!y7) with
|true=>k0 false
|false=>let v8:=decide (x4>0);(match v8 with
|true=>let v9:=IntKind.i64.wrap (x4 - 1);(match bnd v9 x1.length with
|true=>let v10:=(x1.getD v9.toNat (0,(List.replicate 32 0),false,(List.replicate 32 0),())).1;let v11:=decide (v10≥v6.1);(match v11 with
|true=>k0 false
|false=>let v12:=IntKind.i64.wrap (x4+1);kc x1 x2 x3 v12)
|false=>none)
|false=>let v13:=IntKind.i64.wrap (x4+1);kc x1 x2 x3 v13))
|false=>none)
|false=>k1)
theorem q147_2 (F182:Z4) (L2:Lv):LEQ (X3 L2) (e147 F182 L2) Tryz.f147 (zgh F182):=fun _ _ _ _=>by kernel_rfl
def Pc:Nat→Lv
 | 0=>fun _ _ _ _ _ _ _=>none
 | n+1=>fun R x1 x2 x3 x4 k0 k1=>zgh F182 R x1 x2 x3 x4 (fun x1 x2 x3 x4=>Pc n R x1 x2 x3 x4 k0 k1) k0 k1
def p147 (L2:Lv):Pv:=fun R a0 k=>
let v1:=(a0.length:Int);L2 R a0 a0 v1 (0:Int) (fun x2=>
k x2) (k true)
theorem q147 (F182:Z4) (L2:Lv):EQ (zii (p147 L2)) (e147 F182 L2) Tryz.f147 [(.tmp 2,4,false)]:=fun _ _ _=>by kernel_rfl
def F147:Pv:=p147 (Pc FUEL)
theorem zq9:LKP (X3 (Pc FUEL)) 0 31 2 Tryz.f147:=ST.lok (q147_2 F182 (Pc FUEL)) (Aa ok182 Ab) [] trivial
theorem zzi:OKP (zii F147):=ST.ok1 (q147 F182 (Pc FUEL)) (Aa ok182 Ab) Tryz.func147 [2] ⟨⟨_,rfl,zq9⟩,trivial⟩
abbrev Z3:=(R:Type)→(List LI)→(LI→Option R)→Option R
def en188 (F:Z3):Ent:=eV 188 [(.sl (.arr 32 (.int .u8)))] [(.arr 32 (.int .u8))] F
abbrev zn5 (Z:Type):=(List LI)→Int→Int→LI→Z
abbrev zwu (R:Type):=(LI→Option R)→Option R
abbrev I5:=(R:Type)→zn5 (zwu R)
def Xx (L:I5):LEnt:=lM 2 [.fix 2 (.ptr 0 [] (.arr 32 (.int .u8))),.val 7 (.sl (.arr 32 (.int .u8))),.val 8 (.int .i64),.val 9 (.int .i64),.var 0 (.arr 32 (.int .u8)) false] 1 [(.exit 0,[.fix 2 (.ptr 0 [] (.arr 32 (.int .u8))),.var 0 (.arr 32 (.int .u8)) false])] L
abbrev zn4 (Z:Type):=(List LI)→Int→Int→LI→Int→LI→Z
abbrev zwt (R:Type):=((List LI)→Int→Int→LI→Option R)→Option R
abbrev I4:=(R:Type)→zn4 (zwt R)
def Xw (L:I4):LEnt:=lM 5 [.fix 2 (.ptr 0 [] (.arr 32 (.int .u8))),.val 7 (.sl (.arr 32 (.int .u8))),.val 8 (.int .i64),.val 9 (.int .i64),.val 13 (.arr 32 (.int .u8)),.val 14 (.int .i64),.var 0 (.arr 32 (.int .u8)) false] 1 [(.exit 2,[.fix 2 (.ptr 0 [] (.arr 32 (.int .u8))),.val 7 (.sl (.arr 32 (.int .u8))),.val 8 (.int .i64),.val 9 (.int .i64),.var 0 (.arr 32 (.int .u8)) false])] L
def e188 (L2:I5) (L5:I4):=sE 0 27 [] [] [Xx L2,Xw L5]
def zbq (R:Type):zn4 (zn4 (Option R)→zwt R):=fun x1 x2 x3 x4 x5 x6 kc k0=>
let v7:=decide (x5<32);(match v7 with
|true=>(match (bnd x5 (32:Int)) with
|true=>let v8:=x4.getD x5.toNat 0;(match (bnd x5 (32:Int)) with
|true=>let v9:=x6.getD x5.toNat 0;let v10:=ixor .u8 v9 v8;(match (bnd x5 (32:Int)) with
|true=>let v11:=x6.set x5.toNat v10;let v12:=IntKind.i64.wrap (x5+1);kc x1 x2 x3 x4 v12 v11
|false=>none)
|false=>none)
|false=>none)
|false=>k0 x1 x2 x3 x6)
theorem q188_5 (L2:I5) (L5:I4):LEQ (Xw L5) (e188 L2 L5) Tryz.f188 zbq:=fun _ _ _ _=>by kernel_rfl
def J7:Nat→I4
 | 0=>fun _ _ _ _ _ _ _ _=>none
 | n+1=>fun R x1 x2 x3 x4 x5 x6 k0=>zbq R x1 x2 x3 x4 x5 x6 (fun x1 x2 x3 x4 x5 x6=>J7 n R x1 x2 x3 x4 x5 x6 k0) k0
def zgb (L5:I4) (R:Type):zn5 (zn5 (Option R)→zwu R):=fun x1 x2 x3 x4 kc k0=>
let v5:=decide (x3<x2);(match v5 with
|true=>(match bnd x3 x1.length with
|true=>let v6:=x1.getD x3.toNat (List.replicate 32 0);L5 R x1 x2 x3 v6 (0:Int) x4 (fun x7 x8 x9 x10=>
let v11:=IntKind.i64.wrap (x9+1);kc x7 x8 v11 x10)
|false=>none)
|false=>k0 x4)
theorem q188_2 (L2:I5) (L5:I4):LEQ (Xx L2) (e188 L2 L5) Tryz.f188 (zgb L5):=fun _ _ _ _=>by kernel_rfl
def Mz:Nat→I5
 | 0=>fun _ _ _ _ _ _=>none
 | n+1=>fun R x1 x2 x3 x4 k0=>zgb (J7 FUEL) R x1 x2 x3 x4 (fun x1 x2 x3 x4=>Mz n R x1 x2 x3 x4 k0) k0
def p188 (L2:I5):Z3:=fun R a0 k=>
let v1:=(a0.length:Int);L2 R a0 v1 (0:Int) (List.replicate 32 (0:Int)) (fun x2=>
k x2)
theorem q188 (L2:I5) (L5:I4):EQ (en188 (p188 L2)) (e188 L2 L5) Tryz.f188 [(.cell 2 25,25,false)]:=fun _ _ _=>by kernel_rfl
def F188:Z3:=p188 (Mz FUEL)
theorem zq2:LKP (Xw (J7 FUEL)) 0 27 5 Tryz.f188:=ST.lok (q188_5 (Mz FUEL) (J7 FUEL)) Ab [] trivial
theorem zq3:LKP (Xx (Mz FUEL)) 0 27 2 Tryz.f188:=ST.lok (q188_2 (Mz FUEL) (J7 FUEL)) Ab [5] ⟨⟨_,rfl,zq2⟩,trivial⟩
theorem ok188:OKP (en188 F188):=ST.ok1 (q188 (Mz FUEL) (J7 FUEL)) Ab Tryz.func188 [2] ⟨⟨_,rfl,zq3⟩,trivial⟩
abbrev Z9:=(R:Type)→(List Tq3)→(LI→Option R)→Option R
def zsp (F:Z9):Ent:=eV 151 [(.sl Kq3)] [(.arr 32 (.int .u8))] F
abbrev zof (Z:Type):=(List Tq3)→Int→Int→LI→Z
abbrev zw4 (R:Type):=(LI→Option R)→Option R
abbrev Lu:=(R:Type)→zof (zw4 R)
def X2 (L:Lu):LEnt:=lM 2 [.fix 2 (.ptr 0 [] (.arr 32 (.int .u8))),.val 5 (.sl Kq3),.val 6 (.int .i64),.val 7 (.int .i64),.var 0 (.arr 32 (.int .u8)) false] 1 [(.exit 0,[.fix 2 (.ptr 0 [] (.arr 32 (.int .u8))),.var 0 (.arr 32 (.int .u8)) false])] L
def e151 (F188:Z3) (L2:Lu):=sE 0 20 [] [en188 F188] [X2 L2]
def zgg (F188:Z3) (R:Type):zof (zof (Option R)→zw4 R):=fun x1 x2 x3 x4 kc k0=>
let v5:=decide (x3<x2);(match v5 with
|true=>(match bnd x3 x1.length with
|true=>let v6:=x1.getD x3.toNat (0,(List.replicate 32 0),false,(List.replicate 32 0),());(match v6.2.2.1 with
|true=>let v7:=([x4,v6.2.2.2.1]:(List LI));F188 R v7 fun y8=>
let v9:=IntKind.i64.wrap (x3+1);kc x1 x2 v9 y8
|false=>let v10:=IntKind.i64.wrap (x3+1);kc x1 x2 v10 x4)
|false=>none)
|false=>k0 x4)
theorem q151_2 (F188:Z3) (L2:Lu):LEQ (X2 L2) (e151 F188 L2) Tryz.f151 (zgg F188):=fun _ _ _ _=>by kernel_rfl
def Pb:Nat→Lu
 | 0=>fun _ _ _ _ _ _=>none
 | n+1=>fun R x1 x2 x3 x4 k0=>zgg F188 R x1 x2 x3 x4 (fun x1 x2 x3 x4=>Pb n R x1 x2 x3 x4 k0) k0
def p151 (L2:Lu):Z9:=fun R a0 k=>
let v1:=(a0.length:Int);L2 R a0 v1 (0:Int) (List.replicate 32 (0:Int)) (fun x2=>
k x2)
theorem q151 (F188:Z3) (L2:Lu):EQ (zsp (p151 L2)) (e151 F188 L2) Tryz.f151 [(.cell 2 25,25,false)]:=fun _ _ _=>by kernel_rfl
def F151:Z9:=p151 (Pb FUEL)
theorem zq8:LKP (X2 (Pb FUEL)) 0 20 2 Tryz.f151:=ST.lok (q151_2 F188 (Pb FUEL)) (Aa ok188 Ab) [] trivial
theorem ok151:OKP (zsp F151):=ST.ok1 (q151 F188 (Pb FUEL)) (Aa ok188 Ab) Tryz.func151 [2] ⟨⟨_,rfl,zq8⟩,trivial⟩
abbrev zab:=(R:Type)→Tq24→(Bool→Option R)→Option R
def zsr (F:zab):Ent:=eV 146 [Kq24] [.bool] F
def p146 (F147:Pv) (F151:Z9):zab:=fun R a0 k=>
F147 R a0.2.2.2.1 fun y1=>
(match y1 with
|true=>F151 R a0.2.2.2.1 fun y2=>
let v3:=Kd.eqv (.arr 32 (.int .u8)) y2 a0.2.2.1;k v3
|false=>k false)
theorem q146 (F147:Pv) (F151:Z9):EQ (zsr (p146 F147 F151)) (sE 0 14 [] [zii F147,zsp F151] []) Tryz.f146 [(.tmp 2,4,false)]:=fun _ _ _=>by kernel_rfl
def F146:zab:=p146 F147 F151
theorem ok146:OKP (zsr F146):=ST.ok0 (q146 F147 F151) (Aa zzi (Aa ok151 Ab)) Tryz.func146
abbrev zag:=(R:Type)→Tq24→Int→Int→(Int→Option R)→Option R
def zsy (F:zag):Ent:=eV 102 [Kq24,(.int .i64),(.int .i64)] [(.int .i64)] F
def p102 (F146:zab):zag:=fun R a0 a1 a2 k=>
F146 R a0 fun y1=>
(match (!y1) with
|true=>k (1:Int)
|false=>let v2:=a1 !=a2;(match v2 with
|true=>k (7:Int)
|false=>k (0:Int)))
theorem q102 (F146:zab):EQ (zsy (p102 F146)) (sE 0 15 [] [zsr F146] []) Tryz.f102 [(.tmp 6,35,false)]:=fun _ _ _=>by kernel_rfl
def F102:zag:=p102 F146
theorem ok102:OKP (zsy F102):=ST.ok0 (q102 F146) (Aa ok146 Ab) Tryz.func102
abbrev zld:=(R:Type)→Int→(Bool→Option R)→Option R
def en223 (F:zld):Ent:=eV 223 [(.int .i64)] [.bool] F
def p223:zld:=fun R a0 k=>
let v1:=a0 !=a0;k v1
theorem q223:EQ (en223 p223) (sE 0 6 [] [] []) Tryz.f223 [(.tmp 2,4,false)]:=fun _ _ _=>by kernel_rfl
def F223:zld:=p223
theorem ok223:OKP (en223 F223):=ST.ok0 q223 Ab Tryz.func223
abbrev zlp:=(R:Type)→Int→Int→(Int→Option R)→Option R
def en185 (F:zlp):Ent:=eV 185 [(.int .i64),(.int .i64)] [(.int .i64)] F
def p185 (F223:zld):zlp:=fun R a0 a1 k=>
F223 R a0 fun y1=>
F223 R a1 fun y2=>
(match y1 with
|true=>(match y2 with
|true=>k (0:Int)
|false=>k (-1:Int))
|false=>(match y2 with
|true=>k (1:Int)
|false=>let v3:=decide (a0<a1);(match v3 with
|true=>k (-1:Int)
|false=>let v4:=decide (a0>a1);(match v4 with
|true=>k (1:Int)
|false=>k (0:Int)))))
theorem q185 (F223:zld):EQ (en185 (p185 F223)) (sE 0 20 [] [en223 F223] []) Tryz.f185 [(.tmp 4,3,false)]:=fun _ _ _=>by kernel_rfl
def F185:zlp:=p185 F223
theorem ok185:OKP (en185 F185):=ST.ok0 (q185 F223) (Aa ok223 Ab) Tryz.func185
abbrev Vv:=(R:Type)→Tq3→Int→(Int→Option R)→Option R
def en184 (F:Vv):Ent:=eV 184 [Kq3,(.int .i64)] [(.int .i64)] F
def p184 (F185:zlp):Vv:=fun R a0 a1 k=>
F185 R a0.1 a1 fun y1=>
k y1
theorem q184 (F185:zlp):EQ (en184 (p184 F185)) (sE 0 9 [] [en185 F185] []) Tryz.f184 [(.tmp 4,3,false)]:=fun _ _ _=>by kernel_rfl
def F184:Vv:=p184 F185
theorem ok184:OKP (en184 F184):=ST.ok0 (q184 F185) (Aa ok185 Ab) Tryz.func184
abbrev Gq:Type 1:=(R:Type)→(List Tq3)→Int→(Int→Bool→Option R)→Option R
def Fg (F:Gq):EntF:=⟨183,184,[(false,(.sl Kq3)),(false,(.int .i64))],[(false,(.int .i64)),(false,.bool)],fun R x k=>F R x.1 x.2.1 (fun y1 y2=>k (y1,y2,()) ())⟩
def Tm:List (ResultVar×TypeId×Bool):=[(.tmp 6,3,false),(.tmp 7,4,false)]
abbrev En:Type 1:=(R:Type)→(List Tq3)→Int→Int→Int→Int→((List Tq3)→Int→Int→Int→Option R)→Option R
def Bh (L:En):LEnt:=⟨3,[.val 0 (.sl Kq3),.val 1 (.int .i64),.fix 2 (.fn 184),.val 8 (.int .i64),.val 9 (.int .i64),.val 10 (.int .i64)],0,[(.exit 0,[.val 0 (.sl Kq3),.val 1 (.int .i64),.fix 2 (.fn 184),.val 8 (.int .i64),.val 9 (.int .i64)])],fun R x ke=>L R x.1 x.2.1 x.2.2.1 x.2.2.2.1 x.2.2.2.2.1 (fun y1 y2 y3 y4=>ke.1 (y1,y2,y3,y4,()))⟩
def Oc (F184:Vv) (L3:En) (R:Type):Env R:=⟨TT,EQT,0,49,Bo [],Bc [en184 F184] R,Bf [Bh L3] R,[],Bd [],[]⟩
def Jq (F184:Vv):(R:Type)→(List Tq3)→Int→Int→Int→Int→((List Tq3)→Int→Int→Int→Int→Option R)→((List Tq3)→Int→Int→Int→Option R)→Option R:=fun R x1 x2 x3 x4 x5 kc k0=>
let v6:=decide (x4<x5);(match v6 with
|true=>let v7:=IntKind.i64.wrap (x4+x5);let v8:=IntKind.u64.wrap v7;let v9:=ishr .u64 v8 (1:Int);let v10:=IntKind.i64.wrap v9;(match bnd v10 x1.length with
|true=>let v11:=x1.getD v10.toNat (0,(List.replicate 32 0),false,(List.replicate 32 0),());F184 R v11 x2 fun y12=>
let v13:=decide (y12<0);(match v13 with
|true=>let v14:=IntKind.i64.wrap (v10+1);kc x1 x2 x3 v14 x5
|false=>kc x1 x2 x3 x4 v10)
|false=>none)
|false=>k0 x1 x2 x3 x4)
theorem zfe (F184:Vv) (L3:En) (R:Type) (x:HT (Bh L3).H) (kc:HT (Bh L3).H→Option R) (ke:KT R (Bh L3).exs):
 exec (Oc F184 L3 R) (Cf 3 (Ag Tryz.f183)) (stOf (Bh L3).H x 0) (Mg (Bh L3).H (Bh L3).exs kc ke)=
  Jq F184 R x.1 x.2.1 x.2.2.1 x.2.2.2.1 x.2.2.2.2.1 (fun x1 x2 x3 x4 x5=>kc (x1,x2,x3,x4,x5,())) (fun y1 y2 y3 y4=>ke.1 (y1,y2,y3,y4,())):=by kernel_rfl
def A6:Nat→En
 | 0=>fun _ _ _ _ _ _ _=>none
 | n+1=>fun R x1 x2 x3 x4 x5 k0=>Jq F184 R x1 x2 x3 x4 x5 (fun x1 x2 x3 x4 x5=>A6 n R x1 x2 x3 x4 x5 k0) k0
def Ws (F184:Vv) (L3:En):Gq:=fun R a0 a1 k=>
let v1:=(a0.length:Int);L3 R a0 a1 v1 (0:Int) v1 (fun x2 x3 x4 x5=>
let v6:=decide (x5<x4);(match v6 with
|true=>(match bnd x5 x2.length with
|true=>let v7:=x2.getD x5.toNat (0,(List.replicate 32 0),false,(List.replicate 32 0),());F184 R v7 x3 fun y8=>
let v9:=y8==0;k x5 v9
|false=>none)
|false=>k x5 false))
theorem zya (F184:Vv) (L3:En) (F:Gq) (R:Type) (x:AT (Fg F).ins) (k:RT (Fg F).outs→PT (Fg F).ins→Option R):
 xfun (Oc F184 L3 R) (Ag Tryz.f183) Tm (avs (Fg F).ins x++[AV.fn 184]) (finK (Fg F).outs (Fg F).ins k)=Ws F184 L3 R x.1 x.2.1 (fun y1 y2=>k (y1,y2,()) ()):=by kernel_rfl
def Dp:Gq:=Ws F184 (A6 FUEL)
theorem Ub (R:Type):Az Tryz.prog (Oc F184 (A6 FUEL) R):=⟨tabOK,eqOK,Aq (Aa ok184 Ab),Bs,Ak⟩
def Hm:(R:Type)→HT (Bh (A6 FUEL)).H→(HT (Bh (A6 FUEL)).H→Option R)→KT R (Bh (A6 FUEL)).exs→Option R:=fun R x kc ke=>Jq F184 R x.1 x.2.1 x.2.2.1 x.2.2.2.1 x.2.2.2.2.1 (fun x1 x2 x3 x4 x5=>kc (x1,x2,x3,x4,x5,())) (fun y1 y2 y3 y4=>ke.1 (y1,y2,y3,y4,()))
theorem zdr:∀(n:Nat) (R:Type) (x:HT (Bh (A6 FUEL)).H) (ke:KT R (Bh (A6 FUEL)).exs),iter Hm n R x ke=A6 n R x.1 x.2.1 x.2.2.1 x.2.2.2.1 x.2.2.2.2.1 (fun y1 y2 y3 y4=>ke.1 (y1,y2,y3,y4,())):=by
 intro n
 induction n with
 | zero=>intro R x ke; rfl
 | succ n ih=>
  intro R x ke;show Hm R x (fun x'=>iter Hm n R x' ke) ke=_
  rw [show (fun x'=>iter Hm n R x' ke)=fun x=>A6 n R x.1 x.2.1 x.2.2.1 x.2.2.2.1 x.2.2.2.2.1 (fun y1 y2 y3 y4=>ke.1 (y1,y2,y3,y4,())) from funext fun x'=>ih R x' ke];rfl
theorem W3:(Bh (A6 FUEL)).OK Tryz.prog 0 49 (Cf 3 (Ag Tryz.f183)):=fun R x ke r h=>
 Ek (fun R=>Oc F184 (A6 FUEL) R) 0 49 (fun _=>rfl) (fun _=>rfl) (fun R=>Ub R) mixed (by
  intro R;rw [show Ap (Cf 3 (Ag Tryz.f183))=[] from by kernel_rfl];exact Bp) (T:=Hm) (fun R x kc ke=>zfe F184 (A6 FUEL) R x kc ke) FUEL R x ke r ((zdr FUEL R x ke).trans h)
theorem zp3:(Fg Dp).OK Tryz.prog:=
 Iv (Ef:=fun R=>Oc F184 (A6 FUEL) R) (fun R=>Ub R) mixed Tryz.func183 (body:=Ag Tryz.f183) (by kernel_rfl) (by kernel_rfl) (np:=0) (nt:=49) (fun _=>rfl) (fun _=>rfl) (by kernel_rfl) (res:=Tm) (by kernel_rfl) (fun _=>rfl) (fun _=>Nat.le_of_ble_eq_true rfl) (by
  intro R;rw [show Ap (Ag Tryz.f183)=[Cf 3 (Ag Tryz.f183)] from by kernel_rfl];exact (Af (H5 (e:=Bh (A6 FUEL)) rfl rfl W3) Bp)) (fun R x k=>zya F184 (A6 FUEL) Dp R x k)
abbrev V0:=(R:Type)→(List Tq3)→Int→(Int→Bool→Option R)→Option R
def zsq (F:V0):Ent:=eV 148 [(.sl Kq3),(.int .i64)] [(.int .i64),.bool] F
def e148 (Dp:Gq) (R:Type):Env R:=⟨TT,EQT,0,11,Bo [],D7 [Fg Dp] [] R,Bf [] R,[],Bd [],[]⟩
def p148 (Dp:Gq):V0:=fun R a0 a1 k=>
Dp R a0 a1 fun y1 y2=>
k y1 y2
theorem q148 (Dp:Gq):EQ (zsq (p148 Dp)) (e148 Dp) Tryz.f148 [(.tmp 4,3,false),(.tmp 5,4,false)]:=fun _ _ _=>by kernel_rfl
def F148:V0:=p148 Dp
theorem env148 (R:Type):Az Tryz.prog (e148 Dp R):=⟨tabOK,eqOK,Cj (E7 zp3 Ed) Ab,Bs,Ak⟩
theorem ok148:OKP (zsq F148):=ST.ok3 (q148 Dp) env148 Tryz.func148 (fun _=>rfl) (fun _=>rfl) (fun _=>rfl) [] trivial
abbrev zaa:Type 1:=(R:Type)→(List Tq3)→((List Tq3)→Option R)→Option R
def en150 (F:zaa):Ent:=⟨150,[(false,(.sl Kq3))],[(true,Kq3)],fun R x k=>F R x.1 (fun y1=>k (y1,()) ())⟩
def e150:Env (RT [(true,Kq3)]):=⟨TT,EQT,0,8,Bo [(2,0),(3,0)],fun _ _ _=>none,fun _ _ _=>none,[],Bd [],[]⟩
def F150:zaa:=fun R a0 k=>match decide (List.length ([]:(List Tq3))+a0.length≤1759218604441) with | true=>k a0 | false=>none
theorem ok150:(en150 F150).OK Tryz.prog:=
 H8 (e:=Kq3) e150 ⟨tabOK,eqOK,(fun f b K r h=>by cases h),Bs,Ak⟩ mixed Tryz.func150 (body:=Ag Tryz.f150) (by kernel_rfl) (by kernel_rfl) (by kernel_rfl) (res:=[(.tmp 2,29,true)]) (by kernel_rfl) rfl (by decide) (by kernel_rfl) (lim:=1759218604441) (by kernel_rfl) (fun l=>by kernel_rfl)
def zts:Go.Shelf.Ren:=⟨fun n=>match n with | 22=>149 | 29=>186 | _=>187,fun n=>match n with | 3=>3 | 4=>4 | 9=>151 | 24=>29 | _=>0,fun n=>n⟩
theorem insL149:InsL Tryz.prog zts Tryz.f149:=⟨mixed,Tryz.func149,⟨Tryz.f149.name,Tryz.f149.targs,Tryz.f149.params,Tryz.f149.resultTypes,Tryz.f149.file,Tryz.f149.tmpNames,by kernel_rfl⟩,Tryz.underlying3,Tryz.underlying4,Tryz.underlying29⟩
theorem ok149:Sb Tryz.prog 149 Kq3 1759218604441:=
 ins_ok (ρ:=zts) tabOK insL149 (by kernel_rfl) (by decide) (by kernel_rfl) (by kernel_rfl) (dd:=(Gv TT 151).get (by kernel_rfl)) (by kernel_rfl) (fo:=Tryz.f186) Tryz.func186 (by kernel_rfl) (by kernel_rfl) (by kernel_rfl) (by kernel_rfl) (by kernel_rfl) (by decide)
abbrev zmc:=(R:Type)→(List Tq3)→Int→LI→((List Tq3)→Int→Option R)→Option R
def en103 (F:zmc):Ent:=eV 103 [(.sl Kq3),(.int .i64),(.arr 32 (.int .u8))] [(.sl Kq3),(.int .i64)] F
def e103 (F147:Pv) (F148:V0) (F150:zaa) (R:Type):Env R:=⟨TT,EQT,0,32,Bo [(6,7)],Bc [zii F147,zsq F148,en150 F150] R,Bf [] R,[(149,Kq3,1759218604441)],Bd [],[]⟩
def p103 (F147:Pv) (F148:V0) (F150:zaa):zmc:=fun R a0 a1 a2 k=>
let v1:=decide (a1<0);(match v1 with
|true=>k ([]:(List Tq3)) (1:Int)
|false=>F147 R a0 fun y2=>
(match (!y2) with
|true=>k ([]:(List Tq3)) (1:Int)
|false=>F148 R a0 a1 fun y3 y4=>
(match y4 with
|true=>k ([]:(List Tq3)) (6:Int)
|false=>F150 R a0 fun y5=>
let v6:=([(a1,a2,false,(List.replicate 32 (0:Int)),())]:(List Tq3));(match (decide (0≤y3∧y3≤(y5.length:Int)∧y5.length+v6.length≤1759218604441)) with
|true=>let v7:=List.take y3.toNat y5++v6++List.drop y3.toNat y5;k v7 (0:Int)
|false=>none))))
theorem q103 (F147:Pv) (F148:V0) (F150:zaa):EQ (en103 (p103 F147 F148 F150)) (e103 F147 F148 F150) Tryz.f103 [(.tmp 6,29,false),(.tmp 7,35,false)]:=fun _ _ _=>by kernel_rfl
def F103:zmc:=p103 F147 F148 F150
theorem env103 (R:Type):Az Tryz.prog (e103 F147 F148 F150 R):=⟨tabOK,eqOK,Aq (Aa zzi (Aa ok148 (Aa ok150 Ab))),zt0 ok149,Ak⟩
theorem ok103:OKP (en103 F103):=ST.ok3 (q103 F147 F148 F150) env103 Tryz.func103 (fun _=>rfl) (fun _=>rfl) (fun _=>rfl) [] trivial
abbrev zaf:=(R:Type)→Tq24→(List Tq3)→Int→(Tq24→Int→Option R)→Option R
def zsx (F:zaf):Ent:=eV 104 [Kq24,(.sl Kq3),(.int .i64)] [Kq24,(.int .i64)] F
def p104 (F151:Z9):zaf:=fun R a0 a1 a2 k=>
let v1:=a2 !=0;(match v1 with
|true=>k ((0:Int),(List.replicate 32 (0:Int)),(List.replicate 32 (0:Int)),([]:(List Tq3)),()) a2
|false=>F151 R a1 fun y2=>
k (a0.1,a0.2.1,y2,a1,a0.2.2.2.2) (0:Int))
theorem q104 (F151:Z9):EQ (zsx (p104 F151)) (sE 0 18 [] [zsp F151] []) Tryz.f104 [(.cell 6 31,31,false),(.tmp 7,35,false)]:=fun _ _ _=>by kernel_rfl
def F104:zaf:=p104 F151
theorem ok104:OKP (zsx F104):=ST.ok0 (q104 F151) (Aa ok151 Ab) Tryz.func104
abbrev FT56:=(R:Type)→Tq24→Int→Int→LI→(Tq24→Int→Option R)→Option R
def en56 (F:FT56):Ent:=eV 56 [Kq24,(.int .i64),(.int .i64),(.arr 32 (.int .u8))] [Kq24,(.int .i64)] F
def p56 (F102:zag) (F103:zmc) (F104:zaf):FT56:=fun R a0 a1 a2 a3 k=>
F102 R a0 a1 (1:Int) fun y1=>
let v2:=y1 !=0;(match v2 with
|true=>k ((0:Int),(List.replicate 32 (0:Int)),(List.replicate 32 (0:Int)),([]:(List Tq3)),()) y1
|false=>F103 R a0.2.2.2.1 a2 a3 fun y3 y4=>
F104 R a0 y3 y4 fun y5 y6=>
k y5 y6)
theorem q56 (F102:zag) (F103:zmc) (F104:zaf):EQ (en56 (p56 F102 F103 F104)) (sE 0 34 [] [zsy F102,en103 F103,zsx F104] []) Tryz.f56 [(.cell 8 31,31,false),(.tmp 9,35,false)]:=fun _ _ _=>by kernel_rfl
def F56:FT56:=p56 F102 F103 F104
theorem ok56:OKP (en56 F56):=ST.ok0 (q56 F102 F103 F104) (Aa ok102 (Aa ok103 (Aa ok104 Ab))) Tryz.func56
abbrev Jd:Type 1:=(R:Type)→Tq31→Tq13→(Int→Tq31→Option R)→Option R
def Hg (F:Jd):EntF:=⟨55,56,[(true,Kq31),(false,Kq13)],[(false,(.int .i64))],fun R x k=>F R x.1 x.2.1 (fun y1 p1=>k (y1,()) (p1,()))⟩
def zbg:List (ResultVar×TypeId×Bool):=[(.tmp 6,35,false)]
def ziq (F56:FT56) (F100:Pj) (F101:Sm) (R:Type):Env R:=⟨TT,EQT,1,45,Bo [],Bc [en56 F56,zin F100,zsz F101] R,Bf [] R,[],Bd [],[]⟩
def zfq (F56:FT56) (F100:Pj) (F101:Sm):Jd:=fun R a0 a1 k=>
F100 R a0 a1.2.1 fun y1 p2=>
let v3:=y1 !=0;(match v3 with
|true=>k y1 p2
|false=>F101 R p2.1.1 p2.1.2.1 fun y4=>
F56 R p2.1.2.2.2.1 y4 a1.2.1 a1.2.2.2.1 fun y5 y6=>
k y6 ((p2.1.1,p2.1.2.1,p2.1.2.2.1,y5,p2.1.2.2.2.2),p2.2))
theorem q56056 (F56:FT56) (F100:Pj) (F101:Sm) (F:Jd) (R:Type) (x:AT (Hg F).ins) (k:RT (Hg F).outs→PT (Hg F).ins→Option R):
 xfun (ziq F56 F100 F101 R) (Ag Tryz.f55) zbg (avs (Hg F).ins x++[AV.fn 56]) (finK (Hg F).outs (Hg F).ins k)=zfq F56 F100 F101 R x.1 x.2.1 (fun y1 p1=>k (y1,()) (p1,())):=by kernel_rfl
def F5:Jd:=zfq F56 F100 F101
theorem zrz (R:Type):Az Tryz.prog (ziq F56 F100 F101 R):=⟨tabOK,eqOK,Aq (Aa ok56 (Aa zzn (Aa ok101 Ab))),Bs,Ak⟩
theorem zy2:(Hg F5).OK Tryz.prog:=
 Iv (Ef:=fun R=>ziq F56 F100 F101 R) (fun R=>zrz R) mixed Tryz.func55 (body:=Ag Tryz.f55) (by kernel_rfl) (by kernel_rfl) (np:=1) (nt:=45) (fun _=>rfl) (fun _=>rfl) (by kernel_rfl) (res:=zbg) (by kernel_rfl) (fun _=>rfl) (fun _=>Nat.le_of_ble_eq_true rfl) (by
  intro R;rw [show Ap (Ag Tryz.f55)=[] from by kernel_rfl];exact Bp) (fun R x k=>q56056 F56 F100 F101 F5 R x k)
abbrev FT54:=(R:Type)→Tq31→Tq13→(Int→Tq31→Option R)→Option R
def en54 (F:FT54):Ent:=eM 54 [(true,Kq31),(false,Kq13)] [(false,(.int .i64))] F
def e54 (F5:Jd) (R:Type):Env R:=⟨TT,EQT,1,8,Bo [],D7 [Hg F5] [] R,Bf [] R,[],Bd [],[]⟩
def p54 (F5:Jd):FT54:=fun R a0 a1 k=>
F5 R a0 a1 fun y1 p2=>
k y1 p2
theorem q54 (F5:Jd):EQ (en54 (p54 F5)) (e54 F5) Tryz.f54 [(.tmp 4,35,false)]:=fun _ _ _=>by kernel_rfl
def F54:FT54:=p54 F5
theorem env54 (R:Type):Az Tryz.prog (e54 F5 R):=⟨tabOK,eqOK,Cj (E7 zy2 Ed) Ab,Bs,Ak⟩
theorem ok54:OKP (en54 F54):=ST.ok3 (q54 F5) env54 Tryz.func54 (fun _=>rfl) (fun _=>rfl) (fun _=>rfl) [] trivial
abbrev zmb:=(R:Type)→(List Tq3)→Int→LI→((List Tq3)→Int→Option R)→Option R
def en105 (F:zmb):Ent:=eV 105 [(.sl Kq3),(.int .i64),(.arr 32 (.int .u8))] [(.sl Kq3),(.int .i64)] F
def p105 (F147:Pv) (F148:V0) (F150:zaa) (F152:Z8):zmb:=fun R a0 a1 a2 k=>
F147 R a0 fun y1=>
(match (!y1) with
|true=>k ([]:(List Tq3)) (1:Int)
|false=>F148 R a0 a1 fun y2 y3=>
(match (!y3) with
|true=>k ([]:(List Tq3)) (5:Int)
|false=>(match bnd y2 a0.length with
|true=>let v4:=(a0.getD y2.toNat (0,(List.replicate 32 0),false,(List.replicate 32 0),())).2.2.1;(match v4 with
|true=>k ([]:(List Tq3)) (6:Int)
|false=>F152 R a2 fun y5=>
(match bnd y2 a0.length with
|true=>let v6:=(a0.getD y2.toNat (0,(List.replicate 32 0),false,(List.replicate 32 0),())).2.1;let v7:= !(Kd.eqv (.arr 32 (.int .u8)) y5 v6);(match v7 with
|true=>k ([]:(List Tq3)) (13:Int)
|false=>F150 R a0 fun y8=>
(match bnd y2 y8.length with
|true=>let v9:=y8.set y2.toNat ((y8.getD y2.toNat (0,(List.replicate 32 0),false,(List.replicate 32 0),())).1,(y8.getD y2.toNat (0,(List.replicate 32 0),false,(List.replicate 32 0),())).2.1,true,(y8.getD y2.toNat (0,(List.replicate 32 0),false,(List.replicate 32 0),())).2.2.2);(match bnd y2 v9.length with
|true=>let v10:=v9.set y2.toNat ((v9.getD y2.toNat (0,(List.replicate 32 0),false,(List.replicate 32 0),())).1,(v9.getD y2.toNat (0,(List.replicate 32 0),false,(List.replicate 32 0),())).2.1,(v9.getD y2.toNat (0,(List.replicate 32 0),false,(List.replicate 32 0),())).2.2.1,a2,(v9.getD y2.toNat (0,(List.replicate 32 0),false,(List.replicate 32 0),())).2.2.2.2);k v10 (0:Int)
|false=>none)
|false=>none))
|false=>none))
|false=>none)))
theorem q105 (F147:Pv) (F148:V0) (F150:zaa) (F152:Z8):EQ (en105 (p105 F147 F148 F150 F152)) (sE 0 50 [] [zii F147,zsq F148,en150 F150,zso F152] []) Tryz.f105 [(.tmp 6,29,false),(.tmp 7,35,false)]:=fun _ _ _=>by kernel_rfl
def F105:zmb:=p105 F147 F148 F150 F152
theorem ok105:OKP (en105 F105):=ST.ok0 (q105 F147 F148 F150 F152) (Aa zzi (Aa ok148 (Aa ok150 (Aa ok152 Ab)))) Tryz.func105
abbrev FT58:=(R:Type)→Tq24→Int→Int→LI→(Tq24→Int→Option R)→Option R
def en58 (F:FT58):Ent:=eV 58 [Kq24,(.int .i64),(.int .i64),(.arr 32 (.int .u8))] [Kq24,(.int .i64)] F
def p58 (F102:zag) (F104:zaf) (F105:zmb):FT58:=fun R a0 a1 a2 a3 k=>
F102 R a0 a1 (2:Int) fun y1=>
let v2:=y1 !=0;(match v2 with
|true=>k ((0:Int),(List.replicate 32 (0:Int)),(List.replicate 32 (0:Int)),([]:(List Tq3)),()) y1
|false=>F105 R a0.2.2.2.1 a2 a3 fun y3 y4=>
F104 R a0 y3 y4 fun y5 y6=>
k y5 y6)
theorem q58 (F102:zag) (F104:zaf) (F105:zmb):EQ (en58 (p58 F102 F104 F105)) (sE 0 34 [] [zsy F102,zsx F104,en105 F105] []) Tryz.f58 [(.cell 8 31,31,false),(.tmp 9,35,false)]:=fun _ _ _=>by kernel_rfl
def F58:FT58:=p58 F102 F104 F105
theorem ok58:OKP (en58 F58):=ST.ok0 (q58 F102 F104 F105) (Aa ok102 (Aa ok104 (Aa ok105 Ab))) Tryz.func58
abbrev Jc:Type 1:=(R:Type)→Tq31→Tq13→(Int→Tq31→Option R)→Option R
def Hf (F:Jc):EntF:=⟨55,58,[(true,Kq31),(false,Kq13)],[(false,(.int .i64))],fun R x k=>F R x.1 x.2.1 (fun y1 p1=>k (y1,()) (p1,()))⟩
def zbf:List (ResultVar×TypeId×Bool):=[(.tmp 6,35,false)]
def zio (F58:FT58) (F100:Pj) (F101:Sm) (R:Type):Env R:=⟨TT,EQT,1,45,Bo [],Bc [en58 F58,zin F100,zsz F101] R,Bf [] R,[],Bd [],[]⟩
def zfp (F58:FT58) (F100:Pj) (F101:Sm):Jc:=fun R a0 a1 k=>
F100 R a0 a1.2.1 fun y1 p2=>
let v3:=y1 !=0;(match v3 with
|true=>k y1 p2
|false=>F101 R p2.1.1 p2.1.2.1 fun y4=>
F58 R p2.1.2.2.2.1 y4 a1.2.1 a1.2.2.2.1 fun y5 y6=>
k y6 ((p2.1.1,p2.1.2.1,p2.1.2.2.1,y5,p2.1.2.2.2.2),p2.2))
theorem q56058 (F58:FT58) (F100:Pj) (F101:Sm) (F:Jc) (R:Type) (x:AT (Hf F).ins) (k:RT (Hf F).outs→PT (Hf F).ins→Option R):
 xfun (zio F58 F100 F101 R) (Ag Tryz.f55) zbf (avs (Hf F).ins x++[AV.fn 58]) (finK (Hf F).outs (Hf F).ins k)=zfp F58 F100 F101 R x.1 x.2.1 (fun y1 p1=>k (y1,()) (p1,())):=by kernel_rfl
def F4:Jc:=zfp F58 F100 F101
theorem zry (R:Type):Az Tryz.prog (zio F58 F100 F101 R):=⟨tabOK,eqOK,Aq (Aa ok58 (Aa zzn (Aa ok101 Ab))),Bs,Ak⟩
theorem zy1:(Hf F4).OK Tryz.prog:=
 Iv (Ef:=fun R=>zio F58 F100 F101 R) (fun R=>zry R) mixed Tryz.func55 (body:=Ag Tryz.f55) (by kernel_rfl) (by kernel_rfl) (np:=1) (nt:=45) (fun _=>rfl) (fun _=>rfl) (by kernel_rfl) (res:=zbf) (by kernel_rfl) (fun _=>rfl) (fun _=>Nat.le_of_ble_eq_true rfl) (by
  intro R;rw [show Ap (Ag Tryz.f55)=[] from by kernel_rfl];exact Bp) (fun R x k=>q56058 F58 F100 F101 F4 R x k)
abbrev FT57:=(R:Type)→Tq31→Tq13→(Int→Tq31→Option R)→Option R
def en57 (F:FT57):Ent:=eM 57 [(true,Kq31),(false,Kq13)] [(false,(.int .i64))] F
def e57 (F4:Jc) (R:Type):Env R:=⟨TT,EQT,1,8,Bo [],D7 [Hf F4] [] R,Bf [] R,[],Bd [],[]⟩
def p57 (F4:Jc):FT57:=fun R a0 a1 k=>
F4 R a0 a1 fun y1 p2=>
k y1 p2
theorem q57 (F4:Jc):EQ (en57 (p57 F4)) (e57 F4) Tryz.f57 [(.tmp 4,35,false)]:=fun _ _ _=>by kernel_rfl
def F57:FT57:=p57 F4
theorem env57 (R:Type):Az Tryz.prog (e57 F4 R):=⟨tabOK,eqOK,Cj (E7 zy1 Ed) Ab,Bs,Ak⟩
theorem ok57:OKP (en57 F57):=ST.ok3 (q57 F4) env57 Tryz.func57 (fun _=>rfl) (fun _=>rfl) (fun _=>rfl) [] trivial
abbrev zma:=(R:Type)→Tq21→Int→(Int→Bool→Option R)→Option R
def en106 (F:zma):Ent:=eV 106 [Kq21,(.int .i64)] [(.int .i64),.bool] F
def p106 (F145:zac):zma:=fun R a0 a1 k=>
F145 R a0 a1 fun y1=>
(match (!y1) with
|true=>k (0:Int) false
|false=>let v2:=IntKind.i64.wrap (a1+1);(match (!(a0.1==0)) with
|true=>let v3:=Int.tmod v2 a0.1;let v4:=v3==0;k v3 v4
|false=>none))
theorem q106 (F145:zac):EQ (en106 (p106 F145)) (sE 0 19 [] [zss F145] []) Tryz.f106 [(.tmp 4,3,false),(.tmp 5,4,false)]:=fun _ _ _=>by kernel_rfl
def F106:zma:=p106 F145
theorem ok106:OKP (en106 F106):=ST.ok0 (q106 F145) (Aa ok145 Ab) Tryz.func106
abbrev zlo:=(R:Type)→LI→Int→LI→(LI→Option R)→Option R
def en190 (F:zlo):Ent:=eV 190 [(.arr 32 (.int .u8)),(.int .u64),(.arr 32 (.int .u8))] [(.arr 32 (.int .u8))] F
def p190 (F189:Sh) (F203:Kf):zlo:=fun R a0 a1 a2 k=>
F203 R a1 fun y1=>
let v2:=([(List.take 32 (List.drop 0 a0)),(List.take 8 (List.drop 0 y1)),(List.take 32 (List.drop 0 a2))]:(List LI));F189 R v2 fun y3=>
k y3
theorem q190 (F189:Sh) (F203:Kf):EQ (en190 (p190 F189 F203)) (sE 0 15 [] [zif F189,Yh F203] []) Tryz.f190 [(.cell 6 25,25,false)]:=fun _ _ _=>by kernel_rfl
def F190:zlo:=p190 F189 F203
theorem ok190:OKP (en190 F190):=ST.ok0 (q190 F189 F203) (Aa zzc (Aa zgr Ab)) Tryz.func190
abbrev zln:=(R:Type)→(List Tq3)→(LI→Option R)→Option R
def en191 (F:zln):Ent:=eV 191 [(.sl Kq3)] [(.sl (.int .i64))] F
abbrev zn3 (Z:Type):=(List Tq3)→Int→Int→LI→Z
abbrev zws (R:Type):=(LI→Option R)→Option R
abbrev Lr:=(R:Type)→zn3 (zws R)
def Xv (L:Lr):LEnt:=lM 2 [.fix 2 (.own 0 0),.val 5 (.sl Kq3),.val 6 (.int .i64),.val 7 (.int .i64),.row 0 (.int .i64) false] 1 [(.exit 0,[.fix 2 (.own 0 0),.row 0 (.int .i64) false])] L
def e191 (L2:Lr):=sE 0 21 [(0,0)] [] [Xv L2]
def zga (R:Type):zn3 (zn3 (Option R)→zws R):=fun x1 x2 x3 x4 kc k0=>
let v5:=decide (x3<x2);(match v5 with
|true=>(match bnd x3 x1.length with
|true=>let v6:=x1.getD x3.toNat (0,(List.replicate 32 0),false,(List.replicate 32 0),());let v7:= !v6.2.2.1;(match v7 with
|true=>let v8:=([v6.1]:LI);(match (decide (x4.length+v8.length≤17592186044416)) with
|true=>let v9:=x4++v8;let v10:=IntKind.i64.wrap (x3+1);kc x1 x2 v10 v9
|false=>none)
|false=>let v11:=IntKind.i64.wrap (x3+1);kc x1 x2 v11 x4)
|false=>none)
|false=>k0 x4)
theorem q191_2 (L2:Lr):LEQ (Xv L2) (e191 L2) Tryz.f191 zga:=fun _ _ _ _=>by kernel_rfl
def O8:Nat→Lr
 | 0=>fun _ _ _ _ _ _=>none
 | n+1=>fun R x1 x2 x3 x4 k0=>zga R x1 x2 x3 x4 (fun x1 x2 x3 x4=>O8 n R x1 x2 x3 x4 k0) k0
def p191 (L2:Lr):zln:=fun R a0 k=>
let v1:=(a0.length:Int);L2 R a0 v1 (0:Int) ([]:LI) (fun x2=>
k x2)
theorem q191 (L2:Lr):EQ (en191 (p191 L2)) (e191 L2) Tryz.f191 [(.tmp 2,32,false)]:=fun _ _ _=>by kernel_rfl
def F191:zln:=p191 (O8 FUEL)
theorem zq1:LKP (Xv (O8 FUEL)) 0 21 2 Tryz.f191:=ST.lok (q191_2 (O8 FUEL)) Ab [] trivial
theorem ok191:OKP (en191 F191):=ST.ok1 (q191 (O8 FUEL)) Ab Tryz.func191 [2] ⟨⟨_,rfl,zq1⟩,trivial⟩
abbrev zlz:=(R:Type)→Tq24→(Tq24→Tq37→LI→Int→Option R)→Option R
def en153 (F:zlz):Ent:=eV 153 [Kq24] [Kq24,Kq37,(.sl (.int .i64)),(.int .i64)] F
def p153 (F146:zab) (F190:zlo) (F191:zln):zlz:=fun R a0 k=>
F146 R a0 fun y1=>
(match (!y1) with
|true=>k ((0:Int),(List.replicate 32 (0:Int)),(List.replicate 32 (0:Int)),([]:(List Tq3)),()) ((0:Int),(List.replicate 32 (0:Int)),(List.replicate 32 (0:Int)),(List.replicate 32 (0:Int)),()) ([]:LI) (1:Int)
|false=>let v2:=a0.1==18446744073709551615;(match v2 with
|true=>k ((0:Int),(List.replicate 32 (0:Int)),(List.replicate 32 (0:Int)),([]:(List Tq3)),()) ((0:Int),(List.replicate 32 (0:Int)),(List.replicate 32 (0:Int)),(List.replicate 32 (0:Int)),()) ([]:LI) (3:Int)
|false=>F190 R a0.2.1 a0.1 a0.2.2.1 fun y3=>
let v4:=IntKind.u64.wrap (a0.1+1);F191 R a0.2.2.2.1 fun y5=>
k (v4,y3,(List.replicate 32 (0:Int)),([]:(List Tq3)),()) (a0.1,a0.2.1,a0.2.2.1,y3,()) y5 (0:Int)))
theorem q153 (F146:zab) (F190:zlo) (F191:zln):EQ (en153 (p153 F146 F190 F191)) (sE 0 43 [] [zsr F146,en190 F190,en191 F191] []) Tryz.f153 [(.cell 2 31,31,false),(.cell 3 122,122,false),(.tmp 4,32,false),(.tmp 5,35,false)]:=fun _ _ _=>by kernel_rfl
def F153:zlz:=p153 F146 F190 F191
theorem ok153:OKP (en153 F153):=ST.ok0 (q153 F146 F190 F191) (Aa ok146 (Aa ok190 (Aa ok191 Ab))) Tryz.func153
abbrev zly:=(R:Type)→(List Tq5)→((List Tq5)→Option R)→Option R
def en154 (F:zly):Ent:=eV 154 [(.sl Kq5)] [(.sl Kq5)] F
abbrev zoe (Z:Type):=Int→Int→(List Tq5)→Z
abbrev zw3 (R:Type):=((List Tq5)→Option R)→Option R
abbrev Lt:=(R:Type)→zoe (zw3 R)
def X1 (L:Lt):LEnt:=lM 3 [.fix 3 (.own 0 0),.val 8 (.int .i64),.val 9 (.int .i64),.row 0 Kq5 false] 1 [(.exit 0,[.fix 3 (.own 0 0),.row 0 Kq5 false])] L
def e154 (F181:Vw) (L3:Lt):=sE 0 23 [] [en181 F181] [X1 L3]
def zgf (R:Type):zoe (zoe (Option R)→zw3 R):=fun x1 x2 x3 kc k0=>
let v4:=decide (x2<x1);(match v4 with
|true=>(match bnd x2 x3.length with
|true=>let v5:=(x3.getD x2.toNat ((List.replicate 32 0),0,0,())).2.2.1;(match bnd x2 x3.length with
|true=>let v6:=x3.set x2.toNat ((x3.getD x2.toNat ((List.replicate 32 0),0,0,())).1,v5,(x3.getD x2.toNat ((List.replicate 32 0),0,0,())).2.2);let v7:=IntKind.i64.wrap (x2+1);kc x1 v7 v6
|false=>none)
|false=>none)
|false=>k0 x3)
theorem q154_3 (F181:Vw) (L3:Lt):LEQ (X1 L3) (e154 F181 L3) Tryz.f154 zgf:=fun _ _ _ _=>by kernel_rfl
def Pa:Nat→Lt
 | 0=>fun _ _ _ _ _=>none
 | n+1=>fun R x1 x2 x3 k0=>zgf R x1 x2 x3 (fun x1 x2 x3=>Pa n R x1 x2 x3 k0) k0
def p154 (F181:Vw) (L3:Lt):zly:=fun R a0 k=>
F181 R a0 fun y1=>
let v2:=(y1.length:Int);L3 R v2 (0:Int) y1 (fun x3=>
k x3)
theorem q154 (F181:Vw) (L3:Lt):EQ (en154 (p154 F181 L3)) (e154 F181 L3) Tryz.f154 [(.tmp 2,27,false)]:=fun _ _ _=>by kernel_rfl
def F154:zly:=p154 F181 (Pa FUEL)
theorem zq7:LKP (X1 (Pa FUEL)) 0 23 3 Tryz.f154:=ST.lok (q154_3 F181 (Pa FUEL)) (Aa zzd Ab) [] trivial
theorem ok154:OKP (en154 F154):=ST.ok1 (q154 F181 (Pa FUEL)) (Aa zzd Ab) Tryz.func154 [3] ⟨⟨_,rfl,zq7⟩,trivial⟩
abbrev zth:Type 1:=(R:Type)→LI→(LI→Option R)→Option R
def en155 (F:zth):Ent:=⟨155,[(false,(.sl (.int .i64)))],[(true,(.int .i64))],fun R x k=>F R x.1 (fun y1=>k (y1,()) ())⟩
def e155:Env (RT [(true,(.int .i64))]):=⟨TT,EQT,0,8,Bo [(2,0),(3,0)],fun _ _ _=>none,fun _ _ _=>none,[],Bd [],[]⟩
def F155:zth:=fun R a0 k=>match decide (List.length ([]:LI)+a0.length≤17592186044416) with | true=>k a0 | false=>none
theorem ok155:(en155 F155).OK Tryz.prog:=
 H8 (e:=(.int .i64)) e155 ⟨tabOK,eqOK,(fun f b K r h=>by cases h),Bs,Ak⟩ mixed Tryz.func155 (body:=Ag Tryz.f155) (by kernel_rfl) (by kernel_rfl) (by kernel_rfl) (res:=[(.tmp 2,32,true)]) (by kernel_rfl) rfl (by decide) (by kernel_rfl) (lim:=17592186044416) (by kernel_rfl) (fun l=>by kernel_rfl)
abbrev Pi:=(R:Type)→Tq10→Int→(Bool→Option R)→Option R
def zih (F:Pi):Ent:=eV 159 [Kq10,(.int .i64)] [.bool] F
def p159:Pi:=fun R a0 a1 k=>
let v1:=decide (a1≥0);(match v1 with
|true=>let v2:=decide (a1<1024);(match v2 with
|true=>let v3:=decide (a0.2.1>0);(match v3 with
|true=>let v4:=decide (a0.2.1≤64);k v4
|false=>k false)
|false=>k false)
|false=>k false)
theorem q159:EQ (zih p159) (sE 0 21 [] [] []) Tryz.f159 [(.tmp 4,4,false)]:=fun _ _ _=>by kernel_rfl
def F159:Pi:=p159
theorem zp4:OKP (zih F159):=ST.ok0 q159 Ab Tryz.func159
abbrev Ke:Type 1:=(R:Type)→LI→(LI→Option R)→Option R
def zsk (F:Ke):Ent:=⟨228,[(false,(.sl (.int .u64)))],[(true,(.int .u64))],fun R x k=>F R x.1 (fun y1=>k (y1,()) ())⟩
def e228:Env (RT [(true,(.int .u64))]):=⟨TT,EQT,0,8,Bo [(2,0),(3,0)],fun _ _ _=>none,fun _ _ _=>none,[],Bd [],[]⟩
def F228:Ke:=fun R a0 k=>match decide (List.length ([]:LI)+a0.length≤17592186044416) with | true=>k a0 | false=>none
theorem zdh:(zsk F228).OK Tryz.prog:=
 H8 (e:=(.int .u64)) e228 ⟨tabOK,eqOK,(fun f b K r h=>by cases h),Bs,Ak⟩ mixed Tryz.func228 (body:=Ag Tryz.f228) (by kernel_rfl) (by kernel_rfl) (by kernel_rfl) (res:=[(.tmp 2,63,true)]) (by kernel_rfl) rfl (by decide) (by kernel_rfl) (lim:=17592186044416) (by kernel_rfl) (fun l=>by kernel_rfl)
abbrev Gm:=(R:Type)→Int→(Int→Option R)→Option R
def zd2 (F:Gm):Ent:=eV 229 [(.int .i64)] [(.int .i64)] F
def p229:Gm:=fun R a0 k=>
let v1:=IntKind.i64.wrap (0 - a0);let v2:=iand .i64 a0 v1;k v2
theorem q229:EQ (zd2 p229) (sE 0 7 [] [] []) Tryz.f229 [(.tmp 2,3,false)]:=fun _ _ _=>by kernel_rfl
def F229:Gm:=p229
theorem Tw:OKP (zd2 F229):=ST.ok0 q229 Ab Tryz.func229
abbrev Sg:=(R:Type)→LI→((LI×Unit)→Int→Option R)→Option R
def zsm (F:Sg):Ent:=eV 192 [(.sl (.int .u64))] [(.pair (.sl (.int .u64)) .unit),(.int .i64)] F
abbrev zn2 (Z:Type):=Int→(LI×Unit)→LI→Z
abbrev zwr (R:Type):=((LI×Unit)→LI→Option R)→Option R
abbrev Lq:=(R:Type)→zn2 (zwr R)
def Xu (L:Lq):LEnt:=lM 8 [.fix 2 (.ptr 0 [] (.pair (.sl (.int .u64)) .unit)),.fix 6 (.own 1 0),.val 7 (.int .i64),.var 0 (.pair (.sl (.int .u64)) .unit) false,.row 1 (.int .u64) false] 2 [(.exit 0,[.fix 2 (.ptr 0 [] (.pair (.sl (.int .u64)) .unit)),.fix 6 (.own 1 0),.var 0 (.pair (.sl (.int .u64)) .unit) false,.row 1 (.int .u64) false])] L
def e192 (F139:Je) (F228:Ke) (F229:Gm) (L8:Lq):=sE 0 51 [] [zd3 F139,zsk F228,zd2 F229] [Xu L8]
def zf9 (F229:Gm) (R:Type):zn2 (zn2 (Option R)→zwr R):=fun x1 x2 x3 kc k0=>
let v4:=(x3.length:Int);let v5:=decide (x1≤v4);(match v5 with
|true=>F229 R x1 fun y6=>
let v7:=IntKind.i64.wrap (x1+y6);let v8:=(x3.length:Int);let v9:=decide (v7≤v8);(match v9 with
|true=>let v10:=IntKind.i64.wrap (v7 - 1);(match bnd v10 x3.length with
|true=>let v11:=x3.getD v10.toNat 0;let v12:=IntKind.i64.wrap (x1 - 1);(match bnd v12 x3.length with
|true=>let v13:=x3.getD v12.toNat 0;let v14:=IntKind.u64.wrap (v11+v13);(match bnd v10 x3.length with
|true=>let v15:=x3.set v10.toNat v14;let v16:=IntKind.i64.wrap (x1+1);kc v16 x2 v15
|false=>none)
|false=>none)
|false=>none)
|false=>let v17:=IntKind.i64.wrap (x1+1);kc v17 x2 x3)
|false=>k0 x2 x3)
theorem q192_8 (F139:Je) (F228:Ke) (F229:Gm) (L8:Lq):LEQ (Xu L8) (e192 F139 F228 F229 L8) Tryz.f192 (zf9 F229):=fun _ _ _ _=>by kernel_rfl
def O7:Nat→Lq
 | 0=>fun _ _ _ _ _=>none
 | n+1=>fun R x1 x2 x3 k0=>zf9 F229 R x1 x2 x3 (fun x1 x2 x3=>O7 n R x1 x2 x3 k0) k0
def p192 (F139:Je) (F228:Ke) (L8:Lq):Sg:=fun R a0 k=>
let v1:=(a0.length:Int);let v2:=decide (v1>1048576);(match v2 with
|true=>k (([]:LI),()) (14:Int)
|false=>F139 R a0 fun y3 y4=>
(match (!y4) with
|true=>k (([]:LI),()) (11:Int)
|false=>F228 R a0 fun y5=>
L8 R (1:Int) (([]:LI),()) y5 (fun x6 x7=>
k (x7,()) (0:Int))))
theorem q192 (F139:Je) (F228:Ke) (F229:Gm) (L8:Lq):EQ (zsm (p192 F139 F228 L8)) (e192 F139 F228 F229 L8) Tryz.f192 [(.cell 2 87,87,false),(.tmp 3,35,false)]:=fun _ _ _=>by kernel_rfl
def F192:Sg:=p192 F139 F228 (O7 FUEL)
theorem zq0:LKP (Xu (O7 FUEL)) 0 51 8 Tryz.f192:=ST.lok (q192_8 F139 F228 F229 (O7 FUEL)) (Aa zgt (Aa zdh (Aa Tw Ab))) [] trivial
theorem zzb:OKP (zsm F192):=ST.ok1 (q192 F139 F228 F229 (O7 FUEL)) (Aa zgt (Aa zdh (Aa Tw Ab))) Tryz.func192 [8] ⟨⟨_,rfl,zq0⟩,trivial⟩
abbrev zlj:=(R:Type)→Int→Int→(Int→Option R)→Option R
def en197 (F:zlj):Ent:=eV 197 [(.int .u32),(.int .u32)] [(.int .u64)] F
def p197:zlj:=fun R a0 a1 k=>
let v1:=IntKind.u64.wrap a0;let v2:=ishl .u64 v1 (32:Int);let v3:=IntKind.u64.wrap a1;let v4:=ior .u64 v2 v3;k v4
theorem q197:EQ (en197 p197) (sE 0 11 [] [] []) Tryz.f197 [(.tmp 4,28,false)]:=fun _ _ _=>by kernel_rfl
def F197:zlj:=p197
theorem ok197:OKP (en197 F197):=ST.ok0 q197 Ab Tryz.func197
abbrev zlk:=(R:Type)→LI→Int→(Tq40→Option R)→Option R
def en196 (F:zlk):Ent:=eV 196 [(.arr 32 (.int .u8)),(.int .u64)] [Kq40] F
def p196:zlk:=fun R a0 a1 k=>
k ((2:Int),([]:LI),(0:Int),a0,a1,(0:Int),())
theorem q196:EQ (en196 p196) (sE 0 8 [] [] []) Tryz.f196 [(.cell 4 132,132,false)]:=fun _ _ _=>by kernel_rfl
def F196:zlk:=p196
theorem ok196:OKP (en196 F196):=ST.ok0 q196 Ab Tryz.func196
abbrev Si:=(R:Type)→Tq10→Int→Int→(Tq40→Option R)→Option R
def zig (F:Si):Ent:=eV 161 [Kq10,(.int .u32),(.int .i64)] [Kq40] F
def p161 (F196:zlk) (F197:zlj):Si:=fun R a0 a1 a2 k=>
let v1:=IntKind.u32.wrap a2;F197 R a1 v1 fun y2=>
F196 R a0.1 y2 fun y3=>
k y3
theorem q161 (F196:zlk) (F197:zlj):EQ (zig (p161 F196 F197)) (sE 0 14 [] [en196 F196,en197 F197] []) Tryz.f161 [(.cell 6 132,132,false)]:=fun _ _ _=>by kernel_rfl
def F161:Si:=p161 F196 F197
theorem zzh:OKP (zig F161):=ST.ok0 (q161 F196 F197) (Aa ok196 (Aa ok197 Ab)) Tryz.func161
abbrev Mc:=(R:Type)→(LI×Unit)→(Int→Option R)→Option R
def zia (F:Mc):Ent:=eV 275 [(.pair (.sl (.int .u64)) .unit)] [(.int .i64)] F
def p275:Mc:=fun R a0 k=>
let v1:=(a0.1.length:Int);k v1
theorem q275:EQ (zia p275) (sE 0 6 [] [] []) Tryz.f275 [(.tmp 2,3,false)]:=fun _ _ _=>by kernel_rfl
def F275:Mc:=p275
theorem zgp:OKP (zia F275):=ST.ok0 q275 Ab Tryz.func275
abbrev Zl:=(R:Type)→(LI×Unit)→Int→(Int→Option R)→Option R
def zsd (F:Zl):Ent:=eV 274 [(.pair (.sl (.int .u64)) .unit),(.int .i64)] [(.int .u64)] F
abbrev znc (Z:Type):=Int→Int→(LI×Unit)→Z
abbrev zv1 (R:Type):=(Int→Option R)→Option R
abbrev La:=(R:Type)→znc (zv1 R)
def W9 (L:La):LEnt:=lM 1 [.val 1 (.int .i64),.fix 2 (.ptr 0 [] (.pair (.sl (.int .u64)) .unit)),.val 4 (.int .u64),.var 0 (.pair (.sl (.int .u64)) .unit) false] 1 [(.exit 0,[.val 4 (.int .u64)])] L
def e274 (F229:Gm) (L1:La):=sE 0 20 [] [zd2 F229] [W9 L1]
def zfs (F229:Gm) (R:Type):znc (znc (Option R)→zv1 R):=fun x1 x2 x3 kc k0=>
let v4:=decide (x1>0);(match v4 with
|true=>let v5:=IntKind.i64.wrap (x1 - 1);(match bnd v5 x3.1.length with
|true=>let v6:=x3.1.getD v5.toNat 0;let v7:=IntKind.u64.wrap (x2+v6);F229 R x1 fun y8=>
let v9:=IntKind.i64.wrap (x1 - y8);kc v9 v7 x3
|false=>none)
|false=>k0 x2)
theorem q274_1 (F229:Gm) (L1:La):LEQ (W9 L1) (e274 F229 L1) Tryz.f274 (zfs F229):=fun _ _ _ _=>by kernel_rfl
def Ox:Nat→La
 | 0=>fun _ _ _ _ _=>none
 | n+1=>fun R x1 x2 x3 k0=>zfs F229 R x1 x2 x3 (fun x1 x2 x3=>Ox n R x1 x2 x3 k0) k0
def p274 (L1:La):Zl:=fun R a0 a1 k=>
L1 R a1 (0:Int) a0 (fun x1=>
k x1)
theorem q274 (F229:Gm) (L1:La):EQ (zsd (p274 L1)) (e274 F229 L1) Tryz.f274 [(.tmp 4,28,false)]:=fun _ _ _=>by kernel_rfl
def F274:Zl:=p274 (Ox FUEL)
theorem zqf:LKP (W9 (Ox FUEL)) 0 20 1 Tryz.f274:=ST.lok (q274_1 F229 (Ox FUEL)) (Aa Tw Ab) [] trivial
theorem ok274:OKP (zsd F274):=ST.ok1 (q274 F229 (Ox FUEL)) (Aa Tw Ab) Tryz.func274 [1] ⟨⟨_,rfl,zqf⟩,trivial⟩
abbrev Kc:=(R:Type)→(LI×Unit)→(Int→Option R)→Option R
def zib (F:Kc):Ent:=eV 256 [(.pair (.sl (.int .u64)) .unit)] [(.int .u64)] F
def p256 (F274:Zl) (F275:Mc):Kc:=fun R a0 k=>
F275 R a0 fun y1=>
F274 R a0 y1 fun y2=>
k y2
theorem q256 (F274:Zl) (F275:Mc):EQ (zib (p256 F274 F275)) (sE 0 7 [] [zsd F274,zia F275] []) Tryz.f256 [(.tmp 2,28,false)]:=fun _ _ _=>by kernel_rfl
def F256:Kc:=p256 F274 F275
theorem zdg:OKP (zib F256):=ST.ok0 (q256 F274 F275) (Aa ok274 (Aa zgp Ab)) Tryz.func256
abbrev Zj:=(R:Type)→Tq40→(Int→Bool→Option R)→Option R
def zsc (F:Zj):Ent:=eV 281 [Kq40] [(.int .u64),.bool] F
def p281:Zj:=fun R a0 k=>
let v1:=a0.1==1;(match v1 with
|true=>let v2:=(a0.2.1.length:Int);let v3:=IntKind.u64.wrap v2;let v4:=IntKind.u64.wrap (v3*8);let v5:=decide (a0.2.2.1≤v4);k a0.2.2.1 v5
|false=>let v6:=a0.1==2;(match v6 with
|true=>k (4611686018427387904:Int) true
|false=>k (0:Int) false))
theorem q281:EQ (zsc p281) (sE 0 20 [] [] []) Tryz.f281 [(.tmp 2,28,false),(.tmp 3,4,false)]:=fun _ _ _=>by kernel_rfl
def F281:Zj:=p281
theorem ok281:OKP (zsc F281):=ST.ok0 q281 Ab Tryz.func281
abbrev Md:=(R:Type)→Tq40→(Bool→Option R)→Option R
def zd0 (F:Md):Ent:=eV 266 [Kq40] [.bool] F
def p266 (F281:Zj):Md:=fun R a0 k=>
F281 R a0 fun y1 y2=>
(match y2 with
|true=>let v3:=decide (a0.2.2.2.2.2.1≤y1);k v3
|false=>k false)
theorem q266 (F281:Zj):EQ (zd0 (p266 F281)) (sE 0 17 [] [zsc F281] []) Tryz.f266 [(.tmp 2,4,false)]:=fun _ _ _=>by kernel_rfl
def F266:Md:=p266 F281
theorem zgq:OKP (zd0 F266):=ST.ok0 (q266 F281) (Aa ok281 Ab) Tryz.func266
abbrev Zr:=(R:Type)→Tq40→Int→Int→(Bool→Option R)→Option R
def en262 (F:Zr):Ent:=eV 262 [Kq40,(.int .u64),(.int .i64)] [.bool] F
def p262 (F266:Md):Zr:=fun R a0 a1 a2 k=>
F266 R a0 fun y1=>
(match y1 with
|true=>let v2:=decide (a1>0);(match v2 with
|true=>let v3:=decide (a1<9223372036854775808);(match v3 with
|true=>let v4:=decide (a2>0);(match v4 with
|true=>let v5:=decide (a2≤64);k v5
|false=>k false)
|false=>k false)
|false=>k false)
|false=>k false)
theorem q262 (F266:Md):EQ (en262 (p262 F266)) (sE 0 25 [] [zd0 F266] []) Tryz.f262 [(.tmp 6,4,false)]:=fun _ _ _=>by kernel_rfl
def F262:Zr:=p262 F266
theorem ok262:OKP (en262 F262):=ST.ok0 (q262 F266) (Aa zgq Ab) Tryz.func262
abbrev zk2:=(R:Type)→Int→(Int→Option R)→Option R
def en279 (F:zk2):Ent:=eV 279 [(.int .u64)] [(.int .i64)] F
abbrev znb (Z:Type):=Int→Int→Z
abbrev zv0 (R:Type):=(Int→Option R)→Option R
abbrev K9:=(R:Type)→znb (zv0 R)
def W8 (L:K9):LEnt:=lM 1 [.val 0 (.int .u64),.val 2 (.int .i64)] 0 [(.exit 0,[.val 2 (.int .i64)])] L
def e279 (L1:K9):=sE 0 10 [] [] [W8 L1]
def zbl (R:Type):znb (znb (Option R)→zv0 R):=fun x1 x2 kc k0=>
let v3:=x1 !=0;(match v3 with
|true=>let v4:=IntKind.i64.wrap (x2+1);let v5:=ishr .u64 x1 (1:Int);kc v5 v4
|false=>k0 x2)
theorem q279_1 (L1:K9):LEQ (W8 L1) (e279 L1) Tryz.f279 zbl:=fun _ _ _ _=>by kernel_rfl
def Ms:Nat→K9
 | 0=>fun _ _ _ _=>none
 | n+1=>fun R x1 x2 k0=>zbl R x1 x2 (fun x1 x2=>Ms n R x1 x2 k0) k0
def p279 (L1:K9):zk2:=fun R a0 k=>
L1 R a0 (0:Int) (fun x1=>
k x1)
theorem q279 (L1:K9):EQ (en279 (p279 L1)) (e279 L1) Tryz.f279 [(.tmp 2,3,false)]:=fun _ _ _=>by kernel_rfl
def F279:zk2:=p279 (Ms FUEL)
theorem zqe:LKP (W8 (Ms FUEL)) 0 10 1 Tryz.f279:=ST.lok (q279_1 (Ms FUEL)) Ab [] trivial
theorem ok279:OKP (en279 F279):=ST.ok1 (q279 (Ms FUEL)) Ab Tryz.func279 [1] ⟨⟨_,rfl,zqe⟩,trivial⟩
abbrev Zp:=(R:Type)→Int→(Int→Option R)→Option R
def en264 (F:Zp):Ent:=eV 264 [(.int .u64)] [(.int .i64)] F
def p264 (F279:zk2):Zp:=fun R a0 k=>
let v1:=if (1:Int)>a0 then (1:Int) else a0;let v2:=IntKind.u64.wrap (v1 - 1);F279 R v2 fun y3=>
k y3
theorem q264 (F279:zk2):EQ (en264 (p264 F279)) (sE 0 7 [] [en279 F279] []) Tryz.f264 [(.tmp 2,3,false)]:=fun _ _ _=>by kernel_rfl
def F264:Zp:=p264 F279
theorem ok264:OKP (en264 F264):=ST.ok0 (q264 F279) (Aa ok279 Ab) Tryz.func264
abbrev Zk:=(R:Type)→Tq40→(Int→Option R)→Option R
def en277 (F:Zk):Ent:=eV 277 [Kq40] [(.int .u64)] F
def p277 (F266:Md) (F281:Zj):Zk:=fun R a0 k=>
F266 R a0 fun y1=>
(match (!y1) with
|true=>k (0:Int)
|false=>F281 R a0 fun y2 y3=>
let v4:=IntKind.u64.wrap (y2 - a0.2.2.2.2.2.1);k v4)
theorem q277 (F266:Md) (F281:Zj):EQ (en277 (p277 F266 F281)) (sE 0 17 [] [zd0 F266,zsc F281] []) Tryz.f277 [(.tmp 2,28,false)]:=fun _ _ _=>by kernel_rfl
def F277:Zk:=p277 F266 F281
theorem ok277:OKP (en277 F277):=ST.ok0 (q277 F266 F281) (Aa zgq (Aa ok281 Ab)) Tryz.func277
abbrev zky:=(R:Type)→LI→Int→Int→(LI→Option R)→Option R
def en290 (F:zky):Ent:=eV 290 [(.arr 32 (.int .u8)),(.int .u64),(.int .u64)] [(.arr 32 (.int .u8))] F
def p290 (F189:Sh) (F203:Kf):zky:=fun R a0 a1 a2 k=>
F203 R a1 fun y1=>
F203 R a2 fun y2=>
let v3:=([(List.take 32 (List.drop 0 a0)),(List.take 8 (List.drop 0 y1)),(List.take 8 (List.drop 0 y2))]:(List LI));F189 R v3 fun y4=>
k y4
theorem q290 (F189:Sh) (F203:Kf):EQ (en290 (p290 F189 F203)) (sE 0 18 [] [zif F189,Yh F203] []) Tryz.f290 [(.cell 6 25,25,false)]:=fun _ _ _=>by kernel_rfl
def F290:zky:=p290 F189 F203
theorem ok290:OKP (en290 F290):=ST.ok0 (q290 F189 F203) (Aa zzc (Aa zgr Ab)) Tryz.func290
abbrev FT285:=(R:Type)→Tq43→Int→(Int→Tq43→Option R)→Option R
def en285 (F:FT285):Ent:=eM 285 [(true,Kq43),(false,(.int .u64))] [(false,(.int .u8))] F
def p285 (F290:zky):FT285:=fun R a0 a1 k=>
let v1:=a0.1.1==1;(match v1 with
|true=>(match bnd a1 a0.1.2.1.length with
|true=>let v2:=a0.1.2.1.getD a1.toNat 0;k v2 a0
|false=>none)
|false=>let v3:=IntKind.u64.wrap (Int.tdiv a1 (32:Int));let v4:= !a0.2.2.2.1;(match v4 with
|true=>F290 R a0.1.2.2.2.1 a0.1.2.2.2.2.1 v3 fun y5=>
let v6:=Int.tmod a1 (32:Int);(match (bnd v6 (32:Int)) with
|true=>let v7:=y5.getD v6.toNat 0;k v7 (a0.1,y5,v3,true,a0.2.2.2.2)
|false=>none)
|false=>let v8:=v3 !=a0.2.2.1;(match v8 with
|true=>F290 R a0.1.2.2.2.1 a0.1.2.2.2.2.1 v3 fun y9=>
let v10:=Int.tmod a1 (32:Int);(match (bnd v10 (32:Int)) with
|true=>let v11:=y9.getD v10.toNat 0;k v11 (a0.1,y9,v3,true,a0.2.2.2.2)
|false=>none)
|false=>let v12:=Int.tmod a1 (32:Int);(match (bnd v12 (32:Int)) with
|true=>let v13:=a0.2.1.getD v12.toNat 0;k v13 a0
|false=>none))))
theorem q285 (F290:zky):EQ (en285 (p285 F290)) (sE 1 67 [] [en290 F290] []) Tryz.f285 [(.tmp 4,5,false)]:=fun _ _ _=>by kernel_rfl
def F285:FT285:=p285 F290
theorem ok285:OKP (en285 F285):=ST.ok0 (q285 F290) (Aa ok290 Ab) Tryz.func285
abbrev zeh:Type 1:=(R:Type)→Tq43→(Int→Tq43→Option R)→Option R
abbrev KS278:Kd:=Kq40
abbrev U1:Kd:=Kq42
abbrev K278:Kd:=.pair KS278 U1
def en278 (F:zeh):Ent:=⟨278,[(true,K278)],[(false,(.int .u64))],fun R x k=>F R x.1 (fun y1 p1=>k (y1,()) (p1,()))⟩
def ztt:List (ResultVar×TypeId×Bool):=[(.tmp 2,28,false)]
def u278:(R:Type)→K278.T→Int→U1.T→(Int→K278.T→Option R)→Option R:=fun R a0 y2 q k=>
let v6:=ishr .u8 y2 (IntKind.u64.wrap ((7:Int) - (Int.tmod a0.1.2.2.2.2.2.1 (8:Int))));let v7:=IntKind.u64.wrap (a0.1.2.2.2.2.2.1+1);let v8:=iand .u8 v6 (1:Int);let v9:=IntKind.u64.wrap v8;k v9 ((a0.1.1,a0.1.2.1,a0.1.2.2.1,a0.1.2.2.2.1,a0.1.2.2.2.2.1,v7,a0.1.2.2.2.2.2.2),q)
def F278:zeh:=fun R a0 k=>
F285 R a0 (IntKind.u64.wrap (Int.tdiv a0.1.2.2.2.2.2.1 (8:Int))) fun y2 p3=>
match decide (0≤IntKind.u64.wrap ((7:Int) - (Int.tmod a0.1.2.2.2.2.2.1 (8:Int)))) with
|true=>u278 R a0 y2 p3.2 k
|false=>none
theorem zmf (R:Type) (a0:K278.T) (a1:Int) (k:Int→K278.T→Option R):F285 R a0 a1 k=F285 R a0 a1 (fun y p=>@ite (Option R) (p.1=a0.1) (Classical.propDecidable _) (k y p) none):=by
 simp only [F285,p285,if_true]
def zpn {α:Type} (x y:α):Bool:=@decide (x=y) (Classical.propDecidable _)
theorem zda {α:Type} (x:α):zpn x x=true:=@decide_eq_true _ (Classical.propDecidable _) rfl
theorem zpm {α:Type} {x y:α} (h:zpn x y=true):x=y:=@of_decide_eq_true _ (Classical.propDecidable _) h
def zh9 (a0:K278.T) (a1 y:Int) (q:U1.T):Ent:=⟨285,[(true,K278),(false,(.int .u64))],[(false,(.int .u8))],fun _ x k=>match zpn x (a0,a1,()) with | true=>k (y,()) ((a0.1,q),()) | false=>none⟩
theorem ok285c {a0:K278.T} {a1 y:Int} {q:U1.T} (h:Pu Tryz.prog 285 (avs [(true,K278),(false,(.int .u64))] (a0,a1,())) (rvs [(false,(.int .u8))] (y,())) (tvs [(true,K278),(false,(.int .u64))] ((a0.1,q),()))):(zh9 a0 a1 y q).OK Tryz.prog:=by
 intro R x k r hr;simp only [zh9] at hr;split at hr
 ·rename_i he
  have:=zpm he;subst this;exact ⟨(y,()),((a0.1,q),()),h,hr⟩
 ·cases hr
def c278 (a0:K278.T) (a1 y:Int) (q:U1.T):Env (St×List Acc):=⟨TT,EQT,1,32,Bo [],Bc [zh9 a0 a1 y q] _,Bf [] _,[],Bd [],[]⟩
def e278 (R:Type):Env R:=⟨TT,EQT,1,32,Bo [],Bc [] R,Bf [] R,[],Bd [],[]⟩
def Jx:Code→Code
 | .seq a _=>a
 | c=>c
def zbv:Code→Array Oper
 | .seq _ (.seq (.region _ ops _) _)=>ops
 | _=>#[]
def ztv:Code→Oper
 | .seq _ (.seq (.region _ ops _) _)=>(ops[12]?).getD ⟨none,.assign (.tmp 0),0,"",#[],none⟩
 | _=>⟨none,.assign (.tmp 0),0,"",#[],none⟩
def Ra:Code→Code
 | .seq _ (.seq _ c)=>c
 | c=>c
def zo3 (a0:K278.T):St:=⟨[(0,.ptr 0 [] K278)],[(0,.var K278 a0 false)],1⟩
def zo2 (a0:K278.T):St:=⟨[(2,.val (.int .u64) (0:Int)),(0,.ptr 0 [] K278)],[(0,.var K278 a0 false)],1⟩
def zxq (a0:K278.T) (y:Int) (q:U1.T):St:=
 ⟨[(3,.val (.int .u8) (ishr .u8 y (IntKind.u64.wrap ((7:Int) - (Int.tmod a0.1.2.2.2.2.2.1 (8:Int)))))),(19,.val (.int .u8) (ishr .u8 y (IntKind.u64.wrap ((7:Int) - (Int.tmod a0.1.2.2.2.2.2.1 (8:Int)))))),
  (18,.val (.int .u64) (IntKind.u64.wrap ((7:Int) - (Int.tmod a0.1.2.2.2.2.2.1 (8:Int))))),(17,.val (.int .u64) (Int.tmod a0.1.2.2.2.2.2.1 (8:Int))),(16,.val (.int .u64) a0.1.2.2.2.2.2.1),
  (15,.ptr 0 [.fld 0,.fld 5] (.int .u64)),(14,.ptr 0 [.fld 0] KS278),(13,.ptr 0 [] K278),(12,.ptr 0 [] K278),(11,.val (.int .u8) y),(10,.val (.int .u64) (IntKind.u64.wrap (Int.tdiv a0.1.2.2.2.2.2.1 (8:Int)))),(9,.val (.int .u64) a0.1.2.2.2.2.2.1),
  (8,.ptr 0 [.fld 0,.fld 5] (.int .u64)),(7,.ptr 0 [.fld 0] KS278),(6,.ptr 0 [] K278),(5,.ptr 0 [] K278),(4,.ptr 0 [] K278),(2,.val (.int .u64) (0:Int)),(0,.ptr 0 [] K278)],
 [(0,.var K278 (a0.1,q) false),(0,.var K278 a0 false)],1⟩
def zue:List Acc:=[([],[],false),([],[],false),([],[],false),([],[],false),([],[0],false),([],[],false),([],[],false),([],[],false),([],[],false),([0],[0,0],false),([],[],false),([],[0],false),([],[],false),([],[],false),([],[],false),([],[],false),([],[],false)]
theorem x0278 (a0:K278.T):exec (e278 St) (Jx (Ag Tryz.f278)) (zo3 a0) (fun e σ=>match e with | .normal=>some σ | _=>none)=some (zo2 a0):=by kernel_rfl
theorem x1278 (a0:K278.T) (y:Int) (q:U1.T):xops (c278 a0 (IntKind.u64.wrap (Int.tdiv a0.1.2.2.2.2.2.1 (8:Int))) y q) 1 (zbv (Ag Tryz.f278)) (zbv (Ag Tryz.f278)).toList 0 (zo2 a0) [] (fun σ' accs=>some (σ',accs))=
  (match zpn (a0,IntKind.u64.wrap (Int.tdiv a0.1.2.2.2.2.2.1 (8:Int)),()) (a0,IntKind.u64.wrap (Int.tdiv a0.1.2.2.2.2.2.1 (8:Int)),()) with
  | true=>(match decide (0≤IntKind.u64.wrap ((7:Int) - (Int.tmod a0.1.2.2.2.2.2.1 (8:Int)))) with | true=>some (zxq a0 y q,zue) | false=>none)
  | false=>none):=by kernel_rfl
theorem x2278 (R:Type) (a0:K278.T) (y:Int) (q:U1.T) (k:RT [(false,Kd.int .u64)]→PT [(true,K278)]→Option R):
  exec (e278 R) (Ra (Ag Tryz.f278)) (zxq a0 y q) (funK (e278 R) ztt (finK [(false,.int .u64)] [(true,K278)] k))=u278 R a0 y q (fun y1 p1=>k (y1,()) (p1,())):=by kernel_rfl
theorem ok278:(en278 F278).OK Tryz.prog:=by
 intro R x k r h;obtain ⟨a0,u⟩:=x
 change F278 R a0 (fun y1 p1=>k (y1,()) (p1,()))=some r at h
 unfold F278 at h;rw [zmf] at h;obtain ⟨⟨y,uy⟩,⟨⟨p1,q⟩,up⟩,hH,hk⟩:=ok285 R (a0,IntKind.u64.wrap (Int.tdiv a0.1.2.2.2.2.2.1 (8:Int)),()) (fun y p=>(fun (y:Int) (p:K278.T)=>@ite (Option R) (p.1=a0.1) (Classical.propDecidable _) (match decide (0≤IntKind.u64.wrap ((7:Int) - (Int.tmod a0.1.2.2.2.2.2.1 (8:Int)))) with
  | true=>u278 R a0 y p.2 (fun y1 p1=>k (y1,()) (p1,()))
  | false=>none) none) y.1 p.1) r h
 simp only at hk;split at hk<;>try (cases hk; done)
 rename_i hp;subst hp;split at hk<;>try (cases hk; done)
 rename_i hv;have hE0:Az Tryz.prog (e278 R):=⟨tabOK,eqOK,Aq Ab,Bs,Ak⟩
 have hE1:Az Tryz.prog (e278 St):=⟨tabOK,eqOK,Aq Ab,Bs,Ak⟩
 have hE2:Az Tryz.prog (c278 a0 (IntKind.u64.wrap (Int.tdiv a0.1.2.2.2.2.2.1 (8:Int))) y q):=⟨tabOK,eqOK,Aq (Aa (ok285c hH) Ab),Bs,Ak⟩
 have hL0:Leads 1 32 Tryz.prog (Jx (Ag Tryz.f278)) (zo3 a0) .normal (zo2 a0):=by
  obtain ⟨e,σ,h1,_,h2⟩:=Cz hE1 mixed (Jx (Ag Tryz.f278)) (by rw [show Ap (Jx (Ag Tryz.f278))=[] from by kernel_rfl]; exact Bp) _ _ _ (x0278 a0);cases e with
  | normal=>simp only [Option.some.injEq] at h1; subst h1; exact h2
  | exit i=>cases h1
  | ret=>cases h1
 have hL1:Leads 1 32 Tryz.prog (.region 1 (zbv (Ag Tryz.f278)) true) (zo2 a0) .normal (zxq a0 y q):=by
  have hx:=x1278 a0 y q;rw [zda,hv] at hx;obtain ⟨w1,w2⟩:=zpq (i0:=7) (b:=0) (l:=zue.reverse) (by kernel_rfl);exact zdm (j0:=12) (i0:=7) (b:=0) (d:=16) (t:=15) (nx:=1) (o:=ztv (Ag Tryz.f278)) (b1:=.var K278 a0 false) (b2:=.var K278 (a0.1,q) false) hE2 mixed hx (by kernel_rfl) w1 w2 (by omega)
   (by kernel_rfl) (by kernel_rfl) (by kernel_rfl) (by kernel_rfl) rfl (Nat.lt_of_succ_le (Nat.le_of_ble_eq_true rfl)) (zfc (by kernel_rfl)) (zfb (by kernel_rfl))
   (by rw [show (ztv (Ag Tryz.f278)).op.operands=#[.tmp 15] from by kernel_rfl]; intro x hx; simpa using hx) rfl rfl
   (fun B hB=>by rcases hB with rfl | rfl<;>kernel_rfl)
 have hbody:Ag Tryz.f278=.seq (Jx (Ag Tryz.f278)) (.seq (.region 1 (zbv (Ag Tryz.f278)) true) (Ra (Ag Tryz.f278))):=by kernel_rfl
 have hx2:=x2278 R a0 y q k;rw [hk] at hx2;obtain ⟨e,σ,h1,_,h2⟩:=Cz hE0 mixed (Ra (Ag Tryz.f278)) (by rw [show Ap (Ra (Ag Tryz.f278))=[] from by kernel_rfl]; exact Bp) _ _ _ hx2;have hL:=Leads.seq hL0 (Leads.seq hL1 h2);rw [←hbody] at hL;obtain ⟨rs,os,g1,g2⟩:=zc3 hE0 Tryz.func278 (body:=Ag Tryz.f278) (by kernel_rfl) (enters Tryz.func278 (by kernel_rfl) (by kernel_rfl)) (by kernel_rfl) (res:=ztt) (by kernel_rfl) («as»:=[.ptr K278 a0]) rfl (Nat.le_of_ble_eq_true rfl) (tm0:=(zo3 a0).tm) (me0:=(zo3 a0).me) rfl hL h1;unfold finK at g2;split at g2<;>try (cases g2; done)
 rename_i y' hy;split at g2<;>try (cases g2; done)
 rename_i p' hp;rw [H9 hy,J0 hp] at g1;exact ⟨y',p',g1,g2⟩
end Go.PG
end
