/- A part of the proof; no condition of its own. -/
import Derived.Test.YtlbchnapmipbhaaGreatDoorXF3
import Derived.Shelf.Spec.SlicesInsertGrow
import Derived.KernelRfl
import Derived.RangeFuncRecord
import Derived.RangeFuncLeaves
set_option linter.unusedVariables false
set_option linter.unusedSimpArgs false
set_option linter.unusedSectionVars false
open Go.IntKind (i64 u64 u8 u32 u16)
open List (replicate)
theorem Cu:type_of% @_root_.List.drop_length:=@_root_.List.drop_length
noncomputable section
set_option linter.unusedVariables false
set_option linter.unusedSimpArgs false
namespace Go.PG
open Go.Proofs Go.Shelf Go.RowKit Go.Lib
structure InsL (P:Program) (ρ:Ren) (fn:Func):Prop where
 mixed:P.follows .mixedOrders=true
 f22:P.funcs[ρ.f 22]?=some fn
 bd:∃nm ta pr rs fl tn,fn={Body2.n22 ρ with name:=nm,targs:=ta,params:=pr,resultTypes:=rs,file:=fl,tmpNames:=tn}
 t3:P.underlying (ρ.t 3)=some (TypeDesc.int IntKind.i64)
 t4:P.underlying (ρ.t 4)=some (TypeDesc.bool)
 t24:P.underlying (ρ.t 24)=some (TypeDesc.slice (ρ.t 9))
variable {P:Program} {ρ:Ren} {fn:Func}
set_option maxHeartbeats 4000000 in
set_option maxRecDepth 100000 in
theorem zdo (L:InsL P ρ fn) {sz:Nat} (z9:∀w,(Go.sizeOf (ρ.t 9)).run P w=.ok sz w) (base vb:Option Addr) (n c i vc:Nat) (w:World) (hi:i<=n) (hnc:n<=c) (hc63:c<=9223372036854775807) (hnil:base=none->c=0):
  Calls P (ρ.f 22) #[.slice base n c,.int .i64 i,.slice vb 0 vc] w λe w'=>e=.returned (.slice base n c)/\w'=w:=by
 have t3:=L.t3; have t4:=L.t4; have t24:=L.t24;have u3:=Au L.t3; have u4:=Au L.t4; have u24:=Au L.t24;have mixed:=L.mixed;obtain ⟨nm,ta,pr,rs,fl,tn,hfn⟩:=L.bd;have F22:=L.f22;rw [hfn] at F22;cases base with
 | none=>
  have h0:=hnil rfl;subst h0;have h1:n=0:=by omega
  subst h1;have h2:i=0:=by omega
  subst h2
  go_enter F22,Body2.n22_ntmps ρ
  go_wp2
  go_ret
  exact ⟨rfl,rfl⟩
 | some b=>
  go_enter F22,Body2.n22_ntmps ρ
  go_wp2
  all_goals (go_ret; exact ⟨rfl,rfl⟩)
set_option maxHeartbeats 4000000 in
set_option maxRecDepth 100000 in
/-- at the end: append. -/
theorem zk9 (L:InsL P ρ fn) {sz:Nat} (z9:∀w,(Go.sizeOf (ρ.t 9)).run P w=.ok sz w) (base vb:Option Addr) (n c m vc:Nat) (w:World) (hm:0<m) (hnc:n<=c) (hc63:c<=9223372036854775807) (hnil:base=none->c=0)
  {u:Value} {w1:World} (hap:(Builtin.append_ #[ρ.t 24,ρ.t 24] (ρ.t 24) #[.slice base n c,.slice vb m vc]).run P w=.ok u w1):
  Calls P (ρ.f 22) #[.slice base n c,.int .i64 n,.slice vb m vc] w λe w'=>e=.returned u/\w'=w1:=by
 have t3:=L.t3; have t4:=L.t4; have t24:=L.t24;have u3:=Au L.t3; have u4:=Au L.t4; have u24:=Au L.t24;have mixed:=L.mixed;obtain ⟨nm,ta,pr,rs,fl,tn,hfn⟩:=L.bd;have F22:=L.f22;rw [hfn] at F22;have hz1:¬((m:Int)=0):=by omega
 cases base with
 | none=>
  have h0:=hnil rfl;subst h0;have h1:n=0:=by omega
  subst h1
  go_enter F22,Body2.n22_ntmps ρ
  go_wp2_with (at_builtin; refine Lib.wpList_append_run _ rfl _ _ (ρ.t 24) (ρ.t 24) rfl _ _ rfl rfl _ _ hap ?_)
  all_goals (go_ret; exact ⟨rfl,rfl⟩)
 | some b=>
  go_enter F22,Body2.n22_ntmps ρ
  go_wp2_with (at_builtin; refine Lib.wpList_append_run _ rfl _ _ (ρ.t 24) (ρ.t 24) rfl _ _ rfl rfl _ _ hap ?_)
  all_goals (go_ret; exact ⟨rfl,rfl⟩)
set_option maxHeartbeats 4000000 in
set_option maxRecDepth 100000 in
/-- no room: a new row. -/
theorem zdq (L:InsL P ρ fn) {sz:Nat} (z9:∀w,(Go.sizeOf (ρ.t 9)).run P w=.ok sz w) (b g2:Nat) (vb:Option Addr) (n c i m vc G:Nat) (w w1 w2 w3:World) (hm:0<m) (hi:i<n) (hnc:n<=c) (hroom:c<n+m) (h63:n+m<=9223372036854775807)
  (hG:n+m<=G) (hG63:G<=9223372036854775807)
  (hz:∀ty,(Builtin.append_ #[ρ.t 24,ρ.t 3] ty #[.slice (some ⟨b,0,none⟩) i c,.int .i64 ((n:Int)+(m:Int) - (i:Int))]).run P w=.ok (.slice (some ⟨g2,0,none⟩) (n+m) G) w1)
  {u1 u2:Value} (hA:∀ty,(Builtin.copy_ #[ρ.t 24,ρ.t 24] ty #[.slice (some ⟨g2,i*sz,none⟩) (n+m - i) (G - i),.slice vb m vc]).run P w1=.ok u1 w2)
  (hB:∀ty,(Builtin.copy_ #[ρ.t 24,ρ.t 24] ty #[.slice (some ⟨g2,(i+m)*sz,none⟩) (n+m - (i+m)) (G - (i+m)),.slice (some ⟨b,i*sz,none⟩) (n - i) (c - i)]).run P w2.drew=.ok u2 w3):
  Calls P (ρ.f 22) #[.slice (some ⟨b,0,none⟩) n c,.int .i64 i,.slice vb m vc] w λe w'=>e=.returned (.slice (some ⟨g2,0,none⟩) (n+m) G)/\w'=w3:=by
 have t3:=L.t3; have t4:=L.t4; have t24:=L.t24;have u3:=Au L.t3; have u4:=Au L.t4; have u24:=Au L.t24;have mixed:=L.mixed;obtain ⟨nm,ta,pr,rs,fl,tn,hfn⟩:=L.bd;have F22:=L.f22;rw [hfn] at F22;have hz1:¬((m:Int)=0):=by omega
 have hz2:¬((i:Int)=(n:Int)):=by omega
 have hz3:(c:Int)<(n:Int)+(m:Int):=by omega
 have hc63:c<=9223372036854775807:=by omega
 have hGi:¬(G=i):=by omega
 have hGim:¬(G=i+m):=by omega
 have hci:¬(c=i):=by omega
 have hw1:i64.wrap ((i:Int)+(m:Int))=(i:Int)+(m:Int):=by rw [IntKind.wrap_i64]; omega
 have hw2:i64.wrap ((n:Int)+(m:Int))=(n:Int)+(m:Int):=by rw [IntKind.wrap_i64]; omega
 have hb1:(0:Int)<=(i:Int)+(m:Int):=by omega
 have hin:i<=n:=by omega
 have htn:((i:Int)+(m:Int)).toNat=i+m:=by omega
 have hb3:(i:Int)<=(n:Int):=by omega
 go_enter F22,Body2.n22_ntmps ρ
 go_wp2_with (first
  | (at_builtin; refine Lib.wpList_append_run _ rfl _ _ _ _ rfl _ _ rfl rfl _ _ (hz _) ?_)
  | (at_builtin; refine wpList_copy_runI _ rfl _ _ (ρ.t 24) (ρ.t 24) rfl _ _ rfl rfl (hA _) ?_))
 go_region_law_o (refine step_copy_runI rfl _ _ (ρ.t 24) (ρ.t 24) rfl (.slice (some ⟨g2,(i+m)*sz,none⟩) (n+m - (i+m)) (G - (i+m))) (.slice (some ⟨b,i*sz,none⟩) (n - i) (c - i)) (by simp [Act.eval,Act.put]) (by simp [Act.eval,Act.put]) (hB (ρ.t 3)) ?_)
 go_wp2
 go_ret
 exact ⟨rfl,rfl⟩
set_option maxHeartbeats 4000000 in
set_option maxRecDepth 100000 in
/-- there is room: in place. -/
theorem SH (L:InsL P ρ fn) {sz:Nat} (z9:∀w,(Go.sizeOf (ρ.t 9)).run P w=.ok sz w) (b:Nat) (vb:Option Addr) (n c i m vc:Nat) (w w2 w3:World) (hm:0<m) (hi:i<n) (hroom:n+m<=c) (hc63:c<=9223372036854775807)
  (hov:(callFunc (ρ.f 29) #[.slice vb m vc,.slice (some ⟨b,(i+m)*sz,none⟩) (n+m - (i+m)) (c - (i+m))]).run P w=.ok (.value (.bool false)) w)
  {u1 u2:Value} (hA:∀ty,(Builtin.copy_ #[ρ.t 24,ρ.t 24] ty #[.slice (some ⟨b,(i+m)*sz,none⟩) (n+m - (i+m)) (c - (i+m)),.slice (some ⟨b,i*sz,none⟩) (n+m - i) (c - i)]).run P w.drew=.ok u1 w2)
  (hB:∀ty,(Builtin.copy_ #[ρ.t 24,ρ.t 24] ty #[.slice (some ⟨b,i*sz,none⟩) (n+m - i) (c - i),.slice vb m vc]).run P w2=.ok u2 w3):
  Calls P (ρ.f 22) #[.slice (some ⟨b,0,none⟩) n c,.int .i64 i,.slice vb m vc] w λe w'=>e=.returned (.slice (some ⟨b,0,none⟩) (n+m) c)/\w'=w3:=by
 have t3:=L.t3; have t4:=L.t4; have t24:=L.t24;have u3:=Au L.t3; have u4:=Au L.t4; have u24:=Au L.t24;have mixed:=L.mixed;obtain ⟨nm,ta,pr,rs,fl,tn,hfn⟩:=L.bd;have F22:=L.f22;rw [hfn] at F22;have hz1:¬((m:Int)=0):=by omega
 have hz2:¬((i:Int)=(n:Int)):=by omega
 have hw1:i64.wrap ((i:Int)+(m:Int))=(i:Int)+(m:Int):=by rw [IntKind.wrap_i64]; omega
 have hb1:(0:Int)<=(i:Int)+(m:Int):=by omega
 have hin:i<=n:=by omega
 have htn:((i:Int)+(m:Int)).toNat=i+m:=by omega
 have hb2:¬(c=i+m):=by omega
 have hb3:(i:Int)<=(n:Int)+(m:Int):=by omega
 have hb4:¬(c=i):=by omega
 go_enter F22,Body2.n22_ntmps ρ
 go_wp2_with (simp only [hov])
 go_region_law_o (refine step_copy_runI rfl _ _ (ρ.t 24) (ρ.t 24) rfl (.slice (some ⟨b,(i+m)*sz,none⟩) (n+m - (i+m)) (c - (i+m))) (.slice (some ⟨b,i*sz,none⟩) (n+m - i) (c - i)) (by simp [Act.eval,Act.put]) (by simp [Act.eval,Act.put]) (hA _) ?_)
 go_wp2_with (at_builtin; refine wpList_copy_runI _ rfl _ _ (ρ.t 24) (ρ.t 24) rfl _ _ rfl rfl (hB _) ?_)
 go_ret
 exact ⟨rfl,rfl⟩
end Go.PG
set_option linter.unusedVariables false
set_option linter.unusedSimpArgs false
namespace Go.PG
open Go.Proofs Go.Shelf Go.RowKit
section
variable {C:Ctx} {tm:Nat->SV} {me:Nat->Option Blk} {pl:Nat->Plc} {S:Nat->Prop} {a:Act} {w:World} {P:Program} {T:Tab} {ρ:Ren} {fn:Func}
theorem Qr (w:World) (tS tR e:TypeId) (ht:P.underlying tS=some (.slice e)) (size:Nat) (hz:∀w,(Go.sizeOf e).run P w=.ok size w)
  (a b:Addr) (la ca lb cb:Nat) (hne:a.block≠b.block) {c1 c2:Array Value} {t1 t2:TypeId} {f1:Nat×Nat}
  (h1:w.heap[a.block]?=some (.cells c1 t1 f1)) (h2:w.heap[b.block]?=some (.cells c2 t2 (0,0))) (hk1:c1.size≠0) (hk:c2.size≠0):
  (Extern.SlicesOverlaps.overlaps #[tS,tS] #[tR] #[.slice (some a) la ca,.slice (some b) lb cb]).run P w=.ok (.bool false) w:=by
 have hnb:(a.block !=b.block)=true:=by simpa using hne
 have hnb':(a.block==b.block)=false:=by simpa using hne
 have hsa:w.shape? a.block=some (t1,c1.size):=by simp [World.shape?,h1]
 have hsb:w.shape? b.block=some (t2,c2.size):=by simp [World.shape?,h2]
 have hfb:w.frozen? b=false:=by simp [World.frozen?,h2]
 have hfe:w.frozen? {block:=b.block,off:=c2.size}=false:=by simp [World.frozen?,h2]
 change Sem.run P (α:=Value) (do
  let some t:=(#[tS,tS]:Array TypeId)[0]? | stuck "slices.overlaps: no parameter types"
  let .slice elem <-underlying t | stuck "slices.overlaps: slice type expected"
  let size <-sizeOf elem
  match (some a:Option Addr),(some b:Option Addr) with
  | some a,some b=>
   if la=0\/lb=0\/size=0 then pure (Value.bool false)
   else if a.block !=b.block&&(<-frozen a)&&(<-frozen b) then unsupported .addressObserved
   else do
    if a.block !=b.block then do
     noView a; noView b
     if <-mayBeOne a b then return Value.bool ((<-choose (.extern "sameAddr.stringBytes" 2))==1)
    pure (Value.bool (a.block==b.block&&a.off<b.off+lb*size&&b.off<a.off+la*size))
  | _,_=>pure (Value.bool false)) w=_
 by_cases h0:la=0\/lb=0\/size=0
 ·simp [Au ht,hz,h0]
 ·generalize c2.size=kB at*
  generalize c1.size=kA at*;cases kA with
  | zero=>exact absurd rfl hk1
  | succ kA=>
  cases kB with
  | zero=>exact absurd rfl hk
  | succ kB=>
   cases hfa:w.frozen? a<;>cases hfe1:w.frozen? {block:=a.block,off:=kA+1}<;>
    simp [Au ht,hz,h0,hnb,hnb',frozen,noView,viewAt,mayBeOne,stringish,shape,Sem.run,hsa,hsb,hfb,hfe,hfa,hfe1]
theorem Qe (w:World) (c c':Array Value) (t:TypeId):(w.alloc (.cells c t)).setRow w.heap.size c'=w.alloc (.cells c' t):=by
 have:((w.heap.push (.cells c t)).modify w.heap.size fun | .cells _ elem frozen=>.cells c' elem frozen | o=>o)=w.heap.push (.cells c' t):=by
  apply Array.ext
  ·simp
  ·intro i h1 h2
   rw [Array.getElem_modify];simp only [Array.getElem_push]
   by_cases h:i<w.heap.size
   ·simp [h,show ¬w.heap.size=i by omega]
   ·simp at h2
    have:i=w.heap.size:=by omega
    subst this;simp
 simp only [World.setRow,World.alloc];exact Ac (λh=>{w with heap:=h}) this
theorem V4 (hT:D3 P T) {t ts ty et:TypeId} {sz:Nat} (hd:E0 T t=some (.slice et)) (hz:∀w,(sizeOf et).run P w=.ok sz w) {g o dl dc sl:Nat} {vs:Value} {ds:List Value} {c:Array Value} {tb:TypeId}
  (hl:(Builtin.lenOf vs).run P w=.ok sl w) (hf:(Builtin.firstCells sz (min sl dl) vs).run P w=.ok ds.toArray w) (hg:w.heap[g]?=some (.cells c tb (0,0))) (hfit:o+ds.length<=c.size) (h1:∀v∈ds,v.oneCell'=true):
  (Builtin.copy_ #[t,ts] ty #[.slice (some ⟨g,o,none⟩) dl dc,vs]).run P w=.ok (goInt (min sl dl:Nat)) (w.setRow g (c.toList.take o++ds++c.toList.drop (o+ds.length)).toArray):=by
 refine Ll hT hd hz hl hf ?_;have:=run_storeCells_at P g o tb ds 0 c w hg (by omega) h1;simpa using this
theorem zir {e:Kd} {l:List e.T} {c:Array Value} (h:RdL (Rd S w e) l (c.toList.take (l.length*e.size))) (hc:l.length*e.size<=c.size) (i:Nat) (hi:i<=l.length):
  RdL (Rd S w e) (l.take i) (c.toList.take (i*e.size))/\RdL (Rd S w e) (l.drop i) ((c.toList.drop (i*e.size)).take ((l.length - i)*e.size)):=by
 have h1:=RdL.window (Rd.length e) h 0 i;have h2:=RdL.window (Rd.length e) h i (l.length - i);rw [Nat.zero_mul,Bo,Bo,Bb,A6 (A7 _ hi)] at h1;refine ⟨h1,?_⟩;rw [A8 (by simp)] at h2;rw [Ba,Bb] at h2
 rwa [show min ((l.length - i)*e.size) (l.length*e.size - i*e.size)=(l.length - i)*e.size by rw [<-Nat.sub_mul]; omega] at h2
theorem zdp (hT:D3 P T) (L:InsL P ρ fn) {e:Kd} (hsz:0<e.size) (hkt:tkd T (ρ.t 24)=some (.sl e)) (hd:E0 T (ρ.t 24)=some (.slice (ρ.t 9))) {dd:TyD} (hdd:Kj T (ρ.t 9)=some dd)
  (hov:∀(args:Array Value) (w:World) (b:Value) (w':World),(Extern.SlicesOverlaps.overlaps #[ρ.t 24,ρ.t 24] #[ρ.t 4] args).run P w=.ok b w'->(callFunc (ρ.f 29) args).run P w=.ok (.value b) w')
  {j ver:Nat} {l vs:List e.T} {i:Nat} (hjn:C.pp.length<=j) (hI:Inv C tm me pl S a w) (hm:me j=some (.row e l ver false)) {v0 vv:Value} (hrow:RowV (pl j) l.length v0) (hv:RdSl (Rd S w e) S w e.size vs vv)
  (hi:i<=l.length) (hlim:l.length+vs.length<=LIMB/dd.bytes):
  Calls P (ρ.f 22) #[v0,.int .i64 i,vv] w fun
   | .returned u,w'=>F6 C tm me (.own j (ver+1)) [(j,.row e (l.take i++vs++l.drop i) (ver+1) false)] a u w'
   | _,_=>False:=by
 have z9:∀w,(sizeOf (ρ.t 9)).run P w=.ok e.size w:=λw=>D1 hT w (Ik hT hkt hd)
 obtain ⟨lim1,lim2⟩:=limb hlim;obtain ⟨ti,hti,hti2,hti3,hti4⟩:=(hT _ dd hdd).info;have hkd:dd.kd=some e:=by
  have:=Ik hT hkt hd;simpa [tkd,hdd] using this
 obtain ⟨z,hz1,hz2,_⟩:=hti4 e hkd;have hisz:ti.size=e.size:=by rw [hti2,((hT _ dd hdd).kd e hkd).1]
 have hzs:=Ju e hz2;have hsum:l.length+vs.length<=140737488355328:=by
  rcases B2 dd.bytes with h0 | h0
  ·have:=lim2 h0; omega
  ·exact Am (B3 _ h0) lim1
 -- nothing to be put in
 have hvv:∃vb vc,vv=.slice vb vs.length vc:=by
  rcases hv with ⟨h,h0⟩ | ⟨g,off,cap,c,t,fr,h,_⟩ | ⟨a0,h,h0⟩
  ·exact ⟨none,0,by rw [h,h0]; rfl⟩
  ·exact ⟨_,_,h⟩
  ·exact ⟨some a0,0,by rw [h,h0]; rfl⟩
 obtain ⟨vb,vc,hvv⟩:=hvv;have hv0:∃base cap,v0=.slice base l.length cap/\l.length<=cap/\cap<=maxLen/\(base=none->cap=0):=by
  rcases hI.mem j _ hm with ⟨hg,hl0,hc0⟩ | ⟨g,c,tb,hg,hoff,hc,h6,h7,h8,h9,h10⟩
  ·rcases hrow with ⟨_,h⟩ | ⟨g,hg',_⟩
   ·exact ⟨none,0,by rw [h,hl0]; rfl,by rw [hl0]; simp,by simp,λ_=>rfl⟩
   ·rw [hg] at hg'; cases hg'
  ·rcases hrow with ⟨hg',_⟩ | ⟨g',hg',h⟩
   ·rw [hg] at hg'; cases hg'
   ·exact ⟨_,_,h,h6,h7,λh=>by cases h⟩
 obtain ⟨base,cap,hv0,hlc,hcm,hnil⟩:=hv0;have hcm':cap<=9223372036854775807:=by simp only [maxLen] at hcm; omega
 by_cases hv00:vs=[]
 ·subst hv00
  have:=zdo L z9 base vb l.length cap i vc w hi hlc hcm' hnil;rw [hv0,hvv];refine this.mono λx w' hx=>?_
  obtain ⟨rfl,rfl⟩:=hx;simp only;rw [B0,A4];refine ⟨pl,S,?_,?_⟩
  ·rw [Do,Dn]; exact hI.bump hm (Nat.le_succ _)
  ·rw [Do,Dn,<-hv0]
   exact ⟨e,l,ver+1,false,Dr _ _ _,Al _,λ_=>hrow⟩
 have hpos:0<vs.length:=List.length_pos_iff.2 hv00
 by_cases hin:i=l.length
 ·subst hin
  have h:=Nx (C:=C) (tm:=tm) (me:=me) (pl:=pl) (S:=S) (a:=a) (w:=w) (ty:=ρ.t 24) hT (np:=C.pp.length) rfl (rd:=me) (t:=ρ.t 24) (s:=.own j ver) (x:=.val (.sl e) vs) (nx:=0) (vs:=v0) (vx:=vv)
   (r:=⟨true,.own j (ver+1),[(j,.row e (l++vs) (ver+1) false)],[j],0⟩) (by
    have hb:Nat.blt j C.pp.length=false:=by
     cases hb:Nat.blt j C.pp.length with
     | false=>rfl
     | true=>simp [Nat.blt_eq] at hb; omega
    simp [Wh,hkt,hd,hdd,rdSl,TV.as_self,hm,hb,hlim]) rfl (λ_ _=>rfl) hI ⟨e,l,ver,false,hm,Al _,λ_=>hrow⟩ (VRd.sl.2 hv)
  obtain ⟨u,w1,hrun,haft⟩:=h;rw [hv0,hvv] at hrun;have:=zk9 L z9 base vb l.length cap vs.length vc w hpos hlc hcm' hnil hrun;rw [hv0,hvv];refine this.mono λx w' hx=>?_
  obtain ⟨rfl,rfl⟩:=hx;simp only;rw [Bl,Cu,B0];exact haft
 have hil:i<l.length:=by omega
 rcases hI.mem j _ hm with ⟨hg,hl0,hc0⟩ | ⟨g,c,tb,hg,hoff,hc,h6,h7,h8,h9,h10⟩
 ·rw [hl0] at hil; simp at hil
 have hvb:v0=.slice (some ⟨g,0,none⟩) l.length (pl j).cap:=by
  rcases hrow with ⟨hg',_⟩ | ⟨g',hg',h⟩
  ·rw [hg] at hg'; cases hg'
  ·rw [hg] at hg'; cases hg'; exact h
 rw [hvb] at hv0;simp only [Value.slice.injEq] at hv0;obtain ⟨rfl,_,rfl⟩:=hv0;rw [hvb,hvv];have hnS:¬S g:=λh=>by have:=h10.2 h; cases this
 have hlsz:l.length*e.size<=c.size:=by rw [h8]; exact A7 _ h6
 have hcl:c.toList.length=c.size:=by simp
 obtain ⟨hr1,hr2⟩:=zir h9 hlsz i hi;have hsg:((c.toList.drop (i*e.size)).take ((l.length - i)*e.size)).length=(l.length - i)*e.size:=by
  have:=RdL.length (Rd.length e) hr2;rw [this,Cs]
 have hsg1:(c.toList.take (i*e.size)).length=i*e.size:=by
  have:=RdL.length (Rd.length e) hr1;rw [this,A5,A6 hi]
 have hgw:g<w.heap.size:=(Ap.1 hc).1;obtain ⟨seg,hseg⟩:∃seg,seg=(c.toList.drop (i*e.size)).take ((l.length - i)*e.size):=⟨_,rfl⟩
 rw [<-hseg] at hr2 hsg;have him:(l.length+vs.length)*e.size=i*e.size+vs.length*e.size+(l.length - i)*e.size:=by
  rw [<-Ag,<-Ag]; congr 1; omega
 have hlen3:(l.take i++vs++l.drop i).length=l.length+vs.length:=by simp; omega
 by_cases hroom:l.length+vs.length<=(pl j).cap
 ·-- in place
  have hfitc:(l.length+vs.length)*e.size<=c.size:=by rw [h8]; exact A7 _ hroom
  have hsA:min (l.length+vs.length - i) (l.length+vs.length - (i+vs.length))=l.length - i:=by omega
  have hfA:(Builtin.firstCells e.size (min (l.length+vs.length - i) (l.length+vs.length - (i+vs.length))) (.slice (some ⟨g,i*e.size,none⟩) (l.length+vs.length - i) ((pl j).cap - i))).run P w.drew=.ok seg.toArray w.drew:=by
   rw [hsA];exact run_firstCells_some (P:=P) w.drew e.size (l.length - i) ⟨g,i*e.size,none⟩ _ _ seg hsg (λq u hq=>by
    rw [add_eq,Aw w.drew g (i*e.size+q) c tb (0,0) hc];exact G1 hseg.symm q u hq)
  have hA:∀ty,_:=λty=>V4 (P:=P) (w:=w.drew) hT hd (ts:=ρ.t 24) (ty:=ty) z9 (g:=g) (o:=(i+vs.length)*e.size) (dl:=l.length+vs.length - (i+vs.length)) (dc:=(pl j).cap - (i+vs.length)) (by simp [Builtin.lenOf]) hfA hc (by rw [hsg,<-Ag]; refine Am (A7 _ ?_) hfitc; omega) (RdL.one hr2)
  obtain ⟨c2,hc2⟩:∃c2:Array Value,c2=(c.toList.take ((i+vs.length)*e.size)++seg++c.toList.drop ((i+vs.length)*e.size+seg.length)).toArray:=⟨_,rfl⟩
  rw [<-hc2] at hA;have hc2l:c2.toList=c.toList.take ((i+vs.length)*e.size)++seg++c.toList.drop ((i+vs.length)*e.size+seg.length):=by rw [hc2]
  have hvsz:(i+vs.length)*e.size+seg.length<=c.size:=by rw [hsg,<-Ag]; refine Am (A7 _ ?_) hfitc; omega
  have hc2s:c2.size=c.size:=by
   have:=Ac List.length hc2l;simp only [Bt,Ae,A5,Cs] at this;omega
  have hg2:(w.drew.setRow g c2).heap[g]?=some (.cells c2 tb (0,0)):=setRow_heap w.drew g c _ tb (0,0) hc;have hs2:∀b,S b->S b/\(w.drew.setRow g c2).heap[b]?=w.heap[b]?:=λb hb=>⟨hb,Aq w.drew g b _ (λe=>hnS (e ▸ hb))⟩
  have hv2:RdSl (Rd S (w.drew.setRow g c2) e) S (w.drew.setRow g c2) e.size vs (.slice vb vs.length vc):=by
   rw [<-hvv]; exact RdSl.mono hs2 (λx cs h=>Rd.mono hs2 e x cs h) hv
  obtain ⟨news,hf,hnr⟩:=hv2.first (P:=P) (Rd.length e) (n:=vs.length) (Al _);rw [Bl] at hnr;have hnl:=RdL.length (Rd.length e) hnr;have hlenv:=hv2.len (P:=P);have hB:∀ty,_:=λty=>V4 (P:=P) (w:=w.drew.setRow g c2) hT hd (ts:=ρ.t 24) (ty:=ty) z9 (g:=g) (o:=i*e.size) (dl:=l.length+vs.length - i) (dc:=(pl j).cap - i) hlenv
   (by rw [A6 (by omega)]; exact hf) hg2 (by rw [hnl,hc2s]; omega) (RdL.one hnr)
  have hvb':∃ad,vb=some ad/\∃cv tv fv,w.heap[ad.block]?=some (.cells cv tv fv)/\cv.size≠0/\ad.block≠g:=by
   rcases hv with ⟨_,h⟩ | ⟨gv,off,capv,cv,tv,fv,h,q1,q2,q3,q4⟩ | ⟨_,_,h⟩
   rotate_left 2
   ·exact absurd h hv00
   ·exact absurd h hv00
   ·rw [h] at hvv
    simp only [Value.slice.injEq] at hvv;refine ⟨⟨gv,off,none⟩,hvv.1.symm,cv,tv,fv,q3,λh0=>?_,λh=>hnS (h ▸ q2)⟩;have:=RdL.length (Rd.length e) q4;simp at this;have h5:0<vs.length*e.size:=Nat.mul_pos hpos hsz;omega
  obtain ⟨ad,rfl,cv,tv,fv,q3,q4,q5⟩:=hvb';have hc0:c.size≠0:=by
   have:0<(l.length+vs.length)*e.size:=Nat.mul_pos (by omega) hsz;omega
  have hover:=hov #[.slice (some ad) vs.length vc,.slice (some ⟨g,(i+vs.length)*e.size,none⟩) (l.length+vs.length - (i+vs.length)) ((pl j).cap - (i+vs.length))] w _ _
   (Qr (P:=P) w (ρ.t 24) (ρ.t 4) (ρ.t 9) (Dq hT hd) e.size z9 ad ⟨g,(i+vs.length)*e.size,none⟩ _ _ _ _ q5 q3 hc q4 hc0)
  have:=SH L z9 g (some ad) l.length (pl j).cap i vs.length vc w _ _ hpos hil hroom hcm' hover hA hB;refine this.mono λx w' hx=>?_
  obtain ⟨rfl,rfl⟩:=hx;simp only;rw [setRow_setRow];obtain ⟨c3,hc3⟩:∃c3:Array Value,c3=(c2.toList.take (i*e.size)++news++c2.toList.drop (i*e.size+news.length)).toArray:=⟨_,rfl⟩
  rw [<-hc3];have hc3l:c3.toList=c2.toList.take (i*e.size)++news++c2.toList.drop (i*e.size+news.length):=by rw [hc3]
  have hc3s:c3.size=c.size:=by
   have:=Ac List.length hc3l;simp only [Bt,Ae,A5,Cs] at this;omega
  have e1:c2.toList.take (i*e.size)=c.toList.take (i*e.size):=by
   rw [hc2l,Ah,Bd (by simp; rw [hcl.symm] at hvsz; simp at hvsz; rw [Ag]; omega),Bb,A6 (by rw [Ag]; omega)]
  have e2:c2.toList.drop (i*e.size+news.length)=seg++c.toList.drop ((i+vs.length)*e.size+seg.length):=by
   have hh:(c.toList.take ((i+vs.length)*e.size)).length=i*e.size+news.length:=by
    rw [A5,hnl,<-Ag,hcl]; omega
   rw [hc2l,Ah,<-hh,Bc]
  have e3:c3.toList.take ((l.take i++vs++l.drop i).length*e.size)=c.toList.take (i*e.size)++news++seg:=by
   rw [hc3l,e1,e2,<-Ah];have hh:(c.toList.take (i*e.size)++news++seg).length=(l.take i++vs++l.drop i).length*e.size:=by
    rw [hlen3,him,Ae,Ae,hsg,hsg1,hnl]
   rw [<-hh,Bp]
  have hs3:∀b,S b->S b/\(w.drew.setRow g c3).heap[b]?=w.heap[b]?:=λb hb=>⟨hb,Aq w.drew g b _ (λe=>hnS (e ▸ hb))⟩
  have hs23:∀b,S b->S b/\(w.drew.setRow g c3).heap[b]?=(w.drew.setRow g c2).heap[b]?:=λb hb=>⟨hb,by rw [(hs3 b hb).2,(hs2 b hb).2]⟩
  refine ⟨pl,S,?_,?_⟩
  ·rw [Do,Dn]
   refine (hI.drew).write hm hg hnS hc hc3s (by rw [hoff]; simp) (λh=>by obtain ⟨k,x,s,e⟩:=h; cases e) rfl ⟨λh=>(by obtain ⟨k,x,s,e⟩:=h; cases e),λh=>(by obtain ⟨k,x,s,e⟩:=h; cases e)⟩ ⟨rfl,Nat.le_succ _,λh=>absurd h (by omega)⟩ ?_;refine .inr ⟨g,_,tb,hg,hoff,setRow_heap w.drew g c _ tb (0,0) hc,by rw [hlen3]; exact hroom,h7,by rw [hc3s]; exact h8,?_,by simp; exact hnS⟩;rw [e3];exact RdL.append (RdL.append (RdL.mono hs3 hr1) (RdL.mono hs23 hnr)) (RdL.mono hs3 hr2)
  ·rw [Do,Dn]
   exact ⟨e,_,ver+1,false,Dr _ _ _,Al _,λ_=>.inr ⟨g,hg,by rw [hlen3]⟩⟩
 ·-- a new row
  have hik:i+(l.length+vs.length - i)=l.length+vs.length:=by omega
  have hkk:(l.length:Int)+(vs.length:Int) - (i:Int)=((l.length+vs.length - i:Nat):Int):=by omega
  have hold:(Builtin.firstCells ti.size i (.slice (some ⟨g,0,none⟩) i (pl j).cap)).run P w.drew=.ok (c.toList.take (i*e.size)).toArray w.drew:=by
   rw [hisz];exact run_firstCells_some (P:=P) w.drew e.size i ⟨g,0,none⟩ _ _ _ hsg1 (λq u hq=>by
    rw [add_eq,Aw w.drew g (0+q) c tb (0,0) hc];exact G1 (off:=0) (by rw [Bo]) q u hq)
  have hbl:dd.bytes=0->False:=λh0=>by have:=lim2 h0; omega
  have hb48:(l.length+vs.length - i)*ti.bytes<=281474976710656:=by
   rw [hti3];refine Am (A7 _ (Nat.sub_le _ _)) (by omega)
  have hz:∀ty,_:=λty=>Lib.run_append_grow_zeros (P:=P) w (ρ.t 24) (ρ.t 3) ty (ρ.t 9) ti z .i64 .i64 (Dq hT hd) L.t3 hti hz1 (some ⟨g,0,none⟩) i (pl j).cap _ hold (l.length+vs.length - i) (by omega) (by omega) (by omega) (by omega) hb48 (by rw [hti3,hik]; exact growslice_fits (by omega) lim1)
  rw [hik,<-hkk] at hz;obtain ⟨Gc,hGc⟩:∃G,G=grownCap w (l.length+vs.length) (pl j).cap (ρ.t 9):=⟨_,rfl⟩
  rw [<-hGc] at hz;have hG1:l.length+vs.length<=Gc:=by rw [hGc]; exact B4 w _ _ _
  have hG2:Gc<=maxLen:=by rw [hGc]; exact grownCap_le_maxLen w _ _ _ (by simp only [maxLen]; omega)
  have hG3:Gc<=9223372036854775807:=by simp only [maxLen] at hG2; omega
  obtain ⟨R1,hR1⟩:∃R:Array Value,R=(c.toList.take (i*e.size)).toArray++Builtin.zeroCells z.cells (l.length+vs.length - i)++Builtin.zeroCells z.cells (Gc - (l.length+vs.length)):=⟨_,rfl⟩
  rw [<-hR1] at hz;have hR1s:R1.size=Gc*e.size:=by
   rw [hR1];simp only [B5,Bi,size_zeroCells,hzs,hsg1];rw [<-Ag,<-Ag]; congr 1; omega
  have hGsz:(l.length+vs.length)*e.size<=Gc*e.size:=A7 _ hG1;have hg2:(w.drew.alloc (.cells R1 (ρ.t 9))).heap[w.heap.size]?=some (.cells R1 (ρ.t 9) (0,0)):=Bk w.drew _;have ho2:∀b,b<w.heap.size->∀R,(w.drew.alloc (.cells R (ρ.t 9))).heap[b]?=w.heap[b]?:=λb hb R=>heap_alloc_old w.drew _ hb
  have hs2:∀b,S b->S b/\(w.drew.alloc (.cells R1 (ρ.t 9))).heap[b]?=w.heap[b]?:=λb hb=>⟨hb,ho2 b (hI.sfr b hb).1 R1⟩
  have hv2:RdSl (Rd S (w.drew.alloc (.cells R1 (ρ.t 9))) e) S (w.drew.alloc (.cells R1 (ρ.t 9))) e.size vs (.slice vb vs.length vc):=by
   rw [<-hvv]; exact RdSl.mono hs2 (λx cs h=>Rd.mono hs2 e x cs h) hv
  obtain ⟨news,hf,hnr⟩:=hv2.first (P:=P) (Rd.length e) (n:=vs.length) (Al _);rw [Bl] at hnr;have hnl:=RdL.length (Rd.length e) hnr;have hlenv:=hv2.len (P:=P);have hA:∀ty,_:=λty=>V4 (P:=P) (w:=w.drew.alloc (.cells R1 (ρ.t 9))) hT hd (ts:=ρ.t 24) (ty:=ty) z9 (g:=w.heap.size) (o:=i*e.size) (dl:=l.length+vs.length - i) (dc:=Gc - i) hlenv
   (by rw [A6 (by omega)]; exact hf) hg2 (by rw [hnl,hR1s]; omega) (RdL.one hnr)
  obtain ⟨R2,hR2⟩:∃R2:Array Value,R2=(R1.toList.take (i*e.size)++news++R1.toList.drop (i*e.size+news.length)).toArray:=⟨_,rfl⟩
  have hR2l:R2.toList=R1.toList.take (i*e.size)++news++R1.toList.drop (i*e.size+news.length):=by rw [hR2]
  have hw2:(w.drew.alloc (.cells R1 (ρ.t 9))).setRow w.heap.size R2=w.drew.alloc (.cells R2 (ρ.t 9)):=Qe w.drew R1 R2 _;rw [<-hR2,hw2] at hA;have hR1l:R1.toList.length=R1.size:=by simp
  have hR2s:R2.size=Gc*e.size:=by
   have:=Ac List.length hR2l;simp only [Bt,Ae,A5,Cs] at this;omega
  have hR2l':R2.toList.length=R2.size:=by simp
  have hcB:(w.drew.alloc (.cells R2 (ρ.t 9))).drew.heap[g]?=some (.cells c tb (0,0)):=by
   show (w.drew.alloc (.cells R2 (ρ.t 9))).heap[g]?=_;rw [ho2 g hgw]; exact hc
  have hfB:(Builtin.firstCells e.size (min (l.length - i) (l.length+vs.length - (i+vs.length))) (.slice (some ⟨g,i*e.size,none⟩) (l.length - i) ((pl j).cap - i))).run P (w.drew.alloc (.cells R2 (ρ.t 9))).drew=.ok seg.toArray (w.drew.alloc (.cells R2 (ρ.t 9))).drew:=by
   rw [show min (l.length - i) (l.length+vs.length - (i+vs.length))=l.length - i by omega];exact run_firstCells_some (P:=P) _ e.size (l.length - i) ⟨g,i*e.size,none⟩ _ _ seg hsg (λq u hq=>by
    rw [add_eq,Aw _ g (i*e.size+q) c tb (0,0) hcB];exact G1 hseg.symm q u hq)
  have hvsz:(i+vs.length)*e.size+seg.length<=R2.size:=by rw [hsg,hR2s,<-Ag]; refine Am (A7 _ ?_) hGsz; omega
  have hB:∀ty,_:=λty=>V4 (P:=P) (w:=(w.drew.alloc (.cells R2 (ρ.t 9))).drew) hT hd (ts:=ρ.t 24) (ty:=ty) z9 (g:=w.heap.size) (o:=(i+vs.length)*e.size) (dl:=l.length+vs.length - (i+vs.length)) (dc:=Gc - (i+vs.length)) (by simp [Builtin.lenOf]) hfB
   (c:=R2) (tb:=ρ.t 9) (Bk w.drew _) hvsz (RdL.one hr2)
  have:=zdq L z9 g w.heap.size vb l.length (pl j).cap i vs.length vc Gc w _ _ _ hpos hil hlc (by omega) (by omega) hG1 hG3 hz hA hB;refine this.mono λx w' hx=>?_
  obtain ⟨rfl,rfl⟩:=hx;simp only;obtain ⟨R3,hR3⟩:∃R3:Array Value,R3=(R2.toList.take ((i+vs.length)*e.size)++seg++R2.toList.drop ((i+vs.length)*e.size+seg.length)).toArray:=⟨_,rfl⟩
  have hR3l:R3.toList=R2.toList.take ((i+vs.length)*e.size)++seg++R2.toList.drop ((i+vs.length)*e.size+seg.length):=by rw [hR3]
  have hw3:(w.drew.alloc (.cells R2 (ρ.t 9))).drew.setRow w.heap.size R3=w.drew.drew.alloc (.cells R3 (ρ.t 9)):=Qe w.drew.drew R2 R3 _;rw [<-hR3,hw3];have hR3s:R3.size=Gc*e.size:=by
   have:=Ac List.length hR3l;simp only [Bt,Ae,A5,Cs] at this;omega
  have e1:R2.toList.take ((i+vs.length)*e.size)=c.toList.take (i*e.size)++news:=by
   have hh:(c.toList.take (i*e.size)++news).length=(i+vs.length)*e.size:=by rw [Ae,hsg1,hnl,Ag]
   have e0:R1.toList.take (i*e.size)=c.toList.take (i*e.size):=by
    rw [hR1];simp only [B6,Ah];rw [Bd (by rw [Bh,hsg1]; exact Al _),Bh,Bb,Nat.min_self]
   rw [hR2l,e0,<-hh,Bp]
  have e3:R3.toList.take ((l.take i++vs++l.drop i).length*e.size)=c.toList.take (i*e.size)++news++seg:=by
   rw [hR3l,e1];have hh:(c.toList.take (i*e.size)++news++seg).length=(l.take i++vs++l.drop i).length*e.size:=by
    rw [hlen3,him,Ae,Ae,hsg,hsg1,hnl]
   rw [<-hh,Bp]
  have hs3:∀b,S b->S b/\w.drew.drew.heap[b]?=w.heap[b]?:=λb hb=>⟨hb,rfl⟩
  have hs23:∀b,S b->S b/\w.drew.drew.heap[b]?=(w.drew.alloc (.cells R1 (ρ.t 9))).heap[b]?:=λb hb=>⟨hb,by rw [(hs2 b hb).2]; rfl⟩
  refine ⟨upd pl j ⟨some w.drew.drew.heap.size,0,Gc⟩,S,?_,?_⟩
  ·rw [Do,Dn]
   refine (hI.drew.drew).grownRow (λb0 hb0=>by rw [hm] at hb0; cases hb0; exact ⟨_,_,_,rfl,Nat.lt_succ_self _⟩) hjn (by rw [hlen3]; exact hG1) hG2 hR3s ?_;rw [e3];exact RdL.append (RdL.append (RdL.mono hs3 hr1) (RdL.mono hs23 hnr)) (RdL.mono hs3 hr2)
  ·rw [Do,Dn]
   exact ⟨e,_,ver+1,false,Dr _ _ _,Al _,λ_=>.inr ⟨w.heap.size,by simp,by rw [hlen3]; simp⟩⟩
end
open Go.Proofs Go.Shelf Go.RowKit
variable {P:Program} {T:Tab} {ρ:Ren} {fn:Func}
theorem zt1 (hT:D3 P T) (L:InsL P ρ fn) (hname:(fn.name== "runtime.NumGoroutine")=false) {e:Kd} (hsz:0<e.size) (hkt:tkd T (ρ.t 24)=some (.sl e)) (hd:E0 T (ρ.t 24)=some (.slice (ρ.t 9))) {dd:TyD} (hdd:Kj T (ρ.t 9)=some dd)
  {fo:Func} (hf:P.funcs[ρ.f 29]?=some fo) (hn:(fo.name== "runtime.NumGoroutine")=false) (hb:fo.body.isNone=true) (hx:Extern.findNext fo=none) (hy:Extern.find fo=some (Extern.SlicesOverlaps.overlaps #[ρ.t 24,ρ.t 24] #[ρ.t 4])) {lim:Nat} (hlim:lim=LIMB/dd.bytes) (hl0:(Nat.beq lim 0)=false):
  Wj P (ρ.f 22) e lim:=by
 refine ⟨enters L.f22 hname ?_,⟨λh=>absurd hl0 (by rw [h]; decide),λ_ C tm me pl S a w j ver l vs i v0 vv hjn hI hm hrow hv hi hl=>?_⟩⟩
 ·obtain ⟨nm,ta,pr,rs,fl,tn,hfn⟩:=L.bd
  rw [hfn]; rfl
 ·refine zdp hT L hsz hkt hd hdd (λargs w b w' h=>?_) hjn hI hm hrow hv hi (by rw [<-hlim]; exact hl)
  rw [run_callFunc_extern hf hn hb hx hy,h];rfl
section
variable {P:Program}
def zh9 {e:Kd} (E:Env (List e.T)) (body:Code) (t:Tmp) (l:List e.T):Option (List e.T):=
 exec E body ⟨[(0,.val (.sl e) l)],[],0⟩ λx σ=>match x with
  | .exit _=>none
  | _=>match tget σ.tm t with
   | .cap e' l'=>TV.as ⟨.sl e',l'⟩ (.sl e)
   | _=>none
theorem AD {e:Kd} {E:Env (List e.T)} (hE:D7 P E) (hm:P.follows .mixedOrders=true) {f:FuncId} {fn:Func} {body:Code} (hf:P.funcs[f]?=some fn) (hb:fn.body=some body)
  (hnp:E.np=0) (hntf:fn.ntmps=E.nt) {t:Tmp} (hres:fn.results.toList=[.tmp t]) (hle:1<=E.nt.n) (hl:Dy body=[]) {l:List e.T} (h:zh9 E body t l=some l)
  (w:World) (S:Nat->Prop) (v:Value) (hS:ShOK S w) (hv:VRd S w (.sl e) l v):
  Calls P f #[v] w fun
   | .returned u,w'=>∃S':Nat->Prop,(∀b,S b->S' b)/\(∀b,S' b->b<w'.heap.size/\(S b\/w.heap.size<=b))/\Ji w [] w'/\VRd S' w' (.sl e) l u/\∃a n,u=.slice a n n
   | _,_=>False:=by
 unfold zh9 at h;obtain ⟨ex,σ,h1,_,h2⟩:=Gg hE hm body (by rw [hl]; intro l hl; cases hl) _ _ _ h;have h1':(ex=.normal\/ex=.ret)/\tget σ.tm t=.cap e l:=by
  have main:(match tget σ.tm t with
   | .cap e' l'=>TV.as ⟨.sl e',l'⟩ (.sl e)
   | _=>none)=some l->tget σ.tm t=.cap e l:=by
   intro h1;split at h1<;>try (cases h1; done)
   rename_i e' l' hl';have:=TV.as_some h1;cases this;exact hl'
  cases ex with
  | exit i=>simp at h1
  | normal=>exact ⟨.inl rfl,main h1⟩
  | ret=>exact ⟨.inr rfl,main h1⟩
 obtain ⟨he,htm⟩:=h1';refine calls_of_wp hf hb ((wpIn_wide (n:=0)).1 ?_)
 let C:Ctx:=⟨w,S,E.nt,[],λ_ _=>False,λ_=>False,none,[],undef⟩
 let pl:Nat->Plc:=λ_=>⟨none,0,0⟩
 refine h2 C hnp rfl (λ_ _ _ h=>h.elim) (bodyPost P fn _) (λpl' S' a' w' hI'=>?_) pl S _ w ?_
 ·have hG:=hI'.tms t
  rw [htm] at hG;obtain ⟨q1,q2⟩:=hG;have hrun:=G6 (P:=P) (w:=w') (fn:=fn) (res:=[(.tmp t,0,false)]) (by rw [hres]; rfl) (vs:=[a'.tmps.getD t undef]) ⟨[],rfl,rfl⟩;have hpost:∃S'':Nat->Prop,(∀b,S b->S'' b)/\(∀b,S'' b->b<w'.heap.size/\(S b\/w.heap.size<=b))/\Ji w [] w'/\VRd S'' w' (.sl e) l (Km [a'.tmps.getD t undef])/\∃a n,Km [a'.tmps.getD t undef]=.slice a n n:=
   ⟨S',hI'.s0,λb hb=>⟨(hI'.sfr b hb).1,(hI'.sfr b hb).2.imp id (λh=>h.resolve_right id)⟩,hI'.fr,q1,q2⟩
  rcases he with rfl | rfl
  ·exact ⟨hI'.df,_,hrun,hpost⟩
  ·exact ⟨hI'.df,_,hrun,hpost⟩
 ·refine ⟨?_,rfl,λt=>?_,λi b hi=>(by cases hi),λi b hi=>(by cases hi),λi j bi bj g _ hi=>(by cases hi),λ_ h=>h,λb hb=>⟨hS.1 b hb,.inl hb⟩,⟨rfl,rfl,rfl,Al _,λ_ _ _ _=>rfl,λe he _=>(by cases he)⟩,⟨λe he=>(by cases he),hS.2,λg hg=>⟨λe he=>(by cases he),λh=>h⟩⟩,λ_ _ h=>h.elim⟩
  ·refine ⟨?_,λd hd=>?_⟩
   ·have hnn:E.nt.n=fn.ntmps:=by rw [<-hntf]
    simp only [B5,Cp,C,Bi,Af,Bz];omega
   ·have hd':E.nt.rd=some d:=hd
    rw [<-hntf] at hd'; cases hd'
  ·show G S w (mget []) pl (tget [(0,.val (.sl e) l)] t) _
   cases t with
   | zero=>
    have e1:(#[v]++Array.replicate (fn.ntmps - #[v].size) undef).getD 0 undef=v:=by
     rw [Ao,Cr (by simp)];simp
    rw [e1];exact hv
   | succ t=>exact trivial
theorem zn9 {e:Kd} {E:Env (List e.T)} (hE:D7 P E) (hm:P.follows .mixedOrders=true) {f:FuncId} {fn:Func} {body:Code} (hf:P.funcs[f]?=some fn) (hb:fn.body=some body) (hname:(fn.name== "runtime.NumGoroutine")=false)
  (hnp:E.np=0) (hntf:fn.ntmps=E.nt) {t:Tmp} (hres:fn.results.toList=[.tmp t]) (hle:1<=E.nt.n) (hl:Dy body=[])
  (heq:∀l,zh9 E body t l=(match decide ((List.length l:Int)=(List.length l:Int)/\(0:Int)<=(List.length l:Int)/\(List.length l:Int)<=(List.length l:Int)) with | true=>some (List.take (Int.toNat (List.length l:Int)) l) | false=>none)):
  Wj P f e 0:=
 ⟨enters hf hname (by rw [hb]; rfl),λ_ w S l v hS hv=>AD hE hm hf hb hnp hntf hres hle hl (by
  rw [heq l];have:decide ((List.length l:Int)=(List.length l:Int)/\(0:Int)<=(List.length l:Int)/\(List.length l:Int)<=(List.length l:Int))=true:=by simp
  rw [this];simp) w S v hS hv,λh=>absurd rfl h⟩
end
def cP (R:Type):Ins->Type
 | []=>Option R
 | (true,k)::l=>k.T->cP R l
 | (false,_)::l=>cP R l
def cK (R:Type) (ins:Ins):Ins->Type
 | []=>cP R ins
 | (b,k)::l=>RT1 b k->cK R ins l
def cA (R:Type) (K:Type):Ins->Type
 | []=>K->Option R
 | (_,k)::l=>k.T->cA R K l
def pP (R:Type):(l:Ins)->(PT l->Option R)->cP R l
 | [],f=>f ()
 | (true,_)::l,f=>λx=>pP R l λy=>f (x,y)
 | (false,_)::l,f=>pP R l f
def pK (R:Type) (ins:Ins):(l:Ins)->(RT l->PT ins->Option R)->cK R ins l
 | [],f=>pP R ins (f ())
 | (_,_)::l,f=>λx=>pK R ins l λy=>f (x,y)
def pA (R:Type) (K:Type):(l:Ins)->cA R K l->AT l->K->Option R
 | [],f,_=>f
 | (_,_)::l,f,x=>pA R K l (f x.1) x.2
def eM (f:FuncId) (ins outs:Ins) (F:(R:Type)->cA R (cK R ins outs) ins):Ent:=
 ⟨f,ins,outs,λR x k=>pA R _ ins (F R) x (pK R ins outs k)⟩
def vI (l:List Kd):Ins:=l.map λk=>(false,k)
def eV (f:FuncId) (ins outs:List Kd) (F:(R:Type)->cA R (cK R (vI ins) (vI outs)) (vI ins)):Ent:=eM f (vI ins) (vI outs) F
def cH (K:Type):List HI->Type
 | []=>K
 | .val _ k::l=>k.T->cH K l
 | .fix _ _::l=>cH K l
 | .var _ k _::l=>k.T->cH K l
 | .row _ e _::l=>List e.T->cH K l
 | .mix _ fl::l=>MT fl->cH K l
 | .map _ kk kv::l=>List (kk.T×kv.T)->cH K l
def aH (K:Type):(H:List HI)->cH K H->HT H->K
 | [],f,_=>f
 | .val _ _::l,f,x=>aH K l (f x.1) x.2
 | .fix _ _::l,f,x=>aH K l f x
 | .var _ _ _::l,f,x=>aH K l (f x.1) x.2
 | .row _ _ _::l,f,x=>aH K l (f x.1) x.2
 | .mix _ _::l,f,x=>aH K l (f x.1) x.2
 | .map _ _ _::l,f,x=>aH K l (f x.1) x.2
def lH (K:Type):(H:List HI)->(HT H->K)->cH K H
 | [],f=>f ()
 | .val _ _::l,f=>λx=>lH K l λy=>f (x,y)
 | .fix _ _::l,f=>lH K l f
 | .var _ _ _::l,f=>λx=>lH K l λy=>f (x,y)
 | .row _ _ _::l,f=>λx=>lH K l λy=>f (x,y)
 | .mix _ _::l,f=>λx=>lH K l λy=>f (x,y)
 | .map _ _ _::l,f=>λx=>lH K l λy=>f (x,y)
def cE (R:Type):Exs->Type
 | []=>Option R
 | (_,h)::l=>cH (Option R) h->cE R l
def aE (R:Type):(l:Exs)->cE R l->KT R l->Option R
 | [],f,_=>f
 | (_,h)::l,f,k=>aE R l (f (lH (Option R) h k.1)) k.2
def lM (id:Nat) (H:List HI) (nx:Nat) (exs:Exs) (L:(R:Type)->cH (cE R exs) H):LEnt:=
 ⟨id,H,nx,exs,λR x ke=>aE R exs (aH _ H (L R) x) ke⟩
def EQ (en:Ent) (E:(R:Type)->Env R) (fn:Func) (res:List (ResultVar×TypeId×Bool)):Prop:=
 ∀R x k,xfun (E R) (Ds fn) res (avs en.ins x) (finK en.outs en.ins k)=en.F R x k
def LEQ (le:LEnt) (E:(R:Type)->Env R) (fn:Func) (p:(R:Type)->cH (cE R ((.normal,le.H)::le.exs)) le.H):Prop:=
 ∀R x kc ke,exec (E R) (Fu le.id (Ds fn)) (stOf le.H x le.nx) (P3 le.H le.exs kc ke)=aE R ((.normal,le.H)::le.exs) (aH _ le.H (p R) x) (kc,ke)
def mE (T:Tab) (eqt:List Nat) (np nt:Nat) (own:List (Nat×Nat)) (ents:List Ent) (les:List LEnt) (R:Type):Env R:=
 ⟨T,eqt,np,nt,E2 own,En ents R,Et les R,[],Ep [],[],λ_ _ _ _=>none⟩
def resB:List ResultVar->List (ResultVar×TypeId×Bool)->Bool
 | [],[]=>true
 | .tmp t::l,(.tmp t',_)::m=>Nat.beq t t'&&resB l m
 | .cell t k::l,(.cell t' k',_)::m=>Nat.beq t t'&&Nat.beq k k'&&resB l m
 | _,_=>false
theorem AR:∀{l:List ResultVar} {m:List (ResultVar×TypeId×Bool)},resB l m=true->l=m.map (·.1)
 | [],[],_=>rfl
 | .tmp t::l,(.tmp t',_)::m,h=>by
  simp only [resB,Ab] at h;rw [Cc,<-AR h.2,Aa h.1]
 | .cell t k::l,(.cell t' k',_)::m,h=>by
  simp only [resB,Ab] at h;rw [Cc,<-AR h.2,Aa h.1.1,Aa h.1.2]
 | .tmp _::_,(.cell _ _,_)::_,h=>by cases h
 | .cell _ _::_,(.tmp _,_)::_,h=>by cases h
 | [],_::_,h=>by cases h
 | .tmp _::_,[],h=>by cases h
 | .cell _ _::_,[],h=>by cases h
def ptrs:Ins->Nat
 | []=>0
 | (true,_)::l=>Nat.succ (ptrs l)
 | (false,_)::l=>ptrs l
theorem AS:∀{l:Ins} (x:AT l),nptr (avs l x)=ptrs l
 | [],_=>rfl
 | (true,k)::l,x=>by
  have:=AS (l:=l) x.2;simp only [avs,nptr,ptrs,this]
 | (false,k)::l,x=>by
  have:=AS (l:=l) x.2;simp only [avs,nptr,ptrs,this]
theorem UP:∀{l:Ins} (x:AT l),(avs l x).length=l.length
 | [],_=>rfl
 | (b,k)::l,x=>by simp only [avs,Af,UP (l:=l) x.2]
def fnB (fn:Func) (np nt:Nat) (res:List (ResultVar×TypeId×Bool)) (ins:Ins):Bool:=
 fn.body.isSome&& !(fn.name== "runtime.NumGoroutine")&&Nat.beq fn.ntmps nt&&resB fn.results.toList res&&Nat.beq (ptrs ins) np&&Nat.ble ins.length nt
structure Seat (P:Program) (T:Tab) (eqt:List Nat):Prop where
 tab:D3 P T
 eq:∀t∈eqt,∀k,tkd T t=some k->EqOK P t k
 mixed:P.follows .mixedOrders=true
def LL (P:Program) (np nt:Nat) (les:List LEnt) (body:Code):List Nat->Prop
 | []=>True
 | i::ids=>(∃e,zce les (H3 (Fu i body))=some e/\e.OK P np nt (Fu i body))/\LL P np nt les body ids
section
variable {P:Program} {T:Tab} {eqt:List Nat}
theorem LL.ok {E:(R:Type)->Env R} {les:List LEnt} {np nt:Nat} (hnp:∀R,(E R).np=np) (hnt:∀R,(E R).nt=nt) (hlo:∀R,(E R).loop=Et les R) {body:Code}:
  ∀{ids:List Nat} {cs:List Code},LL P np nt les body ids->cs=ids.map (Fu · body)->∀R,∀l∈cs,Ja (E R) P l
 | [],cs,_,h,R,l,hl=>by rw [h] at hl; cases hl
 | i::ids,cs,⟨⟨e,h1,h2⟩,h3⟩,h,R,l,hl=>by
  rw [h,Cc] at hl;rcases Cd.1 hl with rfl | hl
  ·exact Lq (hlo R) h1 (by rw [hnp,hnt]; exact h2)
  ·exact LL.ok hnp hnt hlo h3 rfl R l hl
theorem Seat.ok2 (S:Seat P T eqt) {en:Ent} {E:(R:Type)->Env R} {fn:Func} {res:List (ResultVar×TypeId×Bool)} (q:EQ en E fn res) (hE:∀R,D7 P (E R)) (hf:P.funcs[en.f]?=some fn)
  {np nt:Nat} (hnp:∀R,(E R).np=np) (hnt:∀R,(E R).nt=nt) (hB:fnB fn np nt res en.ins=true) (hl:∀R,∀l∈Dy (Ds fn),Ja (E R) P l):en.OK P:=by
 simp only [fnB,Ab,Bool.not_eq_true'] at hB;obtain ⟨⟨⟨⟨⟨h1,h2⟩,h3⟩,h4⟩,h5⟩,h6⟩:=hB;obtain ⟨body,hb⟩:=Option.isSome_iff_exists.1 h1;have hcb:Ds fn=body:=by unfold Ds; rw [hb]; rfl
 exact zug hE S.mixed hf (body:=Ds fn) (by rw [hcb]; exact hb) h2 hnp hnt (Aa h3) (AR h4) (λx=>by rw [AS]; exact Aa h5) (λx=>by rw [UP]; exact Bj h6) hl q
theorem Seat.env (S:Seat P T eqt) {np nt:Nat} {own:List (Nat×Nat)} {ents:List Ent} {les:List LEnt} (he:∀e∈ents,e.OK P) (R:Type):D7 P (mE T eqt np nt own ents les R):=
 ⟨S.tab,S.eq,Dz he,E7,Du,noYl⟩
theorem Seat.ok0 (S:Seat P T eqt) {en:Ent} {fn:Func} {np nt:Nat} {own:List (Nat×Nat)} {ents:List Ent} {res:List (ResultVar×TypeId×Bool)} (q:EQ en (mE T eqt np nt own ents []) fn res) (he:∀e∈ents,e.OK P)
  (hf:P.funcs[en.f]?=some fn) (hB:(fnB fn np nt res en.ins&&SD (Dy (Ds fn)))=true:=by kernel_rfl):en.OK P:=by
 rw [Ab] at hB;refine S.ok2 q (S.env he) hf (λ_=>rfl) (λ_=>rfl) hB.1 (λR l hl=>?_);cases hn:Dy (Ds fn) with
 | nil=>rw [hn] at hl; cases hl
 | cons _ _=>rw [hn] at hB; cases hB.2
theorem Seat.ok1 (S:Seat P T eqt) {en:Ent} {fn:Func} {np nt:Nat} {own:List (Nat×Nat)} {ents:List Ent} {les:List LEnt} {res:List (ResultVar×TypeId×Bool)} (q:EQ en (mE T eqt np nt own ents les) fn res) (he:∀e∈ents,e.OK P)
  (hf:P.funcs[en.f]?=some fn) (ids:List Nat) (hl:LL P np nt les (Ds fn) ids) (hB:fnB fn np nt res en.ins=true:=by kernel_rfl) (hi:Dy (Ds fn)=ids.map (Fu · (Ds fn)):=by kernel_rfl):en.OK P:=
 S.ok2 q (S.env he) hf (λ_=>rfl) (λ_=>rfl) hB (hl.ok (λ_=>rfl) (λ_=>rfl) (λ_=>rfl) hi)
theorem Seat.lok2 (S:Seat P T eqt) {id:Nat} {H:List HI} {nx:Nat} {exs:Exs} {G:Nat->(R:Type)->cH (cE R exs) H} {p:(R:Type)->cH (cE R ((.normal,H)::exs)) H} {E:(R:Type)->Env R} {fn:Func} {np nt:Nat}
  (q:LEQ (lM id H nx exs (G FUEL)) E fn p) (hE:∀R,D7 P (E R)) (hnp:∀R,(E R).np=np) (hnt:∀R,(E R).nt=nt) (hl:∀R,∀l∈Dy (Fu id (Ds fn)),Ja (E R) P l)
  (h0:∀R x ke,aE R exs (aH _ H (G 0 R) x) ke=none) (hs:∀n R x ke,aE R exs (aH _ H (G (n+1) R) x) ke=aE R ((.normal,H)::exs) (aH _ H (p R) x) (λx'=>aE R exs (aH _ H (G n R) x') ke,ke)) (hv:(mvOK np H&&exs.all λp=>mvOK np p.2)=true):
  (lM id H nx exs (G FUEL)).OK P np nt (Fu id (Ds fn)):=by
 have key:∀(n:Nat) (R:Type) (x:HT H) (ke:KT R exs),iter (λR x kc ke=>aE R ((.normal,H)::exs) (aH _ H (p R) x) (kc,ke)) n R x ke=aE R exs (aH _ H (G n R) x) ke:=by
  intro n
  induction n with
  | zero=>intro R x ke; exact (h0 R x ke).symm
  | succ n ih=>
   intro R x ke;simp only [iter];rw [hs,show (λx'=>iter (λR x kc ke=>aE R ((.normal,H)::exs) (aH _ H (p R) x) (kc,ke)) n R x' ke)=λx'=>aE R exs (aH _ H (G n R) x') ke from funext λx'=>ih R x' ke]
 exact ⟨⟨λsv h=>(by cases h),(Rt hv).1⟩,λR x ke r h=>Ib E np nt hnp hnt hE S.mixed hl (λsv h=>(by cases h)) (Rt hv) (T:=λR x kc ke=>aE R ((.normal,H)::exs) (aH _ H (p R) x) (kc,ke)) q FUEL R x ke r ((key FUEL R x ke).trans h)⟩
theorem Seat.lok (S:Seat P T eqt) {id:Nat} {H:List HI} {nx:Nat} {exs:Exs} {G:Nat->(R:Type)->cH (cE R exs) H} {p:(R:Type)->cH (cE R ((.normal,H)::exs)) H} {fn:Func} {np nt:Nat} {own:List (Nat×Nat)} {ents:List Ent} {les:List LEnt}
  (q:LEQ (lM id H nx exs (G FUEL)) (mE T eqt np nt own ents les) fn p) (he:∀e∈ents,e.OK P) (ids:List Nat) (hl:LL P np nt les (Ds fn) ids) (hi:Dy (Fu id (Ds fn))=ids.map (Fu · (Ds fn)):=by kernel_rfl)
  (h0:∀R x ke,aE R exs (aH _ H (G 0 R) x) ke=none:=by intro _ _ _; kernel_rfl) (hs:∀n R x ke,aE R exs (aH _ H (G (n+1) R) x) ke=aE R ((.normal,H)::exs) (aH _ H (p R) x) (λx'=>aE R exs (aH _ H (G n R) x') ke,ke):=by intro _ _ _ _; kernel_rfl) (hv:(mvOK np H&&exs.all λp=>mvOK np p.2)=true:=by kernel_rfl):
  (lM id H nx exs (G FUEL)).OK P np nt (Fu id (Ds fn)):=
 S.lok2 q (S.env he) (λ_=>rfl) (λ_=>rfl) (hl.ok (λ_=>rfl) (λ_=>rfl) (λ_=>rfl) hi) h0 hs hv
theorem Seat.ok3 (S:Seat P T eqt) {en:Ent} {E:(R:Type)->Env R} {fn:Func} {res:List (ResultVar×TypeId×Bool)} (q:EQ en E fn res) (hE:∀R,D7 P (E R)) (hf:P.funcs[en.f]?=some fn)
  {np nt:Nat} {les:List LEnt} (hnp:∀R,(E R).np=np) (hnt:∀R,(E R).nt=nt) (hlo:∀R,(E R).loop=Et les R) (ids:List Nat) (hl:LL P np nt les (Ds fn) ids) (hB:fnB fn np nt res en.ins=true:=by kernel_rfl) (hi:Dy (Ds fn)=ids.map (Fu · (Ds fn)):=by kernel_rfl):en.OK P:=
 S.ok2 q hE hf hnp hnt hB (hl.ok hnp hnt hlo hi)
theorem Seat.lok3 (S:Seat P T eqt) {id:Nat} {H:List HI} {nx:Nat} {exs:Exs} {G:Nat->(R:Type)->cH (cE R exs) H} {p:(R:Type)->cH (cE R ((.normal,H)::exs)) H} {E:(R:Type)->Env R} {fn:Func} {np nt:Nat} {les:List LEnt}
  (q:LEQ (lM id H nx exs (G FUEL)) E fn p) (hE:∀R,D7 P (E R)) (hnp:∀R,(E R).np=np) (hnt:∀R,(E R).nt=nt) (hlo:∀R,(E R).loop=Et les R) (ids:List Nat) (hl:LL P np nt les (Ds fn) ids) (hi:Dy (Fu id (Ds fn))=ids.map (Fu · (Ds fn)):=by kernel_rfl)
  (h0:∀R x ke,aE R exs (aH _ H (G 0 R) x) ke=none:=by intro _ _ _; kernel_rfl) (hs:∀n R x ke,aE R exs (aH _ H (G (n+1) R) x) ke=aE R ((.normal,H)::exs) (aH _ H (p R) x) (λx'=>aE R exs (aH _ H (G n R) x') ke,ke):=by intro _ _ _ _; kernel_rfl) (hv:(mvOK np H&&exs.all λp=>mvOK np p.2)=true:=by kernel_rfl):
  (lM id H nx exs (G FUEL)).OK P np nt (Fu id (Ds fn)):=
 S.lok2 q hE hnp hnt (hl.ok hnp hnt hlo hi) h0 hs hv
end
section
variable {C:Ctx} {tm:Nat->SV} {me:Nat->Option Blk} {pl:Nat->Plc} {S:Nat->Prop} {a:Act} {w:World} {P:Program}
end
section
variable {C:Ctx} {tm:Nat->SV} {me:Nat->Option Blk} {pl:Nat->Plc} {S:Nat->Prop} {a:Act} {w:World} {P:Program}
end
section
variable {P:Program} {np:Nat} {nt:NT} {σ σ1 σ2:St} {e:XX} {c b x y:Code}
end
section
variable {R:Type}
end
section
variable {C:Ctx} {tm:Nat->SV} {me:Nat->Option Blk} {pl:Nat->Plc} {S:Nat->Prop} {a:Act} {w:World} {P:Program}
end
section
variable {R:Type} {P:Program} {E:Env R}
end
section
variable {P:Program}
end
end Go.PG
end
