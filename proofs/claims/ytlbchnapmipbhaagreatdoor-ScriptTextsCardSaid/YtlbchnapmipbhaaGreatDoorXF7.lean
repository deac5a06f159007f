/- A part of the proof; no condition of its own. -/
import Derived.Test.YtlbchnapmipbhaaGreatDoorXF6
import Derived.KernelRfl
set_option linter.unusedVariables false
set_option linter.unusedSimpArgs false
set_option linter.unusedSectionVars false
open Go.IntKind (i64 u64 u8 u32 u16)
open List (replicate)
theorem Di:type_of% @_root_.Nat.pow_succ:=@_root_.Nat.pow_succ
noncomputable section
namespace Go.PG
theorem zka {w:Int} (hw:I64 w) {h:List Int} (hh:H32 h):CmOK (newC w h):=⟨hw,hh,Ee⟩
theorem zi2 {l:List Cm} (hl:CsOK l) {w:Int} (hw:I64 w) {h:List Int} (hh:H32 h):CsOK (putL l w h):=by
 intro c hc;unfold putL at hc;rcases Ai.1 hc with h1 | h1
 ·rcases Ai.1 h1 with h2 | h2
  ·exact hl c (List.mem_of_mem_take h2)
  ·simp only [Cd,C8,or_false] at h2
   rw [h2]; exact zka hw hh
 ·exact hl c (List.mem_of_mem_drop h1)
theorem zbp (l:List Cm) (w:Int) (h:List Int):(putL l w h).length=l.length+1:=by
 have:=Rq l w;simp [putL]; omega
theorem X5 {l:List Cm} (hl:CsOK l) {w:Int} (hw:I64 w) {h:List Int} (hh:H32 h):CsOK (Rp l w h).1/\(Rp l w h).1.length<=l.length+1:=by
 unfold Rp;split
 ·exact ⟨λc hc=>(by cases hc),by simp⟩
 ·split
  ·exact ⟨λc hc=>(by cases hc),by simp⟩
  ·exact ⟨zi2 hl hw hh,Nat.le_of_eq (zbp l w h)⟩
theorem zin {l:List Cm} (hl:CsOK l) (i:Nat) {v:List Int} (hv:H32 v):CsOK (setL l i v):=by
 intro c hc;rcases List.mem_or_eq_of_mem_set hc with h1 | h1
 ·exact hl c h1
 ·rw [h1]
  have:=hl.get i;exact ⟨this.who,this.hash,hv⟩
theorem zbg (l:List Cm) (i:Nat) (v:List Int):(setL l i v).length=l.length:=by unfold setL; exact Dc
theorem OE {l:List Cm} (hl:CsOK l) (w:Int) {v:List Int} (hv:H32 v):CsOK (revS l w v).1/\(revS l w v).1.length<=l.length:=by
 have nil:CsOK []/\([]:List Cm).length<=l.length:=⟨λc hc=>(by cases hc),by simp⟩
 unfold revS;split
 ·exact nil
 ·split
  ·exact nil
  ·split
   ·exact nil
   ·split
    ·exact ⟨zin hl _ hv,Nat.le_of_eq (zbg _ _ _)⟩
    ·exact nil
abbrev Bea:=Int×(List Int×(List Int×(List Cm×Unit)))
abbrev zB:Bea:=((0:Int),(replicate 32 (0:Int)),(replicate 32 (0:Int)),([]:List Cm),())
structure Le (b:Bea):Prop where
 ep:0<=b.1/\b.1<18446744073709551616
 seed:H32 b.2.1
 mix:H32 b.2.2.1
 cs:CsOK b.2.2.2.1
theorem zj9:CsOK []:=λc hc=>(by cases hc)
theorem AA:Le zB:=⟨by show (0:Int)<=0/\(0:Int)<18446744073709551616; omega,Ee,Ee,zj9⟩
def Me (b:Bea):Bool:=Ma b.2.2.2.1&&decide (mixS b.2.2.2.1=b.2.2.1)
theorem YN (R:Type) {b:Bea} (h:Le b) (hn:b.2.2.2.1.length<=500) (k:Bool->Option R):F230 R b k=k (Me b):=by
 simp only [F230,p230,Me];rw [GL R h.cs (by omega)];cases Ma b.2.2.2.1 with
 | false=>simp only [Dd]
 | true=>
  simp only [C7];rw [YK R h.cs (by omega),Is (QP h.cs).1 h.mix.1]
def Tm (b:Bea) (r:List Cm×Int):Bea×Int:=if r.2=0 then ((b.1,b.2.1,mixS r.1,r.1,()),0) else (zB,r.2)
def Gt (b:Bea) (ph w:Int) (h:List Int):Bea×Int:=
 if Me b=false then (zB,1) else if ph=1 then Tm b (Rp b.2.2.2.1 w h) else (zB,7)
def Gs (b:Bea) (ph w:Int) (v:List Int):Bea×Int:=
 if Me b=false then (zB,1) else if ph=2 then Tm b (revS b.2.2.2.1 w v) else (zB,7)
theorem YW (R:Type) (b:Bea) {l:List Cm} (h:CsOK l) (hn:l.length<=1000) (e:Int) (k:Bea->Int->Option R):F184 R b l e k=k (Tm b (l,e)).1 (Tm b (l,e)).2:=by
 simp only [F184,p184,Tm]
 by_cases he:e=0
 ·subst he
  simp only [show ((0:Int) !=0)=false from rfl,Ca];rw [YK R h hn]
 ·have:(e !=0)=true:=by simp [he]
  simp only [this,Ak he]
theorem YX (R:Type) {b:Bea} (h:Le b) (hn:b.2.2.2.1.length<=500) (ph w:Int) (k:Int->Option R):F182 R b ph w k=k (if Me b=false then 1 else if ph=w then 0 else 7):=by
 simp only [F182,p182];rw [YN R h hn];cases Me b with
 | false=>simp only [De,Ca]
 | true=>
  simp only [Db,Dg,By]
  by_cases e:ph=w
  ·have:(ph !=w)=false:=by simp [e]
   simp only [this,Aj e]
  ·have:(ph !=w)=true:=by simp [e]
   simp only [this,Ak e]
theorem zqd (R:Type) {b:Bea} (h:Le b) (hn:b.2.2.2.1.length<=400) (ph:Int) {w:Int} (hw:I64 w) {x:List Int} (hx:H32 x) (k:Bea->Int->Option R):F131 R b ph w x k=k (Gt b ph w x).1 (Gt b ph w x).2:=by
 simp only [F131,p131,Gt];rw [YX R h (by omega)];cases Me b with
 | false=>simp only [Ca,show ((1:Int) !=0)=true from rfl]
 | true=>
  simp only [Dg,By]
  by_cases e:ph=1
  ·simp only [Aj e,show ((0:Int) !=0)=false from rfl]
   obtain ⟨p1,p2⟩:=X5 h.cs hw hx;rw [zp1 R h.cs (by omega),YW R b p1 (by omega)]
  ·simp only [Ak e,show ((7:Int) !=0)=true from rfl]
theorem zqc (R:Type) {b:Bea} (h:Le b) (hn:b.2.2.2.1.length<=400) (ph w:Int) {x:List Int} (hx:H32 x) (k:Bea->Int->Option R):F133 R b ph w x k=k (Gs b ph w x).1 (Gs b ph w x).2:=by
 simp only [F133,p133,Gs];rw [YX R h (by omega)];cases Me b with
 | false=>simp only [Ca,show ((1:Int) !=0)=true from rfl]
 | true=>
  simp only [Dg,By]
  by_cases e:ph=2
  ·simp only [Aj e,show ((0:Int) !=0)=false from rfl]
   obtain ⟨p1,p2⟩:=OE h.cs w hx;rw [zp0 R h.cs (by omega) _ hx,YW R b p1 (by omega)]
  ·simp only [Ak e,show ((7:Int) !=0)=true from rfl]
abbrev Fol:=Int×(List Int×(List Int×(List Int×Unit)))
abbrev zF:Fol:=((0:Int),(replicate 32 (0:Int)),(replicate 32 (0:Int)),(replicate 32 (0:Int)),())
def bEnd (b:Bea):Bea×Fol×List Int×Int:=
 if Me b=false then (zB,zF,[],1) else if b.1=18446744073709551615 then (zB,zF,[],3)
 else ((b.1+1,AN b.2.1 b.1 b.2.2.1,Ks,[],()),(b.1,b.2.1,b.2.2.1,AN b.2.1 b.1 b.2.2.1,()),Kn b.2.2.2.1,0)
theorem zpr (R:Type) {b:Bea} (h:Le b) (hn:b.2.2.2.1.length<=400) (k:Bea->Fol->List Int->Int->Option R):F237 R b k=k (bEnd b).1 (bEnd b).2.1 (bEnd b).2.2.1 (bEnd b).2.2.2:=by
 simp only [F237,p237,bEnd];rw [YN R h (by omega)];cases Me b with
 | false=>simp only [Ca,De]
 | true=>
  simp only [Dg,By,Db];have hep:=h.ep
  by_cases e:b.1=18446744073709551615
  ·have e1:(b.1==18446744073709551615)=true:=by simp [e]
   simp only [Aj e,e1]
  ·have e1:(b.1==18446744073709551615)=false:=by simp [e]
   simp only [Ak e,e1];rw [zu7 R h.seed h.mix,zfl R (by omega),Dt (by omega) (by omega)];rfl
theorem GW {b:Bea} (h:Le b) {r:List Cm×Int} (hr:CsOK r.1) {n:Nat} (hn:r.1.length<=n):Le (Tm b r).1/\(Tm b r).1.2.2.2.1.length<=n:=by
 unfold Tm;split
 ·exact ⟨⟨h.ep,h.seed,QP hr,hr⟩,hn⟩
 ·exact ⟨AA,Ct _⟩
theorem LZ {b:Bea} (h:Le b) (ph:Int) {w:Int} (hw:I64 w) {x:List Int} (hx:H32 x):Le (Gt b ph w x).1/\(Gt b ph w x).1.2.2.2.1.length<=b.2.2.2.1.length+1:=by
 obtain ⟨p1,p2⟩:=X5 h.cs hw hx;unfold Gt;split
 ·exact ⟨AA,Ct _⟩
 ·split
  ·exact GW h p1 p2
  ·exact ⟨AA,Ct _⟩
theorem LX {b:Bea} (h:Le b) (ph w:Int) {x:List Int} (hx:H32 x):Le (Gs b ph w x).1/\(Gs b ph w x).1.2.2.2.1.length<=b.2.2.2.1.length:=by
 obtain ⟨p1,p2⟩:=OE h.cs w hx;unfold Gs;split
 ·exact ⟨AA,Ct _⟩
 ·split
  ·exact GW h p1 p2
  ·exact ⟨AA,Ct _⟩
theorem Vd (a:List Int) (e:Int) (b:List Int):H32 (AN a e b):=VG _
theorem zoe {b:Bea} (h:Le b):Le (bEnd b).1/\(bEnd b).1.2.2.2.1.length=0:=by
 unfold bEnd;split
 ·exact ⟨AA,rfl⟩
 ·split
  ·exact ⟨AA,rfl⟩
  ·have:=h.ep
   exact ⟨⟨⟨by show (0:Int)<=b.1+1; omega,by show b.1+1<(18446744073709551616:Int); omega⟩,Vd _ _ _,Ee,zj9⟩,rfl⟩
theorem KF:H32 (replicate 32 (0:Int)):=Ee
theorem UO (b:Bea):(bEnd b).2.2.1.length<=b.2.2.2.1.length:=by
 unfold bEnd;split
 ·exact Ct _
 ·split
  ·exact Ct _
  ·exact IK _
theorem SG {x b:Int} (hx:U32 x) (hb:U32 b):ior .u64 (ishl .u64 x 32) b=x*4294967296+b:=by
 unfold U32 at hx hb;obtain ⟨n,rfl⟩:∃n:Nat,x=n:=⟨x.toNat,by omega⟩
 obtain ⟨c,rfl⟩:∃c:Nat,b=c:=⟨b.toNat,by omega⟩
 have e2:ishl .u64 (n:Int) 32=((n*4294967296:Nat):Int):=by
  unfold ishl;rw [show (2:Int)^(min (32:Int).toNat IntKind.u64.bits)=4294967296 by decide,Dt (by omega) (by omega)];simp
 rw [e2,DG,Cy,Cy,BitVec.toNat_or,C0,C0,B7 (by omega),B7 (by omega)];have h6:=Nat.shiftLeft_add_eq_or_of_lt (i:=32) (b:=c) (by omega) n;rw [Nat.shiftLeft_eq] at h6;rw [show n*4294967296=n*2^32 by rfl,<-h6];simp
theorem zpc (R:Type) {a b:Int} (ha:U32 a) (hb:U32 b) (k:Int->Option R):F277 R a b k=k (a*4294967296+b):=by
 have u:=ha; have v:=hb;unfold U32 at u v;simp only [F277,p277];rw [Dt (n:=a) (by omega) (by omega),Dt (n:=b) (by omega) (by omega),SG ha hb]
abbrev Src:=Int×(List Int×(Int×(List Int×(Int×(Int×Unit)))))
abbrev Rdr:=Src×(List Int×(Int×(Bool×Unit)))
def atS (s:Src):Int:=s.2.2.2.2.2.1
def Fr (s:Src) (n:Int):Src:=(s.1,s.2.1,s.2.2.1,s.2.2.2.1,s.2.2.2.2.1,n,())
structure SOK (s:Src):Prop where
 tape:AllU8 s.2.1
 len:s.2.1.length<=1000000
 bits:U64 s.2.2.1
 seed:H32 s.2.2.2.1
 dom:U64 s.2.2.2.2.1
 at_:U64 s.2.2.2.2.2.1
theorem SOK.set {s:Src} (h:SOK s) {n:Int} (hn:U64 n):SOK (Fr s n):=⟨h.tape,h.len,h.bits,h.seed,h.dom,hn⟩
def Es (s:Src):Bool:=if s.1=1 then decide (s.2.2.1<=8*(s.2.1.length:Int)/\s.2.2.2.2.2.1<=s.2.2.1) else decide (s.1=2/\s.2.2.2.2.2.1<=4611686018427387904)
def endS (s:Src):Int:=if s.1=1 then s.2.2.1 else 4611686018427387904
def Hu (s:Src):Int:=if Es s=true then endS s - s.2.2.2.2.2.1 else 0
def Y2 (s:Src) (n:Int):Int:=if s.1=1 then s.2.1.getD (n/8).toNat 0/2^(7 - n % 8).toNat % 2 else bitS s.2.2.2.1 s.2.2.2.2.1 n
theorem YB (R:Type) {s:Src} (h:SOK s) (k:Int->Bool->Option R):F331 R s k=(if s.1=1 then k s.2.2.1 (decide (s.2.2.1<=8*(s.2.1.length:Int))) else if s.1=2 then k 4611686018427387904 true else k 0 false):=by
 have hl:=h.len;simp only [F331,p331];rw [Dt (n:=(s.2.1.length:Int)) (by omega) (by omega),Dt (n:=(s.2.1.length:Int)*8) (by omega) (by omega),Int.mul_comm]
 by_cases h1:s.1=1
 ·simp [h1]
 ·by_cases h2:s.1=2
  ·simp [h2]
  ·simp only [C4.2 h1,C4.2 h2,Ak h1,Ak h2]
theorem Wx (R:Type) {s:Src} (h:SOK s) (k:Bool->Option R):F318 R s k=k (Es s):=by
 simp only [F318,p318];rw [YB R h];unfold Es
 by_cases h1:s.1=1
 ·simp only [h1,Ca]
  by_cases h2:s.2.2.1<=8*(s.2.1.length:Int)
  ·simp [h2]
  ·simp [h2]
 ·simp only [h1,By]
  by_cases h2:s.1=2
  ·simp [h2]
  ·simp [h2]
theorem Jn {s:Src} (h:Es s=true):(s.1=1/\s.2.2.1<=8*(s.2.1.length:Int)/\s.2.2.2.2.2.1<=s.2.2.1/\endS s=s.2.2.1)\/(s.1=2/\s.2.2.2.2.2.1<=4611686018427387904/\endS s=4611686018427387904):=by
 unfold Es at h;unfold endS
 by_cases h1:s.1=1
 ·rw [Aj h1] at h ⊢
  have:=Bw h;exact .inl ⟨h1,this.1,this.2,rfl⟩
 ·rw [Ak h1] at h ⊢
  have:=Bw h;exact .inr ⟨this.1,this.2,rfl⟩
theorem Rx {s:Src} (hs:SOK s):0<=Hu s/\Hu s<=4611686018427387904/\(Es s=true->s.2.2.2.2.2.1+Hu s=endS s):=by
 have h1:=hs.at_; have h2:=hs.bits; have h3:=hs.len;unfold U64 at h1 h2;unfold Hu
 by_cases h:Es s=true
 ·rw [Aj h]
  rcases Jn h with ⟨_,a2,a3,a4⟩ | ⟨_,a2,a3⟩
  ·rw [a4]; omega
  ·rw [a3]; omega
 ·rw [Ak h]
  exact ⟨by omega,by omega,λe=>absurd e h⟩
theorem zou (R:Type) {s:Src} (h:SOK s) (k:Int->Option R):F327 R s k=k (Hu s):=by
 have hl:=Rx h;simp only [F327,p327];rw [Wx R h,YB R h];unfold Hu at*
 by_cases hr:Es s=true
 ·have hr':=hr
  simp only [hr,Db,Ca] at hl ⊢;rcases Jn hr' with ⟨a1,a2,a3,a4⟩ | ⟨a1,a2,a3⟩
  ·rw [Aj a1,a4,Dt (by rw [a4] at hl; omega) (by rw [a4] at hl; omega)]
  ·rw [Ak (by omega),Aj a1,a3,Dt (by rw [a3] at hl; omega) (by rw [a3] at hl; omega)]
 ·simp only [Bool.not_eq_true] at hr
  simp [hr]
theorem Y1 (s:Src) (n:Int):0<=Y2 s n/\Y2 s n<=1:=by
 unfold Y2 bitS;split<;>omega
def RI (r:Rdr):Prop:=r.2.2.2.1=true->r.2.1=Qb r.1.2.2.2.1 r.1.2.2.2.2.1 r.2.2.1
theorem SJ {x:Int} (hx:U8 x):iand .u8 x 1=x % 2:=by
 unfold U8 at hx;obtain ⟨y,rfl⟩:∃y:Nat,x=y:=⟨x.toNat,by omega⟩
 have e:iand .u8 (y:Int) 1=((BitVec.ofInt 8 (y:Int)&&& BitVec.ofInt 8 ((1:Nat):Int)).toNat:Int):=GU _;rw [e,Cy,Cy,BitVec.toNat_and,C0,C0,B7 (by omega),B7 (by omega),show (1:Nat)=2^1 - 1 by rfl,Nat.and_two_pow_sub_one_eq_mod];simp
theorem NH (R:Type) (r:Rdr) {y:Int} (hy:U8 y) (hat:0<=atS r.1/\atS r.1<9000000000000000000) (q:List Int×(Int×(Bool×Unit))) (k:Int->Rdr->Option R):
  u328 R r y q k=k (y/2^(7 - atS r.1 % 8).toNat % 2) (Fr r.1 (atS r.1+1),q):=by
 unfold atS at*;simp only [u328];unfold Fr;generalize r.1.2.2.2.2.2.1=n at*;rw [C2 hat.1,Dt (n:=7 - n % 8) (by omega) (by omega),Dt (n:=n+1) (by omega) (by omega)];obtain ⟨m,hm⟩:∃m:Nat,7 - n % 8=m:=⟨(7 - n % 8).toNat,by omega⟩
 rw [hm,Bv];have e8:ishr .u8 y (m:Int)=y/2^m:=by
  unfold ishr;rw [show IntKind.u8.bits=8 from rfl,Bv,A6 (by omega),Cz _ (by have:=two_pow_pos m; omega)]
 unfold U8 at hy;have hp:(0:Int)<2^m:=Int.pow_pos (by decide);have hq:0<=y/2^m/\y/2^m<=y:=⟨Int.ediv_nonneg hy.1 (by omega),Int.ediv_le_self _ hy.1⟩
 rw [e8,SJ (by unfold U8; omega),Dt (by omega) (by omega)]
theorem zot (R:Type) {r:Rdr} (h:SOK r.1) (hi:RI r) (hk:(r.1.1=1/\atS r.1<8*(r.1.2.1.length:Int))\/r.1.1=2) (hat:atS r.1<9000000000000000000) (k:Int->Rdr->Option R):
  ∃q,RI (Fr r.1 (atS r.1+1),q)/\F328 R r k=k (Y2 r.1 (atS r.1)) (Fr r.1 (atS r.1+1),q):=by
 have hl:=h.len;have ha:=h.at_;have hat':0<=atS r.1/\atS r.1<9000000000000000000:=⟨ha.1,hat⟩
 simp only [F328];show ∃q,RI (Fr r.1 (atS r.1+1),q)/\(F334 R r (u64.wrap (Int.tdiv (atS r.1) 8)) λy2 p3=>match decide (0<=u64.wrap (7 - Int.tmod (atS r.1) 8)) with | true=>u328 R r y2 p3.2 k | false=>none)=_
 have hdc:decide (0<=u64.wrap (7 - Int.tmod (atS r.1) 8))=true:=by
  rw [Fj]; exact C1 (by omega)
 simp only [hdc];rw [C3 hat'.1,Dt (n:=atS r.1/8) (by omega) (by omega)];simp only [F334,p334];generalize hn:atS r.1=n at*;unfold Y2;rcases hk with ⟨a1,a2⟩ | a1
 ·have e1:(r.1.1==1)=true:=by simp [a1]
  have hb:bnd (n/8) (r.1.2.1.length:Int)=true:=by unfold bnd; simp; omega
  simp only [e1,hb];refine ⟨r.2,hi,?_⟩;rw [Aj a1,NH R r (D2 h.tape u8_0 _) (by rw [hn]; exact hat'),hn]
 ·have e1:(r.1.1==1)=false:=by simp [a1]
  simp only [e1];rw [Ak (by omega),C3 (by omega),Dt (n:=n/8/32) (by omega) (by omega),C2 (by omega)];have hb:bnd (n/8 % 32) 32=true:=by unfold bnd; simp; omega
  have hbit:(Qb r.1.2.2.2.1 r.1.2.2.2.2.1 (n/8/32)).getD (n/8 % 32).toNat 0/2^(7 - n % 8).toNat % 2=bitS r.1.2.2.2.1 r.1.2.2.2.2.1 n:=by
   unfold bitS;rw [show n/8/32=n/256 by omega,show n/8 % 32=n % 256/8 by omega]
  have hu:=λi=>D2 (UK r.1.2.2.2.1 r.1.2.2.2.2.1 (n/8/32)).2 u8_0 i
  have go:∀q,u328 R r ((Qb r.1.2.2.2.1 r.1.2.2.2.2.1 (n/8/32)).getD (n/8 % 32).toNat 0) q k=k (bitS r.1.2.2.2.1 r.1.2.2.2.2.1 n) (Fr r.1 (n+1),q):=λq=>by
   rw [NH R r (hu _) (by rw [hn]; exact hat'),hn,hbit]
  have Kp:(F335 R r.1.2.2.2.1 r.1.2.2.2.2.1 (n/8/32) λy5=>match bnd (n/8 % 32) 32 with
    | true=>u328 R r (y5.getD (n/8 % 32).toNat 0) (r.1,y5,n/8/32,true,r.2.2.2.2).2 k
    | false=>none)=k (bitS r.1.2.2.2.1 r.1.2.2.2.2.1 n) (Fr r.1 (n+1),(Qb r.1.2.2.2.1 r.1.2.2.2.2.1 (n/8/32),n/8/32,true,())):=by
   rw [zop R h.seed];simp only [hb];exact go _
  cases hs:r.2.2.2.1 with
  | false=>
   simp only [De];exact ⟨_,λ_=>rfl,Kp⟩
  | true=>
   simp only [Db]
   by_cases hne:n/8/32=r.2.2.1
   ·have e2:(n/8/32 !=r.2.2.1)=false:=by simp [hne]
    simp only [e2,hb];refine ⟨r.2,λe=>hi e,?_⟩;have:=hi hs;rw [<-hne] at this;rw [this];exact go _
   ·have e2:(n/8/32 !=r.2.2.1)=true:=by simp [hne]
    simp only [e2];exact ⟨_,λ_=>rfl,Kp⟩
def Qo (s:Src) (a:Int):Nat->Int
 | 0=>0
 | n+1=>2*Qo s a n+Y2 s (a+n)
theorem Mh (s:Src) (a:Int):∀n:Nat,0<=Qo s a n/\Qo s a n<2^n
 | 0=>by simp [Qo]
 | n+1=>by
  have ih:=Mh s a n;have hb:=Y1 s (a+n);simp only [Qo];rw [Int.pow_succ];omega
theorem zdn {x b:Int} (hx:0<=x/\x<9223372036854775808) (hb:0<=b/\b<=1):ior .u64 (ishl .u64 x 1) b=2*x+b:=by
 obtain ⟨n,rfl⟩:∃n:Nat,x=n:=⟨x.toNat,by omega⟩
 obtain ⟨c,rfl⟩:∃c:Nat,b=c:=⟨b.toNat,by omega⟩
 have e2:ishl .u64 (n:Int) 1=((n*2:Nat):Int):=by
  unfold ishl;rw [show (2:Int)^(min (1:Int).toNat IntKind.u64.bits)=2 by decide,Dt (by omega) (by omega)];simp
 rw [e2,DG,Cy,Cy,BitVec.toNat_or,C0,C0,B7 (by omega),B7 (by omega)];have h6:=Nat.shiftLeft_add_eq_or_of_lt (i:=1) (b:=c) (by omega) n;rw [Nat.shiftLeft_eq] at h6;rw [show n*2=n*2^1 by rfl,<-h6];simp; omega
theorem Ri (s:Src) (x y:Int):Fr (Fr s x) y=Fr s y:=rfl
theorem zof (s:Src) (x:Int):atS (Fr s x)=x:=rfl
theorem VK (R:Type) {s:Src} (h:SOK s) {K:Nat} (hK:K<=64) (hk:(s.1=1/\atS s+K<=8*(s.2.1.length:Int))\/s.1=2) (hat:atS s+K<9000000000000000000) (x4:Src) (k0:Int->Src->Rdr->Option R):
  ∀(m i:Nat) (r:Rdr),i<=K->K - i<m->r.1=Fr s (atS s+i)->RI r->∃q,Qg m R (Qo s (atS s) i) (K:Int) (i:Int) x4 r k0=k0 (Qo s (atS s) K) x4 (Fr s (atS s+K),q)
 | 0,i,_,_,h,_,_=>by omega
 | m+1,i,r,h1,h2,hr,hi=>by
  simp only [Qg,PA];have h0:=h.at_;unfold U64 at h0;have h0':0<=atS s:=h0.1
  by_cases hlt:i<K
  ·have hd:decide ((i:Int)<(K:Int))=true:=by simpa using hlt
   simp only [hd];have hra:atS r.1=atS s+i:=by rw [hr]; rfl
   have hlen:r.1.2.1=s.2.1:=by rw [hr]; rfl
   have hknd:r.1.1=s.1:=by rw [hr]; rfl
   obtain ⟨q,g1,g2⟩:=zot R (r:=r) (by rw [hr]; exact h.set (by unfold U64; omega)) hi (by
    rw [hra,hlen,hknd];rcases hk with ⟨b1,b2⟩ | b1
    ·exact .inl ⟨b1,by omega⟩
    ·exact .inr b1) (by rw [hra]; omega) (λy8 p9=>Qg m R (ior .u64 (ishl .u64 (Qo s (atS s) i) 1) y8) (K:Int) (i64.wrap ((i:Int)+1)) x4 p9 k0)
   have hv:=Mh s (atS s) i;have hp:(2:Int)^i<=9223372036854775808:=by
    have:(2:Nat)^i<=2^63:=Nat.pow_le_pow_right (by omega) (by omega);have e:((2^i:Nat):Int)=(2:Int)^i:=by simp
    omega
   have hbt:Y2 r.1 (atS r.1)=Y2 s (atS s+i):=by rw [hra,hr]; rfl
   obtain ⟨q2,g3⟩:=VK R h hK hk hat x4 k0 m (i+1) (Fr r.1 (atS r.1+1),q) (by omega) (by omega) (by
    show Fr r.1 (atS r.1+1)=_;rw [hra,hr,Ri]
    congr 1
    omega) g1
   refine ⟨q2,?_⟩;rw [g2,zdn ⟨hv.1,by omega⟩ (Y1 _ _),hbt,wrap_i64 (n:=(i:Int)+1) (by omega) (by omega)];exact g3
  ·have:i=K:=by omega
   subst this;have hd:decide ((i:Int)<(i:Int))=false:=by simp
   simp only [hd];refine ⟨r.2,?_⟩;rw [<-hr]
def Jw (s:Src) (k:Int):Int×Src×Int:=
 if Es s=true/\0<=k/\k<=64 then (if k<=Hu s then (Qo s (atS s) k.toNat,Fr s (atS s+k),0) else (0,s,8)) else (0,s,1)
theorem Tz {s:Src} (hs:SOK s) (hr:Es s=true) {k:Nat} (hk:(k:Int)<=Hu s):((s.1=1/\atS s+k<=8*(s.2.1.length:Int))\/s.1=2)/\atS s+k<9000000000000000000:=by
 have hl:=Rx hs;have:=hl.2.2 hr;have hln:=hs.len;unfold atS;rcases Jn hr with ⟨a1,a2,a3,a4⟩ | ⟨a1,a2,a3⟩
 ·rw [a4] at this
  exact ⟨.inl ⟨a1,by omega⟩,by omega⟩
 ·exact ⟨.inr a1,by omega⟩
theorem zox (R:Type) {s:Src} (hs:SOK s) {n:Int} (k:Int->Src->Int->Option R):F315 R s n k=k (Jw s n).1 (Jw s n).2.1 (Jw s n).2.2:=by
 simp only [F315,p315];rw [Wx R hs];unfold Jw
 by_cases hr:Es s=true
 ·simp only [hr,Db,true_and]
  by_cases h1:n<0
  ·rw [Ak (by omega)]
   simp only [C1 h1]
  ·simp only [C5 h1]
   by_cases h2:n>64
   ·rw [Ak (by omega)]
    simp only [C1 h2]
   ·rw [Aj (by omega)]
    simp only [C5 h2];rw [Dt (n:=n) (by omega) (by omega),zou R hs]
    by_cases h3:n>Hu s
    ·rw [Ak (by omega)]
     simp only [C1 h3]
    ·rw [Aj (by omega)]
     simp only [C5 h3];obtain ⟨m,rfl⟩:∃m:Nat,n=m:=⟨n.toNat,by omega⟩
     have hroom:=Tz hs hr (k:=m) (by omega);obtain ⟨q,g⟩:=VK R hs (K:=m) (by omega) hroom.1 hroom.2 (0,[],0,replicate 32 0,0,0,()) (λx7 x8 x9=>k x7 x9.1 0) FUEL 0 (s,replicate 32 0,0,false,()) (by omega) (by rw [Dv]; omega) (by simp only [Int.natCast_zero,Int.add_zero]; rfl) (λe=>by cases e);refine g.trans ?_;rw [Bv]
 ·simp only [Bool.not_eq_true] at hr
  simp [hr]
def F3 (a:List Int) (d:Int):Src:=(2,[],0,a,d,0,())
theorem Xi {a:List Int} (ha:H32 a) {d:Int} (hd:U64 d):SOK (F3 a d):=⟨λy hy=>by simp [F3] at hy,by simp [F3],by unfold U64 F3; simp,ha,hd,by unfold U64 F3; simp⟩
theorem zpd (R:Type) (a:List Int) (d:Int) (k:Src->Option R):F276 R a d k=k (F3 a d):=by
 simp only [F276,p276]; rfl
theorem HF {s:Src} {n:Nat} (hr:Es s=true) (h1:n<=64) (h2:(n:Int)<=Hu s):Jw s n=(Qo s (atS s) n,Fr s (atS s+n),0):=by
 unfold Jw;rw [Aj ⟨hr,by omega,by omega⟩,Aj h2,Bv]
theorem OD {s:Src} (hs:SOK s) (hr:Es s=true) {k:Nat} (hk:(k:Int)<=Hu s):Es (Fr s (atS s+k))=true/\Hu (Fr s (atS s+k))=Hu s - k:=by
 have hl:=(Rx hs).2.2 hr;have h0:0<=s.2.2.2.2.2.1:=hs.at_.1;have hR:Es (Fr s (atS s+k))=true:=by
  unfold Es atS;rcases Jn hr with ⟨a1,a2,a3,a4⟩ | ⟨a1,a2,a3⟩
  ·rw [Aj (show (Fr s (s.2.2.2.2.2.1+k)).1=1 from a1)]
   rw [a4] at hl;exact C1 ⟨a2,by show s.2.2.2.2.2.1+k<=s.2.2.1; omega⟩
  ·rw [Ak (show ¬(Fr s (s.2.2.2.2.2.1+k)).1=1 by show ¬s.1=1; omega)]
   rw [a3] at hl;exact C1 ⟨a1,by show s.2.2.2.2.2.1+k<=_; omega⟩
 refine ⟨hR,?_⟩;have e:Hu (Fr s (atS s+k))=endS s - (s.2.2.2.2.2.1+k):=by
  unfold Hu;rw [Aj hR];rfl
 rw [e];omega
def Kr:Nat->Nat->Nat
 | 0,_=>0
 | f+1,x=>if x=0 then 0 else Kr f (x/2)+1
theorem Ue:∀(f x:Nat),x<2^f->x<2^Kr f x/\(x≠0->2^(Kr f x - 1)<=x)/\Kr f x<=f
 | 0,x,h=>by simp at h; subst h; simp [Kr]
 | f+1,x,h=>by
  rw [Di] at h;simp only [Kr]
  by_cases h0:x=0
  ·subst h0; simp
  ·rw [Ak h0]
   obtain ⟨h1,h2,h3⟩:=Ue f (x/2) (by omega);refine ⟨?_,λ_=>?_,by omega⟩
   ·rw [Di]; omega
   ·rw [Ch]
    by_cases hx:x/2=0
    ·have e:Kr f (x/2)=0:=by
      rw [hx];cases f with
      | zero=>rfl
      | succ f=>simp [Kr]
     rw [e,Nat.pow_zero]; omega
    ·have:=h2 hx
     have hb:Kr f (x/2)≠0:=λe=>by rw [e,Nat.pow_zero] at h1; omega
     obtain ⟨b,hb⟩:∃b,Kr f (x/2)=b+1:=⟨Kr f (x/2) - 1,by omega⟩
     rw [hb,Ch] at this;rw [hb,Di];omega
theorem VJ (R:Type) (k0:Int->Option R):∀(f m x c:Nat),x<2^f->f<=64->f<m->c+f<=1000->Qf m R (x:Int) (c:Int) k0=k0 ((c+Kr f x:Nat):Int)
 | _,0,_,_,_,_,h,_=>by omega
 | 0,m+1,x,c,h,_,_,_=>by
  simp at h; subst h;simp only [Qf,HX,Kr];rfl
 | f+1,m+1,x,c,h,hf,hm,hc=>by
  simp only [Qf,HX,Kr];rw [Di] at h
  by_cases h0:x=0
  ·subst h0
   simp
  ·have e:((x:Int) !=0)=true:=by simp [h0]
   have e2:ishr .u64 (x:Int) 1=((x/2:Nat):Int):=by
    have:=zil (x:=(x:Int)) 1 (by omega);refine this.trans ?_;omega
   simp only [e,Ak h0];have ih:=VJ R k0 f m (x/2) (c+1) (by omega) (by omega) (by omega) (by omega);rw [wrap_i64 (n:=(c:Int)+1) (by omega) (by omega),e2,show c+(Kr f (x/2)+1)=c+1+Kr f (x/2) by omega];exact ih
def Fi (n:Int):Nat:=Kr 64 (n - 1).toNat
theorem QO {n:Int} (hn:U64 n):Fi n<=64/\n<=2^Fi n/\(2<=n->1<=Fi n/\(2:Int)^(Fi n - 1)<n):=by
 unfold U64 at hn;obtain ⟨h1,h2,h3⟩:=Ue 64 (n - 1).toNat (by omega);unfold Fi;generalize Kr 64 (n - 1).toNat=b at*;have e:∀j:Nat,((2^j:Nat):Int)=(2:Int)^j:=λj=>by simp
 refine ⟨h3,?_,λh=>⟨?_,?_⟩⟩
 ·rw [<-e]; omega
 ·cases b with
  | zero=>rw [Nat.pow_zero] at h1; omega
  | succ b=>omega
 ·have:=h2 (by omega)
  rw [<-e]; omega
theorem zow (R:Type) {n:Int} (hn:U64 n) (k:Int->Option R):F316 R n k=k (Fi n:Int):=by
 have hn':=hn;unfold U64 at hn;simp only [F316,p316,F329,p329];have e:u64.wrap ((if (1:Int)>n then (1:Int) else n) - 1)=((n - 1).toNat:Int):=by
  split
  ·rw [Dt (by omega) (by omega)]; omega
  ·rw [Dt (by omega) (by omega)]; omega
 rw [e];have:=VJ R (λx1=>k x1) 64 FUEL (n - 1).toNat 0 (by omega) (by omega) (by rw [Dv]; omega) (by omega);rw [Bf] at this;exact this
def Hp (n:Int):Nat->Src->Int×Src×Int
 | 0,s=>(0,s,9)
 | m+1,s=>if (Jw s (Fi n)).2.2=0 then (if (Jw s (Fi n)).1<n then ((Jw s (Fi n)).1,(Jw s (Fi n)).2.1,0) else Hp n m (Jw s (Fi n)).2.1) else (0,s,(Jw s (Fi n)).2.2)
theorem Xb {s:Src} (hs:SOK s) (k:Int):SOK (Jw s k).2.1:=by
 unfold Jw;split
 ·rename_i h
  split
  ·rename_i h2
   have hl:=Rx hs;have h0:0<=atS s:=hs.at_.1;have:=Tz hs h.1 (k:=k.toNat) (by omega);refine hs.set ?_;unfold U64;omega
  ·exact hs
 ·exact hs
theorem Tx {s:Src} {k:Nat} (h:(Jw s k).2.2=0):Es s=true/\k<=64/\(k:Int)<=Hu s/\Jw s k=(Qo s (atS s) k,Fr s (atS s+k),0):=by
 unfold Jw at h;split at h
 ·rename_i h1
  split at h
  ·rename_i h2
   exact ⟨h1.1,by omega,h2,HF h1.1 (by omega) h2⟩
  ·simp at h
 ·simp at h
theorem VM (R:Type) {n:Int} (hn:U64 n) (a:Nat) (ha:a<=64) (x5:Src) (k0:Int->Int->Src->Option R) (k1:Src->Src->Option R):
  ∀(m i:Nat) (s:Src),i<=a->a - i<m->SOK s->(∀y:Src,k1 y x5=k0 0 9 y)->Sv m R n (a:Int) (i:Int) s x5 k0 k1=k0 (Hp n (a - i) s).1 (Hp n (a - i) s).2.2 (Hp n (a - i) s).2.1
 | 0,i,_,_,h,_,_=>by omega
 | m+1,i,s,h1,h2,hs,hk=>by
  simp only [Sv,PD]
  by_cases hi:i<a
  ·have hd:decide ((i:Int)<(a:Int))=true:=by simpa using hi
   simp only [hd];rw [zow R hn,zox R hs,show a - i=(a - (i+1))+1 by omega];simp only [Hp];have ih:=VM R hn a ha x5 k0 k1 m (i+1) (Jw s (Fi n)).2.1 (by omega) (by omega) (Xb hs _) hk;generalize Jw s (Fi n)=t at*
   by_cases he:t.2.2=0
   ·have e1:(t.2.2 !=0)=false:=by simp [he]
    simp only [e1,Aj he]
    by_cases hx:t.1<n
    ·simp only [C1 hx,Aj hx]
    ·simp only [C5 hx,Ak hx]
     rw [wrap_i64 (n:=(i:Int)+1) (by omega) (by omega)];exact ih
   ·have e1:(t.2.2 !=0)=true:=by simp [he]
    simp only [e1,Ak he]
  ·have:i=a:=by omega
   subst this;have hd:decide ((i:Int)<(i:Int))=false:=by simp
   simp only [hd,Da,Hp];exact hk s
def Fa (s:Src) (n m:Int):Int×Src×Int:=if Es s=true/\0<n/\n<9223372036854775808/\0<m/\m<=64 then Hp n m.toNat s else (0,s,1)
theorem YG (R:Type) {s:Src} (hs:SOK s) {n:Int} (hn:U64 n) (m:Int) (k:Int->Src->Int->Option R):F296 R s n m k=k (Fa s n m).1 (Fa s n m).2.1 (Fa s n m).2.2:=by
 simp only [F296,p296,F314,p314];rw [Wx R hs];unfold Fa
 by_cases hr:Es s=true
 ·simp only [hr,true_and]
  by_cases h1:n>0
  ·simp only [C1 h1]
   by_cases h2:n<9223372036854775808
   ·simp only [C1 h2]
    by_cases h3:m>0
    ·simp only [C1 h3]
     by_cases h4:m<=64
     ·simp only [C1 h4,Db]
      rw [Aj ⟨h1,h2,h3,h4⟩];obtain ⟨a,rfl⟩:∃a:Nat,m=a:=⟨m.toNat,by omega⟩
      rw [Bv];exact VM R hn a (by omega) (0,[],0,replicate 32 0,0,0,()) (λx2 x3 x4=>k x2 x4 x3) (λx5 x6=>k 0 x5 9) FUEL 0 s (by omega) (by rw [Dv]; omega) hs (λy=>rfl)
     ·rw [Ak (λh=>h4 h.2.2.2)]
      simp only [C5 h4,De]
    ·rw [Ak (λh=>h3 h.2.2.1)]
     simp only [C5 h3,De]
   ·rw [Ak (λh=>h2 h.2.1)]
    simp only [C5 h2,De]
  ·rw [Ak (λh=>h1 h.1)]
   simp only [C5 h1,De]
 ·simp only [Bool.not_eq_true] at hr
  simp [hr]
theorem V2 {n:Int}:∀(m:Nat) (s:Src),(Hp n m s).2.2=0->∃j,1<=j/\j<=m/\(Hp n m s).1<n/\(Hp n m s).2.1=Fr s (atS s+Fi n*j)/\(Fi n*j:Int)<=Hu s/\∀i<j,Hp n i s=(0,Fr s (atS s+Fi n*i),9)
 | 0,s,h=>by simp [Hp] at h
 | m+1,s,h=>by
  simp only [Hp] at h ⊢;split at h
  ·rename_i h1
   obtain ⟨g1,g2,g3,g4⟩:=Tx h1;rw [Aj h1];split at h
   ·rename_i h2
    rw [Aj h2];refine ⟨1,by omega,by omega,h2,?_,by omega,λi hi=>?_⟩
    ·rw [g4]
     show Fr s (atS s+Fi n)=Fr s (atS s+Fi n*((1:Nat):Int));rw [Int.natCast_one,Int.mul_one]
    ·have:i=0:=by omega
     subst this;simp only [Hp,Int.natCast_zero,Int.mul_zero,Int.add_zero];rfl
   ·rename_i h2
    rw [Ak h2];have hmul:∀i:Nat,((Fi n:Nat):Int)*((i+1:Nat):Int)=Fi n+Fi n*i:=λi=>by
     rw [show ((i+1:Nat):Int)=(i:Int)+1 by omega,Int.mul_add,Int.mul_one,Int.add_comm]
    obtain ⟨j,j1,j2,j3,j4,j5,j6⟩:=V2 m _ h;refine ⟨j+1,by omega,by omega,j3,?_,?_,λi hi=>?_⟩
    ·rw [j4,g4]
     show Fr (Fr s (atS s+Fi n)) (atS s+Fi n+Fi n*j)=_;rw [Ri,hmul,Int.add_assoc]
    ·rw [g4] at j5
     have hle:Hu (Fr s (atS s+Fi n))<=Hu s - Fi n:=by
      unfold Hu at g3 ⊢;rw [Aj g1] at g3 ⊢;split
      ·show endS s - (atS s+Fi n)<=endS s - atS s - Fi n
       omega
      ·show 0<=endS s - atS s - Fi n
       have:endS s - s.2.2.2.2.2.1=endS s - atS s:=rfl;omega
     rw [hmul];have j5':(Fi n:Int)*j<=Hu (Fr s (atS s+Fi n)):=j5;omega
    ·cases i with
     | zero=>
      simp only [Hp,Int.natCast_zero,Int.mul_zero,Int.add_zero];rfl
     | succ i=>
      have:=j6 i (by omega);simp only [Hp];rw [Aj h1,Ak h2,this,g4];show (0,Fr (Fr s (atS s+Fi n)) (atS s+Fi n+Fi n*i),9)=_;rw [Ri,hmul,Int.add_assoc]
  ·rename_i h1
   exact absurd h h1
def sumS (l:List Int) (n:Nat):Int:=(l.take n).sum
theorem Jj (l:List Int):sumS l 0=0:=rfl
theorem E8 {l:List Int} {i:Nat} (h:i<l.length):sumS l (i+1)=sumS l i+l.getD i 0:=by
 unfold sumS;have et:l.take (i+1)=l.take i++[l[i]]:=by rw [Cx h]
 rw [et,List.sum_append];simp [h]
def AllU64 (l:List Int):Prop:=∀x∈l,U64 x
theorem Lw:U64 0:=by unfold U64; omega
theorem Xf {l:List Int} (h:AllU64 l) {a:Nat}:∀d:Nat,sumS l a<=sumS l (a+d)
 | 0=>Bu _
 | d+1=>by
  have ih:=Xf h (a:=a) d
  by_cases hd:a+d<l.length
  ·have:=(D2 h Lw (a+d)).1
   rw [<-Bn,E8 hd];omega
  ·have e:sumS l (a+(d+1))=sumS l (a+d):=by
    unfold sumS;rw [A8 (by omega),A8 (by omega)]
   rw [e]; exact ih
theorem Gj {l:List Int} (h:AllU64 l) {a b:Nat} (hab:a<=b):sumS l a<=sumS l b:=by
 have:=Xf h (a:=a) (b - a)
 rwa [show a+(b - a)=b by omega] at this
theorem D6 {l:List Int} (h:AllU64 l) (n:Nat):0<=sumS l n:=by
 have:=Gj h (Ct n)
 rwa [Jj] at this
def totS (l:List Int):Int:=sumS l l.length
theorem Hh {l:List Int} (h:AllU64 l) (n:Nat):sumS l n<=totS l:=by
 by_cases hn:n<=l.length
 ·exact Gj h hn
 ·unfold totS sumS
  rw [A8 (by omega),Bl];exact Bu _
def lowF:Nat->Nat->Nat
 | 0,_=>1
 | f+1,n=>if n % 2=0 then 2*lowF f (n/2) else 1
def lowN (n:Nat):Nat:=lowF 20 n
def ALLN:List Nat:=List.range' 1 1000
theorem QU:(ALLN.all λn=>decide (iand .i64 (n:Int) (i64.wrap (0 - (n:Int)))=(lowN n:Int))&&decide (1<=lowN n/\lowN n<=n))=true:=by kernel_rfl
theorem P5 {n:Nat} (h1:1<=n) (h2:n<=1000):iand .i64 (n:Int) (i64.wrap (0 - (n:Int)))=(lowN n:Int)/\1<=lowN n/\lowN n<=n:=by
 have:=B9.1 QU n (by unfold ALLN; rw [List.mem_range']; exact ⟨n - 1,by omega,by omega⟩);simp only [Ab,Df] at this;exact ⟨this.1,this.2⟩
theorem Wz (R:Type) {n:Nat} (h1:1<=n) (h2:n<=1000) (k:Int->Option R):F290 R (n:Int) k=k (lowN n:Int):=by
 simp only [F290,p290];rw [(P5 h1 h2).1]
theorem zcd (m:Nat) (h1:1<=m) (h2:m<=500):lowN (2*m)=2*lowN m:=by
 have:(List.range' 1 500).all (λm=>decide (lowN (2*m)=2*lowN m))=true:=by kernel_rfl
 have:=B9.1 this m (by rw [List.mem_range']; exact ⟨m - 1,by omega,by omega⟩);exact Bw this
theorem zkb (m:Nat):lowN (2*m+1)=1:=by
 unfold lowN lowF;rw [Ak (by omega)]
theorem QT:∀(k q:Nat),(2*q+1)*2^k<=1000->lowN ((2*q+1)*2^k)=2^k
 | 0,q,_=>by rw [Nat.pow_zero,Nat.mul_one,zkb]
 | k+1,q,h=>by
  rw [Di,<-Nat.mul_assoc] at h;have hp:0<(2*q+1)*2^k:=Nat.mul_pos (by omega) (Nat.pow_pos (by omega));rw [Di,<-Nat.mul_assoc,Nat.mul_comm _ 2,zcd _ hp (by omega),QT k q (by omega),Nat.mul_comm]
def Hr (l:List Int) (q:Nat):Int:=sumS l (q+1) - sumS l (q+1 - lowN (q+1))
def F2 (l:List Int):List Int:=(List.range l.length).map (Hr l)
theorem Ij (l:List Int):(F2 l).length=l.length:=by simp [F2]
theorem W8 {l:List Int} {q:Nat} (h:q<l.length):(F2 l).getD q 0=Hr l q:=by
 simp [F2,h]
theorem KX {l:List Int} (h:AllU64 l) (ht:totS l<9223372036854775808) (q:Nat):0<=Hr l q/\Hr l q<9223372036854775808:=by
 have h1:=Gj h (a:=q+1 - lowN (q+1)) (b:=q+1) (by omega);have h2:=D6 h (q+1 - lowN (q+1));have h3:=Hh h (q+1);unfold Hr;omega
theorem EJ (R:Type) {l:List Int} (h:AllU64 l) (ht:totS l<9223372036854775808) (hlen:l.length<=500) (k0:Int->Option R) (n0:Nat) (hn0:n0<=l.length):∀(m n:Nat),n<=n0->n<m->Ss m R (n:Int) (sumS l n0 - sumS l n) (F2 l,()) k0=k0 (sumS l n0)
 | 0,n,_,h=>by omega
 | m+1,n,h1,h2=>by
  simp only [Ss,OZ]
  by_cases hn:n=0
  ·subst hn
   have hd:decide (((0:Nat):Int)>0)=false:=by simp
   simp only [hd,Jj,Int.sub_zero]
  ·have hd:decide ((n:Int)>0)=true:=C1 (by omega)
   have hl:=P5 (n:=n) (by omega) (by omega);rw [wrap_i64 (n:=(n:Int) - 1) (by omega) (by omega),show (n:Int) - 1=((n - 1:Nat):Int) by omega];have hbn:bnd ((n - 1:Nat):Int) ((F2 l).length:Int)=true:=by rw [Ij]; unfold bnd; simp; omega
   simp only [hd,hbn,Bv];rw [W8 (by omega),Wz R (by omega) (by omega)];have e:Hr l (n - 1)=sumS l n - sumS l (n - lowN n):=by
    unfold Hr;rw [show n - 1+1=n by omega]
   have q1:=Gj h (a:=n - lowN n) (b:=n) (by omega);have q2:=D6 h (n - lowN n);have q3:=Hh h n0;have q4:=Gj h h1;rw [e,Dt (n:=sumS l n0 - sumS l n+(sumS l n - sumS l (n - lowN n))) (by omega) (by omega),wrap_i64 (n:=(n:Int) - (lowN n:Int)) (by omega) (by omega),show (n:Int) - (lowN n:Int)=((n - lowN n:Nat):Int) by omega,show sumS l n0 - sumS l n+(sumS l n - sumS l (n - lowN n))=sumS l n0 - sumS l (n - lowN n) by omega];exact EJ R h ht hlen k0 n0 hn0 m (n - lowN n) (by omega) (by omega)
theorem GI (R:Type) {l:List Int} (h:AllU64 l) (ht:totS l<9223372036854775808) (hlen:l.length<=500) (k:Int->Option R):F308 R (F2 l,()) k=k (totS l):=by
 simp only [F308,p308,F325,p325,F324,p324,Ij];have:=EJ R h ht hlen (λx1=>k x1) l.length (Al _) FUEL l.length (Al _) (by rw [Dv]; omega);rw [Int.sub_self] at this;exact this
def Owns (l:List Int) (x:Int) (i:Nat):Prop:=i<l.length/\sumS l i<=x/\x<sumS l (i+1)
theorem Owns.uniq {l:List Int} (h:AllU64 l) {x:Int} {i j:Nat} (hi:Owns l x i) (hj:Owns l x j):i=j:=by
 obtain ⟨a1,a2,a3⟩:=hi;obtain ⟨b1,b2,b3⟩:=hj;rcases Ci i j with h1 | h1 | h1
 ·have:=Gj h (a:=i+1) (b:=j) (by omega); omega
 ·exact h1
 ·have:=Gj h (a:=j+1) (b:=i) (by omega); omega
theorem Zr (R:Type) {n:Nat} (hn:n<=500) (t:List Int×Unit) (htl:t.1.length=n) (x:Int) (k0:Int->Int->Int->(List Int×Unit)->Option R):∀(m k:Nat),2^k<=n\/k=0->n+2<m+2^k->∃j,n<2^(j+1)/\(2^j<=n\/j=0)/\Qh m R x 0 ((2^k:Nat):Int) t k0=k0 x 0 ((2^j:Nat):Int) t
 | 0,k,h1,h2=>by
  rcases h1 with h1 | rfl
  ·omega
  ·rw [Nat.pow_zero] at h2; omega
 | m+1,k,h1,h2=>by
  simp only [Qh,PB,F325,p325,htl];have hpp:0<2^k:=Nat.pow_pos (by omega);have hp:2^k<=500:=by
   rcases h1 with h1 | rfl
   ·omega
   ·rw [Nat.pow_zero]; omega
  have e:ishl .i64 ((2^k:Nat):Int) 1=((2^(k+1):Nat):Int):=by
   unfold ishl;rw [show (2:Int)^(min (1:Int).toNat IntKind.i64.bits)=2 by decide,Di];generalize 2^k=p at*;rw [wrap_i64 (by omega) (by omega)]; omega
  rw [e]
  by_cases hk:2^(k+1)<=n
  ·have hd:decide (((2^(k+1):Nat):Int)<=(n:Int))=true:=C1 (by omega)
   simp only [hd];exact Zr R hn t htl x k0 m (k+1) (.inl hk) (by rw [Di]; omega)
  ·have hd:decide (((2^(k+1):Nat):Int)<=(n:Int))=false:=C5 (by omega)
   simp only [hd];exact ⟨k,by omega,h1,rfl⟩
theorem Zq (R:Type) {l:List Int} (h:AllU64 l) (ht:totS l<9223372036854775808) (hlen:l.length<=400) {x:Int} (hx:0<=x/\x<totS l) (k0:Int->Option R):∀(m k q:Nat),2^(k+1)*q<=l.length->2^k<=500->sumS l (2^(k+1)*q)<=x->(l.length<2^(k+1)*q+2^(k+1)\/x<sumS l (2^(k+1)*q+2^(k+1)))->k+1<m->
  ∃i,Owns l x i/\Lc m R (x - sumS l (2^(k+1)*q)) ((2^(k+1)*q:Nat):Int) ((2^k:Nat):Int) (F2 l,()) k0=k0 (i:Int)
 | 0,_,_,_,_,_,_,h=>by omega
 | m+1,k,q,h1,h2,h3,h4,h5=>by
  have hpp:0<2^k:=Nat.pow_pos (by omega);have e1:2^(k+1)*q=2^k*(2*q):=by rw [Di,Nat.mul_assoc]
  have hlow:2^(k+1)*q+2^k<=1000->lowN (2^(k+1)*q+2^k)=2^k:=λhh=>by
   have e2:2^(k+1)*q+2^k=(2*q+1)*2^k:=by rw [e1,Ag,Nat.one_mul,Nat.mul_comm (2*q)]
   rw [e2] at hh ⊢;exact QT k q hh
  simp only [Lc,HY,F325,p325,Ij];have hd:decide (((2^k:Nat):Int)>0)=true:=C1 (by omega);have eshr:ishr .i64 ((2^k:Nat):Int) 1=((2^k/2:Nat):Int):=by
   unfold ishr;rw [show (2:Int)^(min (1:Int).toNat IntKind.i64.bits)=2 by decide,Cz _ (by omega)];omega
  simp only [hd,eshr];rw [wrap_i64 (n:=((2^(k+1)*q:Nat):Int)+((2^k:Nat):Int)) (by omega) (by omega),show ((2^(k+1)*q:Nat):Int)+((2^k:Nat):Int)=((2^(k+1)*q+2^k:Nat):Int) by omega]
  -- what comes behind,for the next step
  have next:∀(q':Nat) (_:2^k*q'<=l.length) (_:sumS l (2^k*q')<=x) (_:l.length<2^k*q'+2^k\/x<sumS l (2^k*q'+2^k)),
    ∃i,Owns l x i/\Lc m R (x - sumS l (2^k*q')) ((2^k*q':Nat):Int) ((2^k/2:Nat):Int) (F2 l,()) k0=k0 (i:Int):=by
   intro q' g1 g2 g3;cases k with
   | zero=>
    rw [Nat.pow_zero,Nat.one_mul] at g1 g2 g3 ⊢;have hlt:q'<l.length:=by
     refine Classical.byContradiction λhh=>?_
     have:sumS l q'=totS l:=by
      unfold totS sumS;rw [A8 (by omega),Bl]
     omega
    refine ⟨q',⟨hlt,g2,?_⟩,?_⟩
    ·rcases g3 with g3 | g3
     ·have:q'+1=l.length:=by omega
      rw [this]; exact hx.2
     ·exact g3
    ·cases m with
     | zero=>omega
     | succ m=>
      simp only [Lc,HY];rfl
   | succ k=>
    have e3:2^(k+1)/2=2^k:=by rw [Di]; omega
    rw [e3];exact Zq R h ht hlen hx k0 m k q' g1 (by rw [Di] at h2; omega) g2 g3 (by omega)
  by_cases hn:2^(k+1)*q+2^k<=l.length
  ·have hd2:decide (((2^(k+1)*q+2^k:Nat):Int)<=(l.length:Int))=true:=C1 (by omega)
   have hbn:bnd ((2^(k+1)*q+2^k - 1:Nat):Int) (l.length:Int)=true:=by unfold bnd; simp; omega
   rw [wrap_i64 (n:=((2^(k+1)*q+2^k:Nat):Int) - 1) (by omega) (by omega),show ((2^(k+1)*q+2^k:Nat):Int) - 1=((2^(k+1)*q+2^k - 1:Nat):Int) by omega];simp only [hd2,hbn,Bv];have en:Hr l (2^(k+1)*q+2^k - 1)=sumS l (2^(k+1)*q+2^k) - sumS l (2^(k+1)*q):=by
    unfold Hr;rw [show 2^(k+1)*q+2^k - 1+1=2^(k+1)*q+2^k by omega,hlow (by omega),Ch]
   have eg:(F2 l).getD (2^(k+1)*q+2^k - 1) 0=sumS l (2^(k+1)*q+2^k) - sumS l (2^(k+1)*q):=by rw [W8 (by omega),en]
   simp only [eg];have q1:=Gj h (a:=2^(k+1)*q) (b:=2^(k+1)*q+2^k) (by omega);have q2:=D6 h (2^(k+1)*q)
   by_cases hle:sumS l (2^(k+1)*q+2^k)<=x
   ·have hd3:decide (sumS l (2^(k+1)*q+2^k) - sumS l (2^(k+1)*q)<=x - sumS l (2^(k+1)*q))=true:=C1 (by omega)
    simp only [hd3];rw [Dt (n:=x - sumS l (2^(k+1)*q) - (sumS l (2^(k+1)*q+2^k) - sumS l (2^(k+1)*q))) (by omega) (by omega),show x - sumS l (2^(k+1)*q) - (sumS l (2^(k+1)*q+2^k) - sumS l (2^(k+1)*q))=x - sumS l (2^(k+1)*q+2^k) by omega];have e4:2^(k+1)*q+2^k=2^k*(2*q+1):=by rw [e1,Nat.mul_add,Nat.mul_one]
    have e5:2^(k+1)*q+2^(k+1)=2^k*(2*q+1)+2^k:=by
     rw [<-e4,Di]; omega
    rw [e4];rw [e4] at hle hn;rw [e5] at h4;exact next (2*q+1) hn hle h4
   ·have hd3:decide (sumS l (2^(k+1)*q+2^k) - sumS l (2^(k+1)*q)<=x - sumS l (2^(k+1)*q))=false:=C5 (by omega)
    simp only [hd3];rw [e1] at h1 h3 hle ⊢;exact next (2*q) h1 h3 (.inr (by omega))
  ·have hd2:decide (((2^(k+1)*q+2^k:Nat):Int)<=(l.length:Int))=false:=C5 (by omega)
   simp only [hd2];rw [e1] at h1 h3 hn ⊢;exact next (2*q) h1 h3 (.inl (by omega))
theorem JW (R:Type) {l:List Int} (h:AllU64 l) (ht:totS l<9223372036854775808) (hlen:l.length<=400) {x:Int} (hx:0<=x/\x<totS l) (k:Int->Int->Option R):∃i,Owns l x i/\F309 R (F2 l,()) x k=k (i:Int) 0:=by
 simp only [F309,p309];rw [GI R h ht (by omega)];have hd:decide (x>=totS l)=false:=C5 (by omega);simp only [hd];obtain ⟨j,j1,j2,j3⟩:=Zr R (n:=l.length) (by omega) (F2 l,()) (Ij l) x (λx3 x4 x5 x6=>Lc FUEL R x3 x4 x5 x6 (λx7=>k x7 0)) FUEL 0 (.inr rfl) (by rw [Dv]; omega);have hj:2^j<=500:=by
  rcases j2 with j2 | rfl
  ·omega
  ·rw [Nat.pow_zero]; omega
 have hjm:j<=500:=by have:=Nat.lt_two_pow_self (n:=j); omega
 obtain ⟨i,hi,g⟩:=Zq R h ht hlen hx (λx7=>k x7 0) FUEL j 0 (by simp) hj (by rw [Nat.mul_zero,Jj]; exact hx.1) (.inl (by omega)) (by rw [Dv]; omega);refine ⟨i,hi,?_⟩;rw [Nat.mul_zero,Jj,Int.sub_zero] at g;exact j3.trans g
def J0 (j:Nat):Nat->Nat
 | 0=>j - lowN j
 | m+1=>if (m+1)+lowN (m+1)=j then m+1 else J0 j m
theorem DF:((List.range' 1 400).all λc=>decide (J0 (c+lowN c) (c - 1)=c - lowN c))=true:=by kernel_rfl
theorem DE:((List.range' 1 400).all λj=>decide (J0 j (j - 1)=j - 1))=true:=by kernel_rfl
theorem ztz {c:Nat} (h1:1<=c) (h2:c<=400):J0 (c+lowN c) (c - 1)=c - lowN c:=
 Bw (B9.1 DF c (by rw [List.mem_range']; exact ⟨c - 1,by omega,by omega⟩))
theorem zz7 {j:Nat} (h1:1<=j) (h2:j<=400):J0 j (j - 1)=j - 1:=
 Bw (B9.1 DE j (by rw [List.mem_range']; exact ⟨j - 1,by omega,by omega⟩))
theorem Yh {j:Nat} (h1:1<=j):∀(d:Nat),j+d<=1000->J0 j (j - 1+d)=J0 j (j - 1)
 | 0,_=>rfl
 | d+1,h=>by
  have ih:=Yh h1 d (by omega);rw [show j - 1+(d+1)=(j - 1+d)+1 by omega];simp only [J0];have:=P5 (n:=j - 1+d+1) (by omega) (by omega);rw [Ak (by omega),ih]
def G8 (l:List Int) (m q:Nat):Int:=sumS l (J0 (q+1) m) - sumS l (q+1 - lowN (q+1))+l.getD q 0
def Iy (l:List Int) (m:Nat):List Int:=(List.range l.length).map (G8 l m)
theorem T2 (l:List Int):Iy l 0=l:=by
 unfold Iy G8;apply List.ext_getElem?;intro i;rw [Cl]
 by_cases h:i<l.length
 ·rw [List.getElem?_range h]
  simp [J0,h]
 ·rw [Cj (by simp; omega),Cj (by omega)]
  rfl
theorem Oh {l:List Int} {q m:Nat} (hq:q<l.length) (hl:l.length<=400) (hm:q<=m) (hm2:m<=500):G8 l m q=Hr l q:=by
 unfold G8 Hr;have h1:=zz7 (j:=q+1) (by omega) (by omega);have h2:=Yh (j:=q+1) (by omega) (m - q) (by omega);rw [show q+1 - 1+(m - q)=m by omega] at h2;rw [h2,h1,E8 hq];show sumS l (q+1 - 1) - _+_=_;rw [Ch];omega
theorem T3 {l:List Int} (hl:l.length<=400):Iy l l.length=F2 l:=by
 unfold Iy F2;refine List.map_congr_left (λq hq=>?_);have hq':q<l.length:=by simpa using hq
 exact Oh hq' hl (by omega) (by omega)
theorem X8 (l:List Int) (m:Nat):(Iy l m).length=l.length:=by simp [Iy]
theorem Nc {l:List Int} {m q:Nat} (h:q<l.length):(Iy l m).getD q 0=G8 l m q:=by simp [Iy,h]
theorem IL:∀(j m:Nat),J0 j m<=max m (j - lowN j)
 | j,0=>by simp [J0]
 | j,m+1=>by
  have:=IL j m;simp only [J0];split<;>omega
theorem EL (R:Type) {l:List Int} (h:AllU64 l) (ht:totS l<9223372036854775808) (hlen:l.length<=200) (x2:List Int×Unit) (k0:(List Int×Unit)->List Int->Option R):∀(m i:Nat),i<=l.length->l.length - i<m->
  Sy m R ((i+1:Nat):Int) x2 (Iy l i) k0=k0 x2 (F2 l)
 | 0,i,_,h=>by omega
 | m+1,i,h1,h2=>by
  simp only [Sy,PH,X8]
  by_cases hi:i<l.length
  ·have hd:decide (((i+1:Nat):Int)<=(l.length:Int))=true:=C1 (by omega)
   have hlo:=P5 (n:=i+1) (by omega) (by omega);simp only [hd];rw [Wz R (by omega) (by omega),wrap_i64 (n:=((i+1:Nat):Int)+(lowN (i+1):Int)) (by omega) (by omega),wrap_i64 (n:=((i+1:Nat):Int)+1) (by omega) (by omega),show ((i+1:Nat):Int)+1=((i+1+1:Nat):Int) by omega];have keep:∀q,q+1≠i+1+lowN (i+1)->G8 l (i+1) q=G8 l i q:=λq hq=>by
    unfold G8;simp only [J0];rw [Ak (by omega)]
   by_cases hup:i+1+lowN (i+1)<=l.length
   ·have hd2:decide (((i+1:Nat):Int)+(lowN (i+1):Int)<=(l.length:Int))=true:=C1 (by omega)
    rw [wrap_i64 (n:=((i+1:Nat):Int)+(lowN (i+1):Int) - 1) (by omega) (by omega),wrap_i64 (n:=((i+1:Nat):Int) - 1) (by omega) (by omega),show ((i+1:Nat):Int)+(lowN (i+1):Int) - 1=((i+lowN (i+1):Nat):Int) by omega,show ((i+1:Nat):Int) - 1=(i:Int) by omega];have hb1:bnd ((i+lowN (i+1):Nat):Int) (l.length:Int)=true:=by unfold bnd; simp; omega
    have hb2:bnd (i:Int) (l.length:Int)=true:=by unfold bnd; simp; omega
    simp only [hd2,hb1,hb2,Bv];rw [Nc (by omega),Nc (by omega)];have q1:G8 l i i=Hr l i:=Oh hi (by omega) (Al _) (by omega);have qA:=ztz (c:=i+1) (by omega) (by omega);rw [Ch] at qA;have q2:G8 l i (i+lowN (i+1))+Hr l i=G8 l (i+1) (i+lowN (i+1)):=by
     unfold G8 Hr;rw [show i+lowN (i+1)+1=i+1+lowN (i+1) by omega,qA];simp only [J0,Ca];omega
    have q3:0<=G8 l (i+1) (i+lowN (i+1))/\G8 l (i+1) (i+lowN (i+1))<18446744073709551616:=by
     unfold G8;rw [show i+lowN (i+1)+1=i+1+lowN (i+1) by omega];simp only [J0,Ca];have hlo2:=P5 (n:=i+1+lowN (i+1)) (by omega) (by omega);have a1:=Hh h (i+1);have a2:=D6 h (i+1+lowN (i+1) - lowN (i+1+lowN (i+1)));have a3:=D2 h Lw (i+lowN (i+1));have a4:sumS l (i+1+lowN (i+1) - lowN (i+1+lowN (i+1)))<=sumS l (i+1):=by
      have:=IL (i+1+lowN (i+1)) i;refine Gj h ?_;have hge:∀m,i+1+lowN (i+1) - lowN (i+1+lowN (i+1))<=J0 (i+1+lowN (i+1)) m\/True:=λ_=>.inr trivial
      have hchk:((List.range' 1 400).all λc=>decide (c+lowN c - lowN (c+lowN c)<=c))=true:=by kernel_rfl
      exact Bw (B9.1 hchk (i+1) (by rw [List.mem_range']; exact ⟨i,by omega,by omega⟩))
     have a5:=E8 (l:=l) (i:=i+lowN (i+1)) (by omega);have a6:=Hh h (i+lowN (i+1)+1);have a7:=Gj h (a:=i+1) (b:=i+lowN (i+1)) (by omega);unfold U64 at a3;omega
    rw [q1,q2,Dt (by omega) (by omega)];have e:(Iy l i).set (i+lowN (i+1)) (G8 l (i+1) (i+lowN (i+1)))=Iy l (i+1):=by
     apply List.ext_getElem?;intro q;unfold Iy;rw [List.getElem?_set,Cl,Cl];simp only [C6,List.length_range]
     by_cases hq:q<l.length
     ·rw [List.getElem?_range hq]
      by_cases eq:i+lowN (i+1)=q
      ·subst eq
       rw [Aj rfl,Aj hq]; rfl
      ·rw [Ak eq]
       simp only [Option.map_some];rw [keep q (by omega)]
     ·rw [Cj (by simp; omega),Ak (by omega)]
      rfl
    rw [e];exact EL R h ht hlen x2 k0 m (i+1) (by omega) (by omega)
   ·have hd2:decide (((i+1:Nat):Int)+(lowN (i+1):Int)<=(l.length:Int))=false:=C5 (by omega)
    simp only [hd2];have e:Iy l i=Iy l (i+1):=by
     unfold Iy;refine List.map_congr_left (λq hq=>?_);have hq':q<l.length:=by simpa using hq
     rw [keep q (by omega)]
    rw [e];exact EL R h ht hlen x2 k0 m (i+1) (by omega) (by omega)
  ·have:i=l.length:=by omega
   subst this;have hd:decide (((l.length+1:Nat):Int)<=(l.length:Int))=false:=C5 (by omega);simp only [hd];rw [T3 (by omega)]
theorem GM (R:Type) {a b:Int} (ha:0<=a/\a<9223372036854775808) (hb:U64 b) (k:Int->Bool->Option R):F225 R a b k=(if a+b<9223372036854775808 then k (a+b) true else k 0 false):=by
 unfold U64 at hb;simp only [F225,p225,F263,F262,p262,F286,p286];have hd:decide (0<=a/\0<=b/\(0:Int)<=0/\(0:Int)<=1)=true:=C1 (by omega);simp only [hd,Int.add_zero]
 by_cases h1:a+b<9223372036854775808
 ·have e1:(a+b)/18446744073709551616=0:=by omega
  have e2:(a+b) % 18446744073709551616=a+b:=by omega
  rw [Aj h1,e1,e2];have n0:((0:Int) !=0)=false:=rfl;simp only [n0,C1 h1,Db]
 ·rw [Ak h1]
  by_cases h2:a+b<18446744073709551616
  ·have e1:(a+b)/18446744073709551616=0:=by omega
   have e2:(a+b) % 18446744073709551616=a+b:=by omega
   rw [e1,e2];have n0:((0:Int) !=0)=false:=rfl;simp only [n0,C5 h1,De]
  ·have e1:((a+b)/18446744073709551616 !=0)=true:=by
    have:¬(a+b)/18446744073709551616=0:=by omega
    simp [this]
   simp only [e1]
theorem VU (R:Type) {l:List Int} (h:AllU64 l) (hlen:l.length<=1000000) (k0:Int->Bool->Option R) (k1:Int->Option R):∀(m i:Nat),i<=l.length->l.length - i<m->sumS l i<9223372036854775808->
  Ta m R (sumS l i) l (l.length:Int) (i:Int) k0 k1=(if totS l<9223372036854775808 then k1 (totS l) else k0 0 false)
 | 0,i,_,h,_=>by omega
 | m+1,i,h1,h2,h3=>by
  simp only [Ta,PS]
  by_cases hi:i<l.length
  ·have hd:decide ((i:Int)<(l.length:Int))=true:=by simpa using hi
   have hbn:bnd (i:Int) (l.length:Int)=true:=by unfold bnd; simp; omega
   simp only [hd,hbn,Bv];rw [GM R ⟨D6 h i,h3⟩ (D2 h Lw i),<-E8 hi]
   by_cases h4:sumS l (i+1)<9223372036854775808
   ·rw [Aj h4]
    simp only [Db];rw [wrap_i64 (n:=(i:Int)+1) (by omega) (by omega)];exact VU R h hlen k0 k1 m (i+1) (by omega) (by omega) h4
   ·rw [Ak h4,Ak (by have:=Hh h (i+1); omega)]
    simp only [De]
  ·have:i=l.length:=by omega
   subst this;have hd:decide ((l.length:Int)<(l.length:Int))=false:=by simp
   simp only [hd];rw [Aj (show totS l<_ from h3)];rfl
theorem P1 (R:Type) {l:List Int} (h:AllU64 l) (hlen:l.length<=1000000) (k:Int->Bool->Option R):F223 R l k=(if totS l<9223372036854775808 then k (totS l) true else k 0 false):=by
 simp only [F223,p223];exact VU R h hlen (λx2 x3=>k x2 x3) (λx4=>k x4 true) FUEL 0 (by omega) (by rw [Dv]; omega) (by rw [Jj]; decide)
theorem JX (R:Type) {l:List Int} (h:AllU64 l) (hlen:l.length<=200) (k:(List Int×Unit)->Int->Option R):F272 R l k=(if totS l<9223372036854775808 then k (F2 l,()) 0 else k ([],()) 11):=by
 simp only [F272,p272];have hd:decide ((l.length:Int)>1048576)=false:=C5 (by omega);simp only [hd];rw [P1 R h (by omega)]
 by_cases ht:totS l<9223372036854775808
 ·rw [Aj ht,Aj ht]
  simp only [Db,F289];have hc:decide (List.length ([]:List Int)+l.length<=17592186044416)=true:=by simp; omega
  simp only [hc];have:=EL R h ht hlen ([],()) (λx6 x7=>k (x7,()) 0) FUEL 0 (by omega) (by rw [Dv]; omega);rw [T2] at this;exact this
 ·rw [Ak ht,Ak ht]
  simp only [De]
def ownN (l:List Int) (x:Int):Nat:=((List.range l.length).find? (λi=>decide (sumS l i<=x/\x<sumS l (i+1)))).getD 0
theorem BG {l:List Int} (h:AllU64 l) {x:Int} {i:Nat} (hi:Owns l x i):ownN l x=i:=by
 unfold ownN;cases hf:(List.range l.length).find? (λi=>decide (sumS l i<=x/\x<sumS l (i+1))) with
 | none=>
  have:=List.find?_eq_none.1 hf i (by simpa using hi.1);simp only [Df] at this;exact absurd hi.2 this
 | some j=>
  have h1:=List.find?_some hf;have h2:=List.mem_of_find?_eq_some hf;simp only [Df] at h1;have hj:Owns l x j:=⟨by simpa using h2,h1⟩
  exact hj.uniq h hi
def Fs (l:List Int) (s:Src) (m:Int):Int×Src×Int:=
 if totS l<9223372036854775808 then (if totS l=0 then (0,s,10) else if (Fa s (totS l) m).2.2=0 then ((ownN l (Fa s (totS l) m).1:Int),(Fa s (totS l) m).2.1,0) else (0,(Fa s (totS l) m).2.1,(Fa s (totS l) m).2.2)) else (0,s,11)
theorem K3 {n:Int}:∀(m:Nat) (s:Src),0<=(Hp n m s).1
 | 0,s=>Bu _
 | m+1,s=>by
  simp only [Hp];split
  ·split
   ·rename_i h _
    obtain ⟨_,_,_,g⟩:=Tx h;rw [g];exact (Mh s (atS s) _).1
   ·exact K3 m _
  ·exact Bu _
theorem Ot {s:Src} {n m:Int} (h:(Fa s n m).2.2=0):0<=(Fa s n m).1/\(Fa s n m).1<n:=by
 unfold Fa at h ⊢;split at h
 ·rename_i hc
  rw [Aj hc];obtain ⟨j,_,_,h3,_⟩:=V2 _ _ h;exact ⟨K3 _ _,h3⟩
 ·simp at h
theorem YH (R:Type) {l:List Int} (h:AllU64 l) (hlen:l.length<=200) (ht:totS l<9223372036854775808) {s:Src} (hs:SOK s) (m:Int) (k:Int->Src->Int->Option R):F291 R (F2 l,()) s m k=k (Fs l s m).1 (Fs l s m).2.1 (Fs l s m).2.2:=by
 simp only [F291,p291];rw [GI R h ht (by omega)];have hnn:=D6 h l.length;unfold Fs;rw [Aj ht]
 by_cases h0:totS l=0
 ·have e:(totS l==0)=true:=by simp [h0]
  rw [Aj h0];simp only [e]
 ·have e:(totS l==0)=false:=by simp [h0]
  rw [Ak h0];simp only [e];rw [YG R hs (show U64 (totS l) from by unfold U64; exact ⟨hnn,by omega⟩)]
  by_cases he:(Fa s (totS l) m).2.2=0
  ·have e1:((Fa s (totS l) m).2.2 !=0)=false:=by simp [he]
   rw [Aj he];simp only [e1];obtain ⟨i,hi,g⟩:=JW R h ht (by omega) (Ot he) (λy7 y8=>k y7 (Fa s (totS l) m).2.1 y8);rw [g,BG h hi]
  ·have e1:((Fa s (totS l) m).2.2 !=0)=true:=by simp [he]
   rw [Ak he];simp only [e1]
theorem zq7 {c:Nat} (h1:1<=c) (h2:c<=400):c+lowN c - lowN (c+lowN c)<=c - lowN c:=by
 have hchk:((List.range' 1 400).all λc=>decide (c+lowN c - lowN (c+lowN c)<=c - lowN c))=true:=by kernel_rfl
 exact Bw (B9.1 hchk c (by rw [List.mem_range']; exact ⟨c - 1,by omega,by omega⟩))
theorem KL:((List.range' 1 200).all λc=>(List.range (lowN c - 1)).all λd=>decide (c<=c+d+1 - lowN (c+d+1)))=true:=by kernel_rfl
theorem zij {c d:Nat} (h1:1<=c) (h2:c<=200) (hd:d+1<lowN c):c<=c+d+1 - lowN (c+d+1):=by
 have:=B9.1 KL c (by rw [List.mem_range']; exact ⟨c - 1,by omega,by omega⟩);exact Bw (B9.1 this d (by rw [List.mem_range]; omega))
theorem EK (R:Type) {l:List Int} (h:AllU64 l) (ht:totS l<9223372036854775808) (hlen:l.length<=200) (k0:List Int->Option R):∀(m i:Nat),i<=l.length->i<m->
  Qi m R (i:Int) (Iy l i) k0=k0 l
 | 0,i,_,h=>by omega
 | m+1,0,h1,h2=>by
  simp only [Qi,HZ];have hd:decide (((0:Nat):Int)>0)=false:=by simp
  simp only [hd];rw [T2]
 | m+1,i+1,h1,h2=>by
  simp only [Qi,HZ,X8];have hd:decide (((i+1:Nat):Int)>0)=true:=C1 (by omega);have hlo:=P5 (n:=i+1) (by omega) (by omega);simp only [hd];rw [Wz R (by omega) (by omega),wrap_i64 (n:=((i+1:Nat):Int)+(lowN (i+1):Int)) (by omega) (by omega),wrap_i64 (n:=((i+1:Nat):Int) - 1) (by omega) (by omega),show ((i+1:Nat):Int) - 1=(i:Int) by omega];have keep:∀q,q+1≠i+1+lowN (i+1)->G8 l (i+1) q=G8 l i q:=λq hq=>by
   unfold G8;simp only [J0];rw [Ak (by omega)]
  by_cases hup:i+1+lowN (i+1)<=l.length
  ·have hd2:decide (((i+1:Nat):Int)+(lowN (i+1):Int)<=(l.length:Int))=true:=C1 (by omega)
   rw [wrap_i64 (n:=((i+1:Nat):Int)+(lowN (i+1):Int) - 1) (by omega) (by omega),show ((i+1:Nat):Int)+(lowN (i+1):Int) - 1=((i+lowN (i+1):Nat):Int) by omega];have hb1:bnd ((i+lowN (i+1):Nat):Int) (l.length:Int)=true:=by unfold bnd; simp; omega
   have hb2:bnd (i:Int) (l.length:Int)=true:=by unfold bnd; simp; omega
   simp only [hd2,hb1,hb2,Bv];rw [Nc (by omega),Nc (by omega)];have q1:G8 l (i+1) i=Hr l i:=Oh (by omega) (by omega) (by omega) (by omega);have qA:=ztz (c:=i+1) (by omega) (by omega);rw [Ch] at qA;have q2:G8 l (i+1) (i+lowN (i+1)) - Hr l i=G8 l i (i+lowN (i+1)):=by
    unfold G8 Hr;rw [show i+lowN (i+1)+1=i+1+lowN (i+1) by omega,qA];simp only [J0,Ca];omega
   have q3:0<=G8 l i (i+lowN (i+1))/\G8 l i (i+lowN (i+1))<18446744073709551616:=by
    unfold G8;rw [show i+lowN (i+1)+1=i+1+lowN (i+1) by omega,qA];have a1:=Hh h (i+1 - lowN (i+1));have a2:=D6 h (i+1+lowN (i+1) - lowN (i+1+lowN (i+1)));have a3:=D2 h Lw (i+lowN (i+1));have a4:sumS l (i+1+lowN (i+1) - lowN (i+1+lowN (i+1)))<=sumS l (i+1 - lowN (i+1)):=Gj h (zq7 (by omega) (by omega));have a5:=E8 (l:=l) (i:=i+lowN (i+1)) (by omega);have a6:=Hh h (i+lowN (i+1)+1);have a7:=Gj h (a:=i+1 - lowN (i+1)) (b:=i+lowN (i+1)) (by omega);unfold U64 at a3;omega
   rw [q1,q2,Dt (by omega) (by omega)];have e:(Iy l (i+1)).set (i+lowN (i+1)) (G8 l i (i+lowN (i+1)))=Iy l i:=by
    apply List.ext_getElem?;intro q;unfold Iy;rw [List.getElem?_set,Cl,Cl];simp only [C6,List.length_range]
    by_cases hq:q<l.length
    ·rw [List.getElem?_range hq]
     by_cases eq:i+lowN (i+1)=q
     ·subst eq
      rw [Aj rfl,Aj hq]; rfl
     ·rw [Ak eq]
      simp only [Option.map_some];rw [keep q (by omega)]
    ·rw [Cj (by simp; omega),Ak (by omega)]
     rfl
   rw [e];exact EK R h ht hlen k0 m i (by omega) (by omega)
  ·have hd2:decide (((i+1:Nat):Int)+(lowN (i+1):Int)<=(l.length:Int))=false:=C5 (by omega)
   simp only [hd2];have e:Iy l (i+1)=Iy l i:=by
    unfold Iy;refine List.map_congr_left (λq hq=>?_);have hq':q<l.length:=by simpa using hq
    rw [keep q (by omega)]
   rw [e];exact EK R h ht hlen k0 m i (by omega) (by omega)
theorem zo4 (R:Type) {l:List Int} (h:AllU64 l) (ht:totS l<9223372036854775808) (hlen:l.length<=200) (k:List Int->Option R):F300 R (F2 l,()) k=k l:=by
 simp only [F300,p300,F289];have hc:decide (List.length ([]:List Int)+l.length<=17592186044416)=true:=by simp; omega
 simp only [Ij,hc];have:=EK R h ht hlen (λx3=>k x3) FUEL l.length (Al _) (by rw [Dv]; omega);rw [T3 (by omega)] at this;exact this
theorem YC (R:Type) {l:List Int} (h:AllU64 l) (ht:totS l<9223372036854775808) (hlen:l.length<=500) {n:Nat} (hn:n<=l.length) (k:Int->Option R):F324 R (F2 l,()) (n:Int) k=k (sumS l n):=by
 simp only [F324,p324];have:=EJ R h ht hlen (λx1=>k x1) n hn FUEL n (Al _) (by rw [Dv]; omega);rw [Int.sub_self] at this;exact this
theorem zov (R:Type) {l:List Int} (h:AllU64 l) (ht:totS l<9223372036854775808) (hlen:l.length<=500) {i:Nat} (hi:i<l.length) (k:Int->Int->Option R):F319 R (F2 l,()) (i:Int) k=k (l.getD i 0) 0:=by
 simp only [F319,p319,F325,p325,Ij];have d1:decide ((i:Int)<0)=false:=C5 (by omega);have d2:decide ((i:Int)>=(l.length:Int))=false:=C5 (by omega);simp only [d1,d2];have hs:=E8 hi;have h0:=D2 h Lw i;unfold U64 at h0;rw [wrap_i64 (n:=(i:Int)+1) (by omega) (by omega),show (i:Int)+1=((i+1:Nat):Int) by omega,YC R h ht hlen hi,YC R h ht hlen (by omega),show sumS l (i+1) - sumS l i=l.getD i 0 by omega,Dt (by omega) (by omega)]
theorem U7 {l:List Int} {i:Nat} (hi:i<l.length) (v:Int):∀n:Nat,n<=l.length->sumS (l.set i v) n=sumS l n+(if i<n then v - l.getD i 0 else 0)
 | 0,_=>by simp [Jj]
 | n+1,h=>by
  have ih:=U7 hi v n (by omega);rw [E8 (l:=l.set i v) (by rw [Dc]; omega),E8 (l:=l) (by omega),ih]
  by_cases e:i=n
  ·subst e
   have e1:(l.set i v).getD i 0=v:=by simp [Br,hi]
   rw [e1,Ak (by omega),Aj (by omega)];omega
  ·have e1:(l.set i v).getD n 0=l.getD n 0:=by simp [Br,List.getElem?_set,e]
   rw [e1]
   by_cases e2:i<n
   ·rw [Aj e2,Aj (by omega)]; omega
   ·rw [Ak e2,Ak (by omega)]; omega
theorem AllU64.set0 {l:List Int} (h:AllU64 l) (i:Nat):AllU64 (l.set i 0):=λx hx=>by
 rcases List.mem_or_eq_of_mem_set hx with hx | hx
 ·exact h x hx
 ·rw [hx]; exact Lw
theorem zid {l:List Int} {i:Nat} (hi:i<l.length):totS (l.set i 0)=totS l - l.getD i 0:=by
 have:=U7 hi 0 l.length (Al _);rw [Aj hi] at this;have e:totS (l.set i 0)=sumS (l.set i 0) l.length:=by unfold totS; rw [Dc]
 rw [e,this];show _=sumS l l.length - _
 omega
def setN (l:List Int) (i c q:Nat):Int:=Hr l q - (if q+1<c/\q+1 - lowN (q+1)<=i/\i<q+1 then l.getD i 0 else 0)
def Qq (l:List Int) (i c:Nat):List Int:=(List.range l.length).map (setN l i c)
theorem zbe (l:List Int) (i c:Nat):(Qq l i c).length=l.length:=by simp [Qq]
theorem zbf {l:List Int} {i c q:Nat} (h:q<l.length):(Qq l i c).getD q 0=setN l i c q:=by simp [Qq,h]
theorem KM (l:List Int) (i:Nat):Qq l i (i+1)=F2 l:=by
 unfold Qq F2 setN;refine List.map_congr_left (λq _=>?_);rw [Ak (by omega)]; omega
theorem NW {l:List Int} {i c:Nat} (hi:i<l.length) (hc:l.length<c):Qq l i c=F2 (l.set i 0):=by
 unfold Qq F2;rw [Dc];refine List.map_congr_left (λq hq=>?_);have hq':q<l.length:=by simpa using hq
 unfold setN Hr;rw [U7 hi 0 (q+1) (by omega),U7 hi 0 (q+1 - lowN (q+1)) (by omega)]
 by_cases c1:q+1 - lowN (q+1)<=i/\i<q+1
 ·rw [Aj ⟨by omega,c1⟩,Aj c1.2,Ak (by omega)]; omega
 ·rw [Ak (λhh=>c1 hh.2)]
  by_cases c2:i<q+1
  ·rw [Aj c2,Aj (by omega)]; omega
  ·rw [Ak c2,Ak (by omega)]; omega
theorem VL (R:Type) {l:List Int} (h:AllU64 l) (ht:totS l<9223372036854775808) (hlen:l.length<=200) {i:Nat} (hi:i<l.length) (x4:List Int×Unit) (k0:(List Int×Unit)->List Int->Option R):∀(m c:Nat),1<=c->i<c->c - lowN c<=i->c<=400->401 - c<m->
  Su m R 0 (l.getD i 0) (c:Int) x4 (Qq l i c) k0=k0 x4 (F2 (l.set i 0))
 | 0,_,_,_,_,_,hh=>by omega
 | m+1,c,h1,h2,h3,h4,h5=>by
  simp only [Su,PC,zbe]
  by_cases hc:c<=l.length
  ·have hd:decide ((c:Int)<=(l.length:Int))=true:=C1 (by omega)
   simp only [hd];have hlo:=P5 (n:=c) h1 (by omega);rw [wrap_i64 (n:=(c:Int) - 1) (by omega) (by omega),show (c:Int) - 1=((c - 1:Nat):Int) by omega];have hb2:bnd ((c - 1:Nat):Int) (l.length:Int)=true:=by unfold bnd; simp; omega
   simp only [hb2,Bv];rw [zbf (by omega)];have v:setN l i c (c - 1)=Hr l (c - 1):=by
    unfold setN;rw [Ak (by omega)]; omega
   rw [v];have hn:=KX h ht (c - 1);have h0:=(D2 h Lw i).1;have hge:l.getD i 0<=Hr l (c - 1):=by
    unfold Hr;rw [show c - 1+1=c by omega];have a1:=Gj h h3;have a2:=E8 hi;have a3:=Gj h (show i+1<=c by omega);omega
   rw [Dt (n:=Hr l (c - 1) - l.getD i 0) (by omega) (by omega),Int.add_zero,Dt (n:=Hr l (c - 1) - l.getD i 0) (by omega) (by omega),Wz R h1 (by omega),wrap_i64 (n:=(c:Int)+(lowN c:Int)) (by omega) (by omega),show (c:Int)+(lowN c:Int)=((c+lowN c:Nat):Int) by omega];have e:(Qq l i c).set (c - 1) (Hr l (c - 1) - l.getD i 0)=Qq l i (c+lowN c):=by
    apply List.ext_getElem?;intro q;unfold Qq;rw [List.getElem?_set,Cl,Cl];simp only [C6,List.length_range]
    by_cases hq:q<l.length
    ·rw [List.getElem?_range hq]
     by_cases eq:c - 1=q
     ·subst eq
      rw [Aj rfl,Aj hq];simp only [Option.map_some];unfold setN;rw [show c - 1+1=c by omega,Aj (by omega)]
     ·rw [Ak eq]
      simp only [Option.map_some];unfold setN
      congr 2
      by_cases q1:q+1<c
      ·have a:q+1<c+lowN c:=by omega
       simp [q1,a]
      ·have n1:¬(q+1<c/\q+1 - lowN (q+1)<=i/\i<q+1):=λhh=>q1 hh.1
       rw [Ak n1]
       by_cases q2:q+1<c+lowN c
       ·have hsk:=zij (c:=c) (d:=q - c) h1 (by omega) (by omega)
        rw [show c+(q - c)+1=q+1 by omega] at hsk;rw [Ak (by omega)]
       ·rw [Ak (λhh=>q2 hh.1)]
    ·rw [Cj (by simp; omega),Ak (by omega)]
     rfl
   rw [e];have hup:=zq7 (c:=c) h1 (by omega);exact VL R h ht hlen hi x4 k0 m (c+lowN c) (by omega) (by omega) (by omega) (by omega) (by omega)
  ·have hd:decide ((c:Int)<=(l.length:Int))=false:=C5 (by omega)
   simp only [hd];rw [NW hi (by omega)]
theorem zo3 (R:Type) {l:List Int} (h:AllU64 l) (ht:totS l<9223372036854775808) (hlen:l.length<=200) {i:Nat} (hi:i<l.length) (k:(List Int×Unit)->Int->Option R):F301 R (F2 l,()) (i:Int) 0 k=k (F2 (l.set i 0),()) 0:=by
 simp only [F301,p301,F289];rw [zov R h ht (by omega) hi];have n0:((0:Int) !=0)=false:=rfl;simp only [n0];rw [GI R h ht (by omega)];have h0:=(D2 h Lw i).1;have hs:=E8 hi;have ha:=Hh h (i+1);have hz:=D6 h i;rw [Dt (n:=totS l - l.getD i 0) (by omega) (by omega),GM R (by omega) Lw,Aj (by omega)];simp only [Db];have hc:decide (List.length ([]:List Int)+(F2 l).length<=17592186044416)=true:=by rw [Ij]; simp; omega
 simp only [hc];rw [wrap_i64 (n:=(i:Int)+1) (by omega) (by omega),show (i:Int)+1=((i+1:Nat):Int) by omega];have hlo:=P5 (n:=i+1) (by omega) (by omega);have:=VL R h ht hlen hi ([],()) (λx10 x11=>k (x11,()) 0) FUEL (i+1) (by omega) (by omega) (by omega) (by omega) (by rw [Dv]; omega);rw [KM] at this;exact this
def posN (l:List Int) (i:Nat):Nat:=((l.take i).filter λx=>decide (x>0)).length
def posS (l:List Int):Int:=(posN l l.length:Int)
theorem X6 {l:List Int} {i:Nat} (h:i<l.length):posN l (i+1)=posN l i+(if l.getD i 0>0 then 1 else 0):=by
 unfold posN;rw [Cx h,Dh,Ae];have:l.getD i 0=l[i]:=by simp [h]
 rw [this]
 by_cases e:l[i]>0
 ·rw [Aj e]; simp [List.filter,e]
 ·rw [Ak e]; simp [List.filter,e]
theorem zi3 (l:List Int) (i:Nat):posN l i<=l.length:=by
 unfold posN;have:=List.length_filter_le (λx=>decide (x>0)) (l.take i);have:(l.take i).length<=l.length:=by simp; omega
 omega
theorem Wm (R:Type) {l:List Int} (hlen:l.length<=1000000) (k0:Int->Option R):∀(m i:Nat),i<=l.length->l.length - i<m->
  Td m R (posN l i:Int) l (l.length:Int) (i:Int) k0=k0 (posS l)
 | 0,i,_,h=>by omega
 | m+1,i,h1,h2=>by
  simp only [Td,PX]
  by_cases hi:i<l.length
  ·have hd:decide ((i:Int)<(l.length:Int))=true:=C1 (by omega)
   have hbn:bnd (i:Int) (l.length:Int)=true:=by unfold bnd; simp; omega
   simp only [hd,hbn,Bv];have hs:=X6 hi;have hle:=zi3 l i;have e:(i:Int)+1=((i+1:Nat):Int):=by omega
   by_cases hp:l.getD i 0>0
   ·simp only [C1 hp]
    rw [Aj hp] at hs;rw [wrap_i64 (n:=(posN l i:Int)+1) (by omega) (by omega),wrap_i64 (n:=(i:Int)+1) (by omega) (by omega),e,show (posN l i:Int)+1=((posN l (i+1):Nat):Int) by omega];exact Wm R hlen k0 m (i+1) (by omega) (by omega)
   ·simp only [C5 hp]
    rw [Ak hp] at hs;rw [wrap_i64 (n:=(i:Int)+1) (by omega) (by omega),e,show posN l i=posN l (i+1) by omega];exact Wm R hlen k0 m (i+1) (by omega) (by omega)
  ·have:i=l.length:=by omega
   subst this;have hd:decide ((l.length:Int)<(l.length:Int))=false:=by simp
   simp only [hd];rfl
theorem KD (R:Type) {l:List Int} (hlen:l.length<=1000000) (k:Int->Option R):F189 R l k=k (posS l):=by
 simp only [F189,p189];exact Wm R hlen (λx1=>k x1) FUEL 0 (by omega) (by rw [Dv]; omega)
theorem IF {l:List Int} (h:AllU64 l) (hlen:l.length<=200) (ht:totS l<9223372036854775808) {x:Int} (hx:0<=x/\x<totS l):∃i,Owns l x i/\ownN l x=i:=by
 obtain ⟨i,hi,_⟩:=JW Unit h ht (by omega) hx (λ_ _=>none);exact ⟨i,hi,BG h hi⟩
theorem ze1 {s:Src} (hs:SOK s) {n m:Int} (h:(Fa s n m).2.2=0):SOK (Fa s n m).2.1/\atS s<=atS (Fa s n m).2.1/\∃a,(Fa s n m).2.1=Fr s a:=by
 unfold Fa at h ⊢;split at h
 ·rename_i hc
  rw [Aj hc];obtain ⟨j,_,_,_,j4,j5,_⟩:=V2 _ _ h;rw [j4];obtain ⟨_,_,l3⟩:=Rx hs;have l4:=l3 hc.1;have hb:=hs.bits;have h5:(0:Int)<=(Fi n:Int)*j:=Int.mul_nonneg (by omega) (by omega);have h0:=hs.at_;have hend:endS s<18446744073709551616:=by
   rcases Jn hc.1 with ⟨_,_,_,r⟩ | ⟨_,_,r⟩
   ·rw [r]; unfold U64 at hb; exact hb.2
   ·rw [r]; omega
  change U64 (atS s) at h0
  change atS s+Hu s=endS s at l4
  unfold U64 at h0;exact ⟨hs.set (by unfold U64; omega),by rw [zof]; omega,_,rfl⟩
 ·simp at h
theorem zkz {l:List Int} (h:AllU64 l) (hlen:l.length<=200) {s:Src} (hs:SOK s) {m:Int} (he:(Fs l s m).2.2=0):totS l<9223372036854775808/\totS l≠0/\(Fa s (totS l) m).2.2=0/\
  ∃i:Nat,i<l.length/\0<l.getD i 0/\(Fs l s m).1=(i:Int)/\ownN l (Fa s (totS l) m).1=i/\(Fs l s m).2.1=(Fa s (totS l) m).2.1/\SOK (Fs l s m).2.1/\atS s<=atS (Fs l s m).2.1:=by
 unfold Fs at he ⊢
 by_cases ht:totS l<9223372036854775808
 ·rw [Aj ht] at he ⊢
  by_cases h0:totS l=0
  ·rw [Aj h0] at he; exact absurd he (by show ¬((10:Int)=0); decide)
  ·rw [Ak h0] at he ⊢
   by_cases hd:(Fa s (totS l) m).2.2=0
   ·rw [Aj hd] at he ⊢
    obtain ⟨i,hi,e⟩:=IF h hlen ht (Ot hd);have h1:=E8 hi.1;have h2:=hi.2;obtain ⟨s1,s2,_⟩:=ze1 hs hd;exact ⟨ht,h0,hd,i,hi.1,by omega,by rw [e],e,rfl,s1,s2⟩
   ·rw [Ak hd] at he; exact absurd he hd
 ·rw [Ak ht] at he; exact absurd he (by show ¬((11:Int)=0); decide)
def comF (m:Int):Nat->List Int->Src->List Int->List Int×Src×Int
 | 0,_,s,mem=>(mem,s,0)
 | n+1,l,s,mem=>if (Fs l s m).2.2=0 then comF m n (l.set (Fs l s m).1.toNat 0) (Fs l s m).2.1 (mem++[(Fs l s m).1]) else ([],(Fs l s m).2.1,(Fs l s m).2.2)
theorem za8 {l:List Int} (h:AllU64 l) {i:Nat} (hi:i<l.length):totS (l.set i 0)<=totS l:=by
 rw [zid hi];have:=(D2 h Lw i).1;omega
theorem VO (R:Type) {c m:Int} (x6:Src) (k0:Int->Src->Option R) (k1:Src->List Int->Src->Option R) (K:List Int->Src->Int->Option R) (h0:∀e s,k0 e s=K [] s e) (h1:∀s l,k1 s l x6=K l s 0):
  ∀(n f:Nat) (l:List Int) (s:Src) (mem:List Int),AllU64 l->totS l<9223372036854775808->l.length<=200->SOK s->(mem.length:Int)+n=c->c<=1000->n<f->Qj f R c m (F2 l,()) s mem x6 k0 k1=K (comF m n l s mem).1 (comF m n l s mem).2.1 (comF m n l s mem).2.2
 | _,0,_,_,_,_,_,_,_,_,_,hf=>by omega
 | 0,f+1,l,s,mem,h,ht,hl,hs,hc,hc1,hf=>by
  simp only [Qj,IB];have hd:decide ((mem.length:Int)<c)=false:=C5 (by omega);simp only [hd];rw [h1];rfl
 | n+1,f+1,l,s,mem,h,ht,hl,hs,hc,hc1,hf=>by
  simp only [Qj,IB];have hd:decide ((mem.length:Int)<c)=true:=C1 (by omega);simp only [hd];rw [YH R h hl ht hs]
  by_cases he:(Fs l s m).2.2=0
  ·obtain ⟨_,_,_,i,i1,_,i3,_,_,i6,_⟩:=zkz h hl hs he
   have e1:((Fs l s m).2.2 !=0)=false:=by simp [he]
   have hcap:∀y:Int,decide (mem.length+List.length [y]<=17592186044416)=true:=λy=>by simp; omega
   simp only [e1,hcap];simp only [comF];rw [Aj he,i3,zo3 R h ht hl i1,Bv];have n0:((0:Int) !=0)=false:=rfl;simp only [n0];have hd:=za8 h i1;exact VO R x6 k0 k1 K h0 h1 n f (l.set i 0) (Fs l s m).2.1 (mem++[(i:Int)]) (h.set0 i) (by omega) (by simpa using hl) i6 (by simp; omega) hc1 (by omega)
  ·have e1:((Fs l s m).2.2 !=0)=true:=by simp [he]
   simp only [e1,comF];rw [Ak he,h0]
def comR (l:List Int) (c:Int) (s:Src) (m:Int):List Int×Src×Int:=
 if 0<=c/\c<=256/\Es s=true/\0<m/\m<=64 then (if posS l<c then ([],s,12) else comF m c.toNat l s []) else ([],s,1)
theorem zo5 (R:Type) {c m:Int} {s:Src} (hs:SOK s) (k:Bool->Option R):F299 R c s m k=k (decide (0<=c/\c<=256/\Es s=true/\0<m/\m<=64)):=by
 simp only [F299,p299];rw [Wx R hs]
 by_cases h1:c>=0
 ·simp only [C1 h1]
  by_cases h2:c<=256
  ·simp only [C1 h2]
   cases h3:Es s with
   | true=>
    by_cases h4:m>0
    ·simp only [C1 h4]
     by_cases h5:m<=64
     ·simp [h1,h2,h4,h5]
     ·simp [h5]
    ·have h4':¬(0<m):=h4
     simp [h4']
   | false=>simp
  ·simp [h2]
 ·have h1':¬(0<=c):=h1
  simp [h1']
theorem zpb (R:Type) {l:List Int} (h:AllU64 l) (ht:totS l<9223372036854775808) (hl:l.length<=200) {s:Src} (hs:SOK s) (c m:Int) (k:List Int->Src->Int->Option R):F278 R (F2 l,()) c s m k=k (comR l c s m).1 (comR l c s m).2.1 (comR l c s m).2.2:=by
 simp only [F278,p278];rw [zo5 R hs];unfold comR
 by_cases hm:0<=c/\c<=256/\Es s=true/\0<m/\m<=64
 ·rw [Aj hm]
  simp only [C1 hm,Db];rw [zo4 R h ht hl,KD R (by omega)]
  by_cases hp:posS l<c
  ·simp only [C1 hp,Aj hp]
  ·simp only [C5 hp,Ak hp]
   exact VO R _ _ _ k (λe s=>rfl) (λs l=>rfl) c.toNat FUEL l s [] h ht hl hs (by simp; omega) (by omega) (by rw [Dv]; omega)
 ·rw [Ak hm]
  simp only [C5 hm,De]
def comL (l:List Int) (c:Int) (s:Src) (m:Int):List Int×Src×Int:=if totS l<9223372036854775808 then comR l c s m else ([],s,11)
theorem zpn (R:Type) {l:List Int} (h:AllU64 l) (hl:l.length<=200) {s:Src} (hs:SOK s) (c m:Int) (k:List Int->Src->Int->Option R):F246 R c s m l k=k (comL l c s m).1 (comL l c s m).2.1 (comL l c s m).2.2:=by
 simp only [F246,p246];rw [JX R h hl];unfold comL
 by_cases ht:totS l<9223372036854775808
 ·rw [Aj ht,Aj ht]
  have n0:((0:Int) !=0)=false:=rfl;simp only [n0];rw [zpb R h ht hl hs]
 ·rw [Ak ht,Ak ht]
  rfl
theorem zoh {x:Int} (hx:U64 x):iand .u64 x 4294967295=x % 4294967296:=by
 have:=SK hx 32 (by omega);simpa using this
theorem zxj (x:Int):ishr .u64 x 32=x/4294967296:=by
 unfold ishr;rw [show (2:Int)^(min (32:Int).toNat IntKind.u64.bits)=4294967296 by decide,Cz _ (by omega)]
theorem HS {a b:Int} (ha:0<=a/\a<4294967296) (hb:0<=b/\b<4294967296):0<=a*b/\a*b<=18446744065119617025:=by
 refine ⟨Int.mul_nonneg ha.1 hb.1,?_⟩;have:a*b<=4294967295*4294967295:=Int.mul_le_mul (by omega) (by omega) hb.1 (by omega);omega
theorem ZB (R:Type) {a b:Int} (ha:U64 a) (hb:U64 b) (k:Int->Int->Option R):F120 R a b k=k (a*b/18446744073709551616) (u64.wrap (a*b)):=by
 simp only [F120,p120];simp only [zxj];rw [zoh ha,zoh hb];unfold U64 at ha hb;have hx0:0<=a % 4294967296/\a % 4294967296<4294967296:=by omega
 have hx1:0<=a/4294967296/\a/4294967296<4294967296:=by omega
 have hy0:0<=b % 4294967296/\b % 4294967296<4294967296:=by omega
 have hy1:0<=b/4294967296/\b/4294967296<4294967296:=by omega
 have h00:=HS hx0 hy0;have h10:=HS hx1 hy0;have h01:=HS hx0 hy1;have h11:=HS hx1 hy1;have hab:a*b=(a/4294967296)*(b/4294967296)*18446744073709551616+((a/4294967296)*(b % 4294967296)+(a % 4294967296)*(b/4294967296))*4294967296+(a % 4294967296)*(b % 4294967296):=by
  have e1:a=a % 4294967296+4294967296*(a/4294967296):=(Int.emod_add_mul_ediv a 4294967296).symm;have e2:b=b % 4294967296+4294967296*(b/4294967296):=(Int.emod_add_mul_ediv b 4294967296).symm;generalize a % 4294967296=x0 at*;generalize a/4294967296=x1 at*;generalize b % 4294967296=y0 at*;generalize b/4294967296=y1 at*;subst e1 e2;rw [Int.mul_add,Int.add_mul,Int.add_mul,Int.mul_assoc 4294967296 x1 y0,Int.mul_left_comm x0 4294967296 y1,Int.mul_assoc 4294967296 x1,Int.mul_left_comm x1 4294967296 y1];omega
 generalize (a % 4294967296)*(b % 4294967296)=p00 at*;generalize (a/4294967296)*(b % 4294967296)=p10 at*;generalize (a % 4294967296)*(b/4294967296)=p01 at*;generalize (a/4294967296)*(b/4294967296)=p11 at*;rw [Dt (n:=p00) (by omega) (by omega),Dt (n:=p10) (by omega) (by omega),Dt (n:=p01) (by omega) (by omega),Dt (n:=p11) (by omega) (by omega)];rw [Dt (n:=p10+p00/4294967296) (by omega) (by omega),zoh (by unfold U64; omega)];rw [Dt (n:=(p10+p00/4294967296) % 4294967296+p01) (by omega) (by omega)];rw [Dt (n:=p11+(p10+p00/4294967296)/4294967296) (by omega) (by omega)]
 rw [Dt (n:=p11+(p10+p00/4294967296)/4294967296+((p10+p00/4294967296) % 4294967296+p01)/4294967296) (by omega) (by omega)]
 congr 1
 rw [hab];omega
theorem YE (R:Type) {a b:Int} (ha:U64 a) (hb:U64 b) (k:Int->Bool->Option R):F310 R a b k=(if a*b<9223372036854775808 then k (a*b) true else k 0 false):=by
 simp only [F310,p310];rw [ZB R ha hb];simp only [F262,p262,F286,p286];have h0:0<=a*b:=Int.mul_nonneg ha.1 hb.1;generalize a*b=p at*
 by_cases h1:p<9223372036854775808
 ·have e1:p/18446744073709551616=0:=by omega
  have n0:((0:Int) !=0)=false:=rfl;rw [Aj h1,e1,Dt (by omega) (by omega)];simp only [n0,C1 h1,Db]
 ·rw [Ak h1]
  by_cases h2:p<18446744073709551616
  ·have e1:p/18446744073709551616=0:=by omega
   have n0:((0:Int) !=0)=false:=rfl;rw [e1,Dt (by omega) (by omega)];simp only [n0,C5 h1,De]
  ·have e1:(p/18446744073709551616 !=0)=true:=by
    have:¬p/18446744073709551616=0:=by omega
    simp [this]
   simp only [e1]
abbrev Ld:=Int×(Int×Unit)
abbrev TabA:=Int×(List Ld×Unit)
def badC (t:TabA) (c:Ld):Bool:=decide (c.1>t.1)||(decide (c.2.1<0)||decide (c.2.1>=(t.2.1.length:Int)))
def L0 (t:TabA):Bool:=decide ((t.2.1.length:Int)*t.1<9223372036854775808)&&(!((t.2.1.length:Int)==0)&&(!(t.1==0)&& !(t.2.1.any (badC t))))
theorem zoy (R:Type) (c:Ld) (t:TabA) (k:Bool->TabA->Option R):F313 R c t k=k (badC t c) t:=by
 simp only [F313,p313,badC];cases decide (c.1>t.1) with
 | true=>rfl
 | false=>
  cases decide (c.2.1<0) with
  | true=>rfl
  | false=>rfl
theorem Ux (R:Type) (t:TabA) (l:List Ld) (hlen:l.length<=1000000) (k0:Int->TabA->Option R) (k1:TabA->Option R) (K:Bool->TabA->Option R) (h0:∀i:Int,0<=i->k0 i t=K true t) (h1:k1 t=K false t):
  ∀(m i:Nat),i<=l.length->l.length - i<m->Eh m R l (l.length:Int) (i:Int) t k0 k1=K ((l.drop i).any (badC t)) t
 | 0,i,_,h=>by omega
 | m+1,i,h2,h3=>by
  simp only [Eh,Nd]
  by_cases hi:i<l.length
  ·have hd:decide ((i:Int)<(l.length:Int))=true:=by simpa using hi
   have hbn:bnd (i:Int) (l.length:Int)=true:=by unfold bnd; simp; omega
   simp only [hd,hbn,Bv];rw [zoy,Co hi,List.any_cons];have hg:l.getD i ((0:Int),(0:Int),())=l[i]:=by simp [hi]
   rw [hg];cases hb:badC t l[i] with
   | true=>simpa using h0 (i:Int) (by omega)
   | false=>
    simp only [Bool.false_or];rw [wrap_i64 (n:=(i:Int)+1) (by omega) (by omega)];exact Ux R t l hlen k0 k1 K h0 h1 m (i+1) (by omega) (by omega)
  ·have:i=l.length:=by omega
   subst this;have hd:decide ((l.length:Int)<(l.length:Int))=false:=by simp
   simp only [hd];rw [h1,Cu];rfl
theorem Wy (R:Type) {t:TabA} (ht:U64 t.1) (hlen:t.2.1.length<=1000) (k:Bool->Option R):F295 R t k=k (L0 t):=by
 simp only [F295,p295];rw [Dt (n:=(t.2.1.length:Int)) (by omega) (by omega),YE R (by unfold U64; omega) ht];unfold L0
 by_cases h1:(t.2.1.length:Int)*t.1<9223372036854775808
 ·rw [Aj h1]
  simp only [C1 h1,Db,C7];cases e1:((t.2.1.length:Int)==0) with
  | true=>rfl
  | false=>
   cases e2:(t.1==0) with
   | true=>rfl
   | false=>
    simp only [De,C7,G9,AX,Gu,AW];have:=Ux R t t.2.1 (by omega) (λx2 x3=>k !decide (x2>=0)) (λx4=>k !decide ((-1:Int)>=0)) (λb _=>k !b) (λi hi=>by simp [hi]) (by rfl) FUEL 0 (by omega) (by rw [Dv]; omega);simpa using this
 ·rw [Ak h1]
  simp only [C5 h1,De,Dd]
theorem Vf {t:TabA} (h:L0 t=true):(t.2.1.length:Int)*t.1<9223372036854775808/\t.2.1.length≠0/\t.1≠0/\∀c∈t.2.1,c.1<=t.1/\0<=c.2.1/\c.2.1<(t.2.1.length:Int):=by
 simp only [L0,Ab,Bool.not_eq_true',Df] at h;obtain ⟨h1,h2,h3,h4⟩:=h;refine ⟨h1,λe=>by simp [e] at h2,λe=>by simp [e] at h3,λc hc=>?_⟩;have:=List.any_eq_false.1 h4 c hc;simp only [badC,Bool.not_eq_true,Bool.or_eq_false_iff,decide_eq_false_iff_not] at this;omega
theorem YF (R:Type) {t:TabA} (ht:U64 t.1) (hlen:t.2.1.length<=1000) (k:Int->Option R):F297 R t k=k (if L0 t=true then (t.2.1.length:Int)*t.1 else 0):=by
 simp only [F297,p297];rw [Wy R ht hlen];cases h:L0 t with
 | false=>rfl
 | true=>
  obtain ⟨h1,h2,h3,h4⟩:=Vf h;have h0:0<=(t.2.1.length:Int)*t.1:=Int.mul_nonneg (by omega) ht.1;simp only [Db,Ca];rw [Dt (n:=(t.2.1.length:Int)) (by omega) (by omega),Dt h0 (by omega)]
def ownT (t:TabA) (u:Int):Int:=if u % t.1<(t.2.1.getD (u/t.1).toNat (0,0,())).1 then u/t.1 else (t.2.1.getD (u/t.1).toNat (0,0,())).2.1
theorem Aab {t:TabA} (ht:U64 t.1) (h:L0 t=true) {u:Int} (hu:0<=u/\u<(t.2.1.length:Int)*t.1):0<=u/t.1/\u/t.1<(t.2.1.length:Int)/\0<=u % t.1/\u % t.1<t.1:=by
 obtain ⟨h1,h2,h3,h4⟩:=Vf h;have hp:0<t.1:=by have:=ht.1; omega
 exact ⟨Int.ediv_nonneg hu.1 (by omega),Int.ediv_lt_of_lt_mul hp hu.2,Int.emod_nonneg _ h3,Int.emod_lt_of_pos _ hp⟩
theorem zo6 (R:Type) {t:TabA} (ht:U64 t.1) (hlen:t.2.1.length<=1000) (h:L0 t=true) {u:Int} (hu:0<=u/\u<(t.2.1.length:Int)*t.1) (k:Int->Int->Option R):F298 R t u k=k (ownT t u) 0:=by
 simp only [F298,p298];rw [Wy R ht hlen];simp only [h,Db];rw [YF R ht hlen];obtain ⟨h1,h2,h3,h4⟩:=Vf h;obtain ⟨c1,c2,c3,c4⟩:=Aab ht h hu;have e0:(t.1==0)=false:=by simp [h3]
 have ed:decide (u>=(t.2.1.length:Int)*t.1)=false:=C5 (by omega);simp only [h,Ca,ed,e0,De];rw [C3 hu.1,C2 hu.1,Dt (n:=u/t.1) c1 (by omega),wrap_i64 (n:=u/t.1) (by omega) (by omega)];simp only [F317,p317,F330,p330];rw [Wy R ht hlen];have d1:decide (u/t.1<0)=false:=C5 (by omega);have d2:decide (u/t.1>=(t.2.1.length:Int))=false:=C5 (by omega);have d3:decide (u % t.1>=t.1)=false:=C5 (by omega);have d4:bnd (u/t.1) (t.2.1.length:Int)=true:=by unfold bnd; simp; omega
 have n0:((0:Int) !=0)=false:=rfl;simp only [h,Db,d1,d2,n0,d3,d4];unfold ownT
 by_cases hc:u % t.1<(t.2.1.getD (u/t.1).toNat (0,0,())).1
 ·rw [Aj hc]
  simp only [C5 (show ¬(u % t.1>=(t.2.1.getD (u/t.1).toNat (0,0,())).1) by omega)]
 ·rw [Ak hc]
  simp only [C1 (show (u % t.1>=(t.2.1.getD (u/t.1).toNat (0,0,())).1) by omega)]
def OX (t:TabA) (s:Src) (m:Int):Int×Src×Int:=
 if L0 t=true then (if (Fa s ((t.2.1.length:Int)*t.1) m).2.2=0 then (ownT t (Fa s ((t.2.1.length:Int)*t.1) m).1,(Fa s ((t.2.1.length:Int)*t.1) m).2.1,0)
  else (0,(Fa s ((t.2.1.length:Int)*t.1) m).2.1,(Fa s ((t.2.1.length:Int)*t.1) m).2.2)) else (0,s,1)
theorem zpe (R:Type) {t:TabA} (ht:U64 t.1) (hlen:t.2.1.length<=1000) {s:Src} (hs:SOK s) (m:Int) (k:Int->Src->Int->Option R):F275 R t s m k=k (OX t s m).1 (OX t s m).2.1 (OX t s m).2.2:=by
 simp only [F275,p275];rw [Wy R ht hlen];unfold OX;cases h:L0 t with
 | false=>rfl
 | true=>
  obtain ⟨h1,h2,h3,h4⟩:=Vf h;have h0:0<=(t.2.1.length:Int)*t.1:=Int.mul_nonneg (by omega) ht.1;simp only [Db,Ca];rw [YF R ht hlen];simp only [h,Ca];rw [YG R hs (show U64 ((t.2.1.length:Int)*t.1) from by unfold U64; omega)]
  by_cases he:(Fa s ((t.2.1.length:Int)*t.1) m).2.2=0
  ·have e1:((Fa s ((t.2.1.length:Int)*t.1) m).2.2 !=0)=false:=by simp [he]
   rw [Aj he];simp only [e1];rw [zo6 R ht hlen h (Ot he)]
  ·have e1:((Fa s ((t.2.1.length:Int)*t.1) m).2.2 !=0)=true:=by simp [he]
   rw [Ak he];simp only [e1]
def popI (l:List Int):Int:=l.getD (l.length - 1) 0
def cutL (l:List Int):List Int:=l.take (l.length - 1)
theorem zbq (a:List Int) (x:Int):popI (a++[x])=x:=by simp [popI]
theorem ze3 (a:List Int) (x:Int):cutL (a++[x])=a:=by simp [cutL]
theorem Vb {l:List Int} (h:l.length≠0):∃a x,l=a++[x]:=by
 rcases List.eq_nil_or_concat l with rfl | ⟨a,x,rfl⟩
 ·simp at h
 ·exact ⟨a,x,by simp⟩
def Jl (T:Int) (h:List Int) (i k:Int):List Int:=h.set k.toNat (h.getD k.toNat 0 - (T - h.getD i.toNat 0))
def runA (T:Int):Nat->List Int->List Ld->List Int->List Int->List Int×(List Ld×(List Int×List Int))
 | 0,h,c,sm,la=>(h,c,sm,la)
 | f+1,h,c,sm,la=>if sm.length=0\/la.length=0 then (h,c,sm,la) else
   if (Jl T h (popI sm) (popI la)).getD (popI la).toNat 0<T then runA T f (Jl T h (popI sm) (popI la)) (c.set (popI sm).toNat (h.getD (popI sm).toNat 0,popI la,())) (cutL sm++[popI la]) (cutL la)
   else runA T f (Jl T h (popI sm) (popI la)) (c.set (popI sm).toNat (h.getD (popI sm).toNat 0,popI la,())) (cutL sm) (cutL la++[popI la])
structure IA (T:Int) (n:Nat) (h:List Int) (c:List Ld) (sm la:List Int):Prop where
 hl:h.length=n
 cl:c.length=n
 ix:∀x∈sm++la,0<=x/\x<(n:Int)
 nd:(sm++la).Nodup
 sml:∀x∈sm,0<=h.getD x.toNat 0/\h.getD x.toNat 0<T
 lrg:∀x∈la,T<=h.getD x.toNat 0/\h.getD x.toNat 0<9223372036854775808
theorem Yk (h:List Int) {i j:Nat} (v:Int) (hij:i≠j):(h.set i v).getD j 0=h.getD j 0:=by
 simp [Br,List.getElem?_set,hij]
theorem P7 (h:List Int) {i:Nat} (v:Int) (hi:i<h.length):(h.set i v).getD i 0=v:=by
 simp [Br,hi]
theorem zsi (s0 l0:List Int) (i k:Int):((s0++[i])++(l0++[k])).Perm (i::((s0++[k])++l0)):=by
 rw [Ah,Ah];refine List.perm_middle.trans (.cons i (List.Perm.append_left s0 ?_));exact (List.perm_append_comm:(l0++[k]).Perm ([k]++l0))
theorem zx5 (s0 l0:List Int) (i k:Int):((s0++[i])++(l0++[k])).Perm (i::(s0++(l0++[k]))):=by
 rw [Ah];exact List.perm_middle
theorem IA.facts {T:Int} {n:Nat} {h:List Int} {c:List Ld} {s0 l0:List Int} {i k:Int} (hI:IA T n h c (s0++[i]) (l0++[k])):
  (0<=i/\i<(n:Int))/\(0<=k/\k<(n:Int))/\i≠k/\(∀x∈s0,x≠i/\x≠k/\0<=x)/\(∀x∈l0,x≠i/\x≠k/\0<=x):=by
 have hn:=(zsi s0 l0 i k).nodup_iff.1 hI.nd;rw [List.nodup_cons] at hn;obtain ⟨h1,h2⟩:=hn;have h3:(k::(s0++l0)).Nodup:=by
  rw [Ah] at h2;exact (List.perm_middle (l₁:=s0) (l₂:=l0) (a:=k)).nodup_iff.1 h2
 rw [List.nodup_cons] at h3;have hm:∀x,x∈s0\/x∈l0->x≠i/\x≠k/\0<=x:=λx hx=>by
  refine ⟨λe=>h1 ?_,λe=>h3.1 ?_,(hI.ix x ?_).1⟩
  ·subst e; simp; rcases hx with hx | hx<;>simp [hx]
  ·subst e; simpa using hx
  ·simp; rcases hx with hx | hx<;>simp [hx]
 refine ⟨hI.ix i (by simp),hI.ix k (by simp),λe=>h1 ?_,λx hx=>hm x (.inl hx),λx hx=>hm x (.inr hx)⟩;subst e; simp
theorem IA.step {T:Int} {n:Nat} {h:List Int} {c:List Ld} {s0 l0:List Int} {i k:Int} (hI:IA T n h c (s0++[i]) (l0++[k])):
  (0<=(Jl T h i k).getD k.toNat 0/\(Jl T h i k).getD k.toNat 0<9223372036854775808/\(Jl T h i k).getD k.toNat 0=h.getD k.toNat 0 - (T - h.getD i.toNat 0))/\
  ((Jl T h i k).getD k.toNat 0<T->IA T n (Jl T h i k) (c.set i.toNat (h.getD i.toNat 0,k,())) (s0++[k]) l0)/\
  (¬(Jl T h i k).getD k.toNat 0<T->IA T n (Jl T h i k) (c.set i.toNat (h.getD i.toNat 0,k,())) s0 (l0++[k])):=by
 obtain ⟨hi,hk,hik,hs,hl⟩:=hI.facts;have hkl:k.toNat<h.length:=by rw [hI.hl]; omega
 have ek:(Jl T h i k).getD k.toNat 0=h.getD k.toNat 0 - (T - h.getD i.toNat 0):=P7 h _ hkl;have b1:=hI.sml i (by simp);have b2:=hI.lrg k (by simp);have same:∀x:Int,0<=x->x≠k->(Jl T h i k).getD x.toNat 0=h.getD x.toNat 0:=λx h0 hx=>Yk h _ (by omega)
 have hn1:=((zsi s0 l0 i k).nodup_iff.1 hI.nd)
 have hn2:=((zx5 s0 l0 i k).nodup_iff.1 hI.nd)
 rw [List.nodup_cons] at hn1 hn2;refine ⟨⟨by omega,by omega,ek⟩,λhlt=>⟨by simp [Jl,hI.hl],by simp [hI.cl],λx hx=>hI.ix x ?_,hn1.2,λx hx=>?_,λx hx=>?_⟩,λhge=>⟨by simp [Jl,hI.hl],by simp [hI.cl],λx hx=>hI.ix x ?_,hn2.2,λx hx=>?_,λx hx=>?_⟩⟩
 ·simp at hx ⊢; rcases hx with hx | hx | hx<;>simp [hx]
 ·rcases Ai.1 hx with hx | hx
  ·have:=hs x hx
   rw [same x this.2.2 this.2.1]; exact hI.sml x (by simp [hx])
  ·simp at hx; subst hx; omega
 ·have:=hl x hx
  rw [same x this.2.2 this.2.1]; exact hI.lrg x (by simp [hx])
 ·simp at hx ⊢; rcases hx with hx | hx | hx<;>simp [hx]
 ·have:=hs x hx
  rw [same x this.2.2 this.2.1]; exact hI.sml x (by simp [hx])
 ·rcases Ai.1 hx with hx | hx
  ·have:=hl x hx
   rw [same x this.2.2 this.2.1]; exact hI.lrg x (by simp [hx])
  ·simp at hx; subst hx; omega
theorem Xq {T:Int} {f:Nat} {h:List Int} {c:List Ld} {s0 l0:List Int} {i k:Int}:runA T (f+1) h c (s0++[i]) (l0++[k])=
  if (Jl T h i k).getD k.toNat 0<T then runA T f (Jl T h i k) (c.set i.toNat (h.getD i.toNat 0,k,())) (s0++[k]) l0 else runA T f (Jl T h i k) (c.set i.toNat (h.getD i.toNat 0,k,())) s0 (l0++[k]):=by
 simp only [runA,zbq,ze3];rw [Ak (by simp)]
theorem Rl {T:Int} {f:Nat} {h:List Int} {c:List Ld} {sm la:List Int} (hs:sm.length=0\/la.length=0):runA T f h c sm la=(h,c,sm,la):=by
 cases f with
 | zero=>rfl
 | succ f=>simp only [runA]; rw [Aj hs]
theorem Px (R:Type) {T:Int} {n:Nat} (hT:0<T/\T<9223372036854775808) (hn:n<=1000) (x1:TabA) (k0:TabA->List Int->List Ld->List Int->List Int->(Int×Unit)->Option R):
  ∀(f m:Nat) (h:List Int) (c:List Ld) (sm la:List Int),IA T n h c sm la->sm.length+la.length<=f->f<=10000->f<m->
   Jh m R x1 h c sm la (T,()) k0=k0 x1 (runA T f h c sm la).1 (runA T f h c sm la).2.1 (runA T f h c sm la).2.2.1 (runA T f h c sm la).2.2.2 (T,())
 | f,0,_,_,_,_,_,_,_,hm=>by omega
 | f,m+1,h,c,sm,la,hI,hf,hf2,hm=>by
  simp only [Jh,AY]
  by_cases hs:sm.length=0
  ·have hd:decide ((sm.length:Int)>0)=false:=C5 (by omega)
   simp only [hd];rw [Rl (.inl hs)]
  ·have hd:decide ((sm.length:Int)>0)=true:=C1 (by omega)
   simp only [hd]
   by_cases hl:la.length=0
   ·have hd:decide ((la.length:Int)>0)=false:=C5 (by omega)
    simp only [hd];rw [Rl (.inr hl)]
   ·have hd:decide ((la.length:Int)>0)=true:=C1 (by omega)
    simp only [hd];obtain ⟨s0,i,rfl⟩:=Vb hs;obtain ⟨l0,k,rfl⟩:=Vb hl;obtain ⟨hi,hk,hik,hms,hml⟩:=hI.facts;obtain ⟨⟨e0,e1,e2⟩,st1,st2⟩:=hI.step;have b1:=hI.sml i (by simp);have b2:=hI.lrg k (by simp);have ls:((s0++[i]).length:Int)=(s0.length:Int)+1:=by simp
    have ll:((l0++[k]).length:Int)=(l0.length:Int)+1:=by simp
    simp only [Ae,Af,Bz] at hf;rw [ls,ll,show (s0.length:Int)+1 - 1=(s0.length:Int) by omega,show (l0.length:Int)+1 - 1=(l0.length:Int) by omega,wrap_i64 (n:=(s0.length:Int)) (by omega) (by omega),wrap_i64 (n:=(l0.length:Int)) (by omega) (by omega)];have d1:bnd (s0.length:Int) ((s0.length:Int)+1)=true:=by unfold bnd; simp; omega
    have d2:bnd (l0.length:Int) ((l0.length:Int)+1)=true:=by unfold bnd; simp; omega
    have d3:decide (0<=(s0.length:Int)/\(s0.length:Int)<=(s0.length:Int)+1)=true:=C1 (by omega);have d4:decide (0<=(l0.length:Int)/\(l0.length:Int)<=(l0.length:Int)+1)=true:=C1 (by omega);have g1:(s0++[i]).getD s0.length 0=i:=by simp
    have g2:(l0++[k]).getD l0.length 0=k:=by simp
    have t1:(s0++[i]).take s0.length=s0:=by simp
    have t2:(l0++[k]).take l0.length=l0:=by simp
    have d5:bnd i (h.length:Int)=true:=by rw [hI.hl]; unfold bnd; simp; omega
    have d6:bnd i (c.length:Int)=true:=by rw [hI.cl]; unfold bnd; simp; omega
    have d7:bnd k (h.length:Int)=true:=by rw [hI.hl]; unfold bnd; simp; omega
    simp only [d1,d2,d3,d4,Bv,g1,g2,t1,t2,d5,d6,d7,Dc];rw [Dt (n:=T - h.getD i.toNat 0) (by omega) (by omega),Dt (n:=h.getD k.toNat 0 - (T - h.getD i.toNat 0)) (by omega) (by omega)]
    change (match decide ((Jl T h i k).getD k.toNat 0<T) with
     | true=>_
     | false=>_)=_
    cases f with
    | zero=>omega
    | succ f=>
     rw [Xq]
     by_cases hlt:(Jl T h i k).getD k.toNat 0<T
     ·have dc:decide (s0.length+[k].length<=17592186044416)=true:=C1 (by simp; omega)
      rw [Aj hlt];simp only [C1 hlt,dc];exact Px R hT hn x1 k0 f m _ _ _ _ (st1 hlt) (by simp; omega) (by omega) (by omega)
     ·have dc:decide (l0.length+[k].length<=17592186044416)=true:=C1 (by simp; omega)
      rw [Ak hlt];simp only [C5 hlt,dc];exact Px R hT hn x1 k0 f m _ _ _ _ (st2 hlt) (by simp; omega) (by omega) (by omega)
theorem NV {α:Type} (A:List α) (z v:α) (m:Nat) {i:Nat} (hi:A.length=i):(A++replicate (m+1) z).set i v=A++[v]++replicate m z:=by
 subst hi;rw [C9 _ _ (Al _),Da,List.replicate_succ,List.set_cons_zero];simp
def hasP (n:Int) (l:List Int) (i:Nat):List Int:=(l.take i).map (λv=>n*v)++replicate (l.length - i) 0
def ceP (T:Int) (i:Nat):List Ld:=(List.range i).map (λj:Nat=>(T,(j:Int),()))
def smP (T n:Int) (l:List Int) (i:Nat):List Int:=((List.range i).filter (λj=>decide (n*l.getD j 0<T))).map (λj:Nat=>(j:Int))
def laP (T n:Int) (l:List Int) (i:Nat):List Int:=((List.range i).filter (λj=> !decide (n*l.getD j 0<T))).map (λj:Nat=>(j:Int))
theorem Q2 {n:Int} {l:List Int} {i:Nat} (h:i<=l.length):(hasP n l i).length=l.length:=by simp [hasP]; omega
theorem IQ {n:Int} {l:List Int} {i:Nat} (h:i<l.length):(hasP n l i).set i (n*l.getD i 0)=hasP n l (i+1):=by
 unfold hasP;rw [show l.length - i=(l.length - (i+1))+1 by omega,NV _ _ _ _ (by simp; omega),Cx h,Bm];simp only [Br,Bs h,Option.getD_some,Cc,List.map_nil]
theorem ze6 (T:Int) (i:Nat):ceP T i++[(T,(i:Int),())]=ceP T (i+1):=by simp [ceP,List.range_succ]
theorem zfp {T n:Int} {l:List Int} {i:Nat} (h:n*l.getD i 0<T):smP T n l i++[(i:Int)]=smP T n l (i+1)/\laP T n l i=laP T n l (i+1):=by
 unfold smP laP;rw [List.range_succ,Dh,Dh,Bm,Bm];have e1:[i].filter (λj=>decide (n*l.getD j 0<T))=[i]:=by rw [List.filter_cons,Aj (C1 h)]; rfl
 have e2:[i].filter (λj=> !decide (n*l.getD j 0<T))=[]:=by rw [List.filter_cons,Ak (by simp only [C1 h]; simp)]; rfl
 rw [e1,e2];simp
theorem zfq {T n:Int} {l:List Int} {i:Nat} (h:¬n*l.getD i 0<T):smP T n l i=smP T n l (i+1)/\laP T n l i++[(i:Int)]=laP T n l (i+1):=by
 unfold smP laP;rw [List.range_succ,Dh,Dh,Bm,Bm];have e1:[i].filter (λj=>decide (n*l.getD j 0<T))=[]:=by rw [List.filter_cons,Ak (by simp only [C5 h]; simp)]; rfl
 have e2:[i].filter (λj=> !decide (n*l.getD j 0<T))=[i]:=by rw [List.filter_cons,Aj (by simp only [C5 h]; simp)]; rfl
 rw [e1,e2];simp
theorem NQ (T n:Int) (l:List Int) (i:Nat):(smP T n l i).length+(laP T n l i).length<=i:=by
 induction i with
 | zero=>simp [smP,laP]
 | succ i ih=>
  by_cases h:n*l.getD i 0<T
  ·obtain ⟨h1,h2⟩:=zfp h
   rw [<-h1,<-h2]; simp; omega
  ·obtain ⟨h1,h2⟩:=zfq h
   rw [<-h1,<-h2]; simp; omega
theorem LN {l:List Int} (h:AllU64 l) (i:Nat):l.getD i 0<=totS l:=by
 by_cases hi:i<l.length
 ·have h1:=E8 hi
  have h2:=D6 h i;have h3:=Hh h (i+1);omega
 ·have:l.getD i 0=0:=by simp [Br,Cj (show l.length<=i by omega)]
  rw [this];exact D6 h l.length
theorem AU {l:List Int} (h:AllU64 l) (hb:(l.length:Int)*totS l<9223372036854775808) (i:Nat):0<=(l.length:Int)*l.getD i 0/\(l.length:Int)*l.getD i 0<9223372036854775808:=by
 have h1:=(D2 h Lw i).1;have h2:=LN h i;have h3:(l.length:Int)*l.getD i 0<=(l.length:Int)*totS l:=Int.mul_le_mul_of_nonneg_left h2 (by omega);exact ⟨Int.mul_nonneg (by omega) h1,by omega⟩
theorem Sx (R:Type) {l:List Int} (h:AllU64 l) (hlen:l.length<=1000) {T:Int} (hb:(l.length:Int)*totS l<9223372036854775808) (x6:TabA) (k0:TabA->List Int->List Ld->List Int->List Int->(Int×Unit)->Option R):
  ∀(m i:Nat),i<=l.length->l.length - i<m->Ny m R l T l (l.length:Int) (i:Int) x6 (hasP (l.length:Int) l i) (ceP T i) (smP T (l.length:Int) l i) (laP T (l.length:Int) l i) (T,()) k0=
   k0 x6 (hasP (l.length:Int) l l.length) (ceP T l.length) (smP T (l.length:Int) l l.length) (laP T (l.length:Int) l l.length) (T,())
 | 0,i,_,hm=>by omega
 | m+1,i,h1,h2=>by
  simp only [Ny,PF]
  by_cases hi:i<l.length
  ·have hd:decide ((i:Int)<(l.length:Int))=true:=by simpa using hi
   have hbn:bnd (i:Int) (l.length:Int)=true:=by unfold bnd; simp; omega
   have hp:=AU h hb i;have hsl:=NQ T (l.length:Int) l i;have cl:(ceP T i).length=i:=by simp [ceP]
   have dc:decide ((ceP T i).length+[(T,(i:Int),())].length<=8796093022208)=true:=C1 (by rw [cl]; simp; omega);have ew:u64.wrap (l.getD i 0*u64.wrap (l.length:Int))=(l.length:Int)*l.getD i 0:=by
    rw [Dt (n:=(l.length:Int)) (by omega) (by omega),Int.mul_comm (l.getD i 0),Dt (n:=(l.length:Int)*l.getD i 0) hp.1 (by omega)]
   simp only [hd,hbn,Bv,Q2 (n:=(l.length:Int)) h1,dc,ew,IQ hi,ze6,Q2 (n:=(l.length:Int)) (show i+1<=l.length by omega)];have hg:(hasP (l.length:Int) l (i+1)).getD i 0=(l.length:Int)*l.getD i 0:=by
    rw [<-IQ hi,P7 _ _ (by rw [Q2 h1]; exact hi)]
   simp only [hbn,hg]
   by_cases hlt:(l.length:Int)*l.getD i 0<T
   ·obtain ⟨q1,q2⟩:=zfp hlt
    have dd:decide ((smP T (l.length:Int) l i).length+[(i:Int)].length<=17592186044416)=true:=C1 (by simp; omega);simp only [C1 hlt,dd];rw [q1,q2,wrap_i64 (n:=(i:Int)+1) (by omega) (by omega)];exact Sx R h hlen hb x6 k0 m (i+1) (by omega) (by omega)
   ·obtain ⟨q1,q2⟩:=zfq hlt
    have dd:decide ((laP T (l.length:Int) l i).length+[(i:Int)].length<=17592186044416)=true:=C1 (by simp; omega);simp only [C5 hlt,dd];rw [q1,q2,wrap_i64 (n:=(i:Int)+1) (by omega) (by omega)];exact Sx R h hlen hb x6 k0 m (i+1) (by omega) (by omega)
  ·have:i=l.length:=by omega
   subst this;have hd:decide ((l.length:Int)<(l.length:Int))=false:=by simp
   simp only [hd]
theorem IR {n:Int} {l:List Int} {j:Nat} (hj:j<l.length):(hasP n l l.length).getD j 0=n*l.getD j 0:=by
 simp [hasP,hj]
theorem BJ {T n:Int} {l:List Int} {i:Nat} {x:Int} (h:x∈smP T n l i):∃j:Nat,x=(j:Int)/\j<i/\n*l.getD j 0<T:=by
 simp only [smP,List.mem_map,List.mem_filter,List.mem_range,Df] at h;obtain ⟨j,⟨h1,h2⟩,rfl⟩:=h;exact ⟨j,rfl,h1,h2⟩
theorem BL {T n:Int} {l:List Int} {i:Nat} {x:Int} (h:x∈laP T n l i):∃j:Nat,x=(j:Int)/\j<i/\¬n*l.getD j 0<T:=by
 simp only [laP,List.mem_map,List.mem_filter,List.mem_range,Bool.not_eq_true',decide_eq_false_iff_not] at h;obtain ⟨j,⟨h1,h2⟩,rfl⟩:=h;exact ⟨j,rfl,h1,h2⟩
theorem T5 {l:List Nat} (h:l.Nodup):(l.map λj:Nat=>(j:Int)).Nodup:=by
 induction l with
 | nil=>simp
 | cons a l ih=>
  rw [List.nodup_cons] at h;rw [Cc,List.nodup_cons];refine ⟨λhm=>?_,ih h.2⟩;obtain ⟨b,hb,e⟩:=List.mem_map.1 hm;have:b=a:=by omega
  subst this;exact h.1 hb
theorem JK {l:List Int} (h:AllU64 l) {T:Int} (hb:(l.length:Int)*totS l<9223372036854775808):IA T l.length (hasP (l.length:Int) l l.length) (ceP T l.length) (smP T (l.length:Int) l l.length) (laP T (l.length:Int) l l.length):=by
 refine ⟨Q2 (Al _),by simp [ceP],λx hx=>?_,?_,λx hx=>?_,λx hx=>?_⟩
 ·rcases Ai.1 hx with hx | hx
  ·obtain ⟨j,rfl,hj,_⟩:=BJ hx; omega
  ·obtain ⟨j,rfl,hj,_⟩:=BL hx; omega
 ·rw [List.nodup_append]
  refine ⟨T5 (List.nodup_range.sublist List.filter_sublist),T5 (List.nodup_range.sublist List.filter_sublist),λa ha b hb e=>?_⟩;obtain ⟨j,e1,_,h1⟩:=BJ ha;obtain ⟨j',e2,_,h2⟩:=BL hb;have:j=j':=by omega
  subst this;exact h2 h1
 ·obtain ⟨j,rfl,hj,h1⟩:=BJ hx
  rw [Bv,IR hj];exact ⟨(AU h hb j).1,h1⟩
 ·obtain ⟨j,rfl,hj,h1⟩:=BL hx
  rw [Bv,IR hj];exact ⟨by omega,(AU h hb j).2⟩
def tabC (l:List Int):List Ld:=(runA (totS l) l.length (hasP (l.length:Int) l l.length) (ceP (totS l) l.length) (smP (totS l) (l.length:Int) l l.length) (laP (totS l) (l.length:Int) l l.length)).2.1
def tabR (l:List Int):TabA×Int:=
 if l.length=0 then ((0,[],()),10) else if ¬totS l<9223372036854775808 then ((0,[],()),11) else if totS l=0 then ((0,[],()),10)
 else if ¬(l.length:Int)*totS l<9223372036854775808 then ((0,[],()),11) else ((totS l,tabC l,()),0)
theorem HJ {l:List Int} (h0:l.length=0):tabR l=((0,[],()),10):=by unfold tabR; rw [Aj h0]
theorem HK {l:List Int} (h0:l.length≠0) (ht:¬totS l<9223372036854775808):tabR l=((0,[],()),11):=by unfold tabR; rw [Ak h0,Aj ht]
theorem Xd {l:List Int} (h0:l.length≠0) (hz:totS l=0):tabR l=((0,[],()),10):=by unfold tabR; rw [Ak h0,Ak (by simp [hz]),Aj hz]
theorem Xe {l:List Int} (h0:l.length≠0) (ht:totS l<9223372036854775808) (hz:totS l≠0) (hb:¬(l.length:Int)*totS l<9223372036854775808):tabR l=((0,[],()),11):=by
 unfold tabR; rw [Ak h0,Ak (by simpa using ht),Ak hz,Aj hb]
theorem AM {l:List Int} (h0:l.length≠0) (ht:totS l<9223372036854775808) (hz:totS l≠0) (hb:(l.length:Int)*totS l<9223372036854775808):tabR l=((totS l,tabC l,()),0):=by
 unfold tabR; rw [Ak h0,Ak (by simpa using ht),Ak hz,Ak (by simpa using hb)]
def zfc (l:List Int):Prop:=l.length≠0/\totS l<9223372036854775808/\totS l≠0/\(l.length:Int)*totS l<9223372036854775808
theorem NN (l:List Int):(zfc l/\tabR l=((totS l,tabC l,()),0))\/(¬zfc l/\(tabR l=((0,[],()),10)\/tabR l=((0,[],()),11))):=by
 unfold zfc
 by_cases h0:l.length=0
 ·exact .inr ⟨λh=>h.1 h0,.inl (HJ h0)⟩
 by_cases ht:totS l<9223372036854775808
 ·by_cases hz:totS l=0
  ·exact .inr ⟨λh=>h.2.2.1 hz,.inl (Xd h0 hz)⟩
  ·by_cases hb:(l.length:Int)*totS l<9223372036854775808
   ·exact .inl ⟨⟨h0,ht,hz,hb⟩,AM h0 ht hz hb⟩
   ·exact .inr ⟨λh=>hb h.2.2.2,.inr (Xe h0 ht hz hb)⟩
 ·exact .inr ⟨λh=>ht h.2.1,.inr (HK h0 ht)⟩
theorem zo7 (R:Type) {l:List Int} (h:AllU64 l) (hlen:l.length<=1000) (k:Int->Int->Option R) (K:TabA->Int->Option R) (h1:zfc l->k (totS l) 0=K (tabR l).1 0) (h2:∀e,e≠0->k 0 e=K (0,[],()) e):F292 R l k=K (tabR l).1 (tabR l).2:=by
 simp only [F292,p292];rw [Dt (n:=(l.length:Int)) (by omega) (by omega)]
 by_cases h0:l.length=0
 ·have e:((l.length:Int)==0)=true:=by simp [h0]
  simp only [e];rw [HJ h0];exact h2 10 (by omega)
 ·have e:((l.length:Int)==0)=false:=by simp [h0]
  simp only [e];rw [P1 R h (by omega)];have hnn:=D6 h l.length
  by_cases ht:totS l<9223372036854775808
  ·rw [Aj ht]
   simp only [Db]
   by_cases hz:totS l=0
   ·have e:(totS l==0)=true:=by simp [hz]
    simp only [e];rw [Xd h0 hz];exact h2 10 (by omega)
   ·have e:(totS l==0)=false:=by simp [hz]
    simp only [e];rw [YE R (by unfold U64; omega) (show U64 (totS l) from by unfold U64; exact ⟨hnn,by omega⟩)]
    by_cases hb:(l.length:Int)*totS l<9223372036854775808
    ·rw [Aj hb]
     simp only [Db];rw [h1 ⟨h0,ht,hz,hb⟩,AM h0 ht hz hb]
    ·rw [Ak hb,Xe h0 ht hz hb]
     simp only [De];exact h2 11 (by omega)
  ·rw [Ak ht,HK h0 ht]
   simp only [De];exact h2 11 (by omega)
theorem zpf (R:Type) {l:List Int} (h:AllU64 l) (hlen:l.length<=1000) (k:TabA->Int->Option R):F274 R l k=k (tabR l).1 (tabR l).2:=by
 simp only [F274,p274];refine zo7 R h hlen _ k (λhc=>?_) (λe he=>?_)
 ·have n0:((0:Int) !=0)=false:=rfl
  simp only [n0]
  ·obtain ⟨h0,ht,hz,hb⟩:=hc
   have hnn:=D6 h l.length;have hpos:0<totS l:=by have:0<=totS l:=hnn; omega
   rw [AM h0 ht hz hb];have dc:decide (0<=(l.length:Int)/\(l.length:Int)<=(l.length:Int)/\(l.length:Int)<=(17592186044416:Int))=true:=C1 (by omega);simp only [dc,Bv];have g:=Sx R h hlen (T:=totS l) hb (0,[],()) (λx7 x8 x9 x10 x11 x12=>Jh FUEL R x7 x8 x9 x10 x11 (x12.1,()) (λx13 x14 x15 x16 x17 x18=>k (x18.1,x15,()) 0)) FUEL 0 (by omega) (by rw [Dv]; omega);have q0:hasP (l.length:Int) l 0=replicate l.length 0:=by simp [hasP]
   rw [q0] at g;refine g.trans ?_;rw [Px R (n:=l.length) ⟨hpos,ht⟩ hlen _ _ l.length FUEL _ _ _ _ (JK h hb) (NQ _ _ _ _) (by omega) (by rw [Dv]; omega)];rfl
 ·have n1:(e !=0)=true:=by simp [he]
  simp only [n1]
theorem AP {T:Int} {n:Nat}:∀(f:Nat) (h:List Int) (c:List Ld) (sm la:List Int),IA T n h c sm la->IA T n (runA T f h c sm la).1 (runA T f h c sm la).2.1 (runA T f h c sm la).2.2.1 (runA T f h c sm la).2.2.2
 | 0,h,c,sm,la,hI=>hI
 | f+1,h,c,sm,la,hI=>by
  by_cases hs:sm.length=0\/la.length=0
  ·rw [Rl hs]; exact hI
  ·obtain ⟨s0,i,rfl⟩:=Vb (λe=>hs (.inl e))
   obtain ⟨l0,k,rfl⟩:=Vb (λe=>hs (.inr e));obtain ⟨_,st1,st2⟩:=hI.step;rw [Xq]
   by_cases hlt:(Jl T h i k).getD k.toNat 0<T
   ·rw [Aj hlt]; exact AP f _ _ _ _ (st1 hlt)
   ·rw [Ak hlt]; exact AP f _ _ _ _ (st2 hlt)
theorem zbb {l:List Int} (h:AllU64 l) (hb:(l.length:Int)*totS l<9223372036854775808):(tabC l).length=l.length:=(AP l.length _ _ _ _ (JK h hb)).cl
theorem zih {l:List Int} (h:AllU64 l):U64 (tabR l).1.1/\(tabR l).1.2.1.length<=l.length:=by
 have hnn:=D6 h l.length;rcases NN l with ⟨⟨h0,ht,hz,hb⟩,e⟩ | ⟨hn,e | e⟩
 ·rw [e]
  exact ⟨by unfold U64; exact ⟨hnn,by have:totS l<9223372036854775808:=ht; show totS l<_; omega⟩,by show (tabC l).length<=_; rw [zbb h hb]; exact Al _⟩
 ·rw [e]; exact ⟨by unfold U64; simp,by simp⟩
 ·rw [e]; exact ⟨by unfold U64; simp,by simp⟩
def KU (l:List Int) (s:Src) (m:Int):Int×Src×Int:=if (tabR l).2=0 then OX (tabR l).1 s m else (0,s,(tabR l).2)
theorem zpo (R:Type) {l:List Int} (h:AllU64 l) (hlen:l.length<=1000) {s:Src} (hs:SOK s) (m:Int) (k:Int->Src->Int->Option R):F244 R s m l k=k (KU l s m).1 (KU l s m).2.1 (KU l s m).2.2:=by
 simp only [F244,p244];rw [zpf R h hlen];obtain ⟨f1,f2⟩:=zih h;unfold KU
 by_cases he:(tabR l).2=0
 ·have e1:((tabR l).2 !=0)=false:=by simp [he]
  rw [Aj he];simp only [e1];rw [zpe R f1 (by omega) hs]
 ·have e1:((tabR l).2 !=0)=true:=by simp [he]
  rw [Ak he];simp only [e1]
def domS (k slot:Int):Int:=k*4294967296+slot
def mayS (m slot:Int):Bool:=decide (slot>=0)&&(decide (slot<1024)&&(decide (m>0)&&decide (m<=64)))
theorem GK (R:Type) (a:List Int) (m slot:Int) (k:Bool->Option R):F243 R (a,m,()) slot k=k (mayS m slot):=by
 simp only [F243,p243,mayS];cases decide (slot>=0)<;>cases decide (slot<1024)<;>cases decide (m>0)<;>rfl
theorem Nj {m slot:Int} (h:mayS m slot=true):0<=slot/\slot<1024/\0<m/\m<=64:=by
 simp only [mayS,Ab,Df] at h;exact ⟨h.1,h.2.1,h.2.2.1,h.2.2.2⟩
theorem zq4 {n:Int} (h1:0<=n) (h2:n<4294967296):u32.wrap n=n:=by
 unfold IntKind.wrap;simp only [IntKind.bits,IntKind.signed];have e:n % (2^32)=n:=Int.emod_eq_of_lt h1 h2
 first
 | exact e
 | simp [e]
 | (simp; omega)
theorem GJ (R:Type) (a:List Int) (m:Int) {d slot:Int} (hd:0<=d/\d<=10) (hs:0<=slot/\slot<1024) (k:Src->Option R):F245 R (a,m,()) d slot k=k (F3 a (domS d slot)):=by
 simp only [F245,p245];rw [zq4 hs.1 (by omega),zpc R (by unfold U32; omega) (by unfold U32; omega),zpd];rfl
theorem zn7 {d slot:Int} (hd:0<=d/\d<=10) (hs:0<=slot/\slot<1024):U64 (domS d slot):=by unfold U64 domS; omega
def srcS (a:List Int) (d slot:Int):Src:=F3 a (domS d slot)
theorem U9 {a:List Int} (ha:H32 a) {d slot:Int} (hd:0<=d/\d<=10) (hs:0<=slot/\slot<1024):SOK (srcS a d slot):=Xi ha (zn7 hd hs)
def leaS (a:List Int) (slot m:Int) (l:List Int):Int×Int:=
 if mayS m slot=true then (if totS l<9223372036854775808 then ((Fs l (srcS a 1 slot) m).1,(Fs l (srcS a 1 slot) m).2.2) else (0,11)) else (0,1)
theorem zpg (R:Type) {a:List Int} (ha:H32 a) {m slot:Int} (hs:0<=slot/\slot<1024) {l:List Int} (h:AllU64 l) (ht:totS l<9223372036854775808) (hl:l.length<=200) (k:Int->Int->Option R):
  F273 R (a,m,()) (F2 l,()) slot k=k (Fs l (srcS a 1 slot) m).1 (Fs l (srcS a 1 slot) m).2.2:=by
 simp only [F273,p273];rw [GJ R a m (by omega) hs];show F291 R (F2 l,()) (srcS a 1 slot) m _=_
 rw [YH R h hl ht (U9 ha (by omega) hs)]
def aliS (a:List Int) (slot m:Int) (l:List Int):Int×Int:=
 if mayS m slot=true then ((KU l (srcS a 2 slot) m).1,(KU l (srcS a 2 slot) m).2.2) else (0,1)
theorem zpy (R:Type) {a:List Int} (ha:H32 a) (slot m:Int) {l:List Int} (h:AllU64 l) (hl:l.length<=200) (k:Int->Int->Option R):F191 R a slot m l k=k (aliS a slot m l).1 (aliS a slot m l).2:=by
 simp only [F191,p191];rw [GK];unfold aliS;cases hm:mayS m slot with
 | false=>rfl
 | true=>
  obtain ⟨m1,m2,_⟩:=Nj hm;simp only [Db,Ca];rw [GJ R a m (by omega) ⟨m1,m2⟩];show F244 R (srcS a 2 slot) m l _=_;rw [zpo R h (by omega) (U9 ha (by omega) ⟨m1,m2⟩)]
def sitS (a:List Int) (slot c m:Int) (l:List Int):List Int×Int:=
 if mayS m slot=true then ((comL l c (srcS a 3 slot) m).1,(comL l c (srcS a 3 slot) m).2.2) else ([],1)
theorem zpx (R:Type) {a:List Int} (ha:H32 a) (slot c m:Int) {l:List Int} (h:AllU64 l) (hl:l.length<=200) (k:List Int->Int->Option R):F192 R a slot c m l k=k (sitS a slot c m l).1 (sitS a slot c m l).2:=by
 simp only [F192,p192];rw [GK];unfold sitS;cases hm:mayS m slot with
 | false=>rfl
 | true=>
  obtain ⟨m1,m2,_⟩:=Nj hm;simp only [Db,Ca];rw [GJ R a m (by omega) ⟨m1,m2⟩];show F246 R c (srcS a 3 slot) m l _=_;rw [zpn R h hl (U9 ha (by omega) ⟨m1,m2⟩)]
def schV (a:List Int) (m:Int) (l:List Int) (i:Nat):Int:=if (leaS a (i:Int) m l).2=0 then (leaS a (i:Int) m l).1 else -1
def schP (a:List Int) (m:Int) (l:List Int) (n:Nat):List Int:=(List.range n).map (schV a m l)
theorem Li (a:List Int) (m:Int) (l:List Int) (n:Nat):(schP a m l n).length=n:=by simp [schP]
theorem Xm (a:List Int) (m:Int) (l:List Int) (n:Nat):schP a m l n++[schV a m l n]=schP a m l (n+1):=by simp [schP,List.range_succ]
def schL (a:List Int) (n m:Int) (l:List Int):List Int×Int:=
 if n<1 then ([],1) else if mayS m (n - 1)=true then (if totS l<9223372036854775808 then (schP a m l n.toNat,0) else ([],11)) else ([],1)
theorem ztw {m:Int} {n i:Int} (h:mayS m n=true) (h0:0<=i) (h1:i<=n):mayS m i=true:=by
 obtain ⟨a,b,c,d⟩:=Nj h;unfold mayS;simp;omega
theorem EO (R:Type) {a:List Int} (ha:H32 a) {m:Int} {l:List Int} (h:AllU64 l) (ht:totS l<9223372036854775808) (hl:l.length<=200) {N:Nat} (hN:N<=1024) (hm:∀i:Nat,i<N->mayS m (i:Int)=true) (k0:List Int->Option R):∀(f i:Nat),i<=N->N - i<f->
  S6 f R (N:Int) (i:Int) (a,m,()) (F2 l,()) (schP a m l i++replicate (N - i) 0) k0=k0 (schP a m l N)
 | 0,_,_,hh=>by omega
 | f+1,i,h1,h2=>by
  simp only [S6,PO];have hlen:(schP a m l i++replicate (N - i) (0:Int)).length=N:=by simp [Li]; omega
  by_cases hi:i<N
  ·have hd:decide ((i:Int)<(N:Int))=true:=C1 (by omega)
   simp only [hd];rw [zpg R ha (by omega) h ht hl];have hb:bnd (i:Int) ((schP a m l i++replicate (N - i) (0:Int)).length:Int)=true:=by rw [hlen]; unfold bnd; simp; omega
   have hle:leaS a (i:Int) m l=((Fs l (srcS a 1 (i:Int)) m).1,(Fs l (srcS a 1 (i:Int)) m).2.2):=by unfold leaS; rw [Aj (hm i hi),Aj ht]
   simp only [hb,Bv];have hset:∀v:Int,(schP a m l i++replicate (N - i) (0:Int)).set i v=schP a m l i++[v]++replicate (N - (i+1)) 0:=λv=>by
    rw [show N - i=N - (i+1)+1 by omega];exact NV _ _ _ _ (Li a m l i)
   rw [wrap_i64 (n:=(i:Int)+1) (by omega) (by omega),show (i:Int)+1=((i+1:Nat):Int) by omega]
   by_cases he:(Fs l (srcS a 1 (i:Int)) m).2.2=0
   ·have e1:((Fs l (srcS a 1 (i:Int)) m).2.2 !=0)=false:=by simp [he]
    simp only [e1,hset];have hv:(Fs l (srcS a 1 (i:Int)) m).1=schV a m l i:=by unfold schV; rw [hle]; rw [Aj he]
    rw [hv,Xm];exact EO R ha h ht hl hN hm k0 f (i+1) (by omega) (by omega)
   ·have e1:((Fs l (srcS a 1 (i:Int)) m).2.2 !=0)=true:=by simp [he]
    have hb2:bnd (i:Int) ((schP a m l i++[(Fs l (srcS a 1 (i:Int)) m).1]++replicate (N - (i+1)) (0:Int)).length:Int)=true:=by
     unfold bnd; simp [Li]; omega
    simp only [e1,hset,hb2];have hv:(-1:Int)=schV a m l i:=by unfold schV; rw [hle]; rw [Ak he]
    have hset2:(schP a m l i++[(Fs l (srcS a 1 (i:Int)) m).1]++replicate (N - (i+1)) (0:Int)).set i (-1)=schP a m l i++[(-1:Int)]++replicate (N - (i+1)) 0:=by
     rw [Ah,C9 _ _ (by rw [Li]; exact Al _),Li,Da];simp
    rw [hset2,hv,Xm];exact EO R ha h ht hl hN hm k0 f (i+1) (by omega) (by omega)
  ·have:i=N:=by omega
   subst this;have hd:decide ((i:Int)<(i:Int))=false:=by simp
   simp only [hd];rw [Da,List.replicate_zero,B0]
theorem zpp (R:Type) {a:List Int} (ha:H32 a) {n:Int} (hn:n<=9223372036854775807) (m:Int) {l:List Int} (h:AllU64 l) (hl:l.length<=200) (k:List Int->Int->Option R):F240 R a n m l k=k (schL a n m l).1 (schL a n m l).2:=by
 simp only [F240,p240];unfold schL
 by_cases h1:n<1
 ·simp only [C1 h1,Aj h1]
 ·simp only [C5 h1,Ak h1]
  rw [wrap_i64 (n:=n - 1) (by omega) (by omega),GK];cases hm:mayS m (n - 1) with
  | false=>rfl
  | true=>
   obtain ⟨m1,m2,_⟩:=Nj hm;simp only [Db,Ca];rw [JX R h hl]
   by_cases ht:totS l<9223372036854775808
   ·rw [Aj ht,Aj ht]
    have n0:((0:Int) !=0)=false:=rfl;have hc:decide (0<=n/\n<=n/\n<=(17592186044416:Int))=true:=C1 (by omega);simp only [n0,hc,List.length_replicate];have:=EO R ha h ht hl (N:=n.toNat) (by omega) (λi hi=>ztw hm (by omega) (by omega)) (λx9=>k x9 0) FUEL 0 (by omega) (by rw [Dv]; omega);exact this
   ·rw [Ak ht,Ak ht]; rfl
open Go.Proofs
abbrev Cfg:=Int×Int×Int×Int×Int×Unit
def cfgS (c:Cfg):Bool:=decide (1<=c.1/\c.1<=1024/\0<=c.2.1/\c.2.1<=c.1/\0<=c.2.2.1/\c.2.2.1<=c.1 - c.2.1/\1<=c.2.2.2.1/\c.2.2.2.1<=64/\1<=c.2.2.2.2.1/\c.2.2.2.2.1<=1048576)
theorem Gn {c:Cfg} (h:cfgS c=true):1<=c.1/\c.1<=1024/\0<=c.2.1/\c.2.1<=c.1/\0<=c.2.2.1/\c.2.2.1<=c.1 - c.2.1/\1<=c.2.2.2.1/\c.2.2.2.1<=64/\1<=c.2.2.2.2.1/\c.2.2.2.2.1<=1048576:=Bw h
theorem zu1 (R:Type) (x lo hi:Int) (k:Bool->Option R):F86 R x lo hi k=k (decide (lo<=x/\x<=hi)):=by
 simp only [F86,p86]
 by_cases h:x>=lo
 ·by_cases h2:x<=hi<;>simp [h,h2,show lo<=x from h]
 ·have h3:¬(lo<=x):=h
  simp [h3]
theorem zg1 (R:Type) (c:Cfg) (k:Bool->Option R):F58 R c k=k (cfgS c):=by
 obtain ⟨s,co,re,at_,mo,_⟩:=c;simp only [F58,p58,zu1,cfgS]
 by_cases h1:1<=s/\s<=1024
 ·by_cases h2:0<=co/\co<=s
  ·rw [wrap_i64 (by omega) (by omega)]
   by_cases h3:0<=re/\re<=s - co
   ·by_cases h4:1<=at_/\at_<=64
    ·simp [h1,h2,h3,h4]
    ·have:¬(1<=s/\s<=1024/\0<=co/\co<=s/\0<=re/\re<=s - co/\1<=at_/\at_<=64/\1<=mo/\mo<=1048576):=by omega
     rw [C5 this]; simp [h1,h2,h3,h4]
   ·have:¬(1<=s/\s<=1024/\0<=co/\co<=s/\0<=re/\re<=s - co/\1<=at_/\at_<=64/\1<=mo/\mo<=1048576):=by omega
    rw [C5 this]; simp [h1,h2,h3]
  ·have:¬(1<=s/\s<=1024/\0<=co/\co<=s/\0<=re/\re<=s - co/\1<=at_/\at_<=64/\1<=mo/\mo<=1048576):=by omega
   rw [C5 this]; simp [h1,h2]
 ·have:¬(1<=s/\s<=1024/\0<=co/\co<=s/\0<=re/\re<=s - co/\1<=at_/\at_<=64/\1<=mo/\mo<=1048576):=by omega
  rw [C5 this]; simp [h1]
def phS (c:Cfg) (i:Int):Int:=if cfgS c=true/\0<=i/\i<c.1 then (if i<c.2.1 then 1 else if i<c.2.1+c.2.2.1 then 2 else 3) else 0
theorem YO (R:Type) (c:Cfg) (i:Int) (k:Bool->Option R):F229 R c i k=k (decide (cfgS c=true/\0<=i/\i<c.1)):=by
 simp only [F229,p229,zg1];cases hr:cfgS c with
 | false=>simp
 | true=>
  by_cases h:0<=i
  ·simp [h]
  ·simp [h]
theorem YY (R:Type) (c:Cfg) (i:Int) (k:Int->Option R):F181 R c i k=k (phS c i):=by
 simp only [F181,p181,YO,phS]
 by_cases h:cfgS c=true/\0<=i/\i<c.1
 ·have hr:=Gn h.1
  rw [wrap_i64 (by omega) (by omega),Aj h]
  by_cases h2:i<c.2.1
  ·simp [h,h2]
  ·by_cases h3:i<c.2.1+c.2.2.1<;>simp [h,h2,h3]
 ·simp [h]
def Tp (c:Cfg) (i:Int):Int:=if phS c i=0\/i=c.1 - 1 then 0 else i+1
def zd8 (c:Cfg) (i:Int):Bool:=decide (phS c i≠0/\i=c.1 - 1)
theorem HU {c:Cfg} {i:Int}:phS c i=0↔¬(cfgS c=true/\0<=i/\i<c.1):=by
 unfold phS;constructor
 ·intro h hh; rw [Aj hh] at h; split at h<;>omega
 ·intro h; rw [Ak h]
theorem zpz (R:Type) (c:Cfg) (i:Int) (k:Int->Bool->Option R):F186 R c i k=k (Tp c i) (zd8 c i):=by
 simp only [F186,p186,YO,Tp,zd8]
 by_cases h:cfgS c=true/\0<=i/\i<c.1
 ·have hr:=Gn h.1
  have hp:phS c i≠0:=λe=>HU.1 e h
  have hz:(c.1==0)=false:=by simp; omega
  rw [wrap_i64 (by omega) (by omega)];simp only [h,hz,hp]
  by_cases h2:i=c.1 - 1
  ·have:i+1=c.1:=by omega
   rw [C1 (p:=phS c i≠0/\i=c.1 - 1) ⟨hp,h2⟩];simp [h2]
  ·rw [Int.tmod_eq_of_lt (by omega) (by omega)]
   have:(i+1==0)=false:=by simp; omega
   simp [h2,this]
 ·simp [h,HU.2 h]
abbrev Va:=List Int×(Int×(Int×Unit))
abbrev zV:Va:=(replicate 32 (0:Int),(0:Int),(0:Int),())
structure VaOK (v:Va):Prop where
 key:H32 v.1
 stake:U64 v.2.1
 next:U64 v.2.2.1
def VsOK (l:List Va):Prop:=∀v∈l,VaOK v
theorem zwa:VaOK zV:=⟨Ee,Lw,Lw⟩
theorem VsOK.get {l:List Va} (h:VsOK l) (i:Nat):VaOK (l.getD i zV):=by
 rw [Br];cases hi:l[i]? with
 | none=>exact zwa
 | some c=>exact h c (Ar hi)
theorem Hw {l:List Va} {i:Nat} (hi:i<l.length):l.getD i zV=l[i]:=by simp [hi]
def Dw (l:List Va):List Int:=l.map λv=>v.2.1
def D8 (l:List Va):List Int:=l.map λv=>v.2.2.1
theorem G0 {l:List Va} (h:VsOK l):AllU64 (Dw l):=λx hx=>by
 obtain ⟨v,hv,rfl⟩:=List.mem_map.1 hx;exact (h v hv).stake
theorem Js {l:List Va} (h:VsOK l):AllU64 (D8 l):=λx hx=>by
 obtain ⟨v,hv,rfl⟩:=List.mem_map.1 hx;exact (h v hv).next
theorem Ga (l:List Va):(Dw l).length=l.length:=by simp [Dw]
theorem H7 (l:List Va):(D8 l).length=l.length:=by simp [D8]
theorem Xk {l:List Va} {i:Nat} (hi:i<l.length):Dw (l.take i)++[(l.getD i zV).2.1]=Dw (l.take (i+1)):=by
 rw [Cx hi,Hw hi]; simp only [Dw,Bm,Cc,List.map_nil]
theorem BI {l:List Va} {i:Nat} (hi:i<l.length):D8 (l.take i)++[(l.getD i zV).2.2.1]=D8 (l.take (i+1)):=by
 rw [Cx hi,Hw hi]; simp only [D8,Bm,Cc,List.map_nil]
theorem zgi {n m:Nat} (hn:n<=1000) (hm:m=1):decide (n+m<=17592186044416)=true:=by simp; omega
theorem Uz (R:Type) {l:List Va} (hn:l.length<=1000) (k0:List Int->Option R):∀(m i:Nat),i<=l.length->l.length - i<m->
  Ek m R l (l.length:Int) (i:Int) (Dw (l.take i)) k0=k0 (Dw l)
 | 0,i,_,h=>by omega
 | m+1,i,h1,h2=>by
  simp only [Ek,Nh,F242,p242]
  by_cases hi:i<l.length
  ·have ih:=Uz R hn k0 m (i+1) (by omega) (by omega)
   have hc:decide ((Dw (l.take i)).length+[(l.getD i zV).2.1].length<=17592186044416)=true:=zgi (by rw [Ga,A5]; omega) rfl;simp only [Iq hi,E1 hi,Bv,Fx hi hn,hc];rw [Xk hi,ih]
  ·have:i=l.length:=by omega
   subst this;simp only [Hs,Bl]
theorem Tj (R:Type) {l:List Va} (hn:l.length<=1000) (k:List Int->Option R):F190 R l k=k (Dw l):=by
 simp only [F190,p190,Hc,BB];have hc:decide ((0:Int)<=0/\(0:Int)<=(l.length:Int)/\(l.length:Int)<=17592186044416)=true:=by simp; omega
 simp only [hc];exact Uz R hn (λx=>k x) FUEL 0 (by omega) (by rw [Dv]; omega)
theorem Uy (R:Type) {l:List Va} (hn:l.length<=1000) (k0:List Int->Option R):∀(m i:Nat),i<=l.length->l.length - i<m->
  Ej m R l (l.length:Int) (i:Int) (D8 (l.take i)) k0=k0 (D8 l)
 | 0,i,_,h=>by omega
 | m+1,i,h1,h2=>by
  simp only [Ej,Ng,F261,p261]
  by_cases hi:i<l.length
  ·have ih:=Uy R hn k0 m (i+1) (by omega) (by omega)
   have hc:decide ((D8 (l.take i)).length+[(l.getD i zV).2.2.1].length<=17592186044416)=true:=zgi (by rw [H7,A5]; omega) rfl;simp only [Iq hi,E1 hi,Bv,Fx hi hn,hc];rw [BI hi,ih]
  ·have:i=l.length:=by omega
   subst this;simp only [Hs,Bl]
theorem YQ (R:Type) {l:List Va} (hn:l.length<=1000) (k:List Int->Option R):F224 R l k=k (D8 l):=by
 simp only [F224,p224,Hb,BA];have hc:decide ((0:Int)<=0/\(0:Int)<=(l.length:Int)/\(l.length:Int)<=17592186044416)=true:=by simp; omega
 simp only [hc];exact Uy R hn (λx=>k x) FUEL 0 (by omega) (by rw [Dv]; omega)
def actV (v:Va):Va:=(v.1,v.2.2.1,v.2.2.1,())
def actS (l:List Va):List Va:=l.map actV
theorem Nv (l:List Va):(actS l).length=l.length:=by simp [actS]
theorem YI (R:Type) {l:List Va} (hn:l.length<=1000) (k:List Va->Option R):F264 R l k=k l:=by
 simp only [F264];have hc:decide (([]:List Va).length+l.length<=2932031007402)=true:=by simp; omega
 rw [hc]
theorem VS (R:Type) {l:List Va} (hn:l.length<=1000) (k0:List Va->Option R):∀(m i:Nat),i<=l.length->l.length - i<m->
  S7 m R (l.length:Int) (i:Int) (actS (l.take i)++l.drop i) k0=k0 (actS l)
 | 0,i,_,h=>by omega
 | m+1,i,h1,h2=>by
  simp only [S7,PP]
  by_cases hi:i<l.length
  ·have ih:=VS R hn k0 m (i+1) (by omega) (by omega)
   have hlen:(actS (l.take i)++l.drop i).length=l.length:=by simp [Nv]; omega
   have hat:(actS (l.take i)).length=i:=by rw [Nv,A5]; omega
   have hg:(actS (l.take i)++l.drop i).getD i zV=l[i]:=by
    rw [Br,Az (by omega),hat,Da,Ay];simp [hi]
   have hs:(actS (l.take i)++l.drop i).set i (l[i].1,l[i].2.2.1,l[i].2.2)=actS (l.take (i+1))++l.drop (i+1):=by
    rw [C9 _ _ (by omega),hat,Da,Co hi,List.set_cons_zero,Cx hi];simp only [actS,actV,Bm,Cc,List.map_nil,Ah,A3,A2]
   rw [hlen];simp only [Iq hi,E1 hi,Bv,Fx hi hn,hg,hs];rw [ih]
  ·have:i=l.length:=by omega
   subst this;simp only [Hs,Bl,Cu,B0]
theorem zpq (R:Type) {l:List Va} (hn:l.length<=1000) (k:List Va->Option R):F238 R l k=k (actS l):=by
 simp only [F238,p238,YI R hn];exact VS R hn (λx=>k x) FUEL 0 (by omega) (by rw [Dv]; omega)
def fstK (l:List Va) (key:List Int):Option Nat:=l.findIdx? λv=>decide (v.1=key)
def Ko (l:List Va):List (List Int):=l.map λv=>v.1
def plA (l:List Va):Nat->List (List Int×Int)
 | 0=>[]
 | i+1=>match E9 (Kd.eqv (.arr 32 (.int .u8))) (plA l i) (l.getD i zV).1 with
  | some _=>plA l i
  | none=>plA l i++[((l.getD i zV).1,(i:Int))]
theorem LA {K V:Type} (eq:K->K->Bool) (m:List (K×V)) (x:K×V) (k:K):E9 eq (m++[x]) k=match E9 eq m k with | some v=>some v | none=>match eq k x.1 with | true=>some x.2 | false=>none:=by
 induction m with
 | nil=>simp only [A2,E9]; cases eq k x.1<;>rfl
 | cons y m ih=>
  simp only [A3,E9];cases eq k y.1
  ·exact ih
  ·rfl
theorem SP {l:List Va} {i:Nat} (hi:i<l.length) (key:List Int):fstK (l.take (i+1)) key=match fstK (l.take i) key with | some j=>some j | none=>if (l.getD i zV).1=key then some i else none:=by
 unfold fstK;rw [Cx hi,List.findIdx?_append,Hw hi];cases List.findIdx? (λv=>decide (v.1=key)) (l.take i) with
 | some j=>rfl
 | none=>
  have hl:(l.take i).length=i:=by rw [A5]; omega
  by_cases e:l[i].1=key
  ·simp [List.findIdx?_cons,e,hl]
  ·simp [List.findIdx?_cons,e]
theorem Vk {l:List Va} (h:VsOK l):∀(i:Nat),i<=l.length->∀(key:List Int),key.length=32->E9 (Kd.eqv (.arr 32 (.int .u8))) (plA l i) key=Option.map (λn:Nat=>(n:Int)) (fstK (l.take i) key)
 | 0,_,key,_=>by simp [plA,E9,fstK]
 | i+1,hi,key,hk=>by
  have hi':i<l.length:=by omega
  have ih:=Vk h i (by omega);have hv:=(h.get i).key.1;rw [SP hi'];simp only [plA];have h1:=ih (l.getD i zV).1 hv;cases hf:E9 (Kd.eqv (.arr 32 (.int .u8))) (plA l i) (l.getD i zV).1 with
  | some z=>
   simp only [];rw [ih key hk];cases hq:fstK (l.take i) key with
   | some j=>rfl
   | none=>
    simp only [];rw [Ak];intro e;rw [hf,e,hq] at h1;cases h1
  | none=>
   simp only [];rw [LA,ih key hk];cases hq:fstK (l.take i) key with
   | some j=>rfl
   | none=>
    simp only [Option.map_none];have e1:Kd.eqv (.arr 32 (.int .u8)) key (l.getD i zV).1=decide (key=(l.getD i zV).1):=Is hk hv;rw [e1]
    by_cases e:(l.getD i zV).1=key
    ·rw [C1 e.symm,Aj e]; rfl
    ·rw [C5 (λq=>e q.symm),Ak e]; rfl
theorem Ym {l:List Va} {key:List Int}:fstK l key=none↔key∉Ko l:=by
 unfold fstK Ko;rw [List.findIdx?_eq_none_iff];constructor
 ·intro h hm
  obtain ⟨v,hv,e⟩:=List.mem_map.1 hm;have:=h v hv;simp [e] at this
 ·intro h v hv
  simp only [decide_eq_false_iff_not];intro e;exact h (List.mem_map.2 ⟨v,hv,e⟩)
theorem DH {l:List Va} {key:List Int} {j:Nat} (h:fstK l key=some j):j<l.length/\(l.getD j zV).1=key:=by
 obtain ⟨h1,h2,_⟩:=List.findIdx?_eq_some_iff_getElem.1 h;exact ⟨h1,by rw [Hw h1]; simpa using h2⟩
theorem LE {l:List Va} {i:Nat} (hi:i<l.length):Ko (l.take (i+1))=Ko (l.take i)++[(l.getD i zV).1]:=by
 rw [Cx hi,Hw hi]; simp only [Ko,Bm,Cc,List.map_nil]
theorem OW {l:List Va} (h:VsOK l):∀(i:Nat),i<=l.length->(plA l i).length<=i/\((plA l i).length=i↔(Ko (l.take i)).Nodup)
 | 0,_=>by simp [plA,Ko]
 | i+1,hi=>by
  have hi':i<l.length:=by omega
  obtain ⟨ih1,ih2⟩:=OW h i (by omega);have h1:=Vk h i (by omega) (l.getD i zV).1 (h.get i).key.1;rw [LE hi',List.nodup_append];simp only [plA];cases hf:E9 (Kd.eqv (.arr 32 (.int .u8))) (plA l i) (l.getD i zV).1 with
  | some z=>
   simp only [];refine ⟨by omega,⟨λhh=>by omega,λhh=>?_⟩⟩;exfalso;rw [hf] at h1;cases hq:fstK (l.take i) (l.getD i zV).1 with
   | none=>rw [hq] at h1; cases h1
   | some j=>
    have hm:(l.getD i zV).1∈Ko (l.take i):=by
     apply Classical.byContradiction;intro hn;rw [Ym.2 hn] at hq;cases hq
    exact hh.2.2 _ hm _ (Ce.2 rfl) rfl
  | none=>
   simp only [Ae,Af,Bz];rw [hf] at h1;have hq:fstK (l.take i) (l.getD i zV).1=none:=by
    cases hq:fstK (l.take i) (l.getD i zV).1 with
    | none=>rfl
    | some j=>rw [hq] at h1; cases h1
   have hn:=Ym.1 hq;refine ⟨by omega,⟨λhh=>⟨ih2.1 (by omega),by simp,λa ha b hb e=>?_⟩,λhh=>by have:=ih2.2 hh.1; omega⟩⟩;rw [Ce.1 hb] at e;exact hn (e ▸ ha)
theorem VV (R:Type) {l:List Va} (hn:l.length<=1000) (k0:List (List Int×Int)->Option R):∀(m i:Nat),i<=l.length->l.length - i<m->
  Gv m R l (l.length:Int) (i:Int) (plA l i) k0=k0 (plA l l.length)
 | 0,i,_,h=>by omega
 | m+1,i,h1,h2=>by
  simp only [Gv,IC]
  by_cases hi:i<l.length
  ·have ih:=VV R hn k0 m (i+1) (by omega) (by omega)
   simp only [Iq hi,E1 hi,Bv,Fx hi hn];simp only [plA] at ih;cases hf:E9 (Kd.eqv (.arr 32 (.int .u8))) (plA l i) (l.getD i zV).1 with
   | some z=>
    simp only [hf] at ih;simp only [Option.isSome_some,Db];exact ih
   | none=>
    simp only [hf] at ih;simp only [Option.isSome_none,De,Option.isNone_none];exact ih
  ·have:i=l.length:=by omega
   subst this;simp only [Hs]
theorem YR (R:Type) {l:List Va} (hn:l.length<=1000) (k:List (List Int×Int)->Option R):F222 R l k=k (plA l l.length):=by
 simp only [F222,p222];exact VV R hn (λx=>k x) FUEL 0 (by omega) (by rw [Dv]; omega)
def Jo (l:List Va):Bool:=decide (totS (Dw l)<9223372036854775808)&&(decide (totS (D8 l)<9223372036854775808)&&decide (Ko l).Nodup)
theorem YS (R:Type) {l:List Va} (h:VsOK l) (hn:l.length<=1000) (k:Bool->Option R):F221 R l k=k (Jo l):=by
 simp only [F221,p221,Tj R hn,YQ R hn];rw [P1 R (G0 h) (by rw [Ga]; omega)];unfold Jo
 by_cases h1:totS (Dw l)<9223372036854775808
 ·rw [Aj h1,P1 R (Js h) (by rw [H7]; omega)]
  by_cases h2:totS (D8 l)<9223372036854775808
  ·rw [Aj h2]
   have hc:decide ((l.length:Int)<=1048576)=true:=by simp; omega
   simp only [hc,YR R hn];have hd:=(OW h l.length (Al _)).2;rw [Bl] at hd;rw [C1 h1,C1 h2,C7,C7]
   congr 1
   by_cases h3:(Ko l).Nodup
   ·rw [C1 h3]; simp [hd.2 h3]
   ·rw [C5 h3]
    have:(plA l l.length).length≠l.length:=λe=>h3 (hd.1 e)
    simp; omega
  ·rw [Ak h2,C5 h2,Dd,Bool.and_false]
 ·rw [Ak h1,C5 h1,Dd,P1 R (Js h) (by rw [H7]; omega)]
  by_cases h2:totS (D8 l)<9223372036854775808
  ·rw [Aj h2]
  ·rw [Ak h2]
def neK (l:List Va) (i j:Nat):Bool:=decide ((l.getD i zV).1≠(l.getD j zV).1)
theorem nodup_iff {l:List Va}:Je (λi=>Je (neK l i) i 0) l.length 0=decide (Ko l).Nodup:=by
 rw [Bool.eq_iff_iff,Df,Iv];unfold List.Nodup;rw [List.pairwise_iff_getElem];constructor
 ·intro h i j hi hj hij
  have hi':i<l.length:=by simpa [Ko] using hi
  have hj':j<l.length:=by simpa [Ko] using hj
  have h1:=Iv.1 (h j (by omega) (by omega)) i (by omega) (by omega);unfold neK at h1;simp only [Df] at h1;rw [Hw hi',Hw hj'] at h1;simp only [Ko,List.getElem_map];exact λe=>h1 e.symm
 ·intro h j _ hj
  refine Iv.2 λi _ hi=>?_
  have hi':i<l.length:=by omega
  have hj':j<l.length:=by omega
  have h1:=h i j (by simpa [Ko] using hi') (by simpa [Ko] using hj') (by omega);simp only [Ko,List.getElem_map] at h1;unfold neK;simp only [Df];rw [Hw hi',Hw hj'];exact λe=>h1 e.symm
def M5 (l:List Va) (i:Nat) (n:Int):List Va:=l.set i ((l.getD i zV).1,(l.getD i zV).2.1,n,())
theorem W4 (R:Type) {l:List Va} (hn:l.length<=1000) {i:Nat} (hi:i<l.length) (n:Int) (k:List Va->Option R):F227 R l (i:Int) n k=k (M5 l i n):=by
 simp only [F227,p227,YI R hn,E1 hi,Bv];rfl
theorem Kt (l:List Int) (a:Int):totS (l++[a])=totS l+a:=by
 unfold totS sumS;rw [Bl,Bl];simp
theorem QN {l:List Va} (h:VsOK l) {i:Nat} (hi:i<l.length):(l.getD i zV).2.2.1<=totS (D8 l):=by
 have h1:=E8 (l:=D8 l) (i:=i) (by rw [H7]; exact hi);have h2:=Hh (Js h) (i+1);have h3:=D6 (Js h) i;have h4:(D8 l).getD i 0=(l.getD i zV).2.2.1:=by
  rw [Hw hi]; simp [D8,hi]
 rw [h4] at h1;omega
def depS (l:List Va) (key:List Int) (a most:Int):List Va×Int×Int:=
 if Jo l=true/\a≠0/\1<=most/\most<=1048576 then
  match fstK l key with
  | none=>if most<=(l.length:Int) then ([],0,4) else if totS (D8 l)+a<9223372036854775808 then (l++[(key,0,a,())],(l.length:Int),0) else ([],0,11)
  | some i=>if totS (D8 l)+a<9223372036854775808 then (M5 l i ((l.getD i zV).2.2.1+a),(i:Int),0) else ([],0,11)
 else ([],0,1)
theorem AQ {l:List Va} (h:Jo l=true):totS (Dw l)<9223372036854775808/\totS (D8 l)<9223372036854775808/\(Ko l).Nodup:=by
 unfold Jo at h;rw [Ab,Ab] at h;exact ⟨Bw h.1,Bw h.2.1,Bw h.2.2⟩
theorem AJ {l:List Int} (h:AllU64 l):0<=totS l:=D6 h _
theorem HB {x:Int} (h0:0<=x) (h1:x<9223372036854775808):u64.wrap x=x:=by rw [Fj]; omega
theorem zp5 (R:Type) {l:List Va} (h:VsOK l) (hn:l.length<=900) {key:List Int} (hk:key.length=32) {a:Int} (ha:U64 a) (most:Int) (k:List Va->Int->Int->Option R):
  F177 R l key a most k=k (depS l key a most).1 (depS l key a most).2.1 (depS l key a most).2.2:=by
 simp only [F177,p177,YS R h (by omega),YR R (show l.length<=1000 by omega),YQ R (show l.length<=1000 by omega)];unfold depS;cases hr:Jo l with
 | false=>simp
 | true=>
  obtain ⟨_,ht,_⟩:=AQ hr;have htn:=AJ (Js h);unfold U64 at ha;simp only [Db]
  by_cases h1:a=0
  ·rw [Ak (by simp [h1])]; simp [h1]
  by_cases h2:most<1
  ·rw [Ak (by omega)]
   have e1:(a==0)=false:=by simpa using h1
   simp only [e1,C1 h2]
  by_cases h3:most>1048576
  ·rw [Ak (by omega)]
   have e1:(a==0)=false:=by simpa using h1
   simp only [e1,C5 h2,C1 h3]
  have e1:(a==0)=false:=by simpa using h1
  rw [Aj ⟨trivial,h1,by omega,by omega⟩];have hf:=Vk h l.length (Al _) key hk;rw [Bl] at hf;have hT:=P1 R (Js h) (show (D8 l).length<=1000000 by rw [H7]; omega);have hA:=GM R (a:=totS (D8 l)) (b:=a) ⟨htn,ht⟩ ha;simp only [e1,C5 h2,C5 h3,hf];cases hq:fstK l key with
  | none=>
   simp only [Option.map_none,Option.isSome_none,De]
   by_cases h4:most<=(l.length:Int)
   ·rw [Aj h4]
    simp only [C1 (show (l.length:Int)>=most from h4)]
   ·rw [Ak h4]
    simp only [C5 (show ¬(l.length:Int)>=most from h4),hT,Aj ht,hA]
    by_cases h5:totS (D8 l)+a<9223372036854775808
    ·rw [Aj h5,Aj h5]
     have hc:decide (0<[((key,0,0,()):Va)].length/\l.length+[((key,0,0,()):Va)].length<=2932031007402)=true:=by simp; omega
     have hl:l.length<(l++[((key,0,0,()):Va)]).length:=by simp
     have hg:(l++[((key,0,0,()):Va)]).getD l.length zV=(key,0,0,()):=by simp
     simp only [Db,hc,E1 hl,Bv,hg,Int.zero_add];rw [HB (by omega) (by omega),W4 R (by simp; omega) hl];have:M5 (l++[((key,0,0,()):Va)]) l.length a=l++[(key,0,a,())]:=by
      unfold M5;rw [hg,C9 _ _ (Al _),Da];rfl
     rw [this]
    ·rw [Ak h5,Ak h5]; simp only [De]
  | some i=>
   obtain ⟨hi,_⟩:=DH hq;have hnx:=QN h hi;have hx:=(h.get i).next;unfold U64 at hx;simp only [Option.map_some,Option.isSome_some,Db,Option.getD_some,hT,Aj ht,hA]
   by_cases h5:totS (D8 l)+a<9223372036854775808
   ·simp only [Aj h5,Db,E1 hi,Bv]
    rw [show u64.wrap ((l.getD i zV).2.2.1+a)=(l.getD i zV).2.2.1+a from HB (by omega) (by omega),W4 R (by omega) hi];cases decide ((i:Int)>=most)<;>rfl
   ·simp only [Ak h5,De]
    cases decide ((i:Int)>=most)<;>rfl
def wdS (l:List Va) (who a:Int):List Va×Int×Int:=
 if Jo l=true/\a≠0 then
  if 0<=who/\who<(l.length:Int) then
   if a<=(l.getD who.toNat zV).2.2.1 then (M5 l who.toNat ((l.getD who.toNat zV).2.2.1 - a),(l.getD who.toNat zV).2.2.1 - a,0) else ([],0,12)
  else ([],0,5)
 else ([],0,1)
def slS (l:List Va) (who a:Int):List Va×Int×Int:=
 if Jo l=true then
  if 0<=who/\who<(l.length:Int) then
   (M5 l who.toNat ((l.getD who.toNat zV).2.2.1 - min a (l.getD who.toNat zV).2.2.1),min a (l.getD who.toNat zV).2.2.1,0)
  else ([],0,5)
 else ([],0,1)
def HE (l:List Va) (who:Int):Int:=if Jo l=true then (if 0<=who/\who<(l.length:Int) then 0 else 5) else 1
theorem YP (R:Type) {l:List Va} (h:VsOK l) (hn:l.length<=1000) (who:Int) (k:Int->Option R):F228 R l who k=k (HE l who):=by
 simp only [F228,p228,YS R h hn];unfold HE;cases Jo l with
 | false=>simp
 | true=>
  simp only [Db,Ca]
  by_cases h1:who<0
  ·rw [Ak (by omega)]; simp only [C1 h1]
  ·by_cases h2:who>=(l.length:Int)
   ·rw [Ak (by omega)]; simp only [C5 h1,C1 h2]
   ·rw [Aj (by omega)]; simp only [C5 h1,C5 h2]
theorem zp4 (R:Type) {l:List Va} (h:VsOK l) (hn:l.length<=1000) (who:Int) {a:Int} (ha:U64 a) (k:List Va->Int->Int->Option R):
  F178 R l who a k=k (wdS l who a).1 (wdS l who a).2.1 (wdS l who a).2.2:=by
 simp only [F178,p178,YP R h hn];unfold wdS HE;unfold U64 at ha
 by_cases h1:a=0
 ·rw [Ak (show ¬(Jo l=true/\a≠0) from λq=>q.2 h1)]; simp [h1]
 have e1:(a==0)=false:=by simpa using h1
 simp only [e1];cases hr:Jo l with
 | false=>simp
 | true=>
  have q:(True/\a≠0):=⟨trivial,h1⟩
  simp only [Aj q,Ca]
  by_cases h2:0<=who/\who<(l.length:Int)
  ·obtain ⟨i,rfl⟩:∃i:Nat,who=i:=⟨who.toNat,by omega⟩
   have hi:i<l.length:=by omega
   have hx:=(h.get i).next;unfold U64 at hx;rw [Aj h2,Aj h2];simp only [bne_self_eq_false,E1 hi,Bv]
   by_cases h3:a<=(l.getD i zV).2.2.1
   ·rw [Aj h3]
    have:¬a>(l.getD i zV).2.2.1:=by omega
    simp only [C5 this];rw [show u64.wrap ((l.getD i zV).2.2.1 - a)=(l.getD i zV).2.2.1 - a by rw [Fj]; omega,W4 R hn hi]
   ·rw [Ak h3]
    have:a>(l.getD i zV).2.2.1:=by omega
    simp only [C1 this]
  ·rw [Ak h2,Ak h2]
   rfl
theorem zp3 (R:Type) {l:List Va} (h:VsOK l) (hn:l.length<=1000) (who:Int) {a:Int} (ha:U64 a) (k:List Va->Int->Int->Option R):
  F179 R l who a k=k (slS l who a).1 (slS l who a).2.1 (slS l who a).2.2:=by
 simp only [F179,p179,YP R h hn];unfold slS HE;unfold U64 at ha;cases hr:Jo l with
 | false=>simp
 | true=>
  simp only [Ca]
  by_cases h2:0<=who/\who<(l.length:Int)
  ·obtain ⟨i,rfl⟩:∃i:Nat,who=i:=⟨who.toNat,by omega⟩
   have hi:i<l.length:=by omega
   have hx:=(h.get i).next;unfold U64 at hx;rw [Aj h2,Aj h2];have em:(if (l.getD i zV).2.2.1<a then (l.getD i zV).2.2.1 else a)=min a (l.getD i zV).2.2.1:=by
    by_cases hh:(l.getD i zV).2.2.1<a
    ·rw [Aj hh]; omega
    ·rw [Ak hh]; omega
   simp only [bne_self_eq_false,E1 hi,Bv,em];rw [show u64.wrap ((l.getD i zV).2.2.1 - min a (l.getD i zV).2.2.1)=(l.getD i zV).2.2.1 - min a (l.getD i zV).2.2.1 by rw [Fj]; omega,W4 R hn hi]
  ·rw [Ak h2,Ak h2]
   rfl
abbrev OpT:=Int×(Int×(Int×(List Int×(Int×Unit))))
abbrev zO:OpT:=((0:Int),(0:Int),(0:Int),(replicate 32 (0:Int)),(0:Int),())
structure OpOK (o:OpT):Prop where
 kind:I64 o.1
 who:I64 o.2.1
 amount:U64 o.2.2.1
 hash:H32 o.2.2.2.1
 n:I64 o.2.2.2.2.1
theorem SF {x b:Int} (hx:0<=x/\x<72057594037927936) (hb:0<=b/\b<256):ior .u64 (ishl .u64 x 8) b=x*256+b:=by
 obtain ⟨n,rfl⟩:∃n:Nat,x=n:=⟨x.toNat,by omega⟩
 obtain ⟨c,rfl⟩:∃c:Nat,b=c:=⟨b.toNat,by omega⟩
 have e2:ishl .u64 (n:Int) 8=((n*256:Nat):Int):=by
  unfold ishl;rw [show (2:Int)^(min (8:Int).toNat IntKind.u64.bits)=256 by decide,Dt (by omega) (by omega)];simp
 rw [e2,DG,Cy,Cy,BitVec.toNat_or,C0,C0,B7 (by omega),B7 (by omega)];have h6:=Nat.shiftLeft_add_eq_or_of_lt (i:=8) (b:=c) (by omega) n;rw [Nat.shiftLeft_eq] at h6;rw [show n*256=n*2^8 by rfl,<-h6];simp
theorem Hq {y z:Int} (hy:0<=y/\y<18446744073709551616) (hz:y/256=z):ior .u64 (ishl .u64 z 8) (y % 256)=y:=by
 rw [<-hz,SF (by omega) (by omega)]; omega
theorem YZ (R:Type) {a:Int} (ha:U64 a) (k:Int->Option R):F173 R (putS a) k=k a:=by
 unfold U64 at ha;have s1:ior .u64 (ishl .u64 0 8) (a/72057594037927936 % 256)=a/72057594037927936:=Hq (by omega) (by omega);have s2:ior .u64 (ishl .u64 (a/72057594037927936) 8) (a/281474976710656 % 256)=a/281474976710656:=Hq (by omega) (by omega);have s3:ior .u64 (ishl .u64 (a/281474976710656) 8) (a/1099511627776 % 256)=a/1099511627776:=Hq (by omega) (by omega);have s4:ior .u64 (ishl .u64 (a/1099511627776) 8) (a/4294967296 % 256)=a/4294967296:=Hq (by omega) (by omega);have s5:ior .u64 (ishl .u64 (a/4294967296) 8) (a/16777216 % 256)=a/16777216:=Hq (by omega) (by omega)
 have s6:ior .u64 (ishl .u64 (a/16777216) 8) (a/65536 % 256)=a/65536:=Hq (by omega) (by omega);have s7:ior .u64 (ishl .u64 (a/65536) 8) (a/256 % 256)=a/256:=Hq (by omega) (by omega);have s8:ior .u64 (ishl .u64 (a/256) 8) (a % 256)=a:=Hq (by omega) (by omega);have w:∀y:Int,u64.wrap (y % 256)=y % 256:=λy=>Dt (by omega) (by omega)
 obtain ⟨m,hm⟩:=N4 9 (by omega);simp only [F173,p173,hm,U1,PY,putS];simp [bnd,Iz,w,s1,s2,s3,s4,s5,s6,s7,s8]
inductive Fd where | H | A | W | N
deriving DecidableEq
def enc:Fd->Tq7
 | .H=>((32:Int),(FnV.fn 168),(FnV.fn 170),())
 | .A=>((8:Int),(FnV.fn 171),(FnV.fn 172),())
 | .W=>((4:Int),(FnV.clo 217 (FnV.fn 175)),(FnV.clo 219 (FnV.fn 175)),())
 | .N=>((4:Int),(FnV.clo 217 (FnV.fn 176)),(FnV.clo 219 (FnV.fn 176)),())
def fsOf (k:Int):List Fd×Bool:=
 if k=1 then ([.H,.A],true) else if k=2 then ([.W,.A],true) else if k=3 then ([.W,.A],true) else if k=4 then ([.W,.H],true) else if k=5 then ([.W,.H],true) else
 if k=6 then ([],true) else if k=11 then ([],true) else if k=7 then ([.N],true) else if k=8 then ([.N],true) else if k=9 then ([.N,.W],true) else if k=10 then ([.W,.N],true) else ([],false)
theorem kinds (k:Int):k=1\/k=2\/k=3\/k=4\/k=5\/k=6\/k=7\/k=8\/k=9\/k=10\/k=11\/(k≠1/\k≠2/\k≠3/\k≠4/\k≠5/\k≠6/\k≠7/\k≠8/\k≠9/\k≠10/\k≠11):=by omega
theorem Fp {a b:Int} (h:a≠b):(a==b)=false:=by simpa using h
theorem zag (R:Type) (x:Int) (k:List Tq7->Bool->Option R):F88 R x k=k ((fsOf x).1.map enc) (fsOf x).2:=by
 simp only [F88,p88,F121,p121,F122,p122,F123,p123,F124,p124,He,BD,Hd,BC];rcases kinds x with h | h | h | h | h | h | h | h | h | h | h | h
 ·subst h; rfl
 ·subst h; rfl
 ·subst h; rfl
 ·subst h; rfl
 ·subst h; rfl
 ·subst h; rfl
 ·subst h; rfl
 ·subst h; rfl
 ·subst h; rfl
 ·subst h; rfl
 ·subst h; rfl
 ·obtain ⟨h1,h2,h3,h4,h5,h6,h7,h8,h9,h10,h11⟩:=h
  simp only [Fp h1,Fp h2,Fp h3,Fp h4,Fp h5,Fp h6,Fp h7,Fp h8,Fp h9,Fp h10,Fp h11];simp [fsOf,h1,h2,h3,h4,h5,h6,h7,h8,h9,h10,h11]
def Iu (o:OpT):Fd->List Int
 | .H=>o.2.2.2.1
 | .A=>putS o.2.2.1
 | .W=>Fg o.2.1
 | .N=>Fg o.2.2.2.2.1
def Er:Fd->Nat
 | .H=>32
 | .A=>8
 | .W=>4
 | .N=>4
def zbh (o c:OpT):Fd->OpT
 | .H=>(c.1,c.2.1,c.2.2.1,o.2.2.2.1,c.2.2.2.2)
 | .A=>(c.1,c.2.1,o.2.2.1,c.2.2.2)
 | .W=>(c.1,o.2.1,c.2.2)
 | .N=>(c.1,c.2.1,c.2.2.1,c.2.2.2.1,o.2.2.2.2.1,c.2.2.2.2.2)
theorem Nt {o:OpT} (h:OpOK o) (f:Fd):(Iu o f).length=Er f:=by
 cases f
 ·exact h.hash.1
 ·rfl
 ·rfl
 ·rfl
def Gq (o:OpT) (l:List Fd):List Int:=l.flatMap (Iu o)
theorem Ow (o:OpT) (f:Fd) (l:List Fd):Gq o (f::l)=Iu o f++Gq o l:=by simp [Gq]
theorem Se {o:OpT} (h:OpOK o):∀(l:List Fd),(Gq o l).length=(l.map Er).sum
 | []=>rfl
 | f::l=>by rw [Ow,Ae,Nt h,Se h l]; simp
theorem V0 (f:Fd):(enc f).1=(Er f:Int):=by cases f<;>rfl
theorem Vc (f:Fd):Er f<=32:=by cases f<;>decide
theorem HP:∀(l:List Fd),(l.map Er).sum<=32*l.length
 | []=>by simp
 | f::l=>by have:=HP l; have:=Vc f; simp; omega
theorem Q3 {l:List Fd} {i:Nat} (hi:i<l.length):List.getD (l.map enc) i ((0:Int),FnV.nil,FnV.nil,())=enc l[i]:=by simp [hi]
theorem zgo (R:Type) {o:OpT} (h:OpOK o) (hw:U32 o.2.1) (hn:U32 o.2.2.2.2.1) {l:List Fd} (hl:l.length<=2) (k0:List Int->Option R):∀(m i:Nat) (acc:List Int),i<=l.length->l.length - i<m->acc.length<=1+32*i->
  Zn m R (l.map enc) (l.length:Int) (i:Int) o acc k0=k0 (acc++Gq o (l.drop i))
 | 0,i,acc,_,hh,_=>by omega
 | m+1,i,acc,h1,h2,h3=>by
  simp only [Zn,zjc]
  by_cases hi:i<l.length
  ·have ih:=zgo R h hw hn hl k0 m (i+1) (acc++Iu o l[i]) (by omega) (by omega) (by rw [Ae,Nt h]; have:=Vc l[i]; omega)
   have hb:bnd (i:Int) ((l.map enc).length:Int)=true:=by rw [C6]; exact E1 hi
   rw [Co hi,Ow,<-Ah,<-ih];simp only [Iq hi,hb,Bv,Fx hi (show l.length<=1000 by omega),Q3 hi];have hc:∀y:List Int,y.length<=32->decide (acc.length+y.length<=140737488355328)=true:=λy hy=>by simp; omega
   have w1:u32.wrap o.2.1=o.2.1:=by unfold U32 at hw; exact Fw hw.1 (by omega)
   have w2:u32.wrap o.2.2.2.2.1=o.2.2.2.2.1:=by unfold U32 at hn; exact Fw hn.1 (by omega)
   cases l[i] with
   | H=>
    have e1:FnV.same (enc .H).2.1 (FnV.fn 168)=true:=rfl;have e2:List.take 32 (List.drop 0 o.2.2.2.1)=o.2.2.2.1:=by rw [Bo,A8 (by rw [h.hash.1]; omega)]
    have e3:decide (([]:List Int).length+o.2.2.2.1.length<=140737488355328)=true:=by rw [h.hash.1]; rfl
    simp only [e1,e2,F169,e3,hc _ (show o.2.2.2.1.length<=32 by rw [h.hash.1]; omega)];rfl
   | A=>
    have e1:FnV.same (enc .A).2.1 (FnV.fn 168)=false:=rfl;have e2:FnV.same (enc .A).2.1 (FnV.fn 171)=true:=rfl;have e3:List.take 8 (List.drop 0 (putS o.2.2.1))=putS o.2.2.1:=rfl;simp only [e1,e2,Tk,e3,hc _ (show (putS o.2.2.1).length<=32 from Bj rfl)];rfl
   | W=>
    have e1:FnV.same (enc .W).2.1 (FnV.fn 168)=false:=rfl;have e2:FnV.same (enc .W).2.1 (FnV.fn 171)=false:=rfl;have e3:FnV.same (enc .W).2.1 (FnV.clo 217 (FnV.fn 175))=true:=rfl;have e4:List.take 4 (List.drop 0 (Fg o.2.1))=Fg o.2.1:=rfl;simp only [e1,e2,e3,w1,GN R hw,e4,hc _ (show (Fg o.2.1).length<=32 from Bj rfl)];rfl
   | N=>
    have e1:FnV.same (enc .N).2.1 (FnV.fn 168)=false:=rfl;have e2:FnV.same (enc .N).2.1 (FnV.fn 171)=false:=rfl;have e3:FnV.same (enc .N).2.1 (FnV.clo 217 (FnV.fn 175))=false:=rfl;have e3':FnV.same (enc .N).2.1 (FnV.clo 217 (FnV.fn 176))=true:=rfl;have e4:List.take 4 (List.drop 0 (Fg o.2.2.2.2.1))=Fg o.2.2.2.2.1:=rfl;simp only [e1,e2,e3,e3',w2,GN R hn,e4,hc _ (show (Fg o.2.2.2.2.1).length<=32 from Bj rfl)];rfl
  ·have:i=l.length:=by omega
   subst this;simp only [Hs,Cu,Gq,List.flatMap_nil,B0]
theorem I2 (k:Int):(fsOf k).1.length<=2:=by
 unfold fsOf
 repeat' split
 all_goals decide
def Qa (o:OpT):List Int:=if (fsOf o.1).2=true then (o.1 % 256)::Gq o (fsOf o.1).1 else [o.2.2.2.2.1 % 256]
theorem zu9 (R:Type) {o:OpT} (h:OpOK o) (hw:U32 o.2.1) (hn:U32 o.2.2.2.2.1) (k:List Int->Option R):F77 R o k=k (Qa o):=by
 simp only [F77,p77,zag,Gx];unfold Qa;cases (fsOf o.1).2 with
 | false=>simp
 | true=>
  simp only [Db,Ca,C6];exact zgo R h hw hn (I2 _) (λx=>k x) FUEL 0 _ (by omega) (by rw [Dv]; have:=I2 o.1; omega) (by simp)
def szF (l:List Fd):Int:=1+((l.map Er).sum:Nat)
theorem VZ (R:Type) {l:List Fd} (hl:l.length<=2) (k0:Int->Option R):∀(m i:Nat),i<=l.length->l.length - i<m->
  Te m R (szF (l.take i)) (l.map enc) (l.length:Int) (i:Int) k0=k0 (szF l)
 | 0,i,_,hh=>by omega
 | m+1,i,h1,h2=>by
  simp only [Te,QB]
  by_cases hi:i<l.length
  ·have ih:=VZ R hl k0 m (i+1) (by omega) (by omega)
   have hb:bnd (i:Int) ((l.map enc).length:Int)=true:=by rw [C6]; exact E1 hi
   simp only [Iq hi,hb,Bv,Fx hi (show l.length<=1000 by omega),Q3 hi,V0];have e:i64.wrap (szF (l.take i)+(Er l[i]:Int))=szF (l.take (i+1)):=by
    have h3:=HP (l.take i);have h4:=Vc l[i];have h5:(l.take i).length<=2:=by rw [A5]; omega
    have h6:szF (l.take (i+1))=szF (l.take i)+(Er l[i]:Int):=by
     unfold szF;rw [Cx hi,Bm,List.sum_append];simp;omega
    rw [h6];unfold szF;exact wrap_i64 (by omega) (by omega)
   rw [e,ih]
  ·have:i=l.length:=by omega
   subst this;simp only [Hs,Bl]
theorem zqe (R:Type) (x:Int) (k:Int->Bool->Option R):F125 R x k=if (fsOf x).2=true then k (szF (fsOf x).1) true else k 0 false:=by
 simp only [F125,p125,zag];cases (fsOf x).2 with
 | false=>simp
 | true=>
  simp only [Db,Ca,C6];have:=VZ R (I2 x) (λx4=>k x4 true) FUEL 0 (by omega) (by rw [Dv]; have:=I2 x; omega);simpa [szF] using this
theorem eqvO {a b:OpT} (ha:a.2.2.2.1.length=32) (hb:b.2.2.2.1.length=32):Kd.eqv Kq11 a b=decide (a=b):=by
 obtain ⟨a1,a2,a3,a4,a5,⟨⟩⟩:=a;obtain ⟨b1,b2,b3,b4,b5,⟨⟩⟩:=b;have e1:Kd.eqv (.arr 32 (.int .u8)) a4 b4=decide (a4=b4):=Is ha hb;show ((a1==b1)&&((a2==b2)&&((a3==b3)&&((Kd.eqv (.arr 32 (.int .u8)) a4 b4)&&((a5==b5)&&true)))))=_;rw [e1]
 by_cases h1:a1=b1
 ·by_cases h2:a2=b2
  ·by_cases h3:a3=b3
   ·by_cases h4:a4=b4
    ·by_cases h5:a5=b5
     ·simp [h1,h2,h3,h4,h5]
     ·simp [h5]
    ·simp [h4]
   ·simp [h3]
  ·simp [h2]
 ·simp [h1]
theorem SM {a:Int} (ha:U32 a):Nn (a/16777216 % 256) (a/65536 % 256) (a/256 % 256) (a % 256)=a:=by
 unfold U32 at ha; unfold Nn; omega
theorem W5 (R:Type) {a:Int} (ha:U32 a) (k:Int->Option R):F220 R (Fg a) k=k a:=by
 have u:∀x:Int,U8 (x % 256):=λx=>by unfold U8; omega
 unfold Fg;rw [YT R (u _) (u _) (u _) (u _),SM ha]
def Y4 (o:OpT) (l:List Fd) (c:OpT):OpT:=l.foldl (zbh o) c
theorem zgp (R:Type) {o:OpT} (h:OpOK o) (hw:U32 o.2.1) (hn:U32 o.2.2.2.2.1) {l:List Fd} (hl:l.length<=2) (x5:OpT) (k0:List Int->OpT->OpT->Option R):∀(m i:Nat) (c:OpT),i<=l.length->l.length - i<m->
  Lb m R (Gq o (l.drop i)) (l.map enc) (l.length:Int) (i:Int) x5 c k0=k0 [] x5 (Y4 o (l.drop i) c)
 | 0,i,c,_,hh=>by omega
 | m+1,i,c,h1,h2=>by
  simp only [Lb,X9]
  by_cases hi:i<l.length
  ·have ih:=zgp R h hw hn hl x5 k0 m (i+1) (zbh o c l[i]) (by omega) (by omega)
   have hb:bnd (i:Int) ((l.map enc).length:Int)=true:=by rw [C6]; exact E1 hi
   have hbl:=Nt h l[i];rw [Co hi,Ow];have hlen:(Iu o l[i]++Gq o (l.drop (i+1))).length=Er l[i]+(Gq o (l.drop (i+1))).length:=by rw [Ae,hbl]
   have c1:decide ((0:Int)<=0/\(0:Int)<=(Er l[i]:Int)/\(Er l[i]:Int)<=(Er l[i]:Int)/\(Er l[i]:Int)<=((Iu o l[i]++Gq o (l.drop (i+1))).length:Int))=true:=by
    rw [hlen]; simp; omega
   have c2:decide ((0:Int)<=(Er l[i]:Int)/\(Er l[i]:Int)<=((Iu o l[i]++Gq o (l.drop (i+1))).length:Int)/\((Iu o l[i]++Gq o (l.drop (i+1))).length:Int)<=((Iu o l[i]++Gq o (l.drop (i+1))).length:Int)/\((Iu o l[i]++Gq o (l.drop (i+1))).length:Int)<=((Iu o l[i]++Gq o (l.drop (i+1))).length:Int))=true:=by
    rw [hlen]; simp; omega
   have t1:List.take (Int.toNat ((Er l[i]:Int) - 0)) (List.drop 0 (Iu o l[i]++Gq o (l.drop (i+1))))=Iu o l[i]:=by
    rw [Int.sub_zero,Bv,Bo,<-hbl,Bp]
   have t2:List.take (Int.toNat (((Iu o l[i]++Gq o (l.drop (i+1))).length:Int) - (Er l[i]:Int))) (List.drop (Er l[i]) (Iu o l[i]++Gq o (l.drop (i+1))))=Gq o (l.drop (i+1)):=by
    rw [<-hbl,Bc,A8];rw [Ae];omega
   have hbk:Y4 o (l[i]::l.drop (i+1)) c=Y4 o (l.drop (i+1)) (zbh o c l[i]):=rfl;rw [hbk,<-ih];simp only [Iq hi,hb,Bv,Fx hi (show l.length<=1000 by omega),Q3 hi,V0,c1,c2];rw [t1,t2];have hw':=hw;have hn':=hn;unfold U32 at hw' hn';have w1:i64.wrap o.2.1=o.2.1:=wrap_i64 (by omega) (by omega);have w2:i64.wrap o.2.2.2.2.1=o.2.2.2.2.1:=wrap_i64 (by omega) (by omega);cases l[i] with
   | H=>
    have e1:FnV.same (enc .H).2.2.1 (FnV.fn 170)=true:=rfl;have e2:List.take 32 o.2.2.2.1=o.2.2.2.1:=by rw [A8 (by rw [h.hash.1]; omega)]
    have e3:decide ((32:Int)<=((Iu o .H).length:Int))=true:=by rw [Nt h]; rfl
    simp only [e1,e3];simp only [Iu,e2];rfl
   | A=>
    have e1:FnV.same (enc .A).2.2.1 (FnV.fn 170)=false:=rfl;have e2:FnV.same (enc .A).2.2.1 (FnV.fn 172)=true:=rfl;have e3:decide ((8:Int)<=((Iu o .A).length:Int))=true:=rfl;have e4:List.take 8 (putS o.2.2.1)=putS o.2.2.1:=rfl;simp only [e1,e2,e3];simp only [Iu,e4,YZ R h.amount];rfl
   | W=>
    have e1:FnV.same (enc .W).2.2.1 (FnV.fn 170)=false:=rfl;have e2:FnV.same (enc .W).2.2.1 (FnV.fn 172)=false:=rfl;have e2':FnV.same (enc .W).2.2.1 (FnV.clo 219 (FnV.fn 175))=true:=rfl;have e3:decide ((4:Int)<=((Iu o .W).length:Int))=true:=rfl;have e4:List.take 4 (Fg o.2.1)=Fg o.2.1:=rfl;simp only [e1,e2,e2',e3];simp only [Iu,e4,W5 R hw,w1];rfl
   | N=>
    have e1:FnV.same (enc .N).2.2.1 (FnV.fn 170)=false:=rfl;have e2:FnV.same (enc .N).2.2.1 (FnV.fn 172)=false:=rfl;have e2':FnV.same (enc .N).2.2.1 (FnV.clo 219 (FnV.fn 175))=false:=rfl;have e2'':FnV.same (enc .N).2.2.1 (FnV.clo 219 (FnV.fn 176))=true:=rfl;have e3:decide ((4:Int)<=((Iu o .N).length:Int))=true:=rfl;have e4:List.take 4 (Fg o.2.2.2.2.1)=Fg o.2.2.2.2.1:=rfl;simp only [e1,e2,e2',e2'',e3];simp only [Iu,e4,W5 R hn,w2];rfl
  ·have:i=l.length:=by omega
   subst this;simp only [Hs,Cu];rfl
theorem zaf (R:Type) (x:Int) (hx:0<=x/\x<256) (b:List Int) (k:Bool->Option R):F89 R (x::b) k=k (if (fsOf x).2=true then decide (szF (fsOf x).1<=((x::b).length:Int)) else true):=by
 simp only [F89,p89];have hb:bnd 0 (((x::b).length:Nat):Int)=true:=by unfold bnd; simp<;>omega
 have hw:i64.wrap x=x:=wrap_i64 (by omega) (by omega);simp only [hb,List.getD_cons_zero,hw,zqe];cases (fsOf x).2 with
 | false=>simp
 | true=>simp
theorem On {k:Int} (h:(fsOf k).2=true):1<=k/\k<=11:=by
 rcases kinds k with q | q | q | q | q | q | q | q | q | q | q | q
 all_goals try omega
 obtain ⟨h1,h2,h3,h4,h5,h6,h7,h8,h9,h10,h11⟩:=q;simp [fsOf,h1,h2,h3,h4,h5,h6,h7,h8,h9,h10,h11] at h
theorem zn6 (x:Int) (b:List Int):List.take (Int.toNat (((x::b).length:Int) - 1)) (List.drop 1 (x::b))=b:=by
 rw [List.drop_one,List.tail_cons,A8];rw [Af];omega
theorem XY (R:Type) {o:OpT} (h:OpOK o) (hw:U32 o.2.1) (hn:U32 o.2.2.2.2.1) (hv:(fsOf o.1).2=true) (k:OpT->List Int->Option R):
  F61 R (Qa o) k=k (Y4 o (fsOf o.1).1 (o.1,(0:Int),(0:Int),(replicate 32 (0:Int)),(0:Int),())) []:=by
 have hr:=On hv;have em:o.1 % 256=o.1:=by omega
 unfold Qa;rw [Aj hv,em];simp only [F61,p61];have hb:bnd 0 (((o.1::Gq o (fsOf o.1).1).length:Nat):Int)=true:=by unfold bnd; simp<;>omega
 have hwr:i64.wrap o.1=o.1:=wrap_i64 (by omega) (by omega);have hc:decide ((0:Int)<=1/\(1:Int)<=((o.1::Gq o (fsOf o.1).1).length:Int)/\((o.1::Gq o (fsOf o.1).1).length:Int)<=((o.1::Gq o (fsOf o.1).1).length:Int)/\((o.1::Gq o (fsOf o.1).1).length:Int)<=((o.1::Gq o (fsOf o.1).1).length:Int))=true:=by
  simp<;>omega
 have hs:decide (szF (fsOf o.1).1<=((o.1::Gq o (fsOf o.1).1).length:Int))=true:=by
  unfold szF;rw [Af,Se h];simp; omega
 simp only [hb,List.getD_cons_zero,hwr,zag,hv,Db,zaf R o.1 (by omega),Ca,hs,hc,zn6,C6];have:=zgp R h hw hn (I2 o.1) ((0:Int),(0:Int),(0:Int),(replicate 32 (0:Int)),(0:Int),()) (λx9 x10 x11=>k x11 x9) FUEL 0 (o.1,(0:Int),(0:Int),(replicate 32 (0:Int)),(0:Int),()) (by omega) (by rw [Dv]; have:=I2 o.1; omega);rw [Bo] at this;exact this
theorem zfj (R:Type) (x:Int) (hx:0<=x/\x<256) (k:OpT->List Int->Option R):
  F61 R [x] k=if (fsOf x).2=true/\(fsOf x).1=[] then k (x,(0:Int),(0:Int),(replicate 32 (0:Int)),(0:Int),()) [] else k ((0:Int),(0:Int),(0:Int),(replicate 32 (0:Int)),x,()) []:=by
 simp only [F61,p61];have hwr:i64.wrap x=x:=wrap_i64 (by omega) (by omega);have hb:bnd 0 ((([x]:List Int).length:Nat):Int)=true:=rfl;have hc:decide ((0:Int)<=1/\(1:Int)<=(([x]:List Int).length:Int)/\(([x]:List Int).length:Int)<=(([x]:List Int).length:Int)/\(([x]:List Int).length:Int)<=(([x]:List Int).length:Int))=true:=rfl;simp only [hb,List.getD_cons_zero,hwr,zag,zaf R x hx,hc,zn6,C6];cases hv:(fsOf x).2 with
 | false=>simp
 | true=>
  simp only [Db,Ca,true_and]
  by_cases he:(fsOf x).1=[]
  ·rw [Aj he]
   have hs:decide (szF (fsOf x).1<=(([x]:List Int).length:Int))=true:=by rw [he]; rfl
   simp only [hs,he,List.map_nil];obtain ⟨m,hm⟩:=N4 1 (by omega);rw [hm];simp only [Lb,X9];rfl
  ·rw [Ak he]
   have hs:decide (szF (fsOf x).1<=(([x]:List Int).length:Int))=false:=by
    cases hq:(fsOf x).1 with
    | nil=>exact absurd hq he
    | cons f l=>
     unfold szF;have:4<=Er f:=by cases f<;>decide
     simp;omega
   simp only [hs,De]
def zfu (o:OpT):Bool:=decide (0<=o.2.1/\o.2.1<4294967296/\0<=o.2.2.2.2.1/\o.2.2.2.2.1<4294967296)
def H1 (o:OpT):Bool:=zfu o&&(if (fsOf o.1).2=true then decide (Y4 o (fsOf o.1).1 (o.1,(0:Int),(0:Int),(replicate 32 (0:Int)),(0:Int),())=o)
 else decide (o.2.2.2.2.1<=255/\(fsOf o.2.2.2.2.1).2=false/\o=((0:Int),(0:Int),(0:Int),(replicate 32 (0:Int)),o.2.2.2.2.1,())))
theorem Y3 {o:OpT} (h:o.2.2.2.1.length=32):∀(l:List Fd) (c:OpT),c.2.2.2.1.length=32->(Y4 o l c).2.2.2.1.length=32
 | [],_,hc=>hc
 | f::l,c,hc=>by
  show (Y4 o l (zbh o c f)).2.2.2.1.length=32;refine Y3 h l _ ?_;cases f
  ·exact h
  ·exact hc
  ·exact hc
  ·exact hc
theorem zva (R:Type) {o:OpT} (h:OpOK o) (k:Bool->Option R):F76 R o k=k (H1 o):=by
 simp only [F76,p76];unfold H1 zfu
 by_cases r1:o.2.1<0
 ·simp only [C1 r1]; rw [C5 (by omega)]; simp
 by_cases r2:o.2.1>4294967295
 ·simp only [C5 r1,C1 r2]; rw [C5 (by omega)]; simp
 by_cases r3:o.2.2.2.2.1<0
 ·simp only [C5 r1,C5 r2,C1 r3]; rw [C5 (by omega)]; simp
 by_cases r4:o.2.2.2.2.1>4294967295
 ·simp only [C5 r1,C5 r2,C5 r3,C1 r4]; rw [C5 (by omega)]; simp
 have hw:U32 o.2.1:=by unfold U32; omega
 have hn:U32 o.2.2.2.2.1:=by unfold U32; omega
 simp only [C5 r1,C5 r2,C5 r3,C5 r4,zu9 R h hw hn];rw [C1 (by omega),C7];cases hv:(fsOf o.1).2 with
 | true=>
  rw [XY R h hw hn hv,eqvO (Y3 h.hash.1 _ _ rfl) h.hash.1,Aj rfl];have e0:((([]:List Int).length:Int)==0)=true:=rfl;simp only [e0];have hbo:Qa o=(o.1 % 256)::Gq o (fsOf o.1).1:=by unfold Qa; rw [Aj hv]
  have hr:=On hv;have em:o.1 % 256=o.1:=by omega
  have hs:decide (szF (fsOf o.1).1<=((o.1::Gq o (fsOf o.1).1).length:Int))=true:=by
   unfold szF;rw [Af,Se h];simp; omega
  rw [hbo,em,zaf R o.1 (by omega),Aj hv,hs];cases decide (Y4 o (fsOf o.1).1 (o.1,(0:Int),(0:Int),(replicate 32 (0:Int)),(0:Int),())=o)<;>rfl
 | false=>
  have hbo:Qa o=[o.2.2.2.2.1 % 256]:=by unfold Qa; rw [hv]; rfl
  have hx:0<=o.2.2.2.2.1 % 256/\o.2.2.2.2.1 % 256<256:=by omega
  rw [hbo,zfj R _ hx];simp only [Bx,By];have e0:((([]:List Int).length:Int)==0)=true:=rfl
  by_cases he:(fsOf (o.2.2.2.2.1 % 256)).2=true/\(fsOf (o.2.2.2.2.1 % 256)).1=[]
  ·rw [Aj he,eqvO (by rfl) h.hash.1]
   have hne:((o.2.2.2.2.1 % 256,(0:Int),(0:Int),(replicate 32 (0:Int)),(0:Int),()):OpT)≠o:=λe=>by
    have:o.1=o.2.2.2.2.1 % 256:=by conv=>lhs; rw [<-e]
    rw [<-this,hv] at he;cases he.1
   rw [C5 hne,C5]
   rintro ⟨q1,q2,_⟩
   rw [show o.2.2.2.2.1 % 256=o.2.2.2.2.1 by omega,q2] at he;cases he.1
  ·rw [Ak he,eqvO (by rfl) h.hash.1]
   by_cases e:((0:Int),(0:Int),(0:Int),(replicate 32 (0:Int)),o.2.2.2.2.1 % 256,())=o
   ·have en:o.2.2.2.2.1=o.2.2.2.2.1 % 256:=by conv=>lhs; rw [<-e]
    simp only [C1 e,e0,zaf R _ hx];cases hq:(fsOf (o.2.2.2.2.1 % 256)).2 with
    | true=>
     have hs:decide (szF (fsOf (o.2.2.2.2.1 % 256)).1<=(([o.2.2.2.2.1 % 256]:List Int).length:Int))=false:=by
      cases hf:(fsOf (o.2.2.2.2.1 % 256)).1 with
      | nil=>exact absurd ⟨hq,hf⟩ he
      | cons f l=>
       unfold szF;have:4<=Er f:=by cases f<;>decide
       simp;omega
     rw [Aj rfl,hs,C5]
     rintro ⟨_,q2,_⟩
     rw [en,hq] at q2;cases q2
    | false=>
     rw [Ak (by decide),C1];exact ⟨by omega,by rw [en]; exact hq,by rw [<-en] at e; exact e.symm⟩
   ·simp only [C5 e]
    rw [C5]
    rintro ⟨q1,_,q3⟩
    rw [show o.2.2.2.2.1 % 256=o.2.2.2.2.1 by omega] at e;exact e q3.symm
theorem Ub {n:Int} (hn:U64 n):∀(m:Nat) (s:Src),SOK s->Es s=true->64*(m:Int)<=Hu s->(Hp n m s).2.2=0\/(Hp n m s).2.2=9
 | 0,s,_,_,_=>.inr rfl
 | m+1,s,hs,hr,hl=>by
  have hk:=(QO hn).1;have ht:=HF (s:=s) (n:=Fi n) hr hk (by omega);have h2:=OD hs hr (k:=Fi n) (by omega);simp only [Hp,ht];rw [Aj trivial]
  by_cases hv:Qo s (atS s) (Fi n)<n
  ·rw [Aj hv]; exact .inl rfl
  ·rw [Ak hv]
   have hs2:=Xb hs (Fi n);rw [ht] at hs2;exact Ub hn m _ hs2 h2.1 (by rw [h2.2]; omega)
theorem OR {l:List Int} (h:AllU64 l):∀(i:Nat),i<=l.length->(posN l i≠0↔0<sumS l i)
 | 0,_=>by simp [posN,sumS]
 | i+1,hi=>by
  have hi':i<l.length:=by omega
  have ih:=OR h i (by omega);have h0:=D6 h i;have hx:=(D2 h Lw i)
  unfold U64 at hx;rw [X6 hi',E8 hi']
  by_cases e:l.getD i 0>0
  ·rw [Aj e]; omega
  ·rw [Ak e]
   have:l.getD i 0=0:=by omega
   rw [this];omega
theorem Vj {l:List Int} (h:AllU64 l):posS l≠0↔0<totS l:=by
 have:=OR h l.length (Al _);unfold posS totS;omega
theorem HN {l:List Int} {a:Int} {j:Nat} (hj:j<=l.length):sumS (l++[a]) j=sumS l j:=by
 unfold sumS; rw [Bd hj]
theorem zjo {l:List Int} (h:AllU64 l) (hlen:l.length<=199) (ht:totS l<9223372036854775808) {x:Int} (hx:0<=x/\x<totS l):ownN (l++[0]) x=ownN l x:=by
 obtain ⟨i,hi,e⟩:=IF h (by omega) ht hx;rw [e];have hA:AllU64 (l++[0]):=λy hy=>by
  rcases Ai.1 hy with hy | hy
  ·exact h y hy
  ·rw [Ce.1 hy]; exact Lw
 refine BG hA ⟨by rw [Ae]; have:=hi.1; omega,?_⟩;rw [HN (by have:=hi.1; omega),HN (by have:=hi.1; omega)];exact hi.2
theorem Yx {n:Int}:∀(m:Nat) (s:Src),(Hp n m s).2.2=0->(Hp n m s).1<n
 | 0,s,h=>by simp [Hp] at h
 | m+1,s,h=>by
  simp only [Hp] at h ⊢;split
  ·rename_i h1
   rw [Aj h1] at h;split
   ·assumption
   ·rename_i h2
    rw [Ak h2] at h;exact Yx m _ h
  ·rename_i h1
   rw [Ak h1] at h;exact absurd h h1
theorem TZ {s:Src} {n m:Int} (h:(Fa s n m).2.2=0):0<=(Fa s n m).1/\(Fa s n m).1<n:=by
 unfold Fa at h ⊢;split
 ·rename_i hc
  rw [Aj hc] at h;exact ⟨K3 _ _,Yx _ _ h⟩
 ·rename_i hc
  rw [Ak hc] at h;cases h
theorem zdk {a:List Int} {slot m:Int} {l:List Int} (h:AllU64 l) (hlen:l.length<=199):leaS a slot m (l++[0])=leaS a slot m l:=by
 unfold leaS;rw [Kt,Int.add_zero]
 by_cases hm:mayS m slot=true
 ·rw [Aj hm,Aj hm]
  by_cases ht:totS l<9223372036854775808
  ·rw [Aj ht,Aj ht]
   have:∀s:Src,Fs (l++[0]) s m=Fs l s m:=λs=>by
    unfold Fs;rw [Kt,Int.add_zero,Aj ht,Aj ht]
    by_cases h0:totS l=0
    ·rw [Aj h0,Aj h0]
    ·rw [Ak h0,Ak h0]
     by_cases hd:(Fa s (totS l) m).2.2=0
     ·rw [Aj hd,Aj hd,zjo h hlen ht (TZ hd)]
     ·rw [Ak hd,Ak hd]
   rw [this]
  ·rw [Ak ht,Ak ht]
 ·rw [Ak hm,Ak hm]
theorem zdj {a:List Int} (ha:H32 a) {slot m:Int} {l:List Int} (h:AllU64 l) (hm:mayS m slot=true) (ht:totS l<9223372036854775808) (hp:0<totS l):
  ((leaS a slot m l).2=0/\0<=(leaS a slot m l).1)\/(leaS a slot m l).2=9:=by
 obtain ⟨m1,m2,m3,m4⟩:=Nj hm;unfold leaS;rw [Aj hm,Aj ht];have hs:=U9 ha (d:=1) (slot:=slot) (by omega) (by omega);have hr:Es (srcS a 1 slot)=true:=by
  unfold Es srcS F3; simp
 have hl:Hu (srcS a 1 slot)=4611686018427387904:=by
  unfold Hu; rw [Aj hr]; unfold endS srcS F3; simp
 have hu:U64 (totS l):=by unfold U64; omega
 simp only [];unfold Fs;rw [Aj ht,Ak (by omega)];have hd:(Fa (srcS a 1 slot) (totS l) m)=Hp (totS l) m.toNat (srcS a 1 slot):=by
  unfold Fa;rw [Aj ⟨hr,hp,ht,by omega,by omega⟩]
 have he:=Ub hu m.toNat (srcS a 1 slot) hs hr (by rw [hl]; omega);rw [<-hd] at he
 by_cases h0:(Fa (srcS a 1 slot) (totS l) m).2.2=0
 ·rw [Aj h0]; exact .inl ⟨rfl,Int.natCast_nonneg _⟩
 ·rw [Ak h0]; exact .inr (he.resolve_left h0)
abbrev Led:=Cfg×(Int×(List Va×(Bea×(List Int×(List Int×Unit)))))
abbrev An:=Int×(Int×(List Int×(List Int×Unit)))
abbrev Clk:=Led×(An×Unit)
def badS (e:Int):An:=(e,(0:Int),([]:List Int),(replicate 32 (0:Int)),())
def okS (n:Int):An:=((0:Int),n,([]:List Int),(replicate 32 (0:Int)),())
def Hn (l:Led) (r:List Va×Int×Int):Led×An:=if r.2.2=0 then ((l.1,l.2.1,r.1,l.2.2.2),okS r.2.1) else (l,badS r.2.2)
def Of (l:Led) (r:Bea×Int):Led×An:=if r.2=0 then ((l.1,l.2.1,l.2.2.1,r.1,l.2.2.2.2),okS 0) else (l,badS r.2)
def Hz (l:Led) (w:Int):Bool:=decide (0<=w/\w<(l.2.2.1.length:Int))
def advS (l:Led):Led×An:=
 if zd8 l.1 l.2.1=true then
  (if (bEnd l.2.2.2.1).2.2.2=0 then
   ((l.1,Tp l.1 l.2.1,actS l.2.2.1,(bEnd l.2.2.2.1).1,(schL (bEnd l.2.2.2.1).1.2.1 l.1.1 l.1.2.2.2.1 (Dw (actS l.2.2.1))).1,(bEnd l.2.2.2.1).2.2.1,()),
    ((0:Int),Tp l.1 l.2.1,(bEnd l.2.2.2.1).2.2.1,(bEnd l.2.2.2.1).1.2.1,()))
  else (l,badS (bEnd l.2.2.2.1).2.2.2))
 else ((l.1,Tp l.1 l.2.1,l.2.2),okS (Tp l.1 l.2.1))
def askS (l:Led) (o:OpT):An:=
 if o.1=10 then (if Hz l o.2.1=true then okS (if o.2.2.2.2.1=0 then (l.2.2.1.getD o.2.1.toNat zV).2.1 else (l.2.2.1.getD o.2.1.toNat zV).2.2.1) else badS 5)
 else if o.1=11 then ((0:Int),l.2.2.2.1.1,([]:List Int),l.2.2.2.1.2.1,())
 else if o.2.2.2.2.1>=l.1.1 then badS 3
 else if o.1=7 then
  (if posS (Dw l.2.2.1)=0 then badS 10 else
   if (leaS l.2.2.2.1.2.1 o.2.2.2.2.1 l.1.2.2.2.1 (Dw l.2.2.1)).2=0 then ((0:Int),(0:Int),[(leaS l.2.2.2.1.2.1 o.2.2.2.2.1 l.1.2.2.2.1 (Dw l.2.2.1)).1],(replicate 32 (0:Int)),())
   else badS (leaS l.2.2.2.1.2.1 o.2.2.2.2.1 l.1.2.2.2.1 (Dw l.2.2.1)).2)
 else if o.1=8 then
  (if (aliS l.2.2.2.1.2.1 o.2.2.2.2.1 l.1.2.2.2.1 (Dw l.2.2.1)).2=0 then ((0:Int),(0:Int),[(aliS l.2.2.2.1.2.1 o.2.2.2.2.1 l.1.2.2.2.1 (Dw l.2.2.1)).1],(replicate 32 (0:Int)),())
   else badS (aliS l.2.2.2.1.2.1 o.2.2.2.2.1 l.1.2.2.2.1 (Dw l.2.2.1)).2)
 else
  (if (sitS l.2.2.2.1.2.1 o.2.2.2.2.1 o.2.1 l.1.2.2.2.1 (Dw l.2.2.1)).2=0 then ((0:Int),(0:Int),(sitS l.2.2.2.1.2.1 o.2.2.2.2.1 o.2.1 l.1.2.2.2.1 (Dw l.2.2.1)).1,(replicate 32 (0:Int)),())
   else badS (sitS l.2.2.2.1.2.1 o.2.2.2.2.1 o.2.1 l.1.2.2.2.1 (Dw l.2.2.1)).2)
def doS (l:Led) (o:OpT):Led×An:=
 if H1 o=true/\o.1≠0 then
  if o.1=1 then Hn l (depS l.2.2.1 o.2.2.2.1 o.2.2.1 l.1.2.2.2.2.1)
  else if o.1=2 then Hn l (wdS l.2.2.1 o.2.1 o.2.2.1)
  else if o.1=3 then Hn l (slS l.2.2.1 o.2.1 o.2.2.1)
  else if o.1=4 then (if Hz l o.2.1=true then Of l (Gt l.2.2.2.1 (phS l.1 l.2.1) o.2.1 o.2.2.2.1) else (l,badS 5))
  else if o.1=5 then (if Hz l o.2.1=true then Of l (Gs l.2.2.2.1 (phS l.1 l.2.1) o.2.1 o.2.2.2.1) else (l,badS 5))
  else if o.1=6 then advS l
  else (l,askS l o)
 else (l,badS 2)
structure LOK (c:Cfg) (n:Nat) (l:Led):Prop where
 cfg:l.1=c
 right:cfgS c=true
 slot:0<=l.2.1/\l.2.1<c.1
 vals:VsOK l.2.2.1
 vlen:l.2.2.1.length<=n
 next:totS (D8 l.2.2.1)<9223372036854775808
 stake:totS (Dw l.2.2.1)<9223372036854775808
 bea:Le l.2.2.2.1
 blen:l.2.2.2.1.2.2.2.1.length<=n
 llen:(l.2.2.2.2.1.length:Int)=c.1
 lead:∀i:Nat,(i:Int)<c.1->posS (Dw l.2.2.1)≠0->l.2.2.2.2.1.getD i 0=schV l.2.2.2.1.2.1 c.2.2.2.1 (Dw l.2.2.1) i
 miss:l.2.2.2.2.2.1.length<=1000
theorem LD {o:OpT} (h:H1 o=true) (h0:o.1≠0):1<=o.1/\o.1<=11:=by
 unfold H1 at h;rw [Ab] at h
 by_cases hv:(fsOf o.1).2=true
 ·exact On hv
 ·rw [Ak hv] at h
  have:=(Bw h.2).2.2;exfalso;apply h0;rw [this]
theorem Vg {o:OpT} (h:H1 o=true):0<=o.2.2.2.2.1/\o.2.2.2.2.1<4294967296/\0<=o.2.1/\o.2.1<4294967296:=by
 unfold H1 at h;rw [Ab] at h;have:=Bw h.1;omega
theorem JE {x:Int} (h:x=0):(x !=0)=false:=by simp [h]
theorem UJ {x:Int} (h:¬x=0):(x !=0)=true:=by simpa using h
theorem ze2 (l:List Va) (key:List Int) (a most:Int) (hn:l.length<=1000):0<=(depS l key a most).2.1/\(depS l key a most).2.1<=1000:=by
 unfold depS;split
 ·cases hq:fstK l key with
  | none=>
   simp only [];split
   ·simp
   ·split
    ·simp only []; omega
    ·simp
  | some i=>
   have:=(DH hq).1;simp only [];split
   ·simp only []; omega
   ·simp
 ·simp
section
variable {c:Cfg} {n:Nat} {l:Led}
theorem Rs (h:LOK c n l):0<=Tp l.1 l.2.1/\Tp l.1 l.2.1<c.1/\c.1<=1024:=by
 have h1:=Gn h.right;have h2:=h.slot;unfold Tp;rw [h.cfg];split
 ·omega
 ·omega
theorem UV {v:List Va} (h:VsOK v):VsOK (actS v):=λx hx=>by
 obtain ⟨y,hy,rfl⟩:=List.mem_map.1 hx;exact ⟨(h y hy).key,(h y hy).next,(h y hy).next⟩
theorem Si (v:List Va):Dw (actS v)=D8 v:=by simp [Dw,actS,D8,actV]
theorem MC (v:List Va):D8 (actS v)=D8 v:=by simp [actS,D8,actV]
theorem UN {b:Bea} (h:Le b):H32 (bEnd b).1.2.1/\((bEnd b).2.2.2=0->(bEnd b).2.1.2.2.2.1=(bEnd b).1.2.1):=by
 unfold bEnd;split
 ·exact ⟨Ee,λh=>by cases h⟩
 ·split
  ·exact ⟨Ee,λh=>by cases h⟩
  ·exact ⟨Vd _ _ _,λ_=>rfl⟩
end
end Go.PG
set_option maxRecDepth 100000
namespace Go.PG
def endC {R:Type} (l:Led) (k:Led->An->Option R) (y:Int) (p:Clk):Option R:=match (y !=0) with | true=>k l (badS y) | false=>k p.1 p.2.1
def G4 {R:Type} (l:Led) (k:Led->An->Option R) (x:Option R) (y:Bool):Option R:=match (!y) with | true=>k l (badS 2) | false=>x
theorem Aan (R:Type) (l:Led) {o:OpT} (hk:o.1=1) (k:Led->An->Option R):F62 R l o k=F76 R o (G4 l k (F126 R (l,okS 0,()) o (endC l k))):=by
 obtain ⟨x,r⟩:=o;cases hk
 kernel_rfl
theorem Aam (R:Type) (l:Led) {o:OpT} (hk:o.1=2) (k:Led->An->Option R):F62 R l o k=F76 R o (G4 l k (F127 R (l,okS 0,()) o (endC l k))):=by
 obtain ⟨x,r⟩:=o;cases hk
 kernel_rfl
theorem Aal (R:Type) (l:Led) {o:OpT} (hk:o.1=3) (k:Led->An->Option R):F62 R l o k=F76 R o (G4 l k (F128 R (l,okS 0,()) o (endC l k))):=by
 obtain ⟨x,r⟩:=o;cases hk
 kernel_rfl
theorem Aak (R:Type) (l:Led) {o:OpT} (hk:o.1=4) (k:Led->An->Option R):F62 R l o k=F76 R o (G4 l k (F129 R (l,okS 0,()) o (endC l k))):=by
 obtain ⟨x,r⟩:=o;cases hk
 kernel_rfl
theorem Aaj (R:Type) (l:Led) {o:OpT} (hk:o.1=5) (k:Led->An->Option R):F62 R l o k=F76 R o (G4 l k (F132 R (l,okS 0,()) o (endC l k))):=by
 obtain ⟨x,r⟩:=o;cases hk
 kernel_rfl
theorem Aai (R:Type) (l:Led) {o:OpT} (hk:o.1=6) (k:Led->An->Option R):F62 R l o k=F76 R o (G4 l k (F134 R (l,okS 0,()) o (endC l k))):=by
 obtain ⟨x,r⟩:=o;cases hk
 kernel_rfl
theorem Aah (R:Type) (l:Led) {o:OpT} (hk:o.1=7) (k:Led->An->Option R):F62 R l o k=F76 R o (G4 l k (F135 R (l,okS 0,()) o (endC l k))):=by
 obtain ⟨x,r⟩:=o;cases hk
 kernel_rfl
theorem Aag (R:Type) (l:Led) {o:OpT} (hk:o.1=8) (k:Led->An->Option R):F62 R l o k=F76 R o (G4 l k (F136 R (l,okS 0,()) o (endC l k))):=by
 obtain ⟨x,r⟩:=o;cases hk
 kernel_rfl
theorem Aaf (R:Type) (l:Led) {o:OpT} (hk:o.1=9) (k:Led->An->Option R):F62 R l o k=F76 R o (G4 l k (F137 R (l,okS 0,()) o (endC l k))):=by
 obtain ⟨x,r⟩:=o;cases hk
 kernel_rfl
theorem zve (R:Type) (l:Led) {o:OpT} (hk:o.1=10) (k:Led->An->Option R):F62 R l o k=F76 R o (G4 l k (F138 R (l,okS 0,()) o (endC l k))):=by
 obtain ⟨x,r⟩:=o;cases hk
 kernel_rfl
theorem zvd (R:Type) (l:Led) {o:OpT} (hk:o.1=11) (k:Led->An->Option R):F62 R l o k=F76 R o (G4 l k (F139 R (l,okS 0,()) o (endC l k))):=by
 obtain ⟨x,r⟩:=o;cases hk
 kernel_rfl
theorem zfi (R:Type) (l:Led) {o:OpT} (hk:o.1≠1/\o.1≠2/\o.1≠3/\o.1≠4/\o.1≠5/\o.1≠6/\o.1≠7/\o.1≠8/\o.1≠9/\o.1≠10/\o.1≠11) (k:Led->An->Option R):F62 R l o k=k l (badS 2):=by
 obtain ⟨h1,h2,h3,h4,h5,h6,h7,h8,h9,h10,h11⟩:=hk;simp [F62,p62,E9,Kd.eqv];simp only [Fp h1,Fp h2,Fp h3,Fp h4,Fp h5,Fp h6,Fp h7,Fp h8,Fp h9,Fp h10,Fp h11];rfl
section
variable {c:Cfg} {n:Nat} {l:Led}
theorem Ff {R:Type} (l:Led) {o:OpT} (ho:OpOK o) (k:Led->An->Option R) (x:Option R) (z:Option R) (h1:H1 o=false->k l (badS 2)=z) (h2:H1 o=true->x=z):F76 R o (G4 l k x)=z:=by
 rw [zva R ho];unfold G4;cases hr:H1 o with
 | false=>exact h1 hr
 | true=>exact h2 hr
theorem F4 {R:Type} (l:Led) (k:Led->An->Option R) {y:Int} (p:Clk) (h:y=0):endC l k y p=k p.1 p.2.1:=by unfold endC; rw [JE h]
theorem Fz {R:Type} (l:Led) (k:Led->An->Option R) {y:Int} (p:Clk) (h:¬y=0):endC l k y p=k l (badS y):=by unfold endC; rw [UJ h]
theorem R6 {R:Type} (l:Led) (k:Led->An->Option R) (r:List Va×Int×Int):endC l k r.2.2 ((l.1,l.2.1,r.1,l.2.2.2),((0:Int),r.2.1,([]:List Int),(replicate 32 (0:Int)),()),())=k (Hn l r).1 (Hn l r).2:=by
 unfold Hn
 by_cases hr:r.2.2=0
 ·rw [F4 l k _ hr,Aj hr]; rfl
 ·rw [Fz l k _ hr,Ak hr]
theorem JC {R:Type} (l:Led) (k:Led->An->Option R) (r:Bea×Int):endC l k r.2 ((l.1,l.2.1,l.2.2.1,r.1,l.2.2.2.2),okS 0,())=k (Of l r).1 (Of l r).2:=by
 unfold Of
 by_cases hr:r.2=0
 ·rw [F4 l k _ hr,Aj hr]
 ·rw [Fz l k _ hr,Ak hr]
theorem P51 (R:Type) (h:LOK c n l) (hn:n<=150) {o:OpT} (ho:OpOK o) (k:Led->An->Option R):
  F126 R (l,okS 0,()) o (endC l k)=k (Hn l (depS l.2.2.1 o.2.2.2.1 o.2.2.1 l.1.2.2.2.2.1)).1 (Hn l (depS l.2.2.1 o.2.2.2.1 o.2.2.1 l.1.2.2.2.2.1)).2:=by
 have hl:=h.vlen;have hi:=ze2 l.2.2.1 o.2.2.2.1 o.2.2.1 l.1.2.2.2.2.1 (by omega);simp only [F126,p126];rw [zp5 R h.vals (by omega) ho.hash.1 ho.amount,Dt (n:=(depS l.2.2.1 o.2.2.2.1 o.2.2.1 l.1.2.2.2.2.1).2.1) (by omega) (by omega)];exact R6 l k _
theorem P52 (R:Type) (h:LOK c n l) (hn:n<=150) {o:OpT} (ho:OpOK o) (k:Led->An->Option R):
  F127 R (l,okS 0,()) o (endC l k)=k (Hn l (wdS l.2.2.1 o.2.1 o.2.2.1)).1 (Hn l (wdS l.2.2.1 o.2.1 o.2.2.1)).2:=by
 have hl:=h.vlen;simp only [F127,p127];rw [zp4 R h.vals (by omega) _ ho.amount];exact R6 l k _
theorem P53 (R:Type) (h:LOK c n l) (hn:n<=150) {o:OpT} (ho:OpOK o) (k:Led->An->Option R):
  F128 R (l,okS 0,()) o (endC l k)=k (Hn l (slS l.2.2.1 o.2.1 o.2.2.1)).1 (Hn l (slS l.2.2.1 o.2.1 o.2.2.1)).2:=by
 have hl:=h.vlen;simp only [F128,p128];rw [zp3 R h.vals (by omega) _ ho.amount];exact R6 l k _
theorem GP (R:Type) (p:Clk) (w:Int) (k:Int->Clk->Option R):F180 R p w k=k (if Hz p.1 w=true then 0 else 5) p:=by
 simp only [F180,p180]
 by_cases h1:w<0
 ·have e:Hz p.1 w=false:=C5 (by omega)
  simp only [C1 h1]; rw [e]; rfl
 ·simp only [C5 h1]
  by_cases h2:w>=(p.1.2.2.1.length:Int)
  ·have e:Hz p.1 w=false:=C5 (by omega)
   simp only [C1 h2]; rw [e]; rfl
  ·have e:Hz p.1 w=true:=C1 (by omega)
   simp only [C5 h2]; rw [e]; rfl
theorem P54 (R:Type) (h:LOK c n l) (hn:n<=150) {o:OpT} (ho:OpOK o) (k:Led->An->Option R):
  F129 R (l,okS 0,()) o (endC l k)=k (if Hz l o.2.1=true then Of l (Gt l.2.2.2.1 (phS l.1 l.2.1) o.2.1 o.2.2.2.1) else (l,badS 5)).1 (if Hz l o.2.1=true then Of l (Gt l.2.2.2.1 (phS l.1 l.2.1) o.2.1 o.2.2.2.1) else (l,badS 5)).2:=by
 have hl:=h.blen;simp only [F129,p129,Hg,BF,GP];cases Hz l o.2.1 with
 | false=>
  simp only [Bx,By];exact Fz l k _ (by decide)
 | true=>
  simp only [Ca,show ((0:Int) !=0)=false from rfl,YY,zqd R h.bea (show l.2.2.2.1.2.2.2.1.length<=400 by omega) _ ho.who ho.hash];exact JC l k _
theorem P57 (R:Type) (h:LOK c n l) (hn:n<=150) {o:OpT} (ho:OpOK o) (k:Led->An->Option R):
  F132 R (l,okS 0,()) o (endC l k)=k (if Hz l o.2.1=true then Of l (Gs l.2.2.2.1 (phS l.1 l.2.1) o.2.1 o.2.2.2.1) else (l,badS 5)).1 (if Hz l o.2.1=true then Of l (Gs l.2.2.2.1 (phS l.1 l.2.1) o.2.1 o.2.2.2.1) else (l,badS 5)).2:=by
 have hl:=h.blen;simp only [F132,p132,Hf,BE,GP];cases Hz l o.2.1 with
 | false=>
  simp only [Bx,By];exact Fz l k _ (by decide)
 | true=>
  simp only [Ca,show ((0:Int) !=0)=false from rfl,YY,zqc R h.bea (show l.2.2.2.1.2.2.2.1.length<=400 by omega) _ _ ho.hash];exact JC l k _
theorem zfr (h:LOK c n l) (a:List Int):(schL a l.1.1 l.1.2.2.2.1 (Dw (actS l.2.2.1))).2=0/\(schL a l.1.1 l.1.2.2.2.1 (Dw (actS l.2.2.1))).1=schP a l.1.2.2.2.1 (Dw (actS l.2.2.1)) l.1.1.toNat:=by
 have hc:=Gn h.right;have hm:mayS l.1.2.2.2.1 (l.1.1 - 1)=true:=by
  rw [h.cfg]; unfold mayS; simp; omega
 have ht:totS (Dw (actS l.2.2.1))<9223372036854775808:=by rw [Si]; exact h.next
 unfold schL;rw [Ak (by rw [h.cfg]; omega),Aj hm,Aj ht];exact ⟨rfl,rfl⟩
theorem QQ (l:List Cm):(Kn l).length<=l.length:=by
 unfold Kn;simp only [C6];exact List.length_filter_le _ _
theorem LY (b:Bea):(bEnd b).2.2.1.length<=b.2.2.2.1.length:=by
 unfold bEnd;split
 ·simp
 ·split
  ·simp
  ·exact QQ _
theorem P59 (R:Type) (h:LOK c n l) (hn:n<=150) {o:OpT} (k:Led->An->Option R):
  F134 R (l,okS 0,()) o (endC l k)=k (advS l).1 (advS l).2:=by
 have hl:=h.blen;have hv:=h.vlen;have hx:=Rs h;have hc:=Gn h.right;obtain ⟨hs,hf⟩:=UN h.bea;simp only [F134,p134,zpz];rw [Dt (n:=Tp l.1 l.2.1) (by omega) (by omega)];unfold advS;cases zd8 l.1 l.2.1 with
 | false=>
  simp only [Bx,By];exact F4 l k _ rfl
 | true=>
  simp only [Ca,F187,p187,zpr R h.bea (show l.2.2.2.1.2.2.2.1.length<=400 by omega)]
  by_cases he:(bEnd l.2.2.2.1).2.2.2=0
  ·simp only [JE he,Aj he,zpq R (show l.2.2.1.length<=1000 by omega)]
   have hm:=LY l.2.2.2.1;have hcl:decide (([]:List Int).length+(bEnd l.2.2.2.1).2.2.1.length<=17592186044416)=true:=by simp; omega
   simp only [F239,hcl];rw [Tj R (by rw [Nv]; omega),zpp R hs (by rw [h.cfg]; omega) _ (G0 (UV h.vals)) (by rw [Ga,Nv]; omega)];exact F4 l k _ (zfr h _).1
  ·simp only [UJ he,Ak he]
   exact Fz l k _ he
theorem zuq (l:Led) {o:OpT} (hk:o.1=7):askS l o=if o.2.2.2.2.1>=l.1.1 then badS 3 else
  (if posS (Dw l.2.2.1)=0 then badS 10 else
   if (leaS l.2.2.2.1.2.1 o.2.2.2.2.1 l.1.2.2.2.1 (Dw l.2.2.1)).2=0 then ((0:Int),(0:Int),[(leaS l.2.2.2.1.2.1 o.2.2.2.2.1 l.1.2.2.2.1 (Dw l.2.2.1)).1],(replicate 32 (0:Int)),())
   else badS (leaS l.2.2.2.1.2.1 o.2.2.2.2.1 l.1.2.2.2.1 (Dw l.2.2.1)).2):=by
 unfold askS; rw [hk]; rfl
theorem zup (l:Led) {o:OpT} (hk:o.1=8):askS l o=if o.2.2.2.2.1>=l.1.1 then badS 3 else
  (if (aliS l.2.2.2.1.2.1 o.2.2.2.2.1 l.1.2.2.2.1 (Dw l.2.2.1)).2=0 then ((0:Int),(0:Int),[(aliS l.2.2.2.1.2.1 o.2.2.2.2.1 l.1.2.2.2.1 (Dw l.2.2.1)).1],(replicate 32 (0:Int)),())
   else badS (aliS l.2.2.2.1.2.1 o.2.2.2.2.1 l.1.2.2.2.1 (Dw l.2.2.1)).2):=by
 unfold askS; rw [hk]; rfl
theorem zuo (l:Led) {o:OpT} (hk:o.1=9):askS l o=if o.2.2.2.2.1>=l.1.1 then badS 3 else
  (if (sitS l.2.2.2.1.2.1 o.2.2.2.2.1 o.2.1 l.1.2.2.2.1 (Dw l.2.2.1)).2=0 then ((0:Int),(0:Int),(sitS l.2.2.2.1.2.1 o.2.2.2.2.1 o.2.1 l.1.2.2.2.1 (Dw l.2.2.1)).1,(replicate 32 (0:Int)),())
   else badS (sitS l.2.2.2.1.2.1 o.2.2.2.2.1 o.2.1 l.1.2.2.2.1 (Dw l.2.2.1)).2):=by
 unfold askS; rw [hk]; rfl
theorem GO (R:Type) (p:Clk) (w:Int) (hw:0<=w) (k:Int->Clk->Option R):F188 R p w k=k (if w>=p.1.1.1 then 3 else 0) p:=by
 simp only [F188,p188,C5 (show ¬w<0 by omega)]
 by_cases h2:w>=p.1.1.1
 ·simp only [C1 h2,Aj h2]
 ·simp only [C5 h2,Ak h2]
theorem P60 (R:Type) (h:LOK c n l) (hn:n<=150) {o:OpT} (hr:H1 o=true) (hk:o.1=7) (k:Led->An->Option R):
  F135 R (l,okS 0,()) o (endC l k)=k l (askS l o):=by
 have hv:=h.vlen;have hA:=G0 h.vals;have hL:(Dw l.2.2.1).length<=200:=by rw [Ga]; omega
 obtain ⟨hn0,_,_,_⟩:=Vg hr;have hc:=Gn h.right;simp only [F135,p135,GO R _ _ hn0];rw [zuq l hk]
 by_cases h1:o.2.2.2.2.1>=l.1.1
 ·simp only [Aj h1,show ((3:Int) !=0)=true from rfl]
  exact Fz l k _ (show ¬(3:Int)=0 by decide)
 ·simp only [Ak h1,show ((0:Int) !=0)=false from rfl,Tj R (show l.2.2.1.length<=1000 by omega),KD R (show (Dw l.2.2.1).length<=1000000 by omega)]
  by_cases h2:posS (Dw l.2.2.1)=0
  ·rw [Aj h2,h2]
   exact Fz l k _ (by decide)
  ·rw [Ak h2]
   simp only [Fp h2];obtain ⟨i,hi⟩:∃i:Nat,o.2.2.2.2.1=i:=⟨o.2.2.2.2.1.toNat,by omega⟩
   rw [hi] at h1 ⊢;have hll:=h.llen;have hcf:=h.cfg;have hil:i<l.2.2.2.2.1.length:=by rw [hcf] at h1; omega
   have hld:=h.lead i (by rw [hcf] at h1; omega) h2;simp only [E1 hil,Bv,hld];have hm:mayS l.1.2.2.2.1 (i:Int)=true:=by
    rw [hcf] at h1 ⊢; unfold mayS; simp; omega
   have hE:=zdj h.bea.seed (slot:=(i:Int)) (m:=l.1.2.2.2.1) hA hm h.stake ((Vj hA).1 h2);rw [hcf] at hE ⊢;unfold schV;rcases hE with ⟨e1,e2⟩ | e1
   ·rw [Aj e1,Aj e1]
    have e3:((leaS l.2.2.2.1.2.1 (i:Int) c.2.2.2.1 (Dw l.2.2.1)).1== -1)=false:=Fp (by omega);simp only [e3];exact F4 l k _ rfl
   ·have e0:¬(leaS l.2.2.2.1.2.1 (i:Int) c.2.2.2.1 (Dw l.2.2.1)).2=0:=by rw [e1]; decide
    rw [Ak e0,Ak e0];simp only [show ((-1:Int)== -1)=true from rfl];rw [e1];exact Fz l k _ (by decide)
theorem P61 (R:Type) (h:LOK c n l) (hn:n<=150) {o:OpT} (hr:H1 o=true) (hk:o.1=8) (k:Led->An->Option R):
  F136 R (l,okS 0,()) o (endC l k)=k l (askS l o):=by
 have hv:=h.vlen;have hA:=G0 h.vals;have hL:(Dw l.2.2.1).length<=200:=by rw [Ga]; omega
 obtain ⟨hn0,_,_,_⟩:=Vg hr;simp only [F136,p136,GO R _ _ hn0];rw [zup l hk]
 by_cases h1:o.2.2.2.2.1>=l.1.1
 ·simp only [Aj h1,show ((3:Int) !=0)=true from rfl]
  exact Fz l k _ (show ¬(3:Int)=0 by decide)
 ·simp only [Ak h1,show ((0:Int) !=0)=false from rfl,Tj R (show l.2.2.1.length<=1000 by omega),zpy R h.bea.seed _ _ hA hL]
  by_cases h2:(aliS l.2.2.2.1.2.1 o.2.2.2.2.1 l.1.2.2.2.1 (Dw l.2.2.1)).2=0
  ·rw [Aj h2,F4 l k _ h2]; rfl
  ·rw [Ak h2,Fz l k _ h2]
theorem P62 (R:Type) (h:LOK c n l) (hn:n<=150) {o:OpT} (hr:H1 o=true) (hk:o.1=9) (k:Led->An->Option R):
  F137 R (l,okS 0,()) o (endC l k)=k l (askS l o):=by
 have hv:=h.vlen;have hA:=G0 h.vals;have hL:(Dw l.2.2.1).length<=200:=by rw [Ga]; omega
 obtain ⟨hn0,_,_,_⟩:=Vg hr;simp only [F137,p137,GO R _ _ hn0];rw [zuo l hk]
 by_cases h1:o.2.2.2.2.1>=l.1.1
 ·simp only [Aj h1,show ((3:Int) !=0)=true from rfl]
  exact Fz l k _ (show ¬(3:Int)=0 by decide)
 ·simp only [Ak h1,show ((0:Int) !=0)=false from rfl,Tj R (show l.2.2.1.length<=1000 by omega),zpx R h.bea.seed _ _ _ hA hL]
  by_cases h2:(sitS l.2.2.2.1.2.1 o.2.2.2.2.1 o.2.1 l.1.2.2.2.1 (Dw l.2.2.1)).2=0
  ·rw [Aj h2,F4 l k _ h2]; rfl
  ·rw [Ak h2,Fz l k _ h2]
theorem P63 (R:Type) {o:OpT} (hk:o.1=10) (k:Led->An->Option R):
  F138 R (l,okS 0,()) o (endC l k)=k l (askS l o):=by
 simp only [F138,p138,GP];unfold askS;rw [hk,Aj rfl];cases ht:Hz l o.2.1 with
 | false=>
  simp only [Bx,By];exact Fz l k _ (by decide)
 | true=>
  have ht':=Bw ht;obtain ⟨i,hi⟩:∃i:Nat,o.2.1=i:=⟨o.2.1.toNat,by omega⟩
  have hb:bnd o.2.1 (l.2.2.1.length:Int)=true:=by rw [hi]; exact E1 (by omega)
  simp only [Ca,show ((0:Int) !=0)=false from rfl,hb]
  by_cases k2:o.2.2.2.2.1=0
  ·simp only [k2,Ca,show ((0:Int)==0)=true from rfl]
   exact F4 l k _ rfl
  ·simp only [Fp k2,Ak k2]
   exact F4 l k _ rfl
theorem P64 (R:Type) {o:OpT} (hk:o.1=11) (k:Led->An->Option R):
  F139 R (l,okS 0,()) o (endC l k)=k l (askS l o):=by
 simp only [F139,p139];unfold askS;rw [hk,Ak (by decide),Aj rfl];exact F4 l k _ rfl
theorem zvc (R:Type) (h:LOK c n l) (hn:n<=150) {o:OpT} (ho:OpOK o) (k:Led->An->Option R):F62 R l o k=k (doS l o).1 (doS l o).2:=by
 have hf:H1 o=false->k l (badS 2)=k (doS l o).1 (doS l o).2:=λhr=>by unfold doS; rw [hr]; rfl
 have hd:H1 o=true->o.1≠0->doS l o=if o.1=1 then Hn l (depS l.2.2.1 o.2.2.2.1 o.2.2.1 l.1.2.2.2.2.1)
  else if o.1=2 then Hn l (wdS l.2.2.1 o.2.1 o.2.2.1)
  else if o.1=3 then Hn l (slS l.2.2.1 o.2.1 o.2.2.1)
  else if o.1=4 then (if Hz l o.2.1=true then Of l (Gt l.2.2.2.1 (phS l.1 l.2.1) o.2.1 o.2.2.2.1) else (l,badS 5))
  else if o.1=5 then (if Hz l o.2.1=true then Of l (Gs l.2.2.2.1 (phS l.1 l.2.1) o.2.1 o.2.2.2.1) else (l,badS 5))
  else if o.1=6 then advS l
  else (l,askS l o):=λhr h0=>by unfold doS; rw [Aj ⟨hr,h0⟩]
 rcases kinds o.1 with q | q | q | q | q | q | q | q | q | q | q | q
 ·rw [Aan R l q]; exact Ff l ho k _ _ hf λhr=>by rw [P51 R h hn ho,hd hr (by omega)]; simp [q]
 ·rw [Aam R l q]; exact Ff l ho k _ _ hf λhr=>by rw [P52 R h hn ho,hd hr (by omega)]; simp [q]
 ·rw [Aal R l q]; exact Ff l ho k _ _ hf λhr=>by rw [P53 R h hn ho,hd hr (by omega)]; simp [q]
 ·rw [Aak R l q]; exact Ff l ho k _ _ hf λhr=>by rw [P54 R h hn ho,hd hr (by omega)]; simp [q]
 ·rw [Aaj R l q]; exact Ff l ho k _ _ hf λhr=>by rw [P57 R h hn ho,hd hr (by omega)]; simp [q]
 ·rw [Aai R l q]; exact Ff l ho k _ _ hf λhr=>by rw [P59 R h hn,hd hr (by omega)]; simp [q]
 ·rw [Aah R l q]; exact Ff l ho k _ _ hf λhr=>by rw [P60 R h hn hr q,hd hr (by omega)]; simp [q]
 ·rw [Aag R l q]; exact Ff l ho k _ _ hf λhr=>by rw [P61 R h hn hr q,hd hr (by omega)]; simp [q]
 ·rw [Aaf R l q]; exact Ff l ho k _ _ hf λhr=>by rw [P62 R h hn hr q,hd hr (by omega)]; simp [q]
 ·rw [zve R l q]; exact Ff l ho k _ _ hf λhr=>by rw [P63 R q,hd hr (by omega)]; simp [q]
 ·rw [zvd R l q]; exact Ff l ho k _ _ hf λhr=>by rw [P64 R q,hd hr (by omega)]; simp [q]
 ·rw [zfi R l q]
  have:¬(H1 o=true/\o.1≠0):=λhh=>by have:=LD hh.1 hh.2; omega
  unfold doS;rw [Ak this]
end
theorem HM:∀(l:List Int) (i:Nat) (x:Int),i<l.length->(l.set i x).sum=l.sum - l.getD i 0+x
 | [],i,_,h=>by simp at h
 | y::l,0,x,_=>by simp; omega
 | y::l,i+1,x,h=>by
  have:=HM l i x (by simpa using h);simp only [List.set_cons_succ,List.sum_cons,List.getD_cons_succ];omega
theorem HD (l:List Int):totS l=l.sum:=by unfold totS sumS; rw [Bl]
theorem Mg {l:List Va} {i:Nat} (hi:i<l.length) (x:Int):Dw (M5 l i x)=Dw l:=by
 unfold Dw M5;rw [List.map_set];apply List.ext_getElem
 ·simp
 ·intro j h1 h2
  rw [List.getElem_set];split
  ·rename_i e; subst e; rw [Hw hi]; simp
  ·rfl
theorem Od {l:List Va} {i:Nat} (hi:i<l.length) (x:Int):totS (D8 (M5 l i x))=totS (D8 l) - (l.getD i zV).2.2.1+x:=by
 have e:D8 (M5 l i x)=(D8 l).set i x:=by unfold D8 M5; rw [List.map_set]
 rw [e,HD,HD,HM _ _ _ (by rw [H7]; exact hi)];have:(D8 l).getD i 0=(l.getD i zV).2.2.1:=by rw [Hw hi]; simp [D8,hi]
 rw [this]
theorem AF {l:List Va} (h:VsOK l) (i:Nat) {x:Int} (hx:U64 x):VsOK (M5 l i x):=λv hv=>by
 rcases List.mem_or_eq_of_mem_set hv with h1 | h1
 ·exact h v h1
 ·rw [h1]; exact ⟨(h.get i).key,(h.get i).stake,hx⟩
theorem U2 (l:List Va) (i:Nat) (x:Int):(M5 l i x).length=l.length:=by simp [M5]
section
variable {c:Cfg} {n:Nat} {l:Led}
theorem LOK.mono (h:LOK c n l):LOK c (n+1) l:=⟨h.cfg,h.right,h.slot,h.vals,by have:=h.vlen; omega,h.next,h.stake,h.bea,by have:=h.blen; omega,h.llen,h.lead,h.miss⟩
structure MOK (l:Led) (n:Nat) (v:List Va):Prop where
 vals:VsOK v
 vlen:v.length<=n+1
 next:totS (D8 v)<9223372036854775808
 stake:Dw v=Dw l.2.2.1\/Dw v=Dw l.2.2.1++[0]
theorem Vo (h:LOK c n l) (hn:n<=150) {r:List Va×Int×Int} (hr:r.2.2=0->MOK l n r.1):LOK c (n+1) (Hn l r).1:=by
 unfold Hn;split
 ·rename_i h0
  have hm:=hr h0;have hA:=G0 h.vals;have hv:=h.vlen;refine ⟨h.cfg,h.right,h.slot,hm.vals,hm.vlen,hm.next,?_,h.bea,by have:=h.blen; exact Nat.le_succ_of_le this,h.llen,λi hi hp=>?_,h.miss⟩
  ·rcases hm.stake with e | e
   ·simp only [e]; exact h.stake
   ·simp only [e,Kt,Int.add_zero]; exact h.stake
  ·rcases hm.stake with e | e
   ·simp only [e] at hp ⊢; exact h.lead i hi hp
   ·simp only [e] at hp ⊢
    have hp':posS (Dw l.2.2.1)≠0:=by
     rw [Vj hA];have hA2:AllU64 (Dw l.2.2.1++[0]):=by rw [<-e]; exact G0 hm.vals
     have:=(Vj hA2).1 hp
     rwa [Kt,Int.add_zero] at this
    rw [h.lead i hi hp'];unfold schV;rw [zdk hA (by rw [Ga]; omega)]
 ·exact h.mono
theorem zun (h:LOK c n l) (hn:n<=150) {o:OpT} (ho:OpOK o) (most:Int) (h0:(depS l.2.2.1 o.2.2.2.1 o.2.2.1 most).2.2=0):MOK l n (depS l.2.2.1 o.2.2.2.1 o.2.2.1 most).1:=by
 have hv:=h.vlen;have ha:=ho.amount;unfold U64 at ha;unfold depS at h0 ⊢;split
 ·rename_i hc
  rw [Aj hc] at h0;cases hq:fstK l.2.2.1 o.2.2.2.1 with
  | none=>
   rw [hq] at h0;simp only [] at h0 ⊢;split
   ·rename_i h1; rw [Aj h1] at h0; cases h0
   ·rename_i h1
    rw [Ak h1] at h0;split
    ·rename_i h2
     refine ⟨λv hvm=>?_,by simp; omega,?_,.inr ?_⟩
     ·rcases Ai.1 hvm with h3 | h3
      ·exact h.vals v h3
      ·rw [Ce.1 h3]; exact ⟨ho.hash,Lw,ho.amount⟩
     ·have:D8 (l.2.2.1++[(o.2.2.2.1,0,o.2.2.1,())])=D8 l.2.2.1++[o.2.2.1]:=by simp [D8]
      simp only [this,Kt];exact h2
     ·simp [Dw]
    ·rename_i h2; rw [Ak h2] at h0; cases h0
  | some i=>
   rw [hq] at h0;obtain ⟨hi,_⟩:=DH hq;have hx:=(h.vals.get i).next;have hnx:=QN h.vals hi;unfold U64 at hx;simp only [] at h0 ⊢;split
   ·rename_i h2
    refine ⟨AF h.vals i (by unfold U64; omega),by rw [U2]; omega,?_,.inl (Mg hi _)⟩;rw [Od hi];omega
   ·rename_i h2; rw [Ak h2] at h0; cases h0
 ·rename_i hc; rw [Ak hc] at h0; cases h0
theorem zwf (h:LOK c n l) (w a:Int) (ha:U64 a) (h0:(wdS l.2.2.1 w a).2.2=0):MOK l n (wdS l.2.2.1 w a).1:=by
 have hv:=h.vlen;have ht:=h.next;unfold U64 at ha;unfold wdS at h0 ⊢;split
 ·rename_i hc
  rw [Aj hc] at h0;split
  ·rename_i h1
   rw [Aj h1] at h0;have hi:w.toNat<l.2.2.1.length:=by omega
   have hx:=(h.vals.get w.toNat).next;unfold U64 at hx;split
   ·rename_i h2
    refine ⟨AF h.vals _ (by unfold U64; omega),by rw [U2]; omega,?_,.inl (Mg hi _)⟩;rw [Od hi];omega
   ·rename_i h2; rw [Ak h2] at h0; cases h0
  ·rename_i h1; rw [Ak h1] at h0; cases h0
 ·rename_i hc; rw [Ak hc] at h0; cases h0
theorem zxi (h:LOK c n l) (w a:Int) (ha:U64 a) (h0:(slS l.2.2.1 w a).2.2=0):MOK l n (slS l.2.2.1 w a).1:=by
 have hv:=h.vlen;have ht:=h.next;unfold U64 at ha;unfold slS at h0 ⊢;split
 ·rename_i hc
  rw [Aj hc] at h0;split
  ·rename_i h1
   rw [Aj h1] at h0;have hi:w.toNat<l.2.2.1.length:=by omega
   have hx:=(h.vals.get w.toNat).next;unfold U64 at hx;refine ⟨AF h.vals _ (by unfold U64; omega),by rw [U2]; omega,?_,.inl (Mg hi _)⟩;rw [Od hi];omega
  ·rename_i h1; rw [Ak h1] at h0; cases h0
 ·rename_i hc; rw [Ak hc] at h0; cases h0
theorem Y6 {b:Bea} {ph w:Int} {x:List Int} (h0:(Gt b ph w x).2=0):(Gt b ph w x).1.1=b.1/\(Gt b ph w x).1.2.1=b.2.1:=by
 unfold Gt at h0 ⊢;split
 ·rename_i h1; rw [Aj h1] at h0; cases h0
 ·rename_i h1
  rw [Ak h1] at h0;split
  ·rename_i h2
   rw [Aj h2] at h0;unfold Tm at h0 ⊢;split
   ·exact ⟨rfl,rfl⟩
   ·rename_i h3; rw [Ak h3] at h0; exact absurd h0 h3
  ·rename_i h2; rw [Ak h2] at h0; cases h0
theorem Y5 {b:Bea} {ph w:Int} {x:List Int} (h0:(Gs b ph w x).2=0):(Gs b ph w x).1.1=b.1/\(Gs b ph w x).1.2.1=b.2.1:=by
 unfold Gs at h0 ⊢;split
 ·rename_i h1; rw [Aj h1] at h0; cases h0
 ·rename_i h1
  rw [Ak h1] at h0;split
  ·rename_i h2
   rw [Aj h2] at h0;unfold Tm at h0 ⊢;split
   ·exact ⟨rfl,rfl⟩
   ·rename_i h3; rw [Ak h3] at h0; exact absurd h0 h3
  ·rename_i h2; rw [Ak h2] at h0; cases h0
theorem NS (h:LOK c n l) {r:Bea×Int} (hr:Le r.1/\r.1.2.2.2.1.length<=l.2.2.2.1.2.2.2.1.length+1) (hs:r.2=0->r.1.1=l.2.2.2.1.1/\r.1.2.1=l.2.2.2.1.2.1):LOK c (n+1) (Of l r).1:=by
 have hb:=h.blen;have hv:=h.vlen;unfold Of;split
 ·rename_i h0
  have:=(hs h0).2;exact ⟨h.cfg,h.right,h.slot,h.vals,by simp only []; omega,h.next,h.stake,hr.1,by have:=hr.2; simp only []; omega,h.llen,λi hi hp=>by simp only [this]; exact h.lead i hi hp,h.miss⟩
 ·exact h.mono
theorem zbj (a:List Int) (m:Int) (l:List Int) {n i:Nat} (h:i<n):(schP a m l n).getD i 0=schV a m l i:=by
 unfold schP;simp [h]
theorem zuw (h:LOK c n l) (hn:n<=150):LOK c (n+1) (advS l).1:=by
 have hb:=h.blen;have hv:=h.vlen;have hx:=Rs h;have hc:=Gn h.right;unfold advS;split
 ·split
  ·obtain ⟨b1,b2⟩:=zoe h.bea
   have hm:=UO l.2.2.2.1;rw [(zfr h _).2];refine ⟨h.cfg,h.right,⟨hx.1,hx.2.1⟩,UV h.vals,by simp only [Nv]; omega,by simp only [MC]; exact h.next,by simp only [Si]; exact h.next,b1,by simp only [b2]; omega,?_,λi hi _=>?_,by simp only []; omega⟩
   ·simp only [Li,h.cfg]; omega
   ·simp only [h.cfg]
    exact zbj _ _ _ (by omega)
  ·exact h.mono
 ·exact ⟨h.cfg,h.right,⟨hx.1,hx.2.1⟩,h.vals,by simp only []; omega,h.next,h.stake,h.bea,by simp only []; omega,h.llen,h.lead,h.miss⟩
theorem Aaa (h:LOK c n l) (hn:n<=150) {o:OpT} (ho:OpOK o):LOK c (n+1) (doS l o).1:=by
 unfold doS;split
 ·split
  ·exact Vo h hn (zun h hn ho _)
  ·split
   ·exact Vo h hn (zwf h _ _ ho.amount)
   ·split
    ·exact Vo h hn (zxi h _ _ ho.amount)
    ·split
     ·split
      ·exact NS h (LZ h.bea _ ho.who ho.hash) Y6
      ·exact h.mono
     ·split
      ·split
       ·have:=LX h.bea (phS l.1 l.2.1) o.2.1 ho.hash
        exact NS h ⟨this.1,by omega⟩ Y5
       ·exact h.mono
      ·split
       ·exact zuw h hn
       ·exact h.mono
 ·exact h.mono
end
theorem zfy {l:List Int} {o:Nat} {d:List Int} (h:o+d.length<=l.length):lay l o d=l.take o++d++l.drop (o+d.length):=by
 simp [lay]
def repS (j n:Nat):List Int:=replicate j (-1)++replicate (n - j) 0
theorem zbn {j n:Nat} (h:j<=n):(repS j n).length=n:=by simp [repS]; omega
theorem X4 {j n i:Nat} (h:i<=j):(repS j n).take i=replicate i (-1):=by
 unfold repS;rw [Bd (by simpa using h),List.take_replicate,A6 h]
theorem OF {j n d:Nat} (h:j+d<=n):(repS j n).take j++replicate d (-1)++(repS j n).drop (j+d)=repS (j+d) n:=by
 rw [X4 (Al j)];unfold repS;rw [List.drop_append,List.drop_eq_nil_of_le (by simp),A2,List.length_replicate,List.drop_replicate,List.replicate_append_replicate,show n - j - (j+d - j)=n - (j+d) by omega]
theorem zgq (R:Type) {n:Nat} (hn:n<=1024) (k0:List Int->Option R):∀(m j:Nat),1<=j->j<=n->n - j<m->EE m R (j:Int) (repS j n) k0=k0 (replicate n (-1))
 | 0,j,_,_,h=>by omega
 | m+1,j,h0,h1,h2=>by
  simp only [EE,zjd];have hl:=zbn h1
  by_cases hj:j<n
  ·have hd:min j (n - j)<=n - j:=Nat.min_le_right _ _
   have hd1:1<=min j (n - j):=by omega
   have ih:=zgq R hn k0 m (j+min j (n - j)) (by omega) (by omega) (by omega);have c1:decide ((j:Int)<((repS j n).length:Int))=true:=by rw [hl]; exact Iq hj
   have c2:decide ((0:Int)<=(j:Int)/\(j:Int)<=((repS j n).length:Int)/\((repS j n).length:Int)<=((repS j n).length:Int)/\((repS j n).length:Int)<=((repS j n).length:Int))=true:=by rw [hl]; simp; omega
   have c3:decide ((0:Int)<=0/\(0:Int)<=(j:Int)/\(j:Int)<=(j:Int)/\(j:Int)<=((repS j n).length:Int))=true:=by rw [hl]; simp; omega
   simp only [c1,c2,c3];have t1:List.take (Int.toNat ((j:Int) - 0)) (List.drop 0 (repS j n))=replicate j (-1):=by
    rw [Int.sub_zero,Bv,Bo,X4 (Al j)]
   have t2:Int.toNat (((repS j n).length:Int) - (j:Int))=n - j:=by rw [hl]; omega
   rw [t1,t2,List.take_replicate,List.length_replicate];have t3:lay (repS j n) (Int.toNat (j:Int)) (replicate (min (n - j) j) (-1))=repS (j+min j (n - j)) n:=by
    rw [Bv,zfy (by rw [List.length_replicate,hl]; omega),List.length_replicate,Nat.min_comm (n - j) j,OF (by omega)]
   rw [t3,show i64.wrap ((j:Int)+((min j (n - j):Nat):Int))=((j+min j (n - j):Nat):Int) by rw [wrap_i64 (by omega) (by omega)]; omega];exact ih
  ·have:j=n:=by omega
   subst this;have c1:decide ((j:Int)<((repS j j).length:Int))=false:=by rw [hl]; simp
   simp only [c1];unfold repS;rw [Da,List.replicate_zero,B0]
theorem zvf (R:Type) {n:Int} (h0:1<=n) (hn:n<=1024) (k:List Int->Option R):F60 R [-1] n k=k (replicate n.toNat (-1)):=by
 obtain ⟨j,rfl⟩:∃j:Nat,n=j:=⟨n.toNat,by omega⟩
 simp only [F60,p60,F87,p87];have e1:decide ((j:Int)<0)=false:=by simp
 have w1:u64.wrap ((([-1]:List Int).length:Nat):Int)=1:=by decide
 have w2:u64.wrap (j:Int)=(j:Int):=Dt (by omega) (by omega);simp only [e1,w1,w2];rw [ZB R (a:=1) (b:=(j:Int)) (by unfold U64; omega) (by unfold U64; omega)];rw [Int.one_mul,w2,show (j:Int)/18446744073709551616=0 by omega,wrap_i64 (n:=(j:Int)) (by omega) (by omega)];have e2:decide ((0:Int)>0)=false:=rfl;have e3:decide ((j:Int)>9223372036854775807)=false:=by simp; omega
 have e4:decide ((0:Int)<=(j:Int)/\(j:Int)<=(j:Int)/\(j:Int)<=17592186044416)=true:=by simp; omega
 simp only [e2,e3,e4,Bv,List.length_replicate];have t1:lay (replicate j (0:Int)) 0 (List.take j [-1])=repS 1 j:=by
  rw [A8 (by simp; omega),zfy (by simp; omega)];simp [repS,List.replicate_succ']
 have t2:((min ([-1]:List Int).length j:Nat):Int)=((1:Nat):Int):=by
  rw [show min ([-1]:List Int).length j=1 by simp; omega]
 rw [t1,t2];exact zgq R (by omega) (λx=>k x) FUEL 1 (by omega) (by omega) (by rw [Dv]; omega)
abbrev zLed:Led:=(((0:Int),(0:Int),(0:Int),(0:Int),(0:Int),()),(0:Int),([]:List Va),((0:Int),(replicate 32 (0:Int)),(replicate 32 (0:Int)),([]:List Cm),()),([]:List Int),([]:List Int),())
def newS (c:Cfg) (a:List Int):Led:=(c,(0:Int),[],((0:Int),a,(replicate 32 (0:Int)),[],()),replicate c.1.toNat (-1),[],())
theorem YD (R:Type) (c:Cfg) (a:List Int) (k:Led->Int->Option R):F31 R c a k=if cfgS c=true then k (newS c a) 0 else k zLed 1:=by
 simp only [F31,p31,zg1,F59,p59];cases hc:cfgS c with
 | false=>rfl
 | true=>
  have hr:=Gn hc;simp only [Db,Ca];rw [zvf R hr.1 hr.2.1];rfl
theorem ztv {c:Cfg} (hc:cfgS c=true) {a:List Int} (ha:H32 a):LOK c 0 (newS c a):=by
 have hr:=Gn hc;refine ⟨rfl,hc,⟨by simp [newS],by simp only [newS]; omega⟩,λv hv=>(by cases hv),by simp [newS],by simp [newS,D8,totS,sumS],by simp [newS,Dw,totS,sumS],⟨by simp [newS],ha,Ee,zj9⟩,by simp [newS],by simp [newS]; omega,λi _ hp=>?_,by simp [newS]⟩;exact absurd rfl hp
section
variable {c:Cfg} {n:Nat} {l:Led}
def Og:Led->List OpT->Led×List An
 | l,[]=>(l,[])
 | l,o::r=>((Og (doS l o).1 r).1,(doS l o).2::(Og (doS l o).1 r).2)
theorem zlc {ops:List OpT} {i:Nat} (hi:i<ops.length):ops.getD i zO=ops[i]:=by simp [hi]
theorem zgv (R:Type) {ops:List OpT} (ho:∀o∈ops,OpOK o) (x5:Led) (k0:Led->Led->List An->Option R):∀(m i:Nat) {n:Nat} (l:Led) (acc:List An),LOK c n l->n+(ops.length - i)<=150->acc.length+(ops.length - i)<=1000->i<=ops.length->ops.length<=1000->ops.length - i<m->
  EI m R ops (ops.length:Int) (i:Int) l x5 acc k0=k0 (Og l (ops.drop i)).1 x5 (acc++(Og l (ops.drop i)).2)
 | 0,i,n,l,acc,_,_,_,_,_,h=>by omega
 | m+1,i,n,l,acc,h,hn,ha,h1,hL,h2=>by
  simp only [EI,zji]
  by_cases hi:i<ops.length
  ·have hoi:=ho _ (Cw hi)
   have ih:=zgv R ho x5 k0 m (i+1) (n:=n+1) (doS l ops[i]).1 (acc++[(doS l ops[i]).2]) (Aaa h (by omega) hoi) (by omega) (by simp; omega) (by omega) hL (by omega);have c1:decide (acc.length+[(doS l ops[i]).2].length<=1954687338268)=true:=by simp; omega
   rw [Co hi];simp only [Iq hi,E1 hi,Bv,Fx hi hL,zlc hi,zvc R h (show n<=150 by omega) hoi,c1];rw [ih];simp only [Og,Ah,A3,A2]
  ·have:i=ops.length:=by omega
   subst this;simp only [Hs,Cu,Og,B0]
theorem zvm (R:Type) (h:LOK c n l) {ops:List OpT} (ho:∀o∈ops,OpOK o) (hn:n+ops.length<=150) (k:Led->List An->Option R):F33 R l ops k=k (Og l ops).1 (Og l ops).2:=by
 simp only [F33,p33];have:=zgv R ho zLed (λx2 x3 x4=>k x2 x4) FUEL 0 l [] h (by omega) (by simp; omega) (by omega) (by omega) (by rw [Dv]; omega);rw [Bo,A2] at this;exact this
end
def beN (l:List Int):Int:=l.foldl (λa x=>a*256+x) 0
theorem be4 {l:List Int} (hl:l.length=4) (h:AllU8 l):U32 (beN l)/\Fg (beN l)=l:=by
 match l,hl with
 | [a,b,c,d],_=>
  have ha:=h a (by simp); have hb:=h b (by simp); have hc:=h c (by simp); have hd:=h d (by simp);unfold U8 at ha hb hc hd;have e:beN [a,b,c,d]=((a*256+b)*256+c)*256+d:=by simp [beN]
  rw [e];unfold U32 Fg;refine ⟨by omega,?_⟩;simp only [List.cons.injEq,and_true];omega
theorem be8 {l:List Int} (hl:l.length=8) (h:AllU8 l):U64 (beN l)/\putS (beN l)=l:=by
 match l,hl with
 | [a,b,c,d,e,f,g,i],_=>
  have ha:=h a (by simp); have hb:=h b (by simp); have hc:=h c (by simp); have hd:=h d (by simp);have he:=h e (by simp); have hf:=h f (by simp); have hg:=h g (by simp); have hi:=h i (by simp);unfold U8 at ha hb hc hd he hf hg hi;have q:beN [a,b,c,d,e,f,g,i]=((((((a*256+b)*256+c)*256+d)*256+e)*256+f)*256+g)*256+i:=by simp [beN]
  rw [q];unfold U64 putS;refine ⟨by omega,?_⟩;simp only [List.cons.injEq,and_true];omega
theorem zfn (R:Type) {l:List Int} (hl:l.length=8) (h:AllU8 l) (k:Int->Option R):F173 R l k=k (beN l):=by
 obtain ⟨q1,q2⟩:=be8 hl h;have:=YZ R q1 k
 rwa [q2] at this
theorem KA (R:Type) {l:List Int} (hl:l.length=4) (h:AllU8 l) (k:Int->Option R):F220 R l k=k (beN l):=by
 obtain ⟨q1,q2⟩:=be4 hl h;have:=W5 R q1 k
 rwa [q2] at this
theorem Uf {l:List Int} (h:AllU8 l) (n:Nat):AllU8 (l.take n):=λx hx=>h x (List.mem_of_mem_take hx)
theorem O0 {l:List Int} (h:AllU8 l) (n:Nat):AllU8 (l.drop n):=λx hx=>h x (List.mem_of_mem_drop hx)
def zig (b:List Int) (c:OpT):Fd->OpT
 | .H=>(c.1,c.2.1,c.2.2.1,b.take 32,c.2.2.2.2)
 | .A=>(c.1,c.2.1,beN (b.take 8),c.2.2.2)
 | .W=>(c.1,beN (b.take 4),c.2.2)
 | .N=>(c.1,c.2.1,c.2.2.1,c.2.2.2.1,beN (b.take 4),c.2.2.2.2.2)
def SQ:List Fd->List Int->OpT->OpT
 | [],_,c=>c
 | f::l,b,c=>SQ l (b.drop (Er f)) (zig b c f)
theorem VI (R:Type) {l:List Fd} (hl:l.length<=2) (x5:OpT) (k0:List Int->OpT->OpT->Option R):∀(m i:Nat) (b:List Int) (c:OpT),i<=l.length->l.length - i<m->AllU8 b->((l.drop i).map Er).sum<=b.length->
  Lb m R b (l.map enc) (l.length:Int) (i:Int) x5 c k0=k0 (b.drop ((l.drop i).map Er).sum) x5 (SQ (l.drop i) b c)
 | 0,i,b,c,_,hh,_,_=>by omega
 | m+1,i,b,c,h1,h2,hb8,hs=>by
  simp only [Lb,X9]
  by_cases hi:i<l.length
  ·rw [Co hi] at hs ⊢
   simp only [Cc,List.sum_cons] at hs ⊢;have ih:=λc'=>VI R hl x5 k0 m (i+1) (b.drop (Er l[i])) c' (by omega) (by omega) (O0 hb8 _) (by rw [Cs]; omega)
   have hb:bnd (i:Int) ((l.map enc).length:Int)=true:=by rw [C6]; exact E1 hi
   have c1:decide ((0:Int)<=0/\(0:Int)<=(Er l[i]:Int)/\(Er l[i]:Int)<=(Er l[i]:Int)/\(Er l[i]:Int)<=(b.length:Int))=true:=by simp; omega
   have c2:decide ((0:Int)<=(Er l[i]:Int)/\(Er l[i]:Int)<=(b.length:Int)/\(b.length:Int)<=(b.length:Int)/\(b.length:Int)<=(b.length:Int))=true:=by simp; omega
   have t1:List.take (Int.toNat ((Er l[i]:Int) - 0)) (List.drop 0 b)=b.take (Er l[i]):=by rw [Int.sub_zero,Bv,Bo]
   have t2:List.take (Int.toNat ((b.length:Int) - (Er l[i]:Int))) (List.drop (Er l[i]) b)=b.drop (Er l[i]):=by
    rw [A8];rw [Cs];omega
   have tl:(b.take (Er l[i])).length=Er l[i]:=by rw [A5]; omega
   simp only [Iq hi,hb,Bv,Fx hi (show l.length<=1000 by omega),Q3 hi,V0,c1,c2];rw [t1,t2,SQ,<-A9];generalize hf:l[i]=f at*;have hu:=Uf hb8 (Er f);cases f with
   | H=>
    have e1:FnV.same (enc .H).2.2.1 (FnV.fn 170)=true:=rfl;have e3:decide ((32:Int)<=((b.take (Er .H)).length:Int))=true:=by rw [tl]; rfl
    have e4:List.take 32 (b.take (Er .H))=b.take 32:=by rw [Bb]; rfl
    simp only [e1,e3,e4];exact ih _
   | A=>
    have e1:FnV.same (enc .A).2.2.1 (FnV.fn 170)=false:=rfl;have e2:FnV.same (enc .A).2.2.1 (FnV.fn 172)=true:=rfl;have e3:decide ((8:Int)<=((b.take (Er .A)).length:Int))=true:=by rw [tl]; rfl
    have e4:List.take 8 (b.take (Er .A))=b.take 8:=by rw [Bb]; rfl
    obtain ⟨q1,q2⟩:=be8 (l:=b.take 8) tl hu;simp only [e1,e2,e3,e4];rw [zfn R (l:=b.take 8) tl hu];exact ih _
   | W=>
    have e1:FnV.same (enc .W).2.2.1 (FnV.fn 170)=false:=rfl;have e2:FnV.same (enc .W).2.2.1 (FnV.fn 172)=false:=rfl;have e2':FnV.same (enc .W).2.2.1 (FnV.clo 219 (FnV.fn 175))=true:=rfl;have e3:decide ((4:Int)<=((b.take (Er .W)).length:Int))=true:=by rw [tl]; rfl
    have e4:List.take 4 (b.take (Er .W))=b.take 4:=by rw [Bb]; rfl
    obtain ⟨q1,q2⟩:=be4 (l:=b.take 4) tl hu;have w1:i64.wrap (beN (b.take 4))=beN (b.take 4):=by unfold U32 at q1; exact wrap_i64 (by omega) (by omega)
    simp only [e1,e2,e2',e3,e4];rw [KA R (l:=b.take 4) tl hu];simp only [w1];exact ih _
   | N=>
    have e1:FnV.same (enc .N).2.2.1 (FnV.fn 170)=false:=rfl;have e2:FnV.same (enc .N).2.2.1 (FnV.fn 172)=false:=rfl;have e2':FnV.same (enc .N).2.2.1 (FnV.clo 219 (FnV.fn 175))=false:=rfl;have e2'':FnV.same (enc .N).2.2.1 (FnV.clo 219 (FnV.fn 176))=true:=rfl;have e3:decide ((4:Int)<=((b.take (Er .N)).length:Int))=true:=by rw [tl]; rfl
    have e4:List.take 4 (b.take (Er .N))=b.take 4:=by rw [Bb]; rfl
    obtain ⟨q1,q2⟩:=be4 (l:=b.take 4) tl hu;have w1:i64.wrap (beN (b.take 4))=beN (b.take 4):=by unfold U32 at q1; exact wrap_i64 (by omega) (by omega)
    simp only [e1,e2,e2',e2'',e3,e4];rw [KA R (l:=b.take 4) tl hu];simp only [w1];exact ih _
  ·have:i=l.length:=by omega
   subst this;simp only [Hs,Cu];rfl
def opB (x:Int):OpT:=((0:Int),(0:Int),(0:Int),(replicate 32 (0:Int)),x,())
def opK (x:Int):OpT:=(x,(0:Int),(0:Int),(replicate 32 (0:Int)),(0:Int),())
def oneS (x:Int) (b:List Int):OpT×List Int:=
 if (fsOf x).2=true then (if ((fsOf x).1.map Er).sum<=b.length then (SQ (fsOf x).1 b (opK x),b.drop ((fsOf x).1.map Er).sum) else (opB x,[])) else (opB x,b)
theorem zoo (R:Type) {x:Int} {b:List Int} (h:AllU8 (x::b)) (k:OpT->List Int->Option R):F61 R (x::b) k=k (oneS x b).1 (oneS x b).2:=by
 have hx:=h x (by simp);have hb8:AllU8 b:=λy hy=>h y (by simp [hy])
 unfold U8 at hx;simp only [F61,p61];have hwr:i64.wrap x=x:=wrap_i64 (by omega) (by omega);have hb:bnd 0 (((x::b).length:Nat):Int)=true:=by unfold bnd; simp<;>omega
 have hc:decide ((0:Int)<=1/\(1:Int)<=((x::b).length:Int)/\((x::b).length:Int)<=((x::b).length:Int)/\((x::b).length:Int)<=((x::b).length:Int))=true:=by simp<;>omega
 simp only [hb,List.getD_cons_zero,hwr,zag,zaf R x (by omega),hc,zn6,C6];unfold oneS;cases hv:(fsOf x).2 with
 | false=>simp only [De,Bx,By]; rfl
 | true=>
  simp only [Db,Ca]
  by_cases hs:((fsOf x).1.map Er).sum<=b.length
  ·rw [Aj hs]
   have hd:decide (szF (fsOf x).1<=((x::b).length:Int))=true:=by unfold szF; simp; omega
   simp only [hd,Db];have:=VI R (I2 x) ((0:Int),(0:Int),(0:Int),(replicate 32 (0:Int)),(0:Int),()) (λx9 x10 x11=>k x11 x9) FUEL 0 b (opK x) (by omega) (by rw [Dv]; have:=I2 x; omega) hb8 (by rw [Bo]; exact hs);rw [Bo] at this;exact this
  ·rw [Ak hs]
   have hd:decide (szF (fsOf x).1<=((x::b).length:Int))=false:=by unfold szF; simp; omega
   simp only [hd,De];rfl
theorem Vl (x:Int) (b:List Int):(oneS x b).2.length<=b.length:=by
 unfold oneS;split
 ·split
  ·rw [Cs]; omega
  ·simp
 ·exact Al _
theorem QG {x:Int} {b:List Int} (h:AllU8 b):AllU8 (oneS x b).2:=by
 unfold oneS;split
 ·split
  ·exact O0 h _
  ·intro y hy; cases hy
 ·exact h
theorem IT:∀(l:List Fd) (b:List Int) (c:OpT),AllU8 b->(l.map Er).sum<=b.length->OpOK c->OpOK (SQ l b c)
 | [],_,_,_,_,h=>h
 | f::l,b,c,hb,hs,h=>by
  simp only [Cc,List.sum_cons] at hs;refine IT l _ _ (O0 hb _) (by rw [Cs]; omega) ?_;have hu:=Uf hb (Er f);have tl:(b.take (Er f)).length=Er f:=by rw [A5]; omega
  cases f with
  | H=>exact ⟨h.kind,h.who,h.amount,⟨tl,hu⟩,h.n⟩
  | A=>exact ⟨h.kind,h.who,(be8 (l:=b.take 8) tl hu).1,h.hash,h.n⟩
  | W=>exact ⟨h.kind,by have:=(be4 (l:=b.take 4) tl hu).1; unfold U32 at this; unfold I64; simp only [zig]; omega,h.amount,h.hash,h.n⟩
  | N=>exact ⟨h.kind,h.who,h.amount,h.hash,by have:=(be4 (l:=b.take 4) tl hu).1; unfold U32 at this; unfold I64; simp only [zig]; omega⟩
theorem zfv {x:Int} (hx:U8 x):OpOK (opB x):=by
 unfold U8 at hx;exact ⟨by unfold I64; simp only [opB]; omega,by unfold I64; simp only [opB]; omega,by unfold U64; simp only [opB]; omega,Ee,by unfold I64; simp only [opB]; omega⟩
theorem zsj {x:Int} (hx:U8 x):OpOK (opK x):=by
 unfold U8 at hx;exact ⟨by unfold I64; simp only [opK]; omega,by unfold I64; simp only [opK]; omega,by unfold U64; simp only [opK]; omega,Ee,by unfold I64; simp only [opK]; omega⟩
theorem zjp {x:Int} {b:List Int} (hx:U8 x) (h:AllU8 b):OpOK (oneS x b).1:=by
 unfold oneS;split
 ·split
  ·rename_i hs; exact IT _ _ _ h hs (zsj hx)
  ·exact zfv hx
 ·exact zfv hx
def decN:Nat->List Int->List OpT
 | 0,_=>[]
 | _+1,[]=>[]
 | n+1,x::b=>(oneS x b).1::decN n (oneS x b).2
def decS (b:List Int):List OpT:=decN b.length b
theorem UE:∀(n m:Nat) (b:List Int),b.length<=n->b.length<=m->decN n b=decN m b
 | 0,m,b,h,_=>by
  have:b=[]:=List.eq_nil_of_length_eq_zero (by omega);subst this;cases m<;>rfl
 | n+1,0,b,_,h=>by
  have:b=[]:=List.eq_nil_of_length_eq_zero (by omega);subst this;rfl
 | n+1,m+1,[],_,_=>rfl
 | n+1,m+1,x::b,h1,h2=>by
  have:=Vl x b;simp only [decN];rw [UE n m _ (by simp at h1; omega) (by simp at h2; omega)]
theorem UC (x:Int) (b:List Int):decS (x::b)=(oneS x b).1::decS (oneS x b).2:=by
 have:=Vl x b;show decN (b.length+1) (x::b)=_;simp only [decN];rw [UE b.length (oneS x b).2.length _ this (Al _)];rfl
theorem UD:∀(n:Nat) (b:List Int),AllU8 b->∀o∈decN n b,OpOK o
 | 0,_,_,o,ho=>by cases ho
 | n+1,[],_,o,ho=>by cases ho
 | n+1,x::b,h,o,ho=>by
  have hb:AllU8 b:=λy hy=>h y (by simp [hy])
  simp only [decN] at ho;rcases Cd.1 ho with e | ho
  ·rw [e]; exact zjp (h x (by simp)) hb
  ·exact UD n _ (QG hb) o ho
theorem zn8 {b:List Int} (h:AllU8 b):∀o∈decS b,OpOK o:=UD _ _ h
theorem zgw (R:Type) (k0:List OpT->Option R):∀(m:Nat) (b:List Int) (acc:List OpT),AllU8 b->b.length<m->acc.length+b.length<=200000->Zp m R b acc k0=k0 (acc++decS b)
 | 0,b,acc,_,h,_=>by omega
 | m+1,[],acc,_,_,_=>by
  simp only [Zp,zbv];have:decS []=[]:=rfl;rw [this,B0];rfl
 | m+1,x::b,acc,h,h1,h2=>by
  have hb:AllU8 b:=λy hy=>h y (by simp [hy])
  have hl:=Vl x b;simp only [Af] at h1 h2;have ih:=zgw R k0 m (oneS x b).2 (acc++[(oneS x b).1]) (QG hb) (by omega) (by rw [Ae,List.length_singleton]; omega);simp only [Zp,zbv];have e1:decide ((((x::b).length:Nat):Int)>0)=true:=by simp<;>omega
  have c1:decide (acc.length+[(oneS x b).1].length<=2199023255552)=true:=by simp; omega
  simp only [e1,zoo R h,c1];rw [ih,UC,Ah];rfl
theorem zos (R:Type) {b:List Int} (h:AllU8 b) (hn:b.length<=100000) (k:List OpT->Option R):F32 R b k=k (decS b):=by
 simp only [F32,p32];have:=zgw R (λx=>k x) FUEL b [] h (by rw [Dv]; omega) (by simp; omega);rw [A2] at this;exact this
theorem zvo (R:Type) {c:Cfg} (hc:cfgS c=true) {a b:List Int} (ha:H32 a) (hb:AllU8 b) (hn:b.length<=100000) (hd:(decS b).length<=150) (k:Led->List An->Int->Option R):F10 R c a b k=k (Og (newS c a) (decS b)).1 (Og (newS c a) (decS b)).2 0:=by
 simp only [F10,p10,YD,hc,Ca];have e1:((0:Int) !=0)=false:=rfl;have e2:decide (((b.length:Nat):Int)>100000)=false:=C5 (by omega);have e3:decide ((((decS b).length:Nat):Int)>2000)=false:=C5 (by omega);simp only [e1,e2,zos R hb hn,e3];rw [zvm R (ztv hc ha) (zn8 hb) (by omega)]
open Go.Proofs
theorem zqh (R:Type) {c:Cfg} (hc:cfgS c=false) (a b:List Int) (k:Led->List An->Int->Option R):F10 R c a b k=k zLed [] 1:=by
 simp only [F10,p10,YD,hc];rfl
theorem zfo (R:Type) {c:Cfg} (hc:cfgS c=true) (a:List Int) {b:List Int} (hn:100000<b.length) (k:Led->List An->Int->Option R):F10 R c a b k=k zLed [] 14:=by
 have e2:decide (((b.length:Nat):Int)>100000)=true:=C1 (by omega);have e1:((0:Int) !=0)=false:=rfl;simp only [F10,p10,YD,hc,Ca,e1,e2]
abbrev c26:Cfg:=((1:Int),(0:Int),(0:Int),(1:Int),(1:Int),())
def s26:List Int:=AN (replicate 32 (0:Int)) 0 (replicate 32 (0:Int))
theorem zuv:(Og (newS c26 (replicate 32 (0:Int))) (decS [6,255])).1.2.2.2.1.1=1:=by kernel_rfl
theorem zuu:(Og (newS c26 (replicate 32 (0:Int))) (decS [6,255])).2=[((0:Int),(0:Int),([]:List Int),s26,()),badS 2]:=by kernel_rfl
theorem zut:(decS [6,255]).length=2:=by kernel_rfl
theorem Xn:H32 s26:=Vd _ _ _
theorem zus:AnW ((0:Int),(0:Int),([]:List Int),s26,()):=by
 refine ⟨?_,?_,λx hx=>(by cases hx),Ct _,Xn.1,λx hx=>Xn.2 x hx⟩
 ·show Wd 0
  unfold Wd; omega
 ·show (0:Int)<=0/\(0:Int)<18446744073709551616
  omega
theorem Aac {e:Int} (h:Wd e):AnW (badS e):=by
 refine ⟨h,?_,λx hx=>(by cases hx),Ct _,rfl,λx hx=>?_⟩
 ·show (0:Int)<=0/\(0:Int)<18446744073709551616
  omega
 ·have:x=0:=List.eq_of_mem_replicate hx
  omega
theorem zrb:ansT ((0:Int),(0:Int),([]:List Int),s26,())=[111,107,32,48,32,45,32]++hexT s26:=by
 rw [Mm _ rfl];show [111,107]++32::(Lib.decDigits 0++32::(memT []++32::hexT s26))=_;rw [Lib.decDigits_one (by omega)];rfl
theorem zra:ansT (badS 2)=[101,114,114,32,50]:=by
 rw [J3 _ (by decide)];show [101,114,114,32]++Lib.itoa 2=_
 rw [I1 (by omega)];show [101,114,114,32]++Lib.decDigits 2=_
 rw [Lib.decDigits_one (by omega)];rfl
theorem Aae (R:Type) (k:Bool->Option R):F8 R k=k true:=by
 have hz:=KF;have h1:∀k':Led->List An->Int->Option R,F10 R c26 (replicate 32 (0:Int)) [(6:Int),(255:Int)] k'=k' (Og (newS c26 (replicate 32 (0:Int))) (decS [6,255])).1 [((0:Int),(0:Int),([]:List Int),s26,()),badS 2] 0:=λk'=>by
  rw [<-zuu];exact zvo R (by kernel_rfl) hz (λx hx=>by
   simp only [Cd,C8,or_false] at hx;unfold U8;omega) (by decide) (by rw [zut]; omega) k'
 have h2:=λk'=>zqh R (c:=((0:Int),(0:Int),(0:Int),(0:Int),(0:Int),())) (by kernel_rfl) (replicate 32 (0:Int)) [] k'
 have h3:=λk'=>zfo R (c:=c26) (by kernel_rfl) (replicate 32 (0:Int)) (b:=replicate 100001 (0:Int)) (by rw [List.length_replicate]; omega) k'
 have h4:=λk'=>zvn R hz hz (e:=0) (by omega) k'
 have w1:=Aac (e:=2) (by unfold Wd; omega);have ws:∀a∈[((0:Int),(0:Int),([]:List Int),s26,()),badS 2],AnW a:=λa ha=>by
  simp only [Cd,C8,or_false] at ha;rcases ha with rfl | rfl
  ·exact zus
  ·exact w1
 have b1:((0:Int)==0)=true:=rfl;have b2:((1:Int)==1)=true:=rfl;have b3:((14:Int)==14)=true:=rfl;have b4:(((2:Nat):Int)==2)=true:=rfl;have b5:bnd (0:Int) ((2:Nat):Int)=true:=rfl;have b6:bnd (1:Int) ((2:Nat):Int)=true:=rfl;have hl:∀x y:An,[x,y].length=2:=λ_ _=>rfl
 have g0:List.getD [((0:Int),(0:Int),([]:List Int),s26,()),badS 2] 0 ((0:Int),(0:Int),([]:(List Int)),(replicate 32 (0:Int)),())=((0:Int),(0:Int),([]:List Int),s26,()):=rfl;have g1:List.getD [((0:Int),(0:Int),([]:List Int),s26,()),badS 2] 1 ((0:Int),(0:Int),([]:(List Int)),(replicate 32 (0:Int)),())=badS 2:=rfl;have hx:(hexT s26).length=64:=by rw [Nm,Xn.1]
 have c1:decide (ByteArray.size (bs [111,107,32,48,32,45,32])+ByteArray.size (bs (hexT s26))<=9223372036854775807)=true:=by
  rw [Ec,Ec,hx]
  decide
 have c2:decide (ByteArray.size (bs ([111,107,32,48,32,45,32]++hexT s26))+ByteArray.size (bs [10,101,114,114,32,50,10])<=9223372036854775807)=true:=by
  rw [Ec,Ec,Ae,hx]
  decide
 have e1:Ly [((0:Int),(0:Int),([]:List Int),s26,()),badS 2]=[111,107,32,48,32,45,32]++hexT s26++[10,101,114,114,32,50,10]:=by
  have:=Oz [((0:Int),(0:Int),([]:List Int),s26,())] (badS 2);have h0:=Oz [] ((0:Int),(0:Int),([]:List Int),s26,());rw [A2] at h0;rw [show [((0:Int),(0:Int),([]:List Int),s26,()),badS 2]=[((0:Int),(0:Int),([]:List Int),s26,())]++[badS 2] from rfl,this,h0,zrb,zra];simp [Ly,texJ]
 simp only [F8,p8,h1,h2,h3,h4,b1,b2,b3,zuv,hl,b4,b5,b6,g0,g1,Oa R zus,Oa R w1,zrb,zra,DS];have h26:=λk'=>W0 R (h:=s26) Xn.1 (λx hx=>Xn.2 x hx) k'
 unfold s26 at*;simp only [h26,c1,Gp,DS,KC R ws (by decide),c2,e1]
theorem zvg (R:Type) {l:List AnT} (hl:l.length<=100) (a b:AnT) (k0:Bool->Option R) (k1:List AnT->AnT->AnT->Option R):∀(f i:Nat),i<=l.length->l.length - i<f->(∀(j:Nat) (h:j<l.length),j<i->(l[j]).2.2.1.length<=300)->
  G5_6 f R l (i:Int) a b k0 k1=k0 true\/((∀x∈l,x.2.2.1.length<=300)/\G5_6 f R l (i:Int) a b k0 k1=k1 l a b)
 | 0,i,_,h2,_=>by omega
 | f+1,i,h1,h2,h3=>by
  simp only [G5_6,p5_6]
  by_cases hi:i<l.length
  ·have e0:l.getD i ((0:Int),(0:Int),([]:(List Int)),(replicate 32 (0:Int)),())=l[i]:=by simp [hi]
   simp only [ltN hi,bndN hi,Bv,e0]
   by_cases h4:l[i].2.2.1.length<=300
   ·have t:decide ((l[i].2.2.1.length:Int)>300)=false:=C5 (by omega)
    simp only [t,Ty hi (show l.length<=1000000 by omega)];exact zvg R hl a b k0 k1 f (i+1) (by omega) (by omega) (λj hj hji=>by
     by_cases e:j=i
     ·subst e; exact h4
     ·exact h3 j hj (by omega))
   ·have t:decide ((l[i].2.2.1.length:Int)>300)=true:=C1 (by omega)
    simp only [t];exact .inl trivial
  ·have:i=l.length:=by omega
   subst this;simp only [nltN];refine .inr ⟨λx hx=>?_,trivial⟩;obtain ⟨j,hj,rfl⟩:=Cq hx;exact h3 j hj hj
structure AnF (a:AnT):Prop where
 err:Wd a.1
 n:0<=a.2.1/\a.2.1<18446744073709551616
 who:∀x∈a.2.2.1,Wd x
 hlen:a.2.2.2.1.length=32
 hash:∀x∈a.2.2.2.1,0<=x/\x<256
theorem AnF.w {a:AnT} (h:AnF a) (hl:a.2.2.1.length<=300):AnW a:=⟨h.err,h.n,h.who,by omega,h.hlen,h.hash⟩
theorem F5_eq' (R:Type) {l:List AnT} (hl:∀x∈l,AnF x) {a b:AnT} (ha:AnF a) (hb:AnF b) (k:Bool->Option R):F5 R l a b k=k true:=by
 simp only [F5,p5,Aae,Db]
 by_cases h1:l.length<=50
 ·have t1:decide ((l.length:Int)>50)=false:=C5 (by omega)
  by_cases h2:a.2.2.1.length<=300
  ·have t2:decide ((a.2.2.1.length:Int)>300)=false:=C5 (by omega)
   by_cases h3:b.2.2.1.length<=300
   ·have t3:decide ((b.2.2.1.length:Int)>300)=false:=C5 (by omega)
    simp only [t1,t2,t3];refine (zvg R (show l.length<=100 by omega) a b (λx8=>k x8) _ FUEL 0 (by omega) (by rw [Dv]; omega) (λj hj h=>by omega)).elim id ?_
    rintro ⟨h4,h5⟩
    refine h5.trans ?_;have wa:=ha.w h2;have wb:=hb.w h3;have wl:∀x∈l,AnW x:=λx hx=>(hl x hx).w (h4 x hx)
    have e32:Kd.eqv (.arr 32 (.int .u8)) a.2.2.2.1 b.2.2.2.1=decide (a.2.2.2.1=b.2.2.2.1):=Is ha.hlen hb.hlen;have hi:=ze9 wa wb;simp only [Oa R wa,Oa R wb,KC R wl (show l.length<=100000 by omega),zfm R wl (show l.length<=100000 by omega),KB R wa,DS,zp2 R (show a.2.2.1.length<=1000 by omega),e32,zod (ansT a) (ansT b)]
    by_cases q1:a.1=b.1
    ·by_cases q0:a.1=0
     ·have z1:(a.1==b.1)=true:=by rw [q1]; exact beq_self_eq_true _
      have z0:(a.1 !=0)=false:=by rw [q0]; rfl
      simp only [z1,z0]
      by_cases q2:a.2.1=b.2.1
      ·have z2:(a.2.1==b.2.1)=true:=by rw [q2]; exact beq_self_eq_true _
       simp only [z2]
       by_cases q3:a.2.2.1=b.2.2.1
       ·simp only [C1 q3]
        by_cases q4:a.2.2.2.1=b.2.2.2.1
        ·rw [C1 q4,C1 (hi.2 ⟨q1,.inr ⟨q2,q3,q4⟩⟩)]
         rfl
        ·rw [C5 q4,C5 (λhh=>(hi.1 hh).2.elim (λe=>e q0) (λe=>q4 e.2.2))]
         rfl
       ·simp only [C5 q3]
        rw [C5 (λhh=>(hi.1 hh).2.elim (λe=>e q0) (λe=>q3 e.2.1))];rfl
      ·have z2:(a.2.1==b.2.1)=false:=by simp [q2]
       simp only [z2];rw [C5 (λhh=>(hi.1 hh).2.elim (λe=>e q0) (λe=>q2 e.1))];rfl
     ·have z1:(a.1==b.1)=true:=by rw [q1]; exact beq_self_eq_true _
      have z0:(a.1 !=0)=true:=by simp [q0]
      simp only [z1,z0];rw [C1 (hi.2 ⟨q1,.inl q0⟩)];rfl
    ·have z1:(a.1==b.1)=false:=by simp [q1]
     simp only [z1];rw [C5 (λhh=>q1 (hi.1 hh).1)];rfl
   ·have t3:decide ((b.2.2.1.length:Int)>300)=true:=C1 (by omega)
    simp only [t1,t2,t3]
  ·have t2:decide ((a.2.2.1.length:Int)>300)=true:=C1 (by omega)
   simp only [t1,t2]
 ·have t1:decide ((l.length:Int)>50)=true:=C1 (by omega)
  simp only [t1]
theorem fit_an {a:AnT} (h:Fit (.pair (.int .i64) (.pair (.int .u64) (.pair (.sl (.int .i64)) (.pair (.arr 32 (.int .u8)) .unit)))) a):AnF a:=by
 obtain ⟨h1,h2,h3,h4,_⟩:=h;have a1:=SR h1;have a2:=zle h2;have a4:=zlf h4;exact ⟨by unfold Wd; omega,by omega,λx hx=>(by have:=SR (h3.2 x hx); unfold Wd; omega),a4.1,λx hx=>(by have:=a4.2 x hx; unfold U8 at this; omega)⟩
end Go.PG
end
