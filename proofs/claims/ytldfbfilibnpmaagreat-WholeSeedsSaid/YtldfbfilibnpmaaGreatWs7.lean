/- A part of the proof over this seat (own work; the framework that reads a Go function as a pure one, or a use of it). No condition of its own. -/
import Derived.Test.YtldfbfilibnpmaaGreatWs6
import Derived.KernelRfl
set_option linter.unusedVariables false
set_option linter.unusedSimpArgs false
set_option linter.unusedSectionVars false
noncomputable section
namespace Go.PG
def Dj (l:List Cm):List (List Int):=(l.filter (fun c=>c.2.2.1)).map (fun c=>c.2.2.2.1)
def mixS (l:List Cm):List Int:=Dt (Dj l)
def Gd (l:List Cm):List Int:=(l.filter (fun c=> !c.2.2.1)).map (fun c=>c.1)
theorem R4 {l:List Cm} (h:CsOK l):∀x∈Dj l,H32 x:=by
 intro x hx;obtain ⟨c,hc,rfl⟩:=List.mem_map.1 hx;exact (h c (List.mem_filter.1 hc).1).value
theorem zih {l:List Cm} (h:CsOK l):H32 (mixS l):=N7 (R4 h)
theorem Ik (c:Cm) (l:List Cm):Dj (c::l)=match c.2.2.1 with | true=>c.2.2.2.1::Dj l | false=>Dj l:=by
 unfold Dj;rw [List.filter_cons];cases c.2.2.1<;>rfl
theorem zew (c:Cm) (l:List Cm):Gd (c::l)=match c.2.2.1 with | true=>Gd l | false=>c.1::Gd l:=by
 unfold Gd;rw [List.filter_cons];cases c.2.2.1<;>rfl
theorem zar (R:Type) {l:List Cm} (h:CsOK l) (hn:l.length≤1000) (k0:List Int→Option R):∀(m i:Nat) (x:List Int),H32 x→i≤l.length→l.length - i<m→
  P7 m R l (l.length:Int) (i:Int) x k0=k0 ((Dj (l.drop i)).foldl xorS x)
 | 0,i,_,_,_,h=>by omega
 | m+1,i,x,hx,h1,h2=>by
  simp only [P7,zhz]
  by_cases hi:i<l.length
  ·have g1:l.getD i zC=l[i]:=by simp [hi]
   have hc:=h.get i;rw [g1] at hc;simp only [Du hi,A7 hi,Int.toNat_natCast,B5 hi hn];rw [show List.getD l i ((0:Int),(List.replicate 32 (0:Int)),false,(List.replicate 32 (0:Int)),())=l[i] from g1];rw [List.drop_eq_getElem_cons hi,Ik];cases hb:l[i].2.2.1 with
   | true=>
    simp only;rw [zvu R (fun y hy=>by
     simp only [List.mem_cons,List.not_mem_nil,or_false] at hy;rcases hy with rfl | rfl
     ·exact hx
     ·exact hc.value) (by simp)]
    have e:Dt [x,l[i].2.2.2.1]=xorS x l[i].2.2.2.1:=by
     show xorS (xorS Ce x) _=_;rw [xor0 hx]
    rw [e];exact zar R h hn k0 m (i+1) _ (N6 hx hc.value) (by omega) (by omega)
   | false=>exact zar R h hn k0 m (i+1) _ hx (by omega) (by omega)
  ·have:i=l.length:=by omega
   subst this;simp only [Da,List.drop_length];rfl
theorem zn3 (R:Type) {l:List Cm} (h:CsOK l) (hn:l.length≤1000) (k:List Int→Option R):F165 R l k=k (mixS l):=by
 simp only [F165,p165];exact zar R h hn (fun x2=>k x2) FUEL 0 Ce Ay (by omega) (by rw [Am]; omega)
theorem zev {l:List Cm} {i:Nat} (hi:i<l.length):Gd (l.take (i+1))=Gd (l.take i)++Gd [l[i]]:=by
 unfold Gd;rw [List.take_succ_eq_append_getElem hi,List.filter_append,List.map_append]
theorem zc6 (l:List Cm):(Gd l).length≤l.length:=by
 unfold Gd;rw [List.length_map];exact List.length_filter_le _ _
theorem zd4 (R:Type) {l:List Cm} (hn:l.length≤1000) (k0:List Int→Option R):∀(m i:Nat),i≤l.length→l.length - i<m→
  P1 m R l (l.length:Int) (i:Int) (Gd (l.take i)) k0=k0 (Gd l)
 | 0,i,_,h=>by omega
 | m+1,i,h1,h2=>by
  simp only [P1,zhp]
  by_cases hi:i<l.length
  ·have g1:l.getD i zC=l[i]:=by simp [hi]
   have ih:=zd4 R hn k0 m (i+1) (by omega) (by omega);simp only [Du hi,A7 hi,Int.toNat_natCast,B5 hi hn];rw [show List.getD l i ((0:Int),(List.replicate 32 (0:Int)),false,(List.replicate 32 (0:Int)),())=l[i] from g1];rw [zev hi,zew] at ih;have hle:=zc6 (l.take i);have hc:decide ((Gd (l.take i)).length+1≤17592186044416)=true:=decide_eq_true (by simp at hle; omega);have e:Gd ([]:List Cm)=[]:=rfl;cases hb:l[i].2.2.1 with
   | true=>
    rw [hb] at ih;simp only [e,List.append_nil] at ih;exact ih
   | false=>
    rw [hb] at ih;simp only [List.length_cons,List.length_nil,Nat.zero_add,Bool.not_false,hc];exact ih
  ·have:i=l.length:=by omega
   subst this;simp only [Da,List.take_length]
theorem zue (R:Type) {l:List Cm} (hn:l.length≤1000) (k:List Int→Option R):F205 R l k=k (Gd l):=by
 simp only [F205,p205];exact zd4 R hn (fun x2=>k x2) FUEL 0 (by omega) (by rw [Am]; omega)
end Go.PG
namespace Go.PG
theorem zy2 {w:Int} (hw:I64 w) {h:List Int} (hh:H32 h):CmOK (newC w h):=⟨hw,hh,Ay⟩
theorem zxr {l:List Cm} (hl:CsOK l) {w:Int} (hw:I64 w) {h:List Int} (hh:H32 h):CsOK (putL l w h):=by
 intro c hc;unfold putL at hc;rcases List.mem_append.1 hc with h1 | h1
 ·rcases List.mem_append.1 h1 with h2 | h2
  ·exact hl c (List.mem_of_mem_take h2)
  ·simp only [List.mem_cons,List.not_mem_nil,or_false] at h2
   rw [h2]; exact zy2 hw hh
 ·exact hl c (List.mem_of_mem_drop h1)
theorem zqh (l:List Cm) (w:Int) (h:List Int):(putL l w h).length=l.length+1:=by
 have:=Oq l w;simp [putL]; omega
theorem Uy {l:List Cm} (hl:CsOK l) {w:Int} (hw:I64 w) {h:List Int} (hh:H32 h):CsOK (Ke l w h).1∧(Ke l w h).1.length≤l.length+1:=by
 unfold Ke;split
 ·exact ⟨fun c hc=>(by cases hc),by simp⟩
 ·split
  ·exact ⟨fun c hc=>(by cases hc),by simp⟩
  ·exact ⟨zxr hl hw hh,Nat.le_of_eq (zqh l w h)⟩
theorem zxf {l:List Cm} (hl:CsOK l) (i:Nat) {v:List Int} (hv:H32 v):CsOK (setL l i v):=by
 intro c hc;rcases List.mem_or_eq_of_mem_set hc with h1 | h1
 ·exact hl c h1
 ·rw [h1]
  have:=hl.get i;exact ⟨this.who,this.hash,hv⟩
theorem zp7 (l:List Cm) (i:Nat) (v:List Int):(setL l i v).length=l.length:=by unfold setL; exact List.length_set
theorem zgw {l:List Cm} (hl:CsOK l) (w:Int) {v:List Int} (hv:H32 v):CsOK (revS l w v).1∧(revS l w v).1.length≤l.length:=by
 have nil:CsOK []∧([]:List Cm).length≤l.length:=⟨fun c hc=>(by cases hc),by simp⟩
 unfold revS;split
 ·exact nil
 ·split
  ·exact nil
  ·split
   ·exact nil
   ·split
    ·exact ⟨zxf hl _ hv,Nat.le_of_eq (zp7 _ _ _)⟩
    ·exact nil
end Go.PG
namespace Go.PG
theorem zpy {l:List Cm} {w:Int} (h:Fo l w=true):Bs l w<l.length∧(l.getD (Bs l w) zC).1=w:=by
 unfold Fo at h;rw [Bool.and_eq_true] at h;exact ⟨of_decide_eq_true h.1,of_decide_eq_true h.2⟩
theorem zp2 {l:List Cm} {i:Nat} (hi:i<l.length):l=l.take i++l.getD i zC::l.drop (i+1):=by
 have g:l.getD i zC=l[i]:=by simp [hi]
 rw [g];simp
theorem zel {l:List Cm} {i:Nat} (hi:i<l.length) (v:List Int):setL l i v=l.take i++((l.getD i zC).1,(l.getD i zC).2.1,true,v,())::l.drop (i+1):=by
 unfold setL;rw [List.set_eq_take_append_cons_drop,if_pos hi]
theorem El (a b:List Cm):Dj (a++b)=Dj a++Dj b:=by unfold Dj; rw [List.filter_append,List.map_append]
theorem zp6 {l:List Cm} (hl:CsOK l) {i:Nat} (hi:i<l.length) (hd:(l.getD i zC).2.2.1=false) {v:List Int} (hv:H32 v):mixS (setL l i v)=Dt [mixS l,v]:=by
 have e1:Dj l=Dj (l.take i)++Dj (l.drop (i+1)):=by
  have h:Dj l=Dj (l.take i++l.getD i zC::l.drop (i+1)):=congrArg Dj (zp2 hi);rw [h,El,Ik,hd]
 have e2:Dj (setL l i v)=Dj (l.take i)++(v::Dj (l.drop (i+1))):=by
  rw [zel hi,El,Ik]
 have hp:(Dj (setL l i v)).Perm (Dj l++[v]):=by
  rw [e1,e2];have:=List.perm_middle (a:=v) (l₁:=Dj (l.take i)) (l₂:=Dj (l.drop (i+1)));refine this.trans ?_;exact (List.perm_append_comm (l₁:=[v]) (l₂:=Dj (l.take i)++Dj (l.drop (i+1))))
 unfold mixS;rw [Xn hp,Rz (R4 hl) (fun x hx=>by simp only [List.mem_cons,List.not_mem_nil,or_false] at hx; rw [hx]; exact hv)];show xorS _ (xorS Ce v)=xorS (xorS Ce _) v
 rw [xor0 hv,xor0 (N7 (R4 hl))]
end Go.PG
namespace Go.PG
end Go.PG
namespace Go.PG
end Go.PG
namespace Go.PG
abbrev Bea:=Int×(List Int×(List Int×(List Cm×Unit)))
abbrev zB:Bea:=((0:Int),(List.replicate 32 (0:Int)),(List.replicate 32 (0:Int)),([]:List Cm),())
structure Ht (b:Bea):Prop where
 ep:0≤b.1∧b.1<18446744073709551616
 seed:H32 b.2.1
 mix:H32 b.2.2.1
 cs:CsOK b.2.2.2.1
theorem zy1:CsOK []:=fun c hc=>(by cases hc)
theorem Xl:Ht zB:=⟨by show (0:Int)≤0∧(0:Int)<18446744073709551616; omega,Ay,Ay,zy1⟩
def C4 (b:Bea):Bool:=E1 b.2.2.2.1&&decide (mixS b.2.2.2.1=b.2.2.1)
theorem zn6 (R:Type) {b:Bea} (h:Ht b) (hn:b.2.2.2.1.length≤500) (k:Bool→Option R):F160 R b k=k (C4 b):=by
 simp only [F160,p160,C4];rw [zb0 R h.cs (by omega)];cases E1 b.2.2.2.1 with
 | false=>simp only [Bool.false_and]
 | true=>
  simp only [Bool.true_and];rw [zn3 R h.cs (by omega),Ep (zih h.cs).1 h.mix.1]
theorem zg5 (l:List Cm) (w:Int) (h:List Int):Dj (putL l w h)=Dj l:=by
 unfold putL;rw [El,El,Ik];have e:Dj ([]:List Cm)=[]:=rfl;simp only [newC,e,List.append_nil];rw [←El,List.take_append_drop]
def Nm (b:Bea) (r:List Cm×Int):Bea×Int:=if r.2=0 then ((b.1,b.2.1,mixS r.1,r.1,()),0) else (zB,r.2)
def Ck (b:Bea) (ph w:Int) (h:List Int):Bea×Int:=
 if C4 b=false then (zB,1) else if ph=1 then Nm b (Ke b.2.2.2.1 w h) else (zB,7)
def Cj (b:Bea) (ph w:Int) (v:List Int):Bea×Int:=
 if C4 b=false then (zB,1) else if ph=2 then Nm b (revS b.2.2.2.1 w v) else (zB,7)
theorem zoe (R:Type) (b:Bea) {l:List Cm} (h:CsOK l) (hn:l.length≤1000) (e:Int) (k:Bea→Int→Option R):F117 R b l e k=k (Nm b (l,e)).1 (Nm b (l,e)).2:=by
 simp only [F117,p117,Nm]
 by_cases he:e=0
 ·subst he
  simp only [show ((0:Int) !=0)=false from rfl,if_true];rw [zn3 R h hn]
 ·have:(e !=0)=true:=by simp [he]
  simp only [this,if_neg he]
theorem zof (R:Type) {b:Bea} (h:Ht b) (hn:b.2.2.2.1.length≤500) (ph w:Int) (k:Int→Option R):F115 R b ph w k=k (if C4 b=false then 1 else if ph=w then 0 else 7):=by
 simp only [F115,p115];rw [zn6 R h hn];cases C4 b with
 | false=>simp only [Bool.not_false,if_true]
 | true=>
  simp only [Bool.not_true,Bool.true_eq_false,if_false]
  by_cases e:ph=w
  ·have:(ph !=w)=false:=by simp [e]
   simp only [this,if_pos e]
  ·have:(ph !=w)=true:=by simp [e]
   simp only [this,if_neg e]
theorem F73_eq (R:Type) {b:Bea} (h:Ht b) (hn:b.2.2.2.1.length≤400) (ph:Int) {w:Int} (hw:I64 w) {x:List Int} (hx:H32 x) (k:Bea→Int→Option R):F73 R b ph w x k=k (Ck b ph w x).1 (Ck b ph w x).2:=by
 simp only [F73,p73,Ck];rw [zof R h (by omega)];cases C4 b with
 | false=>simp only [if_true,show ((1:Int) !=0)=true from rfl]
 | true=>
  simp only [Bool.true_eq_false,if_false]
  by_cases e:ph=1
  ·simp only [if_pos e,show ((0:Int) !=0)=false from rfl]
   obtain ⟨p1,p2⟩:=Uy h.cs hw hx;rw [F116_eq R h.cs (by omega),zoe R b p1 (by omega)]
  ·simp only [if_neg e,show ((7:Int) !=0)=true from rfl]
theorem F75_eq (R:Type) {b:Bea} (h:Ht b) (hn:b.2.2.2.1.length≤400) (ph w:Int) {x:List Int} (hx:H32 x) (k:Bea→Int→Option R):F75 R b ph w x k=k (Cj b ph w x).1 (Cj b ph w x).2:=by
 simp only [F75,p75,Cj];rw [zof R h (by omega)];cases C4 b with
 | false=>simp only [if_true,show ((1:Int) !=0)=true from rfl]
 | true=>
  simp only [Bool.true_eq_false,if_false]
  by_cases e:ph=2
  ·simp only [if_pos e,show ((0:Int) !=0)=false from rfl]
   obtain ⟨p1,p2⟩:=zgw h.cs w hx;rw [F118_eq R h.cs (by omega) _ hx,zoe R b p1 (by omega)]
  ·simp only [if_neg e,show ((7:Int) !=0)=true from rfl]
abbrev Fol:=Int×(List Int×(List Int×(List Int×Unit)))
abbrev zF:Fol:=((0:Int),(List.replicate 32 (0:Int)),(List.replicate 32 (0:Int)),(List.replicate 32 (0:Int)),())
def bEnd (b:Bea):Bea×Fol×List Int×Int:=
 if C4 b=false then (zB,zF,[],1) else if b.1=18446744073709551615 then (zB,zF,[],3)
 else ((b.1+1,Qh b.2.1 b.1 b.2.2.1,Ce,[],()),(b.1,b.2.1,b.2.2.1,Qh b.2.1 b.1 b.2.2.1,()),Gd b.2.2.2.1,0)
theorem F167_eq (R:Type) {b:Bea} (h:Ht b) (hn:b.2.2.2.1.length≤400) (k:Bea→Fol→List Int→Int→Option R):F167 R b k=k (bEnd b).1 (bEnd b).2.1 (bEnd b).2.2.1 (bEnd b).2.2.2:=by
 simp only [F167,p167,bEnd];rw [zn6 R h (by omega)];cases C4 b with
 | false=>simp only [if_true,Bool.not_false]
 | true=>
  simp only [Bool.true_eq_false,if_false,Bool.not_true];have hep:=h.ep
  by_cases e:b.1=18446744073709551615
  ·have e1:(b.1==18446744073709551615)=true:=by simp [e]
   simp only [if_pos e,e1]
  ·have e1:(b.1==18446744073709551615)=false:=by simp [e]
   simp only [if_neg e,e1];rw [zvt R h.seed h.mix,zue R (by omega),Aj (by omega) (by omega)];rfl
theorem zb7 {b:Bea} (h:Ht b) {r:List Cm×Int} (hr:CsOK r.1) {n:Nat} (hn:r.1.length≤n):Ht (Nm b r).1∧(Nm b r).1.2.2.2.1.length≤n:=by
 unfold Nm;split
 ·exact ⟨⟨h.ep,h.seed,zih hr,hr⟩,hn⟩
 ·exact ⟨Xl,Nat.zero_le _⟩
theorem zfo {b:Bea} (h:Ht b) (ph:Int) {w:Int} (hw:I64 w) {x:List Int} (hx:H32 x):Ht (Ck b ph w x).1∧(Ck b ph w x).1.2.2.2.1.length≤b.2.2.2.1.length+1:=by
 obtain ⟨p1,p2⟩:=Uy h.cs hw hx;unfold Ck;split
 ·exact ⟨Xl,Nat.zero_le _⟩
 ·split
  ·exact zb7 h p1 p2
  ·exact ⟨Xl,Nat.zero_le _⟩
theorem zfl {b:Bea} (h:Ht b) (ph w:Int) {x:List Int} (hx:H32 x):Ht (Cj b ph w x).1∧(Cj b ph w x).1.2.2.2.1.length≤b.2.2.2.1.length:=by
 obtain ⟨p1,p2⟩:=zgw h.cs w hx;unfold Cj;split
 ·exact ⟨Xl,Nat.zero_le _⟩
 ·split
  ·exact zb7 h p1 p2
  ·exact ⟨Xl,Nat.zero_le _⟩
theorem zcn (a:List Int) (e:Int) (b:List Int):H32 (Qh a e b):=Rb _
theorem bEnd_ok {b:Bea} (h:Ht b):Ht (bEnd b).1∧(bEnd b).1.2.2.2.1.length=0:=by
 unfold bEnd;split
 ·exact ⟨Xl,rfl⟩
 ·split
  ·exact ⟨Xl,rfl⟩
  ·have:=h.ep
   exact ⟨⟨⟨by show (0:Int)≤b.1+1; omega,by show b.1+1<(18446744073709551616:Int); omega⟩,zcn _ _ _,Ay,zy1⟩,rfl⟩
end Go.PG
namespace Go.PG
abbrev bV:List Int:=List.set (List.replicate 32 (0:Int)) 0 (7:Int)
theorem zfk:H32 bV:=⟨rfl,by unfold AllU8 U8; decide⟩
theorem zk4 (b:Bea):(bEnd b).2.2.1.length≤b.2.2.2.1.length:=by
 unfold bEnd;split
 ·exact Nat.zero_le _
 ·split
  ·exact Nat.zero_le _
  ·exact zc6 _
end Go.PG
namespace Go.PG
end Go.PG
namespace Go.PG
end Go.PG
namespace Go.PG
theorem zjm {x b:Int} (hx:U32 x) (hb:U32 b):ior .u64 (ishl .u64 x 32) b=x*4294967296+b:=by
 unfold U32 at hx hb;obtain ⟨n,rfl⟩:∃n:Nat,x=n:=⟨x.toNat,by omega⟩
 obtain ⟨c,rfl⟩:∃c:Nat,b=c:=⟨b.toNat,by omega⟩
 have e2:ishl .u64 (n:Int) 32=((n*4294967296:Nat):Int):=by
  unfold ishl;rw [show (2:Int)^(min (32:Int).toNat IntKind.u64.bits)=4294967296 by decide,Aj (by omega) (by omega)];simp
 rw [e2,Zt,BitVec.ofInt_natCast,BitVec.ofInt_natCast,BitVec.toNat_or,BitVec.toNat_ofNat,BitVec.toNat_ofNat,Nat.mod_eq_of_lt (by omega),Nat.mod_eq_of_lt (by omega)];have h6:=Nat.shiftLeft_add_eq_or_of_lt (i:=32) (b:=c) (by omega) n;rw [Nat.shiftLeft_eq] at h6;rw [show n*4294967296=n*2^32 by rfl,←h6];simp
theorem F103_eq (R:Type) {a b:Int} (ha:U32 a) (hb:U32 b) (k:Int→Option R):F103 R a b k=k (a*4294967296+b):=by
 have u:=ha; have v:=hb;unfold U32 at u v;simp only [F103,p103];rw [Aj (n:=a) (by omega) (by omega),Aj (n:=b) (by omega) (by omega),zjm ha hb]
end Go.PG
namespace Go.PG
abbrev Src:=Int×(List Int×(Int×(List Int×(Int×(Int×Unit)))))
abbrev Rdr:=Src×(List Int×(Int×(Bool×Unit)))
def atS (s:Src):Int:=s.2.2.2.2.2.1
def Cl (s:Src) (n:Int):Src:=(s.1,s.2.1,s.2.2.1,s.2.2.2.1,s.2.2.2.2.1,n,())
structure SOK (s:Src):Prop where
 tape:AllU8 s.2.1
 len:s.2.1.length≤1000000
 bits:U64 s.2.2.1
 seed:H32 s.2.2.2.1
 dom:U64 s.2.2.2.2.1
 at_:U64 s.2.2.2.2.2.1
theorem SOK.set {s:Src} (h:SOK s) {n:Int} (hn:U64 n):SOK (Cl s n):=⟨h.tape,h.len,h.bits,h.seed,h.dom,hn⟩
def Bi (s:Src):Bool:=if s.1=1 then decide (s.2.2.1≤8*(s.2.1.length:Int)∧s.2.2.2.2.2.1≤s.2.2.1) else decide (s.1=2∧s.2.2.2.2.2.1≤4611686018427387904)
def endS (s:Src):Int:=if s.1=1 then s.2.2.1 else 4611686018427387904
def Ex (s:Src):Int:=if Bi s=true then endS s - s.2.2.2.2.2.1 else 0
def V2 (s:Src) (n:Int):Int:=if s.1=1 then s.2.1.getD (n/8).toNat 0/2^(7 - n % 8).toNat % 2 else bitS s.2.2.2.1 s.2.2.2.2.1 n
theorem znv (R:Type) {s:Src} (h:SOK s) (k:Int→Bool→Option R):F220 R s k=(if s.1=1 then k s.2.2.1 (decide (s.2.2.1≤8*(s.2.1.length:Int))) else if s.1=2 then k 4611686018427387904 true else k 0 false):=by
 have hl:=h.len;simp only [F220,p220];rw [Aj (n:=(s.2.1.length:Int)) (by omega) (by omega),Aj (n:=(s.2.1.length:Int)*8) (by omega) (by omega),Int.mul_comm]
 by_cases h1:s.1=1
 ·simp [h1]
 ·by_cases h2:s.1=2
  ·simp [h2]
  ·simp only [beq_eq_false_iff_ne.2 h1,beq_eq_false_iff_ne.2 h2,if_neg h1,if_neg h2]
theorem T0 (R:Type) {s:Src} (h:SOK s) (k:Bool→Option R):F186 R s k=k (Bi s):=by
 simp only [F186,p186];rw [znv R h];unfold Bi
 by_cases h1:s.1=1
 ·simp only [h1,if_true]
  by_cases h2:s.2.2.1≤8*(s.2.1.length:Int)
  ·simp [h2]
  ·simp [h2]
 ·simp only [h1,if_false]
  by_cases h2:s.1=2
  ·simp [h2]
  ·simp [h2]
theorem Gm {s:Src} (h:Bi s=true):(s.1=1∧s.2.2.1≤8*(s.2.1.length:Int)∧s.2.2.2.2.2.1≤s.2.2.1∧endS s=s.2.2.1)∨(s.1=2∧s.2.2.2.2.2.1≤4611686018427387904∧endS s=4611686018427387904):=by
 unfold Bi at h;unfold endS
 by_cases h1:s.1=1
 ·rw [if_pos h1] at h ⊢
  have:=of_decide_eq_true h;exact .inl ⟨h1,this.1,this.2,rfl⟩
 ·rw [if_neg h1] at h ⊢
  have:=of_decide_eq_true h;exact .inr ⟨this.1,this.2,rfl⟩
theorem Oy {s:Src} (hs:SOK s):0≤Ex s∧Ex s≤4611686018427387904∧(Bi s=true→s.2.2.2.2.2.1+Ex s=endS s):=by
 have h1:=hs.at_; have h2:=hs.bits; have h3:=hs.len;unfold U64 at h1 h2;unfold Ex
 by_cases h:Bi s=true
 ·rw [if_pos h]
  rcases Gm h with ⟨_,a2,a3,a4⟩ | ⟨_,a2,a3⟩
  ·rw [a4]; omega
  ·rw [a3]; omega
 ·rw [if_neg h]
  exact ⟨by omega,by omega,fun e=>absurd e h⟩
theorem F241_eq (R:Type) {s:Src} (h:SOK s) (k:Int→Option R):F241 R s k=k (Ex s):=by
 have hl:=Oy h;simp only [F241,p241];rw [T0 R h,znv R h];unfold Ex at*
 by_cases hr:Bi s=true
 ·have hr':=hr
  simp only [hr,Bool.not_true,if_true] at hl ⊢;rcases Gm hr' with ⟨a1,a2,a3,a4⟩ | ⟨a1,a2,a3⟩
  ·rw [if_pos a1,a4,Aj (by rw [a4] at hl; omega) (by rw [a4] at hl; omega)]
  ·rw [if_neg (by omega),if_pos a1,a3,Aj (by rw [a3] at hl; omega) (by rw [a3] at hl; omega)]
 ·simp only [Bool.not_eq_true] at hr
  simp [hr]
theorem V1 (s:Src) (n:Int):0≤V2 s n∧V2 s n≤1:=by
 unfold V2 bitS;split<;>omega
def RI (r:Rdr):Prop:=r.2.2.2.1=true→r.2.1=M7 r.1.2.2.2.1 r.1.2.2.2.2.1 r.2.2.1
theorem zjp {x:Int} (hx:U8 x):iand .u8 x 1=x % 2:=by
 unfold U8 at hx;obtain ⟨y,rfl⟩:∃y:Nat,x=y:=⟨x.toNat,by omega⟩
 have e:iand .u8 (y:Int) 1=((BitVec.ofInt 8 (y:Int)&&& BitVec.ofInt 8 ((1:Nat):Int)).toNat:Int):=zb6 _;rw [e,BitVec.ofInt_natCast,BitVec.ofInt_natCast,BitVec.toNat_and,BitVec.toNat_ofNat,BitVec.toNat_ofNat,Nat.mod_eq_of_lt (by omega),Nat.mod_eq_of_lt (by omega),show (1:Nat)=2^1 - 1 by rfl,Nat.and_two_pow_sub_one_eq_mod];simp
theorem zgb (R:Type) (r:Rdr) {y:Int} (hy:U8 y) (hat:0≤atS r.1∧atS r.1<9000000000000000000) (q:List Int×(Int×(Bool×Unit))) (k:Int→Rdr→Option R):
  u242 R r y q k=k (y/2^(7 - atS r.1 % 8).toNat % 2) (Cl r.1 (atS r.1+1),q):=by
 unfold atS at*;simp only [u242];unfold Cl;generalize r.1.2.2.2.2.2.1=n at*;rw [Int.tmod_eq_emod_of_nonneg hat.1,Aj (n:=7 - n % 8) (by omega) (by omega),Aj (n:=n+1) (by omega) (by omega)];obtain ⟨m,hm⟩:∃m:Nat,7 - n % 8=m:=⟨(7 - n % 8).toNat,by omega⟩
 rw [hm,Int.toNat_natCast];have e8:ishr .u8 y (m:Int)=y/2^m:=by
  unfold ishr;rw [show IntKind.u8.bits=8 from rfl,Int.toNat_natCast,Nat.min_eq_left (by omega),Int.fdiv_eq_ediv_of_nonneg _ (by have:=two_pow_pos m; omega)]
 unfold U8 at hy;have hp:(0:Int)<2^m:=Int.pow_pos (by decide);have hq:0≤y/2^m∧y/2^m≤y:=⟨Int.ediv_nonneg hy.1 (by omega),Int.ediv_le_self _ hy.1⟩
 rw [e8,zjp (by unfold U8; omega),Aj (by omega) (by omega)]
theorem F242_eq (R:Type) {r:Rdr} (h:SOK r.1) (hi:RI r) (hk:(r.1.1=1∧atS r.1<8*(r.1.2.1.length:Int))∨r.1.1=2) (hat:atS r.1<9000000000000000000) (k:Int→Rdr→Option R):
  ∃q,RI (Cl r.1 (atS r.1+1),q)∧F242 R r k=k (V2 r.1 (atS r.1)) (Cl r.1 (atS r.1+1),q):=by
 have hl:=h.len;have ha:=h.at_;have hat':0≤atS r.1∧atS r.1<9000000000000000000:=⟨ha.1,hat⟩
 simp only [F242];show ∃q,RI (Cl r.1 (atS r.1+1),q)∧(F254 R r (IntKind.u64.wrap (Int.tdiv (atS r.1) 8)) fun y2 p3=>match decide (0≤IntKind.u64.wrap (7 - Int.tmod (atS r.1) 8)) with | true=>u242 R r y2 p3.2 k | false=>none)=_
 have hdc:decide (0≤IntKind.u64.wrap (7 - Int.tmod (atS r.1) 8))=true:=by
  rw [Co]; exact decide_eq_true (by omega)
 simp only [hdc];rw [Int.tdiv_eq_ediv_of_nonneg hat'.1,Aj (n:=atS r.1/8) (by omega) (by omega)];simp only [F254,p254];generalize hn:atS r.1=n at*;unfold V2;rcases hk with ⟨a1,a2⟩ | a1
 ·have e1:(r.1.1==1)=true:=by simp [a1]
  have hb:bnd (n/8) (r.1.2.1.length:Int)=true:=by unfold bnd; simp; omega
  simp only [e1,hb];refine ⟨r.2,hi,?_⟩;rw [if_pos a1,zgb R r (Au h.tape u8_0 _) (by rw [hn]; exact hat'),hn]
 ·have e1:(r.1.1==1)=false:=by simp [a1]
  simp only [e1];rw [if_neg (by omega),Int.tdiv_eq_ediv_of_nonneg (by omega),Aj (n:=n/8/32) (by omega) (by omega),Int.tmod_eq_emod_of_nonneg (by omega)];have hb:bnd (n/8 % 32) 32=true:=by unfold bnd; simp; omega
  have hbit:(M7 r.1.2.2.2.1 r.1.2.2.2.2.1 (n/8/32)).getD (n/8 % 32).toNat 0/2^(7 - n % 8).toNat % 2=bitS r.1.2.2.2.1 r.1.2.2.2.2.1 n:=by
   unfold bitS;rw [show n/8/32=n/256 by omega,show n/8 % 32=n % 256/8 by omega]
  have hu:=fun i=>Au (zk1 r.1.2.2.2.1 r.1.2.2.2.2.1 (n/8/32)).2 u8_0 i
  have go:∀q,u242 R r ((M7 r.1.2.2.2.1 r.1.2.2.2.2.1 (n/8/32)).getD (n/8 % 32).toNat 0) q k=k (bitS r.1.2.2.2.1 r.1.2.2.2.2.1 n) (Cl r.1 (n+1),q):=fun q=>by
   rw [zgb R r (hu _) (by rw [hn]; exact hat'),hn,hbit]
  have Hq:(F259 R r.1.2.2.2.1 r.1.2.2.2.2.1 (n/8/32) fun y5=>match bnd (n/8 % 32) 32 with
    | true=>u242 R r (y5.getD (n/8 % 32).toNat 0) (r.1,y5,n/8/32,true,r.2.2.2.2).2 k
    | false=>none)=k (bitS r.1.2.2.2.1 r.1.2.2.2.2.1 n) (Cl r.1 (n+1),(M7 r.1.2.2.2.1 r.1.2.2.2.2.1 (n/8/32),n/8/32,true,())):=by
   rw [F259_eq R h.seed];simp only [hb];exact go _
  cases hs:r.2.2.2.1 with
  | false=>
   simp only [Bool.not_false];exact ⟨_,fun _=>rfl,Hq⟩
  | true=>
   simp only [Bool.not_true]
   by_cases hne:n/8/32=r.2.2.1
   ·have e2:(n/8/32 !=r.2.2.1)=false:=by simp [hne]
    simp only [e2,hb];refine ⟨r.2,fun e=>hi e,?_⟩;have:=hi hs;rw [←hne] at this;rw [this];exact go _
   ·have e2:(n/8/32 !=r.2.2.1)=true:=by simp [hne]
    simp only [e2];exact ⟨_,fun _=>rfl,Hq⟩
end Go.PG
namespace Go.PG
def Nn (s:Src) (a:Int):Nat→Int
 | 0=>0
 | n+1=>2*Nn s a n+V2 s (a+n)
theorem Jf (s:Src) (a:Int):∀n:Nat,0≤Nn s a n∧Nn s a n<2^n
 | 0=>by simp [Nn]
 | n+1=>by
  have ih:=Jf s a n;have hb:=V1 s (a+n);simp only [Nn];rw [Int.pow_succ];omega
theorem zsf {x b:Int} (hx:0≤x∧x<9223372036854775808) (hb:0≤b∧b≤1):ior .u64 (ishl .u64 x 1) b=2*x+b:=by
 obtain ⟨n,rfl⟩:∃n:Nat,x=n:=⟨x.toNat,by omega⟩
 obtain ⟨c,rfl⟩:∃c:Nat,b=c:=⟨b.toNat,by omega⟩
 have e2:ishl .u64 (n:Int) 1=((n*2:Nat):Int):=by
  unfold ishl;rw [show (2:Int)^(min (1:Int).toNat IntKind.u64.bits)=2 by decide,Aj (by omega) (by omega)];simp
 rw [e2,Zt,BitVec.ofInt_natCast,BitVec.ofInt_natCast,BitVec.toNat_or,BitVec.toNat_ofNat,BitVec.toNat_ofNat,Nat.mod_eq_of_lt (by omega),Nat.mod_eq_of_lt (by omega)];have h6:=Nat.shiftLeft_add_eq_or_of_lt (i:=1) (b:=c) (by omega) n;rw [Nat.shiftLeft_eq] at h6;rw [show n*2=n*2^1 by rfl,←h6];simp; omega
theorem Oi (s:Src) (x y:Int):Cl (Cl s x) y=Cl s y:=rfl
theorem atS_set (s:Src) (x:Int):atS (Cl s x)=x:=rfl
theorem zlv (R:Type) {s:Src} (h:SOK s) {K:Nat} (hK:K≤64) (hk:(s.1=1∧atS s+K≤8*(s.2.1.length:Int))∨s.1=2) (hat:atS s+K<9000000000000000000) (x4:Src) (k0:Int→Src→Rdr→Option R):
  ∀(m i:Nat) (r:Rdr),i≤K→K - i<m→r.1=Cl s (atS s+i)→RI r→∃q,Nc m R (Nn s (atS s) i) (K:Int) (i:Int) x4 r k0=k0 (Nn s (atS s) K) x4 (Cl s (atS s+K),q)
 | 0,i,_,_,h,_,_=>by omega
 | m+1,i,r,h1,h2,hr,hi=>by
  simp only [Nc,zhi];have h0:=h.at_;unfold U64 at h0;have h0':0≤atS s:=h0.1
  by_cases hlt:i<K
  ·have hd:decide ((i:Int)<(K:Int))=true:=by simpa using hlt
   simp only [hd];have hra:atS r.1=atS s+i:=by rw [hr]; rfl
   have hlen:r.1.2.1=s.2.1:=by rw [hr]; rfl
   have hknd:r.1.1=s.1:=by rw [hr]; rfl
   obtain ⟨q,g1,g2⟩:=F242_eq R (r:=r) (by rw [hr]; exact h.set (by unfold U64; omega)) hi (by
    rw [hra,hlen,hknd];rcases hk with ⟨b1,b2⟩ | b1
    ·exact .inl ⟨b1,by omega⟩
    ·exact .inr b1) (by rw [hra]; omega) (fun y8 p9=>Nc m R (ior .u64 (ishl .u64 (Nn s (atS s) i) 1) y8) (K:Int) (IntKind.i64.wrap ((i:Int)+1)) x4 p9 k0)
   have hv:=Jf s (atS s) i;have hp:(2:Int)^i≤9223372036854775808:=by
    have:(2:Nat)^i≤2^63:=Nat.pow_le_pow_right (by omega) (by omega);have e:((2^i:Nat):Int)=(2:Int)^i:=by simp
    omega
   have hbt:V2 r.1 (atS r.1)=V2 s (atS s+i):=by rw [hra,hr]; rfl
   obtain ⟨q2,g3⟩:=zlv R h hK hk hat x4 k0 m (i+1) (Cl r.1 (atS r.1+1),q) (by omega) (by omega) (by
    show Cl r.1 (atS r.1+1)=_;rw [hra,hr,Oi]
    congr 1
    omega) g1
   refine ⟨q2,?_⟩;rw [g2,zsf ⟨hv.1,by omega⟩ (V1 _ _),hbt,wrap_i64 (n:=(i:Int)+1) (by omega) (by omega)];exact g3
  ·have:i=K:=by omega
   subst this;have hd:decide ((i:Int)<(i:Int))=false:=by simp
   simp only [hd];refine ⟨r.2,?_⟩;rw [←hr]
def Gy (s:Src) (k:Int):Int×Src×Int:=
 if Bi s=true∧0≤k∧k≤64 then (if k≤Ex s then (Nn s (atS s) k.toNat,Cl s (atS s+k),0) else (0,s,8)) else (0,s,1)
theorem Qr {s:Src} (hs:SOK s) (hr:Bi s=true) {k:Nat} (hk:(k:Int)≤Ex s):((s.1=1∧atS s+k≤8*(s.2.1.length:Int))∨s.1=2)∧atS s+k<9000000000000000000:=by
 have hl:=Oy hs;have:=hl.2.2 hr;have hln:=hs.len;unfold atS;rcases Gm hr with ⟨a1,a2,a3,a4⟩ | ⟨a1,a2,a3⟩
 ·rw [a4] at this
  exact ⟨.inl ⟨a1,by omega⟩,by omega⟩
 ·exact ⟨.inr a1,by omega⟩
theorem F224_eq (R:Type) {s:Src} (hs:SOK s) {n:Int} (k:Int→Src→Int→Option R):F224 R s n k=k (Gy s n).1 (Gy s n).2.1 (Gy s n).2.2:=by
 simp only [F224,p224];rw [T0 R hs];unfold Gy
 by_cases hr:Bi s=true
 ·simp only [hr,Bool.not_true,true_and]
  by_cases h1:n<0
  ·rw [if_neg (by omega)]
   simp only [decide_eq_true h1]
  ·simp only [decide_eq_false h1]
   by_cases h2:n>64
   ·rw [if_neg (by omega)]
    simp only [decide_eq_true h2]
   ·rw [if_pos (by omega)]
    simp only [decide_eq_false h2];rw [Aj (n:=n) (by omega) (by omega),F241_eq R hs]
    by_cases h3:n>Ex s
    ·rw [if_neg (by omega)]
     simp only [decide_eq_true h3]
    ·rw [if_pos (by omega)]
     simp only [decide_eq_false h3];obtain ⟨m,rfl⟩:∃m:Nat,n=m:=⟨n.toNat,by omega⟩
     have hroom:=Qr hs hr (k:=m) (by omega);obtain ⟨q,g⟩:=zlv R hs (K:=m) (by omega) hroom.1 hroom.2 (0,[],0,List.replicate 32 0,0,0,()) (fun x7 x8 x9=>k x7 x9.1 0) FUEL 0 (s,List.replicate 32 0,0,false,()) (by omega) (by rw [Am]; omega) (by simp only [Int.natCast_zero,Int.add_zero]; rfl) (fun e=>by cases e);refine g.trans ?_;rw [Int.toNat_natCast]
 ·simp only [Bool.not_eq_true] at hr
  simp [hr]
end Go.PG
namespace Go.PG
def C0 (a:List Int) (d:Int):Src:=(2,[],0,a,d,0,())
theorem Uf {a:List Int} (ha:H32 a) {d:Int} (hd:U64 d):SOK (C0 a d):=⟨fun y hy=>by simp [C0] at hy,by simp [C0],by unfold U64 C0; simp,ha,hd,by unfold U64 C0; simp⟩
theorem F102_eq (R:Type) (a:List Int) (d:Int) (k:Src→Option R):F102 R a d k=k (C0 a d):=by
 simp only [F102,p102]; rfl
theorem zce {s:Src} {n:Nat} (hr:Bi s=true) (h1:n≤64) (h2:(n:Int)≤Ex s):Gy s n=(Nn s (atS s) n,Cl s (atS s+n),0):=by
 unfold Gy;rw [if_pos ⟨hr,by omega,by omega⟩,if_pos h2,Int.toNat_natCast]
theorem zgv {s:Src} (hs:SOK s) (hr:Bi s=true) {k:Nat} (hk:(k:Int)≤Ex s):Bi (Cl s (atS s+k))=true∧Ex (Cl s (atS s+k))=Ex s - k:=by
 have hl:=(Oy hs).2.2 hr;have h0:0≤s.2.2.2.2.2.1:=hs.at_.1;have hR:Bi (Cl s (atS s+k))=true:=by
  unfold Bi atS;rcases Gm hr with ⟨a1,a2,a3,a4⟩ | ⟨a1,a2,a3⟩
  ·rw [if_pos (show (Cl s (s.2.2.2.2.2.1+k)).1=1 from a1)]
   rw [a4] at hl;exact decide_eq_true ⟨a2,by show s.2.2.2.2.2.1+k≤s.2.2.1; omega⟩
  ·rw [if_neg (show ¬(Cl s (s.2.2.2.2.2.1+k)).1=1 by show ¬s.1=1; omega)]
   rw [a3] at hl;exact decide_eq_true ⟨a1,by show s.2.2.2.2.2.1+k≤_; omega⟩
 refine ⟨hR,?_⟩;have e:Ex (Cl s (atS s+k))=endS s - (s.2.2.2.2.2.1+k):=by
  unfold Ex;rw [if_pos hR];rfl
 rw [e];omega
end Go.PG
namespace Go.PG
def Hs:Nat→Nat→Nat
 | 0,_=>0
 | f+1,x=>if x=0 then 0 else Hs f (x/2)+1
theorem Q6:∀(f x:Nat),x<2^f→x<2^Hs f x∧(x≠0→2^(Hs f x - 1)≤x)∧Hs f x≤f
 | 0,x,h=>by simp at h; subst h; simp [Hs]
 | f+1,x,h=>by
  rw [Nat.pow_succ] at h;simp only [Hs]
  by_cases h0:x=0
  ·subst h0; simp
  ·rw [if_neg h0]
   obtain ⟨h1,h2,h3⟩:=Q6 f (x/2) (by omega);refine ⟨?_,fun _=>?_,by omega⟩
   ·rw [Nat.pow_succ]; omega
   ·rw [Nat.add_sub_cancel]
    by_cases hx:x/2=0
    ·have e:Hs f (x/2)=0:=by
      rw [hx];cases f with
      | zero=>rfl
      | succ f=>simp [Hs]
     rw [e,Nat.pow_zero]; omega
    ·have:=h2 hx
     have hb:Hs f (x/2)≠0:=fun e=>by rw [e,Nat.pow_zero] at h1; omega
     obtain ⟨b,hb⟩:∃b,Hs f (x/2)=b+1:=⟨Hs f (x/2) - 1,by omega⟩
     rw [hb,Nat.add_sub_cancel] at this;rw [hb,Nat.pow_succ];omega
theorem zls (R:Type) (k0:Int→Option R):∀(f m x c:Nat),x<2^f→f≤64→f<m→c+f≤1000→Nb m R (x:Int) (c:Int) k0=k0 ((c+Hs f x:Nat):Int)
 | _,0,_,_,_,_,h,_=>by omega
 | 0,m+1,x,c,h,_,_,_=>by
  simp at h; subst h;simp only [Nb,zcv,Hs];rfl
 | f+1,m+1,x,c,h,hf,hm,hc=>by
  simp only [Nb,zcv,Hs];rw [Nat.pow_succ] at h
  by_cases h0:x=0
  ·subst h0
   simp
  ·have e:((x:Int) !=0)=true:=by simp [h0]
   have e2:ishr .u64 (x:Int) 1=((x/2:Nat):Int):=by
    have:=zxe (x:=(x:Int)) 1 (by omega);refine this.trans ?_;omega
   simp only [e,if_neg h0];have ih:=zls R k0 f m (x/2) (c+1) (by omega) (by omega) (by omega) (by omega);rw [wrap_i64 (n:=(c:Int)+1) (by omega) (by omega),e2,show c+(Hs f (x/2)+1)=c+1+Hs f (x/2) by omega];exact ih
def B9 (n:Int):Nat:=Hs 64 (n - 1).toNat
theorem zig {n:Int} (hn:U64 n):B9 n≤64∧n≤2^B9 n∧(2≤n→1≤B9 n∧(2:Int)^(B9 n - 1)<n):=by
 unfold U64 at hn;obtain ⟨h1,h2,h3⟩:=Q6 64 (n - 1).toNat (by omega);unfold B9;generalize Hs 64 (n - 1).toNat=b at*;have e:∀j:Nat,((2^j:Nat):Int)=(2:Int)^j:=fun j=>by simp
 refine ⟨h3,?_,fun h=>⟨?_,?_⟩⟩
 ·rw [←e]; omega
 ·cases b with
  | zero=>rw [Nat.pow_zero] at h1; omega
  | succ b=>omega
 ·have:=h2 (by omega)
  rw [←e]; omega
theorem F225_eq (R:Type) {n:Int} (hn:U64 n) (k:Int→Option R):F225 R n k=k (B9 n:Int):=by
 have hn':=hn;unfold U64 at hn;simp only [F225,p225,F243,p243];have e:IntKind.u64.wrap ((if (1:Int)>n then (1:Int) else n) - 1)=((n - 1).toNat:Int):=by
  split
  ·rw [Aj (by omega) (by omega)]; omega
  ·rw [Aj (by omega) (by omega)]; omega
 rw [e];have:=zls R (fun x1=>k x1) 64 FUEL (n - 1).toNat 0 (by omega) (by omega) (by rw [Am]; omega) (by omega);rw [Nat.zero_add] at this;exact this
def Es (n:Int):Nat→Src→Int×Src×Int
 | 0,s=>(0,s,9)
 | m+1,s=>if (Gy s (B9 n)).2.2=0 then (if (Gy s (B9 n)).1<n then ((Gy s (B9 n)).1,(Gy s (B9 n)).2.1,0) else Es n m (Gy s (B9 n)).2.1) else (0,s,(Gy s (B9 n)).2.2)
theorem T8 {s:Src} (hs:SOK s) (k:Int):SOK (Gy s k).2.1:=by
 unfold Gy;split
 ·rename_i h
  split
  ·rename_i h2
   have hl:=Oy hs;have h0:0≤atS s:=hs.at_.1;have:=Qr hs h.1 (k:=k.toNat) (by omega);refine hs.set ?_;unfold U64;omega
  ·exact hs
 ·exact hs
theorem Qq {s:Src} {k:Nat} (h:(Gy s k).2.2=0):Bi s=true∧k≤64∧(k:Int)≤Ex s∧Gy s k=(Nn s (atS s) k,Cl s (atS s+k),0):=by
 unfold Gy at h;split at h
 ·rename_i h1
  split at h
  ·rename_i h2
   exact ⟨h1.1,by omega,h2,zce h1.1 (by omega) h2⟩
  ·simp at h
 ·simp at h
theorem zly (R:Type) {n:Int} (hn:U64 n) (a:Nat) (ha:a≤64) (x5:Src) (k0:Int→Int→Src→Option R) (k1:Src→Src→Option R):
  ∀(m i:Nat) (s:Src),i≤a→a - i<m→SOK s→(∀y:Src,k1 y x5=k0 0 9 y)→P2 m R n (a:Int) (i:Int) s x5 k0 k1=k0 (Es n (a - i) s).1 (Es n (a - i) s).2.2 (Es n (a - i) s).2.1
 | 0,i,_,_,h,_,_=>by omega
 | m+1,i,s,h1,h2,hs,hk=>by
  simp only [P2,zhs]
  by_cases hi:i<a
  ·have hd:decide ((i:Int)<(a:Int))=true:=by simpa using hi
   simp only [hd];rw [F225_eq R hn,F224_eq R hs,show a - i=(a - (i+1))+1 by omega];simp only [Es];have ih:=zly R hn a ha x5 k0 k1 m (i+1) (Gy s (B9 n)).2.1 (by omega) (by omega) (T8 hs _) hk;generalize Gy s (B9 n)=t at*
   by_cases he:t.2.2=0
   ·have e1:(t.2.2 !=0)=false:=by simp [he]
    simp only [e1,if_pos he]
    by_cases hx:t.1<n
    ·simp only [decide_eq_true hx,if_pos hx]
    ·simp only [decide_eq_false hx,if_neg hx]
     rw [wrap_i64 (n:=(i:Int)+1) (by omega) (by omega)];exact ih
   ·have e1:(t.2.2 !=0)=true:=by simp [he]
    simp only [e1,if_neg he]
  ·have:i=a:=by omega
   subst this;have hd:decide ((i:Int)<(i:Int))=false:=by simp
   simp only [hd,Nat.sub_self,Es];exact hk s
def B3 (s:Src) (n m:Int):Int×Src×Int:=if Bi s=true∧0<n∧n<9223372036854775808∧0<m∧m≤64 then Es n m.toNat s else (0,s,1)
theorem znz (R:Type) {s:Src} (hs:SOK s) {n:Int} (hn:U64 n) (m:Int) (k:Int→Src→Int→Option R):F188 R s n m k=k (B3 s n m).1 (B3 s n m).2.1 (B3 s n m).2.2:=by
 simp only [F188,p188,F223,p223];rw [T0 R hs];unfold B3
 by_cases hr:Bi s=true
 ·simp only [hr,true_and]
  by_cases h1:n>0
  ·simp only [decide_eq_true h1]
   by_cases h2:n<9223372036854775808
   ·simp only [decide_eq_true h2]
    by_cases h3:m>0
    ·simp only [decide_eq_true h3]
     by_cases h4:m≤64
     ·simp only [decide_eq_true h4,Bool.not_true]
      rw [if_pos ⟨h1,h2,h3,h4⟩];obtain ⟨a,rfl⟩:∃a:Nat,m=a:=⟨m.toNat,by omega⟩
      rw [Int.toNat_natCast];exact zly R hn a (by omega) (0,[],0,List.replicate 32 0,0,0,()) (fun x2 x3 x4=>k x2 x4 x3) (fun x5 x6=>k 0 x5 9) FUEL 0 s (by omega) (by rw [Am]; omega) hs (fun y=>rfl)
     ·rw [if_neg (fun h=>h4 h.2.2.2)]
      simp only [decide_eq_false h4,Bool.not_false]
    ·rw [if_neg (fun h=>h3 h.2.2.1)]
     simp only [decide_eq_false h3,Bool.not_false]
   ·rw [if_neg (fun h=>h2 h.2.1)]
    simp only [decide_eq_false h2,Bool.not_false]
  ·rw [if_neg (fun h=>h1 h.1)]
   simp only [decide_eq_false h1,Bool.not_false]
 ·simp only [Bool.not_eq_true] at hr
  simp [hr]
end Go.PG
namespace Go.PG
theorem S6 {n:Int}:∀(m:Nat) (s:Src),(Es n m s).2.2=0→∃j,1≤j∧j≤m∧(Es n m s).1<n∧(Es n m s).2.1=Cl s (atS s+B9 n*j)∧(B9 n*j:Int)≤Ex s∧∀i<j,Es n i s=(0,Cl s (atS s+B9 n*i),9)
 | 0,s,h=>by simp [Es] at h
 | m+1,s,h=>by
  simp only [Es] at h ⊢;split at h
  ·rename_i h1
   obtain ⟨g1,g2,g3,g4⟩:=Qq h1;rw [if_pos h1];split at h
   ·rename_i h2
    rw [if_pos h2];refine ⟨1,by omega,by omega,h2,?_,by omega,fun i hi=>?_⟩
    ·rw [g4]
     show Cl s (atS s+B9 n)=Cl s (atS s+B9 n*((1:Nat):Int));rw [Int.natCast_one,Int.mul_one]
    ·have:i=0:=by omega
     subst this;simp only [Es,Int.natCast_zero,Int.mul_zero,Int.add_zero];rfl
   ·rename_i h2
    rw [if_neg h2];have hmul:∀i:Nat,((B9 n:Nat):Int)*((i+1:Nat):Int)=B9 n+B9 n*i:=fun i=>by
     rw [show ((i+1:Nat):Int)=(i:Int)+1 by omega,Int.mul_add,Int.mul_one,Int.add_comm]
    obtain ⟨j,j1,j2,j3,j4,j5,j6⟩:=S6 m _ h;refine ⟨j+1,by omega,by omega,j3,?_,?_,fun i hi=>?_⟩
    ·rw [j4,g4]
     show Cl (Cl s (atS s+B9 n)) (atS s+B9 n+B9 n*j)=_;rw [Oi,hmul,Int.add_assoc]
    ·rw [g4] at j5
     have hle:Ex (Cl s (atS s+B9 n))≤Ex s - B9 n:=by
      unfold Ex at g3 ⊢;rw [if_pos g1] at g3 ⊢;split
      ·show endS s - (atS s+B9 n)≤endS s - atS s - B9 n
       omega
      ·show 0≤endS s - atS s - B9 n
       have:endS s - s.2.2.2.2.2.1=endS s - atS s:=rfl;omega
     rw [hmul];have j5':(B9 n:Int)*j≤Ex (Cl s (atS s+B9 n)):=j5;omega
    ·cases i with
     | zero=>
      simp only [Es,Int.natCast_zero,Int.mul_zero,Int.add_zero];rfl
     | succ i=>
      have:=j6 i (by omega);simp only [Es];rw [if_pos h1,if_neg h2,this,g4];show (0,Cl (Cl s (atS s+B9 n)) (atS s+B9 n+B9 n*i),9)=_;rw [Oi,hmul,Int.add_assoc]
  ·rename_i h1
   exact absurd h h1
end Go.PG
namespace Go.PG
end Go.PG
namespace Go.PG
end Go.PG
namespace Go.PG
end Go.PG
namespace Go.PG
def sumS (l:List Int) (n:Nat):Int:=(l.take n).sum
theorem Gj (l:List Int):sumS l 0=0:=rfl
theorem B0 {l:List Int} {i:Nat} (h:i<l.length):sumS l (i+1)=sumS l i+l.getD i 0:=by
 unfold sumS;have et:l.take (i+1)=l.take i++[l[i]]:=by rw [List.take_succ_eq_append_getElem h]
 rw [et,List.sum_append];simp [h]
def AllU64 (l:List Int):Prop:=∀x∈l,U64 x
theorem I5:U64 0:=by unfold U64; omega
theorem Uc {l:List Int} (h:AllU64 l) {a:Nat}:∀d:Nat,sumS l a≤sumS l (a+d)
 | 0=>Int.le_refl _
 | d+1=>by
  have ih:=Uc h (a:=a) d
  by_cases hd:a+d<l.length
  ·have:=(Au h I5 (a+d)).1
   rw [←Nat.add_assoc,B0 hd];omega
  ·have e:sumS l (a+(d+1))=sumS l (a+d):=by
    unfold sumS;rw [List.take_of_length_le (by omega),List.take_of_length_le (by omega)]
   rw [e]; exact ih
theorem Dm {l:List Int} (h:AllU64 l) {a b:Nat} (hab:a≤b):sumS l a≤sumS l b:=by
 have:=Uc h (a:=a) (b - a)
 rwa [show a+(b - a)=b by omega] at this
theorem A2 {l:List Int} (h:AllU64 l) (n:Nat):0≤sumS l n:=by
 have:=Dm h (Nat.zero_le n)
 rwa [Gj] at this
def totS (l:List Int):Int:=sumS l l.length
theorem Ed {l:List Int} (h:AllU64 l) (n:Nat):sumS l n≤totS l:=by
 by_cases hn:n≤l.length
 ·exact Dm h hn
 ·unfold totS sumS
  rw [List.take_of_length_le (by omega),List.take_length];exact Int.le_refl _
def lowF:Nat→Nat→Nat
 | 0,_=>1
 | f+1,n=>if n % 2=0 then 2*lowF f (n/2) else 1
def lowN (n:Nat):Nat:=lowF 20 n
def ALLN:List Nat:=List.range' 1 1000
theorem zim:(ALLN.all fun n=>decide (iand .i64 (n:Int) (IntKind.i64.wrap (0 - (n:Int)))=(lowN n:Int))&&decide (1≤lowN n∧lowN n≤n))=true:=by kernel_rfl
theorem M2 {n:Nat} (h1:1≤n) (h2:n≤1000):iand .i64 (n:Int) (IntKind.i64.wrap (0 - (n:Int)))=(lowN n:Int)∧1≤lowN n∧lowN n≤n:=by
 have:=List.all_eq_true.1 zim n (by unfold ALLN; rw [List.mem_range']; exact ⟨n - 1,by omega,by omega⟩);simp only [Bool.and_eq_true,decide_eq_true_eq] at this;exact ⟨this.1,this.2⟩
theorem T2 (R:Type) {n:Nat} (h1:1≤n) (h2:n≤1000) (k:Int→Option R):F138 R (n:Int) k=k (lowN n:Int):=by
 simp only [F138,p138];rw [(M2 h1 h2).1]
theorem zq2 (m:Nat) (h1:1≤m) (h2:m≤500):lowN (2*m)=2*lowN m:=by
 have:(List.range' 1 500).all (fun m=>decide (lowN (2*m)=2*lowN m))=true:=by kernel_rfl
 have:=List.all_eq_true.1 this m (by rw [List.mem_range']; exact ⟨m - 1,by omega,by omega⟩);exact of_decide_eq_true this
theorem zy3 (m:Nat):lowN (2*m+1)=1:=by
 unfold lowN lowF;rw [if_neg (by omega)]
theorem zil:∀(k q:Nat),(2*q+1)*2^k≤1000→lowN ((2*q+1)*2^k)=2^k
 | 0,q,_=>by rw [Nat.pow_zero,Nat.mul_one,zy3]
 | k+1,q,h=>by
  rw [Nat.pow_succ,←Nat.mul_assoc] at h;have hp:0<(2*q+1)*2^k:=Nat.mul_pos (by omega) (Nat.pow_pos (by omega));rw [Nat.pow_succ,←Nat.mul_assoc,Nat.mul_comm _ 2,zq2 _ hp (by omega),zil k q (by omega),Nat.mul_comm]
def Ev (l:List Int) (q:Nat):Int:=sumS l (q+1) - sumS l (q+1 - lowN (q+1))
def Cz (l:List Int):List Int:=(List.range l.length).map (Ev l)
theorem Fl (l:List Int):(Cz l).length=l.length:=by simp [Cz]
theorem T6 {l:List Int} {q:Nat} (h:q<l.length):(Cz l).getD q 0=Ev l q:=by
 simp [Cz,h]
theorem zeu {l:List Int} (h:AllU64 l) (ht:totS l<9223372036854775808) (q:Nat):0≤Ev l q∧Ev l q<9223372036854775808:=by
 have h1:=Dm h (a:=q+1 - lowN (q+1)) (b:=q+1) (by omega);have h2:=A2 h (q+1 - lowN (q+1));have h3:=Ed h (q+1);unfold Ev;omega
theorem zap (R:Type) {l:List Int} (h:AllU64 l) (ht:totS l<9223372036854775808) (hlen:l.length≤500) (k0:Int→Option R) (n0:Nat) (hn0:n0≤l.length):∀(m n:Nat),n≤n0→n<m→Px m R (n:Int) (sumS l n0 - sumS l n) (Cz l,()) k0=k0 (sumS l n0)
 | 0,n,_,h=>by omega
 | m+1,n,h1,h2=>by
  simp only [Px,zhj]
  by_cases hn:n=0
  ·subst hn
   have hd:decide (((0:Nat):Int)>0)=false:=by simp
   simp only [hd,Gj,Int.sub_zero]
  ·have hd:decide ((n:Int)>0)=true:=decide_eq_true (by omega)
   have hl:=M2 (n:=n) (by omega) (by omega);rw [wrap_i64 (n:=(n:Int) - 1) (by omega) (by omega),show (n:Int) - 1=((n - 1:Nat):Int) by omega];have hbn:bnd ((n - 1:Nat):Int) ((Cz l).length:Int)=true:=by rw [Fl]; unfold bnd; simp; omega
   simp only [hd,hbn,Int.toNat_natCast];rw [T6 (by omega),T2 R (by omega) (by omega)];have e:Ev l (n - 1)=sumS l n - sumS l (n - lowN n):=by
    unfold Ev;rw [show n - 1+1=n by omega]
   have q1:=Dm h (a:=n - lowN n) (b:=n) (by omega);have q2:=A2 h (n - lowN n);have q3:=Ed h n0;have q4:=Dm h h1;rw [e,Aj (n:=sumS l n0 - sumS l n+(sumS l n - sumS l (n - lowN n))) (by omega) (by omega),wrap_i64 (n:=(n:Int) - (lowN n:Int)) (by omega) (by omega),show (n:Int) - (lowN n:Int)=((n - lowN n:Nat):Int) by omega,show sumS l n0 - sumS l n+(sumS l n - sumS l (n - lowN n))=sumS l n0 - sumS l (n - lowN n) by omega];exact zap R h ht hlen k0 n0 hn0 m (n - lowN n) (by omega) (by omega)
theorem zbz (R:Type) {l:List Int} (h:AllU64 l) (ht:totS l<9223372036854775808) (hlen:l.length≤500) (k:Int→Option R):F187 R (Cz l,()) k=k (totS l):=by
 simp only [F187,p187,F222,p222,F221,p221,Fl];have:=zap R h ht hlen (fun x1=>k x1) l.length (Nat.le_refl _) FUEL l.length (Nat.le_refl _) (by rw [Am]; omega);rw [Int.sub_self] at this;exact this
def Owns (l:List Int) (x:Int) (i:Nat):Prop:=i<l.length∧sumS l i≤x∧x<sumS l (i+1)
theorem Owns.uniq {l:List Int} (h:AllU64 l) {x:Int} {i j:Nat} (hi:Owns l x i) (hj:Owns l x j):i=j:=by
 obtain ⟨a1,a2,a3⟩:=hi;obtain ⟨b1,b2,b3⟩:=hj;rcases Nat.lt_trichotomy i j with h1 | h1 | h1
 ·have:=Dm h (a:=i+1) (b:=j) (by omega); omega
 ·exact h1
 ·have:=Dm h (a:=j+1) (b:=i) (by omega); omega
theorem Wt (R:Type) {n:Nat} (hn:n≤500) (t:List Int×Unit) (htl:t.1.length=n) (x:Int) (k0:Int→Int→Int→(List Int×Unit)→Option R):∀(m k:Nat),2^k≤n∨k=0→n+2<m+2^k→∃j,n<2^(j+1)∧(2^j≤n∨j=0)∧Nf m R x 0 ((2^k:Nat):Int) t k0=k0 x 0 ((2^j:Nat):Int) t
 | 0,k,h1,h2=>by
  rcases h1 with h1 | rfl
  ·omega
  ·rw [Nat.pow_zero] at h2; omega
 | m+1,k,h1,h2=>by
  simp only [Nf,zhr,F222,p222,htl];have hpp:0<2^k:=Nat.pow_pos (by omega);have hp:2^k≤500:=by
   rcases h1 with h1 | rfl
   ·omega
   ·rw [Nat.pow_zero]; omega
  have e:ishl .i64 ((2^k:Nat):Int) 1=((2^(k+1):Nat):Int):=by
   unfold ishl;rw [show (2:Int)^(min (1:Int).toNat IntKind.i64.bits)=2 by decide,Nat.pow_succ];generalize 2^k=p at*;rw [wrap_i64 (by omega) (by omega)]; omega
  rw [e]
  by_cases hk:2^(k+1)≤n
  ·have hd:decide (((2^(k+1):Nat):Int)≤(n:Int))=true:=decide_eq_true (by omega)
   simp only [hd];exact Wt R hn t htl x k0 m (k+1) (.inl hk) (by rw [Nat.pow_succ]; omega)
  ·have hd:decide (((2^(k+1):Nat):Int)≤(n:Int))=false:=decide_eq_false (by omega)
   simp only [hd];exact ⟨k,by omega,h1,rfl⟩
theorem Ws (R:Type) {l:List Int} (h:AllU64 l) (ht:totS l<9223372036854775808) (hlen:l.length≤400) {x:Int} (hx:0≤x∧x<totS l) (k0:Int→Option R):∀(m k q:Nat),2^(k+1)*q≤l.length→2^k≤500→sumS l (2^(k+1)*q)≤x→(l.length<2^(k+1)*q+2^(k+1)∨x<sumS l (2^(k+1)*q+2^(k+1)))→k+1<m→
  ∃i,Owns l x i∧Ih m R (x - sumS l (2^(k+1)*q)) ((2^(k+1)*q:Nat):Int) ((2^k:Nat):Int) (Cz l,()) k0=k0 (i:Int)
 | 0,_,_,_,_,_,_,h=>by omega
 | m+1,k,q,h1,h2,h3,h4,h5=>by
  have hpp:0<2^k:=Nat.pow_pos (by omega);have e1:2^(k+1)*q=2^k*(2*q):=by rw [Nat.pow_succ,Nat.mul_assoc]
  have hlow:2^(k+1)*q+2^k≤1000→lowN (2^(k+1)*q+2^k)=2^k:=fun hh=>by
   have e2:2^(k+1)*q+2^k=(2*q+1)*2^k:=by rw [e1,Nat.add_mul,Nat.one_mul,Nat.mul_comm (2*q)]
   rw [e2] at hh ⊢;exact zil k q hh
  simp only [Ih,zcw,F222,p222,Fl];have hd:decide (((2^k:Nat):Int)>0)=true:=decide_eq_true (by omega);have eshr:ishr .i64 ((2^k:Nat):Int) 1=((2^k/2:Nat):Int):=by
   unfold ishr;rw [show (2:Int)^(min (1:Int).toNat IntKind.i64.bits)=2 by decide,Int.fdiv_eq_ediv_of_nonneg _ (by omega)];omega
  simp only [hd,eshr];rw [wrap_i64 (n:=((2^(k+1)*q:Nat):Int)+((2^k:Nat):Int)) (by omega) (by omega),show ((2^(k+1)*q:Nat):Int)+((2^k:Nat):Int)=((2^(k+1)*q+2^k:Nat):Int) by omega]
  -- what comes behind,for the next step
  have next:∀(q':Nat) (_:2^k*q'≤l.length) (_:sumS l (2^k*q')≤x) (_:l.length<2^k*q'+2^k∨x<sumS l (2^k*q'+2^k)),
    ∃i,Owns l x i∧Ih m R (x - sumS l (2^k*q')) ((2^k*q':Nat):Int) ((2^k/2:Nat):Int) (Cz l,()) k0=k0 (i:Int):=by
   intro q' g1 g2 g3;cases k with
   | zero=>
    rw [Nat.pow_zero,Nat.one_mul] at g1 g2 g3 ⊢;have hlt:q'<l.length:=by
     refine Classical.byContradiction fun hh=>?_
     have:sumS l q'=totS l:=by
      unfold totS sumS;rw [List.take_of_length_le (by omega),List.take_length]
     omega
    refine ⟨q',⟨hlt,g2,?_⟩,?_⟩
    ·rcases g3 with g3 | g3
     ·have:q'+1=l.length:=by omega
      rw [this]; exact hx.2
     ·exact g3
    ·cases m with
     | zero=>omega
     | succ m=>
      simp only [Ih,zcw];rfl
   | succ k=>
    have e3:2^(k+1)/2=2^k:=by rw [Nat.pow_succ]; omega
    rw [e3];exact Ws R h ht hlen hx k0 m k q' g1 (by rw [Nat.pow_succ] at h2; omega) g2 g3 (by omega)
  by_cases hn:2^(k+1)*q+2^k≤l.length
  ·have hd2:decide (((2^(k+1)*q+2^k:Nat):Int)≤(l.length:Int))=true:=decide_eq_true (by omega)
   have hbn:bnd ((2^(k+1)*q+2^k - 1:Nat):Int) (l.length:Int)=true:=by unfold bnd; simp; omega
   rw [wrap_i64 (n:=((2^(k+1)*q+2^k:Nat):Int) - 1) (by omega) (by omega),show ((2^(k+1)*q+2^k:Nat):Int) - 1=((2^(k+1)*q+2^k - 1:Nat):Int) by omega];simp only [hd2,hbn,Int.toNat_natCast];have en:Ev l (2^(k+1)*q+2^k - 1)=sumS l (2^(k+1)*q+2^k) - sumS l (2^(k+1)*q):=by
    unfold Ev;rw [show 2^(k+1)*q+2^k - 1+1=2^(k+1)*q+2^k by omega,hlow (by omega),Nat.add_sub_cancel]
   have eg:(Cz l).getD (2^(k+1)*q+2^k - 1) 0=sumS l (2^(k+1)*q+2^k) - sumS l (2^(k+1)*q):=by rw [T6 (by omega),en]
   simp only [eg];have q1:=Dm h (a:=2^(k+1)*q) (b:=2^(k+1)*q+2^k) (by omega);have q2:=A2 h (2^(k+1)*q)
   by_cases hle:sumS l (2^(k+1)*q+2^k)≤x
   ·have hd3:decide (sumS l (2^(k+1)*q+2^k) - sumS l (2^(k+1)*q)≤x - sumS l (2^(k+1)*q))=true:=decide_eq_true (by omega)
    simp only [hd3];rw [Aj (n:=x - sumS l (2^(k+1)*q) - (sumS l (2^(k+1)*q+2^k) - sumS l (2^(k+1)*q))) (by omega) (by omega),show x - sumS l (2^(k+1)*q) - (sumS l (2^(k+1)*q+2^k) - sumS l (2^(k+1)*q))=x - sumS l (2^(k+1)*q+2^k) by omega];have e4:2^(k+1)*q+2^k=2^k*(2*q+1):=by rw [e1,Nat.mul_add,Nat.mul_one]
    have e5:2^(k+1)*q+2^(k+1)=2^k*(2*q+1)+2^k:=by
     rw [←e4,Nat.pow_succ]; omega
    rw [e4];rw [e4] at hle hn;rw [e5] at h4;exact next (2*q+1) hn hle h4
   ·have hd3:decide (sumS l (2^(k+1)*q+2^k) - sumS l (2^(k+1)*q)≤x - sumS l (2^(k+1)*q))=false:=decide_eq_false (by omega)
    simp only [hd3];rw [e1] at h1 h3 hle ⊢;exact next (2*q) h1 h3 (.inr (by omega))
  ·have hd2:decide (((2^(k+1)*q+2^k:Nat):Int)≤(l.length:Int))=false:=decide_eq_false (by omega)
   simp only [hd2];rw [e1] at h1 h3 hn ⊢;exact next (2*q) h1 h3 (.inl (by omega))
theorem zd9 (R:Type) {l:List Int} (h:AllU64 l) (ht:totS l<9223372036854775808) (hlen:l.length≤400) {x:Int} (hx:0≤x∧x<totS l) (k:Int→Int→Option R):∃i,Owns l x i∧F189 R (Cz l,()) x k=k (i:Int) 0:=by
 simp only [F189,p189];rw [zbz R h ht (by omega)];have hd:decide (x≥totS l)=false:=decide_eq_false (by omega);simp only [hd];obtain ⟨j,j1,j2,j3⟩:=Wt R (n:=l.length) (by omega) (Cz l,()) (Fl l) x (fun x3 x4 x5 x6=>Ih FUEL R x3 x4 x5 x6 (fun x7=>k x7 0)) FUEL 0 (.inr rfl) (by rw [Am]; omega);have hj:2^j≤500:=by
  rcases j2 with j2 | rfl
  ·omega
  ·rw [Nat.pow_zero]; omega
 have hjm:j≤500:=by have:=Nat.lt_two_pow_self (n:=j); omega
 obtain ⟨i,hi,g⟩:=Ws R h ht hlen hx (fun x7=>k x7 0) FUEL j 0 (by simp) hj (by rw [Nat.mul_zero,Gj]; exact hx.1) (.inl (by omega)) (by rw [Am]; omega);refine ⟨i,hi,?_⟩;rw [Nat.mul_zero,Gj,Int.sub_zero] at g;exact j3.trans g
end Go.PG
namespace Go.PG
def G6 (j:Nat):Nat→Nat
 | 0=>j - lowN j
 | m+1=>if (m+1)+lowN (m+1)=j then m+1 else G6 j m
theorem Zr:((List.range' 1 400).all fun c=>decide (G6 (c+lowN c) (c - 1)=c - lowN c))=true:=by kernel_rfl
theorem Zq:((List.range' 1 400).all fun j=>decide (G6 j (j - 1)=j - 1))=true:=by kernel_rfl
theorem lastA {c:Nat} (h1:1≤c) (h2:c≤400):G6 (c+lowN c) (c - 1)=c - lowN c:=
 of_decide_eq_true (List.all_eq_true.1 Zr c (by rw [List.mem_range']; exact ⟨c - 1,by omega,by omega⟩))
theorem lastB {j:Nat} (h1:1≤j) (h2:j≤400):G6 j (j - 1)=j - 1:=
 of_decide_eq_true (List.all_eq_true.1 Zq j (by rw [List.mem_range']; exact ⟨j - 1,by omega,by omega⟩))
theorem Vf {j:Nat} (h1:1≤j):∀(d:Nat),j+d≤1000→G6 j (j - 1+d)=G6 j (j - 1)
 | 0,_=>rfl
 | d+1,h=>by
  have ih:=Vf h1 d (by omega);rw [show j - 1+(d+1)=(j - 1+d)+1 by omega];simp only [G6];have:=M2 (n:=j - 1+d+1) (by omega) (by omega);rw [if_neg (by omega),ih]
def D5 (l:List Int) (m q:Nat):Int:=sumS l (G6 (q+1) m) - sumS l (q+1 - lowN (q+1))+l.getD q 0
def F1 (l:List Int) (m:Nat):List Int:=(List.range l.length).map (D5 l m)
theorem Qv (l:List Int):F1 l 0=l:=by
 unfold F1 D5;apply List.ext_getElem?;intro i;rw [List.getElem?_map]
 by_cases h:i<l.length
 ·rw [List.getElem?_range h]
  simp [G6,h]
 ·rw [List.getElem?_eq_none (by simp; omega),List.getElem?_eq_none (by omega)]
  rfl
theorem Le {l:List Int} {q m:Nat} (hq:q<l.length) (hl:l.length≤400) (hm:q≤m) (hm2:m≤500):D5 l m q=Ev l q:=by
 unfold D5 Ev;have h1:=lastB (j:=q+1) (by omega) (by omega);have h2:=Vf (j:=q+1) (by omega) (m - q) (by omega);rw [show q+1 - 1+(m - q)=m by omega] at h2;rw [h2,h1,B0 hq];show sumS l (q+1 - 1) - _+_=_;rw [Nat.add_sub_cancel];omega
theorem Qw {l:List Int} (hl:l.length≤400):F1 l l.length=Cz l:=by
 unfold F1 Cz;refine List.map_congr_left (fun q hq=>?_);have hq':q<l.length:=by simpa using hq
 exact Le hq' hl (by omega) (by omega)
theorem U1 (l:List Int) (m:Nat):(F1 l m).length=l.length:=by simp [F1]
theorem Kg {l:List Int} {m q:Nat} (h:q<l.length):(F1 l m).getD q 0=D5 l m q:=by simp [F1,h]
theorem zc7:∀(j m:Nat),G6 j m≤max m (j - lowN j)
 | j,0=>by simp [G6]
 | j,m+1=>by
  have:=zc7 j m;simp only [G6];split<;>omega
theorem zat (R:Type) {l:List Int} (h:AllU64 l) (ht:totS l<9223372036854775808) (hlen:l.length≤200) (x2:List Int×Unit) (k0:(List Int×Unit)→List Int→Option R):∀(m i:Nat),i≤l.length→l.length - i<m→
  Qc m R ((i+1:Nat):Int) x2 (F1 l i) k0=k0 x2 (Cz l)
 | 0,i,_,h=>by omega
 | m+1,i,h1,h2=>by
  simp only [Qc,zh8,U1]
  by_cases hi:i<l.length
  ·have hd:decide (((i+1:Nat):Int)≤(l.length:Int))=true:=decide_eq_true (by omega)
   have hlo:=M2 (n:=i+1) (by omega) (by omega);simp only [hd];rw [T2 R (by omega) (by omega),wrap_i64 (n:=((i+1:Nat):Int)+(lowN (i+1):Int)) (by omega) (by omega),wrap_i64 (n:=((i+1:Nat):Int)+1) (by omega) (by omega),show ((i+1:Nat):Int)+1=((i+1+1:Nat):Int) by omega];have keep:∀q,q+1≠i+1+lowN (i+1)→D5 l (i+1) q=D5 l i q:=fun q hq=>by
    unfold D5;simp only [G6];rw [if_neg (by omega)]
   by_cases hup:i+1+lowN (i+1)≤l.length
   ·have hd2:decide (((i+1:Nat):Int)+(lowN (i+1):Int)≤(l.length:Int))=true:=decide_eq_true (by omega)
    rw [wrap_i64 (n:=((i+1:Nat):Int)+(lowN (i+1):Int) - 1) (by omega) (by omega),wrap_i64 (n:=((i+1:Nat):Int) - 1) (by omega) (by omega),show ((i+1:Nat):Int)+(lowN (i+1):Int) - 1=((i+lowN (i+1):Nat):Int) by omega,show ((i+1:Nat):Int) - 1=(i:Int) by omega];have hb1:bnd ((i+lowN (i+1):Nat):Int) (l.length:Int)=true:=by unfold bnd; simp; omega
    have hb2:bnd (i:Int) (l.length:Int)=true:=by unfold bnd; simp; omega
    simp only [hd2,hb1,hb2,Int.toNat_natCast];rw [Kg (by omega),Kg (by omega)];have q1:D5 l i i=Ev l i:=Le hi (by omega) (Nat.le_refl _) (by omega);have qA:=lastA (c:=i+1) (by omega) (by omega);rw [Nat.add_sub_cancel] at qA;have q2:D5 l i (i+lowN (i+1))+Ev l i=D5 l (i+1) (i+lowN (i+1)):=by
     unfold D5 Ev;rw [show i+lowN (i+1)+1=i+1+lowN (i+1) by omega,qA];simp only [G6,if_true];omega
    have q3:0≤D5 l (i+1) (i+lowN (i+1))∧D5 l (i+1) (i+lowN (i+1))<18446744073709551616:=by
     unfold D5;rw [show i+lowN (i+1)+1=i+1+lowN (i+1) by omega];simp only [G6,if_true];have hlo2:=M2 (n:=i+1+lowN (i+1)) (by omega) (by omega);have a1:=Ed h (i+1);have a2:=A2 h (i+1+lowN (i+1) - lowN (i+1+lowN (i+1)));have a3:=Au h I5 (i+lowN (i+1));have a4:sumS l (i+1+lowN (i+1) - lowN (i+1+lowN (i+1)))≤sumS l (i+1):=by
      have:=zc7 (i+1+lowN (i+1)) i;refine Dm h ?_;have hge:∀m,i+1+lowN (i+1) - lowN (i+1+lowN (i+1))≤G6 (i+1+lowN (i+1)) m∨True:=fun _=>.inr trivial
      have hchk:((List.range' 1 400).all fun c=>decide (c+lowN c - lowN (c+lowN c)≤c))=true:=by kernel_rfl
      exact of_decide_eq_true (List.all_eq_true.1 hchk (i+1) (by rw [List.mem_range']; exact ⟨i,by omega,by omega⟩))
     have a5:=B0 (l:=l) (i:=i+lowN (i+1)) (by omega);have a6:=Ed h (i+lowN (i+1)+1);have a7:=Dm h (a:=i+1) (b:=i+lowN (i+1)) (by omega);unfold U64 at a3;omega
    rw [q1,q2,Aj (by omega) (by omega)];have e:(F1 l i).set (i+lowN (i+1)) (D5 l (i+1) (i+lowN (i+1)))=F1 l (i+1):=by
     apply List.ext_getElem?;intro q;unfold F1;rw [List.getElem?_set,List.getElem?_map,List.getElem?_map];simp only [List.length_map,List.length_range]
     by_cases hq:q<l.length
     ·rw [List.getElem?_range hq]
      by_cases eq:i+lowN (i+1)=q
      ·subst eq
       rw [if_pos rfl,if_pos hq]; rfl
      ·rw [if_neg eq]
       simp only [Option.map_some];rw [keep q (by omega)]
     ·rw [List.getElem?_eq_none (by simp; omega),if_neg (by omega)]
      rfl
    rw [e];exact zat R h ht hlen x2 k0 m (i+1) (by omega) (by omega)
   ·have hd2:decide (((i+1:Nat):Int)+(lowN (i+1):Int)≤(l.length:Int))=false:=decide_eq_false (by omega)
    simp only [hd2];have e:F1 l i=F1 l (i+1):=by
     unfold F1;refine List.map_congr_left (fun q hq=>?_);have hq':q<l.length:=by simpa using hq
     rw [keep q (by omega)]
    rw [e];exact zat R h ht hlen x2 k0 m (i+1) (by omega) (by omega)
  ·have:i=l.length:=by omega
   subst this;have hd:decide (((l.length+1:Nat):Int)≤(l.length:Int))=false:=decide_eq_false (by omega);simp only [hd];rw [Qw (by omega)]
theorem zb1 (R:Type) {a b:Int} (ha:0≤a∧a<9223372036854775808) (hb:U64 b) (k:Int→Bool→Option R):F155 R a b k=(if a+b<9223372036854775808 then k (a+b) true else k 0 false):=by
 unfold U64 at hb;simp only [F155,p155,F197,F196,p196,F226,p226];have hd:decide (0≤a∧0≤b∧(0:Int)≤0∧(0:Int)≤1)=true:=decide_eq_true (by omega);simp only [hd,Int.add_zero]
 by_cases h1:a+b<9223372036854775808
 ·have e1:(a+b)/18446744073709551616=0:=by omega
  have e2:(a+b) % 18446744073709551616=a+b:=by omega
  rw [if_pos h1,e1,e2];have n0:((0:Int) !=0)=false:=rfl;simp only [n0,decide_eq_true h1,Bool.not_true]
 ·rw [if_neg h1]
  by_cases h2:a+b<18446744073709551616
  ·have e1:(a+b)/18446744073709551616=0:=by omega
   have e2:(a+b) % 18446744073709551616=a+b:=by omega
   rw [e1,e2];have n0:((0:Int) !=0)=false:=rfl;simp only [n0,decide_eq_false h1,Bool.not_false]
  ·have e1:((a+b)/18446744073709551616 !=0)=true:=by
    have:¬(a+b)/18446744073709551616=0:=by omega
    simp [this]
   simp only [e1]
theorem zl5 (R:Type) {l:List Int} (h:AllU64 l) (hlen:l.length≤1000000) (k0:Int→Bool→Option R) (k1:Int→Option R):∀(m i:Nat),i≤l.length→l.length - i<m→sumS l i<9223372036854775808→
  Qa m R (sumS l i) l (l.length:Int) (i:Int) k0 k1=(if totS l<9223372036854775808 then k1 (totS l) else k0 0 false)
 | 0,i,_,h,_=>by omega
 | m+1,i,h1,h2,h3=>by
  simp only [Qa,zh3]
  by_cases hi:i<l.length
  ·have hd:decide ((i:Int)<(l.length:Int))=true:=by simpa using hi
   have hbn:bnd (i:Int) (l.length:Int)=true:=by unfold bnd; simp; omega
   simp only [hd,hbn,Int.toNat_natCast];rw [zb1 R ⟨A2 h i,h3⟩ (Au h I5 i),←B0 hi]
   by_cases h4:sumS l (i+1)<9223372036854775808
   ·rw [if_pos h4]
    simp only [Bool.not_true];rw [wrap_i64 (n:=(i:Int)+1) (by omega) (by omega)];exact zl5 R h hlen k0 k1 m (i+1) (by omega) (by omega) h4
   ·rw [if_neg h4,if_neg (by have:=Ed h (i+1); omega)]
    simp only [Bool.not_false]
  ·have:i=l.length:=by omega
   subst this;have hd:decide ((l.length:Int)<(l.length:Int))=false:=by simp
   simp only [hd];rw [if_pos (show totS l<_ from h3)];rfl
theorem My (R:Type) {l:List Int} (h:AllU64 l) (hlen:l.length≤1000000) (k:Int→Bool→Option R):F136 R l k=(if totS l<9223372036854775808 then k (totS l) true else k 0 false):=by
 simp only [F136,p136];exact zl5 R h hlen (fun x2 x3=>k x2 x3) (fun x4=>k x4 true) FUEL 0 (by omega) (by rw [Am]; omega) (by rw [Gj]; decide)
end Go.PG
namespace Go.PG
theorem zeb (R:Type) {l:List Int} (h:AllU64 l) (hlen:l.length≤200) (k:(List Int×Unit)→Int→Option R):F100 R l k=(if totS l<9223372036854775808 then k (Cz l,()) 0 else k ([],()) 11):=by
 simp only [F100,p100];have hd:decide ((l.length:Int)>1048576)=false:=decide_eq_false (by omega);simp only [hd];rw [My R h (by omega)]
 by_cases ht:totS l<9223372036854775808
 ·rw [if_pos ht,if_pos ht]
  simp only [Bool.not_true,F137];have hc:decide (List.length ([]:List Int)+l.length≤17592186044416)=true:=by simp; omega
  simp only [hc];have:=zat R h ht hlen ([],()) (fun x6 x7=>k (x7,()) 0) FUEL 0 (by omega) (by rw [Am]; omega);rw [Qv] at this;exact this
 ·rw [if_neg ht,if_neg ht]
  simp only [Bool.not_false]
def ownN (l:List Int) (x:Int):Nat:=((List.range l.length).find? (fun i=>decide (sumS l i≤x∧x<sumS l (i+1)))).getD 0
theorem Yc {l:List Int} (h:AllU64 l) {x:Int} {i:Nat} (hi:Owns l x i):ownN l x=i:=by
 unfold ownN;cases hf:(List.range l.length).find? (fun i=>decide (sumS l i≤x∧x<sumS l (i+1))) with
 | none=>
  have:=List.find?_eq_none.1 hf i (by simpa using hi.1);simp only [decide_eq_true_eq] at this;exact absurd hi.2 this
 | some j=>
  have h1:=List.find?_some hf;have h2:=List.mem_of_find?_eq_some hf;simp only [decide_eq_true_eq] at h1;have hj:Owns l x j:=⟨by simpa using h2,h1⟩
  exact hj.uniq h hi
def Cn (l:List Int) (s:Src) (m:Int):Int×Src×Int:=
 if totS l<9223372036854775808 then (if totS l=0 then (0,s,10) else if (B3 s (totS l) m).2.2=0 then ((ownN l (B3 s (totS l) m).1:Int),(B3 s (totS l) m).2.1,0) else (0,(B3 s (totS l) m).2.1,(B3 s (totS l) m).2.2)) else (0,s,11)
theorem H5 {n:Int}:∀(m:Nat) (s:Src),0≤(Es n m s).1
 | 0,s=>Int.le_refl _
 | m+1,s=>by
  simp only [Es];split
  ·split
   ·rename_i h _
    obtain ⟨_,_,_,g⟩:=Qq h;rw [g];exact (Jf s (atS s) _).1
   ·exact H5 m _
  ·exact Int.le_refl _
theorem Ll {s:Src} {n m:Int} (h:(B3 s n m).2.2=0):0≤(B3 s n m).1∧(B3 s n m).1<n:=by
 unfold B3 at h ⊢;split at h
 ·rename_i hc
  rw [if_pos hc];obtain ⟨j,_,_,h3,_⟩:=S6 _ _ h;exact ⟨H5 _ _,h3⟩
 ·simp at h
theorem zod (R:Type) {l:List Int} (h:AllU64 l) (hlen:l.length≤200) (ht:totS l<9223372036854775808) {s:Src} (hs:SOK s) (m:Int) (k:Int→Src→Int→Option R):F141 R (Cz l,()) s m k=k (Cn l s m).1 (Cn l s m).2.1 (Cn l s m).2.2:=by
 simp only [F141,p141];rw [zbz R h ht (by omega)];have hnn:=A2 h l.length;unfold Cn;rw [if_pos ht]
 by_cases h0:totS l=0
 ·have e:(totS l==0)=true:=by simp [h0]
  rw [if_pos h0];simp only [e]
 ·have e:(totS l==0)=false:=by simp [h0]
  rw [if_neg h0];simp only [e];rw [znz R hs (show U64 (totS l) from by unfold U64; exact ⟨hnn,by omega⟩)]
  by_cases he:(B3 s (totS l) m).2.2=0
  ·have e1:((B3 s (totS l) m).2.2 !=0)=false:=by simp [he]
   rw [if_pos he];simp only [e1];obtain ⟨i,hi,g⟩:=zd9 R h ht (by omega) (Ll he) (fun y7 y8=>k y7 (B3 s (totS l) m).2.1 y8);rw [g,Yc h hi]
  ·have e1:((B3 s (totS l) m).2.2 !=0)=true:=by simp [he]
   rw [if_neg he];simp only [e1]
end Go.PG
namespace Go.PG
theorem up_ok {c:Nat} (h1:1≤c) (h2:c≤400):c+lowN c - lowN (c+lowN c)≤c - lowN c:=by
 have hchk:((List.range' 1 400).all fun c=>decide (c+lowN c - lowN (c+lowN c)≤c - lowN c))=true:=by kernel_rfl
 exact of_decide_eq_true (List.all_eq_true.1 hchk c (by rw [List.mem_range']; exact ⟨c - 1,by omega,by omega⟩))
theorem zej:((List.range' 1 200).all fun c=>(List.range (lowN c - 1)).all fun d=>decide (c≤c+d+1 - lowN (c+d+1)))=true:=by kernel_rfl
theorem zxc {c d:Nat} (h1:1≤c) (h2:c≤200) (hd:d+1<lowN c):c≤c+d+1 - lowN (c+d+1):=by
 have:=List.all_eq_true.1 zej c (by rw [List.mem_range']; exact ⟨c - 1,by omega,by omega⟩);exact of_decide_eq_true (List.all_eq_true.1 this d (by rw [List.mem_range]; omega))
theorem zas (R:Type) {l:List Int} (h:AllU64 l) (ht:totS l<9223372036854775808) (hlen:l.length≤200) (k0:List Int→Option R):∀(m i:Nat),i≤l.length→i<m→
  Nh m R (i:Int) (F1 l i) k0=k0 l
 | 0,i,_,h=>by omega
 | m+1,0,h1,h2=>by
  simp only [Nh,zcy];have hd:decide (((0:Nat):Int)>0)=false:=by simp
  simp only [hd];rw [Qv]
 | m+1,i+1,h1,h2=>by
  simp only [Nh,zcy,U1];have hd:decide (((i+1:Nat):Int)>0)=true:=decide_eq_true (by omega);have hlo:=M2 (n:=i+1) (by omega) (by omega);simp only [hd];rw [T2 R (by omega) (by omega),wrap_i64 (n:=((i+1:Nat):Int)+(lowN (i+1):Int)) (by omega) (by omega),wrap_i64 (n:=((i+1:Nat):Int) - 1) (by omega) (by omega),show ((i+1:Nat):Int) - 1=(i:Int) by omega];have keep:∀q,q+1≠i+1+lowN (i+1)→D5 l (i+1) q=D5 l i q:=fun q hq=>by
   unfold D5;simp only [G6];rw [if_neg (by omega)]
  by_cases hup:i+1+lowN (i+1)≤l.length
  ·have hd2:decide (((i+1:Nat):Int)+(lowN (i+1):Int)≤(l.length:Int))=true:=decide_eq_true (by omega)
   rw [wrap_i64 (n:=((i+1:Nat):Int)+(lowN (i+1):Int) - 1) (by omega) (by omega),show ((i+1:Nat):Int)+(lowN (i+1):Int) - 1=((i+lowN (i+1):Nat):Int) by omega];have hb1:bnd ((i+lowN (i+1):Nat):Int) (l.length:Int)=true:=by unfold bnd; simp; omega
   have hb2:bnd (i:Int) (l.length:Int)=true:=by unfold bnd; simp; omega
   simp only [hd2,hb1,hb2,Int.toNat_natCast];rw [Kg (by omega),Kg (by omega)];have q1:D5 l (i+1) i=Ev l i:=Le (by omega) (by omega) (by omega) (by omega);have qA:=lastA (c:=i+1) (by omega) (by omega);rw [Nat.add_sub_cancel] at qA;have q2:D5 l (i+1) (i+lowN (i+1)) - Ev l i=D5 l i (i+lowN (i+1)):=by
    unfold D5 Ev;rw [show i+lowN (i+1)+1=i+1+lowN (i+1) by omega,qA];simp only [G6,if_true];omega
   have q3:0≤D5 l i (i+lowN (i+1))∧D5 l i (i+lowN (i+1))<18446744073709551616:=by
    unfold D5;rw [show i+lowN (i+1)+1=i+1+lowN (i+1) by omega,qA];have a1:=Ed h (i+1 - lowN (i+1));have a2:=A2 h (i+1+lowN (i+1) - lowN (i+1+lowN (i+1)));have a3:=Au h I5 (i+lowN (i+1));have a4:sumS l (i+1+lowN (i+1) - lowN (i+1+lowN (i+1)))≤sumS l (i+1 - lowN (i+1)):=Dm h (up_ok (by omega) (by omega));have a5:=B0 (l:=l) (i:=i+lowN (i+1)) (by omega);have a6:=Ed h (i+lowN (i+1)+1);have a7:=Dm h (a:=i+1 - lowN (i+1)) (b:=i+lowN (i+1)) (by omega);unfold U64 at a3;omega
   rw [q1,q2,Aj (by omega) (by omega)];have e:(F1 l (i+1)).set (i+lowN (i+1)) (D5 l i (i+lowN (i+1)))=F1 l i:=by
    apply List.ext_getElem?;intro q;unfold F1;rw [List.getElem?_set,List.getElem?_map,List.getElem?_map];simp only [List.length_map,List.length_range]
    by_cases hq:q<l.length
    ·rw [List.getElem?_range hq]
     by_cases eq:i+lowN (i+1)=q
     ·subst eq
      rw [if_pos rfl,if_pos hq]; rfl
     ·rw [if_neg eq]
      simp only [Option.map_some];rw [keep q (by omega)]
    ·rw [List.getElem?_eq_none (by simp; omega),if_neg (by omega)]
     rfl
   rw [e];exact zas R h ht hlen k0 m i (by omega) (by omega)
  ·have hd2:decide (((i+1:Nat):Int)+(lowN (i+1):Int)≤(l.length:Int))=false:=decide_eq_false (by omega)
   simp only [hd2];have e:F1 l (i+1)=F1 l i:=by
    unfold F1;refine List.map_congr_left (fun q hq=>?_);have hq':q<l.length:=by simpa using hq
    rw [keep q (by omega)]
   rw [e];exact zas R h ht hlen k0 m i (by omega) (by omega)
theorem F140_eq (R:Type) {l:List Int} (h:AllU64 l) (ht:totS l<9223372036854775808) (hlen:l.length≤200) (k:List Int→Option R):F140 R (Cz l,()) k=k l:=by
 simp only [F140,p140,F137];have hc:decide (List.length ([]:List Int)+l.length≤17592186044416)=true:=by simp; omega
 simp only [Fl,hc];have:=zas R h ht hlen (fun x3=>k x3) FUEL l.length (Nat.le_refl _) (by rw [Am]; omega);rw [Qw (by omega)] at this;exact this
theorem znu (R:Type) {l:List Int} (h:AllU64 l) (ht:totS l<9223372036854775808) (hlen:l.length≤500) {n:Nat} (hn:n≤l.length) (k:Int→Option R):F221 R (Cz l,()) (n:Int) k=k (sumS l n):=by
 simp only [F221,p221];have:=zap R h ht hlen (fun x1=>k x1) n hn FUEL n (Nat.le_refl _) (by rw [Am]; omega);rw [Int.sub_self] at this;exact this
theorem F190_eq (R:Type) {l:List Int} (h:AllU64 l) (ht:totS l<9223372036854775808) (hlen:l.length≤500) {i:Nat} (hi:i<l.length) (k:Int→Int→Option R):F190 R (Cz l,()) (i:Int) k=k (l.getD i 0) 0:=by
 simp only [F190,p190,F222,p222,Fl];have d1:decide ((i:Int)<0)=false:=decide_eq_false (by omega);have d2:decide ((i:Int)≥(l.length:Int))=false:=decide_eq_false (by omega);simp only [d1,d2];have hs:=B0 hi;have h0:=Au h I5 i;unfold U64 at h0;rw [wrap_i64 (n:=(i:Int)+1) (by omega) (by omega),show (i:Int)+1=((i+1:Nat):Int) by omega,znu R h ht hlen hi,znu R h ht hlen (by omega),show sumS l (i+1) - sumS l i=l.getD i 0 by omega,Aj (by omega) (by omega)]
theorem R9 {l:List Int} {i:Nat} (hi:i<l.length) (v:Int):∀n:Nat,n≤l.length→sumS (l.set i v) n=sumS l n+(if i<n then v - l.getD i 0 else 0)
 | 0,_=>by simp [Gj]
 | n+1,h=>by
  have ih:=R9 hi v n (by omega);rw [B0 (l:=l.set i v) (by rw [List.length_set]; omega),B0 (l:=l) (by omega),ih]
  by_cases e:i=n
  ·subst e
   have e1:(l.set i v).getD i 0=v:=by simp [List.getD_eq_getElem?_getD,hi]
   rw [e1,if_neg (by omega),if_pos (by omega)];omega
  ·have e1:(l.set i v).getD n 0=l.getD n 0:=by simp [List.getD_eq_getElem?_getD,List.getElem?_set,e]
   rw [e1]
   by_cases e2:i<n
   ·rw [if_pos e2,if_pos (by omega)]; omega
   ·rw [if_neg e2,if_neg (by omega)]; omega
theorem AllU64.set0 {l:List Int} (h:AllU64 l) (i:Nat):AllU64 (l.set i 0):=fun x hx=>by
 rcases List.mem_or_eq_of_mem_set hx with hx | hx
 ·exact h x hx
 ·rw [hx]; exact I5
theorem zw9 {l:List Int} {i:Nat} (hi:i<l.length):totS (l.set i 0)=totS l - l.getD i 0:=by
 have:=R9 hi 0 l.length (Nat.le_refl _);rw [if_pos hi] at this;have e:totS (l.set i 0)=sumS (l.set i 0) l.length:=by unfold totS; rw [List.length_set]
 rw [e,this];show _=sumS l l.length - _
 omega
def setN (l:List Int) (i c q:Nat):Int:=Ev l q - (if q+1<c∧q+1 - lowN (q+1)≤i∧i<q+1 then l.getD i 0 else 0)
def Np (l:List Int) (i c:Nat):List Int:=(List.range l.length).map (setN l i c)
theorem zp4 (l:List Int) (i c:Nat):(Np l i c).length=l.length:=by simp [Np]
theorem zp5 {l:List Int} {i c q:Nat} (h:q<l.length):(Np l i c).getD q 0=setN l i c q:=by simp [Np,h]
theorem zek (l:List Int) (i:Nat):Np l i (i+1)=Cz l:=by
 unfold Np Cz setN;refine List.map_congr_left (fun q _=>?_);rw [if_neg (by omega)]; omega
theorem zgm {l:List Int} {i c:Nat} (hi:i<l.length) (hc:l.length<c):Np l i c=Cz (l.set i 0):=by
 unfold Np Cz;rw [List.length_set];refine List.map_congr_left (fun q hq=>?_);have hq':q<l.length:=by simpa using hq
 unfold setN Ev;rw [R9 hi 0 (q+1) (by omega),R9 hi 0 (q+1 - lowN (q+1)) (by omega)]
 by_cases c1:q+1 - lowN (q+1)≤i∧i<q+1
 ·rw [if_pos ⟨by omega,c1⟩,if_pos c1.2,if_neg (by omega)]; omega
 ·rw [if_neg (fun hh=>c1 hh.2)]
  by_cases c2:i<q+1
  ·rw [if_pos c2,if_pos (by omega)]; omega
  ·rw [if_neg c2,if_neg (by omega)]; omega
theorem zl4 (R:Type) {l:List Int} (h:AllU64 l) (ht:totS l<9223372036854775808) (hlen:l.length≤200) {i:Nat} (hi:i<l.length) (x4:List Int×Unit) (k0:(List Int×Unit)→List Int→Option R):∀(m c:Nat),1≤c→i<c→c - lowN c≤i→c≤400→401 - c<m→
  P9 m R 0 (l.getD i 0) (c:Int) x4 (Np l i c) k0=k0 x4 (Cz (l.set i 0))
 | 0,_,_,_,_,_,hh=>by omega
 | m+1,c,h1,h2,h3,h4,h5=>by
  simp only [P9,zh2,zp4]
  by_cases hc:c≤l.length
  ·have hd:decide ((c:Int)≤(l.length:Int))=true:=decide_eq_true (by omega)
   simp only [hd];have hlo:=M2 (n:=c) h1 (by omega);rw [wrap_i64 (n:=(c:Int) - 1) (by omega) (by omega),show (c:Int) - 1=((c - 1:Nat):Int) by omega];have hb2:bnd ((c - 1:Nat):Int) (l.length:Int)=true:=by unfold bnd; simp; omega
   simp only [hb2,Int.toNat_natCast];rw [zp5 (by omega)];have v:setN l i c (c - 1)=Ev l (c - 1):=by
    unfold setN;rw [if_neg (by omega)]; omega
   rw [v];have hn:=zeu h ht (c - 1);have h0:=(Au h I5 i).1;have hge:l.getD i 0≤Ev l (c - 1):=by
    unfold Ev;rw [show c - 1+1=c by omega];have a1:=Dm h h3;have a2:=B0 hi;have a3:=Dm h (show i+1≤c by omega);omega
   rw [Aj (n:=Ev l (c - 1) - l.getD i 0) (by omega) (by omega),Int.add_zero,Aj (n:=Ev l (c - 1) - l.getD i 0) (by omega) (by omega),T2 R h1 (by omega),wrap_i64 (n:=(c:Int)+(lowN c:Int)) (by omega) (by omega),show (c:Int)+(lowN c:Int)=((c+lowN c:Nat):Int) by omega];have e:(Np l i c).set (c - 1) (Ev l (c - 1) - l.getD i 0)=Np l i (c+lowN c):=by
    apply List.ext_getElem?;intro q;unfold Np;rw [List.getElem?_set,List.getElem?_map,List.getElem?_map];simp only [List.length_map,List.length_range]
    by_cases hq:q<l.length
    ·rw [List.getElem?_range hq]
     by_cases eq:c - 1=q
     ·subst eq
      rw [if_pos rfl,if_pos hq];simp only [Option.map_some];unfold setN;rw [show c - 1+1=c by omega,if_pos (by omega)]
     ·rw [if_neg eq]
      simp only [Option.map_some];unfold setN
      congr 2
      by_cases q1:q+1<c
      ·have a:q+1<c+lowN c:=by omega
       simp [q1,a]
      ·have n1:¬(q+1<c∧q+1 - lowN (q+1)≤i∧i<q+1):=fun hh=>q1 hh.1
       rw [if_neg n1]
       by_cases q2:q+1<c+lowN c
       ·have hsk:=zxc (c:=c) (d:=q - c) h1 (by omega) (by omega)
        rw [show c+(q - c)+1=q+1 by omega] at hsk;rw [if_neg (by omega)]
       ·rw [if_neg (fun hh=>q2 hh.1)]
    ·rw [List.getElem?_eq_none (by simp; omega),if_neg (by omega)]
     rfl
   rw [e];have hup:=up_ok (c:=c) h1 (by omega);exact zl4 R h ht hlen hi x4 k0 m (c+lowN c) (by omega) (by omega) (by omega) (by omega) (by omega)
  ·have hd:decide ((c:Int)≤(l.length:Int))=false:=decide_eq_false (by omega)
   simp only [hd];rw [zgm hi (by omega)]
theorem F142_eq (R:Type) {l:List Int} (h:AllU64 l) (ht:totS l<9223372036854775808) (hlen:l.length≤200) {i:Nat} (hi:i<l.length) (k:(List Int×Unit)→Int→Option R):F142 R (Cz l,()) (i:Int) 0 k=k (Cz (l.set i 0),()) 0:=by
 simp only [F142,p142,F137];rw [F190_eq R h ht (by omega) hi];have n0:((0:Int) !=0)=false:=rfl;simp only [n0];rw [zbz R h ht (by omega)];have h0:=(Au h I5 i).1;have hs:=B0 hi;have ha:=Ed h (i+1);have hz:=A2 h i;rw [Aj (n:=totS l - l.getD i 0) (by omega) (by omega),zb1 R (by omega) I5,if_pos (by omega)];simp only [Bool.not_true];have hc:decide (List.length ([]:List Int)+(Cz l).length≤17592186044416)=true:=by rw [Fl]; simp; omega
 simp only [hc];rw [wrap_i64 (n:=(i:Int)+1) (by omega) (by omega),show (i:Int)+1=((i+1:Nat):Int) by omega];have hlo:=M2 (n:=i+1) (by omega) (by omega);have:=zl4 R h ht hlen hi ([],()) (fun x10 x11=>k (x11,()) 0) FUEL (i+1) (by omega) (by omega) (by omega) (by omega) (by rw [Am]; omega);rw [zek] at this;exact this
end Go.PG
namespace Go.PG
def posN (l:List Int) (i:Nat):Nat:=((l.take i).filter fun x=>decide (x>0)).length
def posS (l:List Int):Int:=(posN l l.length:Int)
theorem Uz {l:List Int} {i:Nat} (h:i<l.length):posN l (i+1)=posN l i+(if l.getD i 0>0 then 1 else 0):=by
 unfold posN;rw [List.take_succ_eq_append_getElem h,List.filter_append,List.length_append];have:l.getD i 0=l[i]:=by simp [h]
 rw [this]
 by_cases e:l[i]>0
 ·rw [if_pos e]; simp [List.filter,e]
 ·rw [if_neg e]; simp [List.filter,e]
theorem zxs (l:List Int) (i:Nat):posN l i≤l.length:=by
 unfold posN;have:=List.length_filter_le (fun x=>decide (x>0)) (l.take i);have:(l.take i).length≤l.length:=by simp; omega
 omega
theorem Tq (R:Type) {l:List Int} (hlen:l.length≤1000000) (k0:Int→Option R):∀(m i:Nat),i≤l.length→l.length - i<m→
  Qb m R (posN l i:Int) l (l.length:Int) (i:Int) k0=k0 (posS l)
 | 0,i,_,h=>by omega
 | m+1,i,h1,h2=>by
  simp only [Qb,zh7]
  by_cases hi:i<l.length
  ·have hd:decide ((i:Int)<(l.length:Int))=true:=decide_eq_true (by omega)
   have hbn:bnd (i:Int) (l.length:Int)=true:=by unfold bnd; simp; omega
   simp only [hd,hbn,Int.toNat_natCast];have hs:=Uz hi;have hle:=zxs l i;have e:(i:Int)+1=((i+1:Nat):Int):=by omega
   by_cases hp:l.getD i 0>0
   ·simp only [decide_eq_true hp]
    rw [if_pos hp] at hs;rw [wrap_i64 (n:=(posN l i:Int)+1) (by omega) (by omega),wrap_i64 (n:=(i:Int)+1) (by omega) (by omega),e,show (posN l i:Int)+1=((posN l (i+1):Nat):Int) by omega];exact Tq R hlen k0 m (i+1) (by omega) (by omega)
   ·simp only [decide_eq_false hp]
    rw [if_neg hp] at hs;rw [wrap_i64 (n:=(i:Int)+1) (by omega) (by omega),e,show posN l i=posN l (i+1) by omega];exact Tq R hlen k0 m (i+1) (by omega) (by omega)
  ·have:i=l.length:=by omega
   subst this;have hd:decide ((l.length:Int)<(l.length:Int))=false:=by simp
   simp only [hd];rfl
theorem zea (R:Type) {l:List Int} (hlen:l.length≤1000000) (k:Int→Option R):F122 R l k=k (posS l):=by
 simp only [F122,p122];exact Tq R hlen (fun x1=>k x1) FUEL 0 (by omega) (by rw [Am]; omega)
theorem zc2 {l:List Int} (h:AllU64 l) (hlen:l.length≤200) (ht:totS l<9223372036854775808) {x:Int} (hx:0≤x∧x<totS l):∃i,Owns l x i∧ownN l x=i:=by
 obtain ⟨i,hi,_⟩:=zd9 Unit h ht (by omega) hx (fun _ _=>none);exact ⟨i,hi,Yc h hi⟩
theorem ztt {s:Src} (hs:SOK s) {n m:Int} (h:(B3 s n m).2.2=0):SOK (B3 s n m).2.1∧atS s≤atS (B3 s n m).2.1∧∃a,(B3 s n m).2.1=Cl s a:=by
 unfold B3 at h ⊢;split at h
 ·rename_i hc
  rw [if_pos hc];obtain ⟨j,_,_,_,j4,j5,_⟩:=S6 _ _ h;rw [j4];obtain ⟨_,_,l3⟩:=Oy hs;have l4:=l3 hc.1;have hb:=hs.bits;have h5:(0:Int)≤(B9 n:Int)*j:=Int.mul_nonneg (by omega) (by omega);have h0:=hs.at_;have hend:endS s<18446744073709551616:=by
   rcases Gm hc.1 with ⟨_,_,_,r⟩ | ⟨_,_,r⟩
   ·rw [r]; unfold U64 at hb; exact hb.2
   ·rw [r]; omega
  change U64 (atS s) at h0
  change atS s+Ex s=endS s at l4
  unfold U64 at h0;exact ⟨hs.set (by unfold U64; omega),by rw [atS_set]; omega,_,rfl⟩
 ·simp at h
theorem zzu {l:List Int} (h:AllU64 l) (hlen:l.length≤200) {s:Src} (hs:SOK s) {m:Int} (he:(Cn l s m).2.2=0):totS l<9223372036854775808∧totS l≠0∧(B3 s (totS l) m).2.2=0∧
  ∃i:Nat,i<l.length∧0<l.getD i 0∧(Cn l s m).1=(i:Int)∧ownN l (B3 s (totS l) m).1=i∧(Cn l s m).2.1=(B3 s (totS l) m).2.1∧SOK (Cn l s m).2.1∧atS s≤atS (Cn l s m).2.1:=by
 unfold Cn at he ⊢
 by_cases ht:totS l<9223372036854775808
 ·rw [if_pos ht] at he ⊢
  by_cases h0:totS l=0
  ·rw [if_pos h0] at he; exact absurd he (by show ¬((10:Int)=0); decide)
  ·rw [if_neg h0] at he ⊢
   by_cases hd:(B3 s (totS l) m).2.2=0
   ·rw [if_pos hd] at he ⊢
    obtain ⟨i,hi,e⟩:=zc2 h hlen ht (Ll hd);have h1:=B0 hi.1;have h2:=hi.2;obtain ⟨s1,s2,_⟩:=ztt hs hd;exact ⟨ht,h0,hd,i,hi.1,by omega,by rw [e],e,rfl,s1,s2⟩
   ·rw [if_neg hd] at he; exact absurd he hd
 ·rw [if_neg ht] at he; exact absurd he (by show ¬((11:Int)=0); decide)
def comF (m:Int):Nat→List Int→Src→List Int→List Int×Src×Int
 | 0,_,s,mem=>(mem,s,0)
 | n+1,l,s,mem=>if (Cn l s m).2.2=0 then comF m n (l.set (Cn l s m).1.toNat 0) (Cn l s m).2.1 (mem++[(Cn l s m).1]) else ([],(Cn l s m).2.1,(Cn l s m).2.2)
theorem zpx {l:List Int} (h:AllU64 l) {i:Nat} (hi:i<l.length):totS (l.set i 0)≤totS l:=by
 rw [zw9 hi];have:=(Au h I5 i).1;omega
theorem zl7 (R:Type) {c m:Int} (x6:Src) (k0:Int→Src→Option R) (k1:Src→List Int→Src→Option R) (K:List Int→Src→Int→Option R) (h0:∀e s,k0 e s=K [] s e) (h1:∀s l,k1 s l x6=K l s 0):
  ∀(n f:Nat) (l:List Int) (s:Src) (mem:List Int),AllU64 l→totS l<9223372036854775808→l.length≤200→SOK s→(mem.length:Int)+n=c→c≤1000→n<f→Nk f R c m (Cz l,()) s mem x6 k0 k1=K (comF m n l s mem).1 (comF m n l s mem).2.1 (comF m n l s mem).2.2
 | _,0,_,_,_,_,_,_,_,_,_,hf=>by omega
 | 0,f+1,l,s,mem,h,ht,hl,hs,hc,hc1,hf=>by
  simp only [Nk,zc1];have hd:decide ((mem.length:Int)<c)=false:=decide_eq_false (by omega);simp only [hd];rw [h1];rfl
 | n+1,f+1,l,s,mem,h,ht,hl,hs,hc,hc1,hf=>by
  simp only [Nk,zc1];have hd:decide ((mem.length:Int)<c)=true:=decide_eq_true (by omega);simp only [hd];rw [zod R h hl ht hs]
  by_cases he:(Cn l s m).2.2=0
  ·obtain ⟨_,_,_,i,i1,_,i3,_,_,i6,_⟩:=zzu h hl hs he
   have e1:((Cn l s m).2.2 !=0)=false:=by simp [he]
   have hcap:∀y:Int,decide (mem.length+List.length [y]≤17592186044416)=true:=fun y=>by simp; omega
   simp only [e1,hcap];simp only [comF];rw [if_pos he,i3,F142_eq R h ht hl i1,Int.toNat_natCast];have n0:((0:Int) !=0)=false:=rfl;simp only [n0];have hd:=zpx h i1;exact zl7 R x6 k0 k1 K h0 h1 n f (l.set i 0) (Cn l s m).2.1 (mem++[(i:Int)]) (h.set0 i) (by omega) (by simpa using hl) i6 (by simp; omega) hc1 (by omega)
  ·have e1:((Cn l s m).2.2 !=0)=true:=by simp [he]
   simp only [e1,comF];rw [if_neg he,h0]
def comR (l:List Int) (c:Int) (s:Src) (m:Int):List Int×Src×Int:=
 if 0≤c∧c≤256∧Bi s=true∧0<m∧m≤64 then (if posS l<c then ([],s,12) else comF m c.toNat l s []) else ([],s,1)
theorem F139_eq (R:Type) {c m:Int} {s:Src} (hs:SOK s) (k:Bool→Option R):F139 R c s m k=k (decide (0≤c∧c≤256∧Bi s=true∧0<m∧m≤64)):=by
 simp only [F139,p139];rw [T0 R hs]
 by_cases h1:c≥0
 ·simp only [decide_eq_true h1]
  by_cases h2:c≤256
  ·simp only [decide_eq_true h2]
   cases h3:Bi s with
   | true=>
    by_cases h4:m>0
    ·simp only [decide_eq_true h4]
     by_cases h5:m≤64
     ·simp [h1,h2,h4,h5]
     ·simp [h5]
    ·have h4':¬(0<m):=h4
     simp [h4']
   | false=>simp
  ·simp [h2]
 ·have h1':¬(0≤c):=h1
  simp [h1']
theorem F101_eq (R:Type) {l:List Int} (h:AllU64 l) (ht:totS l<9223372036854775808) (hl:l.length≤200) {s:Src} (hs:SOK s) (c m:Int) (k:List Int→Src→Int→Option R):F101 R (Cz l,()) c s m k=k (comR l c s m).1 (comR l c s m).2.1 (comR l c s m).2.2:=by
 simp only [F101,p101];rw [F139_eq R hs];unfold comR
 by_cases hm:0≤c∧c≤256∧Bi s=true∧0<m∧m≤64
 ·rw [if_pos hm]
  simp only [decide_eq_true hm,Bool.not_true];rw [F140_eq R h ht hl,zea R (by omega)]
  by_cases hp:posS l<c
  ·simp only [decide_eq_true hp,if_pos hp]
  ·simp only [decide_eq_false hp,if_neg hp]
   exact zl7 R _ _ _ k (fun e s=>rfl) (fun s l=>rfl) c.toNat FUEL l s [] h ht hl hs (by simp; omega) (by omega) (by rw [Am]; omega)
 ·rw [if_neg hm]
  simp only [decide_eq_false hm,Bool.not_false]
def comL (l:List Int) (c:Int) (s:Src) (m:Int):List Int×Src×Int:=if totS l<9223372036854775808 then comR l c s m else ([],s,11)
theorem F63_eq (R:Type) {l:List Int} (h:AllU64 l) (hl:l.length≤200) {s:Src} (hs:SOK s) (c m:Int) (k:List Int→Src→Int→Option R):F63 R c s m l k=k (comL l c s m).1 (comL l c s m).2.1 (comL l c s m).2.2:=by
 simp only [F63,p63];rw [zeb R h hl];unfold comL
 by_cases ht:totS l<9223372036854775808
 ·rw [if_pos ht,if_pos ht]
  have n0:((0:Int) !=0)=false:=rfl;simp only [n0];rw [F101_eq R h ht hl hs]
 ·rw [if_neg ht,if_neg ht]
  rfl
end Go.PG
namespace Go.PG
end Go.PG
namespace Go.PG
end Go.PG
namespace Go.PG
theorem and32 {x:Int} (hx:U64 x):iand .u64 x 4294967295=x % 4294967296:=by
 have:=zjq hx 32 (by omega);simpa using this
theorem shr32 (x:Int):ishr .u64 x 32=x/4294967296:=by
 unfold ishr;rw [show (2:Int)^(min (32:Int).toNat IntKind.u64.bits)=4294967296 by decide,Int.fdiv_eq_ediv_of_nonneg _ (by omega)]
theorem zcs {a b:Int} (ha:0≤a∧a<4294967296) (hb:0≤b∧b<4294967296):0≤a*b∧a*b≤18446744065119617025:=by
 refine ⟨Int.mul_nonneg ha.1 hb.1,?_⟩;have:a*b≤4294967295*4294967295:=Int.mul_le_mul (by omega) (by omega) hb.1 (by omega);omega
theorem zoh (R:Type) {a b:Int} (ha:U64 a) (hb:U64 b) (k:Int→Int→Option R):F105 R a b k=k (a*b/18446744073709551616) (IntKind.u64.wrap (a*b)):=by
 simp only [F105,p105];simp only [shr32];rw [and32 ha,and32 hb];unfold U64 at ha hb;have hx0:0≤a % 4294967296∧a % 4294967296<4294967296:=by omega
 have hx1:0≤a/4294967296∧a/4294967296<4294967296:=by omega
 have hy0:0≤b % 4294967296∧b % 4294967296<4294967296:=by omega
 have hy1:0≤b/4294967296∧b/4294967296<4294967296:=by omega
 have h00:=zcs hx0 hy0;have h10:=zcs hx1 hy0;have h01:=zcs hx0 hy1;have h11:=zcs hx1 hy1;have hab:a*b=(a/4294967296)*(b/4294967296)*18446744073709551616+((a/4294967296)*(b % 4294967296)+(a % 4294967296)*(b/4294967296))*4294967296+(a % 4294967296)*(b % 4294967296):=by
  have e1:a=a % 4294967296+4294967296*(a/4294967296):=(Int.emod_add_mul_ediv a 4294967296).symm;have e2:b=b % 4294967296+4294967296*(b/4294967296):=(Int.emod_add_mul_ediv b 4294967296).symm;generalize a % 4294967296=x0 at*;generalize a/4294967296=x1 at*;generalize b % 4294967296=y0 at*;generalize b/4294967296=y1 at*;subst e1 e2;rw [Int.mul_add,Int.add_mul,Int.add_mul,Int.mul_assoc 4294967296 x1 y0,Int.mul_left_comm x0 4294967296 y1,Int.mul_assoc 4294967296 x1,Int.mul_left_comm x1 4294967296 y1];omega
 generalize (a % 4294967296)*(b % 4294967296)=p00 at*;generalize (a/4294967296)*(b % 4294967296)=p10 at*;generalize (a % 4294967296)*(b/4294967296)=p01 at*;generalize (a/4294967296)*(b/4294967296)=p11 at*;rw [Aj (n:=p00) (by omega) (by omega),Aj (n:=p10) (by omega) (by omega),Aj (n:=p01) (by omega) (by omega),Aj (n:=p11) (by omega) (by omega)];rw [Aj (n:=p10+p00/4294967296) (by omega) (by omega),and32 (by unfold U64; omega)];rw [Aj (n:=(p10+p00/4294967296) % 4294967296+p01) (by omega) (by omega)];rw [Aj (n:=p11+(p10+p00/4294967296)/4294967296) (by omega) (by omega)]
 rw [Aj (n:=p11+(p10+p00/4294967296)/4294967296+((p10+p00/4294967296) % 4294967296+p01)/4294967296) (by omega) (by omega)]
 congr 1
 rw [hab];omega
theorem zns (R:Type) {a b:Int} (ha:U64 a) (hb:U64 b) (k:Int→Bool→Option R):F245 R a b k=(if a*b<9223372036854775808 then k (a*b) true else k 0 false):=by
 simp only [F245,p245];rw [zoh R ha hb];simp only [F196,p196,F226,p226];have h0:0≤a*b:=Int.mul_nonneg ha.1 hb.1;generalize a*b=p at*
 by_cases h1:p<9223372036854775808
 ·have e1:p/18446744073709551616=0:=by omega
  have n0:((0:Int) !=0)=false:=rfl;rw [if_pos h1,e1,Aj (by omega) (by omega)];simp only [n0,decide_eq_true h1,Bool.not_true]
 ·rw [if_neg h1]
  by_cases h2:p<18446744073709551616
  ·have e1:p/18446744073709551616=0:=by omega
   have n0:((0:Int) !=0)=false:=rfl;rw [e1,Aj (by omega) (by omega)];simp only [n0,decide_eq_false h1,Bool.not_false]
  ·have e1:(p/18446744073709551616 !=0)=true:=by
    have:¬p/18446744073709551616=0:=by omega
    simp [this]
   simp only [e1]
abbrev Ii:=Int×(Int×Unit)
abbrev TabA:=Int×(List Ii×Unit)
def badC (t:TabA) (c:Ii):Bool:=decide (c.1>t.1)||(decide (c.2.1<0)||decide (c.2.1≥(t.2.1.length:Int)))
def I7 (t:TabA):Bool:=decide ((t.2.1.length:Int)*t.1<9223372036854775808)&&(!((t.2.1.length:Int)==0)&&(!(t.1==0)&& !(t.2.1.any (badC t))))
theorem F248_eq (R:Type) (c:Ii) (t:TabA) (k:Bool→TabA→Option R):F248 R c t k=k (badC t c) t:=by
 simp only [F248,p248,badC];cases decide (c.1>t.1) with
 | true=>rfl
 | false=>
  cases decide (c.2.1<0) with
  | true=>rfl
  | false=>rfl
theorem Rt (R:Type) (t:TabA) (l:List Ii) (hlen:l.length≤1000000) (k0:Int→TabA→Option R) (k1:TabA→Option R) (K:Bool→TabA→Option R) (h0:∀i:Int,0≤i→k0 i t=K true t) (h1:k1 t=K false t):
  ∀(m i:Nat),i≤l.length→l.length - i<m→Bc m R l (l.length:Int) (i:Int) t k0 k1=K ((l.drop i).any (badC t)) t
 | 0,i,_,h=>by omega
 | m+1,i,h2,h3=>by
  simp only [Bc,Kh]
  by_cases hi:i<l.length
  ·have hd:decide ((i:Int)<(l.length:Int))=true:=by simpa using hi
   have hbn:bnd (i:Int) (l.length:Int)=true:=by unfold bnd; simp; omega
   simp only [hd,hbn,Int.toNat_natCast];rw [F248_eq,List.drop_eq_getElem_cons hi,List.any_cons];have hg:l.getD i ((0:Int),(0:Int),())=l[i]:=by simp [hi]
   rw [hg];cases hb:badC t l[i] with
   | true=>simpa using h0 (i:Int) (by omega)
   | false=>
    simp only [Bool.false_or];rw [wrap_i64 (n:=(i:Int)+1) (by omega) (by omega)];exact Rt R t l hlen k0 k1 K h0 h1 m (i+1) (by omega) (by omega)
  ·have:i=l.length:=by omega
   subst this;have hd:decide ((l.length:Int)<(l.length:Int))=false:=by simp
   simp only [hd];rw [h1,List.drop_length];rfl
theorem Ty (R:Type) {t:TabA} (ht:U64 t.1) (hlen:t.2.1.length≤1000) (k:Bool→Option R):F232 R t k=k (I7 t):=by
 simp only [F232,p232];rw [Aj (n:=(t.2.1.length:Int)) (by omega) (by omega),zns R (by unfold U64; omega) ht];unfold I7
 by_cases h1:(t.2.1.length:Int)*t.1<9223372036854775808
 ·rw [if_pos h1]
  simp only [decide_eq_true h1,Bool.not_true,Bool.true_and];cases e1:((t.2.1.length:Int)==0) with
  | true=>rfl
  | false=>
   cases e2:(t.1==0) with
   | true=>rfl
   | false=>
    simp only [Bool.not_false,Bool.true_and,D7,X5,Dr,X4];have:=Rt R t t.2.1 (by omega) (fun x2 x3=>k !decide (x2≥0)) (fun x4=>k !decide ((-1:Int)≥0)) (fun b _=>k !b) (fun i hi=>by simp [hi]) (by rfl) FUEL 0 (by omega) (by rw [Am]; omega);simpa using this
 ·rw [if_neg h1]
  simp only [decide_eq_false h1,Bool.not_false,Bool.false_and]
theorem Sg {t:TabA} (h:I7 t=true):(t.2.1.length:Int)*t.1<9223372036854775808∧t.2.1.length≠0∧t.1≠0∧∀c∈t.2.1,c.1≤t.1∧0≤c.2.1∧c.2.1<(t.2.1.length:Int):=by
 simp only [I7,Bool.and_eq_true,Bool.not_eq_true',decide_eq_true_eq] at h;obtain ⟨h1,h2,h3,h4⟩:=h;refine ⟨h1,fun e=>by simp [e] at h2,fun e=>by simp [e] at h3,fun c hc=>?_⟩;have:=List.any_eq_false.1 h4 c hc;simp only [badC,Bool.not_eq_true,Bool.or_eq_false_iff,decide_eq_false_iff_not] at this;omega
theorem znt (R:Type) {t:TabA} (ht:U64 t.1) (hlen:t.2.1.length≤1000) (k:Int→Option R):F233 R t k=k (if I7 t=true then (t.2.1.length:Int)*t.1 else 0):=by
 simp only [F233,p233];rw [Ty R ht hlen];cases h:I7 t with
 | false=>rfl
 | true=>
  obtain ⟨h1,h2,h3,h4⟩:=Sg h;have h0:0≤(t.2.1.length:Int)*t.1:=Int.mul_nonneg (by omega) ht.1;simp only [Bool.not_true,if_true];rw [Aj (n:=(t.2.1.length:Int)) (by omega) (by omega),Aj h0 (by omega)]
def ownT (t:TabA) (u:Int):Int:=if u % t.1<(t.2.1.getD (u/t.1).toNat (0,0,())).1 then u/t.1 else (t.2.1.getD (u/t.1).toNat (0,0,())).2.1
theorem col_T {t:TabA} (ht:U64 t.1) (h:I7 t=true) {u:Int} (hu:0≤u∧u<(t.2.1.length:Int)*t.1):0≤u/t.1∧u/t.1<(t.2.1.length:Int)∧0≤u % t.1∧u % t.1<t.1:=by
 obtain ⟨h1,h2,h3,h4⟩:=Sg h;have hp:0<t.1:=by have:=ht.1; omega
 exact ⟨Int.ediv_nonneg hu.1 (by omega),Int.ediv_lt_of_lt_mul hp hu.2,Int.emod_nonneg _ h3,Int.emod_lt_of_pos _ hp⟩
theorem F234_eq (R:Type) {t:TabA} (ht:U64 t.1) (hlen:t.2.1.length≤1000) (h:I7 t=true) {u:Int} (hu:0≤u∧u<(t.2.1.length:Int)*t.1) (k:Int→Int→Option R):F234 R t u k=k (ownT t u) 0:=by
 simp only [F234,p234];rw [Ty R ht hlen];simp only [h,Bool.not_true];rw [znt R ht hlen];obtain ⟨h1,h2,h3,h4⟩:=Sg h;obtain ⟨c1,c2,c3,c4⟩:=col_T ht h hu;have e0:(t.1==0)=false:=by simp [h3]
 have ed:decide (u≥(t.2.1.length:Int)*t.1)=false:=decide_eq_false (by omega);simp only [h,if_true,ed,e0,Bool.not_false];rw [Int.tdiv_eq_ediv_of_nonneg hu.1,Int.tmod_eq_emod_of_nonneg hu.1,Aj (n:=u/t.1) c1 (by omega),wrap_i64 (n:=u/t.1) (by omega) (by omega)];simp only [F249,p249,F256,p256];rw [Ty R ht hlen];have d1:decide (u/t.1<0)=false:=decide_eq_false (by omega);have d2:decide (u/t.1≥(t.2.1.length:Int))=false:=decide_eq_false (by omega);have d3:decide (u % t.1≥t.1)=false:=decide_eq_false (by omega);have d4:bnd (u/t.1) (t.2.1.length:Int)=true:=by unfold bnd; simp; omega
 have n0:((0:Int) !=0)=false:=rfl;simp only [h,Bool.not_true,d1,d2,n0,d3,d4];unfold ownT
 by_cases hc:u % t.1<(t.2.1.getD (u/t.1).toNat (0,0,())).1
 ·rw [if_pos hc]
  simp only [decide_eq_false (show ¬(u % t.1≥(t.2.1.getD (u/t.1).toNat (0,0,())).1) by omega)]
 ·rw [if_neg hc]
  simp only [decide_eq_true (show (u % t.1≥(t.2.1.getD (u/t.1).toNat (0,0,())).1) by omega)]
def zhb (t:TabA) (s:Src) (m:Int):Int×Src×Int:=
 if I7 t=true then (if (B3 s ((t.2.1.length:Int)*t.1) m).2.2=0 then (ownT t (B3 s ((t.2.1.length:Int)*t.1) m).1,(B3 s ((t.2.1.length:Int)*t.1) m).2.1,0)
  else (0,(B3 s ((t.2.1.length:Int)*t.1) m).2.1,(B3 s ((t.2.1.length:Int)*t.1) m).2.2)) else (0,s,1)
theorem F208_eq (R:Type) {t:TabA} (ht:U64 t.1) (hlen:t.2.1.length≤1000) {s:Src} (hs:SOK s) (m:Int) (k:Int→Src→Int→Option R):F208 R t s m k=k (zhb t s m).1 (zhb t s m).2.1 (zhb t s m).2.2:=by
 simp only [F208,p208];rw [Ty R ht hlen];unfold zhb;cases h:I7 t with
 | false=>rfl
 | true=>
  obtain ⟨h1,h2,h3,h4⟩:=Sg h;have h0:0≤(t.2.1.length:Int)*t.1:=Int.mul_nonneg (by omega) ht.1;simp only [Bool.not_true,if_true];rw [znt R ht hlen];simp only [h,if_true];rw [znz R hs (show U64 ((t.2.1.length:Int)*t.1) from by unfold U64; omega)]
  by_cases he:(B3 s ((t.2.1.length:Int)*t.1) m).2.2=0
  ·have e1:((B3 s ((t.2.1.length:Int)*t.1) m).2.2 !=0)=false:=by simp [he]
   rw [if_pos he];simp only [e1];rw [F234_eq R ht hlen h (Ll he)]
  ·have e1:((B3 s ((t.2.1.length:Int)*t.1) m).2.2 !=0)=true:=by simp [he]
   rw [if_neg he];simp only [e1]
end Go.PG
namespace Go.PG
def popI (l:List Int):Int:=l.getD (l.length - 1) 0
def cutL (l:List Int):List Int:=l.take (l.length - 1)
theorem zqi (a:List Int) (x:Int):popI (a++[x])=x:=by simp [popI]
theorem ztv (a:List Int) (x:Int):cutL (a++[x])=a:=by simp [cutL]
theorem Sb {l:List Int} (h:l.length≠0):∃a x,l=a++[x]:=by
 rcases List.eq_nil_or_concat l with rfl | ⟨a,x,rfl⟩
 ·simp at h
 ·exact ⟨a,x,by simp⟩
def Gk (T:Int) (h:List Int) (i k:Int):List Int:=h.set k.toNat (h.getD k.toNat 0 - (T - h.getD i.toNat 0))
def runA (T:Int):Nat→List Int→List Ii→List Int→List Int→List Int×(List Ii×(List Int×List Int))
 | 0,h,c,sm,la=>(h,c,sm,la)
 | f+1,h,c,sm,la=>if sm.length=0∨la.length=0 then (h,c,sm,la) else
   if (Gk T h (popI sm) (popI la)).getD (popI la).toNat 0<T then runA T f (Gk T h (popI sm) (popI la)) (c.set (popI sm).toNat (h.getD (popI sm).toNat 0,popI la,())) (cutL sm++[popI la]) (cutL la)
   else runA T f (Gk T h (popI sm) (popI la)) (c.set (popI sm).toNat (h.getD (popI sm).toNat 0,popI la,())) (cutL sm) (cutL la++[popI la])
structure IA (T:Int) (n:Nat) (h:List Int) (c:List Ii) (sm la:List Int):Prop where
 hl:h.length=n
 cl:c.length=n
 ix:∀x∈sm++la,0≤x∧x<(n:Int)
 nd:(sm++la).Nodup
 sml:∀x∈sm,0≤h.getD x.toNat 0∧h.getD x.toNat 0<T
 lrg:∀x∈la,T≤h.getD x.toNat 0∧h.getD x.toNat 0<9223372036854775808
theorem Vj (h:List Int) {i j:Nat} (v:Int) (hij:i≠j):(h.set i v).getD j 0=h.getD j 0:=by
 simp [List.getD_eq_getElem?_getD,List.getElem?_set,hij]
theorem M4 (h:List Int) {i:Nat} (v:Int) (hi:i<h.length):(h.set i v).getD i 0=v:=by
 simp [List.getD_eq_getElem?_getD,hi]
theorem perm1 (s0 l0:List Int) (i k:Int):((s0++[i])++(l0++[k])).Perm (i::((s0++[k])++l0)):=by
 rw [List.append_assoc,List.append_assoc];refine List.perm_middle.trans (.cons i (List.Perm.append_left s0 ?_));exact (List.perm_append_comm:(l0++[k]).Perm ([k]++l0))
theorem perm2 (s0 l0:List Int) (i k:Int):((s0++[i])++(l0++[k])).Perm (i::(s0++(l0++[k]))):=by
 rw [List.append_assoc];exact List.perm_middle
theorem IA.facts {T:Int} {n:Nat} {h:List Int} {c:List Ii} {s0 l0:List Int} {i k:Int} (hI:IA T n h c (s0++[i]) (l0++[k])):
  (0≤i∧i<(n:Int))∧(0≤k∧k<(n:Int))∧i≠k∧(∀x∈s0,x≠i∧x≠k∧0≤x)∧(∀x∈l0,x≠i∧x≠k∧0≤x):=by
 have hn:=(perm1 s0 l0 i k).nodup_iff.1 hI.nd;rw [List.nodup_cons] at hn;obtain ⟨h1,h2⟩:=hn;have h3:(k::(s0++l0)).Nodup:=by
  rw [List.append_assoc] at h2;exact (List.perm_middle (l₁:=s0) (l₂:=l0) (a:=k)).nodup_iff.1 h2
 rw [List.nodup_cons] at h3;have hm:∀x,x∈s0∨x∈l0→x≠i∧x≠k∧0≤x:=fun x hx=>by
  refine ⟨fun e=>h1 ?_,fun e=>h3.1 ?_,(hI.ix x ?_).1⟩
  ·subst e; simp; rcases hx with hx | hx<;>simp [hx]
  ·subst e; simpa using hx
  ·simp; rcases hx with hx | hx<;>simp [hx]
 refine ⟨hI.ix i (by simp),hI.ix k (by simp),fun e=>h1 ?_,fun x hx=>hm x (.inl hx),fun x hx=>hm x (.inr hx)⟩;subst e; simp
theorem IA.step {T:Int} {n:Nat} {h:List Int} {c:List Ii} {s0 l0:List Int} {i k:Int} (hI:IA T n h c (s0++[i]) (l0++[k])):
  (0≤(Gk T h i k).getD k.toNat 0∧(Gk T h i k).getD k.toNat 0<9223372036854775808∧(Gk T h i k).getD k.toNat 0=h.getD k.toNat 0 - (T - h.getD i.toNat 0))∧
  ((Gk T h i k).getD k.toNat 0<T→IA T n (Gk T h i k) (c.set i.toNat (h.getD i.toNat 0,k,())) (s0++[k]) l0)∧
  (¬(Gk T h i k).getD k.toNat 0<T→IA T n (Gk T h i k) (c.set i.toNat (h.getD i.toNat 0,k,())) s0 (l0++[k])):=by
 obtain ⟨hi,hk,hik,hs,hl⟩:=hI.facts;have hkl:k.toNat<h.length:=by rw [hI.hl]; omega
 have ek:(Gk T h i k).getD k.toNat 0=h.getD k.toNat 0 - (T - h.getD i.toNat 0):=M4 h _ hkl;have b1:=hI.sml i (by simp);have b2:=hI.lrg k (by simp);have same:∀x:Int,0≤x→x≠k→(Gk T h i k).getD x.toNat 0=h.getD x.toNat 0:=fun x h0 hx=>Vj h _ (by omega)
 have hn1:=((perm1 s0 l0 i k).nodup_iff.1 hI.nd)
 have hn2:=((perm2 s0 l0 i k).nodup_iff.1 hI.nd)
 rw [List.nodup_cons] at hn1 hn2;refine ⟨⟨by omega,by omega,ek⟩,fun hlt=>⟨by simp [Gk,hI.hl],by simp [hI.cl],fun x hx=>hI.ix x ?_,hn1.2,fun x hx=>?_,fun x hx=>?_⟩,fun hge=>⟨by simp [Gk,hI.hl],by simp [hI.cl],fun x hx=>hI.ix x ?_,hn2.2,fun x hx=>?_,fun x hx=>?_⟩⟩
 ·simp at hx ⊢; rcases hx with hx | hx | hx<;>simp [hx]
 ·rcases List.mem_append.1 hx with hx | hx
  ·have:=hs x hx
   rw [same x this.2.2 this.2.1]; exact hI.sml x (by simp [hx])
  ·simp at hx; subst hx; omega
 ·have:=hl x hx
  rw [same x this.2.2 this.2.1]; exact hI.lrg x (by simp [hx])
 ·simp at hx ⊢; rcases hx with hx | hx | hx<;>simp [hx]
 ·have:=hs x hx
  rw [same x this.2.2 this.2.1]; exact hI.sml x (by simp [hx])
 ·rcases List.mem_append.1 hx with hx | hx
  ·have:=hl x hx
   rw [same x this.2.2 this.2.1]; exact hI.lrg x (by simp [hx])
  ·simp at hx; subst hx; omega
theorem Ul {T:Int} {f:Nat} {h:List Int} {c:List Ii} {s0 l0:List Int} {i k:Int}:runA T (f+1) h c (s0++[i]) (l0++[k])=
  if (Gk T h i k).getD k.toNat 0<T then runA T f (Gk T h i k) (c.set i.toNat (h.getD i.toNat 0,k,())) (s0++[k]) l0 else runA T f (Gk T h i k) (c.set i.toNat (h.getD i.toNat 0,k,())) s0 (l0++[k]):=by
 simp only [runA,zqi,ztv];rw [if_neg (by simp)]
theorem Ok {T:Int} {f:Nat} {h:List Int} {c:List Ii} {sm la:List Int} (hs:sm.length=0∨la.length=0):runA T f h c sm la=(h,c,sm,la):=by
 cases f with
 | zero=>rfl
 | succ f=>simp only [runA]; rw [if_pos hs]
theorem Mu (R:Type) {T:Int} {n:Nat} (hT:0<T∧T<9223372036854775808) (hn:n≤1000) (x1:TabA) (k0:TabA→List Int→List Ii→List Int→List Int→(Int×Unit)→Option R):
  ∀(f m:Nat) (h:List Int) (c:List Ii) (sm la:List Int),IA T n h c sm la→sm.length+la.length≤f→f≤10000→f<m→
   Gi m R x1 h c sm la (T,()) k0=k0 x1 (runA T f h c sm la).1 (runA T f h c sm la).2.1 (runA T f h c sm la).2.2.1 (runA T f h c sm la).2.2.2 (T,())
 | f,0,_,_,_,_,_,_,_,hm=>by omega
 | f,m+1,h,c,sm,la,hI,hf,hf2,hm=>by
  simp only [Gi,X6]
  by_cases hs:sm.length=0
  ·have hd:decide ((sm.length:Int)>0)=false:=decide_eq_false (by omega)
   simp only [hd];rw [Ok (.inl hs)]
  ·have hd:decide ((sm.length:Int)>0)=true:=decide_eq_true (by omega)
   simp only [hd]
   by_cases hl:la.length=0
   ·have hd:decide ((la.length:Int)>0)=false:=decide_eq_false (by omega)
    simp only [hd];rw [Ok (.inr hl)]
   ·have hd:decide ((la.length:Int)>0)=true:=decide_eq_true (by omega)
    simp only [hd];obtain ⟨s0,i,rfl⟩:=Sb hs;obtain ⟨l0,k,rfl⟩:=Sb hl;obtain ⟨hi,hk,hik,hms,hml⟩:=hI.facts;obtain ⟨⟨e0,e1,e2⟩,st1,st2⟩:=hI.step;have b1:=hI.sml i (by simp);have b2:=hI.lrg k (by simp);have ls:((s0++[i]).length:Int)=(s0.length:Int)+1:=by simp
    have ll:((l0++[k]).length:Int)=(l0.length:Int)+1:=by simp
    simp only [List.length_append,List.length_cons,List.length_nil] at hf;rw [ls,ll,show (s0.length:Int)+1 - 1=(s0.length:Int) by omega,show (l0.length:Int)+1 - 1=(l0.length:Int) by omega,wrap_i64 (n:=(s0.length:Int)) (by omega) (by omega),wrap_i64 (n:=(l0.length:Int)) (by omega) (by omega)];have d1:bnd (s0.length:Int) ((s0.length:Int)+1)=true:=by unfold bnd; simp; omega
    have d2:bnd (l0.length:Int) ((l0.length:Int)+1)=true:=by unfold bnd; simp; omega
    have d3:decide (0≤(s0.length:Int)∧(s0.length:Int)≤(s0.length:Int)+1)=true:=decide_eq_true (by omega);have d4:decide (0≤(l0.length:Int)∧(l0.length:Int)≤(l0.length:Int)+1)=true:=decide_eq_true (by omega);have g1:(s0++[i]).getD s0.length 0=i:=by simp
    have g2:(l0++[k]).getD l0.length 0=k:=by simp
    have t1:(s0++[i]).take s0.length=s0:=by simp
    have t2:(l0++[k]).take l0.length=l0:=by simp
    have d5:bnd i (h.length:Int)=true:=by rw [hI.hl]; unfold bnd; simp; omega
    have d6:bnd i (c.length:Int)=true:=by rw [hI.cl]; unfold bnd; simp; omega
    have d7:bnd k (h.length:Int)=true:=by rw [hI.hl]; unfold bnd; simp; omega
    simp only [d1,d2,d3,d4,Int.toNat_natCast,g1,g2,t1,t2,d5,d6,d7,List.length_set];rw [Aj (n:=T - h.getD i.toNat 0) (by omega) (by omega),Aj (n:=h.getD k.toNat 0 - (T - h.getD i.toNat 0)) (by omega) (by omega)]
    change (match decide ((Gk T h i k).getD k.toNat 0<T) with
     | true=>_
     | false=>_)=_
    cases f with
    | zero=>omega
    | succ f=>
     rw [Ul]
     by_cases hlt:(Gk T h i k).getD k.toNat 0<T
     ·have dc:decide (s0.length+[k].length≤17592186044416)=true:=decide_eq_true (by simp; omega)
      rw [if_pos hlt];simp only [decide_eq_true hlt,dc];exact Mu R hT hn x1 k0 f m _ _ _ _ (st1 hlt) (by simp; omega) (by omega) (by omega)
     ·have dc:decide (l0.length+[k].length≤17592186044416)=true:=decide_eq_true (by simp; omega)
      rw [if_neg hlt];simp only [decide_eq_false hlt,dc];exact Mu R hT hn x1 k0 f m _ _ _ _ (st2 hlt) (by simp; omega) (by omega) (by omega)
end Go.PG
namespace Go.PG
theorem zgl {α:Type} (A:List α) (z v:α) (m:Nat) {i:Nat} (hi:A.length=i):(A++List.replicate (m+1) z).set i v=A++[v]++List.replicate m z:=by
 subst hi;rw [List.set_append_right _ _ (Nat.le_refl _),Nat.sub_self,List.replicate_succ,List.set_cons_zero];simp
def hasP (n:Int) (l:List Int) (i:Nat):List Int:=(l.take i).map (fun v=>n*v)++List.replicate (l.length - i) 0
def ceP (T:Int) (i:Nat):List Ii:=(List.range i).map (fun j:Nat=>(T,(j:Int),()))
def smP (T n:Int) (l:List Int) (i:Nat):List Int:=((List.range i).filter (fun j=>decide (n*l.getD j 0<T))).map (fun j:Nat=>(j:Int))
def laP (T n:Int) (l:List Int) (i:Nat):List Int:=((List.range i).filter (fun j=> !decide (n*l.getD j 0<T))).map (fun j:Nat=>(j:Int))
theorem N2 {n:Int} {l:List Int} {i:Nat} (h:i≤l.length):(hasP n l i).length=l.length:=by simp [hasP]; omega
theorem zc9 {n:Int} {l:List Int} {i:Nat} (h:i<l.length):(hasP n l i).set i (n*l.getD i 0)=hasP n l (i+1):=by
 unfold hasP;rw [show l.length - i=(l.length - (i+1))+1 by omega,zgl _ _ _ _ (by simp; omega),List.take_succ_eq_append_getElem h,List.map_append];simp only [List.getD_eq_getElem?_getD,List.getElem?_eq_getElem h,Option.getD_some,List.map_cons,List.map_nil]
theorem ztx (T:Int) (i:Nat):ceP T i++[(T,(i:Int),())]=ceP T (i+1):=by simp [ceP,List.range_succ]
theorem zuh {T n:Int} {l:List Int} {i:Nat} (h:n*l.getD i 0<T):smP T n l i++[(i:Int)]=smP T n l (i+1)∧laP T n l i=laP T n l (i+1):=by
 unfold smP laP;rw [List.range_succ,List.filter_append,List.filter_append,List.map_append,List.map_append];have e1:[i].filter (fun j=>decide (n*l.getD j 0<T))=[i]:=by rw [List.filter_cons,if_pos (decide_eq_true h)]; rfl
 have e2:[i].filter (fun j=> !decide (n*l.getD j 0<T))=[]:=by rw [List.filter_cons,if_neg (by simp only [decide_eq_true h]; simp)]; rfl
 rw [e1,e2];simp
theorem zui {T n:Int} {l:List Int} {i:Nat} (h:¬n*l.getD i 0<T):smP T n l i=smP T n l (i+1)∧laP T n l i++[(i:Int)]=laP T n l (i+1):=by
 unfold smP laP;rw [List.range_succ,List.filter_append,List.filter_append,List.map_append,List.map_append];have e1:[i].filter (fun j=>decide (n*l.getD j 0<T))=[]:=by rw [List.filter_cons,if_neg (by simp only [decide_eq_false h]; simp)]; rfl
 have e2:[i].filter (fun j=> !decide (n*l.getD j 0<T))=[i]:=by rw [List.filter_cons,if_pos (by simp only [decide_eq_false h]; simp)]; rfl
 rw [e1,e2];simp
theorem zgg (T n:Int) (l:List Int) (i:Nat):(smP T n l i).length+(laP T n l i).length≤i:=by
 induction i with
 | zero=>simp [smP,laP]
 | succ i ih=>
  by_cases h:n*l.getD i 0<T
  ·obtain ⟨h1,h2⟩:=zuh h
   rw [←h1,←h2]; simp; omega
  ·obtain ⟨h1,h2⟩:=zui h
   rw [←h1,←h2]; simp; omega
theorem ze9 {l:List Int} (h:AllU64 l) (i:Nat):l.getD i 0≤totS l:=by
 by_cases hi:i<l.length
 ·have h1:=B0 hi
  have h2:=A2 h i;have h3:=Ed h (i+1);omega
 ·have:l.getD i 0=0:=by simp [List.getD_eq_getElem?_getD,List.getElem?_eq_none (show l.length≤i by omega)]
  rw [this];exact A2 h l.length
theorem X3 {l:List Int} (h:AllU64 l) (hb:(l.length:Int)*totS l<9223372036854775808) (i:Nat):0≤(l.length:Int)*l.getD i 0∧(l.length:Int)*l.getD i 0<9223372036854775808:=by
 have h1:=(Au h I5 i).1;have h2:=ze9 h i;have h3:(l.length:Int)*l.getD i 0≤(l.length:Int)*totS l:=Int.mul_le_mul_of_nonneg_left h2 (by omega);exact ⟨Int.mul_nonneg (by omega) h1,by omega⟩
theorem P0 (R:Type) {l:List Int} (h:AllU64 l) (hlen:l.length≤1000) {T:Int} (hb:(l.length:Int)*totS l<9223372036854775808) (x6:TabA) (k0:TabA→List Int→List Ii→List Int→List Int→(Int×Unit)→Option R):
  ∀(m i:Nat),i≤l.length→l.length - i<m→Kz m R l T l (l.length:Int) (i:Int) x6 (hasP (l.length:Int) l i) (ceP T i) (smP T (l.length:Int) l i) (laP T (l.length:Int) l i) (T,()) k0=
   k0 x6 (hasP (l.length:Int) l l.length) (ceP T l.length) (smP T (l.length:Int) l l.length) (laP T (l.length:Int) l l.length) (T,())
 | 0,i,_,hm=>by omega
 | m+1,i,h1,h2=>by
  simp only [Kz,zho]
  by_cases hi:i<l.length
  ·have hd:decide ((i:Int)<(l.length:Int))=true:=by simpa using hi
   have hbn:bnd (i:Int) (l.length:Int)=true:=by unfold bnd; simp; omega
   have hp:=X3 h hb i;have hsl:=zgg T (l.length:Int) l i;have cl:(ceP T i).length=i:=by simp [ceP]
   have dc:decide ((ceP T i).length+[(T,(i:Int),())].length≤8796093022208)=true:=decide_eq_true (by rw [cl]; simp; omega);have ew:IntKind.u64.wrap (l.getD i 0*IntKind.u64.wrap (l.length:Int))=(l.length:Int)*l.getD i 0:=by
    rw [Aj (n:=(l.length:Int)) (by omega) (by omega),Int.mul_comm (l.getD i 0),Aj (n:=(l.length:Int)*l.getD i 0) hp.1 (by omega)]
   simp only [hd,hbn,Int.toNat_natCast,N2 (n:=(l.length:Int)) h1,dc,ew,zc9 hi,ztx,N2 (n:=(l.length:Int)) (show i+1≤l.length by omega)];have hg:(hasP (l.length:Int) l (i+1)).getD i 0=(l.length:Int)*l.getD i 0:=by
    rw [←zc9 hi,M4 _ _ (by rw [N2 h1]; exact hi)]
   simp only [hbn,hg]
   by_cases hlt:(l.length:Int)*l.getD i 0<T
   ·obtain ⟨q1,q2⟩:=zuh hlt
    have dd:decide ((smP T (l.length:Int) l i).length+[(i:Int)].length≤17592186044416)=true:=decide_eq_true (by simp; omega);simp only [decide_eq_true hlt,dd];rw [q1,q2,wrap_i64 (n:=(i:Int)+1) (by omega) (by omega)];exact P0 R h hlen hb x6 k0 m (i+1) (by omega) (by omega)
   ·obtain ⟨q1,q2⟩:=zui hlt
    have dd:decide ((laP T (l.length:Int) l i).length+[(i:Int)].length≤17592186044416)=true:=decide_eq_true (by simp; omega);simp only [decide_eq_false hlt,dd];rw [q1,q2,wrap_i64 (n:=(i:Int)+1) (by omega) (by omega)];exact P0 R h hlen hb x6 k0 m (i+1) (by omega) (by omega)
  ·have:i=l.length:=by omega
   subst this;have hd:decide ((l.length:Int)<(l.length:Int))=false:=by simp
   simp only [hd]
theorem zda {n:Int} {l:List Int} {j:Nat} (hj:j<l.length):(hasP n l l.length).getD j 0=n*l.getD j 0:=by
 simp [hasP,hj]
theorem Yg {T n:Int} {l:List Int} {i:Nat} {x:Int} (h:x∈smP T n l i):∃j:Nat,x=(j:Int)∧j<i∧n*l.getD j 0<T:=by
 simp only [smP,List.mem_map,List.mem_filter,List.mem_range,decide_eq_true_eq] at h;obtain ⟨j,⟨h1,h2⟩,rfl⟩:=h;exact ⟨j,rfl,h1,h2⟩
theorem Yh {T n:Int} {l:List Int} {i:Nat} {x:Int} (h:x∈laP T n l i):∃j:Nat,x=(j:Int)∧j<i∧¬n*l.getD j 0<T:=by
 simp only [laP,List.mem_map,List.mem_filter,List.mem_range,Bool.not_eq_true',decide_eq_false_iff_not] at h;obtain ⟨j,⟨h1,h2⟩,rfl⟩:=h;exact ⟨j,rfl,h1,h2⟩
theorem Qy {l:List Nat} (h:l.Nodup):(l.map fun j:Nat=>(j:Int)).Nodup:=by
 induction l with
 | nil=>simp
 | cons a l ih=>
  rw [List.nodup_cons] at h;rw [List.map_cons,List.nodup_cons];refine ⟨fun hm=>?_,ih h.2⟩;obtain ⟨b,hb,e⟩:=List.mem_map.1 hm;have:b=a:=by omega
  subst this;exact h.1 hb
theorem zdv {l:List Int} (h:AllU64 l) {T:Int} (hb:(l.length:Int)*totS l<9223372036854775808):IA T l.length (hasP (l.length:Int) l l.length) (ceP T l.length) (smP T (l.length:Int) l l.length) (laP T (l.length:Int) l l.length):=by
 refine ⟨N2 (Nat.le_refl _),by simp [ceP],fun x hx=>?_,?_,fun x hx=>?_,fun x hx=>?_⟩
 ·rcases List.mem_append.1 hx with hx | hx
  ·obtain ⟨j,rfl,hj,_⟩:=Yg hx; omega
  ·obtain ⟨j,rfl,hj,_⟩:=Yh hx; omega
 ·rw [List.nodup_append]
  refine ⟨Qy (List.nodup_range.sublist List.filter_sublist),Qy (List.nodup_range.sublist List.filter_sublist),fun a ha b hb e=>?_⟩;obtain ⟨j,e1,_,h1⟩:=Yg ha;obtain ⟨j',e2,_,h2⟩:=Yh hb;have:j=j':=by omega
  subst this;exact h2 h1
 ·obtain ⟨j,rfl,hj,h1⟩:=Yg hx
  rw [Int.toNat_natCast,zda hj];exact ⟨(X3 h hb j).1,h1⟩
 ·obtain ⟨j,rfl,hj,h1⟩:=Yh hx
  rw [Int.toNat_natCast,zda hj];exact ⟨by omega,(X3 h hb j).2⟩
def tabC (l:List Int):List Ii:=(runA (totS l) l.length (hasP (l.length:Int) l l.length) (ceP (totS l) l.length) (smP (totS l) (l.length:Int) l l.length) (laP (totS l) (l.length:Int) l l.length)).2.1
def tabR (l:List Int):TabA×Int:=
 if l.length=0 then ((0,[],()),10) else if ¬totS l<9223372036854775808 then ((0,[],()),11) else if totS l=0 then ((0,[],()),10)
 else if ¬(l.length:Int)*totS l<9223372036854775808 then ((0,[],()),11) else ((totS l,tabC l,()),0)
theorem zcg {l:List Int} (h0:l.length=0):tabR l=((0,[],()),10):=by unfold tabR; rw [if_pos h0]
theorem zch {l:List Int} (h0:l.length≠0) (ht:¬totS l<9223372036854775808):tabR l=((0,[],()),11):=by unfold tabR; rw [if_neg h0,if_pos ht]
theorem Ua {l:List Int} (h0:l.length≠0) (hz:totS l=0):tabR l=((0,[],()),10):=by unfold tabR; rw [if_neg h0,if_neg (by simp [hz]),if_pos hz]
theorem Ub {l:List Int} (h0:l.length≠0) (ht:totS l<9223372036854775808) (hz:totS l≠0) (hb:¬(l.length:Int)*totS l<9223372036854775808):tabR l=((0,[],()),11):=by
 unfold tabR; rw [if_neg h0,if_neg (by simpa using ht),if_neg hz,if_pos hb]
theorem Xx {l:List Int} (h0:l.length≠0) (ht:totS l<9223372036854775808) (hz:totS l≠0) (hb:(l.length:Int)*totS l<9223372036854775808):tabR l=((totS l,tabC l,()),0):=by
 unfold tabR; rw [if_neg h0,if_neg (by simpa using ht),if_neg hz,if_neg (by simpa using hb)]
def zt4 (l:List Int):Prop:=l.length≠0∧totS l<9223372036854775808∧totS l≠0∧(l.length:Int)*totS l<9223372036854775808
theorem zgf (l:List Int):(zt4 l∧tabR l=((totS l,tabC l,()),0))∨(¬zt4 l∧(tabR l=((0,[],()),10)∨tabR l=((0,[],()),11))):=by
 unfold zt4
 by_cases h0:l.length=0
 ·exact .inr ⟨fun h=>h.1 h0,.inl (zcg h0)⟩
 by_cases ht:totS l<9223372036854775808
 ·by_cases hz:totS l=0
  ·exact .inr ⟨fun h=>h.2.2.1 hz,.inl (Ua h0 hz)⟩
  ·by_cases hb:(l.length:Int)*totS l<9223372036854775808
   ·exact .inl ⟨⟨h0,ht,hz,hb⟩,Xx h0 ht hz hb⟩
   ·exact .inr ⟨fun h=>hb h.2.2.2,.inr (Ub h0 ht hz hb)⟩
 ·exact .inr ⟨fun h=>ht h.2.1,.inr (zch h0 ht)⟩
theorem F229_eq (R:Type) {l:List Int} (h:AllU64 l) (hlen:l.length≤1000) (k:Int→Int→Option R) (K:TabA→Int→Option R) (h1:zt4 l→k (totS l) 0=K (tabR l).1 0) (h2:∀e,e≠0→k 0 e=K (0,[],()) e):F229 R l k=K (tabR l).1 (tabR l).2:=by
 simp only [F229,p229];rw [Aj (n:=(l.length:Int)) (by omega) (by omega)]
 by_cases h0:l.length=0
 ·have e:((l.length:Int)==0)=true:=by simp [h0]
  simp only [e];rw [zcg h0];exact h2 10 (by omega)
 ·have e:((l.length:Int)==0)=false:=by simp [h0]
  simp only [e];rw [My R h (by omega)];have hnn:=A2 h l.length
  by_cases ht:totS l<9223372036854775808
  ·rw [if_pos ht]
   simp only [Bool.not_true]
   by_cases hz:totS l=0
   ·have e:(totS l==0)=true:=by simp [hz]
    simp only [e];rw [Ua h0 hz];exact h2 10 (by omega)
   ·have e:(totS l==0)=false:=by simp [hz]
    simp only [e];rw [zns R (by unfold U64; omega) (show U64 (totS l) from by unfold U64; exact ⟨hnn,by omega⟩)]
    by_cases hb:(l.length:Int)*totS l<9223372036854775808
    ·rw [if_pos hb]
     simp only [Bool.not_true];rw [h1 ⟨h0,ht,hz,hb⟩,Xx h0 ht hz hb]
    ·rw [if_neg hb,Ub h0 ht hz hb]
     simp only [Bool.not_false];exact h2 11 (by omega)
  ·rw [if_neg ht,zch h0 ht]
   simp only [Bool.not_false];exact h2 11 (by omega)
theorem F207_eq (R:Type) {l:List Int} (h:AllU64 l) (hlen:l.length≤1000) (k:TabA→Int→Option R):F207 R l k=k (tabR l).1 (tabR l).2:=by
 simp only [F207,p207];refine F229_eq R h hlen _ k (fun hc=>?_) (fun e he=>?_)
 ·have n0:((0:Int) !=0)=false:=rfl
  simp only [n0]
  ·obtain ⟨h0,ht,hz,hb⟩:=hc
   have hnn:=A2 h l.length;have hpos:0<totS l:=by have:0≤totS l:=hnn; omega
   rw [Xx h0 ht hz hb];have dc:decide (0≤(l.length:Int)∧(l.length:Int)≤(l.length:Int)∧(l.length:Int)≤(17592186044416:Int))=true:=decide_eq_true (by omega);simp only [dc,Int.toNat_natCast];have g:=P0 R h hlen (T:=totS l) hb (0,[],()) (fun x7 x8 x9 x10 x11 x12=>Gi FUEL R x7 x8 x9 x10 x11 (x12.1,()) (fun x13 x14 x15 x16 x17 x18=>k (x18.1,x15,()) 0)) FUEL 0 (by omega) (by rw [Am]; omega);have q0:hasP (l.length:Int) l 0=List.replicate l.length 0:=by simp [hasP]
   rw [q0] at g;refine g.trans ?_;rw [Mu R (n:=l.length) ⟨hpos,ht⟩ hlen _ _ l.length FUEL _ _ _ _ (zdv h hb) (zgg _ _ _ _) (by omega) (by rw [Am]; omega)];rfl
 ·have n1:(e !=0)=true:=by simp [he]
  simp only [n1]
end Go.PG
namespace Go.PG
theorem Xy {T:Int} {n:Nat}:∀(f:Nat) (h:List Int) (c:List Ii) (sm la:List Int),IA T n h c sm la→IA T n (runA T f h c sm la).1 (runA T f h c sm la).2.1 (runA T f h c sm la).2.2.1 (runA T f h c sm la).2.2.2
 | 0,h,c,sm,la,hI=>hI
 | f+1,h,c,sm,la,hI=>by
  by_cases hs:sm.length=0∨la.length=0
  ·rw [Ok hs]; exact hI
  ·obtain ⟨s0,i,rfl⟩:=Sb (fun e=>hs (.inl e))
   obtain ⟨l0,k,rfl⟩:=Sb (fun e=>hs (.inr e));obtain ⟨_,st1,st2⟩:=hI.step;rw [Ul]
   by_cases hlt:(Gk T h i k).getD k.toNat 0<T
   ·rw [if_pos hlt]; exact Xy f _ _ _ _ (st1 hlt)
   ·rw [if_neg hlt]; exact Xy f _ _ _ _ (st2 hlt)
theorem zp0 {l:List Int} (h:AllU64 l) (hb:(l.length:Int)*totS l<9223372036854775808):(tabC l).length=l.length:=(Xy l.length _ _ _ _ (zdv h hb)).cl
theorem zxa {l:List Int} (h:AllU64 l):U64 (tabR l).1.1∧(tabR l).1.2.1.length≤l.length:=by
 have hnn:=A2 h l.length;rcases zgf l with ⟨⟨h0,ht,hz,hb⟩,e⟩ | ⟨hn,e | e⟩
 ·rw [e]
  exact ⟨by unfold U64; exact ⟨hnn,by have:totS l<9223372036854775808:=ht; show totS l<_; omega⟩,by show (tabC l).length≤_; rw [zp0 h hb]; exact Nat.le_refl _⟩
 ·rw [e]; exact ⟨by unfold U64; simp,by simp⟩
 ·rw [e]; exact ⟨by unfold U64; simp,by simp⟩
def zer (l:List Int) (s:Src) (m:Int):Int×Src×Int:=if (tabR l).2=0 then zhb (tabR l).1 s m else (0,s,(tabR l).2)
theorem F173_eq (R:Type) {l:List Int} (h:AllU64 l) (hlen:l.length≤1000) {s:Src} (hs:SOK s) (m:Int) (k:Int→Src→Int→Option R):F173 R s m l k=k (zer l s m).1 (zer l s m).2.1 (zer l s m).2.2:=by
 simp only [F173,p173];rw [F207_eq R h hlen];obtain ⟨f1,f2⟩:=zxa h;unfold zer
 by_cases he:(tabR l).2=0
 ·have e1:((tabR l).2 !=0)=false:=by simp [he]
  rw [if_pos he];simp only [e1];rw [F208_eq R f1 (by omega) hs]
 ·have e1:((tabR l).2 !=0)=true:=by simp [he]
  rw [if_neg he];simp only [e1]
end Go.PG
namespace Go.PG
def domS (k slot:Int):Int:=k*4294967296+slot
def mayS (m slot:Int):Bool:=decide (slot≥0)&&(decide (slot<1024)&&(decide (m>0)&&decide (m≤64)))
theorem znk (R:Type) (a:List Int) (m slot:Int) (k:Bool→Option R):F62 R (a,m,()) slot k=k (mayS m slot):=by
 simp only [F62,p62,mayS];cases decide (slot≥0)<;>cases decide (slot<1024)<;>cases decide (m>0)<;>rfl
theorem Ko {m slot:Int} (h:mayS m slot=true):0≤slot∧slot<1024∧0<m∧m≤64:=by
 simp only [mayS,Bool.and_eq_true,decide_eq_true_eq] at h;exact ⟨h.1,h.2.1,h.2.2.1,h.2.2.2⟩
theorem wrap32 {n:Int} (h1:0≤n) (h2:n<4294967296):IntKind.u32.wrap n=n:=by
 unfold IntKind.wrap;simp only [IntKind.bits,IntKind.signed];have e:n % (2^32)=n:=Int.emod_eq_of_lt h1 h2
 first
 | exact e
 | simp [e]
 | (simp; omega)
theorem znj (R:Type) (a:List Int) (m:Int) {d slot:Int} (hd:0≤d∧d≤10) (hs:0≤slot∧slot<1024) (k:Src→Option R):F64 R (a,m,()) d slot k=k (C0 a (domS d slot)):=by
 simp only [F64,p64];rw [wrap32 hs.1 (by omega),F103_eq R (by unfold U32; omega) (by unfold U32; omega),F102_eq];rfl
theorem dom_u64 {d slot:Int} (hd:0≤d∧d≤10) (hs:0≤slot∧slot<1024):U64 (domS d slot):=by unfold U64 domS; omega
def srcS (a:List Int) (d slot:Int):Src:=C0 a (domS d slot)
theorem Sa {a:List Int} (ha:H32 a) {d slot:Int} (hd:0≤d∧d≤10) (hs:0≤slot∧slot<1024):SOK (srcS a d slot):=Uf ha (dom_u64 hd hs)
def leaS (a:List Int) (slot m:Int) (l:List Int):Int×Int:=
 if mayS m slot=true then (if totS l<9223372036854775808 then ((Cn l (srcS a 1 slot) m).1,(Cn l (srcS a 1 slot) m).2.2) else (0,11)) else (0,1)
theorem F206_eq (R:Type) {a:List Int} (ha:H32 a) {m slot:Int} (hs:0≤slot∧slot<1024) {l:List Int} (h:AllU64 l) (ht:totS l<9223372036854775808) (hl:l.length≤200) (k:Int→Int→Option R):
  F206 R (a,m,()) (Cz l,()) slot k=k (Cn l (srcS a 1 slot) m).1 (Cn l (srcS a 1 slot) m).2.2:=by
 simp only [F206,p206];rw [znj R a m (by omega) hs];show F141 R (Cz l,()) (srcS a 1 slot) m _=_
 rw [zod R h hl ht (Sa ha (by omega) hs)]
def aliS (a:List Int) (slot m:Int) (l:List Int):Int×Int:=
 if mayS m slot=true then ((zer l (srcS a 2 slot) m).1,(zer l (srcS a 2 slot) m).2.2) else (0,1)
theorem F124_eq (R:Type) {a:List Int} (ha:H32 a) (slot m:Int) {l:List Int} (h:AllU64 l) (hl:l.length≤200) (k:Int→Int→Option R):F124 R a slot m l k=k (aliS a slot m l).1 (aliS a slot m l).2:=by
 simp only [F124,p124];rw [znk];unfold aliS;cases hm:mayS m slot with
 | false=>rfl
 | true=>
  obtain ⟨m1,m2,_⟩:=Ko hm;simp only [Bool.not_true,if_true];rw [znj R a m (by omega) ⟨m1,m2⟩];show F173 R (srcS a 2 slot) m l _=_;rw [F173_eq R h (by omega) (Sa ha (by omega) ⟨m1,m2⟩)]
def sitS (a:List Int) (slot c m:Int) (l:List Int):List Int×Int:=
 if mayS m slot=true then ((comL l c (srcS a 3 slot) m).1,(comL l c (srcS a 3 slot) m).2.2) else ([],1)
theorem F33_eq (R:Type) {a:List Int} (ha:H32 a) (slot c m:Int) {l:List Int} (h:AllU64 l) (hl:l.length≤200) (k:List Int→Int→Option R):F33 R a slot c m l k=k (sitS a slot c m l).1 (sitS a slot c m l).2:=by
 simp only [F33,p33];rw [znk];unfold sitS;cases hm:mayS m slot with
 | false=>rfl
 | true=>
  obtain ⟨m1,m2,_⟩:=Ko hm;simp only [Bool.not_true,if_true];rw [znj R a m (by omega) ⟨m1,m2⟩];show F63 R c (srcS a 3 slot) m l _=_;rw [F63_eq R h hl (Sa ha (by omega) ⟨m1,m2⟩)]
theorem zlr (R:Type) (l r:List Int) (hl:l.length≤1000000) (hr:l.length=r.length) (k0:Bool→Option R) (k1:Option R):∀(m i:Nat),i≤l.length→l.length - i<m→l.take i=r.take i→
  zam m R l r (i:Int) k0 k1=if l=r then k1 else k0 false
 | 0,i,_,h,_=>by omega
 | m+1,i,h1,h2,h3=>by
  simp only [zam,zyb]
  by_cases hi:i<l.length
  ·have hd:decide ((i:Int)<(l.length:Int))=true:=decide_eq_true (by omega)
   have hbn:bnd (i:Int) (l.length:Int)=true:=by unfold bnd; simp; omega
   have hbr:bnd (i:Int) (r.length:Int)=true:=by unfold bnd; simp; omega
   simp only [hd,hbn,hbr,Int.toNat_natCast]
   by_cases he:l.getD i 0=r.getD i 0
   ·have e1:(l.getD i 0 !=r.getD i 0)=false:=by rw [he]; simp
    simp only [e1];rw [wrap_i64 (n:=(i:Int)+1) (by omega) (by omega)];refine zlr R l r hl hr k0 k1 m (i+1) (by omega) (by omega) ?_;rw [List.take_succ_eq_append_getElem hi,List.take_succ_eq_append_getElem (by omega),h3]
    congr 2
    simpa [hi,show i<r.length by omega] using he
   ·have e1:(l.getD i 0 !=r.getD i 0)=true:=by simpa using he
    simp only [e1];rw [if_neg (fun e=>he (by rw [e]))]
  ·have:i=l.length:=by omega
   subst this;have hd:decide ((l.length:Int)<(l.length:Int))=false:=by simp
   simp only [hd];rw [List.take_length,hr,List.take_length] at h3;rw [if_pos h3]
theorem F27_eq (R:Type) (l r:List Int) (hl:l.length≤1000000) (k:Bool→Option R):F27 R l r k=k (decide (l=r)):=by
 simp only [F27,p27]
 by_cases hr:l.length=r.length
 ·have e:((l.length:Int) !=(r.length:Int))=false:=by rw [hr]; simp
  simp only [e];have:=zlr R l r hl hr (fun x4=>k x4) (k true) FUEL 0 (by omega) (by rw [Am]; omega) (by simp);refine Eq.trans ?_ (this.trans ?_)
  ·rfl
  by_cases h:l=r
  ·rw [if_pos h,decide_eq_true h]
  ·rw [if_neg h,decide_eq_false h]
 ·have e:((l.length:Int) !=(r.length:Int))=true:=by
   have:¬(l.length:Int)=(r.length:Int):=by omega
   simpa using this
  simp only [e];rw [decide_eq_false (fun h=>hr (by rw [h]))]
end Go.PG
namespace Go.PG
def schV (a:List Int) (m:Int) (l:List Int) (i:Nat):Int:=if (leaS a (i:Int) m l).2=0 then (leaS a (i:Int) m l).1 else -1
def schP (a:List Int) (m:Int) (l:List Int) (n:Nat):List Int:=(List.range n).map (schV a m l)
theorem In (a:List Int) (m:Int) (l:List Int) (n:Nat):(schP a m l n).length=n:=by simp [schP]
theorem Uj (a:List Int) (m:Int) (l:List Int) (n:Nat):schP a m l n++[schV a m l n]=schP a m l (n+1):=by simp [schP,List.range_succ]
def schL (a:List Int) (n m:Int) (l:List Int):List Int×Int:=
 if n<1 then ([],1) else if mayS m (n - 1)=true then (if totS l<9223372036854775808 then (schP a m l n.toNat,0) else ([],11)) else ([],1)
theorem may_le {m:Int} {n i:Int} (h:mayS m n=true) (h0:0≤i) (h1:i≤n):mayS m i=true:=by
 obtain ⟨a,b,c,d⟩:=Ko h;unfold mayS;simp;omega
theorem zaq (R:Type) {a:List Int} (ha:H32 a) {m:Int} {l:List Int} (h:AllU64 l) (ht:totS l<9223372036854775808) (hl:l.length≤200) {N:Nat} (hN:N≤1024) (hm:∀i:Nat,i<N→mayS m (i:Int)=true) (k0:List Int→Option R):∀(f i:Nat),i≤N→N - i<f→
  P5 f R (N:Int) (i:Int) (a,m,()) (Cz l,()) (schP a m l i++List.replicate (N - i) 0) k0=k0 (schP a m l N)
 | 0,_,_,hh=>by omega
 | f+1,i,h1,h2=>by
  simp only [P5,zhx];have hlen:(schP a m l i++List.replicate (N - i) (0:Int)).length=N:=by simp [In]; omega
  by_cases hi:i<N
  ·have hd:decide ((i:Int)<(N:Int))=true:=decide_eq_true (by omega)
   simp only [hd];rw [F206_eq R ha (by omega) h ht hl];have hb:bnd (i:Int) ((schP a m l i++List.replicate (N - i) (0:Int)).length:Int)=true:=by rw [hlen]; unfold bnd; simp; omega
   have hle:leaS a (i:Int) m l=((Cn l (srcS a 1 (i:Int)) m).1,(Cn l (srcS a 1 (i:Int)) m).2.2):=by unfold leaS; rw [if_pos (hm i hi),if_pos ht]
   simp only [hb,Int.toNat_natCast];have hset:∀v:Int,(schP a m l i++List.replicate (N - i) (0:Int)).set i v=schP a m l i++[v]++List.replicate (N - (i+1)) 0:=fun v=>by
    rw [show N - i=N - (i+1)+1 by omega];exact zgl _ _ _ _ (In a m l i)
   rw [wrap_i64 (n:=(i:Int)+1) (by omega) (by omega),show (i:Int)+1=((i+1:Nat):Int) by omega]
   by_cases he:(Cn l (srcS a 1 (i:Int)) m).2.2=0
   ·have e1:((Cn l (srcS a 1 (i:Int)) m).2.2 !=0)=false:=by simp [he]
    simp only [e1,hset];have hv:(Cn l (srcS a 1 (i:Int)) m).1=schV a m l i:=by unfold schV; rw [hle]; rw [if_pos he]
    rw [hv,Uj];exact zaq R ha h ht hl hN hm k0 f (i+1) (by omega) (by omega)
   ·have e1:((Cn l (srcS a 1 (i:Int)) m).2.2 !=0)=true:=by simp [he]
    have hb2:bnd (i:Int) ((schP a m l i++[(Cn l (srcS a 1 (i:Int)) m).1]++List.replicate (N - (i+1)) (0:Int)).length:Int)=true:=by
     unfold bnd; simp [In]; omega
    simp only [e1,hset,hb2];have hv:(-1:Int)=schV a m l i:=by unfold schV; rw [hle]; rw [if_neg he]
    have hset2:(schP a m l i++[(Cn l (srcS a 1 (i:Int)) m).1]++List.replicate (N - (i+1)) (0:Int)).set i (-1)=schP a m l i++[(-1:Int)]++List.replicate (N - (i+1)) 0:=by
     rw [List.append_assoc,List.set_append_right _ _ (by rw [In]; exact Nat.le_refl _),In,Nat.sub_self];simp
    rw [hset2,hv,Uj];exact zaq R ha h ht hl hN hm k0 f (i+1) (by omega) (by omega)
  ·have:i=N:=by omega
   subst this;have hd:decide ((i:Int)<(i:Int))=false:=by simp
   simp only [hd];rw [Nat.sub_self,List.replicate_zero,List.append_nil]
theorem F170_eq (R:Type) {a:List Int} (ha:H32 a) {n:Int} (hn:n≤9223372036854775807) (m:Int) {l:List Int} (h:AllU64 l) (hl:l.length≤200) (k:List Int→Int→Option R):F170 R a n m l k=k (schL a n m l).1 (schL a n m l).2:=by
 simp only [F170,p170];unfold schL
 by_cases h1:n<1
 ·simp only [decide_eq_true h1,if_pos h1]
 ·simp only [decide_eq_false h1,if_neg h1]
  rw [wrap_i64 (n:=n - 1) (by omega) (by omega),znk];cases hm:mayS m (n - 1) with
  | false=>rfl
  | true=>
   obtain ⟨m1,m2,_⟩:=Ko hm;simp only [Bool.not_true,if_true];rw [zeb R h hl]
   by_cases ht:totS l<9223372036854775808
   ·rw [if_pos ht,if_pos ht]
    have n0:((0:Int) !=0)=false:=rfl;have hc:decide (0≤n∧n≤n∧n≤(17592186044416:Int))=true:=decide_eq_true (by omega);simp only [n0,hc,List.length_replicate];have:=zaq R ha h ht hl (N:=n.toNat) (by omega) (fun i hi=>may_le hm (by omega) (by omega)) (fun x9=>k x9 0) FUEL 0 (by omega) (by rw [Am]; omega);exact this
   ·rw [if_neg ht,if_neg ht]; rfl
end Go.PG
namespace Go.PG
open Go.Proofs
abbrev Cfg:=Int×Int×Int×Int×Int×Unit
def cfgS (c:Cfg):Bool:=decide (1≤c.1∧c.1≤1024∧0≤c.2.1∧c.2.1≤c.1∧0≤c.2.2.1∧c.2.2.1≤c.1 - c.2.1∧1≤c.2.2.2.1∧c.2.2.2.1≤64∧1≤c.2.2.2.2.1∧c.2.2.2.2.1≤1048576)
theorem C2 {c:Cfg} (h:cfgS c=true):1≤c.1∧c.1≤1024∧0≤c.2.1∧c.2.1≤c.1∧0≤c.2.2.1∧c.2.2.1≤c.1 - c.2.1∧1≤c.2.2.2.1∧c.2.2.2.1≤64∧1≤c.2.2.2.2.1∧c.2.2.2.2.1≤1048576:=of_decide_eq_true h
theorem F65_eq (R:Type) (x lo hi:Int) (k:Bool→Option R):F65 R x lo hi k=k (decide (lo≤x∧x≤hi)):=by
 simp only [F65,p65]
 by_cases h:x≥lo
 ·by_cases h2:x≤hi<;>simp [h,h2,show lo≤x from h]
 ·have h3:¬(lo≤x):=h
  simp [h3]
theorem znp (R:Type) (c:Cfg) (k:Bool→Option R):F34 R c k=k (cfgS c):=by
 obtain ⟨s,co,re,at_,mo,_⟩:=c;simp only [F34,p34,F65_eq,cfgS]
 by_cases h1:1≤s∧s≤1024
 ·by_cases h2:0≤co∧co≤s
  ·rw [wrap_i64 (by omega) (by omega)]
   by_cases h3:0≤re∧re≤s - co
   ·by_cases h4:1≤at_∧at_≤64
    ·simp [h1,h2,h3,h4]
    ·have:¬(1≤s∧s≤1024∧0≤co∧co≤s∧0≤re∧re≤s - co∧1≤at_∧at_≤64∧1≤mo∧mo≤1048576):=by omega
     rw [decide_eq_false this]; simp [h1,h2,h3,h4]
   ·have:¬(1≤s∧s≤1024∧0≤co∧co≤s∧0≤re∧re≤s - co∧1≤at_∧at_≤64∧1≤mo∧mo≤1048576):=by omega
    rw [decide_eq_false this]; simp [h1,h2,h3]
  ·have:¬(1≤s∧s≤1024∧0≤co∧co≤s∧0≤re∧re≤s - co∧1≤at_∧at_≤64∧1≤mo∧mo≤1048576):=by omega
   rw [decide_eq_false this]; simp [h1,h2]
 ·have:¬(1≤s∧s≤1024∧0≤co∧co≤s∧0≤re∧re≤s - co∧1≤at_∧at_≤64∧1≤mo∧mo≤1048576):=by omega
  rw [decide_eq_false this]; simp [h1]
def phS (c:Cfg) (i:Int):Int:=if cfgS c=true∧0≤i∧i<c.1 then (if i<c.2.1 then 1 else if i<c.2.1+c.2.2.1 then 2 else 3) else 0
theorem zn7 (R:Type) (c:Cfg) (i:Int) (k:Bool→Option R):F159 R c i k=k (decide (cfgS c=true∧0≤i∧i<c.1)):=by
 simp only [F159,p159,znp];cases hr:cfgS c with
 | false=>simp
 | true=>
  by_cases h:0≤i
  ·simp [h]
  ·simp [h]
theorem zog (R:Type) (c:Cfg) (i:Int) (k:Int→Option R):F114 R c i k=k (phS c i):=by
 simp only [F114,p114,zn7,phS]
 by_cases h:cfgS c=true∧0≤i∧i<c.1
 ·have hr:=C2 h.1
  rw [wrap_i64 (by omega) (by omega),if_pos h]
  by_cases h2:i<c.2.1
  ·simp [h,h2]
  ·by_cases h3:i<c.2.1+c.2.2.1<;>simp [h,h2,h3]
 ·simp [h]
def Kl (c:Cfg) (i:Int):Int:=if phS c i=0∨i=c.1 - 1 then 0 else i+1
def zj5 (c:Cfg) (i:Int):Bool:=decide (phS c i≠0∧i=c.1 - 1)
theorem Sm {c:Cfg} {i:Int}:phS c i=0↔¬(cfgS c=true∧0≤i∧i<c.1):=by
 unfold phS;constructor
 ·intro h hh; rw [if_pos hh] at h; split at h<;>omega
 ·intro h; rw [if_neg h]
theorem F119_eq (R:Type) (c:Cfg) (i:Int) (k:Int→Bool→Option R):F119 R c i k=k (Kl c i) (zj5 c i):=by
 simp only [F119,p119,zn7,Kl,zj5]
 by_cases h:cfgS c=true∧0≤i∧i<c.1
 ·have hr:=C2 h.1
  have hp:phS c i≠0:=fun e=>Sm.1 e h
  have hz:(c.1==0)=false:=by simp; omega
  rw [wrap_i64 (by omega) (by omega)];simp only [h,hz,hp]
  by_cases h2:i=c.1 - 1
  ·have:i+1=c.1:=by omega
   rw [decide_eq_true (p:=phS c i≠0∧i=c.1 - 1) ⟨hp,h2⟩];simp [h2]
  ·rw [Int.tmod_eq_of_lt (by omega) (by omega)]
   have:(i+1==0)=false:=by simp; omega
   simp [h2,this]
 ·simp [h,Sm.2 h]
end Go.PG
namespace Go.PG
abbrev Va:=List Int×(Int×(Int×Unit))
abbrev zV:Va:=(List.replicate 32 (0:Int),(0:Int),(0:Int),())
structure VaOK (v:Va):Prop where
 key:H32 v.1
 stake:U64 v.2.1
 next:U64 v.2.2.1
def VsOK (l:List Va):Prop:=∀v∈l,VaOK v
theorem zV_ok:VaOK zV:=⟨Ay,I5,I5⟩
theorem VsOK.get {l:List Va} (h:VsOK l) (i:Nat):VaOK (l.getD i zV):=by
 rw [List.getD_eq_getElem?_getD];cases hi:l[i]? with
 | none=>exact zV_ok
 | some c=>exact h c (List.mem_of_getElem? hi)
theorem Ez {l:List Va} {i:Nat} (hi:i<l.length):l.getD i zV=l[i]:=by simp [hi]
def Ao (l:List Va):List Int:=l.map fun v=>v.2.1
def A4 (l:List Va):List Int:=l.map fun v=>v.2.2.1
theorem Dx {l:List Va} (h:VsOK l):AllU64 (Ao l):=fun x hx=>by
 obtain ⟨v,hv,rfl⟩:=List.mem_map.1 hx;exact (h v hv).stake
theorem Gr {l:List Va} (h:VsOK l):AllU64 (A4 l):=fun x hx=>by
 obtain ⟨v,hv,rfl⟩:=List.mem_map.1 hx;exact (h v hv).next
theorem C9 (l:List Va):(Ao l).length=l.length:=by simp [Ao]
theorem Fa (l:List Va):(A4 l).length=l.length:=by simp [A4]
theorem Uh {l:List Va} {i:Nat} (hi:i<l.length):Ao (l.take i)++[(l.getD i zV).2.1]=Ao (l.take (i+1)):=by
 rw [List.take_succ_eq_append_getElem hi,Ez hi]; simp only [Ao,List.map_append,List.map_cons,List.map_nil]
theorem Yf {l:List Va} {i:Nat} (hi:i<l.length):A4 (l.take i)++[(l.getD i zV).2.2.1]=A4 (l.take (i+1)):=by
 rw [List.take_succ_eq_append_getElem hi,Ez hi]; simp only [A4,List.map_append,List.map_cons,List.map_nil]
theorem zu5 {n m:Nat} (hn:n≤1000) (hm:m=1):decide (n+m≤17592186044416)=true:=by simp; omega
theorem Rw (R:Type) {l:List Va} (hn:l.length≤1000) (k0:List Int→Option R):∀(m i:Nat),i≤l.length→l.length - i<m→
  Bf m R l (l.length:Int) (i:Int) (Ao (l.take i)) k0=k0 (Ao l)
 | 0,i,_,h=>by omega
 | m+1,i,h1,h2=>by
  simp only [Bf,Kk,F172,p172]
  by_cases hi:i<l.length
  ·have ih:=Rw R hn k0 m (i+1) (by omega) (by omega)
   have hc:decide ((Ao (l.take i)).length+[(l.getD i zV).2.1].length≤17592186044416)=true:=zu5 (by rw [C9,List.length_take]; omega) rfl;simp only [Du hi,A7 hi,Int.toNat_natCast,B5 hi hn,hc];rw [Uh hi,ih]
  ·have:i=l.length:=by omega
   subst this;simp only [Da,List.take_length]
theorem Qf (R:Type) {l:List Va} (hn:l.length≤1000) (k:List Int→Option R):F123 R l k=k (Ao l):=by
 simp only [F123,p123,Ea,X9];have hc:decide ((0:Int)≤0∧(0:Int)≤(l.length:Int)∧(l.length:Int)≤17592186044416)=true:=by simp; omega
 simp only [hc];exact Rw R hn (fun x=>k x) FUEL 0 (by omega) (by rw [Am]; omega)
theorem Rv (R:Type) {l:List Va} (hn:l.length≤1000) (k0:List Int→Option R):∀(m i:Nat),i≤l.length→l.length - i<m→
  Be m R l (l.length:Int) (i:Int) (A4 (l.take i)) k0=k0 (A4 l)
 | 0,i,_,h=>by omega
 | m+1,i,h1,h2=>by
  simp only [Be,Kj,F195,p195]
  by_cases hi:i<l.length
  ·have ih:=Rv R hn k0 m (i+1) (by omega) (by omega)
   have hc:decide ((A4 (l.take i)).length+[(l.getD i zV).2.2.1].length≤17592186044416)=true:=zu5 (by rw [Fa,List.length_take]; omega) rfl;simp only [Du hi,A7 hi,Int.toNat_natCast,B5 hi hn,hc];rw [Yf hi,ih]
  ·have:i=l.length:=by omega
   subst this;simp only [Da,List.take_length]
theorem zn9 (R:Type) {l:List Va} (hn:l.length≤1000) (k:List Int→Option R):F154 R l k=k (A4 l):=by
 simp only [F154,p154,D9,X8];have hc:decide ((0:Int)≤0∧(0:Int)≤(l.length:Int)∧(l.length:Int)≤17592186044416)=true:=by simp; omega
 simp only [hc];exact Rv R hn (fun x=>k x) FUEL 0 (by omega) (by rw [Am]; omega)
def actV (v:Va):Va:=(v.1,v.2.2.1,v.2.2.1,())
def actS (l:List Va):List Va:=l.map actV
theorem Kv (l:List Va):(actS l).length=l.length:=by simp [actS]
theorem znx (R:Type) {l:List Va} (hn:l.length≤1000) (k:List Va→Option R):F198 R l k=k l:=by
 simp only [F198];have hc:decide (([]:List Va).length+l.length≤2932031007402)=true:=by simp; omega
 rw [hc]
theorem zl1 (R:Type) {l:List Va} (hn:l.length≤1000) (k0:List Va→Option R):∀(m i:Nat),i≤l.length→l.length - i<m→
  P6 m R (l.length:Int) (i:Int) (actS (l.take i)++l.drop i) k0=k0 (actS l)
 | 0,i,_,h=>by omega
 | m+1,i,h1,h2=>by
  simp only [P6,zhy]
  by_cases hi:i<l.length
  ·have ih:=zl1 R hn k0 m (i+1) (by omega) (by omega)
   have hlen:(actS (l.take i)++l.drop i).length=l.length:=by simp [Kv]; omega
   have hat:(actS (l.take i)).length=i:=by rw [Kv,List.length_take]; omega
   have hg:(actS (l.take i)++l.drop i).getD i zV=l[i]:=by
    rw [List.getD_eq_getElem?_getD,List.getElem?_append_right (by omega),hat,Nat.sub_self,List.getElem?_drop];simp [hi]
   have hs:(actS (l.take i)++l.drop i).set i (l[i].1,l[i].2.2.1,l[i].2.2)=actS (l.take (i+1))++l.drop (i+1):=by
    rw [List.set_append_right _ _ (by omega),hat,Nat.sub_self,List.drop_eq_getElem_cons hi,List.set_cons_zero,List.take_succ_eq_append_getElem hi];simp only [actS,actV,List.map_append,List.map_cons,List.map_nil,List.append_assoc,List.cons_append,List.nil_append]
   rw [hlen];simp only [Du hi,A7 hi,Int.toNat_natCast,B5 hi hn,hg,hs];rw [ih]
  ·have:i=l.length:=by omega
   subst this;simp only [Da,List.take_length,List.drop_length,List.append_nil]
theorem F168_eq (R:Type) {l:List Va} (hn:l.length≤1000) (k:List Va→Option R):F168 R l k=k (actS l):=by
 simp only [F168,p168,znx R hn];exact zl1 R hn (fun x=>k x) FUEL 0 (by omega) (by rw [Am]; omega)
end Go.PG
namespace Go.PG
def fstK (l:List Va) (key:List Int):Option Nat:=l.findIdx? fun v=>decide (v.1=key)
def Hp (l:List Va):List (List Int):=l.map fun v=>v.1
def plA (l:List Va):Nat→List (List Int×Int)
 | 0=>[]
 | i+1=>match B1 (Kd.eqv (.arr 32 (.int .u8))) (plA l i) (l.getD i zV).1 with
  | some _=>plA l i
  | none=>plA l i++[((l.getD i zV).1,(i:Int))]
theorem zex {K V:Type} (eq:K→K→Bool) (m:List (K×V)) (x:K×V) (k:K):B1 eq (m++[x]) k=match B1 eq m k with | some v=>some v | none=>match eq k x.1 with | true=>some x.2 | false=>none:=by
 induction m with
 | nil=>simp only [List.nil_append,B1]; cases eq k x.1<;>rfl
 | cons y m ih=>
  simp only [List.cons_append,B1];cases eq k y.1
  ·exact ih
  ·rfl
theorem zjw {l:List Va} {i:Nat} (hi:i<l.length) (key:List Int):fstK (l.take (i+1)) key=match fstK (l.take i) key with | some j=>some j | none=>if (l.getD i zV).1=key then some i else none:=by
 unfold fstK;rw [List.take_succ_eq_append_getElem hi,List.findIdx?_append,Ez hi];cases List.findIdx? (fun v=>decide (v.1=key)) (l.take i) with
 | some j=>rfl
 | none=>
  have hl:(l.take i).length=i:=by rw [List.length_take]; omega
  by_cases e:l[i].1=key
  ·simp [List.findIdx?_cons,e,hl]
  ·simp [List.findIdx?_cons,e]
theorem Sl {l:List Va} (h:VsOK l):∀(i:Nat),i≤l.length→∀(key:List Int),key.length=32→B1 (Kd.eqv (.arr 32 (.int .u8))) (plA l i) key=Option.map (fun n:Nat=>(n:Int)) (fstK (l.take i) key)
 | 0,_,key,_=>by simp [plA,B1,fstK]
 | i+1,hi,key,hk=>by
  have hi':i<l.length:=by omega
  have ih:=Sl h i (by omega);have hv:=(h.get i).key.1;rw [zjw hi'];simp only [plA];have h1:=ih (l.getD i zV).1 hv;cases hf:B1 (Kd.eqv (.arr 32 (.int .u8))) (plA l i) (l.getD i zV).1 with
  | some z=>
   simp only [];rw [ih key hk];cases hq:fstK (l.take i) key with
   | some j=>rfl
   | none=>
    simp only [];rw [if_neg];intro e;rw [hf,e,hq] at h1;cases h1
  | none=>
   simp only [];rw [zex,ih key hk];cases hq:fstK (l.take i) key with
   | some j=>rfl
   | none=>
    simp only [Option.map_none];have e1:Kd.eqv (.arr 32 (.int .u8)) key (l.getD i zV).1=decide (key=(l.getD i zV).1):=Ep hk hv;rw [e1]
    by_cases e:(l.getD i zV).1=key
    ·rw [decide_eq_true e.symm,if_pos e]; rfl
    ·rw [decide_eq_false (fun q=>e q.symm),if_neg e]; rfl
theorem Vl {l:List Va} {key:List Int}:fstK l key=none↔key∉Hp l:=by
 unfold fstK Hp;rw [List.findIdx?_eq_none_iff];constructor
 ·intro h hm
  obtain ⟨v,hv,e⟩:=List.mem_map.1 hm;have:=h v hv;simp [e] at this
 ·intro h v hv
  simp only [decide_eq_false_iff_not];intro e;exact h (List.mem_map.2 ⟨v,hv,e⟩)
theorem Zv {l:List Va} {key:List Int} {j:Nat} (h:fstK l key=some j):j<l.length∧(l.getD j zV).1=key:=by
 obtain ⟨h1,h2,_⟩:=List.findIdx?_eq_some_iff_getElem.1 h;exact ⟨h1,by rw [Ez h1]; simpa using h2⟩
theorem ze2 {l:List Va} {i:Nat} (hi:i<l.length):Hp (l.take (i+1))=Hp (l.take i)++[(l.getD i zV).1]:=by
 rw [List.take_succ_eq_append_getElem hi,Ez hi]; simp only [Hp,List.map_append,List.map_cons,List.map_nil]
theorem zha {l:List Va} (h:VsOK l):∀(i:Nat),i≤l.length→(plA l i).length≤i∧((plA l i).length=i↔(Hp (l.take i)).Nodup)
 | 0,_=>by simp [plA,Hp]
 | i+1,hi=>by
  have hi':i<l.length:=by omega
  obtain ⟨ih1,ih2⟩:=zha h i (by omega);have h1:=Sl h i (by omega) (l.getD i zV).1 (h.get i).key.1;rw [ze2 hi',List.nodup_append];simp only [plA];cases hf:B1 (Kd.eqv (.arr 32 (.int .u8))) (plA l i) (l.getD i zV).1 with
  | some z=>
   simp only [];refine ⟨by omega,⟨fun hh=>by omega,fun hh=>?_⟩⟩;exfalso;rw [hf] at h1;cases hq:fstK (l.take i) (l.getD i zV).1 with
   | none=>rw [hq] at h1; cases h1
   | some j=>
    have hm:(l.getD i zV).1∈Hp (l.take i):=by
     apply Classical.byContradiction;intro hn;rw [Vl.2 hn] at hq;cases hq
    exact hh.2.2 _ hm _ (List.mem_singleton.2 rfl) rfl
  | none=>
   simp only [List.length_append,List.length_cons,List.length_nil];rw [hf] at h1;have hq:fstK (l.take i) (l.getD i zV).1=none:=by
    cases hq:fstK (l.take i) (l.getD i zV).1 with
    | none=>rfl
    | some j=>rw [hq] at h1; cases h1
   have hn:=Vl.1 hq;refine ⟨by omega,⟨fun hh=>⟨ih2.1 (by omega),by simp,fun a ha b hb e=>?_⟩,fun hh=>by have:=ih2.2 hh.1; omega⟩⟩;rw [List.mem_singleton.1 hb] at e;exact hn (e ▸ ha)
theorem zl3 (R:Type) {l:List Va} (hn:l.length≤1000) (k0:List (List Int×Int)→Option R):∀(m i:Nat),i≤l.length→l.length - i<m→
  Dv m R l (l.length:Int) (i:Int) (plA l i) k0=k0 (plA l l.length)
 | 0,i,_,h=>by omega
 | m+1,i,h1,h2=>by
  simp only [Dv,zcx]
  by_cases hi:i<l.length
  ·have ih:=zl3 R hn k0 m (i+1) (by omega) (by omega)
   simp only [Du hi,A7 hi,Int.toNat_natCast,B5 hi hn];simp only [plA] at ih;cases hf:B1 (Kd.eqv (.arr 32 (.int .u8))) (plA l i) (l.getD i zV).1 with
   | some z=>
    simp only [hf] at ih;simp only [Option.isSome_some,Bool.not_true];exact ih
   | none=>
    simp only [hf] at ih;simp only [Option.isSome_none,Bool.not_false,Option.isNone_none];exact ih
  ·have:i=l.length:=by omega
   subst this;simp only [Da]
theorem zoa (R:Type) {l:List Va} (hn:l.length≤1000) (k:List (List Int×Int)→Option R):F153 R l k=k (plA l l.length):=by
 simp only [F153,p153];exact zl3 R hn (fun x=>k x) FUEL 0 (by omega) (by rw [Am]; omega)
def Gn (l:List Va):Bool:=decide (totS (Ao l)<9223372036854775808)&&(decide (totS (A4 l)<9223372036854775808)&&decide (Hp l).Nodup)
theorem zob (R:Type) {l:List Va} (h:VsOK l) (hn:l.length≤1000) (k:Bool→Option R):F152 R l k=k (Gn l):=by
 simp only [F152,p152,Qf R hn,zn9 R hn];rw [My R (Dx h) (by rw [C9]; omega)];unfold Gn
 by_cases h1:totS (Ao l)<9223372036854775808
 ·rw [if_pos h1,My R (Gr h) (by rw [Fa]; omega)]
  by_cases h2:totS (A4 l)<9223372036854775808
  ·rw [if_pos h2]
   have hc:decide ((l.length:Int)≤1048576)=true:=by simp; omega
   simp only [hc,zoa R hn];have hd:=(zha h l.length (Nat.le_refl _)).2;rw [List.take_length] at hd;rw [decide_eq_true h1,decide_eq_true h2,Bool.true_and,Bool.true_and]
   congr 1
   by_cases h3:(Hp l).Nodup
   ·rw [decide_eq_true h3]; simp [hd.2 h3]
   ·rw [decide_eq_false h3]
    have:(plA l l.length).length≠l.length:=fun e=>h3 (hd.1 e)
    simp; omega
  ·rw [if_neg h2,decide_eq_false h2,Bool.false_and,Bool.and_false]
 ·rw [if_neg h1,decide_eq_false h1,Bool.false_and,My R (Gr h) (by rw [Fa]; omega)]
  by_cases h2:totS (A4 l)<9223372036854775808
  ·rw [if_pos h2]
  ·rw [if_neg h2]
def neK (l:List Va) (i j:Nat):Bool:=decide ((l.getD i zV).1≠(l.getD j zV).1)
theorem nodup_iff {l:List Va}:Gf (fun i=>Gf (neK l i) i 0) l.length 0=decide (Hp l).Nodup:=by
 rw [Bool.eq_iff_iff,decide_eq_true_eq,Fy];unfold List.Nodup;rw [List.pairwise_iff_getElem];constructor
 ·intro h i j hi hj hij
  have hi':i<l.length:=by simpa [Hp] using hi
  have hj':j<l.length:=by simpa [Hp] using hj
  have h1:=Fy.1 (h j (by omega) (by omega)) i (by omega) (by omega);unfold neK at h1;simp only [decide_eq_true_eq] at h1;rw [Ez hi',Ez hj'] at h1;simp only [Hp,List.getElem_map];exact fun e=>h1 e.symm
 ·intro h j _ hj
  refine Fy.2 fun i _ hi=>?_
  have hi':i<l.length:=by omega
  have hj':j<l.length:=by omega
  have h1:=h i j (by simpa [Hp] using hi') (by simpa [Hp] using hj') (by omega);simp only [Hp,List.getElem_map] at h1;unfold neK;simp only [decide_eq_true_eq];rw [Ez hi',Ez hj'];exact fun e=>h1 e.symm
end Go.PG
namespace Go.PG
def J6 (l:List Va) (i:Nat) (n:Int):List Va:=l.set i ((l.getD i zV).1,(l.getD i zV).2.1,n,())
theorem T1 (R:Type) {l:List Va} (hn:l.length≤1000) {i:Nat} (hi:i<l.length) (n:Int) (k:List Va→Option R):F157 R l (i:Int) n k=k (J6 l i n):=by
 simp only [F157,p157,znx R hn,A7 hi,Int.toNat_natCast];rfl
theorem Hu (l:List Int) (a:Int):totS (l++[a])=totS l+a:=by
 unfold totS sumS;rw [List.take_length,List.take_length];simp
theorem zif {l:List Va} (h:VsOK l) {i:Nat} (hi:i<l.length):(l.getD i zV).2.2.1≤totS (A4 l):=by
 have h1:=B0 (l:=A4 l) (i:=i) (by rw [Fa]; exact hi);have h2:=Ed (Gr h) (i+1);have h3:=A2 (Gr h) i;have h4:(A4 l).getD i 0=(l.getD i zV).2.2.1:=by
  rw [Ez hi]; simp [A4,hi]
 rw [h4] at h1;omega
def depS (l:List Va) (key:List Int) (a most:Int):List Va×Int×Int:=
 if Gn l=true∧a≠0∧1≤most∧most≤1048576 then
  match fstK l key with
  | none=>if most≤(l.length:Int) then ([],0,4) else if totS (A4 l)+a<9223372036854775808 then (l++[(key,0,a,())],(l.length:Int),0) else ([],0,11)
  | some i=>if totS (A4 l)+a<9223372036854775808 then (J6 l i ((l.getD i zV).2.2.1+a),(i:Int),0) else ([],0,11)
 else ([],0,1)
theorem Xz {l:List Va} (h:Gn l=true):totS (Ao l)<9223372036854775808∧totS (A4 l)<9223372036854775808∧(Hp l).Nodup:=by
 unfold Gn at h;rw [Bool.and_eq_true,Bool.and_eq_true] at h;exact ⟨of_decide_eq_true h.1,of_decide_eq_true h.2.1,of_decide_eq_true h.2.2⟩
theorem Xu {l:List Int} (h:AllU64 l):0≤totS l:=A2 h _
theorem zcb {x:Int} (h0:0≤x) (h1:x<9223372036854775808):IntKind.u64.wrap x=x:=by rw [Co]; omega
theorem F110_eq (R:Type) {l:List Va} (h:VsOK l) (hn:l.length≤900) {key:List Int} (hk:key.length=32) {a:Int} (ha:U64 a) (most:Int) (k:List Va→Int→Int→Option R):
  F110 R l key a most k=k (depS l key a most).1 (depS l key a most).2.1 (depS l key a most).2.2:=by
 simp only [F110,p110,zob R h (by omega),zoa R (show l.length≤1000 by omega),zn9 R (show l.length≤1000 by omega)];unfold depS;cases hr:Gn l with
 | false=>simp
 | true=>
  obtain ⟨_,ht,_⟩:=Xz hr;have htn:=Xu (Gr h);unfold U64 at ha;simp only [Bool.not_true]
  by_cases h1:a=0
  ·rw [if_neg (by simp [h1])]; simp [h1]
  by_cases h2:most<1
  ·rw [if_neg (by omega)]
   have e1:(a==0)=false:=by simpa using h1
   simp only [e1,decide_eq_true h2]
  by_cases h3:most>1048576
  ·rw [if_neg (by omega)]
   have e1:(a==0)=false:=by simpa using h1
   simp only [e1,decide_eq_false h2,decide_eq_true h3]
  have e1:(a==0)=false:=by simpa using h1
  rw [if_pos ⟨trivial,h1,by omega,by omega⟩];have hf:=Sl h l.length (Nat.le_refl _) key hk;rw [List.take_length] at hf;have hT:=My R (Gr h) (show (A4 l).length≤1000000 by rw [Fa]; omega);have hA:=zb1 R (a:=totS (A4 l)) (b:=a) ⟨htn,ht⟩ ha;simp only [e1,decide_eq_false h2,decide_eq_false h3,hf];cases hq:fstK l key with
  | none=>
   simp only [Option.map_none,Option.isSome_none,Bool.not_false]
   by_cases h4:most≤(l.length:Int)
   ·rw [if_pos h4]
    simp only [decide_eq_true (show (l.length:Int)≥most from h4)]
   ·rw [if_neg h4]
    simp only [decide_eq_false (show ¬(l.length:Int)≥most from h4),hT,if_pos ht,hA]
    by_cases h5:totS (A4 l)+a<9223372036854775808
    ·rw [if_pos h5,if_pos h5]
     have hc:decide (0<[((key,0,0,()):Va)].length∧l.length+[((key,0,0,()):Va)].length≤2932031007402)=true:=by simp; omega
     have hl:l.length<(l++[((key,0,0,()):Va)]).length:=by simp
     have hg:(l++[((key,0,0,()):Va)]).getD l.length zV=(key,0,0,()):=by simp
     simp only [Bool.not_true,hc,A7 hl,Int.toNat_natCast,hg,Int.zero_add];rw [zcb (by omega) (by omega),T1 R (by simp; omega) hl];have:J6 (l++[((key,0,0,()):Va)]) l.length a=l++[(key,0,a,())]:=by
      unfold J6;rw [hg,List.set_append_right _ _ (Nat.le_refl _),Nat.sub_self];rfl
     rw [this]
    ·rw [if_neg h5,if_neg h5]; simp only [Bool.not_false]
  | some i=>
   obtain ⟨hi,_⟩:=Zv hq;have hnx:=zif h hi;have hx:=(h.get i).next;unfold U64 at hx;simp only [Option.map_some,Option.isSome_some,Bool.not_true,Option.getD_some,hT,if_pos ht,hA]
   by_cases h5:totS (A4 l)+a<9223372036854775808
   ·simp only [if_pos h5,Bool.not_true,A7 hi,Int.toNat_natCast]
    rw [show IntKind.u64.wrap ((l.getD i zV).2.2.1+a)=(l.getD i zV).2.2.1+a from zcb (by omega) (by omega),T1 R (by omega) hi];cases decide ((i:Int)≥most)<;>rfl
   ·simp only [if_neg h5,Bool.not_false]
    cases decide ((i:Int)≥most)<;>rfl
def wdS (l:List Va) (who a:Int):List Va×Int×Int:=
 if Gn l=true∧a≠0 then
  if 0≤who∧who<(l.length:Int) then
   if a≤(l.getD who.toNat zV).2.2.1 then (J6 l who.toNat ((l.getD who.toNat zV).2.2.1 - a),(l.getD who.toNat zV).2.2.1 - a,0) else ([],0,12)
  else ([],0,5)
 else ([],0,1)
def slS (l:List Va) (who a:Int):List Va×Int×Int:=
 if Gn l=true then
  if 0≤who∧who<(l.length:Int) then
   (J6 l who.toNat ((l.getD who.toNat zV).2.2.1 - min a (l.getD who.toNat zV).2.2.1),min a (l.getD who.toNat zV).2.2.1,0)
  else ([],0,5)
 else ([],0,1)
def zcd (l:List Va) (who:Int):Int:=if Gn l=true then (if 0≤who∧who<(l.length:Int) then 0 else 5) else 1
theorem zn8 (R:Type) {l:List Va} (h:VsOK l) (hn:l.length≤1000) (who:Int) (k:Int→Option R):F158 R l who k=k (zcd l who):=by
 simp only [F158,p158,zob R h hn];unfold zcd;cases Gn l with
 | false=>simp
 | true=>
  simp only [Bool.not_true,if_true]
  by_cases h1:who<0
  ·rw [if_neg (by omega)]; simp only [decide_eq_true h1]
  ·by_cases h2:who≥(l.length:Int)
   ·rw [if_neg (by omega)]; simp only [decide_eq_false h1,decide_eq_true h2]
   ·rw [if_pos (by omega)]; simp only [decide_eq_false h1,decide_eq_false h2]
theorem F111_eq (R:Type) {l:List Va} (h:VsOK l) (hn:l.length≤1000) (who:Int) {a:Int} (ha:U64 a) (k:List Va→Int→Int→Option R):
  F111 R l who a k=k (wdS l who a).1 (wdS l who a).2.1 (wdS l who a).2.2:=by
 simp only [F111,p111,zn8 R h hn];unfold wdS zcd;unfold U64 at ha
 by_cases h1:a=0
 ·rw [if_neg (show ¬(Gn l=true∧a≠0) from fun q=>q.2 h1)]; simp [h1]
 have e1:(a==0)=false:=by simpa using h1
 simp only [e1];cases hr:Gn l with
 | false=>simp
 | true=>
  have q:(True∧a≠0):=⟨trivial,h1⟩
  simp only [if_pos q,if_true]
  by_cases h2:0≤who∧who<(l.length:Int)
  ·obtain ⟨i,rfl⟩:∃i:Nat,who=i:=⟨who.toNat,by omega⟩
   have hi:i<l.length:=by omega
   have hx:=(h.get i).next;unfold U64 at hx;rw [if_pos h2,if_pos h2];simp only [bne_self_eq_false,A7 hi,Int.toNat_natCast]
   by_cases h3:a≤(l.getD i zV).2.2.1
   ·rw [if_pos h3]
    have:¬a>(l.getD i zV).2.2.1:=by omega
    simp only [decide_eq_false this];rw [show IntKind.u64.wrap ((l.getD i zV).2.2.1 - a)=(l.getD i zV).2.2.1 - a by rw [Co]; omega,T1 R hn hi]
   ·rw [if_neg h3]
    have:a>(l.getD i zV).2.2.1:=by omega
    simp only [decide_eq_true this]
  ·rw [if_neg h2,if_neg h2]
   rfl
theorem F112_eq (R:Type) {l:List Va} (h:VsOK l) (hn:l.length≤1000) (who:Int) {a:Int} (ha:U64 a) (k:List Va→Int→Int→Option R):
  F112 R l who a k=k (slS l who a).1 (slS l who a).2.1 (slS l who a).2.2:=by
 simp only [F112,p112,zn8 R h hn];unfold slS zcd;unfold U64 at ha;cases hr:Gn l with
 | false=>simp
 | true=>
  simp only [if_true]
  by_cases h2:0≤who∧who<(l.length:Int)
  ·obtain ⟨i,rfl⟩:∃i:Nat,who=i:=⟨who.toNat,by omega⟩
   have hi:i<l.length:=by omega
   have hx:=(h.get i).next;unfold U64 at hx;rw [if_pos h2,if_pos h2];have em:(if (l.getD i zV).2.2.1<a then (l.getD i zV).2.2.1 else a)=min a (l.getD i zV).2.2.1:=by
    by_cases hh:(l.getD i zV).2.2.1<a
    ·rw [if_pos hh]; omega
    ·rw [if_neg hh]; omega
   simp only [bne_self_eq_false,A7 hi,Int.toNat_natCast,em];rw [show IntKind.u64.wrap ((l.getD i zV).2.2.1 - min a (l.getD i zV).2.2.1)=(l.getD i zV).2.2.1 - min a (l.getD i zV).2.2.1 by rw [Co]; omega,T1 R hn hi]
  ·rw [if_neg h2,if_neg h2]
   rfl
end Go.PG
namespace Go.PG
abbrev OpT:=Int×(Int×(Int×(List Int×(Int×Unit))))
abbrev zO:OpT:=((0:Int),(0:Int),(0:Int),(List.replicate 32 (0:Int)),(0:Int),())
structure OpOK (o:OpT):Prop where
 kind:I64 o.1
 who:I64 o.2.1
 amount:U64 o.2.2.1
 hash:H32 o.2.2.2.1
 n:I64 o.2.2.2.2.1
theorem zjl {x b:Int} (hx:0≤x∧x<72057594037927936) (hb:0≤b∧b<256):ior .u64 (ishl .u64 x 8) b=x*256+b:=by
 obtain ⟨n,rfl⟩:∃n:Nat,x=n:=⟨x.toNat,by omega⟩
 obtain ⟨c,rfl⟩:∃c:Nat,b=c:=⟨b.toNat,by omega⟩
 have e2:ishl .u64 (n:Int) 8=((n*256:Nat):Int):=by
  unfold ishl;rw [show (2:Int)^(min (8:Int).toNat IntKind.u64.bits)=256 by decide,Aj (by omega) (by omega)];simp
 rw [e2,Zt,BitVec.ofInt_natCast,BitVec.ofInt_natCast,BitVec.toNat_or,BitVec.toNat_ofNat,BitVec.toNat_ofNat,Nat.mod_eq_of_lt (by omega),Nat.mod_eq_of_lt (by omega)];have h6:=Nat.shiftLeft_add_eq_or_of_lt (i:=8) (b:=c) (by omega) n;rw [Nat.shiftLeft_eq] at h6;rw [show n*256=n*2^8 by rfl,←h6];simp
theorem Et {y z:Int} (hy:0≤y∧y<18446744073709551616) (hz:y/256=z):ior .u64 (ishl .u64 z 8) (y % 256)=y:=by
 rw [←hz,zjl (by omega) (by omega)]; omega
theorem zoc (R:Type) {a:Int} (ha:U64 a) (k:Int→Option R):F148 R (putS a) k=k a:=by
 unfold U64 at ha;have s1:ior .u64 (ishl .u64 0 8) (a/72057594037927936 % 256)=a/72057594037927936:=Et (by omega) (by omega);have s2:ior .u64 (ishl .u64 (a/72057594037927936) 8) (a/281474976710656 % 256)=a/281474976710656:=Et (by omega) (by omega);have s3:ior .u64 (ishl .u64 (a/281474976710656) 8) (a/1099511627776 % 256)=a/1099511627776:=Et (by omega) (by omega);have s4:ior .u64 (ishl .u64 (a/1099511627776) 8) (a/4294967296 % 256)=a/4294967296:=Et (by omega) (by omega);have s5:ior .u64 (ishl .u64 (a/4294967296) 8) (a/16777216 % 256)=a/16777216:=Et (by omega) (by omega)
 have s6:ior .u64 (ishl .u64 (a/16777216) 8) (a/65536 % 256)=a/65536:=Et (by omega) (by omega);have s7:ior .u64 (ishl .u64 (a/65536) 8) (a/256 % 256)=a/256:=Et (by omega) (by omega);have s8:ior .u64 (ishl .u64 (a/256) 8) (a % 256)=a:=Et (by omega) (by omega);have w:∀y:Int,IntKind.u64.wrap (y % 256)=y % 256:=fun y=>Aj (by omega) (by omega)
 obtain ⟨m,hm⟩:=Eu 9 (by omega);simp only [F148,p148,hm,Rx,zh1,putS];simp [bnd,Ek,w,s1,s2,s3,s4,s5,s6,s7,s8]
inductive Fd where | H | A | W | N
deriving DecidableEq
def enc:Fd→Tq2
 | .H=>((32:Int),(FnV.fn 143),(FnV.fn 145),())
 | .A=>((8:Int),(FnV.fn 146),(FnV.fn 147),())
 | .W=>((4:Int),(FnV.clo 191 (FnV.fn 150)),(FnV.clo 193 (FnV.fn 150)),())
 | .N=>((4:Int),(FnV.clo 191 (FnV.fn 151)),(FnV.clo 193 (FnV.fn 151)),())
def fsOf (k:Int):List Fd×Bool:=
 if k=1 then ([.H,.A],true) else if k=2 then ([.W,.A],true) else if k=3 then ([.W,.A],true) else if k=4 then ([.W,.H],true) else if k=5 then ([.W,.H],true) else
 if k=6 then ([],true) else if k=11 then ([],true) else if k=7 then ([.N],true) else if k=8 then ([.N],true) else if k=9 then ([.N,.W],true) else if k=10 then ([.W,.N],true) else ([],false)
theorem ze0 (k:Int):k=1∨k=2∨k=3∨k=4∨k=5∨k=6∨k=7∨k=8∨k=9∨k=10∨k=11∨(k≠1∧k≠2∧k≠3∧k≠4∧k≠5∧k≠6∧k≠7∧k≠8∧k≠9∧k≠10∧k≠11):=by omega
theorem A1 {a b:Int} (h:a≠b):(a==b)=false:=by simpa using h
theorem Xj (R:Type) (x:Int) (k:List Tq2→Bool→Option R):F67 R x k=k ((fsOf x).1.map enc) (fsOf x).2:=by
 simp only [F67,p67,F106,p106,F107,p107,F108,p108,F109,p109,Ec,Yb,Eb,Ya];rcases ze0 x with h | h | h | h | h | h | h | h | h | h | h | h
 ·subst h; rfl
 ·subst h; rfl
 ·subst h; rfl
 ·subst h; rfl
 ·subst h; rfl
 ·subst h; rfl
 ·subst h; rfl
 ·subst h; rfl
 ·subst h; rfl
 ·subst h; rfl
 ·subst h; rfl
 ·obtain ⟨h1,h2,h3,h4,h5,h6,h7,h8,h9,h10,h11⟩:=h
  simp only [A1 h1,A1 h2,A1 h3,A1 h4,A1 h5,A1 h6,A1 h7,A1 h8,A1 h9,A1 h10,A1 h11];simp [fsOf,h1,h2,h3,h4,h5,h6,h7,h8,h9,h10,h11]
def C3 (o:OpT):Fd→List Int
 | .H=>o.2.2.2.1
 | .A=>putS o.2.2.1
 | .W=>Bt o.2.1
 | .N=>Bt o.2.2.2.2.1
def Az:Fd→Nat
 | .H=>32
 | .A=>8
 | .W=>4
 | .N=>4
def Se (o c:OpT):Fd→OpT
 | .H=>(c.1,c.2.1,c.2.2.1,o.2.2.2.1,c.2.2.2.2)
 | .A=>(c.1,c.2.1,o.2.2.1,c.2.2.2)
 | .W=>(c.1,o.2.1,c.2.2)
 | .N=>(c.1,c.2.1,c.2.2.1,c.2.2.2.1,o.2.2.2.2.1,c.2.2.2.2.2)
theorem H6 {o:OpT} (h:OpOK o) (f:Fd):(C3 o f).length=Az f:=by
 cases f
 ·exact h.hash.1
 ·rfl
 ·rfl
 ·rfl
def Di (o:OpT) (l:List Fd):List Int:=l.flatMap (C3 o)
theorem Iz (o:OpT) (f:Fd) (l:List Fd):Di o (f::l)=C3 o f++Di o l:=by simp [Di]
theorem Gs {o:OpT} (h:OpOK o):∀(l:List Fd),(Di o l).length=(l.map Az).sum
 | []=>rfl
 | f::l=>by rw [Iz,List.length_append,H6 h,Gs h l]; simp
theorem S3 (f:Fd):(enc f).1=(Az f:Int):=by cases f<;>rfl
theorem Sd (f:Fd):Az f≤32:=by cases f<;>decide
theorem Sc:∀(l:List Fd),(l.map Az).sum≤32*l.length
 | []=>by simp
 | f::l=>by have:=Sc l; have:=Sd f; simp; omega
theorem N4 {l:List Fd} {i:Nat} (hi:i<l.length):List.getD (l.map enc) i ((0:Int),FnV.nil,FnV.nil,())=enc l[i]:=by simp [hi]
theorem zvk (R:Type) {o:OpT} (h:OpOK o) (hw:U32 o.2.1) (hn:U32 o.2.2.2.2.1) {l:List Fd} (hl:l.length≤2) (k0:List Int→Option R):∀(m i:Nat) (acc:List Int),i≤l.length→l.length - i<m→acc.length≤1+32*i→
  Wn m R (l.map enc) (l.length:Int) (i:Int) o acc k0=k0 (acc++Di o (l.drop i))
 | 0,i,acc,_,hh,_=>by omega
 | m+1,i,acc,h1,h2,h3=>by
  simp only [Wn,zx8]
  by_cases hi:i<l.length
  ·have ih:=zvk R h hw hn hl k0 m (i+1) (acc++C3 o l[i]) (by omega) (by omega) (by rw [List.length_append,H6 h]; have:=Sd l[i]; omega)
   have hb:bnd (i:Int) ((l.map enc).length:Int)=true:=by rw [List.length_map]; exact A7 hi
   rw [List.drop_eq_getElem_cons hi,Iz,←List.append_assoc,←ih];simp only [Du hi,hb,Int.toNat_natCast,B5 hi (show l.length≤1000 by omega),N4 hi];have hc:∀y:List Int,y.length≤32→decide (acc.length+y.length≤140737488355328)=true:=fun y hy=>by simp; omega
   have w1:IntKind.u32.wrap o.2.1=o.2.1:=by unfold U32 at hw; exact Cs hw.1 (by omega)
   have w2:IntKind.u32.wrap o.2.2.2.2.1=o.2.2.2.2.1:=by unfold U32 at hn; exact Cs hn.1 (by omega)
   cases l[i] with
   | H=>
    have e1:FnV.same (enc .H).2.1 (FnV.fn 143)=true:=rfl;have e2:List.take 32 (List.drop 0 o.2.2.2.1)=o.2.2.2.1:=by rw [List.drop_zero,List.take_of_length_le (by rw [h.hash.1]; omega)]
    have e3:decide (([]:List Int).length+o.2.2.2.1.length≤140737488355328)=true:=by rw [h.hash.1]; rfl
    simp only [e1,e2,F144,e3,hc _ (show o.2.2.2.1.length≤32 by rw [h.hash.1]; omega)];rfl
   | A=>
    have e1:FnV.same (enc .A).2.1 (FnV.fn 143)=false:=rfl;have e2:FnV.same (enc .A).2.1 (FnV.fn 146)=true:=rfl;have e3:List.take 8 (List.drop 0 (putS o.2.2.1))=putS o.2.2.1:=rfl;simp only [e1,e2,Xi,e3,hc _ (show (putS o.2.2.1).length≤32 from Nat.le_of_ble_eq_true rfl)];rfl
   | W=>
    have e1:FnV.same (enc .W).2.1 (FnV.fn 143)=false:=rfl;have e2:FnV.same (enc .W).2.1 (FnV.fn 146)=false:=rfl;have e3:FnV.same (enc .W).2.1 (FnV.clo 191 (FnV.fn 150))=true:=rfl;have e4:List.take 4 (List.drop 0 (Bt o.2.1))=Bt o.2.1:=rfl;simp only [e1,e2,e3,w1,zby R hw,e4,hc _ (show (Bt o.2.1).length≤32 from Nat.le_of_ble_eq_true rfl)];rfl
   | N=>
    have e1:FnV.same (enc .N).2.1 (FnV.fn 143)=false:=rfl;have e2:FnV.same (enc .N).2.1 (FnV.fn 146)=false:=rfl;have e3:FnV.same (enc .N).2.1 (FnV.clo 191 (FnV.fn 150))=false:=rfl;have e3':FnV.same (enc .N).2.1 (FnV.clo 191 (FnV.fn 151))=true:=rfl;have e4:List.take 4 (List.drop 0 (Bt o.2.2.2.2.1))=Bt o.2.2.2.2.1:=rfl;simp only [e1,e2,e3,e3',w2,zby R hn,e4,hc _ (show (Bt o.2.2.2.2.1).length≤32 from Nat.le_of_ble_eq_true rfl)];rfl
  ·have:i=l.length:=by omega
   subst this;simp only [Da,List.drop_length,Di,List.flatMap_nil,List.append_nil]
theorem Cu (k:Int):(fsOf k).1.length≤2:=by
 unfold fsOf
 repeat' split
 all_goals decide
def Dg (o:OpT):List Int:=if (fsOf o.1).2=true then (o.1 % 256)::Di o (fsOf o.1).1 else [o.2.2.2.2.1 % 256]
theorem zvx (R:Type) {o:OpT} (h:OpOK o) (hw:U32 o.2.1) (hn:U32 o.2.2.2.2.1) (k:List Int→Option R):F43 R o k=k (Dg o):=by
 simp only [F43,p43,Xj,Fk];unfold Dg;cases (fsOf o.1).2 with
 | false=>simp
 | true=>
  simp only [Bool.not_true,if_true,List.length_map];exact zvk R h hw hn (Cu _) (fun x=>k x) FUEL 0 _ (by omega) (by rw [Am]; have:=Cu o.1; omega) (by simp)
def szF (l:List Fd):Int:=1+((l.map Az).sum:Nat)
theorem zvg (R:Type) {l:List Fd} (hl:l.length≤2) (k0:Int→Option R):∀(m i:Nat),i≤l.length→l.length - i<m→
  zag m R (szF (l.take i)) (l.map enc) (l.length:Int) (i:Int) k0=k0 (szF l)
 | 0,i,_,hh=>by omega
 | m+1,i,h1,h2=>by
  simp only [zag,zx3]
  by_cases hi:i<l.length
  ·have ih:=zvg R hl k0 m (i+1) (by omega) (by omega)
   have hb:bnd (i:Int) ((l.map enc).length:Int)=true:=by rw [List.length_map]; exact A7 hi
   simp only [Du hi,hb,Int.toNat_natCast,B5 hi (show l.length≤1000 by omega),N4 hi,S3];have e:IntKind.i64.wrap (szF (l.take i)+(Az l[i]:Int))=szF (l.take (i+1)):=by
    have h3:=Sc (l.take i);have h4:=Sd l[i];have h5:(l.take i).length≤2:=by rw [List.length_take]; omega
    have h6:szF (l.take (i+1))=szF (l.take i)+(Az l[i]:Int):=by
     unfold szF;rw [List.take_succ_eq_append_getElem hi,List.map_append,List.sum_append];simp;omega
    rw [h6];unfold szF;exact wrap_i64 (by omega) (by omega)
   rw [e,ih]
  ·have:i=l.length:=by omega
   subst this;simp only [Da,List.take_length]
theorem F83_eq (R:Type) (x:Int) (k:Int→Bool→Option R):F83 R x k=if (fsOf x).2=true then k (szF (fsOf x).1) true else k 0 false:=by
 simp only [F83,p83,Xj];cases (fsOf x).2 with
 | false=>simp
 | true=>
  simp only [Bool.not_true,if_true,List.length_map];have:=zvg R (Cu x) (fun x4=>k x4 true) FUEL 0 (by omega) (by rw [Am]; have:=Cu x; omega);simpa [szF] using this
end Go.PG
namespace Go.PG
theorem eqvO {a b:OpT} (ha:a.2.2.2.1.length=32) (hb:b.2.2.2.1.length=32):Kd.eqv Kq6 a b=decide (a=b):=by
 obtain ⟨a1,a2,a3,a4,a5,⟨⟩⟩:=a;obtain ⟨b1,b2,b3,b4,b5,⟨⟩⟩:=b;have e1:Kd.eqv (.arr 32 (.int .u8)) a4 b4=decide (a4=b4):=Ep ha hb;show ((a1==b1)&&((a2==b2)&&((a3==b3)&&((Kd.eqv (.arr 32 (.int .u8)) a4 b4)&&((a5==b5)&&true)))))=_;rw [e1]
 by_cases h1:a1=b1
 ·by_cases h2:a2=b2
  ·by_cases h3:a3=b3
   ·by_cases h4:a4=b4
    ·by_cases h5:a5=b5
     ·simp [h1,h2,h3,h4,h5]
     ·simp [h5]
    ·simp [h4]
   ·simp [h3]
  ·simp [h2]
 ·simp [h1]
theorem zjt {a:Int} (ha:U32 a):Jc (a/16777216 % 256) (a/65536 % 256) (a/256 % 256) (a % 256)=a:=by
 unfold U32 at ha; unfold Jc; omega
theorem Tz (R:Type) {a:Int} (ha:U32 a) (k:Int→Option R):F194 R (Bt a) k=k a:=by
 have u:∀x:Int,U8 (x % 256):=fun x=>by unfold U8; omega
 unfold Bt;rw [zny R (u _) (u _) (u _) (u _),zjt ha]
def Qj (o:OpT) (l:List Fd) (c:OpT):OpT:=l.foldl (Se o) c
theorem zvm (R:Type) {o:OpT} (h:OpOK o) (hw:U32 o.2.1) (hn:U32 o.2.2.2.2.1) {l:List Fd} (hl:l.length≤2) (x5:OpT) (k0:List Int→OpT→OpT→Option R):∀(m i:Nat) (c:OpT),i≤l.length→l.length - i<m→
  Ig m R (Di o (l.drop i)) (l.map enc) (l.length:Int) (i:Int) x5 c k0=k0 [] x5 (Qj o (l.drop i) c)
 | 0,i,c,_,hh=>by omega
 | m+1,i,c,h1,h2=>by
  simp only [Ig,U2]
  by_cases hi:i<l.length
  ·have ih:=zvm R h hw hn hl x5 k0 m (i+1) (Se o c l[i]) (by omega) (by omega)
   have hb:bnd (i:Int) ((l.map enc).length:Int)=true:=by rw [List.length_map]; exact A7 hi
   have hbl:=H6 h l[i];rw [List.drop_eq_getElem_cons hi,Iz];have hlen:(C3 o l[i]++Di o (l.drop (i+1))).length=Az l[i]+(Di o (l.drop (i+1))).length:=by rw [List.length_append,hbl]
   have c1:decide ((0:Int)≤0∧(0:Int)≤(Az l[i]:Int)∧(Az l[i]:Int)≤(Az l[i]:Int)∧(Az l[i]:Int)≤((C3 o l[i]++Di o (l.drop (i+1))).length:Int))=true:=by
    rw [hlen]; simp; omega
   have c2:decide ((0:Int)≤(Az l[i]:Int)∧(Az l[i]:Int)≤((C3 o l[i]++Di o (l.drop (i+1))).length:Int)∧((C3 o l[i]++Di o (l.drop (i+1))).length:Int)≤((C3 o l[i]++Di o (l.drop (i+1))).length:Int)∧((C3 o l[i]++Di o (l.drop (i+1))).length:Int)≤((C3 o l[i]++Di o (l.drop (i+1))).length:Int))=true:=by
    rw [hlen]; simp; omega
   have t1:List.take (Int.toNat ((Az l[i]:Int) - 0)) (List.drop 0 (C3 o l[i]++Di o (l.drop (i+1))))=C3 o l[i]:=by
    rw [Int.sub_zero,Int.toNat_natCast,List.drop_zero,←hbl,List.take_left]
   have t2:List.take (Int.toNat (((C3 o l[i]++Di o (l.drop (i+1))).length:Int) - (Az l[i]:Int))) (List.drop (Az l[i]) (C3 o l[i]++Di o (l.drop (i+1))))=Di o (l.drop (i+1)):=by
    rw [←hbl,List.drop_left,List.take_of_length_le];rw [List.length_append];omega
   have hbk:Qj o (l[i]::l.drop (i+1)) c=Qj o (l.drop (i+1)) (Se o c l[i]):=rfl;rw [hbk,←ih];simp only [Du hi,hb,Int.toNat_natCast,B5 hi (show l.length≤1000 by omega),N4 hi,S3,c1,c2];rw [t1,t2];have hw':=hw;have hn':=hn;unfold U32 at hw' hn';have w1:IntKind.i64.wrap o.2.1=o.2.1:=wrap_i64 (by omega) (by omega);have w2:IntKind.i64.wrap o.2.2.2.2.1=o.2.2.2.2.1:=wrap_i64 (by omega) (by omega);cases l[i] with
   | H=>
    have e1:FnV.same (enc .H).2.2.1 (FnV.fn 145)=true:=rfl;have e2:List.take 32 o.2.2.2.1=o.2.2.2.1:=by rw [List.take_of_length_le (by rw [h.hash.1]; omega)]
    have e3:decide ((32:Int)≤((C3 o .H).length:Int))=true:=by rw [H6 h]; rfl
    simp only [e1,e3];simp only [C3,e2];rfl
   | A=>
    have e1:FnV.same (enc .A).2.2.1 (FnV.fn 145)=false:=rfl;have e2:FnV.same (enc .A).2.2.1 (FnV.fn 147)=true:=rfl;have e3:decide ((8:Int)≤((C3 o .A).length:Int))=true:=rfl;have e4:List.take 8 (putS o.2.2.1)=putS o.2.2.1:=rfl;simp only [e1,e2,e3];simp only [C3,e4,zoc R h.amount];rfl
   | W=>
    have e1:FnV.same (enc .W).2.2.1 (FnV.fn 145)=false:=rfl;have e2:FnV.same (enc .W).2.2.1 (FnV.fn 147)=false:=rfl;have e2':FnV.same (enc .W).2.2.1 (FnV.clo 193 (FnV.fn 150))=true:=rfl;have e3:decide ((4:Int)≤((C3 o .W).length:Int))=true:=rfl;have e4:List.take 4 (Bt o.2.1)=Bt o.2.1:=rfl;simp only [e1,e2,e2',e3];simp only [C3,e4,Tz R hw,w1];rfl
   | N=>
    have e1:FnV.same (enc .N).2.2.1 (FnV.fn 145)=false:=rfl;have e2:FnV.same (enc .N).2.2.1 (FnV.fn 147)=false:=rfl;have e2':FnV.same (enc .N).2.2.1 (FnV.clo 193 (FnV.fn 150))=false:=rfl;have e2'':FnV.same (enc .N).2.2.1 (FnV.clo 193 (FnV.fn 151))=true:=rfl;have e3:decide ((4:Int)≤((C3 o .N).length:Int))=true:=rfl;have e4:List.take 4 (Bt o.2.2.2.2.1)=Bt o.2.2.2.2.1:=rfl;simp only [e1,e2,e2',e2'',e3];simp only [C3,e4,Tz R hn,w2];rfl
  ·have:i=l.length:=by omega
   subst this;simp only [Da,List.drop_length];rfl
theorem Xk (R:Type) (x:Int) (hx:0≤x∧x<256) (b:List Int) (k:Bool→Option R):F44 R (x::b) k=k (if (fsOf x).2=true then decide (szF (fsOf x).1≤((x::b).length:Int)) else true):=by
 simp only [F44,p44];have hb:bnd 0 (((x::b).length:Nat):Int)=true:=by unfold bnd; simp<;>omega
 have hw:IntKind.i64.wrap x=x:=wrap_i64 (by omega) (by omega);simp only [hb,List.getD_cons_zero,hw,F83_eq];cases (fsOf x).2 with
 | false=>simp
 | true=>simp
theorem Iv {k:Int} (h:(fsOf k).2=true):1≤k∧k≤11:=by
 rcases ze0 k with q | q | q | q | q | q | q | q | q | q | q | q
 all_goals try omega
 obtain ⟨h1,h2,h3,h4,h5,h6,h7,h8,h9,h10,h11⟩:=q;simp [fsOf,h1,h2,h3,h4,h5,h6,h7,h8,h9,h10,h11] at h
theorem drop1 (x:Int) (b:List Int):List.take (Int.toNat (((x::b).length:Int) - 1)) (List.drop 1 (x::b))=b:=by
 rw [List.drop_one,List.tail_cons,List.take_of_length_le];rw [List.length_cons];omega
theorem zno (R:Type) {o:OpT} (h:OpOK o) (hw:U32 o.2.1) (hn:U32 o.2.2.2.2.1) (hv:(fsOf o.1).2=true) (k:OpT→List Int→Option R):
  F37 R (Dg o) k=k (Qj o (fsOf o.1).1 (o.1,(0:Int),(0:Int),(List.replicate 32 (0:Int)),(0:Int),())) []:=by
 have hr:=Iv hv;have em:o.1 % 256=o.1:=by omega
 unfold Dg;rw [if_pos hv,em];simp only [F37,p37];have hb:bnd 0 (((o.1::Di o (fsOf o.1).1).length:Nat):Int)=true:=by unfold bnd; simp<;>omega
 have hwr:IntKind.i64.wrap o.1=o.1:=wrap_i64 (by omega) (by omega);have hc:decide ((0:Int)≤1∧(1:Int)≤((o.1::Di o (fsOf o.1).1).length:Int)∧((o.1::Di o (fsOf o.1).1).length:Int)≤((o.1::Di o (fsOf o.1).1).length:Int)∧((o.1::Di o (fsOf o.1).1).length:Int)≤((o.1::Di o (fsOf o.1).1).length:Int))=true:=by
  simp<;>omega
 have hs:decide (szF (fsOf o.1).1≤((o.1::Di o (fsOf o.1).1).length:Int))=true:=by
  unfold szF;rw [List.length_cons,Gs h];simp; omega
 simp only [hb,List.getD_cons_zero,hwr,Xj,hv,Bool.not_true,Xk R o.1 (by omega),if_true,hs,hc,drop1,List.length_map];have:=zvm R h hw hn (Cu o.1) ((0:Int),(0:Int),(0:Int),(List.replicate 32 (0:Int)),(0:Int),()) (fun x9 x10 x11=>k x11 x9) FUEL 0 (o.1,(0:Int),(0:Int),(List.replicate 32 (0:Int)),(0:Int),()) (by omega) (by rw [Am]; have:=Cu o.1; omega);rw [List.drop_zero] at this;exact this
theorem zuc (R:Type) (x:Int) (hx:0≤x∧x<256) (k:OpT→List Int→Option R):
  F37 R [x] k=if (fsOf x).2=true∧(fsOf x).1=[] then k (x,(0:Int),(0:Int),(List.replicate 32 (0:Int)),(0:Int),()) [] else k ((0:Int),(0:Int),(0:Int),(List.replicate 32 (0:Int)),x,()) []:=by
 simp only [F37,p37];have hwr:IntKind.i64.wrap x=x:=wrap_i64 (by omega) (by omega);have hb:bnd 0 ((([x]:List Int).length:Nat):Int)=true:=rfl;have hc:decide ((0:Int)≤1∧(1:Int)≤(([x]:List Int).length:Int)∧(([x]:List Int).length:Int)≤(([x]:List Int).length:Int)∧(([x]:List Int).length:Int)≤(([x]:List Int).length:Int))=true:=rfl;simp only [hb,List.getD_cons_zero,hwr,Xj,Xk R x hx,hc,drop1,List.length_map];cases hv:(fsOf x).2 with
 | false=>simp
 | true=>
  simp only [Bool.not_true,if_true,true_and]
  by_cases he:(fsOf x).1=[]
  ·rw [if_pos he]
   have hs:decide (szF (fsOf x).1≤(([x]:List Int).length:Int))=true:=by rw [he]; rfl
   simp only [hs,he,List.map_nil];obtain ⟨m,hm⟩:=Eu 1 (by omega);rw [hm];simp only [Ig,U2];rfl
  ·rw [if_neg he]
   have hs:decide (szF (fsOf x).1≤(([x]:List Int).length:Int))=false:=by
    cases hq:(fsOf x).1 with
    | nil=>exact absurd hq he
    | cons f l=>
     unfold szF;have:4≤Az f:=by cases f<;>decide
     simp;omega
   simp only [hs,Bool.not_false]
def zcr (o:OpT):Bool:=decide (0≤o.2.1∧o.2.1<4294967296∧0≤o.2.2.2.2.1∧o.2.2.2.2.1<4294967296)
def Bx (o:OpT):Bool:=zcr o&&(if (fsOf o.1).2=true then decide (Qj o (fsOf o.1).1 (o.1,(0:Int),(0:Int),(List.replicate 32 (0:Int)),(0:Int),())=o)
 else decide (o.2.2.2.2.1≤255∧(fsOf o.2.2.2.2.1).2=false∧o=((0:Int),(0:Int),(0:Int),(List.replicate 32 (0:Int)),o.2.2.2.2.1,())))
theorem V3 {o:OpT} (h:o.2.2.2.1.length=32):∀(l:List Fd) (c:OpT),c.2.2.2.1.length=32→(Qj o l c).2.2.2.1.length=32
 | [],_,hc=>hc
 | f::l,c,hc=>by
  show (Qj o l (Se o c f)).2.2.2.1.length=32;refine V3 h l _ ?_;cases f
  ·exact h
  ·exact hc
  ·exact hc
  ·exact hc
theorem zvz (R:Type) {o:OpT} (h:OpOK o) (k:Bool→Option R):F21 R o k=k (Bx o):=by
 simp only [F21,p21];unfold Bx zcr
 by_cases r1:o.2.1<0
 ·simp only [decide_eq_true r1]; rw [decide_eq_false (by omega)]; simp
 by_cases r2:o.2.1>4294967295
 ·simp only [decide_eq_false r1,decide_eq_true r2]; rw [decide_eq_false (by omega)]; simp
 by_cases r3:o.2.2.2.2.1<0
 ·simp only [decide_eq_false r1,decide_eq_false r2,decide_eq_true r3]; rw [decide_eq_false (by omega)]; simp
 by_cases r4:o.2.2.2.2.1>4294967295
 ·simp only [decide_eq_false r1,decide_eq_false r2,decide_eq_false r3,decide_eq_true r4]; rw [decide_eq_false (by omega)]; simp
 have hw:U32 o.2.1:=by unfold U32; omega
 have hn:U32 o.2.2.2.2.1:=by unfold U32; omega
 simp only [decide_eq_false r1,decide_eq_false r2,decide_eq_false r3,decide_eq_false r4,zvx R h hw hn];rw [decide_eq_true (by omega),Bool.true_and];cases hv:(fsOf o.1).2 with
 | true=>
  rw [zno R h hw hn hv,eqvO (V3 h.hash.1 _ _ rfl) h.hash.1,if_pos rfl];have e0:((([]:List Int).length:Int)==0)=true:=rfl;simp only [e0];have hbo:Dg o=(o.1 % 256)::Di o (fsOf o.1).1:=by unfold Dg; rw [if_pos hv]
  have hr:=Iv hv;have em:o.1 % 256=o.1:=by omega
  have hs:decide (szF (fsOf o.1).1≤((o.1::Di o (fsOf o.1).1).length:Int))=true:=by
   unfold szF;rw [List.length_cons,Gs h];simp; omega
  rw [hbo,em,Xk R o.1 (by omega),if_pos hv,hs];cases decide (Qj o (fsOf o.1).1 (o.1,(0:Int),(0:Int),(List.replicate 32 (0:Int)),(0:Int),())=o)<;>rfl
 | false=>
  have hbo:Dg o=[o.2.2.2.2.1 % 256]:=by unfold Dg; rw [hv]; rfl
  have hx:0≤o.2.2.2.2.1 % 256∧o.2.2.2.2.1 % 256<256:=by omega
  rw [hbo,zuc R _ hx];simp only [Bool.false_eq_true,if_false];have e0:((([]:List Int).length:Int)==0)=true:=rfl
  by_cases he:(fsOf (o.2.2.2.2.1 % 256)).2=true∧(fsOf (o.2.2.2.2.1 % 256)).1=[]
  ·rw [if_pos he,eqvO (by rfl) h.hash.1]
   have hne:((o.2.2.2.2.1 % 256,(0:Int),(0:Int),(List.replicate 32 (0:Int)),(0:Int),()):OpT)≠o:=fun e=>by
    have:o.1=o.2.2.2.2.1 % 256:=by conv=>lhs; rw [←e]
    rw [←this,hv] at he;cases he.1
   rw [decide_eq_false hne,decide_eq_false]
   rintro ⟨q1,q2,_⟩
   rw [show o.2.2.2.2.1 % 256=o.2.2.2.2.1 by omega,q2] at he;cases he.1
  ·rw [if_neg he,eqvO (by rfl) h.hash.1]
   by_cases e:((0:Int),(0:Int),(0:Int),(List.replicate 32 (0:Int)),o.2.2.2.2.1 % 256,())=o
   ·have en:o.2.2.2.2.1=o.2.2.2.2.1 % 256:=by conv=>lhs; rw [←e]
    simp only [decide_eq_true e,e0,Xk R _ hx];cases hq:(fsOf (o.2.2.2.2.1 % 256)).2 with
    | true=>
     have hs:decide (szF (fsOf (o.2.2.2.2.1 % 256)).1≤(([o.2.2.2.2.1 % 256]:List Int).length:Int))=false:=by
      cases hf:(fsOf (o.2.2.2.2.1 % 256)).1 with
      | nil=>exact absurd ⟨hq,hf⟩ he
      | cons f l=>
       unfold szF;have:4≤Az f:=by cases f<;>decide
       simp;omega
     rw [if_pos rfl,hs,decide_eq_false]
     rintro ⟨_,q2,_⟩
     rw [en,hq] at q2;cases q2
    | false=>
     rw [if_neg (by decide),decide_eq_true];exact ⟨by omega,by rw [en]; exact hq,by rw [←en] at e; exact e.symm⟩
   ·simp only [decide_eq_false e]
    rw [decide_eq_false]
    rintro ⟨q1,_,q3⟩
    rw [show o.2.2.2.2.1 % 256=o.2.2.2.2.1 by omega] at e;exact e q3.symm
end Go.PG
namespace Go.PG
def fldS (x:Int):ByteArray:=
 if x=1 then ⟨#[104,97]⟩ else if x=2 then ⟨#[119,97]⟩ else if x=3 then ⟨#[119,97]⟩ else if x=4 then ⟨#[119,104]⟩ else if x=5 then ⟨#[119,104]⟩ else
 if x=6 then ⟨#[45]⟩ else if x=11 then ⟨#[45]⟩ else if x=7 then ⟨#[110]⟩ else if x=8 then ⟨#[110]⟩ else if x=9 then ⟨#[110,119]⟩ else if x=10 then ⟨#[119,110]⟩ else ⟨#[]⟩
theorem znm (R:Type) (x:Int) (k:ByteArray→Option R):F50 R x k=k (fldS x):=by
 simp only [F50,p50];rcases ze0 x with h | h | h | h | h | h | h | h | h | h | h | h
 ·subst h; rfl
 ·subst h; rfl
 ·subst h; rfl
 ·subst h; rfl
 ·subst h; rfl
 ·subst h; rfl
 ·subst h; rfl
 ·subst h; rfl
 ·subst h; rfl
 ·subst h; rfl
 ·subst h; rfl
 ·obtain ⟨h1,h2,h3,h4,h5,h6,h7,h8,h9,h10,h11⟩:=h
  simp only [A1 h1,A1 h2,A1 h3,A1 h4,A1 h5,A1 h6,A1 h7,A1 h8,A1 h9,A1 h10,A1 h11];simp [fldS,h1,h2,h3,h4,h5,h6,h7,h8,h9,h10,h11]
theorem Q3 (x:Int):(ByteArray.toList (fldS x)==ByteArray.toList (⟨#[]⟩:ByteArray))= !(fsOf x).2:=by
 rcases ze0 x with h | h | h | h | h | h | h | h | h | h | h | h
 ·subst h; simp [fldS,fsOf,ByteArray.toList,ByteArray.toList.loop,ByteArray.size]
 ·subst h; simp [fldS,fsOf,ByteArray.toList,ByteArray.toList.loop,ByteArray.size]
 ·subst h; simp [fldS,fsOf,ByteArray.toList,ByteArray.toList.loop,ByteArray.size]
 ·subst h; simp [fldS,fsOf,ByteArray.toList,ByteArray.toList.loop,ByteArray.size]
 ·subst h; simp [fldS,fsOf,ByteArray.toList,ByteArray.toList.loop,ByteArray.size]
 ·subst h; simp [fldS,fsOf,ByteArray.toList,ByteArray.toList.loop,ByteArray.size]
 ·subst h; simp [fldS,fsOf,ByteArray.toList,ByteArray.toList.loop,ByteArray.size]
 ·subst h; simp [fldS,fsOf,ByteArray.toList,ByteArray.toList.loop,ByteArray.size]
 ·subst h; simp [fldS,fsOf,ByteArray.toList,ByteArray.toList.loop,ByteArray.size]
 ·subst h; simp [fldS,fsOf,ByteArray.toList,ByteArray.toList.loop,ByteArray.size]
 ·subst h; simp [fldS,fsOf,ByteArray.toList,ByteArray.toList.loop,ByteArray.size]
 ·obtain ⟨h1,h2,h3,h4,h5,h6,h7,h8,h9,h10,h11⟩:=h
  simp [fldS,fsOf,h1,h2,h3,h4,h5,h6,h7,h8,h9,h10,h11]
def zq4 (c:Int):Int:=if c=119 then 4 else if c=110 then 4 else if c=97 then 8 else if c=104 then 32 else 0
theorem znl (R:Type) (c:Int) (k:Int→Option R):F52 R c k=k (zq4 c):=by
 simp only [F52,p52];unfold zq4
 by_cases h1:c=119
 ·subst h1; rfl
 by_cases h2:c=110
 ·subst h2; rfl
 by_cases h3:c=97
 ·subst h3; rfl
 by_cases h4:c=104
 ·subst h4; rfl
 simp only [A1 h1,A1 h2,A1 h3,A1 h4];simp [h1,h2,h3,h4]
end Go.PG
namespace Go.PG
theorem Q4 {n:Int} (hn:U64 n):∀(m:Nat) (s:Src),SOK s→Bi s=true→64*(m:Int)≤Ex s→(Es n m s).2.2=0∨(Es n m s).2.2=9
 | 0,s,_,_,_=>.inr rfl
 | m+1,s,hs,hr,hl=>by
  have hk:=(zig hn).1;have ht:=zce (s:=s) (n:=B9 n) hr hk (by omega);have h2:=zgv hs hr (k:=B9 n) (by omega);simp only [Es,ht];rw [if_pos trivial]
  by_cases hv:Nn s (atS s) (B9 n)<n
  ·rw [if_pos hv]; exact .inl rfl
  ·rw [if_neg hv]
   have hs2:=T8 hs (B9 n);rw [ht] at hs2;exact Q4 hn m _ hs2 h2.1 (by rw [h2.2]; omega)
theorem zg6 {l:List Int} (h:AllU64 l):∀(i:Nat),i≤l.length→(posN l i≠0↔0<sumS l i)
 | 0,_=>by simp [posN,sumS]
 | i+1,hi=>by
  have hi':i<l.length:=by omega
  have ih:=zg6 h i (by omega);have h0:=A2 h i;have hx:=(Au h I5 i)
  unfold U64 at hx;rw [Uz hi',B0 hi']
  by_cases e:l.getD i 0>0
  ·rw [if_pos e]; omega
  ·rw [if_neg e]
   have:l.getD i 0=0:=by omega
   rw [this];omega
theorem Sk {l:List Int} (h:AllU64 l):posS l≠0↔0<totS l:=by
 have:=zg6 h l.length (Nat.le_refl _);unfold posS totS;omega
theorem zcj {l:List Int} {a:Int} {j:Nat} (hj:j≤l.length):sumS (l++[a]) j=sumS l j:=by
 unfold sumS; rw [List.take_append_of_le_length hj]
theorem zyf {l:List Int} (h:AllU64 l) (hlen:l.length≤199) (ht:totS l<9223372036854775808) {x:Int} (hx:0≤x∧x<totS l):ownN (l++[0]) x=ownN l x:=by
 obtain ⟨i,hi,e⟩:=zc2 h (by omega) ht hx;rw [e];have hA:AllU64 (l++[0]):=fun y hy=>by
  rcases List.mem_append.1 hy with hy | hy
  ·exact h y hy
  ·rw [List.mem_singleton.1 hy]; exact I5
 refine Yc hA ⟨by rw [List.length_append]; have:=hi.1; omega,?_⟩;rw [zcj (by have:=hi.1; omega),zcj (by have:=hi.1; omega)];exact hi.2
theorem Vx {n:Int}:∀(m:Nat) (s:Src),(Es n m s).2.2=0→(Es n m s).1<n
 | 0,s,h=>by simp [Es] at h
 | m+1,s,h=>by
  simp only [Es] at h ⊢;split
  ·rename_i h1
   rw [if_pos h1] at h;split
   ·assumption
   ·rename_i h2
    rw [if_neg h2] at h;exact Vx m _ h
  ·rename_i h1
   rw [if_neg h1] at h;exact absurd h h1
theorem zkn {s:Src} {n m:Int} (h:(B3 s n m).2.2=0):0≤(B3 s n m).1∧(B3 s n m).1<n:=by
 unfold B3 at h ⊢;split
 ·rename_i hc
  rw [if_pos hc] at h;exact ⟨H5 _ _,Vx _ _ h⟩
 ·rename_i hc
  rw [if_neg hc] at h;cases h
theorem zsa {a:List Int} {slot m:Int} {l:List Int} (h:AllU64 l) (hlen:l.length≤199):leaS a slot m (l++[0])=leaS a slot m l:=by
 unfold leaS;rw [Hu,Int.add_zero]
 by_cases hm:mayS m slot=true
 ·rw [if_pos hm,if_pos hm]
  by_cases ht:totS l<9223372036854775808
  ·rw [if_pos ht,if_pos ht]
   have:∀s:Src,Cn (l++[0]) s m=Cn l s m:=fun s=>by
    unfold Cn;rw [Hu,Int.add_zero,if_pos ht,if_pos ht]
    by_cases h0:totS l=0
    ·rw [if_pos h0,if_pos h0]
    ·rw [if_neg h0,if_neg h0]
     by_cases hd:(B3 s (totS l) m).2.2=0
     ·rw [if_pos hd,if_pos hd,zyf h hlen ht (zkn hd)]
     ·rw [if_neg hd,if_neg hd]
   rw [this]
  ·rw [if_neg ht,if_neg ht]
 ·rw [if_neg hm,if_neg hm]
theorem zr9 {a:List Int} (ha:H32 a) {slot m:Int} {l:List Int} (h:AllU64 l) (hm:mayS m slot=true) (ht:totS l<9223372036854775808) (hp:0<totS l):
  ((leaS a slot m l).2=0∧0≤(leaS a slot m l).1)∨(leaS a slot m l).2=9:=by
 obtain ⟨m1,m2,m3,m4⟩:=Ko hm;unfold leaS;rw [if_pos hm,if_pos ht];have hs:=Sa ha (d:=1) (slot:=slot) (by omega) (by omega);have hr:Bi (srcS a 1 slot)=true:=by
  unfold Bi srcS C0; simp
 have hl:Ex (srcS a 1 slot)=4611686018427387904:=by
  unfold Ex; rw [if_pos hr]; unfold endS srcS C0; simp
 have hu:U64 (totS l):=by unfold U64; omega
 simp only [];unfold Cn;rw [if_pos ht,if_neg (by omega)];have hd:(B3 (srcS a 1 slot) (totS l) m)=Es (totS l) m.toNat (srcS a 1 slot):=by
  unfold B3;rw [if_pos ⟨hr,hp,ht,by omega,by omega⟩]
 have he:=Q4 hu m.toNat (srcS a 1 slot) hs hr (by rw [hl]; omega);rw [←hd] at he
 by_cases h0:(B3 (srcS a 1 slot) (totS l) m).2.2=0
 ·rw [if_pos h0]; exact .inl ⟨rfl,Int.natCast_nonneg _⟩
 ·rw [if_neg h0]; exact .inr (he.resolve_left h0)
end Go.PG
namespace Go.PG
abbrev Led:=Cfg×(Int×(List Va×(Bea×(List Int×(List Int×Unit)))))
abbrev An:=Int×(Int×(List Int×(List Int×Unit)))
abbrev Clk:=Led×(An×Unit)
def badS (e:Int):An:=(e,(0:Int),([]:List Int),(List.replicate 32 (0:Int)),())
def okS (n:Int):An:=((0:Int),n,([]:List Int),(List.replicate 32 (0:Int)),())
def Cf (l:Led) (r:List Va×Int×Int):Led×An:=if r.2.2=0 then ((l.1,l.2.1,r.1,l.2.2.2),okS r.2.1) else (l,badS r.2.2)
def E2 (l:Led) (r:Bea×Int):Led×An:=if r.2=0 then ((l.1,l.2.1,l.2.2.1,r.1,l.2.2.2.2),okS 0) else (l,badS r.2)
def Cy (l:Led) (w:Int):Bool:=decide (0≤w∧w<(l.2.2.1.length:Int))
def advS (l:Led):Led×An:=
 if zj5 l.1 l.2.1=true then
  (if (bEnd l.2.2.2.1).2.2.2=0 then
   ((l.1,Kl l.1 l.2.1,actS l.2.2.1,(bEnd l.2.2.2.1).1,(schL (bEnd l.2.2.2.1).1.2.1 l.1.1 l.1.2.2.2.1 (Ao (actS l.2.2.1))).1,(bEnd l.2.2.2.1).2.2.1,()),
    ((0:Int),Kl l.1 l.2.1,(bEnd l.2.2.2.1).2.2.1,(bEnd l.2.2.2.1).1.2.1,()))
  else (l,badS (bEnd l.2.2.2.1).2.2.2))
 else ((l.1,Kl l.1 l.2.1,l.2.2),okS (Kl l.1 l.2.1))
def askS (l:Led) (o:OpT):An:=
 if o.1=10 then (if Cy l o.2.1=true then okS (if o.2.2.2.2.1=0 then (l.2.2.1.getD o.2.1.toNat zV).2.1 else (l.2.2.1.getD o.2.1.toNat zV).2.2.1) else badS 5)
 else if o.1=11 then ((0:Int),l.2.2.2.1.1,([]:List Int),l.2.2.2.1.2.1,())
 else if o.2.2.2.2.1≥l.1.1 then badS 3
 else if o.1=7 then
  (if posS (Ao l.2.2.1)=0 then badS 10 else
   if (leaS l.2.2.2.1.2.1 o.2.2.2.2.1 l.1.2.2.2.1 (Ao l.2.2.1)).2=0 then ((0:Int),(0:Int),[(leaS l.2.2.2.1.2.1 o.2.2.2.2.1 l.1.2.2.2.1 (Ao l.2.2.1)).1],(List.replicate 32 (0:Int)),())
   else badS (leaS l.2.2.2.1.2.1 o.2.2.2.2.1 l.1.2.2.2.1 (Ao l.2.2.1)).2)
 else if o.1=8 then
  (if (aliS l.2.2.2.1.2.1 o.2.2.2.2.1 l.1.2.2.2.1 (Ao l.2.2.1)).2=0 then ((0:Int),(0:Int),[(aliS l.2.2.2.1.2.1 o.2.2.2.2.1 l.1.2.2.2.1 (Ao l.2.2.1)).1],(List.replicate 32 (0:Int)),())
   else badS (aliS l.2.2.2.1.2.1 o.2.2.2.2.1 l.1.2.2.2.1 (Ao l.2.2.1)).2)
 else
  (if (sitS l.2.2.2.1.2.1 o.2.2.2.2.1 o.2.1 l.1.2.2.2.1 (Ao l.2.2.1)).2=0 then ((0:Int),(0:Int),(sitS l.2.2.2.1.2.1 o.2.2.2.2.1 o.2.1 l.1.2.2.2.1 (Ao l.2.2.1)).1,(List.replicate 32 (0:Int)),())
   else badS (sitS l.2.2.2.1.2.1 o.2.2.2.2.1 o.2.1 l.1.2.2.2.1 (Ao l.2.2.1)).2)
def doS (l:Led) (o:OpT):Led×An:=
 if Bx o=true∧o.1≠0 then
  if o.1=1 then Cf l (depS l.2.2.1 o.2.2.2.1 o.2.2.1 l.1.2.2.2.2.1)
  else if o.1=2 then Cf l (wdS l.2.2.1 o.2.1 o.2.2.1)
  else if o.1=3 then Cf l (slS l.2.2.1 o.2.1 o.2.2.1)
  else if o.1=4 then (if Cy l o.2.1=true then E2 l (Ck l.2.2.2.1 (phS l.1 l.2.1) o.2.1 o.2.2.2.1) else (l,badS 5))
  else if o.1=5 then (if Cy l o.2.1=true then E2 l (Cj l.2.2.2.1 (phS l.1 l.2.1) o.2.1 o.2.2.2.1) else (l,badS 5))
  else if o.1=6 then advS l
  else (l,askS l o)
 else (l,badS 2)
structure LOK (c:Cfg) (n:Nat) (l:Led):Prop where
 cfg:l.1=c
 right:cfgS c=true
 slot:0≤l.2.1∧l.2.1<c.1
 vals:VsOK l.2.2.1
 vlen:l.2.2.1.length≤n
 next:totS (A4 l.2.2.1)<9223372036854775808
 stake:totS (Ao l.2.2.1)<9223372036854775808
 bea:Ht l.2.2.2.1
 blen:l.2.2.2.1.2.2.2.1.length≤n
 llen:(l.2.2.2.2.1.length:Int)=c.1
 lead:∀i:Nat,(i:Int)<c.1→posS (Ao l.2.2.1)≠0→l.2.2.2.2.1.getD i 0=schV l.2.2.2.1.2.1 c.2.2.2.1 (Ao l.2.2.1) i
 miss:l.2.2.2.2.2.1.length≤1000
theorem ze1 {o:OpT} (h:Bx o=true) (h0:o.1≠0):1≤o.1∧o.1≤11:=by
 unfold Bx at h;rw [Bool.and_eq_true] at h
 by_cases hv:(fsOf o.1).2=true
 ·exact Iv hv
 ·rw [if_neg hv] at h
  have:=(of_decide_eq_true h.2).2.2;exfalso;apply h0;rw [this]
theorem Sh {o:OpT} (h:Bx o=true):0≤o.2.2.2.2.1∧o.2.2.2.2.1<4294967296∧0≤o.2.1∧o.2.1<4294967296:=by
 unfold Bx at h;rw [Bool.and_eq_true] at h;have:=of_decide_eq_true h.1;omega
end Go.PG
namespace Go.PG
theorem Ta {x:Int} (h:x=0):(x !=0)=false:=by simp [h]
theorem Z3 {x:Int} (h:¬x=0):(x !=0)=true:=by simpa using h
theorem ztu (l:List Va) (key:List Int) (a most:Int) (hn:l.length≤1000):0≤(depS l key a most).2.1∧(depS l key a most).2.1≤1000:=by
 unfold depS;split
 ·cases hq:fstK l key with
  | none=>
   simp only [];split
   ·simp
   ·split
    ·simp only []; omega
    ·simp
  | some i=>
   have:=(Zv hq).1;simp only [];split
   ·simp only []; omega
   ·simp
 ·simp
section
variable {c:Cfg} {n:Nat} {l:Led}
theorem Ov (h:LOK c n l):0≤Kl l.1 l.2.1∧Kl l.1 l.2.1<c.1∧c.1≤1024:=by
 have h1:=C2 h.right;have h2:=h.slot;unfold Kl;rw [h.cfg];split
 ·omega
 ·omega
theorem zla {v:List Va} (h:VsOK v):VsOK (actS v):=fun x hx=>by
 obtain ⟨y,hy,rfl⟩:=List.mem_map.1 hx;exact ⟨(h y hy).key,(h y hy).next,(h y hy).next⟩
theorem Pg (v:List Va):Ao (actS v)=A4 v:=by simp [Ao,actS,A4,actV]
theorem zfs (v:List Va):A4 (actS v)=A4 v:=by simp [actS,A4,actV]
theorem zk3 {b:Bea} (h:Ht b):H32 (bEnd b).1.2.1∧((bEnd b).2.2.2=0→(bEnd b).2.1.2.2.2.1=(bEnd b).1.2.1):=by
 unfold bEnd;split
 ·exact ⟨Ay,fun h=>by cases h⟩
 ·split
  ·exact ⟨Ay,fun h=>by cases h⟩
  ·exact ⟨zcn _ _ _,fun _=>rfl⟩
end
end Go.PG
set_option maxRecDepth 100000
namespace Go.PG
def endC {R:Type} (l:Led) (k:Led→An→Option R) (y:Int) (p:Clk):Option R:=match (y !=0) with | true=>k l (badS y) | false=>k p.1 p.2.1
def D0 {R:Type} (l:Led) (k:Led→An→Option R) (x:Option R) (y:Bool):Option R:=match (!y) with | true=>k l (badS 2) | false=>x
theorem F14_1 (R:Type) (l:Led) {o:OpT} (hk:o.1=1) (k:Led→An→Option R):F14 R l o k=F21 R o (D0 l k (F68 R (l,okS 0,()) o (endC l k))):=by
 obtain ⟨x,r⟩:=o;cases hk
 kernel_rfl
theorem F14_2 (R:Type) (l:Led) {o:OpT} (hk:o.1=2) (k:Led→An→Option R):F14 R l o k=F21 R o (D0 l k (F69 R (l,okS 0,()) o (endC l k))):=by
 obtain ⟨x,r⟩:=o;cases hk
 kernel_rfl
theorem F14_3 (R:Type) (l:Led) {o:OpT} (hk:o.1=3) (k:Led→An→Option R):F14 R l o k=F21 R o (D0 l k (F70 R (l,okS 0,()) o (endC l k))):=by
 obtain ⟨x,r⟩:=o;cases hk
 kernel_rfl
theorem F14_4 (R:Type) (l:Led) {o:OpT} (hk:o.1=4) (k:Led→An→Option R):F14 R l o k=F21 R o (D0 l k (F71 R (l,okS 0,()) o (endC l k))):=by
 obtain ⟨x,r⟩:=o;cases hk
 kernel_rfl
theorem F14_5 (R:Type) (l:Led) {o:OpT} (hk:o.1=5) (k:Led→An→Option R):F14 R l o k=F21 R o (D0 l k (F74 R (l,okS 0,()) o (endC l k))):=by
 obtain ⟨x,r⟩:=o;cases hk
 kernel_rfl
theorem F14_6 (R:Type) (l:Led) {o:OpT} (hk:o.1=6) (k:Led→An→Option R):F14 R l o k=F21 R o (D0 l k (F76 R (l,okS 0,()) o (endC l k))):=by
 obtain ⟨x,r⟩:=o;cases hk
 kernel_rfl
theorem F14_7 (R:Type) (l:Led) {o:OpT} (hk:o.1=7) (k:Led→An→Option R):F14 R l o k=F21 R o (D0 l k (F77 R (l,okS 0,()) o (endC l k))):=by
 obtain ⟨x,r⟩:=o;cases hk
 kernel_rfl
theorem F14_8 (R:Type) (l:Led) {o:OpT} (hk:o.1=8) (k:Led→An→Option R):F14 R l o k=F21 R o (D0 l k (F78 R (l,okS 0,()) o (endC l k))):=by
 obtain ⟨x,r⟩:=o;cases hk
 kernel_rfl
theorem F14_9 (R:Type) (l:Led) {o:OpT} (hk:o.1=9) (k:Led→An→Option R):F14 R l o k=F21 R o (D0 l k (F79 R (l,okS 0,()) o (endC l k))):=by
 obtain ⟨x,r⟩:=o;cases hk
 kernel_rfl
theorem F14_10 (R:Type) (l:Led) {o:OpT} (hk:o.1=10) (k:Led→An→Option R):F14 R l o k=F21 R o (D0 l k (F80 R (l,okS 0,()) o (endC l k))):=by
 obtain ⟨x,r⟩:=o;cases hk
 kernel_rfl
theorem F14_11 (R:Type) (l:Led) {o:OpT} (hk:o.1=11) (k:Led→An→Option R):F14 R l o k=F21 R o (D0 l k (F81 R (l,okS 0,()) o (endC l k))):=by
 obtain ⟨x,r⟩:=o;cases hk
 kernel_rfl
theorem zuf (R:Type) (l:Led) {o:OpT} (hk:o.1≠1∧o.1≠2∧o.1≠3∧o.1≠4∧o.1≠5∧o.1≠6∧o.1≠7∧o.1≠8∧o.1≠9∧o.1≠10∧o.1≠11) (k:Led→An→Option R):F14 R l o k=k l (badS 2):=by
 obtain ⟨h1,h2,h3,h4,h5,h6,h7,h8,h9,h10,h11⟩:=hk;simp [F14,p14,B1,Kd.eqv];simp only [A1 h1,A1 h2,A1 h3,A1 h4,A1 h5,A1 h6,A1 h7,A1 h8,A1 h9,A1 h10,A1 h11];rfl
end Go.PG
namespace Go.PG
section
variable {c:Cfg} {n:Nat} {l:Led}
theorem B8 {R:Type} (l:Led) {o:OpT} (ho:OpOK o) (k:Led→An→Option R) (x:Option R) (z:Option R) (h1:Bx o=false→k l (badS 2)=z) (h2:Bx o=true→x=z):F21 R o (D0 l k x)=z:=by
 rw [zvz R ho];unfold D0;cases hr:Bx o with
 | false=>exact h1 hr
 | true=>exact h2 hr
theorem C1 {R:Type} (l:Led) (k:Led→An→Option R) {y:Int} (p:Clk) (h:y=0):endC l k y p=k p.1 p.2.1:=by unfold endC; rw [Ta h]
theorem Cv {R:Type} (l:Led) (k:Led→An→Option R) {y:Int} (p:Clk) (h:¬y=0):endC l k y p=k l (badS y):=by unfold endC; rw [Z3 h]
theorem O4 {R:Type} (l:Led) (k:Led→An→Option R) (r:List Va×Int×Int):endC l k r.2.2 ((l.1,l.2.1,r.1,l.2.2.2),((0:Int),r.2.1,([]:List Int),(List.replicate 32 (0:Int)),()),())=k (Cf l r).1 (Cf l r).2:=by
 unfold Cf
 by_cases hr:r.2.2=0
 ·rw [C1 l k _ hr,if_pos hr]; rfl
 ·rw [Cv l k _ hr,if_neg hr]
theorem zdk {R:Type} (l:Led) (k:Led→An→Option R) (r:Bea×Int):endC l k r.2 ((l.1,l.2.1,l.2.2.1,r.1,l.2.2.2.2),okS 0,())=k (E2 l r).1 (E2 l r).2:=by
 unfold E2
 by_cases hr:r.2=0
 ·rw [C1 l k _ hr,if_pos hr]
 ·rw [Cv l k _ hr,if_neg hr]
theorem P51 (R:Type) (h:LOK c n l) (hn:n≤100) {o:OpT} (ho:OpOK o) (k:Led→An→Option R):
  F68 R (l,okS 0,()) o (endC l k)=k (Cf l (depS l.2.2.1 o.2.2.2.1 o.2.2.1 l.1.2.2.2.2.1)).1 (Cf l (depS l.2.2.1 o.2.2.2.1 o.2.2.1 l.1.2.2.2.2.1)).2:=by
 have hl:=h.vlen;have hi:=ztu l.2.2.1 o.2.2.2.1 o.2.2.1 l.1.2.2.2.2.1 (by omega);simp only [F68,p68];rw [F110_eq R h.vals (by omega) ho.hash.1 ho.amount,Aj (n:=(depS l.2.2.1 o.2.2.2.1 o.2.2.1 l.1.2.2.2.2.1).2.1) (by omega) (by omega)];exact O4 l k _
theorem P52 (R:Type) (h:LOK c n l) (hn:n≤100) {o:OpT} (ho:OpOK o) (k:Led→An→Option R):
  F69 R (l,okS 0,()) o (endC l k)=k (Cf l (wdS l.2.2.1 o.2.1 o.2.2.1)).1 (Cf l (wdS l.2.2.1 o.2.1 o.2.2.1)).2:=by
 have hl:=h.vlen;simp only [F69,p69];rw [F111_eq R h.vals (by omega) _ ho.amount];exact O4 l k _
theorem P53 (R:Type) (h:LOK c n l) (hn:n≤100) {o:OpT} (ho:OpOK o) (k:Led→An→Option R):
  F70 R (l,okS 0,()) o (endC l k)=k (Cf l (slS l.2.2.1 o.2.1 o.2.2.1)).1 (Cf l (slS l.2.2.1 o.2.1 o.2.2.1)).2:=by
 have hl:=h.vlen;simp only [F70,p70];rw [F112_eq R h.vals (by omega) _ ho.amount];exact O4 l k _
theorem zb4 (R:Type) (p:Clk) (w:Int) (k:Int→Clk→Option R):F113 R p w k=k (if Cy p.1 w=true then 0 else 5) p:=by
 simp only [F113,p113]
 by_cases h1:w<0
 ·have e:Cy p.1 w=false:=decide_eq_false (by omega)
  simp only [decide_eq_true h1]; rw [e]; rfl
 ·simp only [decide_eq_false h1]
  by_cases h2:w≥(p.1.2.2.1.length:Int)
  ·have e:Cy p.1 w=false:=decide_eq_false (by omega)
   simp only [decide_eq_true h2]; rw [e]; rfl
  ·have e:Cy p.1 w=true:=decide_eq_true (by omega)
   simp only [decide_eq_false h2]; rw [e]; rfl
theorem P54 (R:Type) (h:LOK c n l) (hn:n≤100) {o:OpT} (ho:OpOK o) (k:Led→An→Option R):
  F71 R (l,okS 0,()) o (endC l k)=k (if Cy l o.2.1=true then E2 l (Ck l.2.2.2.1 (phS l.1 l.2.1) o.2.1 o.2.2.2.1) else (l,badS 5)).1 (if Cy l o.2.1=true then E2 l (Ck l.2.2.2.1 (phS l.1 l.2.1) o.2.1 o.2.2.2.1) else (l,badS 5)).2:=by
 have hl:=h.blen;simp only [F71,p71,Gw,zhe,zb4];cases Cy l o.2.1 with
 | false=>
  simp only [Bool.false_eq_true,if_false];exact Cv l k _ (by decide)
 | true=>
  simp only [if_true,show ((0:Int) !=0)=false from rfl,zog,F73_eq R h.bea (show l.2.2.2.1.2.2.2.1.length≤400 by omega) _ ho.who ho.hash];exact zdk l k _
theorem P57 (R:Type) (h:LOK c n l) (hn:n≤100) {o:OpT} (ho:OpOK o) (k:Led→An→Option R):
  F74 R (l,okS 0,()) o (endC l k)=k (if Cy l o.2.1=true then E2 l (Cj l.2.2.2.1 (phS l.1 l.2.1) o.2.1 o.2.2.2.1) else (l,badS 5)).1 (if Cy l o.2.1=true then E2 l (Cj l.2.2.2.1 (phS l.1 l.2.1) o.2.1 o.2.2.2.1) else (l,badS 5)).2:=by
 have hl:=h.blen;simp only [F74,p74,Gv,zhd,zb4];cases Cy l o.2.1 with
 | false=>
  simp only [Bool.false_eq_true,if_false];exact Cv l k _ (by decide)
 | true=>
  simp only [if_true,show ((0:Int) !=0)=false from rfl,zog,F75_eq R h.bea (show l.2.2.2.1.2.2.2.1.length≤400 by omega) _ _ ho.hash];exact zdk l k _
theorem zuj (h:LOK c n l) (a:List Int):(schL a l.1.1 l.1.2.2.2.1 (Ao (actS l.2.2.1))).2=0∧(schL a l.1.1 l.1.2.2.2.1 (Ao (actS l.2.2.1))).1=schP a l.1.2.2.2.1 (Ao (actS l.2.2.1)) l.1.1.toNat:=by
 have hc:=C2 h.right;have hm:mayS l.1.2.2.2.1 (l.1.1 - 1)=true:=by
  rw [h.cfg]; unfold mayS; simp; omega
 have ht:totS (Ao (actS l.2.2.1))<9223372036854775808:=by rw [Pg]; exact h.next
 unfold schL;rw [if_neg (by rw [h.cfg]; omega),if_pos hm,if_pos ht];exact ⟨rfl,rfl⟩
theorem zii (l:List Cm):(Gd l).length≤l.length:=by
 unfold Gd;simp only [List.length_map];exact List.length_filter_le _ _
theorem zfn (b:Bea):(bEnd b).2.2.1.length≤b.2.2.2.1.length:=by
 unfold bEnd;split
 ·simp
 ·split
  ·simp
  ·exact zii _
theorem P59 (R:Type) (h:LOK c n l) (hn:n≤100) {o:OpT} (k:Led→An→Option R):
  F76 R (l,okS 0,()) o (endC l k)=k (advS l).1 (advS l).2:=by
 have hl:=h.blen;have hv:=h.vlen;have hx:=Ov h;have hc:=C2 h.right;obtain ⟨hs,hf⟩:=zk3 h.bea;simp only [F76,p76,F119_eq];rw [Aj (n:=Kl l.1 l.2.1) (by omega) (by omega)];unfold advS;cases zj5 l.1 l.2.1 with
 | false=>
  simp only [Bool.false_eq_true,if_false];exact C1 l k _ rfl
 | true=>
  simp only [if_true,F120,p120,F167_eq R h.bea (show l.2.2.2.1.2.2.2.1.length≤400 by omega)]
  by_cases he:(bEnd l.2.2.2.1).2.2.2=0
  ·simp only [Ta he,if_pos he,F168_eq R (show l.2.2.1.length≤1000 by omega)]
   have hm:=zfn l.2.2.2.1;have hcl:decide (([]:List Int).length+(bEnd l.2.2.2.1).2.2.1.length≤17592186044416)=true:=by simp; omega
   simp only [F169,hcl];rw [Qf R (by rw [Kv]; omega),F170_eq R hs (by rw [h.cfg]; omega) _ (Dx (zla h.vals)) (by rw [C9,Kv]; omega)];exact C1 l k _ (zuj h _).1
  ·simp only [Z3 he,if_neg he]
   exact Cv l k _ he
theorem askS_7 (l:Led) {o:OpT} (hk:o.1=7):askS l o=if o.2.2.2.2.1≥l.1.1 then badS 3 else
  (if posS (Ao l.2.2.1)=0 then badS 10 else
   if (leaS l.2.2.2.1.2.1 o.2.2.2.2.1 l.1.2.2.2.1 (Ao l.2.2.1)).2=0 then ((0:Int),(0:Int),[(leaS l.2.2.2.1.2.1 o.2.2.2.2.1 l.1.2.2.2.1 (Ao l.2.2.1)).1],(List.replicate 32 (0:Int)),())
   else badS (leaS l.2.2.2.1.2.1 o.2.2.2.2.1 l.1.2.2.2.1 (Ao l.2.2.1)).2):=by
 unfold askS; rw [hk]; rfl
theorem askS_8 (l:Led) {o:OpT} (hk:o.1=8):askS l o=if o.2.2.2.2.1≥l.1.1 then badS 3 else
  (if (aliS l.2.2.2.1.2.1 o.2.2.2.2.1 l.1.2.2.2.1 (Ao l.2.2.1)).2=0 then ((0:Int),(0:Int),[(aliS l.2.2.2.1.2.1 o.2.2.2.2.1 l.1.2.2.2.1 (Ao l.2.2.1)).1],(List.replicate 32 (0:Int)),())
   else badS (aliS l.2.2.2.1.2.1 o.2.2.2.2.1 l.1.2.2.2.1 (Ao l.2.2.1)).2):=by
 unfold askS; rw [hk]; rfl
theorem askS_9 (l:Led) {o:OpT} (hk:o.1=9):askS l o=if o.2.2.2.2.1≥l.1.1 then badS 3 else
  (if (sitS l.2.2.2.1.2.1 o.2.2.2.2.1 o.2.1 l.1.2.2.2.1 (Ao l.2.2.1)).2=0 then ((0:Int),(0:Int),(sitS l.2.2.2.1.2.1 o.2.2.2.2.1 o.2.1 l.1.2.2.2.1 (Ao l.2.2.1)).1,(List.replicate 32 (0:Int)),())
   else badS (sitS l.2.2.2.1.2.1 o.2.2.2.2.1 o.2.1 l.1.2.2.2.1 (Ao l.2.2.1)).2):=by
 unfold askS; rw [hk]; rfl
theorem zb3 (R:Type) (p:Clk) (w:Int) (hw:0≤w) (k:Int→Clk→Option R):F121 R p w k=k (if w≥p.1.1.1 then 3 else 0) p:=by
 simp only [F121,p121,decide_eq_false (show ¬w<0 by omega)]
 by_cases h2:w≥p.1.1.1
 ·simp only [decide_eq_true h2,if_pos h2]
 ·simp only [decide_eq_false h2,if_neg h2]
theorem P60 (R:Type) (h:LOK c n l) (hn:n≤100) {o:OpT} (hr:Bx o=true) (hk:o.1=7) (k:Led→An→Option R):
  F77 R (l,okS 0,()) o (endC l k)=k l (askS l o):=by
 have hv:=h.vlen;have hA:=Dx h.vals;have hL:(Ao l.2.2.1).length≤200:=by rw [C9]; omega
 obtain ⟨hn0,_,_,_⟩:=Sh hr;have hc:=C2 h.right;simp only [F77,p77,zb3 R _ _ hn0];rw [askS_7 l hk]
 by_cases h1:o.2.2.2.2.1≥l.1.1
 ·simp only [if_pos h1,show ((3:Int) !=0)=true from rfl]
  exact Cv l k _ (show ¬(3:Int)=0 by decide)
 ·simp only [if_neg h1,show ((0:Int) !=0)=false from rfl,Qf R (show l.2.2.1.length≤1000 by omega),zea R (show (Ao l.2.2.1).length≤1000000 by omega)]
  by_cases h2:posS (Ao l.2.2.1)=0
  ·rw [if_pos h2,h2]
   exact Cv l k _ (by decide)
  ·rw [if_neg h2]
   simp only [A1 h2];obtain ⟨i,hi⟩:∃i:Nat,o.2.2.2.2.1=i:=⟨o.2.2.2.2.1.toNat,by omega⟩
   rw [hi] at h1 ⊢;have hll:=h.llen;have hcf:=h.cfg;have hil:i<l.2.2.2.2.1.length:=by rw [hcf] at h1; omega
   have hld:=h.lead i (by rw [hcf] at h1; omega) h2;simp only [A7 hil,Int.toNat_natCast,hld];have hm:mayS l.1.2.2.2.1 (i:Int)=true:=by
    rw [hcf] at h1 ⊢; unfold mayS; simp; omega
   have hE:=zr9 h.bea.seed (slot:=(i:Int)) (m:=l.1.2.2.2.1) hA hm h.stake ((Sk hA).1 h2);rw [hcf] at hE ⊢;unfold schV;rcases hE with ⟨e1,e2⟩ | e1
   ·rw [if_pos e1,if_pos e1]
    have e3:((leaS l.2.2.2.1.2.1 (i:Int) c.2.2.2.1 (Ao l.2.2.1)).1== -1)=false:=A1 (by omega);simp only [e3];exact C1 l k _ rfl
   ·have e0:¬(leaS l.2.2.2.1.2.1 (i:Int) c.2.2.2.1 (Ao l.2.2.1)).2=0:=by rw [e1]; decide
    rw [if_neg e0,if_neg e0];simp only [show ((-1:Int)== -1)=true from rfl];rw [e1];exact Cv l k _ (by decide)
theorem P61 (R:Type) (h:LOK c n l) (hn:n≤100) {o:OpT} (hr:Bx o=true) (hk:o.1=8) (k:Led→An→Option R):
  F78 R (l,okS 0,()) o (endC l k)=k l (askS l o):=by
 have hv:=h.vlen;have hA:=Dx h.vals;have hL:(Ao l.2.2.1).length≤200:=by rw [C9]; omega
 obtain ⟨hn0,_,_,_⟩:=Sh hr;simp only [F78,p78,zb3 R _ _ hn0];rw [askS_8 l hk]
 by_cases h1:o.2.2.2.2.1≥l.1.1
 ·simp only [if_pos h1,show ((3:Int) !=0)=true from rfl]
  exact Cv l k _ (show ¬(3:Int)=0 by decide)
 ·simp only [if_neg h1,show ((0:Int) !=0)=false from rfl,Qf R (show l.2.2.1.length≤1000 by omega),F124_eq R h.bea.seed _ _ hA hL]
  by_cases h2:(aliS l.2.2.2.1.2.1 o.2.2.2.2.1 l.1.2.2.2.1 (Ao l.2.2.1)).2=0
  ·rw [if_pos h2,C1 l k _ h2]; rfl
  ·rw [if_neg h2,Cv l k _ h2]
theorem P62 (R:Type) (h:LOK c n l) (hn:n≤100) {o:OpT} (hr:Bx o=true) (hk:o.1=9) (k:Led→An→Option R):
  F79 R (l,okS 0,()) o (endC l k)=k l (askS l o):=by
 have hv:=h.vlen;have hA:=Dx h.vals;have hL:(Ao l.2.2.1).length≤200:=by rw [C9]; omega
 obtain ⟨hn0,_,_,_⟩:=Sh hr;simp only [F79,p79,zb3 R _ _ hn0];rw [askS_9 l hk]
 by_cases h1:o.2.2.2.2.1≥l.1.1
 ·simp only [if_pos h1,show ((3:Int) !=0)=true from rfl]
  exact Cv l k _ (show ¬(3:Int)=0 by decide)
 ·simp only [if_neg h1,show ((0:Int) !=0)=false from rfl,Qf R (show l.2.2.1.length≤1000 by omega),F33_eq R h.bea.seed _ _ _ hA hL]
  by_cases h2:(sitS l.2.2.2.1.2.1 o.2.2.2.2.1 o.2.1 l.1.2.2.2.1 (Ao l.2.2.1)).2=0
  ·rw [if_pos h2,C1 l k _ h2]; rfl
  ·rw [if_neg h2,Cv l k _ h2]
theorem P63 (R:Type) {o:OpT} (hk:o.1=10) (k:Led→An→Option R):
  F80 R (l,okS 0,()) o (endC l k)=k l (askS l o):=by
 simp only [F80,p80,zb4];unfold askS;rw [hk,if_pos rfl];cases ht:Cy l o.2.1 with
 | false=>
  simp only [Bool.false_eq_true,if_false];exact Cv l k _ (by decide)
 | true=>
  have ht':=of_decide_eq_true ht;obtain ⟨i,hi⟩:∃i:Nat,o.2.1=i:=⟨o.2.1.toNat,by omega⟩
  have hb:bnd o.2.1 (l.2.2.1.length:Int)=true:=by rw [hi]; exact A7 (by omega)
  simp only [if_true,show ((0:Int) !=0)=false from rfl,hb]
  by_cases k2:o.2.2.2.2.1=0
  ·simp only [k2,if_true,show ((0:Int)==0)=true from rfl]
   exact C1 l k _ rfl
  ·simp only [A1 k2,if_neg k2]
   exact C1 l k _ rfl
theorem P64 (R:Type) {o:OpT} (hk:o.1=11) (k:Led→An→Option R):
  F81 R (l,okS 0,()) o (endC l k)=k l (askS l o):=by
 simp only [F81,p81];unfold askS;rw [hk,if_neg (by decide),if_pos rfl];exact C1 l k _ rfl
theorem zv0 (R:Type) (h:LOK c n l) (hn:n≤100) {o:OpT} (ho:OpOK o) (k:Led→An→Option R):F14 R l o k=k (doS l o).1 (doS l o).2:=by
 have hf:Bx o=false→k l (badS 2)=k (doS l o).1 (doS l o).2:=fun hr=>by unfold doS; rw [hr]; rfl
 have hd:Bx o=true→o.1≠0→doS l o=if o.1=1 then Cf l (depS l.2.2.1 o.2.2.2.1 o.2.2.1 l.1.2.2.2.2.1)
  else if o.1=2 then Cf l (wdS l.2.2.1 o.2.1 o.2.2.1)
  else if o.1=3 then Cf l (slS l.2.2.1 o.2.1 o.2.2.1)
  else if o.1=4 then (if Cy l o.2.1=true then E2 l (Ck l.2.2.2.1 (phS l.1 l.2.1) o.2.1 o.2.2.2.1) else (l,badS 5))
  else if o.1=5 then (if Cy l o.2.1=true then E2 l (Cj l.2.2.2.1 (phS l.1 l.2.1) o.2.1 o.2.2.2.1) else (l,badS 5))
  else if o.1=6 then advS l
  else (l,askS l o):=fun hr h0=>by unfold doS; rw [if_pos ⟨hr,h0⟩]
 rcases ze0 o.1 with q | q | q | q | q | q | q | q | q | q | q | q
 ·rw [F14_1 R l q]; exact B8 l ho k _ _ hf fun hr=>by rw [P51 R h hn ho,hd hr (by omega)]; simp [q]
 ·rw [F14_2 R l q]; exact B8 l ho k _ _ hf fun hr=>by rw [P52 R h hn ho,hd hr (by omega)]; simp [q]
 ·rw [F14_3 R l q]; exact B8 l ho k _ _ hf fun hr=>by rw [P53 R h hn ho,hd hr (by omega)]; simp [q]
 ·rw [F14_4 R l q]; exact B8 l ho k _ _ hf fun hr=>by rw [P54 R h hn ho,hd hr (by omega)]; simp [q]
 ·rw [F14_5 R l q]; exact B8 l ho k _ _ hf fun hr=>by rw [P57 R h hn ho,hd hr (by omega)]; simp [q]
 ·rw [F14_6 R l q]; exact B8 l ho k _ _ hf fun hr=>by rw [P59 R h hn,hd hr (by omega)]; simp [q]
 ·rw [F14_7 R l q]; exact B8 l ho k _ _ hf fun hr=>by rw [P60 R h hn hr q,hd hr (by omega)]; simp [q]
 ·rw [F14_8 R l q]; exact B8 l ho k _ _ hf fun hr=>by rw [P61 R h hn hr q,hd hr (by omega)]; simp [q]
 ·rw [F14_9 R l q]; exact B8 l ho k _ _ hf fun hr=>by rw [P62 R h hn hr q,hd hr (by omega)]; simp [q]
 ·rw [F14_10 R l q]; exact B8 l ho k _ _ hf fun hr=>by rw [P63 R q,hd hr (by omega)]; simp [q]
 ·rw [F14_11 R l q]; exact B8 l ho k _ _ hf fun hr=>by rw [P64 R q,hd hr (by omega)]; simp [q]
 ·rw [zuf R l q]
  have:¬(Bx o=true∧o.1≠0):=fun hh=>by have:=ze1 hh.1 hh.2; omega
  unfold doS;rw [if_neg this]
end
end Go.PG
namespace Go.PG
theorem zci:∀(l:List Int) (i:Nat) (x:Int),i<l.length→(l.set i x).sum=l.sum - l.getD i 0+x
 | [],i,_,h=>by simp at h
 | y::l,0,x,_=>by simp; omega
 | y::l,i+1,x,h=>by
  have:=zci l i x (by simpa using h);simp only [List.set_cons_succ,List.sum_cons,List.getD_cons_succ];omega
theorem zcc (l:List Int):totS l=l.sum:=by unfold totS sumS; rw [List.take_length]
theorem Je {l:List Va} {i:Nat} (hi:i<l.length) (x:Int):Ao (J6 l i x)=Ao l:=by
 unfold Ao J6;rw [List.map_set];apply List.ext_getElem
 ·simp
 ·intro j h1 h2
  rw [List.getElem_set];split
  ·rename_i e; subst e; rw [Ez hi]; simp
  ·rfl
theorem La {l:List Va} {i:Nat} (hi:i<l.length) (x:Int):totS (A4 (J6 l i x))=totS (A4 l) - (l.getD i zV).2.2.1+x:=by
 have e:A4 (J6 l i x)=(A4 l).set i x:=by unfold A4 J6; rw [List.map_set]
 rw [e,zcc,zcc,zci _ _ _ (by rw [Fa]; exact hi)];have:(A4 l).getD i 0=(l.getD i zV).2.2.1:=by rw [Ez hi]; simp [A4,hi]
 rw [this]
theorem Xr {l:List Va} (h:VsOK l) (i:Nat) {x:Int} (hx:U64 x):VsOK (J6 l i x):=fun v hv=>by
 rcases List.mem_or_eq_of_mem_set hv with h1 | h1
 ·exact h v h1
 ·rw [h1]; exact ⟨(h.get i).key,(h.get i).stake,hx⟩
theorem R0 (l:List Va) (i:Nat) (x:Int):(J6 l i x).length=l.length:=by simp [J6]
section
variable {c:Cfg} {n:Nat} {l:Led}
theorem LOK.mono (h:LOK c n l):LOK c (n+1) l:=⟨h.cfg,h.right,h.slot,h.vals,by have:=h.vlen; omega,h.next,h.stake,h.bea,by have:=h.blen; omega,h.llen,h.lead,h.miss⟩
structure MOK (l:Led) (n:Nat) (v:List Va):Prop where
 vals:VsOK v
 vlen:v.length≤n+1
 next:totS (A4 v)<9223372036854775808
 stake:Ao v=Ao l.2.2.1∨Ao v=Ao l.2.2.1++[0]
theorem Sp (h:LOK c n l) (hn:n≤100) {r:List Va×Int×Int} (hr:r.2.2=0→MOK l n r.1):LOK c (n+1) (Cf l r).1:=by
 unfold Cf;split
 ·rename_i h0
  have hm:=hr h0;have hA:=Dx h.vals;have hv:=h.vlen;refine ⟨h.cfg,h.right,h.slot,hm.vals,hm.vlen,hm.next,?_,h.bea,by have:=h.blen; exact Nat.le_succ_of_le this,h.llen,fun i hi hp=>?_,h.miss⟩
  ·rcases hm.stake with e | e
   ·simp only [e]; exact h.stake
   ·simp only [e,Hu,Int.add_zero]; exact h.stake
  ·rcases hm.stake with e | e
   ·simp only [e] at hp ⊢; exact h.lead i hi hp
   ·simp only [e] at hp ⊢
    have hp':posS (Ao l.2.2.1)≠0:=by
     rw [Sk hA];have hA2:AllU64 (Ao l.2.2.1++[0]):=by rw [←e]; exact Dx hm.vals
     have:=(Sk hA2).1 hp
     rwa [Hu,Int.add_zero] at this
    rw [h.lead i hi hp'];unfold schV;rw [zsa hA (by rw [C9]; omega)]
 ·exact h.mono
theorem dep_ok (h:LOK c n l) (hn:n≤100) {o:OpT} (ho:OpOK o) (most:Int) (h0:(depS l.2.2.1 o.2.2.2.1 o.2.2.1 most).2.2=0):MOK l n (depS l.2.2.1 o.2.2.2.1 o.2.2.1 most).1:=by
 have hv:=h.vlen;have ha:=ho.amount;unfold U64 at ha;unfold depS at h0 ⊢;split
 ·rename_i hc
  rw [if_pos hc] at h0;cases hq:fstK l.2.2.1 o.2.2.2.1 with
  | none=>
   rw [hq] at h0;simp only [] at h0 ⊢;split
   ·rename_i h1; rw [if_pos h1] at h0; cases h0
   ·rename_i h1
    rw [if_neg h1] at h0;split
    ·rename_i h2
     refine ⟨fun v hvm=>?_,by simp; omega,?_,.inr ?_⟩
     ·rcases List.mem_append.1 hvm with h3 | h3
      ·exact h.vals v h3
      ·rw [List.mem_singleton.1 h3]; exact ⟨ho.hash,I5,ho.amount⟩
     ·have:A4 (l.2.2.1++[(o.2.2.2.1,0,o.2.2.1,())])=A4 l.2.2.1++[o.2.2.1]:=by simp [A4]
      simp only [this,Hu];exact h2
     ·simp [Ao]
    ·rename_i h2; rw [if_neg h2] at h0; cases h0
  | some i=>
   rw [hq] at h0;obtain ⟨hi,_⟩:=Zv hq;have hx:=(h.vals.get i).next;have hnx:=zif h.vals hi;unfold U64 at hx;simp only [] at h0 ⊢;split
   ·rename_i h2
    refine ⟨Xr h.vals i (by unfold U64; omega),by rw [R0]; omega,?_,.inl (Je hi _)⟩;rw [La hi];omega
   ·rename_i h2; rw [if_neg h2] at h0; cases h0
 ·rename_i hc; rw [if_neg hc] at h0; cases h0
theorem wd_ok (h:LOK c n l) (w a:Int) (ha:U64 a) (h0:(wdS l.2.2.1 w a).2.2=0):MOK l n (wdS l.2.2.1 w a).1:=by
 have hv:=h.vlen;have ht:=h.next;unfold U64 at ha;unfold wdS at h0 ⊢;split
 ·rename_i hc
  rw [if_pos hc] at h0;split
  ·rename_i h1
   rw [if_pos h1] at h0;have hi:w.toNat<l.2.2.1.length:=by omega
   have hx:=(h.vals.get w.toNat).next;unfold U64 at hx;split
   ·rename_i h2
    refine ⟨Xr h.vals _ (by unfold U64; omega),by rw [R0]; omega,?_,.inl (Je hi _)⟩;rw [La hi];omega
   ·rename_i h2; rw [if_neg h2] at h0; cases h0
  ·rename_i h1; rw [if_neg h1] at h0; cases h0
 ·rename_i hc; rw [if_neg hc] at h0; cases h0
theorem sl_ok (h:LOK c n l) (w a:Int) (ha:U64 a) (h0:(slS l.2.2.1 w a).2.2=0):MOK l n (slS l.2.2.1 w a).1:=by
 have hv:=h.vlen;have ht:=h.next;unfold U64 at ha;unfold slS at h0 ⊢;split
 ·rename_i hc
  rw [if_pos hc] at h0;split
  ·rename_i h1
   rw [if_pos h1] at h0;have hi:w.toNat<l.2.2.1.length:=by omega
   have hx:=(h.vals.get w.toNat).next;unfold U64 at hx;refine ⟨Xr h.vals _ (by unfold U64; omega),by rw [R0]; omega,?_,.inl (Je hi _)⟩;rw [La hi];omega
  ·rename_i h1; rw [if_neg h1] at h0; cases h0
 ·rename_i hc; rw [if_neg hc] at h0; cases h0
theorem V5 {b:Bea} {ph w:Int} {x:List Int} (h0:(Ck b ph w x).2=0):(Ck b ph w x).1.1=b.1∧(Ck b ph w x).1.2.1=b.2.1:=by
 unfold Ck at h0 ⊢;split
 ·rename_i h1; rw [if_pos h1] at h0; cases h0
 ·rename_i h1
  rw [if_neg h1] at h0;split
  ·rename_i h2
   rw [if_pos h2] at h0;unfold Nm at h0 ⊢;split
   ·exact ⟨rfl,rfl⟩
   ·rename_i h3; rw [if_neg h3] at h0; exact absurd h0 h3
  ·rename_i h2; rw [if_neg h2] at h0; cases h0
theorem V4 {b:Bea} {ph w:Int} {x:List Int} (h0:(Cj b ph w x).2=0):(Cj b ph w x).1.1=b.1∧(Cj b ph w x).1.2.1=b.2.1:=by
 unfold Cj at h0 ⊢;split
 ·rename_i h1; rw [if_pos h1] at h0; cases h0
 ·rename_i h1
  rw [if_neg h1] at h0;split
  ·rename_i h2
   rw [if_pos h2] at h0;unfold Nm at h0 ⊢;split
   ·exact ⟨rfl,rfl⟩
   ·rename_i h3; rw [if_neg h3] at h0; exact absurd h0 h3
  ·rename_i h2; rw [if_neg h2] at h0; cases h0
theorem zgi (h:LOK c n l) {r:Bea×Int} (hr:Ht r.1∧r.1.2.2.2.1.length≤l.2.2.2.1.2.2.2.1.length+1) (hs:r.2=0→r.1.1=l.2.2.2.1.1∧r.1.2.1=l.2.2.2.1.2.1):LOK c (n+1) (E2 l r).1:=by
 have hb:=h.blen;have hv:=h.vlen;unfold E2;split
 ·rename_i h0
  have:=(hs h0).2;exact ⟨h.cfg,h.right,h.slot,h.vals,by simp only []; omega,h.next,h.stake,hr.1,by have:=hr.2; simp only []; omega,h.llen,fun i hi hp=>by simp only [this]; exact h.lead i hi hp,h.miss⟩
 ·exact h.mono
theorem zp9 (a:List Int) (m:Int) (l:List Int) {n i:Nat} (h:i<n):(schP a m l n).getD i 0=schV a m l i:=by
 unfold schP;simp [h]
theorem adv_ok (h:LOK c n l) (hn:n≤100):LOK c (n+1) (advS l).1:=by
 have hb:=h.blen;have hv:=h.vlen;have hx:=Ov h;have hc:=C2 h.right;unfold advS;split
 ·split
  ·obtain ⟨b1,b2⟩:=bEnd_ok h.bea
   have hm:=zk4 l.2.2.2.1;rw [(zuj h _).2];refine ⟨h.cfg,h.right,⟨hx.1,hx.2.1⟩,zla h.vals,by simp only [Kv]; omega,by simp only [zfs]; exact h.next,by simp only [Pg]; exact h.next,b1,by simp only [b2]; omega,?_,fun i hi _=>?_,by simp only []; omega⟩
   ·simp only [In,h.cfg]; omega
   ·simp only [h.cfg]
    exact zp9 _ _ _ (by omega)
  ·exact h.mono
 ·exact ⟨h.cfg,h.right,⟨hx.1,hx.2.1⟩,h.vals,by simp only []; omega,h.next,h.stake,h.bea,by simp only []; omega,h.llen,h.lead,h.miss⟩
theorem do_ok (h:LOK c n l) (hn:n≤100) {o:OpT} (ho:OpOK o):LOK c (n+1) (doS l o).1:=by
 unfold doS;split
 ·split
  ·exact Sp h hn (dep_ok h hn ho _)
  ·split
   ·exact Sp h hn (wd_ok h _ _ ho.amount)
   ·split
    ·exact Sp h hn (sl_ok h _ _ ho.amount)
    ·split
     ·split
      ·exact zgi h (zfo h.bea _ ho.who ho.hash) V5
      ·exact h.mono
     ·split
      ·split
       ·have:=zfl h.bea (phS l.1 l.2.1) o.2.1 ho.hash
        exact zgi h ⟨this.1,by omega⟩ V4
       ·exact h.mono
      ·split
       ·exact adv_ok h hn
       ·exact h.mono
 ·exact h.mono
end
end Go.PG
namespace Go.PG
theorem zuq {l:List Int} {o:Nat} {d:List Int} (h:o+d.length≤l.length):lay l o d=l.take o++d++l.drop (o+d.length):=by
 simp [lay]
def repS (j n:Nat):List Int:=List.replicate j (-1)++List.replicate (n - j) 0
theorem zqe {j n:Nat} (h:j≤n):(repS j n).length=n:=by simp [repS]; omega
theorem Ux {j n i:Nat} (h:i≤j):(repS j n).take i=List.replicate i (-1):=by
 unfold repS;rw [List.take_append_of_le_length (by simpa using h),List.take_replicate,Nat.min_eq_left h]
theorem zgx {j n d:Nat} (h:j+d≤n):(repS j n).take j++List.replicate d (-1)++(repS j n).drop (j+d)=repS (j+d) n:=by
 rw [Ux (Nat.le_refl j)];unfold repS;rw [List.drop_append,List.drop_eq_nil_of_le (by simp),List.nil_append,List.length_replicate,List.drop_replicate,List.replicate_append_replicate,show n - j - (j+d - j)=n - (j+d) by omega]
theorem zvn (R:Type) {n:Nat} (hn:n≤1024) (k0:List Int→Option R):∀(m j:Nat),1≤j→j≤n→n - j<m→zal m R (j:Int) (repS j n) k0=k0 (List.replicate n (-1))
 | 0,j,_,_,h=>by omega
 | m+1,j,h0,h1,h2=>by
  simp only [zal,zya];have hl:=zqe h1
  by_cases hj:j<n
  ·have hd:min j (n - j)≤n - j:=Nat.min_le_right _ _
   have hd1:1≤min j (n - j):=by omega
   have ih:=zvn R hn k0 m (j+min j (n - j)) (by omega) (by omega) (by omega);have c1:decide ((j:Int)<((repS j n).length:Int))=true:=by rw [hl]; exact Du hj
   have c2:decide ((0:Int)≤(j:Int)∧(j:Int)≤((repS j n).length:Int)∧((repS j n).length:Int)≤((repS j n).length:Int)∧((repS j n).length:Int)≤((repS j n).length:Int))=true:=by rw [hl]; simp; omega
   have c3:decide ((0:Int)≤0∧(0:Int)≤(j:Int)∧(j:Int)≤(j:Int)∧(j:Int)≤((repS j n).length:Int))=true:=by rw [hl]; simp; omega
   simp only [c1,c2,c3];have t1:List.take (Int.toNat ((j:Int) - 0)) (List.drop 0 (repS j n))=List.replicate j (-1):=by
    rw [Int.sub_zero,Int.toNat_natCast,List.drop_zero,Ux (Nat.le_refl j)]
   have t2:Int.toNat (((repS j n).length:Int) - (j:Int))=n - j:=by rw [hl]; omega
   rw [t1,t2,List.take_replicate,List.length_replicate];have t3:lay (repS j n) (Int.toNat (j:Int)) (List.replicate (min (n - j) j) (-1))=repS (j+min j (n - j)) n:=by
    rw [Int.toNat_natCast,zuq (by rw [List.length_replicate,hl]; omega),List.length_replicate,Nat.min_comm (n - j) j,zgx (by omega)]
   rw [t3,show IntKind.i64.wrap ((j:Int)+((min j (n - j):Nat):Int))=((j+min j (n - j):Nat):Int) by rw [wrap_i64 (by omega) (by omega)]; omega];exact ih
  ·have:j=n:=by omega
   subst this;have c1:decide ((j:Int)<((repS j j).length:Int))=false:=by rw [hl]; simp
   simp only [c1];unfold repS;rw [Nat.sub_self,List.replicate_zero,List.append_nil]
theorem F36_eq (R:Type) {n:Int} (h0:1≤n) (hn:n≤1024) (k:List Int→Option R):F36 R [-1] n k=k (List.replicate n.toNat (-1)):=by
 obtain ⟨j,rfl⟩:∃j:Nat,n=j:=⟨n.toNat,by omega⟩
 simp only [F36,p36,F66,p66];have e1:decide ((j:Int)<0)=false:=by simp
 have w1:IntKind.u64.wrap ((([-1]:List Int).length:Nat):Int)=1:=by decide
 have w2:IntKind.u64.wrap (j:Int)=(j:Int):=Aj (by omega) (by omega);simp only [e1,w1,w2];rw [zoh R (a:=1) (b:=(j:Int)) (by unfold U64; omega) (by unfold U64; omega)];rw [Int.one_mul,w2,show (j:Int)/18446744073709551616=0 by omega,wrap_i64 (n:=(j:Int)) (by omega) (by omega)];have e2:decide ((0:Int)>0)=false:=rfl;have e3:decide ((j:Int)>9223372036854775807)=false:=by simp; omega
 have e4:decide ((0:Int)≤(j:Int)∧(j:Int)≤(j:Int)∧(j:Int)≤17592186044416)=true:=by simp; omega
 simp only [e2,e3,e4,Int.toNat_natCast,List.length_replicate];have t1:lay (List.replicate j (0:Int)) 0 (List.take j [-1])=repS 1 j:=by
  rw [List.take_of_length_le (by simp; omega),zuq (by simp; omega)];simp [repS,List.replicate_succ']
 have t2:((min ([-1]:List Int).length j:Nat):Int)=((1:Nat):Int):=by
  rw [show min ([-1]:List Int).length j=1 by simp; omega]
 rw [t1,t2];exact zvn R (by omega) (fun x=>k x) FUEL 1 (by omega) (by omega) (by rw [Am]; omega)
abbrev zLed:Led:=(((0:Int),(0:Int),(0:Int),(0:Int),(0:Int),()),(0:Int),([]:List Va),((0:Int),(List.replicate 32 (0:Int)),(List.replicate 32 (0:Int)),([]:List Cm),()),([]:List Int),([]:List Int),())
def newS (c:Cfg) (a:List Int):Led:=(c,(0:Int),[],((0:Int),a,(List.replicate 32 (0:Int)),[],()),List.replicate c.1.toNat (-1),[],())
theorem zv1 (R:Type) (c:Cfg) (a:List Int) (k:Led→Int→Option R):F11 R c a k=if cfgS c=true then k (newS c a) 0 else k zLed 1:=by
 simp only [F11,p11,znp,F35,p35];cases hc:cfgS c with
 | false=>rfl
 | true=>
  have hr:=C2 hc;simp only [Bool.not_true,if_true];rw [F36_eq R hr.1 hr.2.1];rfl
def zfi (a:List Int):Cfg:=(1+a.getD 0 0 % 6,a.getD 1 0 % (1+a.getD 0 0 % 6+1),a.getD 2 0 % (1+a.getD 0 0 % 6 - a.getD 1 0 % (1+a.getD 0 0 % 6+1)+1),1+a.getD 3 0 % 64,1+a.getD 4 0 % 6,())
theorem conf_ok {x y z u v:Int} (h1:1≤x∧x≤6) (h2:0≤y∧y≤x) (h3:0≤z∧z≤x - y) (h4:1≤u∧u≤64) (h5:1≤v∧v≤6):cfgS (x,y,z,u,v,())=true:=by
 unfold cfgS;simp only [decide_eq_true_eq];omega
theorem ztw (a:List Int):cfgS (zfi a)=true∧(zfi a).1≤6∧(zfi a).2.2.2.2.1≤6:=by
 unfold zfi;generalize a.getD 0 0=a0;generalize a.getD 1 0=a1;generalize a.getD 2 0=a2;generalize a.getD 3 0=a3;generalize a.getD 4 0=a4;have h0:0≤a0 % 6∧a0 % 6<6:=by omega
 generalize a0 % 6=x at h0;have m1:=Int.emod_nonneg a1 (show (1+x+1)≠0 by omega);have m2:=Int.emod_lt_of_pos a1 (show 0<(1+x+1) by omega);generalize a1 % (1+x+1)=y at m1 m2;have m3:=Int.emod_nonneg a2 (show (1+x - y+1)≠0 by omega);have m4:=Int.emod_lt_of_pos a2 (show 0<(1+x - y+1) by omega);generalize a2 % (1+x - y+1)=z at m3 m4;have h3:0≤a3 % 64∧a3 % 64<64:=by omega
 generalize a3 % 64=u at h3;have h4:0≤a4 % 6∧a4 % 6<6:=by omega
 generalize a4 % 6=v at h4;exact ⟨conf_ok (by omega) (by omega) (by omega) (by omega) (by omega),(show 1+x≤6 by omega),(show 1+v≤6 by omega)⟩
theorem w64 {x:Int} (h0:0≤x) (h1:x≤100000):IntKind.i64.wrap x=x:=wrap_i64 (by omega) (by omega)
theorem F12_eq (R:Type) {a:List Int} (h:AllU8 a) (k:Cfg→Option R):F12 R a k=k (zfi a):=by
 have u:∀i,0≤a.getD i 0∧a.getD i 0<256:=fun i=>Au (p:=U8) h (by unfold U8; omega) i
 have u0:=u 0; have u1:=u 1; have u2:=u 2; have u3:=u 3; have u4:=u 4;unfold F12 p12;dsimp only;unfold zfi;generalize a.getD 0 0=a0 at u0;generalize a.getD 1 0=a1 at u1;generalize a.getD 2 0=a2 at u2;generalize a.getD 3 0=a3 at u3;generalize a.getD 4 0=a4 at u4;rw [Int.tmod_eq_emod_of_nonneg u0.1,Int.tmod_eq_emod_of_nonneg u3.1,Int.tmod_eq_emod_of_nonneg u4.1];have h0:0≤a0 % 6∧a0 % 6<6:=by omega
 generalize a0 % 6=x at h0;have h3:0≤a3 % 64∧a3 % 64<64:=by omega
 generalize a3 % 64=v at h3;have h4:0≤a4 % 6∧a4 % 6<6:=by omega
 generalize a4 % 6=w at h4;rw [w64 (x:=x) (by omega) (by omega),w64 (x:=1+x) (by omega) (by omega),w64 (x:=v) (by omega) (by omega),w64 (x:=1+v) (by omega) (by omega),w64 (x:=w) (by omega) (by omega),w64 (x:=1+w) (by omega) (by omega),w64 (x:=a1) (by omega) (by omega),w64 (x:=1+x+1) (by omega) (by omega)];have z1:(!(1+x+1==0))=true:=by rw [A1 (by omega)]; rfl
 simp only [z1];have m0:Int.tmod a1 (1+x+1)=a1 % (1+x+1):=Int.tmod_eq_emod_of_nonneg u1.1;have m1:=Int.emod_nonneg a1 (show (1+x+1)≠0 by omega);have m2:=Int.emod_lt_of_pos a1 (show 0<(1+x+1) by omega);rw [m0];generalize a1 % (1+x+1)=y at m1 m2;rw [w64 (x:=a2) (by omega) (by omega),w64 (x:=1+x - y) (by omega) (by omega),w64 (x:=1+x - y+1) (by omega) (by omega)];have z2:(!(1+x - y+1==0))=true:=by rw [A1 (by omega)]; rfl
 simp only [z2];have m3:Int.tmod a2 (1+x - y+1)=a2 % (1+x - y+1):=Int.tmod_eq_emod_of_nonneg u2.1;rw [m3]
theorem zuo {c:Cfg} (hc:cfgS c=true) {a:List Int} (ha:H32 a):LOK c 0 (newS c a):=by
 have hr:=C2 hc;refine ⟨rfl,hc,⟨by simp [newS],by simp only [newS]; omega⟩,fun v hv=>(by cases hv),by simp [newS],by simp [newS,A4,totS,sumS],by simp [newS,Ao,totS,sumS],⟨by simp [newS],ha,Ay,zy1⟩,by simp [newS],by simp [newS]; omega,fun i _ hp=>?_,by simp [newS]⟩;exact absurd rfl hp
end Go.PG
namespace Go.PG
section
variable {c:Cfg} {n:Nat} {l:Led}
def Ld:Led→List OpT→Led×List An
 | l,[]=>(l,[])
 | l,o::r=>((Ld (doS l o).1 r).1,(doS l o).2::(Ld (doS l o).1 r).2)
theorem Zu {ops:List OpT} {i:Nat} (hi:i<ops.length):ops.getD i zO=ops[i]:=by simp [hi]
theorem zvl (R:Type) {ops:List OpT} (ho:∀o∈ops,OpOK o) (x5:Led) (k0:Led→Led→List An→Option R):∀(m i:Nat) {n:Nat} (l:Led) (acc:List An),LOK c n l→n+(ops.length - i)≤100→acc.length+(ops.length - i)≤1000→i≤ops.length→ops.length≤1000→ops.length - i<m→
  zak m R ops (ops.length:Int) (i:Int) l x5 acc k0=k0 (Ld l (ops.drop i)).1 x5 (acc++(Ld l (ops.drop i)).2)
 | 0,i,n,l,acc,_,_,_,_,_,h=>by omega
 | m+1,i,n,l,acc,h,hn,ha,h1,hL,h2=>by
  simp only [zak,zx9]
  by_cases hi:i<ops.length
  ·have hoi:=ho _ (List.getElem_mem hi)
   have ih:=zvl R ho x5 k0 m (i+1) (n:=n+1) (doS l ops[i]).1 (acc++[(doS l ops[i]).2]) (do_ok h (by omega) hoi) (by omega) (by simp; omega) (by omega) hL (by omega);have c1:decide (acc.length+[(doS l ops[i]).2].length≤1954687338268)=true:=by simp; omega
   rw [List.drop_eq_getElem_cons hi];simp only [Du hi,A7 hi,Int.toNat_natCast,B5 hi hL,Zu hi,zv0 R h (show n≤100 by omega) hoi,c1];rw [ih];simp only [Ld,List.append_assoc,List.cons_append,List.nil_append]
  ·have:i=ops.length:=by omega
   subst this;simp only [Da,List.drop_length,Ld,List.append_nil]
theorem F42_eq (R:Type) (h:LOK c n l) {ops:List OpT} (ho:∀o∈ops,OpOK o) (hn:n+ops.length≤100) (k:Led→List An→Option R):F42 R l ops k=k (Ld l ops).1 (Ld l ops).2:=by
 simp only [F42,p42];have:=zvl R ho zLed (fun x2 x3 x4=>k x2 x4) FUEL 0 l [] h (by omega) (by simp; omega) (by omega) (by omega) (by rw [Am]; omega);rw [List.drop_zero,List.nil_append] at this;exact this
end
end Go.PG
namespace Go.PG
def beN (l:List Int):Int:=l.foldl (fun a x=>a*256+x) 0
theorem be4 {l:List Int} (hl:l.length=4) (h:AllU8 l):U32 (beN l)∧Bt (beN l)=l:=by
 match l,hl with
 | [a,b,c,d],_=>
  have ha:=h a (by simp); have hb:=h b (by simp); have hc:=h c (by simp); have hd:=h d (by simp);unfold U8 at ha hb hc hd;have e:beN [a,b,c,d]=((a*256+b)*256+c)*256+d:=by simp [beN]
  rw [e];unfold U32 Bt;refine ⟨by omega,?_⟩;simp only [List.cons.injEq,and_true];omega
theorem be8 {l:List Int} (hl:l.length=8) (h:AllU8 l):U64 (beN l)∧putS (beN l)=l:=by
 match l,hl with
 | [a,b,c,d,e,f,g,i],_=>
  have ha:=h a (by simp); have hb:=h b (by simp); have hc:=h c (by simp); have hd:=h d (by simp);have he:=h e (by simp); have hf:=h f (by simp); have hg:=h g (by simp); have hi:=h i (by simp);unfold U8 at ha hb hc hd he hf hg hi;have q:beN [a,b,c,d,e,f,g,i]=((((((a*256+b)*256+c)*256+d)*256+e)*256+f)*256+g)*256+i:=by simp [beN]
  rw [q];unfold U64 putS;refine ⟨by omega,?_⟩;simp only [List.cons.injEq,and_true];omega
theorem zug (R:Type) {l:List Int} (hl:l.length=8) (h:AllU8 l) (k:Int→Option R):F148 R l k=k (beN l):=by
 obtain ⟨q1,q2⟩:=be8 hl h;have:=zoc R q1 k
 rwa [q2] at this
theorem zd8 (R:Type) {l:List Int} (hl:l.length=4) (h:AllU8 l) (k:Int→Option R):F194 R l k=k (beN l):=by
 obtain ⟨q1,q2⟩:=be4 hl h;have:=Tz R q1 k
 rwa [q2] at this
theorem I2 {l:List Int} (h:AllU8 l) (n:Nat):AllU8 (l.take n):=fun x hx=>h x (List.mem_of_mem_take hx)
theorem I3 {l:List Int} (h:AllU8 l) (n:Nat):AllU8 (l.drop n):=fun x hx=>h x (List.mem_of_mem_drop hx)
def No (b:List Int) (c:OpT):Fd→OpT
 | .H=>(c.1,c.2.1,c.2.2.1,b.take 32,c.2.2.2.2)
 | .A=>(c.1,c.2.1,beN (b.take 8),c.2.2.2)
 | .W=>(c.1,beN (b.take 4),c.2.2)
 | .N=>(c.1,c.2.1,c.2.2.1,c.2.2.2.1,beN (b.take 4),c.2.2.2.2.2)
def O1:List Fd→List Int→OpT→OpT
 | [],_,c=>c
 | f::l,b,c=>O1 l (b.drop (Az f)) (No b c f)
theorem zlp (R:Type) {l:List Fd} (hl:l.length≤2) (x5:OpT) (k0:List Int→OpT→OpT→Option R):∀(m i:Nat) (b:List Int) (c:OpT),i≤l.length→l.length - i<m→AllU8 b→((l.drop i).map Az).sum≤b.length→
  Ig m R b (l.map enc) (l.length:Int) (i:Int) x5 c k0=k0 (b.drop ((l.drop i).map Az).sum) x5 (O1 (l.drop i) b c)
 | 0,i,b,c,_,hh,_,_=>by omega
 | m+1,i,b,c,h1,h2,hb8,hs=>by
  simp only [Ig,U2]
  by_cases hi:i<l.length
  ·rw [List.drop_eq_getElem_cons hi] at hs ⊢
   simp only [List.map_cons,List.sum_cons] at hs ⊢;have ih:=fun c'=>zlp R hl x5 k0 m (i+1) (b.drop (Az l[i])) c' (by omega) (by omega) (I3 hb8 _) (by rw [List.length_drop]; omega)
   have hb:bnd (i:Int) ((l.map enc).length:Int)=true:=by rw [List.length_map]; exact A7 hi
   have c1:decide ((0:Int)≤0∧(0:Int)≤(Az l[i]:Int)∧(Az l[i]:Int)≤(Az l[i]:Int)∧(Az l[i]:Int)≤(b.length:Int))=true:=by simp; omega
   have c2:decide ((0:Int)≤(Az l[i]:Int)∧(Az l[i]:Int)≤(b.length:Int)∧(b.length:Int)≤(b.length:Int)∧(b.length:Int)≤(b.length:Int))=true:=by simp; omega
   have t1:List.take (Int.toNat ((Az l[i]:Int) - 0)) (List.drop 0 b)=b.take (Az l[i]):=by rw [Int.sub_zero,Int.toNat_natCast,List.drop_zero]
   have t2:List.take (Int.toNat ((b.length:Int) - (Az l[i]:Int))) (List.drop (Az l[i]) b)=b.drop (Az l[i]):=by
    rw [List.take_of_length_le];rw [List.length_drop];omega
   have tl:(b.take (Az l[i])).length=Az l[i]:=by rw [List.length_take]; omega
   simp only [Du hi,hb,Int.toNat_natCast,B5 hi (show l.length≤1000 by omega),N4 hi,S3,c1,c2];rw [t1,t2,O1,←List.drop_drop];generalize hf:l[i]=f at*;have hu:=I2 hb8 (Az f);cases f with
   | H=>
    have e1:FnV.same (enc .H).2.2.1 (FnV.fn 145)=true:=rfl;have e3:decide ((32:Int)≤((b.take (Az .H)).length:Int))=true:=by rw [tl]; rfl
    have e4:List.take 32 (b.take (Az .H))=b.take 32:=by rw [List.take_take]; rfl
    simp only [e1,e3,e4];exact ih _
   | A=>
    have e1:FnV.same (enc .A).2.2.1 (FnV.fn 145)=false:=rfl;have e2:FnV.same (enc .A).2.2.1 (FnV.fn 147)=true:=rfl;have e3:decide ((8:Int)≤((b.take (Az .A)).length:Int))=true:=by rw [tl]; rfl
    have e4:List.take 8 (b.take (Az .A))=b.take 8:=by rw [List.take_take]; rfl
    obtain ⟨q1,q2⟩:=be8 (l:=b.take 8) tl hu;simp only [e1,e2,e3,e4];rw [zug R (l:=b.take 8) tl hu];exact ih _
   | W=>
    have e1:FnV.same (enc .W).2.2.1 (FnV.fn 145)=false:=rfl;have e2:FnV.same (enc .W).2.2.1 (FnV.fn 147)=false:=rfl;have e2':FnV.same (enc .W).2.2.1 (FnV.clo 193 (FnV.fn 150))=true:=rfl;have e3:decide ((4:Int)≤((b.take (Az .W)).length:Int))=true:=by rw [tl]; rfl
    have e4:List.take 4 (b.take (Az .W))=b.take 4:=by rw [List.take_take]; rfl
    obtain ⟨q1,q2⟩:=be4 (l:=b.take 4) tl hu;have w1:IntKind.i64.wrap (beN (b.take 4))=beN (b.take 4):=by unfold U32 at q1; exact wrap_i64 (by omega) (by omega)
    simp only [e1,e2,e2',e3,e4];rw [zd8 R (l:=b.take 4) tl hu];simp only [w1];exact ih _
   | N=>
    have e1:FnV.same (enc .N).2.2.1 (FnV.fn 145)=false:=rfl;have e2:FnV.same (enc .N).2.2.1 (FnV.fn 147)=false:=rfl;have e2':FnV.same (enc .N).2.2.1 (FnV.clo 193 (FnV.fn 150))=false:=rfl;have e2'':FnV.same (enc .N).2.2.1 (FnV.clo 193 (FnV.fn 151))=true:=rfl;have e3:decide ((4:Int)≤((b.take (Az .N)).length:Int))=true:=by rw [tl]; rfl
    have e4:List.take 4 (b.take (Az .N))=b.take 4:=by rw [List.take_take]; rfl
    obtain ⟨q1,q2⟩:=be4 (l:=b.take 4) tl hu;have w1:IntKind.i64.wrap (beN (b.take 4))=beN (b.take 4):=by unfold U32 at q1; exact wrap_i64 (by omega) (by omega)
    simp only [e1,e2,e2',e2'',e3,e4];rw [zd8 R (l:=b.take 4) tl hu];simp only [w1];exact ih _
  ·have:i=l.length:=by omega
   subst this;simp only [Da,List.drop_length];rfl
def opB (x:Int):OpT:=((0:Int),(0:Int),(0:Int),(List.replicate 32 (0:Int)),x,())
def opK (x:Int):OpT:=(x,(0:Int),(0:Int),(List.replicate 32 (0:Int)),(0:Int),())
def oneS (x:Int) (b:List Int):OpT×List Int:=
 if (fsOf x).2=true then (if ((fsOf x).1.map Az).sum≤b.length then (O1 (fsOf x).1 b (opK x),b.drop ((fsOf x).1.map Az).sum) else (opB x,[])) else (opB x,b)
theorem F37_any (R:Type) {x:Int} {b:List Int} (h:AllU8 (x::b)) (k:OpT→List Int→Option R):F37 R (x::b) k=k (oneS x b).1 (oneS x b).2:=by
 have hx:=h x (by simp);have hb8:AllU8 b:=fun y hy=>h y (by simp [hy])
 unfold U8 at hx;simp only [F37,p37];have hwr:IntKind.i64.wrap x=x:=wrap_i64 (by omega) (by omega);have hb:bnd 0 (((x::b).length:Nat):Int)=true:=by unfold bnd; simp<;>omega
 have hc:decide ((0:Int)≤1∧(1:Int)≤((x::b).length:Int)∧((x::b).length:Int)≤((x::b).length:Int)∧((x::b).length:Int)≤((x::b).length:Int))=true:=by simp<;>omega
 simp only [hb,List.getD_cons_zero,hwr,Xj,Xk R x (by omega),hc,drop1,List.length_map];unfold oneS;cases hv:(fsOf x).2 with
 | false=>simp only [Bool.not_false,Bool.false_eq_true,if_false]; rfl
 | true=>
  simp only [Bool.not_true,if_true]
  by_cases hs:((fsOf x).1.map Az).sum≤b.length
  ·rw [if_pos hs]
   have hd:decide (szF (fsOf x).1≤((x::b).length:Int))=true:=by unfold szF; simp; omega
   simp only [hd,Bool.not_true];have:=zlp R (Cu x) ((0:Int),(0:Int),(0:Int),(List.replicate 32 (0:Int)),(0:Int),()) (fun x9 x10 x11=>k x11 x9) FUEL 0 b (opK x) (by omega) (by rw [Am]; have:=Cu x; omega) hb8 (by rw [List.drop_zero]; exact hs);rw [List.drop_zero] at this;exact this
  ·rw [if_neg hs]
   have hd:decide (szF (fsOf x).1≤((x::b).length:Int))=false:=by unfold szF; simp; omega
   simp only [hd,Bool.not_false];rfl
end Go.PG
namespace Go.PG
theorem Ny (x:Int) (b:List Int):(oneS x b).2.length≤b.length:=by
 unfold oneS;split
 ·split
  ·rw [List.length_drop]; omega
  ·simp
 ·exact Nat.le_refl _
theorem Yd {x:Int} {b:List Int} (h:AllU8 b):AllU8 (oneS x b).2:=by
 unfold oneS;split
 ·split
  ·exact I3 h _
  ·intro y hy; cases hy
 ·exact h
theorem zdb:∀(l:List Fd) (b:List Int) (c:OpT),AllU8 b→(l.map Az).sum≤b.length→OpOK c→OpOK (O1 l b c)
 | [],_,_,_,_,h=>h
 | f::l,b,c,hb,hs,h=>by
  simp only [List.map_cons,List.sum_cons] at hs;refine zdb l _ _ (I3 hb _) (by rw [List.length_drop]; omega) ?_;have hu:=I2 hb (Az f);have tl:(b.take (Az f)).length=Az f:=by rw [List.length_take]; omega
  cases f with
  | H=>exact ⟨h.kind,h.who,h.amount,⟨tl,hu⟩,h.n⟩
  | A=>exact ⟨h.kind,h.who,(be8 (l:=b.take 8) tl hu).1,h.hash,h.n⟩
  | W=>exact ⟨h.kind,by have:=(be4 (l:=b.take 4) tl hu).1; unfold U32 at this; unfold I64; simp only [No]; omega,h.amount,h.hash,h.n⟩
  | N=>exact ⟨h.kind,h.who,h.amount,h.hash,by have:=(be4 (l:=b.take 4) tl hu).1; unfold U32 at this; unfold I64; simp only [No]; omega⟩
theorem zum {x:Int} (hx:U8 x):OpOK (opB x):=by
 unfold U8 at hx;exact ⟨by unfold I64; simp only [opB]; omega,by unfold I64; simp only [opB]; omega,by unfold U64; simp only [opB]; omega,Ay,by unfold I64; simp only [opB]; omega⟩
theorem opK_ok {x:Int} (hx:U8 x):OpOK (opK x):=by
 unfold U8 at hx;exact ⟨by unfold I64; simp only [opK]; omega,by unfold I64; simp only [opK]; omega,by unfold U64; simp only [opK]; omega,Ay,by unfold I64; simp only [opK]; omega⟩
theorem zyg {x:Int} {b:List Int} (hx:U8 x) (h:AllU8 b):OpOK (oneS x b).1:=by
 unfold oneS;split
 ·split
  ·rename_i hs; exact zdb _ _ _ h hs (opK_ok hx)
  ·exact zum hx
 ·exact zum hx
def decN:Nat→List Int→List OpT
 | 0,_=>[]
 | _+1,[]=>[]
 | n+1,x::b=>(oneS x b).1::decN n (oneS x b).2
def decS (b:List Int):List OpT:=decN b.length b
theorem zkv:∀(n m:Nat) (b:List Int),b.length≤n→b.length≤m→decN n b=decN m b
 | 0,m,b,h,_=>by
  have:b=[]:=List.eq_nil_of_length_eq_zero (by omega);subst this;cases m<;>rfl
 | n+1,0,b,_,h=>by
  have:b=[]:=List.eq_nil_of_length_eq_zero (by omega);subst this;rfl
 | n+1,m+1,[],_,_=>rfl
 | n+1,m+1,x::b,h1,h2=>by
  have:=Ny x b;simp only [decN];rw [zkv n m _ (by simp at h1; omega) (by simp at h2; omega)]
theorem O9 (x:Int) (b:List Int):decS (x::b)=(oneS x b).1::decS (oneS x b).2:=by
 have:=Ny x b;show decN (b.length+1) (x::b)=_;simp only [decN];rw [zkv b.length (oneS x b).2.length _ this (Nat.le_refl _)];rfl
theorem zku:∀(n:Nat) (b:List Int),AllU8 b→∀o∈decN n b,OpOK o
 | 0,_,_,o,ho=>by cases ho
 | n+1,[],_,o,ho=>by cases ho
 | n+1,x::b,h,o,ho=>by
  have hb:AllU8 b:=fun y hy=>h y (by simp [hy])
  simp only [decN] at ho;rcases List.mem_cons.1 ho with e | ho
  ·rw [e]; exact zyg (h x (by simp)) hb
  ·exact zku n _ (Yd hb) o ho
theorem zkt {b:List Int} (h:AllU8 b):∀o∈decS b,OpOK o:=zku _ _ h
theorem zvr (R:Type) (k0:List OpT→Option R):∀(m:Nat) (b:List Int) (acc:List OpT),AllU8 b→b.length<m→acc.length+b.length≤200000→Ww m R b acc k0=k0 (acc++decS b)
 | 0,b,acc,_,h,_=>by omega
 | m+1,[],acc,_,_,_=>by
  simp only [Ww,zqp];have:decS []=[]:=rfl;rw [this,List.append_nil];rfl
 | m+1,x::b,acc,h,h1,h2=>by
  have hb:AllU8 b:=fun y hy=>h y (by simp [hy])
  have hl:=Ny x b;simp only [List.length_cons] at h1 h2;have ih:=zvr R k0 m (oneS x b).2 (acc++[(oneS x b).1]) (Yd hb) (by omega) (by rw [List.length_append,List.length_singleton]; omega);simp only [Ww,zqp];have e1:decide ((((x::b).length:Nat):Int)>0)=true:=by simp<;>omega
  have c1:decide (acc.length+[(oneS x b).1].length≤2199023255552)=true:=by simp; omega
  simp only [e1,F37_any R h,c1];rw [ih,O9,List.append_assoc];rfl
theorem zb2 (R:Type) {b:List Int} (h:AllU8 b) (hn:b.length≤100000) (k:List OpT→Option R):F13 R b k=k (decS b):=by
 simp only [F13,p13];have:=zvr R (fun x=>k x) FUEL b [] h (by rw [Am]; omega) (by simp; omega);rw [List.nil_append] at this;exact this
end Go.PG
namespace Go.PG
theorem zni (R:Type) {l:List Int} (hl:l.length=4) (h:AllU8 l) (k:Int→Option R):F89 R l k=k (beN l):=by
 obtain ⟨a,b,c,d,rfl⟩:=list4 hl;rw [zvs R (h a (by simp)) (h b (by simp)) (h c (by simp)) (h d (by simp))];simp [beN,Jc]
theorem F90_any (R:Type) {l:List Int} (hl:l.length=8) (h:AllU8 l) (k:Int→Option R):F90 R l k=k (beN l):=by
 obtain ⟨a,b,c,d,e,f,g,i,rfl⟩:=list8 hl;have ha:=h a (by simp); have hb:=h b (by simp); have hc:=h c (by simp); have hd:=h d (by simp);have he:=h e (by simp); have hf:=h f (by simp); have hg:=h g (by simp); have hi:=h i (by simp);obtain ⟨m,hm⟩:=Eu 9 (by omega);unfold U8 at*;simp only [F90,p90,hm,zfz,zxw];simp [bnd,Ek,Co,beN]
 congr 1
 omega
theorem zgo {h b:List Int} {i:Nat} (hh:h.length=32) (hb:32≤b.length) (hi:i<32):((b.take i++h.drop i).set i (b.getD i 0))=b.take (i+1)++h.drop (i+1):=by
 have hl:(b.take i).length=i:=by rw [List.length_take]; omega
 rw [List.set_append_right _ _ (by omega),hl,Nat.sub_self,List.drop_eq_getElem_cons (by omega:i<h.length),List.set_cons_zero,List.take_succ_eq_append_getElem (by omega:i<b.length)];have:b.getD i 0=b[i]:=by simp [show i<b.length by omega]
 rw [this,List.append_assoc];rfl
theorem zvh (R:Type) {b:List Int} (hb:32≤b.length) (hn:b.length≤200000) {h:List Int} (hh:h.length=32) (o z:OpT) (k0:OpT→OpT→Option R):∀(m i:Nat),i≤32→32 - i<m→
  Pu m R b (i:Int) (o.1,o.2.1,o.2.2.1,b.take i++h.drop i,o.2.2.2.2) z k0=k0 (o.1,o.2.1,o.2.2.1,b.take 32,o.2.2.2.2) z
 | 0,i,_,q=>by omega
 | m+1,i,h1,h2=>by
  simp only [Pu,zhf]
  by_cases hi:i<32
  ·have ih:=zvh R hb hn hh o z k0 m (i+1) (by omega) (by omega)
   have e1:decide ((i:Int)<32)=true:=decide_eq_true (by omega);have e2:bnd (i:Int) 32=true:=A7 (n:=32) hi;have w:IntKind.i64.wrap ((i:Int)+1)=((i+1:Nat):Int):=by rw [wrap_i64 (by omega) (by omega)]; omega
   simp only [e1,e2,A7 (show i<b.length by omega),Int.toNat_natCast,w,zgo hh hb hi];exact ih
  ·have:i=32:=by omega
   subst this;have e1:decide (((32:Nat):Int)<32)=false:=rfl;have e2:h.drop 32=[]:=List.drop_eq_nil_of_le (by omega);simp only [e1,e2,List.append_nil]
def letF (c:Int):Option Fd:=if c=119 then some .W else if c=110 then some .N else if c=97 then some .A else if c=104 then some .H else none
theorem lit4 {b:List Int} (h:4≤b.length):[b.getD 0 0,b.getD 1 0,b.getD 2 0,b.getD 3 0]=b.take 4:=by
 match b,h with
 | a::b::c::d::r,_=>rfl
theorem lit8 {b:List Int} (h:8≤b.length):[b.getD 0 0,b.getD 1 0,b.getD 2 0,b.getD 3 0,b.getD 4 0,b.getD 5 0,b.getD 6 0,b.getD 7 0]=b.take 8:=by
 match b,h with
 | a::b::c::d::e::f::g::i::r,_=>rfl
theorem F51_eq (R:Type) {o:OpT} (ho:o.2.2.2.1.length=32) {f:Fd} {c:Int} (hf:letF c=some f) {b:List Int} (hb:AllU8 b) (hs:Az f≤b.length) (hn:b.length≤200000) (k:OpT→Option R):F51 R o c b k=k (No b o f):=by
 have B:∀i:Nat,i<Az f→bnd (i:Int) (b.length:Int)=true:=fun i hi=>A7 (by omega)
 have h4:=I2 hb 4;have h8:=I2 hb 8;unfold letF at hf
 by_cases c1:c=119
 ·rw [if_pos c1] at hf; cases hf; subst c1
  have hs:4≤b.length:=hs;have b0:=B 0 (by decide); have b1:=B 1 (by decide); have b2:=B 2 (by decide); have b3:=B 3 (by decide);simp only [F51,p51];have e:List.set (List.set (List.set (List.set (List.replicate 4 (0:Int)) 0 (b.getD 0 0)) 1 (b.getD 1 0)) 2 (b.getD 2 0)) 3 (b.getD 3 0)=b.take 4:=(by rfl:_=[b.getD 0 0,b.getD 1 0,b.getD 2 0,b.getD 3 0]).trans (lit4 hs);have tl:(b.take 4).length=4:=by rw [List.length_take]; omega
  have q:=(be4 tl h4).1;have w1:IntKind.i64.wrap (beN (b.take 4))=beN (b.take 4):=by unfold U32 at q; exact wrap_i64 (by omega) (by omega)
  have z:((119:Int)==119)=true:=rfl;simp only [z];simp only [show bnd 0 (b.length:Int)=true from b0,show bnd 1 (b.length:Int)=true from b1,show bnd 2 (b.length:Int)=true from b2,show bnd 3 (b.length:Int)=true from b3,e];rw [zni R tl h4,w1];rfl
 ·rw [if_neg c1] at hf
  by_cases c2:c=110
  ·rw [if_pos c2] at hf; cases hf; subst c2
   have hs:4≤b.length:=hs;have b0:=B 0 (by decide); have b1:=B 1 (by decide); have b2:=B 2 (by decide); have b3:=B 3 (by decide);simp only [F51,p51];have e:List.set (List.set (List.set (List.set (List.replicate 4 (0:Int)) 0 (b.getD 0 0)) 1 (b.getD 1 0)) 2 (b.getD 2 0)) 3 (b.getD 3 0)=b.take 4:=(by rfl:_=[b.getD 0 0,b.getD 1 0,b.getD 2 0,b.getD 3 0]).trans (lit4 hs);have tl:(b.take 4).length=4:=by rw [List.length_take]; omega
   have q:=(be4 tl h4).1;have w1:IntKind.i64.wrap (beN (b.take 4))=beN (b.take 4):=by unfold U32 at q; exact wrap_i64 (by omega) (by omega)
   have z:((110:Int)==119)=false:=rfl;have z2:((110:Int)==110)=true:=rfl;simp only [z,z2];simp only [show bnd 0 (b.length:Int)=true from b0,show bnd 1 (b.length:Int)=true from b1,show bnd 2 (b.length:Int)=true from b2,show bnd 3 (b.length:Int)=true from b3,e];rw [zni R tl h4,w1];rfl
  ·rw [if_neg c2] at hf
   by_cases c3:c=97
   ·rw [if_pos c3] at hf; cases hf; subst c3
    have hs:8≤b.length:=hs;have b0:=B 0 (by decide); have b1:=B 1 (by decide); have b2:=B 2 (by decide); have b3:=B 3 (by decide);have b4:=B 4 (by decide); have b5:=B 5 (by decide); have b6:=B 6 (by decide); have b7:=B 7 (by decide);simp only [F51,p51];have e:List.set (List.set (List.set (List.set (List.set (List.set (List.set (List.set (List.replicate 8 (0:Int)) 0 (b.getD 0 0)) 1 (b.getD 1 0)) 2 (b.getD 2 0)) 3 (b.getD 3 0)) 4 (b.getD 4 0)) 5 (b.getD 5 0)) 6 (b.getD 6 0)) 7 (b.getD 7 0)=b.take 8:=
     (by rfl:_=[b.getD 0 0,b.getD 1 0,b.getD 2 0,b.getD 3 0,b.getD 4 0,b.getD 5 0,b.getD 6 0,b.getD 7 0]).trans (lit8 hs)
    have tl:(b.take 8).length=8:=by rw [List.length_take]; omega
    have z:((97:Int)==119)=false:=rfl;have z2:((97:Int)==110)=false:=rfl;have z3:((97:Int)==97)=true:=rfl;simp only [z,z2,z3];simp only [show bnd 0 (b.length:Int)=true from b0,show bnd 1 (b.length:Int)=true from b1,show bnd 2 (b.length:Int)=true from b2,show bnd 3 (b.length:Int)=true from b3,show bnd 4 (b.length:Int)=true from b4,show bnd 5 (b.length:Int)=true from b5,show bnd 6 (b.length:Int)=true from b6,show bnd 7 (b.length:Int)=true from b7,e];rw [F90_any R tl h8];rfl
   ·rw [if_neg c3] at hf
    by_cases c4:c=104
    ·rw [if_pos c4] at hf; cases hf; subst c4
     have hs:32≤b.length:=hs;simp only [F51,p51];have z:((104:Int)==119)=false:=rfl;have z2:((104:Int)==110)=false:=rfl;have z3:((104:Int)==97)=false:=rfl;have z4:((104:Int)==104)=true:=rfl;simp only [z,z2,z3,z4];have:=zvh R hs hn ho o ((0:Int),(0:Int),(0:Int),(List.replicate 32 (0:Int)),(0:Int),()) (fun x29 _=>k x29) FUEL 0 (by omega) (by rw [Am]; omega);rw [List.take_zero,List.drop_zero,List.nil_append] at this;exact this
    ·rw [if_neg c4] at hf; cases hf
end Go.PG
namespace Go.PG
def zll (s:ByteArray) (l:List Fd):Prop:=s.size=l.length∧∀(i:Nat) (h:i<l.length),letF (((List.getD s.data.toList i 0).toNat:Nat):Int)=some l[i]
theorem Ve {c:Int} {f:Fd} (h:letF c=some f):zq4 c=(Az f:Int):=by
 unfold letF at h;unfold zq4
 by_cases c1:c=119
 ·rw [if_pos c1] at h ⊢; cases h; rfl
 rw [if_neg c1] at h ⊢
 by_cases c2:c=110
 ·rw [if_pos c2] at h ⊢; cases h; rfl
 rw [if_neg c2] at h ⊢
 by_cases c3:c=97
 ·rw [if_pos c3] at h ⊢; cases h; rfl
 rw [if_neg c3] at h ⊢
 by_cases c4:c=104
 ·rw [if_pos c4] at h ⊢; cases h; rfl
 rw [if_neg c4] at h; cases h
theorem Vn (x:Int) (hv:(fsOf x).2=true):(fldS x=⟨#[45]⟩∧(fsOf x).1=[])∨zll (fldS x) (fsOf x).1:=by
 have two:∀{s:ByteArray} {a b:Fd},s.size=2→letF (((List.getD s.data.toList 0 0).toNat:Nat):Int)=some a→letF (((List.getD s.data.toList 1 0).toNat:Nat):Int)=some b→zll s [a,b]:=by
  intro s a b h h0 h1;refine ⟨h,fun i hi=>?_⟩
  match i,hi with
  | 0,_=>exact h0
  | 1,_=>exact h1
 have one:∀{s:ByteArray} {a:Fd},s.size=1→letF (((List.getD s.data.toList 0 0).toNat:Nat):Int)=some a→zll s [a]:=by
  intro s a h h0;refine ⟨h,fun i hi=>?_⟩
  match i,hi with
  | 0,_=>exact h0
 rcases ze0 x with h | h | h | h | h | h | h | h | h | h | h | h
 ·subst h; exact Or.inr (two rfl rfl rfl)
 ·subst h; exact Or.inr (two rfl rfl rfl)
 ·subst h; exact Or.inr (two rfl rfl rfl)
 ·subst h; exact Or.inr (two rfl rfl rfl)
 ·subst h; exact Or.inr (two rfl rfl rfl)
 ·subst h; exact Or.inl ⟨rfl,rfl⟩
 ·subst h; exact Or.inr (one rfl rfl)
 ·subst h; exact Or.inr (one rfl rfl)
 ·subst h; exact Or.inr (two rfl rfl rfl)
 ·subst h; exact Or.inr (two rfl rfl rfl)
 ·subst h; exact Or.inl ⟨rfl,rfl⟩
 ·obtain ⟨h1,h2,h3,h4,h5,h6,h7,h8,h9,h10,h11⟩:=h
  simp [fsOf,h1,h2,h3,h4,h5,h6,h7,h8,h9,h10,h11] at hv
theorem zlo (R:Type) {s:ByteArray} {l:List Fd} (hl:zll s l) (h2:l.length≤2) (k0:Int→Option R):∀(m i:Nat),i≤l.length→l.length - i<m→
  zai m R s (szF (l.take i)) (i:Int) k0=k0 (szF l)
 | 0,i,_,hh=>by omega
 | m+1,i,h1,h3=>by
  simp only [zai,zx6];rw [hl.1]
  by_cases hi:i<l.length
  ·have ih:=zlo R hl h2 k0 m (i+1) (by omega) (by omega)
   have e:szF (l.take (i+1))=szF (l.take i)+(Az l[i]:Int):=by
    unfold szF;rw [List.take_succ_eq_append_getElem hi,List.map_append,List.sum_append];simp;omega
   have hb:IntKind.i64.wrap (szF (l.take i)+(Az l[i]:Int))=szF (l.take i)+(Az l[i]:Int):=by
    have q:∀f:Fd,Az f≤32:=fun f=>by cases f<;>decide
    have q1:=q l[i];have q2:((l.take i).map Az).sum≤32*(l.take i).length:=by
     generalize l.take i=t
     induction t with
     | nil=>simp
     | cons f t ih=>simp only [List.map_cons,List.sum_cons,List.length_cons]; have:=q f; omega
    have q3:(l.take i).length≤2:=by rw [List.length_take]; omega
    unfold szF;exact wrap_i64 (by omega) (by omega)
   simp only [Du hi,A7 hi,Int.toNat_natCast,B5 hi (show l.length≤1000 by omega),znl,Ve (hl.2 i hi),hb];rw [←e];exact ih
  ·have:i=l.length:=by omega
   subst this;simp only [Da,List.take_length]
theorem F49_eqV (R:Type) {x:Int} (hv:(fsOf x).2=true) (k:Int→Bool→Option R):F49 R x k=k (szF (fsOf x).1) true:=by
 simp only [F49,p49,znm,Q3,hv,Bool.not_true];rcases Vn x hv with ⟨h1,h2⟩ | h
 ·rw [h1,h2]
  obtain ⟨m,hm⟩:=Eu 9 (by omega);rw [hm];rfl
 ·have:=zlo R h (Cu x) (fun x3=>k x3 true) FUEL 0 (by omega) (by rw [Am]; have:=Cu x; omega)
  rw [List.take_zero] at this;exact this
theorem F49_inv (R:Type) {x:Int} (hv:(fsOf x).2=false) (k:Int→Bool→Option R):F49 R x k=k 0 false:=by
 simp only [F49,p49,znm,Q3,hv,Bool.not_false]
theorem zeh {b:List Int} {o:OpT} (ho:o.2.2.2.1.length=32) {f:Fd} (hs:Az f≤b.length):(No b o f).2.2.2.1.length=32:=by
 cases f with
 | H=>simp only [No]; rw [List.length_take]; have:32≤b.length:=hs; omega
 | A=>exact ho
 | W=>exact ho
 | N=>exact ho
theorem zlq (R:Type) {s:ByteArray} {l:List Fd} (hl:zll s l) (h2:l.length≤2) {b:List Int} (hb:AllU8 b) (hn:b.length≤200000) (n:Int) (acc:List OpT) (k0:List Int→Int→List OpT→OpT→Option R):∀(m i t:Nat) (o:OpT),i≤l.length→l.length - i<m→o.2.2.2.1.length=32→t+((l.drop i).map Az).sum≤b.length→
  Gu m R b n (t:Int) s (i:Int) acc o k0=k0 b n acc (O1 (l.drop i) (b.drop t) o)
 | 0,i,t,o,_,hh,_,_=>by omega
 | m+1,i,t,o,h1,h3,ho,hs=>by
  simp only [Gu,zcu];rw [hl.1]
  by_cases hi:i<l.length
  ·rw [List.drop_eq_getElem_cons hi] at hs ⊢
   simp only [List.map_cons,List.sum_cons] at hs;have hsz:Az l[i]≤(b.drop t).length:=by rw [List.length_drop]; omega
   have ih:=zlq R hl h2 hb hn n acc k0 m (i+1) (t+Az l[i]) (No (b.drop t) o l[i]) (by omega) (by omega) (zeh ho hsz) (by omega);have c1:decide (0≤(t:Int)∧(t:Int)≤(List.length b:Int)∧(List.length b:Int)≤(List.length b:Int)∧(List.length b:Int)≤(List.length b:Int))=true:=by simp; omega
   have t1:List.take (Int.toNat ((b.length:Int) - (t:Int))) (List.drop t b)=b.drop t:=by
    rw [List.take_of_length_le];rw [List.length_drop];omega
   have hw:IntKind.i64.wrap ((t:Int)+(Az l[i]:Int))=((t+Az l[i]:Nat):Int):=by rw [wrap_i64 (by omega) (by omega)]; omega
   simp only [Du hi,A7 hi,Int.toNat_natCast,B5 hi (show l.length≤1000 by omega),c1,t1];rw [F51_eq R ho (hl.2 i hi) (I3 hb t) hsz (by rw [List.length_drop]; omega)];simp only [znl,Ve (hl.2 i hi),hw];rw [ih,O1,List.drop_drop]
  ·have:i=l.length:=by omega
   subst this;simp only [Da,List.drop_length];rfl
theorem zt8 (R:Type) {b:List Int} (hb:1≤b.length) (n:Int) (acc:List OpT) (o:OpT) (k0:List Int→Int→List OpT→OpT→Option R):Gu FUEL R b n 1 ⟨#[45]⟩ 0 acc o k0=k0 b n acc o:=by
 obtain ⟨m,hm⟩:=Eu 9 (by omega);rw [hm];have c1:decide (0≤(1:Int)∧(1:Int)≤(List.length b:Int)∧(List.length b:Int)≤(List.length b:Int)∧(List.length b:Int)≤(List.length b:Int))=true:=by simp; omega
 have e:∀m',Gu (m'+1) R b n 1 ⟨#[45]⟩ 0 acc o k0=F51 R o 45 (List.take (Int.toNat ((List.length b:Int) - 1)) (List.drop 1 b)) (fun y12=>F52 R 45 fun y14=>Gu m' R b n (IntKind.i64.wrap (1+y14)) ⟨#[45]⟩ 1 acc y12 k0):=by
  intro m';simp only [Gu,zcu];have s1:decide ((0:Int)<(ByteArray.size ⟨#[45]⟩:Int))=true:=rfl;have s2:bnd (0:Int) (ByteArray.size ⟨#[45]⟩:Int)=true:=rfl;simp only [s1,s2];simp only [c1];rfl
 rw [e];have z:∀k:OpT→Option R,F51 R o 45 (List.take (Int.toNat ((List.length b:Int) - 1)) (List.drop 1 b)) k=k o:=by
  intro k;simp only [F51,p51];rfl
 rw [z,znl];rfl
theorem zvo (R:Type) (k:List OpT→Option R):∀(m:Nat) (b:List Int) (acc:List OpT),AllU8 b→b.length<m→acc.length+b.length≤200000→To m R b acc (fun x=>k x) (fun x=>k x)=k (acc++decS b)
 | 0,b,acc,_,h,_=>by omega
 | m+1,[],acc,_,_,_=>by
  simp only [To,zqn];have:decS []=[]:=rfl;rw [this,List.append_nil];rfl
 | m+1,x::b,acc,h,h1,h2=>by
  have hb:AllU8 b:=fun y hy=>h y (by simp [hy])
  have hx:=h x (by simp);unfold U8 at hx;have hwr:IntKind.i64.wrap x=x:=wrap_i64 (by omega) (by omega);have hl:=Ny x b;simp only [List.length_cons] at h1 h2;have ih:=zvo R k m (oneS x b).2 (acc++[(oneS x b).1]) (Yd hb) (by omega) (by rw [List.length_append,List.length_singleton]; omega);have e1:decide ((((x::b).length:Nat):Int)>0)=true:=by simp<;>omega
  have e2:bnd 0 (((x::b).length:Nat):Int)=true:=by unfold bnd; simp<;>omega
  have c1:∀o:OpT,decide (acc.length+[o].length≤2199023255552)=true:=fun o=>by simp; omega
  have hc:decide ((0:Int)≤1∧(1:Int)≤((x::b).length:Int)∧((x::b).length:Int)≤((x::b).length:Int)∧((x::b).length:Int)≤((x::b).length:Int))=true:=by simp<;>omega
  simp only [To,zqn,e1,e2,List.getD_cons_zero,hwr];rw [O9];cases hv:(fsOf x).2 with
  | false=>
   have eo:oneS x b=(opB x,b):=by unfold oneS; simp [hv]
   rw [eo] at ih ⊢;rw [F49_inv R hv];simp only [Bool.not_false,c1,hc];have d1:List.take (Int.toNat ((List.length (x::b):Int) - 1)) (List.drop 1 (x::b))=b:=by
    rw [List.drop_succ_cons,List.drop_zero,List.take_of_length_le];simp
   rw [d1];refine ih.trans ?_;rw [List.append_assoc];rfl
  | true=>
   rw [F49_eqV R hv];simp only [Bool.not_true]
   by_cases hs:((fsOf x).1.map Az).sum≤b.length
   ·have eo:oneS x b=(O1 (fsOf x).1 b (opK x),b.drop ((fsOf x).1.map Az).sum):=by unfold oneS; rw [if_pos hv,if_pos hs]
    rw [eo] at ih ⊢;have hd:decide ((((x::b).length:Nat):Int)<szF (fsOf x).1)=false:=by unfold szF; simp; omega
    simp only [hd,znm];have L:∀K:List Int→Int→List OpT→OpT→Option R,Gu FUEL R (x::b) (szF (fsOf x).1) 1 (fldS x) 0 acc (opK x) K=K (x::b) (szF (fsOf x).1) acc (O1 (fsOf x).1 b (opK x)):=by
     intro K;rcases Vn x hv with ⟨q1,q2⟩ | q
     ·rw [q1,q2,zt8 R (by simp)]
      rfl
     ·have:=zlq R q (Cu x) h (by simp; omega) (szF (fsOf x).1) acc K FUEL 0 1 (opK x) (by omega) (by rw [Am]; have:=Cu x; omega) (by simp [opK]) (by rw [List.drop_zero]; simp only [List.length_cons]; omega)
      rw [List.drop_zero,List.drop_succ_cons,List.drop_zero] at this;exact this
    rw [show (x,(0:Int),(0:Int),(List.replicate 32 (0:Int)),(0:Int),())=opK x from rfl,L];have hz:(szF (fsOf x).1).toNat=1+((fsOf x).1.map Az).sum:=by unfold szF; omega
    have d2:decide ((0:Int)≤szF (fsOf x).1∧szF (fsOf x).1≤((x::b).length:Int)∧((x::b).length:Int)≤((x::b).length:Int)∧((x::b).length:Int)≤((x::b).length:Int))=true:=by unfold szF; simp; omega
    have d3:List.take (Int.toNat (((x::b).length:Int) - szF (fsOf x).1)) (List.drop (Int.toNat (szF (fsOf x).1)) (x::b))=b.drop ((fsOf x).1.map Az).sum:=by
     rw [hz,Nat.add_comm,List.drop_succ_cons,List.take_of_length_le];rw [List.length_drop];unfold szF;simp only [List.length_cons];omega
    simp only [c1,d2,d3];refine ih.trans ?_;rw [List.append_assoc];rfl
   ·have eo:oneS x b=(opB x,[]):=by unfold oneS; rw [if_pos hv,if_neg hs]
    rw [eo];have hd:decide ((((x::b).length:Nat):Int)<szF (fsOf x).1)=true:=by unfold szF; simp; omega
    simp only [hd,c1];rfl
theorem F28_eq (R:Type) {b:List Int} (h:AllU8 b) (hn:b.length≤100000) (k:List OpT→Option R):F28 R b k=k (decS b):=by
 simp only [F28,p28];have:=zvo R k FUEL b [] h (by rw [Am]; omega) (by simp; omega);rw [List.nil_append] at this;exact this
theorem F10_eq (R:Type) {b:List Int} (h:AllU8 b) (k:Bool→Option R):F10 R b k=k (decide (b.length≤1500)&&decide ((decS b).length≤60)):=by
 simp only [F10,p10]
 by_cases hn:b.length≤1500
 ·have e1:decide (((b.length:Nat):Int)≤1500)=true:=decide_eq_true (by omega)
  simp only [e1,F28_eq R h (by omega)];rw [decide_eq_true hn,Bool.true_and]
  congr 1
  rw [Bool.eq_iff_iff];simp only [decide_eq_true_eq];omega
 ·have e1:decide (((b.length:Nat):Int)≤1500)=false:=decide_eq_false (by omega)
  simp only [e1];rw [decide_eq_false hn];rfl
end Go.PG
end
