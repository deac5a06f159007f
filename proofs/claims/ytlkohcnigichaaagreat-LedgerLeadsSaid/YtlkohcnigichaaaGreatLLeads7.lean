/- A part of the proof over this seat (own work; the framework that reads a Go function as a pure one, or a use of it). No condition of its own. -/
import Derived.Test.YtlkohcnigichaaaGreatLLeads6
import Derived.KernelRfl
set_option linter.unusedVariables false
set_option linter.unusedSimpArgs false
set_option linter.unusedSectionVars false
noncomputable section
namespace Go.PG
abbrev OpT:=Int×(Int×(Int×(List Int×(Int×Unit))))
abbrev zO:OpT:=((0:Int),(0:Int),(0:Int),(List.replicate 32 (0:Int)),(0:Int),())
structure OpOK (o:OpT):Prop where
 kind:I64 o.1
 who:I64 o.2.1
 amount:U64 o.2.2.1
 hash:H32 o.2.2.2.1
 n:I64 o.2.2.2.2.1
theorem zju {x b:Int} (hx:0≤x∧x<72057594037927936) (hb:0≤b∧b<256):ior .u64 (ishl .u64 x 8) b=x*256+b:=by
 obtain ⟨n,rfl⟩:∃n:Nat,x=n:=⟨x.toNat,by omega⟩
 obtain ⟨c,rfl⟩:∃c:Nat,b=c:=⟨b.toNat,by omega⟩
 have e2:ishl .u64 (n:Int) 8=((n*256:Nat):Int):=by
  unfold ishl;rw [show (2:Int)^(min (8:Int).toNat IntKind.u64.bits)=256 by decide,Ae (by omega) (by omega)];simp
 rw [e2,Zj,BitVec.ofInt_natCast,BitVec.ofInt_natCast,BitVec.toNat_or,BitVec.toNat_ofNat,BitVec.toNat_ofNat,Nat.mod_eq_of_lt (by omega),Nat.mod_eq_of_lt (by omega)];have h6:=Nat.shiftLeft_add_eq_or_of_lt (i:=8) (b:=c) (by omega) n;rw [Nat.shiftLeft_eq] at h6;rw [show n*256=n*2^8 by rfl,←h6];simp
theorem D7 {y z:Int} (hy:0≤y∧y<18446744073709551616) (hz:y/256=z):ior .u64 (ishl .u64 z 8) (y % 256)=y:=by
 rw [←hz,zju (by omega) (by omega)]; omega
theorem F205_eq (R:Type) {a:Int} (ha:U64 a) (k:Int→Option R):F205 R (putS a) k=k a:=by
 unfold U64 at ha;have s1:ior .u64 (ishl .u64 0 8) (a/72057594037927936 % 256)=a/72057594037927936:=D7 (by omega) (by omega);have s2:ior .u64 (ishl .u64 (a/72057594037927936) 8) (a/281474976710656 % 256)=a/281474976710656:=D7 (by omega) (by omega);have s3:ior .u64 (ishl .u64 (a/281474976710656) 8) (a/1099511627776 % 256)=a/1099511627776:=D7 (by omega) (by omega);have s4:ior .u64 (ishl .u64 (a/1099511627776) 8) (a/4294967296 % 256)=a/4294967296:=D7 (by omega) (by omega);have s5:ior .u64 (ishl .u64 (a/4294967296) 8) (a/16777216 % 256)=a/16777216:=D7 (by omega) (by omega)
 have s6:ior .u64 (ishl .u64 (a/16777216) 8) (a/65536 % 256)=a/65536:=D7 (by omega) (by omega);have s7:ior .u64 (ishl .u64 (a/65536) 8) (a/256 % 256)=a/256:=D7 (by omega) (by omega);have s8:ior .u64 (ishl .u64 (a/256) 8) (a % 256)=a:=D7 (by omega) (by omega);have w:∀y:Int,IntKind.u64.wrap (y % 256)=y % 256:=fun y=>Ae (by omega) (by omega)
 obtain ⟨m,hm⟩:=Ga 9 (by omega);simp only [F205,p205,hm,Rx,zhx,putS];simp [bnd,Fh,w,s1,s2,s3,s4,s5,s6,s7,s8]
inductive Fd where | H | A | W | N
deriving DecidableEq
def enc:Fd→Tq9
 | .H=>((32:Int),(FnV.fn 199),(FnV.fn 201),())
 | .A=>((8:Int),(FnV.fn 202),(FnV.fn 204),())
 | .W=>((4:Int),(FnV.clo 241 (FnV.fn 207)),(FnV.clo 243 (FnV.fn 207)),())
 | .N=>((4:Int),(FnV.clo 241 (FnV.fn 208)),(FnV.clo 243 (FnV.fn 208)),())
def fsOf (k:Int):List Fd×Bool:=
 if k=1 then ([.H,.A],true) else if k=2 then ([.W,.A],true) else if k=3 then ([.W,.A],true) else if k=4 then ([.W,.H],true) else if k=5 then ([.W,.H],true) else
 if k=6 then ([],true) else if k=11 then ([],true) else if k=7 then ([.N],true) else if k=8 then ([.N],true) else if k=9 then ([.N,.W],true) else if k=10 then ([.W,.N],true) else ([],false)
theorem kinds (k:Int):k=1∨k=2∨k=3∨k=4∨k=5∨k=6∨k=7∨k=8∨k=9∨k=10∨k=11∨(k≠1∧k≠2∧k≠3∧k≠4∧k≠5∧k≠6∧k≠7∧k≠8∧k≠9∧k≠10∧k≠11):=by omega
theorem B1 {a b:Int} (h:a≠b):(a==b)=false:=by simpa using h
theorem Tz (R:Type) (x:Int) (k:List Tq9→Bool→Option R):F113 R x k=k ((fsOf x).1.map enc) (fsOf x).2:=by
 simp only [F113,p113,F163,p163,F164,p164,F165,p165,F166,p166,Du,Xn,Dt,Xm];rcases kinds x with h | h | h | h | h | h | h | h | h | h | h | h
 ·subst h; rfl
 ·subst h; rfl
 ·subst h; rfl
 ·subst h; rfl
 ·subst h; rfl
 ·subst h; rfl
 ·subst h; rfl
 ·subst h; rfl
 ·subst h; rfl
 ·subst h; rfl
 ·subst h; rfl
 ·obtain ⟨h1,h2,h3,h4,h5,h6,h7,h8,h9,h10,h11⟩:=h
  simp only [B1 h1,B1 h2,B1 h3,B1 h4,B1 h5,B1 h6,B1 h7,B1 h8,B1 h9,B1 h10,B1 h11];simp [fsOf,h1,h2,h3,h4,h5,h6,h7,h8,h9,h10,h11]
def Fa (o:OpT):Fd→List Int
 | .H=>o.2.2.2.1
 | .A=>putS o.2.2.1
 | .W=>Cc o.2.1
 | .N=>Cc o.2.2.2.2.1
def F0:Fd→Nat
 | .H=>32
 | .A=>8
 | .W=>4
 | .N=>4
def zrq (o c:OpT):Fd→OpT
 | .H=>(c.1,c.2.1,c.2.2.1,o.2.2.2.1,c.2.2.2.2)
 | .A=>(c.1,c.2.1,o.2.2.1,c.2.2.2)
 | .W=>(c.1,o.2.1,c.2.2)
 | .N=>(c.1,c.2.1,c.2.2.1,c.2.2.2.1,o.2.2.2.2.1,c.2.2.2.2.2)
theorem Kg {o:OpT} (h:OpOK o) (f:Fd):(Fa o f).length=F0 f:=by
 cases f
 ·exact h.hash.1
 ·rfl
 ·rfl
 ·rfl
def Db (o:OpT) (l:List Fd):List Int:=l.flatMap (Fa o)
theorem Li (o:OpT) (f:Fd) (l:List Fd):Db o (f::l)=Fa o f++Db o l:=by simp [Db]
theorem Pc {o:OpT} (h:OpOK o):∀(l:List Fd),(Db o l).length=(l.map F0).sum
 | []=>rfl
 | f::l=>by rw [Li,List.length_append,Kg h,Pc h l]; simp
theorem zds (f:Fd):(enc f).1=(F0 f:Int):=by cases f<;>rfl
theorem Sa (f:Fd):F0 f≤32:=by cases f<;>decide
theorem zcr:∀(l:List Fd),(l.map F0).sum≤32*l.length
 | []=>by simp
 | f::l=>by have:=zcr l; have:=Sa f; simp; omega
theorem Sw {l:List Fd} {i:Nat} (hi:i<l.length):List.getD (l.map enc) i ((0:Int),FnV.nil,FnV.nil,())=enc l[i]:=by simp [hi]
theorem zxd (R:Type) {o:OpT} (h:OpOK o) (hw:U32 o.2.1) (hn:U32 o.2.2.2.2.1) {l:List Fd} (hl:l.length≤2) (k0:List Int→Option R):∀(m i:Nat) (acc:List Int),i≤l.length→l.length - i<m→acc.length≤1+32*i→
  V4 m R (l.map enc) (l.length:Int) (i:Int) o acc k0=k0 (acc++Db o (l.drop i))
 | 0,i,acc,_,hh,_=>by omega
 | m+1,i,acc,h1,h2,h3=>by
  simp only [V4,p65_6]
  by_cases hi:i<l.length
  ·have ih:=zxd R h hw hn hl k0 m (i+1) (acc++Fa o l[i]) (by omega) (by omega) (by rw [List.length_append,Kg h]; have:=Sa l[i]; omega)
   have hb:bnd (i:Int) ((l.map enc).length:Int)=true:=by rw [List.length_map]; exact A0 hi
   rw [List.drop_eq_getElem_cons hi,Li,←List.append_assoc,←ih];simp only [C8 hi,hb,Int.toNat_natCast,Bg hi (show l.length≤1000 by omega),Sw hi];have hc:∀y:List Int,y.length≤32→decide (acc.length+y.length≤140737488355328)=true:=fun y hy=>by simp; omega
   have w1:IntKind.u32.wrap o.2.1=o.2.1:=by unfold U32 at hw; exact Cf hw.1 (by omega)
   have w2:IntKind.u32.wrap o.2.2.2.2.1=o.2.2.2.2.1:=by unfold U32 at hn; exact Cf hn.1 (by omega)
   cases l[i] with
   | H=>
    have e1:FnV.same (enc .H).2.1 (FnV.fn 199)=true:=rfl;have e2:List.take 32 (List.drop 0 o.2.2.2.1)=o.2.2.2.1:=by rw [List.drop_zero,List.take_of_length_le (by rw [h.hash.1]; omega)]
    have e3:decide (([]:List Int).length+o.2.2.2.1.length≤140737488355328)=true:=by rw [h.hash.1]; rfl
    simp only [e1,e2,F200,e3,hc _ (show o.2.2.2.1.length≤32 by rw [h.hash.1]; omega)];rfl
   | A=>
    have e1:FnV.same (enc .A).2.1 (FnV.fn 199)=false:=rfl;have e2:FnV.same (enc .A).2.1 (FnV.fn 202)=true:=rfl;have e3:List.take 8 (List.drop 0 (putS o.2.2.1))=putS o.2.2.1:=rfl;simp only [e1,e2,Qk,e3,hc _ (show (putS o.2.2.1).length≤32 from Nat.le_of_ble_eq_true rfl)];rfl
   | W=>
    have e1:FnV.same (enc .W).2.1 (FnV.fn 199)=false:=rfl;have e2:FnV.same (enc .W).2.1 (FnV.fn 202)=false:=rfl;have e3:FnV.same (enc .W).2.1 (FnV.clo 241 (FnV.fn 207))=true:=rfl;have e4:List.take 4 (List.drop 0 (Cc o.2.1))=Cc o.2.1:=rfl;simp only [e1,e2,e3,w1,zbx R hw,e4,hc _ (show (Cc o.2.1).length≤32 from Nat.le_of_ble_eq_true rfl)];rfl
   | N=>
    have e1:FnV.same (enc .N).2.1 (FnV.fn 199)=false:=rfl;have e2:FnV.same (enc .N).2.1 (FnV.fn 202)=false:=rfl;have e3:FnV.same (enc .N).2.1 (FnV.clo 241 (FnV.fn 207))=false:=rfl;have e3':FnV.same (enc .N).2.1 (FnV.clo 241 (FnV.fn 208))=true:=rfl;have e4:List.take 4 (List.drop 0 (Cc o.2.2.2.2.1))=Cc o.2.2.2.2.1:=rfl;simp only [e1,e2,e3,e3',w2,zbx R hn,e4,hc _ (show (Cc o.2.2.2.2.1).length≤32 from Nat.le_of_ble_eq_true rfl)];rfl
  ·have:i=l.length:=by omega
   subst this;simp only [Cp,List.drop_length,Db,List.flatMap_nil,List.append_nil]
theorem Il (k:Int):(fsOf k).1.length≤2:=by
 unfold fsOf
 repeat' split
 all_goals decide
def Nd (o:OpT):List Int:=if (fsOf o.1).2=true then (o.1 % 256)::Db o (fsOf o.1).1 else [o.2.2.2.2.1 % 256]
theorem F65_eq (R:Type) {o:OpT} (h:OpOK o) (hw:U32 o.2.1) (hn:U32 o.2.2.2.2.1) (k:List Int→Option R):F65 R o k=k (Nd o):=by
 simp only [F65,p65,Tz,Ew];unfold Nd;cases (fsOf o.1).2 with
 | false=>simp
 | true=>
  simp only [Bool.not_true,if_true,List.length_map];exact zxd R h hw hn (Il _) (fun x=>k x) FUEL 0 _ (by omega) (by rw [Ak]; have:=Il o.1; omega) (by simp)
def szF (l:List Fd):Int:=1+((l.map F0).sum:Nat)
theorem zmx (R:Type) {l:List Fd} (hl:l.length≤2) (k0:Int→Option R):∀(m i:Nat),i≤l.length→l.length - i<m→
  Qf m R (szF (l.take i)) (l.map enc) (l.length:Int) (i:Int) k0=k0 (szF l)
 | 0,i,_,hh=>by omega
 | m+1,i,h1,h2=>by
  simp only [Qf,zij]
  by_cases hi:i<l.length
  ·have ih:=zmx R hl k0 m (i+1) (by omega) (by omega)
   have hb:bnd (i:Int) ((l.map enc).length:Int)=true:=by rw [List.length_map]; exact A0 hi
   simp only [C8 hi,hb,Int.toNat_natCast,Bg hi (show l.length≤1000 by omega),Sw hi,zds];have e:IntKind.i64.wrap (szF (l.take i)+(F0 l[i]:Int))=szF (l.take (i+1)):=by
    have h3:=zcr (l.take i);have h4:=Sa l[i];have h5:(l.take i).length≤2:=by rw [List.length_take]; omega
    have h6:szF (l.take (i+1))=szF (l.take i)+(F0 l[i]:Int):=by
     unfold szF;rw [List.take_succ_eq_append_getElem hi,List.map_append,List.sum_append];simp;omega
    rw [h6];unfold szF;exact wrap_i64 (by omega) (by omega)
   rw [e,ih]
  ·have:i=l.length:=by omega
   subst this;simp only [Cp,List.take_length]
theorem F114_eq (R:Type) (x:Int) (k:Int→Bool→Option R):F114 R x k=if (fsOf x).2=true then k (szF (fsOf x).1) true else k 0 false:=by
 simp only [F114,p114,Tz];cases (fsOf x).2 with
 | false=>simp
 | true=>
  simp only [Bool.not_true,if_true,List.length_map];have:=zmx R (Il x) (fun x4=>k x4 true) FUEL 0 (by omega) (by rw [Ak]; have:=Il x; omega);simpa [szF] using this
end Go.PG
namespace Go.PG
theorem eqvO {a b:OpT} (ha:a.2.2.2.1.length=32) (hb:b.2.2.2.1.length=32):Kd.eqv Kq13 a b=decide (a=b):=by
 obtain ⟨a1,a2,a3,a4,a5,⟨⟩⟩:=a;obtain ⟨b1,b2,b3,b4,b5,⟨⟩⟩:=b;have e1:Kd.eqv (.arr 32 (.int .u8)) a4 b4=decide (a4=b4):=B7 ha hb;show ((a1==b1)&&((a2==b2)&&((a3==b3)&&((Kd.eqv (.arr 32 (.int .u8)) a4 b4)&&((a5==b5)&&true)))))=_;rw [e1]
 by_cases h1:a1=b1
 ·by_cases h2:a2=b2
  ·by_cases h3:a3=b3
   ·by_cases h4:a4=b4
    ·by_cases h5:a5=b5
     ·simp [h1,h2,h3,h4,h5]
     ·simp [h5]
    ·simp [h4]
   ·simp [h3]
  ·simp [h2]
 ·simp [h1]
theorem zj1 {a:Int} (ha:U32 a):Ka (a/16777216 % 256) (a/65536 % 256) (a/256 % 256) (a % 256)=a:=by
 unfold U32 at ha; unfold Ka; omega
theorem zeg (R:Type) {a:Int} (ha:U32 a) (k:Int→Option R):F244 R (Cc a) k=k a:=by
 have u:∀x:Int,U8 (x % 256):=fun x=>by unfold U8; omega
 unfold Cc;rw [zor R (u _) (u _) (u _) (u _),zj1 ha]
def Vn (o:OpT) (l:List Fd) (c:OpT):OpT:=l.foldl (zrq o) c
theorem zxc (R:Type) {o:OpT} (h:OpOK o) (hw:U32 o.2.1) (hn:U32 o.2.2.2.2.1) {l:List Fd} (hl:l.length≤2) (x5:OpT) (k0:List Int→OpT→OpT→Option R):∀(m i:Nat) (c:OpT),i≤l.length→l.length - i<m→
  Kl m R (Db o (l.drop i)) (l.map enc) (l.length:Int) (i:Int) x5 c k0=k0 [] x5 (Vn o (l.drop i) c)
 | 0,i,c,_,hh=>by omega
 | m+1,i,c,h1,h2=>by
  simp only [Kl,zcz]
  by_cases hi:i<l.length
  ·have ih:=zxc R h hw hn hl x5 k0 m (i+1) (zrq o c l[i]) (by omega) (by omega)
   have hb:bnd (i:Int) ((l.map enc).length:Int)=true:=by rw [List.length_map]; exact A0 hi
   have hbl:=Kg h l[i];rw [List.drop_eq_getElem_cons hi,Li];have hlen:(Fa o l[i]++Db o (l.drop (i+1))).length=F0 l[i]+(Db o (l.drop (i+1))).length:=by rw [List.length_append,hbl]
   have c1:decide ((0:Int)≤0∧(0:Int)≤(F0 l[i]:Int)∧(F0 l[i]:Int)≤(F0 l[i]:Int)∧(F0 l[i]:Int)≤((Fa o l[i]++Db o (l.drop (i+1))).length:Int))=true:=by
    rw [hlen]; simp; omega
   have c2:decide ((0:Int)≤(F0 l[i]:Int)∧(F0 l[i]:Int)≤((Fa o l[i]++Db o (l.drop (i+1))).length:Int)∧((Fa o l[i]++Db o (l.drop (i+1))).length:Int)≤((Fa o l[i]++Db o (l.drop (i+1))).length:Int)∧((Fa o l[i]++Db o (l.drop (i+1))).length:Int)≤((Fa o l[i]++Db o (l.drop (i+1))).length:Int))=true:=by
    rw [hlen]; simp; omega
   have t1:List.take (Int.toNat ((F0 l[i]:Int) - 0)) (List.drop 0 (Fa o l[i]++Db o (l.drop (i+1))))=Fa o l[i]:=by
    rw [Int.sub_zero,Int.toNat_natCast,List.drop_zero,←hbl,List.take_left]
   have t2:List.take (Int.toNat (((Fa o l[i]++Db o (l.drop (i+1))).length:Int) - (F0 l[i]:Int))) (List.drop (F0 l[i]) (Fa o l[i]++Db o (l.drop (i+1))))=Db o (l.drop (i+1)):=by
    rw [←hbl,List.drop_left,List.take_of_length_le];rw [List.length_append];omega
   have hbk:Vn o (l[i]::l.drop (i+1)) c=Vn o (l.drop (i+1)) (zrq o c l[i]):=rfl;rw [hbk,←ih];simp only [C8 hi,hb,Int.toNat_natCast,Bg hi (show l.length≤1000 by omega),Sw hi,zds,c1,c2];rw [t1,t2];have hw':=hw;have hn':=hn;unfold U32 at hw' hn';have w1:IntKind.i64.wrap o.2.1=o.2.1:=wrap_i64 (by omega) (by omega);have w2:IntKind.i64.wrap o.2.2.2.2.1=o.2.2.2.2.1:=wrap_i64 (by omega) (by omega);cases l[i] with
   | H=>
    have e1:FnV.same (enc .H).2.2.1 (FnV.fn 201)=true:=rfl;have e2:List.take 32 o.2.2.2.1=o.2.2.2.1:=by rw [List.take_of_length_le (by rw [h.hash.1]; omega)]
    have e3:decide ((32:Int)≤((Fa o .H).length:Int))=true:=by rw [Kg h]; rfl
    simp only [e1,e3];simp only [Fa,e2];rfl
   | A=>
    have e1:FnV.same (enc .A).2.2.1 (FnV.fn 201)=false:=rfl;have e2:FnV.same (enc .A).2.2.1 (FnV.fn 204)=true:=rfl;have e3:decide ((8:Int)≤((Fa o .A).length:Int))=true:=rfl;have e4:List.take 8 (putS o.2.2.1)=putS o.2.2.1:=rfl;simp only [e1,e2,e3];simp only [Fa,e4,F205_eq R h.amount];rfl
   | W=>
    have e1:FnV.same (enc .W).2.2.1 (FnV.fn 201)=false:=rfl;have e2:FnV.same (enc .W).2.2.1 (FnV.fn 204)=false:=rfl;have e2':FnV.same (enc .W).2.2.1 (FnV.clo 243 (FnV.fn 207))=true:=rfl;have e3:decide ((4:Int)≤((Fa o .W).length:Int))=true:=rfl;have e4:List.take 4 (Cc o.2.1)=Cc o.2.1:=rfl;simp only [e1,e2,e2',e3];simp only [Fa,e4,zeg R hw,w1];rfl
   | N=>
    have e1:FnV.same (enc .N).2.2.1 (FnV.fn 201)=false:=rfl;have e2:FnV.same (enc .N).2.2.1 (FnV.fn 204)=false:=rfl;have e2':FnV.same (enc .N).2.2.1 (FnV.clo 243 (FnV.fn 207))=false:=rfl;have e2'':FnV.same (enc .N).2.2.1 (FnV.clo 243 (FnV.fn 208))=true:=rfl;have e3:decide ((4:Int)≤((Fa o .N).length:Int))=true:=rfl;have e4:List.take 4 (Cc o.2.2.2.2.1)=Cc o.2.2.2.2.1:=rfl;simp only [e1,e2,e2',e2'',e3];simp only [Fa,e4,zeg R hn,w2];rfl
  ·have:i=l.length:=by omega
   subst this;simp only [Cp,List.drop_length];rfl
theorem zec (R:Type) (x:Int) (hx:0≤x∧x<256) (b:List Int) (k:Bool→Option R):F67 R (x::b) k=k (if (fsOf x).2=true then decide (szF (fsOf x).1≤((x::b).length:Int)) else true):=by
 simp only [F67,p67];have hb:bnd 0 (((x::b).length:Nat):Int)=true:=by unfold bnd; simp<;>omega
 have hw:IntKind.i64.wrap x=x:=wrap_i64 (by omega) (by omega);simp only [hb,List.getD_cons_zero,hw,F114_eq];cases (fsOf x).2 with
 | false=>simp
 | true=>simp
theorem Ld {k:Int} (h:(fsOf k).2=true):1≤k∧k≤11:=by
 rcases kinds k with q | q | q | q | q | q | q | q | q | q | q | q
 all_goals try omega
 obtain ⟨h1,h2,h3,h4,h5,h6,h7,h8,h9,h10,h11⟩:=q;simp [fsOf,h1,h2,h3,h4,h5,h6,h7,h8,h9,h10,h11] at h
theorem drop1 (x:Int) (b:List Int):List.take (Int.toNat (((x::b).length:Int) - 1)) (List.drop 1 (x::b))=b:=by
 rw [List.drop_one,List.tail_cons,List.take_of_length_le];rw [List.length_cons];omega
theorem zoj (R:Type) {o:OpT} (h:OpOK o) (hw:U32 o.2.1) (hn:U32 o.2.2.2.2.1) (hv:(fsOf o.1).2=true) (k:OpT→List Int→Option R):
  F66 R (Nd o) k=k (Vn o (fsOf o.1).1 (o.1,(0:Int),(0:Int),(List.replicate 32 (0:Int)),(0:Int),())) []:=by
 have hr:=Ld hv;have em:o.1 % 256=o.1:=by omega
 unfold Nd;rw [if_pos hv,em];simp only [F66,p66];have hb:bnd 0 (((o.1::Db o (fsOf o.1).1).length:Nat):Int)=true:=by unfold bnd; simp<;>omega
 have hwr:IntKind.i64.wrap o.1=o.1:=wrap_i64 (by omega) (by omega);have hc:decide ((0:Int)≤1∧(1:Int)≤((o.1::Db o (fsOf o.1).1).length:Int)∧((o.1::Db o (fsOf o.1).1).length:Int)≤((o.1::Db o (fsOf o.1).1).length:Int)∧((o.1::Db o (fsOf o.1).1).length:Int)≤((o.1::Db o (fsOf o.1).1).length:Int))=true:=by
  simp<;>omega
 have hs:decide (szF (fsOf o.1).1≤((o.1::Db o (fsOf o.1).1).length:Int))=true:=by
  unfold szF;rw [List.length_cons,Pc h];simp; omega
 simp only [hb,List.getD_cons_zero,hwr,Tz,hv,Bool.not_true,zec R o.1 (by omega),if_true,hs,hc,drop1,List.length_map];have:=zxc R h hw hn (Il o.1) ((0:Int),(0:Int),(0:Int),(List.replicate 32 (0:Int)),(0:Int),()) (fun x9 x10 x11=>k x11 x9) FUEL 0 (o.1,(0:Int),(0:Int),(List.replicate 32 (0:Int)),(0:Int),()) (by omega) (by rw [Ak]; have:=Il o.1; omega);rw [List.drop_zero] at this;exact this
theorem zv1 (R:Type) (x:Int) (hx:0≤x∧x<256) (k:OpT→List Int→Option R):
  F66 R [x] k=if (fsOf x).2=true∧(fsOf x).1=[] then k (x,(0:Int),(0:Int),(List.replicate 32 (0:Int)),(0:Int),()) [] else k ((0:Int),(0:Int),(0:Int),(List.replicate 32 (0:Int)),x,()) []:=by
 simp only [F66,p66];have hwr:IntKind.i64.wrap x=x:=wrap_i64 (by omega) (by omega);have hb:bnd 0 ((([x]:List Int).length:Nat):Int)=true:=rfl;have hc:decide ((0:Int)≤1∧(1:Int)≤(([x]:List Int).length:Int)∧(([x]:List Int).length:Int)≤(([x]:List Int).length:Int)∧(([x]:List Int).length:Int)≤(([x]:List Int).length:Int))=true:=rfl;simp only [hb,List.getD_cons_zero,hwr,Tz,zec R x hx,hc,drop1,List.length_map];cases hv:(fsOf x).2 with
 | false=>simp
 | true=>
  simp only [Bool.not_true,if_true,true_and]
  by_cases he:(fsOf x).1=[]
  ·rw [if_pos he]
   have hs:decide (szF (fsOf x).1≤(([x]:List Int).length:Int))=true:=by rw [he]; rfl
   simp only [hs,he,List.map_nil];obtain ⟨m,hm⟩:=Ga 1 (by omega);rw [hm];simp only [Kl,zcz];rfl
  ·rw [if_neg he]
   have hs:decide (szF (fsOf x).1≤(([x]:List Int).length:Int))=false:=by
    cases hq:(fsOf x).1 with
    | nil=>exact absurd hq he
    | cons f l=>
     unfold szF;have:4≤F0 f:=by cases f<;>decide
     simp;omega
   simp only [hs,Bool.not_false]
def zwd (o:OpT):Bool:=decide (0≤o.2.1∧o.2.1<4294967296∧0≤o.2.2.2.2.1∧o.2.2.2.2.1<4294967296)
def D5 (o:OpT):Bool:=zwd o&&(if (fsOf o.1).2=true then decide (Vn o (fsOf o.1).1 (o.1,(0:Int),(0:Int),(List.replicate 32 (0:Int)),(0:Int),())=o)
 else decide (o.2.2.2.2.1≤255∧(fsOf o.2.2.2.2.1).2=false∧o=((0:Int),(0:Int),(0:Int),(List.replicate 32 (0:Int)),o.2.2.2.2.1,())))
theorem Vm {o:OpT} (h:o.2.2.2.1.length=32):∀(l:List Fd) (c:OpT),c.2.2.2.1.length=32→(Vn o l c).2.2.2.1.length=32
 | [],_,hc=>hc
 | f::l,c,hc=>by
  show (Vn o l (zrq o c f)).2.2.2.1.length=32;refine Vm h l _ ?_;cases f
  ·exact h
  ·exact hc
  ·exact hc
  ·exact hc
theorem F32_eq (R:Type) {o:OpT} (h:OpOK o) (k:Bool→Option R):F32 R o k=k (D5 o):=by
 simp only [F32,p32];unfold D5 zwd
 by_cases r1:o.2.1<0
 ·simp only [decide_eq_true r1]; rw [decide_eq_false (by omega)]; simp
 by_cases r2:o.2.1>4294967295
 ·simp only [decide_eq_false r1,decide_eq_true r2]; rw [decide_eq_false (by omega)]; simp
 by_cases r3:o.2.2.2.2.1<0
 ·simp only [decide_eq_false r1,decide_eq_false r2,decide_eq_true r3]; rw [decide_eq_false (by omega)]; simp
 by_cases r4:o.2.2.2.2.1>4294967295
 ·simp only [decide_eq_false r1,decide_eq_false r2,decide_eq_false r3,decide_eq_true r4]; rw [decide_eq_false (by omega)]; simp
 have hw:U32 o.2.1:=by unfold U32; omega
 have hn:U32 o.2.2.2.2.1:=by unfold U32; omega
 simp only [decide_eq_false r1,decide_eq_false r2,decide_eq_false r3,decide_eq_false r4,F65_eq R h hw hn];rw [decide_eq_true (by omega),Bool.true_and];cases hv:(fsOf o.1).2 with
 | true=>
  rw [zoj R h hw hn hv,eqvO (Vm h.hash.1 _ _ rfl) h.hash.1,if_pos rfl];have e0:((([]:List Int).length:Int)==0)=true:=rfl;simp only [e0];have hbo:Nd o=(o.1 % 256)::Db o (fsOf o.1).1:=by unfold Nd; rw [if_pos hv]
  have hr:=Ld hv;have em:o.1 % 256=o.1:=by omega
  have hs:decide (szF (fsOf o.1).1≤((o.1::Db o (fsOf o.1).1).length:Int))=true:=by
   unfold szF;rw [List.length_cons,Pc h];simp; omega
  rw [hbo,em,zec R o.1 (by omega),if_pos hv,hs];cases decide (Vn o (fsOf o.1).1 (o.1,(0:Int),(0:Int),(List.replicate 32 (0:Int)),(0:Int),())=o)<;>rfl
 | false=>
  have hbo:Nd o=[o.2.2.2.2.1 % 256]:=by unfold Nd; rw [hv]; rfl
  have hx:0≤o.2.2.2.2.1 % 256∧o.2.2.2.2.1 % 256<256:=by omega
  rw [hbo,zv1 R _ hx];simp only [Bool.false_eq_true,if_false];have e0:((([]:List Int).length:Int)==0)=true:=rfl
  by_cases he:(fsOf (o.2.2.2.2.1 % 256)).2=true∧(fsOf (o.2.2.2.2.1 % 256)).1=[]
  ·rw [if_pos he,eqvO (by rfl) h.hash.1]
   have hne:((o.2.2.2.2.1 % 256,(0:Int),(0:Int),(List.replicate 32 (0:Int)),(0:Int),()):OpT)≠o:=fun e=>by
    have:o.1=o.2.2.2.2.1 % 256:=by conv=>lhs; rw [←e]
    rw [←this,hv] at he;cases he.1
   rw [decide_eq_false hne,decide_eq_false]
   rintro ⟨q1,q2,_⟩
   rw [show o.2.2.2.2.1 % 256=o.2.2.2.2.1 by omega,q2] at he;cases he.1
  ·rw [if_neg he,eqvO (by rfl) h.hash.1]
   by_cases e:((0:Int),(0:Int),(0:Int),(List.replicate 32 (0:Int)),o.2.2.2.2.1 % 256,())=o
   ·have en:o.2.2.2.2.1=o.2.2.2.2.1 % 256:=by conv=>lhs; rw [←e]
    simp only [decide_eq_true e,e0,zec R _ hx];cases hq:(fsOf (o.2.2.2.2.1 % 256)).2 with
    | true=>
     have hs:decide (szF (fsOf (o.2.2.2.2.1 % 256)).1≤(([o.2.2.2.2.1 % 256]:List Int).length:Int))=false:=by
      cases hf:(fsOf (o.2.2.2.2.1 % 256)).1 with
      | nil=>exact absurd ⟨hq,hf⟩ he
      | cons f l=>
       unfold szF;have:4≤F0 f:=by cases f<;>decide
       simp;omega
     rw [if_pos rfl,hs,decide_eq_false]
     rintro ⟨_,q2,_⟩
     rw [en,hq] at q2;cases q2
    | false=>
     rw [if_neg (by decide),decide_eq_true];exact ⟨by omega,by rw [en]; exact hq,by rw [←en] at e; exact e.symm⟩
   ·simp only [decide_eq_false e]
    rw [decide_eq_false]
    rintro ⟨q1,_,q3⟩
    rw [show o.2.2.2.2.1 % 256=o.2.2.2.2.1 by omega] at e;exact e q3.symm
end Go.PG
namespace Go.PG
end Go.PG
namespace Go.PG
theorem Q9 {n:Int} (hn:U64 n):∀(m:Nat) (s:Src),SOK s→A2 s=true→64*(m:Int)≤Dh s→(Cv n m s).2.2=0∨(Cv n m s).2.2=9
 | 0,s,_,_,_=>.inr rfl
 | m+1,s,hs,hr,hl=>by
  have hk:=(ziv hn).1;have ht:=zck (s:=s) (n:=B0 n) hr hk (by omega);have h2:=zgv hs hr (k:=B0 n) (by omega);simp only [Cv,ht];rw [if_pos trivial]
  by_cases hv:Hf s (atS s) (B0 n)<n
  ·rw [if_pos hv]; exact .inl rfl
  ·rw [if_neg hv]
   have hs2:=Oh hs (B0 n);rw [ht] at hs2;exact Q9 hn m _ hs2 h2.1 (by rw [h2.2]; omega)
theorem zg5 {l:List Int} (h:AllU64 l):∀(i:Nat),i≤l.length→(posN l i≠0↔0<sumS l i)
 | 0,_=>by simp [posN,sumS]
 | i+1,hi=>by
  have hi':i<l.length:=by omega
  have ih:=zg5 h i (by omega);have h0:=Av h i;have hx:=(Ar h Gh i)
  unfold U64 at hx;rw [Us hi',Bf hi']
  by_cases e:l.getD i 0>0
  ·rw [if_pos e]; omega
  ·rw [if_neg e]
   have:l.getD i 0=0:=by omega
   rw [this];omega
theorem Sg {l:List Int} (h:AllU64 l):posS l≠0↔0<totS l:=by
 have:=zg5 h l.length (Nat.le_refl _);unfold posS totS;omega
theorem zcp {l:List Int} {a:Int} {j:Nat} (hj:j≤l.length):sumS (l++[a]) j=sumS l j:=by
 unfold sumS; rw [List.take_append_of_le_length hj]
theorem own_app {l:List Int} (h:AllU64 l) (hlen:l.length≤199) (ht:totS l<9223372036854775808) {x:Int} (hx:0≤x∧x<totS l):ownN (l++[0]) x=ownN l x:=by
 obtain ⟨i,hi,e⟩:=zc9 h (by omega) ht hx;rw [e];have hA:AllU64 (l++[0]):=fun y hy=>by
  rcases List.mem_append.1 hy with hy | hy
  ·exact h y hy
  ·rw [List.mem_singleton.1 hy]; exact Gh
 refine Sj hA ⟨by rw [List.length_append]; have:=hi.1; omega,?_⟩;rw [zcp (by have:=hi.1; omega),zcp (by have:=hi.1; omega)];exact hi.2
theorem Vh {n:Int}:∀(m:Nat) (s:Src),(Cv n m s).2.2=0→(Cv n m s).1<n
 | 0,s,h=>by simp [Cv] at h
 | m+1,s,h=>by
  simp only [Cv] at h ⊢;split
  ·rename_i h1
   rw [if_pos h1] at h;split
   ·assumption
   ·rename_i h2
    rw [if_neg h2] at h;exact Vh m _ h
  ·rename_i h1
   rw [if_neg h1] at h;exact absurd h h1
theorem zky {s:Src} {n m:Int} (h:(Bq s n m).2.2=0):0≤(Bq s n m).1∧(Bq s n m).1<n:=by
 unfold Bq at h ⊢;split
 ·rename_i hc
  rw [if_pos hc] at h;exact ⟨Hs _ _,Vh _ _ h⟩
 ·rename_i hc
  rw [if_neg hc] at h;cases h
theorem zt3 {a:List Int} {slot m:Int} {l:List Int} (h:AllU64 l) (hlen:l.length≤199):leaS a slot m (l++[0])=leaS a slot m l:=by
 unfold leaS;rw [He,Int.add_zero]
 by_cases hm:mayS m slot=true
 ·rw [if_pos hm,if_pos hm]
  by_cases ht:totS l<9223372036854775808
  ·rw [if_pos ht,if_pos ht]
   have:∀s:Src,B8 (l++[0]) s m=B8 l s m:=fun s=>by
    unfold B8;rw [He,Int.add_zero,if_pos ht,if_pos ht]
    by_cases h0:totS l=0
    ·rw [if_pos h0,if_pos h0]
    ·rw [if_neg h0,if_neg h0]
     by_cases hd:(Bq s (totS l) m).2.2=0
     ·rw [if_pos hd,if_pos hd,own_app h hlen ht (zky hd)]
     ·rw [if_neg hd,if_neg hd]
   rw [this]
  ·rw [if_neg ht,if_neg ht]
 ·rw [if_neg hm,if_neg hm]
theorem zt2 {a:List Int} (ha:H32 a) {slot m:Int} {l:List Int} (h:AllU64 l) (hm:mayS m slot=true) (ht:totS l<9223372036854775808) (hp:0<totS l):
  ((leaS a slot m l).2=0∧0≤(leaS a slot m l).1)∨(leaS a slot m l).2=9:=by
 obtain ⟨m1,m2,m3,m4⟩:=Gn hm;unfold leaS;rw [if_pos hm,if_pos ht];have hs:=Ol ha (d:=1) (slot:=slot) (by omega) (by omega);have hr:A2 (srcS a 1 slot)=true:=by
  unfold A2 srcS Ch; simp
 have hl:Dh (srcS a 1 slot)=4611686018427387904:=by
  unfold Dh; rw [if_pos hr]; unfold endS srcS Ch; simp
 have hu:U64 (totS l):=by unfold U64; omega
 simp only [];unfold B8;rw [if_pos ht,if_neg (by omega)];have hd:(Bq (srcS a 1 slot) (totS l) m)=Cv (totS l) m.toNat (srcS a 1 slot):=by
  unfold Bq;rw [if_pos ⟨hr,hp,ht,by omega,by omega⟩]
 have he:=Q9 hu m.toNat (srcS a 1 slot) hs hr (by rw [hl]; omega);rw [←hd] at he
 by_cases h0:(Bq (srcS a 1 slot) (totS l) m).2.2=0
 ·rw [if_pos h0]; exact .inl ⟨rfl,Int.natCast_nonneg _⟩
 ·rw [if_neg h0]; exact .inr (he.resolve_left h0)
end Go.PG
namespace Go.PG
abbrev Led:=Cfg×(Int×(List Va×(Bea×(List Int×(List Int×Unit)))))
abbrev An:=Int×(Int×(List Int×(List Int×Unit)))
abbrev Clk:=Led×(An×Unit)
def badS (e:Int):An:=(e,(0:Int),([]:List Int),(List.replicate 32 (0:Int)),())
def okS (n:Int):An:=((0:Int),n,([]:List Int),(List.replicate 32 (0:Int)),())
def C7 (l:Led) (r:List Va×Int×Int):Led×An:=if r.2.2=0 then ((l.1,l.2.1,r.1,l.2.2.2),okS r.2.1) else (l,badS r.2.2)
def I1 (l:Led) (r:Bea×Int):Led×An:=if r.2=0 then ((l.1,l.2.1,l.2.2.1,r.1,l.2.2.2.2),okS 0) else (l,badS r.2)
def Ec (l:Led) (w:Int):Bool:=decide (0≤w∧w<(l.2.2.1.length:Int))
def advS (l:Led):Led×An:=
 if zkb l.1 l.2.1=true then
  (if (bEnd l.2.2.2.1).2.2.2=0 then
   ((l.1,J8 l.1 l.2.1,actS l.2.2.1,(bEnd l.2.2.2.1).1,(schL (bEnd l.2.2.2.1).1.2.1 l.1.1 l.1.2.2.2.1 (Al (actS l.2.2.1))).1,(bEnd l.2.2.2.1).2.2.1,()),
    ((0:Int),J8 l.1 l.2.1,(bEnd l.2.2.2.1).2.2.1,(bEnd l.2.2.2.1).1.2.1,()))
  else (l,badS (bEnd l.2.2.2.1).2.2.2))
 else ((l.1,J8 l.1 l.2.1,l.2.2),okS (J8 l.1 l.2.1))
def askS (l:Led) (o:OpT):An:=
 if o.1=10 then (if Ec l o.2.1=true then okS (if o.2.2.2.2.1=0 then (l.2.2.1.getD o.2.1.toNat zV).2.1 else (l.2.2.1.getD o.2.1.toNat zV).2.2.1) else badS 5)
 else if o.1=11 then ((0:Int),l.2.2.2.1.1,([]:List Int),l.2.2.2.1.2.1,())
 else if o.2.2.2.2.1≥l.1.1 then badS 3
 else if o.1=7 then
  (if posS (Al l.2.2.1)=0 then badS 10 else
   if (leaS l.2.2.2.1.2.1 o.2.2.2.2.1 l.1.2.2.2.1 (Al l.2.2.1)).2=0 then ((0:Int),(0:Int),[(leaS l.2.2.2.1.2.1 o.2.2.2.2.1 l.1.2.2.2.1 (Al l.2.2.1)).1],(List.replicate 32 (0:Int)),())
   else badS (leaS l.2.2.2.1.2.1 o.2.2.2.2.1 l.1.2.2.2.1 (Al l.2.2.1)).2)
 else if o.1=8 then
  (if (aliS l.2.2.2.1.2.1 o.2.2.2.2.1 l.1.2.2.2.1 (Al l.2.2.1)).2=0 then ((0:Int),(0:Int),[(aliS l.2.2.2.1.2.1 o.2.2.2.2.1 l.1.2.2.2.1 (Al l.2.2.1)).1],(List.replicate 32 (0:Int)),())
   else badS (aliS l.2.2.2.1.2.1 o.2.2.2.2.1 l.1.2.2.2.1 (Al l.2.2.1)).2)
 else
  (if (sitS l.2.2.2.1.2.1 o.2.2.2.2.1 o.2.1 l.1.2.2.2.1 (Al l.2.2.1)).2=0 then ((0:Int),(0:Int),(sitS l.2.2.2.1.2.1 o.2.2.2.2.1 o.2.1 l.1.2.2.2.1 (Al l.2.2.1)).1,(List.replicate 32 (0:Int)),())
   else badS (sitS l.2.2.2.1.2.1 o.2.2.2.2.1 o.2.1 l.1.2.2.2.1 (Al l.2.2.1)).2)
def doS (l:Led) (o:OpT):Led×An:=
 if D5 o=true∧o.1≠0 then
  if o.1=1 then C7 l (depS l.2.2.1 o.2.2.2.1 o.2.2.1 l.1.2.2.2.2.1)
  else if o.1=2 then C7 l (wdS l.2.2.1 o.2.1 o.2.2.1)
  else if o.1=3 then C7 l (slS l.2.2.1 o.2.1 o.2.2.1)
  else if o.1=4 then (if Ec l o.2.1=true then I1 l (De l.2.2.2.1 (phS l.1 l.2.1) o.2.1 o.2.2.2.1) else (l,badS 5))
  else if o.1=5 then (if Ec l o.2.1=true then I1 l (Dd l.2.2.2.1 (phS l.1 l.2.1) o.2.1 o.2.2.2.1) else (l,badS 5))
  else if o.1=6 then advS l
  else (l,askS l o)
 else (l,badS 2)
structure LOK (c:Cfg) (n:Nat) (l:Led):Prop where
 cfg:l.1=c
 right:cfgS c=true
 slot:0≤l.2.1∧l.2.1<c.1
 vals:VsOK l.2.2.1
 vlen:l.2.2.1.length≤n
 next:totS (A1 l.2.2.1)<9223372036854775808
 stake:totS (Al l.2.2.1)<9223372036854775808
 bea:Ge l.2.2.2.1
 blen:l.2.2.2.1.2.2.2.1.length≤n
 llen:(l.2.2.2.2.1.length:Int)=c.1
 lead:∀i:Nat,(i:Int)<c.1→posS (Al l.2.2.1)≠0→l.2.2.2.2.1.getD i 0=schV l.2.2.2.1.2.1 c.2.2.2.1 (Al l.2.2.1) i
 miss:l.2.2.2.2.2.1.length≤1000
theorem ze8 {o:OpT} (h:D5 o=true) (h0:o.1≠0):1≤o.1∧o.1≤11:=by
 unfold D5 at h;rw [Bool.and_eq_true] at h
 by_cases hv:(fsOf o.1).2=true
 ·exact Ld hv
 ·rw [if_neg hv] at h
  have:=(of_decide_eq_true h.2).2.2;exfalso;apply h0;rw [this]
theorem Sd {o:OpT} (h:D5 o=true):0≤o.2.2.2.2.1∧o.2.2.2.2.1<4294967296∧0≤o.2.1∧o.2.1<4294967296:=by
 unfold D5 at h;rw [Bool.and_eq_true] at h;have:=of_decide_eq_true h.1;omega
end Go.PG
namespace Go.PG
theorem zdv {x:Int} (h:x=0):(x !=0)=false:=by simp [h]
theorem zk5 {x:Int} (h:¬x=0):(x !=0)=true:=by simpa using h
theorem zvh (l:List Va) (key:List Int) (a most:Int) (hn:l.length≤1000):0≤(depS l key a most).2.1∧(depS l key a most).2.1≤1000:=by
 unfold depS;split
 ·cases hq:fstK l key with
  | none=>
   simp only [];split
   ·simp
   ·split
    ·simp only []; omega
    ·simp
  | some i=>
   have:=(Zk hq).1;simp only [];split
   ·simp only []; omega
   ·simp
 ·simp
section
variable {c:Cfg} {n:Nat} {l:Led}
theorem Ox (h:LOK c n l):0≤J8 l.1 l.2.1∧J8 l.1 l.2.1<c.1∧c.1≤1024:=by
 have h1:=Cj h.right;have h2:=h.slot;unfold J8;rw [h.cfg];split
 ·omega
 ·omega
theorem zlg {v:List Va} (h:VsOK v):VsOK (actS v):=fun x hx=>by
 obtain ⟨y,hy,rfl⟩:=List.mem_map.1 hx;exact ⟨(h y hy).key,(h y hy).next,(h y hy).next⟩
theorem Ph (v:List Va):Al (actS v)=A1 v:=by simp [Al,actS,A1,actV]
theorem zfw (v:List Va):A1 (actS v)=A1 v:=by simp [actS,A1,actV]
theorem zk9 {b:Bea} (h:Ge b):H32 (bEnd b).1.2.1∧((bEnd b).2.2.2=0→(bEnd b).2.1.2.2.2.1=(bEnd b).1.2.1):=by
 unfold bEnd;split
 ·exact ⟨A5,fun h=>by cases h⟩
 ·split
  ·exact ⟨A5,fun h=>by cases h⟩
  ·exact ⟨zct _ _ _,fun _=>rfl⟩
end
end Go.PG
set_option maxRecDepth 100000
namespace Go.PG
def endC {R:Type} (l:Led) (k:Led→An→Option R) (y:Int) (p:Clk):Option R:=match (y !=0) with | true=>k l (badS y) | false=>k p.1 p.2.1
def Dn {R:Type} (l:Led) (k:Led→An→Option R) (x:Option R) (y:Bool):Option R:=match (!y) with | true=>k l (badS 2) | false=>x
theorem F13_1 (R:Type) (l:Led) {o:OpT} (hk:o.1=1) (k:Led→An→Option R):F13 R l o k=F32 R o (Dn l k (F51 R (l,okS 0,()) o (endC l k))):=by
 obtain ⟨x,r⟩:=o;cases hk
 kernel_rfl
theorem F13_2 (R:Type) (l:Led) {o:OpT} (hk:o.1=2) (k:Led→An→Option R):F13 R l o k=F32 R o (Dn l k (F52 R (l,okS 0,()) o (endC l k))):=by
 obtain ⟨x,r⟩:=o;cases hk
 kernel_rfl
theorem F13_3 (R:Type) (l:Led) {o:OpT} (hk:o.1=3) (k:Led→An→Option R):F13 R l o k=F32 R o (Dn l k (F53 R (l,okS 0,()) o (endC l k))):=by
 obtain ⟨x,r⟩:=o;cases hk
 kernel_rfl
theorem F13_4 (R:Type) (l:Led) {o:OpT} (hk:o.1=4) (k:Led→An→Option R):F13 R l o k=F32 R o (Dn l k (F54 R (l,okS 0,()) o (endC l k))):=by
 obtain ⟨x,r⟩:=o;cases hk
 kernel_rfl
theorem F13_5 (R:Type) (l:Led) {o:OpT} (hk:o.1=5) (k:Led→An→Option R):F13 R l o k=F32 R o (Dn l k (F57 R (l,okS 0,()) o (endC l k))):=by
 obtain ⟨x,r⟩:=o;cases hk
 kernel_rfl
theorem F13_6 (R:Type) (l:Led) {o:OpT} (hk:o.1=6) (k:Led→An→Option R):F13 R l o k=F32 R o (Dn l k (F59 R (l,okS 0,()) o (endC l k))):=by
 obtain ⟨x,r⟩:=o;cases hk
 kernel_rfl
theorem F13_7 (R:Type) (l:Led) {o:OpT} (hk:o.1=7) (k:Led→An→Option R):F13 R l o k=F32 R o (Dn l k (F60 R (l,okS 0,()) o (endC l k))):=by
 obtain ⟨x,r⟩:=o;cases hk
 kernel_rfl
theorem F13_8 (R:Type) (l:Led) {o:OpT} (hk:o.1=8) (k:Led→An→Option R):F13 R l o k=F32 R o (Dn l k (F61 R (l,okS 0,()) o (endC l k))):=by
 obtain ⟨x,r⟩:=o;cases hk
 kernel_rfl
theorem F13_9 (R:Type) (l:Led) {o:OpT} (hk:o.1=9) (k:Led→An→Option R):F13 R l o k=F32 R o (Dn l k (F62 R (l,okS 0,()) o (endC l k))):=by
 obtain ⟨x,r⟩:=o;cases hk
 kernel_rfl
theorem F13_10 (R:Type) (l:Led) {o:OpT} (hk:o.1=10) (k:Led→An→Option R):F13 R l o k=F32 R o (Dn l k (F63 R (l,okS 0,()) o (endC l k))):=by
 obtain ⟨x,r⟩:=o;cases hk
 kernel_rfl
theorem F13_11 (R:Type) (l:Led) {o:OpT} (hk:o.1=11) (k:Led→An→Option R):F13 R l o k=F32 R o (Dn l k (F64 R (l,okS 0,()) o (endC l k))):=by
 obtain ⟨x,r⟩:=o;cases hk
 kernel_rfl
theorem zv4 (R:Type) (l:Led) {o:OpT} (hk:o.1≠1∧o.1≠2∧o.1≠3∧o.1≠4∧o.1≠5∧o.1≠6∧o.1≠7∧o.1≠8∧o.1≠9∧o.1≠10∧o.1≠11) (k:Led→An→Option R):F13 R l o k=k l (badS 2):=by
 obtain ⟨h1,h2,h3,h4,h5,h6,h7,h8,h9,h10,h11⟩:=hk;simp [F13,p13,By,Kd.eqv];simp only [B1 h1,B1 h2,B1 h3,B1 h4,B1 h5,B1 h6,B1 h7,B1 h8,B1 h9,B1 h10,B1 h11];rfl
end Go.PG
namespace Go.PG
section
variable {c:Cfg} {n:Nat} {l:Led}
theorem B5 {R:Type} (l:Led) {o:OpT} (ho:OpOK o) (k:Led→An→Option R) (x:Option R) (z:Option R) (h1:D5 o=false→k l (badS 2)=z) (h2:D5 o=true→x=z):F32 R o (Dn l k x)=z:=by
 rw [F32_eq R ho];unfold Dn;cases hr:D5 o with
 | false=>exact h1 hr
 | true=>exact h2 hr
theorem Cq {R:Type} (l:Led) (k:Led→An→Option R) {y:Int} (p:Clk) (h:y=0):endC l k y p=k p.1 p.2.1:=by unfold endC; rw [zdv h]
theorem Cl {R:Type} (l:Led) (k:Led→An→Option R) {y:Int} (p:Clk) (h:¬y=0):endC l k y p=k l (badS y):=by unfold endC; rw [zk5 h]
theorem O5 {R:Type} (l:Led) (k:Led→An→Option R) (r:List Va×Int×Int):endC l k r.2.2 ((l.1,l.2.1,r.1,l.2.2.2),((0:Int),r.2.1,([]:List Int),(List.replicate 32 (0:Int)),()),())=k (C7 l r).1 (C7 l r).2:=by
 unfold C7
 by_cases hr:r.2.2=0
 ·rw [Cq l k _ hr,if_pos hr]; rfl
 ·rw [Cl l k _ hr,if_neg hr]
theorem zdr {R:Type} (l:Led) (k:Led→An→Option R) (r:Bea×Int):endC l k r.2 ((l.1,l.2.1,l.2.2.1,r.1,l.2.2.2.2),okS 0,())=k (I1 l r).1 (I1 l r).2:=by
 unfold I1
 by_cases hr:r.2=0
 ·rw [Cq l k _ hr,if_pos hr]
 ·rw [Cl l k _ hr,if_neg hr]
theorem P51 (R:Type) (h:LOK c n l) (hn:n≤100) {o:OpT} (ho:OpOK o) (k:Led→An→Option R):
  F51 R (l,okS 0,()) o (endC l k)=k (C7 l (depS l.2.2.1 o.2.2.2.1 o.2.2.1 l.1.2.2.2.2.1)).1 (C7 l (depS l.2.2.1 o.2.2.2.1 o.2.2.1 l.1.2.2.2.2.1)).2:=by
 have hl:=h.vlen;have hi:=zvh l.2.2.1 o.2.2.2.1 o.2.2.1 l.1.2.2.2.2.1 (by omega);simp only [F51,p51];rw [F97_eq R h.vals (by omega) ho.hash.1 ho.amount,Ae (n:=(depS l.2.2.1 o.2.2.2.1 o.2.2.1 l.1.2.2.2.2.1).2.1) (by omega) (by omega)];exact O5 l k _
theorem P52 (R:Type) (h:LOK c n l) (hn:n≤100) {o:OpT} (ho:OpOK o) (k:Led→An→Option R):
  F52 R (l,okS 0,()) o (endC l k)=k (C7 l (wdS l.2.2.1 o.2.1 o.2.2.1)).1 (C7 l (wdS l.2.2.1 o.2.1 o.2.2.1)).2:=by
 have hl:=h.vlen;simp only [F52,p52];rw [F98_eq R h.vals (by omega) _ ho.amount];exact O5 l k _
theorem P53 (R:Type) (h:LOK c n l) (hn:n≤100) {o:OpT} (ho:OpOK o) (k:Led→An→Option R):
  F53 R (l,okS 0,()) o (endC l k)=k (C7 l (slS l.2.2.1 o.2.1 o.2.2.1)).1 (C7 l (slS l.2.2.1 o.2.1 o.2.2.1)).2:=by
 have hl:=h.vlen;simp only [F53,p53];rw [F99_eq R h.vals (by omega) _ ho.amount];exact O5 l k _
theorem zb5 (R:Type) (p:Clk) (w:Int) (k:Int→Clk→Option R):F100 R p w k=k (if Ec p.1 w=true then 0 else 5) p:=by
 simp only [F100,p100]
 by_cases h1:w<0
 ·have e:Ec p.1 w=false:=decide_eq_false (by omega)
  simp only [decide_eq_true h1]; rw [e]; rfl
 ·simp only [decide_eq_false h1]
  by_cases h2:w≥(p.1.2.2.1.length:Int)
  ·have e:Ec p.1 w=false:=decide_eq_false (by omega)
   simp only [decide_eq_true h2]; rw [e]; rfl
  ·have e:Ec p.1 w=true:=decide_eq_true (by omega)
   simp only [decide_eq_false h2]; rw [e]; rfl
theorem P54 (R:Type) (h:LOK c n l) (hn:n≤100) {o:OpT} (ho:OpOK o) (k:Led→An→Option R):
  F54 R (l,okS 0,()) o (endC l k)=k (if Ec l o.2.1=true then I1 l (De l.2.2.2.1 (phS l.1 l.2.1) o.2.1 o.2.2.2.1) else (l,badS 5)).1 (if Ec l o.2.1=true then I1 l (De l.2.2.2.1 (phS l.1 l.2.1) o.2.1 o.2.2.2.1) else (l,badS 5)).2:=by
 have hl:=h.blen;simp only [F54,p54,Gd,zhe,zb5];cases Ec l o.2.1 with
 | false=>
  simp only [Bool.false_eq_true,if_false];exact Cl l k _ (by decide)
 | true=>
  simp only [if_true,show ((0:Int) !=0)=false from rfl,zpb,F56_eq R h.bea (show l.2.2.2.1.2.2.2.1.length≤400 by omega) _ ho.who ho.hash];exact zdr l k _
theorem P57 (R:Type) (h:LOK c n l) (hn:n≤100) {o:OpT} (ho:OpOK o) (k:Led→An→Option R):
  F57 R (l,okS 0,()) o (endC l k)=k (if Ec l o.2.1=true then I1 l (Dd l.2.2.2.1 (phS l.1 l.2.1) o.2.1 o.2.2.2.1) else (l,badS 5)).1 (if Ec l o.2.1=true then I1 l (Dd l.2.2.2.1 (phS l.1 l.2.1) o.2.1 o.2.2.2.1) else (l,badS 5)).2:=by
 have hl:=h.blen;simp only [F57,p57,Gb,zhd,zb5];cases Ec l o.2.1 with
 | false=>
  simp only [Bool.false_eq_true,if_false];exact Cl l k _ (by decide)
 | true=>
  simp only [if_true,show ((0:Int) !=0)=false from rfl,zpb,F58_eq R h.bea (show l.2.2.2.1.2.2.2.1.length≤400 by omega) _ _ ho.hash];exact zdr l k _
theorem zgp (h:LOK c n l) (a:List Int):(schL a l.1.1 l.1.2.2.2.1 (Al (actS l.2.2.1))).2=0∧(schL a l.1.1 l.1.2.2.2.1 (Al (actS l.2.2.1))).1=schP a l.1.2.2.2.1 (Al (actS l.2.2.1)) l.1.1.toNat:=by
 have hc:=Cj h.right;have hm:mayS l.1.2.2.2.1 (l.1.1 - 1)=true:=by
  rw [h.cfg]; unfold mayS; simp; omega
 have ht:totS (Al (actS l.2.2.1))<9223372036854775808:=by rw [Ph]; exact h.next
 unfold schL;rw [if_neg (by rw [h.cfg]; omega),if_pos hm,if_pos ht];exact ⟨rfl,rfl⟩
theorem zix (l:List Cm):(G8 l).length≤l.length:=by
 unfold G8;simp only [List.length_map];exact List.length_filter_le _ _
theorem zfs (b:Bea):(bEnd b).2.2.1.length≤b.2.2.2.1.length:=by
 unfold bEnd;split
 ·simp
 ·split
  ·simp
  ·exact zix _
theorem P59 (R:Type) (h:LOK c n l) (hn:n≤100) {o:OpT} (k:Led→An→Option R):
  F59 R (l,okS 0,()) o (endC l k)=k (advS l).1 (advS l).2:=by
 have hl:=h.blen;have hv:=h.vlen;have hx:=Ox h;have hc:=Cj h.right;obtain ⟨hs,hf⟩:=zk9 h.bea;simp only [F59,p59,F106_eq];rw [Ae (n:=J8 l.1 l.2.1) (by omega) (by omega)];unfold advS;cases zkb l.1 l.2.1 with
 | false=>
  simp only [Bool.false_eq_true,if_false];exact Cq l k _ rfl
 | true=>
  simp only [if_true,F107,p107,F153_eq R h.bea (show l.2.2.2.1.2.2.2.1.length≤400 by omega)]
  by_cases he:(bEnd l.2.2.2.1).2.2.2=0
  ·simp only [zdv he,if_pos he,F154_eq R (show l.2.2.1.length≤1000 by omega)]
   have hm:=zfs l.2.2.2.1;have hcl:decide (([]:List Int).length+(bEnd l.2.2.2.1).2.2.1.length≤17592186044416)=true:=by simp; omega
   simp only [F155,hcl];rw [Ql R (by rw [Ki]; omega),F156_eq R hs (by rw [h.cfg]; omega) _ (Cy (zlg h.vals)) (by rw [Bu,Ki]; omega)];exact Cq l k _ (zgp h _).1
  ·simp only [zk5 he,if_neg he]
   exact Cl l k _ he
theorem askS_7 (l:Led) {o:OpT} (hk:o.1=7):askS l o=if o.2.2.2.2.1≥l.1.1 then badS 3 else
  (if posS (Al l.2.2.1)=0 then badS 10 else
   if (leaS l.2.2.2.1.2.1 o.2.2.2.2.1 l.1.2.2.2.1 (Al l.2.2.1)).2=0 then ((0:Int),(0:Int),[(leaS l.2.2.2.1.2.1 o.2.2.2.2.1 l.1.2.2.2.1 (Al l.2.2.1)).1],(List.replicate 32 (0:Int)),())
   else badS (leaS l.2.2.2.1.2.1 o.2.2.2.2.1 l.1.2.2.2.1 (Al l.2.2.1)).2):=by
 unfold askS; rw [hk]; rfl
theorem askS_8 (l:Led) {o:OpT} (hk:o.1=8):askS l o=if o.2.2.2.2.1≥l.1.1 then badS 3 else
  (if (aliS l.2.2.2.1.2.1 o.2.2.2.2.1 l.1.2.2.2.1 (Al l.2.2.1)).2=0 then ((0:Int),(0:Int),[(aliS l.2.2.2.1.2.1 o.2.2.2.2.1 l.1.2.2.2.1 (Al l.2.2.1)).1],(List.replicate 32 (0:Int)),())
   else badS (aliS l.2.2.2.1.2.1 o.2.2.2.2.1 l.1.2.2.2.1 (Al l.2.2.1)).2):=by
 unfold askS; rw [hk]; rfl
theorem askS_9 (l:Led) {o:OpT} (hk:o.1=9):askS l o=if o.2.2.2.2.1≥l.1.1 then badS 3 else
  (if (sitS l.2.2.2.1.2.1 o.2.2.2.2.1 o.2.1 l.1.2.2.2.1 (Al l.2.2.1)).2=0 then ((0:Int),(0:Int),(sitS l.2.2.2.1.2.1 o.2.2.2.2.1 o.2.1 l.1.2.2.2.1 (Al l.2.2.1)).1,(List.replicate 32 (0:Int)),())
   else badS (sitS l.2.2.2.1.2.1 o.2.2.2.2.1 o.2.1 l.1.2.2.2.1 (Al l.2.2.1)).2):=by
 unfold askS; rw [hk]; rfl
theorem zb4 (R:Type) (p:Clk) (w:Int) (hw:0≤w) (k:Int→Clk→Option R):F108 R p w k=k (if w≥p.1.1.1 then 3 else 0) p:=by
 simp only [F108,p108,decide_eq_false (show ¬w<0 by omega)]
 by_cases h2:w≥p.1.1.1
 ·simp only [decide_eq_true h2,if_pos h2]
 ·simp only [decide_eq_false h2,if_neg h2]
theorem P60 (R:Type) (h:LOK c n l) (hn:n≤100) {o:OpT} (hr:D5 o=true) (hk:o.1=7) (k:Led→An→Option R):
  F60 R (l,okS 0,()) o (endC l k)=k l (askS l o):=by
 have hv:=h.vlen;have hA:=Cy h.vals;have hL:(Al l.2.2.1).length≤200:=by rw [Bu]; omega
 obtain ⟨hn0,_,_,_⟩:=Sd hr;have hc:=Cj h.right;simp only [F60,p60,zb4 R _ _ hn0];rw [askS_7 l hk]
 by_cases h1:o.2.2.2.2.1≥l.1.1
 ·simp only [if_pos h1,show ((3:Int) !=0)=true from rfl]
  exact Cl l k _ (show ¬(3:Int)=0 by decide)
 ·simp only [if_neg h1,show ((0:Int) !=0)=false from rfl,Ql R (show l.2.2.1.length≤1000 by omega),zej R (show (Al l.2.2.1).length≤1000000 by omega)]
  by_cases h2:posS (Al l.2.2.1)=0
  ·rw [if_pos h2,h2]
   exact Cl l k _ (by decide)
  ·rw [if_neg h2]
   simp only [B1 h2];obtain ⟨i,hi⟩:∃i:Nat,o.2.2.2.2.1=i:=⟨o.2.2.2.2.1.toNat,by omega⟩
   rw [hi] at h1 ⊢;have hll:=h.llen;have hcf:=h.cfg;have hil:i<l.2.2.2.2.1.length:=by rw [hcf] at h1; omega
   have hld:=h.lead i (by rw [hcf] at h1; omega) h2;simp only [A0 hil,Int.toNat_natCast,hld];have hm:mayS l.1.2.2.2.1 (i:Int)=true:=by
    rw [hcf] at h1 ⊢; unfold mayS; simp; omega
   have hE:=zt2 h.bea.seed (slot:=(i:Int)) (m:=l.1.2.2.2.1) hA hm h.stake ((Sg hA).1 h2);rw [hcf] at hE ⊢;unfold schV;rcases hE with ⟨e1,e2⟩ | e1
   ·rw [if_pos e1,if_pos e1]
    have e3:((leaS l.2.2.2.1.2.1 (i:Int) c.2.2.2.1 (Al l.2.2.1)).1== -1)=false:=B1 (by omega);simp only [e3];exact Cq l k _ rfl
   ·have e0:¬(leaS l.2.2.2.1.2.1 (i:Int) c.2.2.2.1 (Al l.2.2.1)).2=0:=by rw [e1]; decide
    rw [if_neg e0,if_neg e0];simp only [show ((-1:Int)== -1)=true from rfl];rw [e1];exact Cl l k _ (by decide)
theorem P61 (R:Type) (h:LOK c n l) (hn:n≤100) {o:OpT} (hr:D5 o=true) (hk:o.1=8) (k:Led→An→Option R):
  F61 R (l,okS 0,()) o (endC l k)=k l (askS l o):=by
 have hv:=h.vlen;have hA:=Cy h.vals;have hL:(Al l.2.2.1).length≤200:=by rw [Bu]; omega
 obtain ⟨hn0,_,_,_⟩:=Sd hr;simp only [F61,p61,zb4 R _ _ hn0];rw [askS_8 l hk]
 by_cases h1:o.2.2.2.2.1≥l.1.1
 ·simp only [if_pos h1,show ((3:Int) !=0)=true from rfl]
  exact Cl l k _ (show ¬(3:Int)=0 by decide)
 ·simp only [if_neg h1,show ((0:Int) !=0)=false from rfl,Ql R (show l.2.2.1.length≤1000 by omega),F111_eq R h.bea.seed _ _ hA hL]
  by_cases h2:(aliS l.2.2.2.1.2.1 o.2.2.2.2.1 l.1.2.2.2.1 (Al l.2.2.1)).2=0
  ·rw [if_pos h2,Cq l k _ h2]; rfl
  ·rw [if_neg h2,Cl l k _ h2]
theorem P62 (R:Type) (h:LOK c n l) (hn:n≤100) {o:OpT} (hr:D5 o=true) (hk:o.1=9) (k:Led→An→Option R):
  F62 R (l,okS 0,()) o (endC l k)=k l (askS l o):=by
 have hv:=h.vlen;have hA:=Cy h.vals;have hL:(Al l.2.2.1).length≤200:=by rw [Bu]; omega
 obtain ⟨hn0,_,_,_⟩:=Sd hr;simp only [F62,p62,zb4 R _ _ hn0];rw [askS_9 l hk]
 by_cases h1:o.2.2.2.2.1≥l.1.1
 ·simp only [if_pos h1,show ((3:Int) !=0)=true from rfl]
  exact Cl l k _ (show ¬(3:Int)=0 by decide)
 ·simp only [if_neg h1,show ((0:Int) !=0)=false from rfl,Ql R (show l.2.2.1.length≤1000 by omega),F112_eq R h.bea.seed _ _ _ hA hL]
  by_cases h2:(sitS l.2.2.2.1.2.1 o.2.2.2.2.1 o.2.1 l.1.2.2.2.1 (Al l.2.2.1)).2=0
  ·rw [if_pos h2,Cq l k _ h2]; rfl
  ·rw [if_neg h2,Cl l k _ h2]
theorem P63 (R:Type) {o:OpT} (hk:o.1=10) (k:Led→An→Option R):
  F63 R (l,okS 0,()) o (endC l k)=k l (askS l o):=by
 simp only [F63,p63,zb5];unfold askS;rw [hk,if_pos rfl];cases ht:Ec l o.2.1 with
 | false=>
  simp only [Bool.false_eq_true,if_false];exact Cl l k _ (by decide)
 | true=>
  have ht':=of_decide_eq_true ht;obtain ⟨i,hi⟩:∃i:Nat,o.2.1=i:=⟨o.2.1.toNat,by omega⟩
  have hb:bnd o.2.1 (l.2.2.1.length:Int)=true:=by rw [hi]; exact A0 (by omega)
  simp only [if_true,show ((0:Int) !=0)=false from rfl,hb]
  by_cases k2:o.2.2.2.2.1=0
  ·simp only [k2,if_true,show ((0:Int)==0)=true from rfl]
   exact Cq l k _ rfl
  ·simp only [B1 k2,if_neg k2]
   exact Cq l k _ rfl
theorem P64 (R:Type) {o:OpT} (hk:o.1=11) (k:Led→An→Option R):
  F64 R (l,okS 0,()) o (endC l k)=k l (askS l o):=by
 simp only [F64,p64];unfold askS;rw [hk,if_neg (by decide),if_pos rfl];exact Cq l k _ rfl
theorem zx5 (R:Type) (h:LOK c n l) (hn:n≤100) {o:OpT} (ho:OpOK o) (k:Led→An→Option R):F13 R l o k=k (doS l o).1 (doS l o).2:=by
 have hf:D5 o=false→k l (badS 2)=k (doS l o).1 (doS l o).2:=fun hr=>by unfold doS; rw [hr]; rfl
 have hd:D5 o=true→o.1≠0→doS l o=if o.1=1 then C7 l (depS l.2.2.1 o.2.2.2.1 o.2.2.1 l.1.2.2.2.2.1)
  else if o.1=2 then C7 l (wdS l.2.2.1 o.2.1 o.2.2.1)
  else if o.1=3 then C7 l (slS l.2.2.1 o.2.1 o.2.2.1)
  else if o.1=4 then (if Ec l o.2.1=true then I1 l (De l.2.2.2.1 (phS l.1 l.2.1) o.2.1 o.2.2.2.1) else (l,badS 5))
  else if o.1=5 then (if Ec l o.2.1=true then I1 l (Dd l.2.2.2.1 (phS l.1 l.2.1) o.2.1 o.2.2.2.1) else (l,badS 5))
  else if o.1=6 then advS l
  else (l,askS l o):=fun hr h0=>by unfold doS; rw [if_pos ⟨hr,h0⟩]
 rcases kinds o.1 with q | q | q | q | q | q | q | q | q | q | q | q
 ·rw [F13_1 R l q]; exact B5 l ho k _ _ hf fun hr=>by rw [P51 R h hn ho,hd hr (by omega)]; simp [q]
 ·rw [F13_2 R l q]; exact B5 l ho k _ _ hf fun hr=>by rw [P52 R h hn ho,hd hr (by omega)]; simp [q]
 ·rw [F13_3 R l q]; exact B5 l ho k _ _ hf fun hr=>by rw [P53 R h hn ho,hd hr (by omega)]; simp [q]
 ·rw [F13_4 R l q]; exact B5 l ho k _ _ hf fun hr=>by rw [P54 R h hn ho,hd hr (by omega)]; simp [q]
 ·rw [F13_5 R l q]; exact B5 l ho k _ _ hf fun hr=>by rw [P57 R h hn ho,hd hr (by omega)]; simp [q]
 ·rw [F13_6 R l q]; exact B5 l ho k _ _ hf fun hr=>by rw [P59 R h hn,hd hr (by omega)]; simp [q]
 ·rw [F13_7 R l q]; exact B5 l ho k _ _ hf fun hr=>by rw [P60 R h hn hr q,hd hr (by omega)]; simp [q]
 ·rw [F13_8 R l q]; exact B5 l ho k _ _ hf fun hr=>by rw [P61 R h hn hr q,hd hr (by omega)]; simp [q]
 ·rw [F13_9 R l q]; exact B5 l ho k _ _ hf fun hr=>by rw [P62 R h hn hr q,hd hr (by omega)]; simp [q]
 ·rw [F13_10 R l q]; exact B5 l ho k _ _ hf fun hr=>by rw [P63 R q,hd hr (by omega)]; simp [q]
 ·rw [F13_11 R l q]; exact B5 l ho k _ _ hf fun hr=>by rw [P64 R q,hd hr (by omega)]; simp [q]
 ·rw [zv4 R l q]
  have:¬(D5 o=true∧o.1≠0):=fun hh=>by have:=ze8 hh.1 hh.2; omega
  unfold doS;rw [if_neg this]
end
end Go.PG
namespace Go.PG
theorem zco:∀(l:List Int) (i:Nat) (x:Int),i<l.length→(l.set i x).sum=l.sum - l.getD i 0+x
 | [],i,_,h=>by simp at h
 | y::l,0,x,_=>by simp; omega
 | y::l,i+1,x,h=>by
  have:=zco l i x (by simpa using h);simp only [List.set_cons_succ,List.sum_cons,List.getD_cons_succ];omega
theorem zci (l:List Int):totS l=l.sum:=by unfold totS sumS; rw [List.take_length]
theorem I0 {l:List Va} {i:Nat} (hi:i<l.length) (x:Int):Al (Jv l i x)=Al l:=by
 unfold Al Jv;rw [List.map_set];apply List.ext_getElem
 ·simp
 ·intro j h1 h2
  rw [List.getElem_set];split
  ·rename_i e; subst e; rw [Da hi]; simp
  ·rfl
theorem K3 {l:List Va} {i:Nat} (hi:i<l.length) (x:Int):totS (A1 (Jv l i x))=totS (A1 l) - (l.getD i zV).2.2.1+x:=by
 have e:A1 (Jv l i x)=(A1 l).set i x:=by unfold A1 Jv; rw [List.map_set]
 rw [e,zci,zci,zco _ _ _ (by rw [En]; exact hi)];have:(A1 l).getD i 0=(l.getD i zV).2.2.1:=by rw [Da hi]; simp [A1,hi]
 rw [this]
theorem W5 {l:List Va} (h:VsOK l) (i:Nat) {x:Int} (hx:U64 x):VsOK (Jv l i x):=fun v hv=>by
 rcases List.mem_or_eq_of_mem_set hv with h1 | h1
 ·exact h v h1
 ·rw [h1]; exact ⟨(h.get i).key,(h.get i).stake,hx⟩
theorem R0 (l:List Va) (i:Nat) (x:Int):(Jv l i x).length=l.length:=by simp [Jv]
section
variable {c:Cfg} {n:Nat} {l:Led}
theorem LOK.mono (h:LOK c n l):LOK c (n+1) l:=⟨h.cfg,h.right,h.slot,h.vals,by have:=h.vlen; omega,h.next,h.stake,h.bea,by have:=h.blen; omega,h.llen,h.lead,h.miss⟩
structure MOK (l:Led) (n:Nat) (v:List Va):Prop where
 vals:VsOK v
 vlen:v.length≤n+1
 next:totS (A1 v)<9223372036854775808
 stake:Al v=Al l.2.2.1∨Al v=Al l.2.2.1++[0]
theorem Sm (h:LOK c n l) (hn:n≤100) {r:List Va×Int×Int} (hr:r.2.2=0→MOK l n r.1):LOK c (n+1) (C7 l r).1:=by
 unfold C7;split
 ·rename_i h0
  have hm:=hr h0;have hA:=Cy h.vals;have hv:=h.vlen;refine ⟨h.cfg,h.right,h.slot,hm.vals,hm.vlen,hm.next,?_,h.bea,by have:=h.blen; exact Nat.le_succ_of_le this,h.llen,fun i hi hp=>?_,h.miss⟩
  ·rcases hm.stake with e | e
   ·simp only [e]; exact h.stake
   ·simp only [e,He,Int.add_zero]; exact h.stake
  ·rcases hm.stake with e | e
   ·simp only [e] at hp ⊢; exact h.lead i hi hp
   ·simp only [e] at hp ⊢
    have hp':posS (Al l.2.2.1)≠0:=by
     rw [Sg hA];have hA2:AllU64 (Al l.2.2.1++[0]):=by rw [←e]; exact Cy hm.vals
     have:=(Sg hA2).1 hp
     rwa [He,Int.add_zero] at this
    rw [h.lead i hi hp'];unfold schV;rw [zt3 hA (by rw [Bu]; omega)]
 ·exact h.mono
theorem zwv (h:LOK c n l) (hn:n≤100) {o:OpT} (ho:OpOK o) (most:Int) (h0:(depS l.2.2.1 o.2.2.2.1 o.2.2.1 most).2.2=0):MOK l n (depS l.2.2.1 o.2.2.2.1 o.2.2.1 most).1:=by
 have hv:=h.vlen;have ha:=ho.amount;unfold U64 at ha;unfold depS at h0 ⊢;split
 ·rename_i hc
  rw [if_pos hc] at h0;cases hq:fstK l.2.2.1 o.2.2.2.1 with
  | none=>
   rw [hq] at h0;simp only [] at h0 ⊢;split
   ·rename_i h1; rw [if_pos h1] at h0; cases h0
   ·rename_i h1
    rw [if_neg h1] at h0;split
    ·rename_i h2
     refine ⟨fun v hvm=>?_,by simp; omega,?_,.inr ?_⟩
     ·rcases List.mem_append.1 hvm with h3 | h3
      ·exact h.vals v h3
      ·rw [List.mem_singleton.1 h3]; exact ⟨ho.hash,Gh,ho.amount⟩
     ·have:A1 (l.2.2.1++[(o.2.2.2.1,0,o.2.2.1,())])=A1 l.2.2.1++[o.2.2.1]:=by simp [A1]
      simp only [this,He];exact h2
     ·simp [Al]
    ·rename_i h2; rw [if_neg h2] at h0; cases h0
  | some i=>
   rw [hq] at h0;obtain ⟨hi,_⟩:=Zk hq;have hx:=(h.vals.get i).next;have hnx:=zit h.vals hi;unfold U64 at hx;simp only [] at h0 ⊢;split
   ·rename_i h2
    refine ⟨W5 h.vals i (by unfold U64; omega),by rw [R0]; omega,?_,.inl (I0 hi _)⟩;rw [K3 hi];omega
   ·rename_i h2; rw [if_neg h2] at h0; cases h0
 ·rename_i hc; rw [if_neg hc] at h0; cases h0
theorem wd_ok (h:LOK c n l) (w a:Int) (ha:U64 a) (h0:(wdS l.2.2.1 w a).2.2=0):MOK l n (wdS l.2.2.1 w a).1:=by
 have hv:=h.vlen;have ht:=h.next;unfold U64 at ha;unfold wdS at h0 ⊢;split
 ·rename_i hc
  rw [if_pos hc] at h0;split
  ·rename_i h1
   rw [if_pos h1] at h0;have hi:w.toNat<l.2.2.1.length:=by omega
   have hx:=(h.vals.get w.toNat).next;unfold U64 at hx;split
   ·rename_i h2
    refine ⟨W5 h.vals _ (by unfold U64; omega),by rw [R0]; omega,?_,.inl (I0 hi _)⟩;rw [K3 hi];omega
   ·rename_i h2; rw [if_neg h2] at h0; cases h0
  ·rename_i h1; rw [if_neg h1] at h0; cases h0
 ·rename_i hc; rw [if_neg hc] at h0; cases h0
theorem sl_ok (h:LOK c n l) (w a:Int) (ha:U64 a) (h0:(slS l.2.2.1 w a).2.2=0):MOK l n (slS l.2.2.1 w a).1:=by
 have hv:=h.vlen;have ht:=h.next;unfold U64 at ha;unfold slS at h0 ⊢;split
 ·rename_i hc
  rw [if_pos hc] at h0;split
  ·rename_i h1
   rw [if_pos h1] at h0;have hi:w.toNat<l.2.2.1.length:=by omega
   have hx:=(h.vals.get w.toNat).next;unfold U64 at hx;refine ⟨W5 h.vals _ (by unfold U64; omega),by rw [R0]; omega,?_,.inl (I0 hi _)⟩;rw [K3 hi];omega
  ·rename_i h1; rw [if_neg h1] at h0; cases h0
 ·rename_i hc; rw [if_neg hc] at h0; cases h0
theorem Ni {b:Bea} {ph w:Int} {x:List Int} (h0:(De b ph w x).2=0):(De b ph w x).1.1=b.1∧(De b ph w x).1.2.1=b.2.1:=by
 unfold De at h0 ⊢;split
 ·rename_i h1; rw [if_pos h1] at h0; cases h0
 ·rename_i h1
  rw [if_neg h1] at h0;split
  ·rename_i h2
   rw [if_pos h2] at h0;unfold Qn at h0 ⊢;split
   ·exact ⟨rfl,rfl⟩
   ·rename_i h3; rw [if_neg h3] at h0; exact absurd h0 h3
  ·rename_i h2; rw [if_neg h2] at h0; cases h0
theorem Nh {b:Bea} {ph w:Int} {x:List Int} (h0:(Dd b ph w x).2=0):(Dd b ph w x).1.1=b.1∧(Dd b ph w x).1.2.1=b.2.1:=by
 unfold Dd at h0 ⊢;split
 ·rename_i h1; rw [if_pos h1] at h0; cases h0
 ·rename_i h1
  rw [if_neg h1] at h0;split
  ·rename_i h2
   rw [if_pos h2] at h0;unfold Qn at h0 ⊢;split
   ·exact ⟨rfl,rfl⟩
   ·rename_i h3; rw [if_neg h3] at h0; exact absurd h0 h3
  ·rename_i h2; rw [if_neg h2] at h0; cases h0
theorem zgj (h:LOK c n l) {r:Bea×Int} (hr:Ge r.1∧r.1.2.2.2.1.length≤l.2.2.2.1.2.2.2.1.length+1) (hs:r.2=0→r.1.1=l.2.2.2.1.1∧r.1.2.1=l.2.2.2.1.2.1):LOK c (n+1) (I1 l r).1:=by
 have hb:=h.blen;have hv:=h.vlen;unfold I1;split
 ·rename_i h0
  have:=(hs h0).2;exact ⟨h.cfg,h.right,h.slot,h.vals,by simp only []; omega,h.next,h.stake,hr.1,by have:=hr.2; simp only []; omega,h.llen,fun i hi hp=>by simp only [this]; exact h.lead i hi hp,h.miss⟩
 ·exact h.mono
theorem zrs (a:List Int) (m:Int) (l:List Int) {n i:Nat} (h:i<n):(schP a m l n).getD i 0=schV a m l i:=by
 unfold schP;simp [h]
theorem adv_ok (h:LOK c n l) (hn:n≤100):LOK c (n+1) (advS l).1:=by
 have hb:=h.blen;have hv:=h.vlen;have hx:=Ox h;have hc:=Cj h.right;unfold advS;split
 ·split
  ·obtain ⟨b1,b2⟩:=bEnd_ok h.bea
   have hm:=zla l.2.2.2.1;rw [(zgp h _).2];refine ⟨h.cfg,h.right,⟨hx.1,hx.2.1⟩,zlg h.vals,by simp only [Ki]; omega,by simp only [zfw]; exact h.next,by simp only [Ph]; exact h.next,b1,by simp only [b2]; omega,?_,fun i hi _=>?_,by simp only []; omega⟩
   ·simp only [Gj,h.cfg]; omega
   ·simp only [h.cfg]
    exact zrs _ _ _ (by omega)
  ·exact h.mono
 ·exact ⟨h.cfg,h.right,⟨hx.1,hx.2.1⟩,h.vals,by simp only []; omega,h.next,h.stake,h.bea,by simp only []; omega,h.llen,h.lead,h.miss⟩
theorem do_ok (h:LOK c n l) (hn:n≤100) {o:OpT} (ho:OpOK o):LOK c (n+1) (doS l o).1:=by
 unfold doS;split
 ·split
  ·exact Sm h hn (zwv h hn ho _)
  ·split
   ·exact Sm h hn (wd_ok h _ _ ho.amount)
   ·split
    ·exact Sm h hn (sl_ok h _ _ ho.amount)
    ·split
     ·split
      ·exact zgj h (zft h.bea _ ho.who ho.hash) Ni
      ·exact h.mono
     ·split
      ·split
       ·have:=zfr h.bea (phS l.1 l.2.1) o.2.1 ho.hash
        exact zgj h ⟨this.1,by omega⟩ Nh
       ·exact h.mono
      ·split
       ·exact adv_ok h hn
       ·exact h.mono
 ·exact h.mono
end
end Go.PG
namespace Go.PG
theorem zwi {l:List Int} {o:Nat} {d:List Int} (h:o+d.length≤l.length):lay l o d=l.take o++d++l.drop (o+d.length):=by
 simp [lay]
def repS (j n:Nat):List Int:=List.replicate j (-1)++List.replicate (n - j) 0
theorem zrw {j n:Nat} (h:j≤n):(repS j n).length=n:=by simp [repS]; omega
theorem Uq {j n i:Nat} (h:i≤j):(repS j n).take i=List.replicate i (-1):=by
 unfold repS;rw [List.take_append_of_le_length (by simpa using h),List.take_replicate,Nat.min_eq_left h]
theorem zgx {j n d:Nat} (h:j+d≤n):(repS j n).take j++List.replicate d (-1)++(repS j n).drop (j+d)=repS (j+d) n:=by
 rw [Uq (Nat.le_refl j)];unfold repS;rw [List.drop_append,List.drop_eq_nil_of_le (by simp),List.nil_append,List.length_replicate,List.drop_replicate,List.replicate_append_replicate,show n - j - (j+d - j)=n - (j+d) by omega]
theorem zxh (R:Type) {n:Nat} (hn:n≤1024) (k0:List Int→Option R):∀(m j:Nat),1≤j→j≤n→n - j<m→zaa m R (j:Int) (repS j n) k0=k0 (List.replicate n (-1))
 | 0,j,_,_,h=>by omega
 | m+1,j,h0,h1,h2=>by
  simp only [zaa,p27_8];have hl:=zrw h1
  by_cases hj:j<n
  ·have hd:min j (n - j)≤n - j:=Nat.min_le_right _ _
   have hd1:1≤min j (n - j):=by omega
   have ih:=zxh R hn k0 m (j+min j (n - j)) (by omega) (by omega) (by omega);have c1:decide ((j:Int)<((repS j n).length:Int))=true:=by rw [hl]; exact C8 hj
   have c2:decide ((0:Int)≤(j:Int)∧(j:Int)≤((repS j n).length:Int)∧((repS j n).length:Int)≤((repS j n).length:Int)∧((repS j n).length:Int)≤((repS j n).length:Int))=true:=by rw [hl]; simp; omega
   have c3:decide ((0:Int)≤0∧(0:Int)≤(j:Int)∧(j:Int)≤(j:Int)∧(j:Int)≤((repS j n).length:Int))=true:=by rw [hl]; simp; omega
   simp only [c1,c2,c3];have t1:List.take (Int.toNat ((j:Int) - 0)) (List.drop 0 (repS j n))=List.replicate j (-1):=by
    rw [Int.sub_zero,Int.toNat_natCast,List.drop_zero,Uq (Nat.le_refl j)]
   have t2:Int.toNat (((repS j n).length:Int) - (j:Int))=n - j:=by rw [hl]; omega
   rw [t1,t2,List.take_replicate,List.length_replicate];have t3:lay (repS j n) (Int.toNat (j:Int)) (List.replicate (min (n - j) j) (-1))=repS (j+min j (n - j)) n:=by
    rw [Int.toNat_natCast,zwi (by rw [List.length_replicate,hl]; omega),List.length_replicate,Nat.min_comm (n - j) j,zgx (by omega)]
   rw [t3,show IntKind.i64.wrap ((j:Int)+((min j (n - j):Nat):Int))=((j+min j (n - j):Nat):Int) by rw [wrap_i64 (by omega) (by omega)]; omega];exact ih
  ·have:j=n:=by omega
   subst this;have c1:decide ((j:Int)<((repS j j).length:Int))=false:=by rw [hl]; simp
   simp only [c1];unfold repS;rw [Nat.sub_self,List.replicate_zero,List.append_nil]
theorem F27_eq (R:Type) {n:Int} (h0:1≤n) (hn:n≤1024) (k:List Int→Option R):F27 R [-1] n k=k (List.replicate n.toNat (-1)):=by
 obtain ⟨j,rfl⟩:∃j:Nat,n=j:=⟨n.toNat,by omega⟩
 simp only [F27,p27,F49,p49];have e1:decide ((j:Int)<0)=false:=by simp
 have w1:IntKind.u64.wrap ((([-1]:List Int).length:Nat):Int)=1:=by decide
 have w2:IntKind.u64.wrap (j:Int)=(j:Int):=Ae (by omega) (by omega);simp only [e1,w1,w2];rw [zxz R (a:=1) (b:=(j:Int)) (by unfold U64; omega) (by unfold U64; omega)];rw [Int.one_mul,w2,show (j:Int)/18446744073709551616=0 by omega,wrap_i64 (n:=(j:Int)) (by omega) (by omega)];have e2:decide ((0:Int)>0)=false:=rfl;have e3:decide ((j:Int)>9223372036854775807)=false:=by simp; omega
 have e4:decide ((0:Int)≤(j:Int)∧(j:Int)≤(j:Int)∧(j:Int)≤17592186044416)=true:=by simp; omega
 simp only [e2,e3,e4,Int.toNat_natCast,List.length_replicate];have t1:lay (List.replicate j (0:Int)) 0 (List.take j [-1])=repS 1 j:=by
  rw [List.take_of_length_le (by simp; omega),zwi (by simp; omega)];simp [repS,List.replicate_succ']
 have t2:((min ([-1]:List Int).length j:Nat):Int)=((1:Nat):Int):=by
  rw [show min ([-1]:List Int).length j=1 by simp; omega]
 rw [t1,t2];exact zxh R (by omega) (fun x=>k x) FUEL 1 (by omega) (by omega) (by rw [Ak]; omega)
abbrev zLed:Led:=(((0:Int),(0:Int),(0:Int),(0:Int),(0:Int),()),(0:Int),([]:List Va),((0:Int),(List.replicate 32 (0:Int)),(List.replicate 32 (0:Int)),([]:List Cm),()),([]:List Int),([]:List Int),())
def newS (c:Cfg) (a:List Int):Led:=(c,(0:Int),[],((0:Int),a,(List.replicate 32 (0:Int)),[],()),List.replicate c.1.toNat (-1),[],())
theorem F9_eq (R:Type) (c:Cfg) (a:List Int) (k:Led→Int→Option R):F9 R c a k=if cfgS c=true then k (newS c a) 0 else k zLed 1:=by
 simp only [F9,p9,zx3,F26,p26];cases hc:cfgS c with
 | false=>rfl
 | true=>
  have hr:=Cj hc;simp only [Bool.not_true,if_true];rw [F27_eq R hr.1 hr.2.1];rfl
def zfq (a:List Int):Cfg:=(1+a.getD 0 0 % 6,a.getD 1 0 % (1+a.getD 0 0 % 6+1),a.getD 2 0 % (1+a.getD 0 0 % 6 - a.getD 1 0 % (1+a.getD 0 0 % 6+1)+1),1+a.getD 3 0 % 64,1+a.getD 4 0 % 6,())
theorem conf_ok {x y z u v:Int} (h1:1≤x∧x≤6) (h2:0≤y∧y≤x) (h3:0≤z∧z≤x - y) (h4:1≤u∧u≤64) (h5:1≤v∧v≤6):cfgS (x,y,z,u,v,())=true:=by
 unfold cfgS;simp only [decide_eq_true_eq];omega
theorem zdu (a:List Int):cfgS (zfq a)=true∧(zfq a).1≤6∧(zfq a).2.2.2.2.1≤6:=by
 unfold zfq;generalize a.getD 0 0=a0;generalize a.getD 1 0=a1;generalize a.getD 2 0=a2;generalize a.getD 3 0=a3;generalize a.getD 4 0=a4;have h0:0≤a0 % 6∧a0 % 6<6:=by omega
 generalize a0 % 6=x at h0;have m1:=Int.emod_nonneg a1 (show (1+x+1)≠0 by omega);have m2:=Int.emod_lt_of_pos a1 (show 0<(1+x+1) by omega);generalize a1 % (1+x+1)=y at m1 m2;have m3:=Int.emod_nonneg a2 (show (1+x - y+1)≠0 by omega);have m4:=Int.emod_lt_of_pos a2 (show 0<(1+x - y+1) by omega);generalize a2 % (1+x - y+1)=z at m3 m4;have h3:0≤a3 % 64∧a3 % 64<64:=by omega
 generalize a3 % 64=u at h3;have h4:0≤a4 % 6∧a4 % 6<6:=by omega
 generalize a4 % 6=v at h4;exact ⟨conf_ok (by omega) (by omega) (by omega) (by omega) (by omega),(show 1+x≤6 by omega),(show 1+v≤6 by omega)⟩
theorem w64 {x:Int} (h0:0≤x) (h1:x≤100000):IntKind.i64.wrap x=x:=wrap_i64 (by omega) (by omega)
theorem F12_eq (R:Type) {a:List Int} (h:AllU8 a) (k:Cfg→Option R):F12 R a k=k (zfq a):=by
 have u:∀i,0≤a.getD i 0∧a.getD i 0<256:=fun i=>Ar (p:=U8) h (by unfold U8; omega) i
 have u0:=u 0; have u1:=u 1; have u2:=u 2; have u3:=u 3; have u4:=u 4;unfold F12 p12;dsimp only;unfold zfq;generalize a.getD 0 0=a0 at u0;generalize a.getD 1 0=a1 at u1;generalize a.getD 2 0=a2 at u2;generalize a.getD 3 0=a3 at u3;generalize a.getD 4 0=a4 at u4;rw [Int.tmod_eq_emod_of_nonneg u0.1,Int.tmod_eq_emod_of_nonneg u3.1,Int.tmod_eq_emod_of_nonneg u4.1];have h0:0≤a0 % 6∧a0 % 6<6:=by omega
 generalize a0 % 6=x at h0;have h3:0≤a3 % 64∧a3 % 64<64:=by omega
 generalize a3 % 64=v at h3;have h4:0≤a4 % 6∧a4 % 6<6:=by omega
 generalize a4 % 6=w at h4;rw [w64 (x:=x) (by omega) (by omega),w64 (x:=1+x) (by omega) (by omega),w64 (x:=v) (by omega) (by omega),w64 (x:=1+v) (by omega) (by omega),w64 (x:=w) (by omega) (by omega),w64 (x:=1+w) (by omega) (by omega),w64 (x:=a1) (by omega) (by omega),w64 (x:=1+x+1) (by omega) (by omega)];have z1:(!(1+x+1==0))=true:=by rw [B1 (by omega)]; rfl
 simp only [z1];have m0:Int.tmod a1 (1+x+1)=a1 % (1+x+1):=Int.tmod_eq_emod_of_nonneg u1.1;have m1:=Int.emod_nonneg a1 (show (1+x+1)≠0 by omega);have m2:=Int.emod_lt_of_pos a1 (show 0<(1+x+1) by omega);rw [m0];generalize a1 % (1+x+1)=y at m1 m2;rw [w64 (x:=a2) (by omega) (by omega),w64 (x:=1+x - y) (by omega) (by omega),w64 (x:=1+x - y+1) (by omega) (by omega)];have z2:(!(1+x - y+1==0))=true:=by rw [B1 (by omega)]; rfl
 simp only [z2];have m3:Int.tmod a2 (1+x - y+1)=a2 % (1+x - y+1):=Int.tmod_eq_emod_of_nonneg u2.1;rw [m3]
theorem zwf {c:Cfg} (hc:cfgS c=true) {a:List Int} (ha:H32 a):LOK c 0 (newS c a):=by
 have hr:=Cj hc;refine ⟨rfl,hc,⟨by simp [newS],by simp only [newS]; omega⟩,fun v hv=>(by cases hv),by simp [newS],by simp [newS,A1,totS,sumS],by simp [newS,Al,totS,sumS],⟨by simp [newS],ha,A5,nilOK⟩,by simp [newS],by simp [newS]; omega,fun i _ hp=>?_,by simp [newS]⟩;exact absurd rfl hp
end Go.PG
namespace Go.PG
structure LW (l:Led):Prop where
 vals:VsOK l.2.2.1
 vlen:l.2.2.1.length≤1000
 bea:Ge l.2.2.2.1
 blen:l.2.2.2.1.2.2.2.1.length≤1000
 llen:l.2.2.2.2.1.length≤2000
 mlen:l.2.2.2.2.2.1.length≤2000
theorem LOK.lw {c:Cfg} {n:Nat} {l:Led} (h:LOK c n l) (hn:n≤100):LW l:=by
 have h1:=h.vlen; have h2:=h.blen; have h3:=h.llen; have h4:=Cj h.right; have h5:=h.miss;exact ⟨h.vals,by omega,h.bea,by omega,by omega,by omega⟩
theorem zzy:LW zLed:=⟨fun v hv=>(by cases hv),by simp,T0,by simp,by simp,by simp⟩
def zgr (a b:Led):Bool:=Kd.eqv Kq21 a.1 b.1&&((a.2.1==b.2.1)&&(decide (a.2.2.1=b.2.2.1)&&(zfk a.2.2.2.1 b.2.2.2.1&&(decide (a.2.2.2.2.1=b.2.2.2.2.1)&&decide (a.2.2.2.2.2.1=b.2.2.2.2.2.1)))))
theorem eqv_cfg (c:Cfg):Kd.eqv Kq21 c c=true:=by
 show ((c.1==c.1)&&((c.2.1==c.2.1)&&((c.2.2.1==c.2.2.1)&&((c.2.2.2.1==c.2.2.2.1)&&((c.2.2.2.2.1==c.2.2.2.2.1)&&true)))))=true;simp
theorem zet (l:Led):zgr l l=true:=by
 unfold zgr;rw [eqv_cfg,zfj];simp
theorem zxg (R:Type) {a b:List Int} (hl:a.length=b.length) (hn:a.length≤2000) (k0:Bool→Option R) (k1:Option R):∀(m i:Nat),i≤a.length→a.length - i<m→
  Z9 m R a b (a.length:Int) (i:Int) k0 k1=if a.drop i=b.drop i then k1 else k0 false
 | 0,i,_,h=>by omega
 | m+1,i,h1,h2=>by
  simp only [Z9,p41_4]
  by_cases hi:i<a.length
  ·have hib:i<b.length:=by omega
   have ih:=zxg R hl hn k0 k1 m (i+1) (by omega) (by omega);have w:IntKind.i64.wrap ((i:Int)+1)=((i+1:Nat):Int):=by rw [wrap_i64 (by omega) (by omega)]; omega
   simp only [C8 hi,A0 hi,A0 hib,Int.toNat_natCast,w];rw [ih,List.drop_eq_getElem_cons hi,List.drop_eq_getElem_cons hib];have g1:a.getD i 0=a[i]:=by simp [hi]
   have g2:b.getD i 0=b[i]:=by simp [hib]
   rw [g1,g2]
   by_cases e:a[i]=b[i]
   ·have:(a[i] !=b[i])=false:=by simp [e]
    simp only [this];simp only [e,List.cons.injEq,true_and]
   ·have:(a[i] !=b[i])=true:=by simpa using e
    simp only [this];simp only [List.cons.injEq,e,false_and,if_false]
  ·have:i=a.length:=by omega
   subst this;simp only [Cp];rw [List.drop_length,hl,List.drop_length,if_pos rfl]
theorem zx2 (R:Type) {a b:List Int} (hn:a.length≤2000) (k:Bool→Option R):F41 R a b k=k (decide (a=b)):=by
 simp only [F41,p41]
 by_cases hl:a.length=b.length
 ·have e:((a.length:Int) !=(b.length:Int))=false:=by simp [hl]
  simp only [e];refine (zxg R hl hn (fun x4=>k x4) (k true) FUEL 0 (by omega) (by rw [Ak]; omega)).trans ?_;rw [List.drop_zero,List.drop_zero]
  by_cases h:a=b
  ·rw [if_pos h,decide_eq_true h]
  ·rw [if_neg h,decide_eq_false h]
 ·have e:((a.length:Int) !=(b.length:Int))=true:=by simp; omega
  have h:a≠b:=fun h=>hl (by rw [h])
  simp only [e,decide_eq_false h]
theorem zx4 (R:Type) {a b:Led} (ha:LW a) (hb:LW b) (k:Bool→Option R):F16 R a b k=k (zgr a b):=by
 simp only [F16,p16,F39_eq R ha.vals hb.vals ha.vlen,F40_eq R ha.bea hb.bea ha.blen,zx2 R ha.llen,zx2 R ha.mlen];unfold zgr;cases Kd.eqv Kq21 a.1 b.1<;>cases (a.2.1==b.2.1)<;>cases decide (a.2.2.1=b.2.2.1)<;>cases zfk a.2.2.2.1 b.2.2.2.1<;>cases decide (a.2.2.2.2.1=b.2.2.2.2.1)<;>rfl
section
variable {c:Cfg} {n:Nat} {l:Led}
def K6:Led→List OpT→Led×List An
 | l,[]=>(l,[])
 | l,o::r=>((K6 (doS l o).1 r).1,(doS l o).2::(K6 (doS l o).1 r).2)
theorem zg9:∀(r:List OpT) {l:Led} {n:Nat},LOK c n l→n+r.length≤100→(∀o∈r,OpOK o)→LOK c (n+r.length) (K6 l r).1
 | [],l,n,h,_,_=>h
 | o::r,l,n,h,hn,ho=>by
  have:=zg9 r (do_ok h (by simp at hn; omega) (ho o (by simp))) (by simp at hn; omega) (fun x hx=>ho x (by simp [hx]));simp only [K6,List.length_cons]
  rwa [show n+(r.length+1)=n+1+r.length by omega]
theorem zj2 {ops:List OpT} {i:Nat} (hi:i<ops.length):ops.getD i zO=ops[i]:=by simp [hi]
theorem zxl (R:Type) {ops:List OpT} (ho:∀o∈ops,OpOK o) (x5:Led) (k0:Led→Led→List An→Option R):∀(m i:Nat) {n:Nat} (l:Led) (acc:List An),LOK c n l→n+(ops.length - i)≤100→acc.length+(ops.length - i)≤1000→i≤ops.length→ops.length≤1000→ops.length - i<m→
  zai m R ops (ops.length:Int) (i:Int) l x5 acc k0=k0 (K6 l (ops.drop i)).1 x5 (acc++(K6 l (ops.drop i)).2)
 | 0,i,n,l,acc,_,_,_,_,_,h=>by omega
 | m+1,i,n,l,acc,h,hn,ha,h1,hL,h2=>by
  simp only [zai,p17_3]
  by_cases hi:i<ops.length
  ·have hoi:=ho _ (List.getElem_mem hi)
   have ih:=zxl R ho x5 k0 m (i+1) (n:=n+1) (doS l ops[i]).1 (acc++[(doS l ops[i]).2]) (do_ok h (by omega) hoi) (by omega) (by simp; omega) (by omega) hL (by omega);have c1:decide (acc.length+[(doS l ops[i]).2].length≤1954687338268)=true:=by simp; omega
   rw [List.drop_eq_getElem_cons hi];simp only [C8 hi,A0 hi,Int.toNat_natCast,Bg hi hL,zj2 hi,zx5 R h (show n≤100 by omega) hoi,c1];rw [ih];simp only [K6,List.append_assoc,List.cons_append,List.nil_append]
  ·have:i=ops.length:=by omega
   subst this;simp only [Cp,List.drop_length,K6,List.append_nil]
theorem F17_eq (R:Type) (h:LOK c n l) {ops:List OpT} (ho:∀o∈ops,OpOK o) (hn:n+ops.length≤100) (k:Led→List An→Option R):F17 R l ops k=k (K6 l ops).1 (K6 l ops).2:=by
 simp only [F17,p17];have:=zxl R ho zLed (fun x2 x3 x4=>k x2 x4) FUEL 0 l [] h (by omega) (by simp; omega) (by omega) (by omega) (by rw [Ak]; omega);rw [List.drop_zero,List.nil_append] at this;exact this
end
end Go.PG
set_option maxRecDepth 100000
namespace Go.PG
abbrev lvC:Cfg:=((2:Int),(1:Int),(1:Int),(64:Int),(1:Int),())
abbrev lvZ:List Int:=List.replicate 32 (0:Int)
abbrev lvD:List Int:=Xd lvZ 0 bV
abbrev lo1:OpT:=((1:Int),(0:Int),(5:Int),bV,(0:Int),())
abbrev lo2:OpT:=((4:Int),(0:Int),(0:Int),SHA bV,(0:Int),())
abbrev lo3:OpT:=((5:Int),(0:Int),(0:Int),bV,(0:Int),())
abbrev lo4:OpT:=((7:Int),(0:Int),(0:Int),lvZ,(0:Int),())
abbrev lo5:OpT:=((6:Int),(0:Int),(0:Int),lvZ,(0:Int),())
abbrev lo8:OpT:=((7:Int),(0:Int),(0:Int),lvZ,(1:Int),())
abbrev lo9:OpT:=((10:Int),(0:Int),(0:Int),lvZ,(0:Int),())
abbrev loA:OpT:=((0:Int),(0:Int),(0:Int),lvZ,(99:Int),())
abbrev loB:OpT:=((7:Int),(0:Int),(0:Int),lvZ,(2:Int),())
abbrev lvO:List OpT:=[lo1,lo2,lo3,lo4,lo5,lo3,lo5,lo8,lo9,loA,loB]
abbrev lv0:Led:=newS lvC lvZ
abbrev lv1:Led:=(lvC,(0:Int),[(bV,(0:Int),(5:Int),())],((0:Int),lvZ,lvZ,[],()),[(-1:Int),(-1:Int)],[],())
abbrev lv2:Led:=(lvC,(0:Int),[(bV,(0:Int),(5:Int),())],((0:Int),lvZ,lvZ,[((0:Int),SHA bV,false,lvZ,())],()),[(-1:Int),(-1:Int)],[],())
abbrev lv3:Led:=(lvC,(1:Int),[(bV,(0:Int),(5:Int),())],((0:Int),lvZ,lvZ,[((0:Int),SHA bV,false,lvZ,())],()),[(-1:Int),(-1:Int)],[],())
abbrev lv4:Led:=(lvC,(1:Int),[(bV,(0:Int),(5:Int),())],((0:Int),lvZ,bV,[((0:Int),SHA bV,true,bV,())],()),[(-1:Int),(-1:Int)],[],())
abbrev lv5:Led:=(lvC,(0:Int),[(bV,(5:Int),(5:Int),())],((1:Int),lvD,lvZ,[],()),[(0:Int),(0:Int)],[],())
theorem lvs0:doS lv0 lo1=(lv1,okS 0):=by kernel_rfl
theorem lvs1:doS lv1 lo2=(lv2,okS 0):=by kernel_rfl
theorem lvs2:doS lv2 lo3=(lv2,badS 7):=by kernel_rfl
theorem lvs3:doS lv2 lo4=(lv2,badS 10):=by kernel_rfl
theorem lvs4:doS lv2 lo5=(lv3,okS 1):=by kernel_rfl
theorem lvs5:doS lv3 lo3=(lv4,okS 0):=by kernel_rfl
theorem lvs6:doS lv4 lo5=(lv5,((0:Int),(0:Int),[],lvD,())):=by kernel_rfl
theorem lvs7:doS lv5 lo8=(lv5,((0:Int),(0:Int),[(0:Int)],lvZ,())):=by kernel_rfl
theorem lvs8:doS lv5 lo9=(lv5,okS 5):=by kernel_rfl
theorem lvs9:doS lv5 loA=(lv5,badS 2):=by kernel_rfl
theorem lvs10:doS lv5 loB=(lv5,badS 3):=by kernel_rfl
abbrev lvA:List An:=[okS 0,okS 0,badS 7,badS 10,okS 1,okS 0,((0:Int),(0:Int),[],lvD,()),((0:Int),(0:Int),[(0:Int)],lvZ,()),okS 5,badS 2,badS 3]
theorem lvP:K6 lv0 lvO=(lv5,lvA):=by
 simp only [K6,lvs0,lvs1,lvs2,lvs3,lvs4,lvs5,lvs6,lvs7,lvs8,lvs9,lvs10]
theorem lvW:zgr lv5 zLed=false:=by kernel_rfl
theorem zwh:H32 lvD:=Vz _
theorem zwg:∀o∈lvO,OpOK o:=by
 have a:∀{k n x:Int} {h:List Int},0≤k∧k≤100→0≤n∧n≤100→0≤x∧x≤100→H32 h→OpOK (k,(0:Int),x,h,n,()):=fun h1 h2 h3 h4=>⟨by unfold I64; simp only; omega,by unfold I64; simp only; omega,by unfold U64; simp only; omega,h4,by unfold I64; simp only; omega⟩
 intro o ho;have z:=A5;simp only [lvO,List.mem_cons,List.not_mem_nil,or_false] at ho;rcases ho with h | h | h | h | h | h | h | h | h | h | h<;>rw [h]
 ·exact a (by omega) (by omega) (by omega) zk8
 ·exact a (by omega) (by omega) (by omega) (Vz _)
 ·exact a (by omega) (by omega) (by omega) zk8
 ·exact a (by omega) (by omega) (by omega) z
 ·exact a (by omega) (by omega) (by omega) z
 ·exact a (by omega) (by omega) (by omega) zk8
 ·exact a (by omega) (by omega) (by omega) z
 ·exact a (by omega) (by omega) (by omega) z
 ·exact a (by omega) (by omega) (by omega) z
 ·exact a (by omega) (by omega) (by omega) z
 ·exact a (by omega) (by omega) (by omega) z
end Go.PG
namespace Go.PG
section
variable {c:Cfg} {n:Nat} {l:Led}
structure Stays (l m:Led):Prop where
 seed:m.2.2.2.1.2.1=l.2.2.2.1.2.1
 ep:m.2.2.2.1.1=l.2.2.2.1.1
 lead:m.2.2.2.2.1=l.2.2.2.2.1
 stake:Al m.2.2.1=Al l.2.2.1∨Al m.2.2.1=Al l.2.2.1++[0]
theorem D4 (l:Led):Stays l l:=⟨rfl,rfl,rfl,.inl rfl⟩
structure Ends (l m:Led):Prop where
 slot:m.2.1=0
 lead:schL m.2.2.2.1.2.1 l.1.1 l.1.2.2.2.1 (Al m.2.2.1)=(m.2.2.2.2.1,0)
 ep:m.2.2.2.1.1=l.2.2.2.1.1+1∧l.2.2.2.1.1<18446744073709551615
theorem I7 (h:LOK c n l) {r:List Va×Int×Int} (hr:r.2.2=0→MOK l n r.1):Stays l (C7 l r).1:=by
 unfold C7;split
 ·rename_i h0; exact ⟨rfl,rfl,rfl,(hr h0).stake⟩
 ·exact D4 l
theorem Qz {r:Bea×Int} (hs:r.2=0→r.1.1=l.2.2.2.1.1∧r.1.2.1=l.2.2.2.1.2.1):Stays l (I1 l r).1:=by
 unfold I1;split
 ·rename_i h0; exact ⟨(hs h0).2,(hs h0).1,rfl,.inl rfl⟩
 ·exact D4 l
theorem zsg (h:LOK c n l) (he:¬zkb l.1 l.2.1=true):J8 l.1 l.2.1≠0:=by
 have hs:=h.slot;have hp:phS l.1 l.2.1≠0:=fun e=>Si.1 e ⟨by rw [h.cfg]; exact h.right,by rw [h.cfg]; exact hs⟩
 have hn:¬l.2.1=l.1.1 - 1:=fun e=>he (decide_eq_true ⟨hp,e⟩)
 unfold J8;rw [if_neg (fun hh=>hh.elim hp hn)];omega
theorem zvm (h:LOK c n l):(((advS l).2.1=0∧(advS l).1.2.1=0)∧Ends l (advS l).1)∨(¬((advS l).2.1=0∧(advS l).1.2.1=0)∧Stays l (advS l).1):=by
 unfold advS;split
 ·rename_i h1
  split
  ·rename_i h2
   have hn:J8 l.1 l.2.1=0:=by
    have:=of_decide_eq_true h1;unfold J8;rw [if_pos (.inr this.2)]
   refine .inl ⟨⟨rfl,hn⟩,hn,?_,?_⟩
   ·exact Prod.ext rfl (zgp h (bEnd l.2.2.2.1).1.2.1).1
   ·unfold bEnd at h2 ⊢
    have he:=h.bea.ep
    by_cases hb:Hv l.2.2.2.1=false
    ·rw [if_pos hb] at h2; cases h2
    ·rw [if_neg hb] at h2 ⊢
     by_cases hx:l.2.2.2.1.1=18446744073709551615
     ·rw [if_pos hx] at h2; cases h2
     ·rw [if_neg hx]
      exact ⟨rfl,by omega⟩
  ·rename_i h2
   exact .inr ⟨fun hh=>h2 hh.1,D4 l⟩
 ·rename_i h1
  exact .inr ⟨fun hh=>zsg h h1 hh.2,⟨rfl,rfl,rfl,.inl rfl⟩⟩
theorem do_ends (h:LOK c n l) (hn:n≤100) {o:OpT} (ho:OpOK o):((o.1=6∧(doS l o).2.1=0∧(doS l o).1.2.1=0)∧Ends l (doS l o).1)∨(¬(o.1=6∧(doS l o).2.1=0∧(doS l o).1.2.1=0)∧Stays l (doS l o).1):=by
 by_cases h6:o.1=6
 ·by_cases hr:D5 o=true∧o.1≠0
  ·have e:doS l o=advS l:=by
    unfold doS;rw [if_pos hr,if_neg (by omega),if_neg (by omega),if_neg (by omega),if_neg (by omega),if_neg (by omega),if_pos h6]
   rw [e];rcases zvm h with a | a
   ·exact .inl ⟨⟨h6,a.1⟩,a.2⟩
   ·exact .inr ⟨fun hh=>a.1 hh.2,a.2⟩
  ·have e:doS l o=(l,badS 2):=by unfold doS; rw [if_neg hr]
   rw [e];exact .inr ⟨fun hh=>absurd hh.2.1 (by show ¬(2:Int)=0; omega),D4 l⟩
 ·refine .inr ⟨fun hh=>h6 hh.1,?_⟩
  unfold doS;split
  ·split
   ·exact I7 h (zwv h hn ho _)
   ·split
    ·exact I7 h (wd_ok h _ _ ho.amount)
    ·split
     ·exact I7 h (sl_ok h _ _ ho.amount)
     ·split
      ·split
       ·exact Qz Ni
       ·exact D4 l
      ·split
       ·split
        ·exact Qz Nh
        ·exact D4 l
       ·skip
        exact D4 l
  ·exact D4 l
end
end Go.PG
set_option maxRecDepth 100000
namespace Go.PG
theorem G8_ok (R:Type) (l:Led) (v:List Int) (k0:Bool→Option R) (k1:List An→Led→List Int→Option R):
  Z4 FUEL R lvA [(0:Int),(0:Int),(7:Int),(10:Int),(0:Int),(0:Int),(0:Int),(0:Int),(0:Int),(2:Int),(3:Int)] 0 l v k0 k1=k1 lvA l v:=by
 obtain ⟨m,hm⟩:=Ga 12 (by omega);rw [hm]
 kernel_rfl
theorem F8_eq (R:Type) (k:Bool→Option R):F8 R k=k true:=by
 have hz:cfgS lvC=true:=by decide
 have hw:cfgS ((0:Int),(0:Int),(0:Int),(0:Int),(0:Int),())=false:=by decide
 have h0:LOK lvC 0 lv0:=zwf hz A5;have h5:LOK lvC 11 (K6 lv0 lvO).1:=zg9 lvO h0 (by decide) zwg;rw [lvP] at h5;have hl:LW lv5:=h5.lw (by omega);have e1:F17 R lv0 lvO=fun k=>k lv5 lvA:=funext fun k=>by rw [F17_eq R h0 zwg (by decide),lvP]
 have e2:F24 R lvZ 0 bV=fun k=>k lvD:=funext fun k=>F24_eq R A5 zk8 (by omega) k
 have e3:F16 R lv5 lv5=fun k=>k true:=funext fun k=>by rw [zx4 R hl hl,zet]
 have e4:F16 R lv5 zLed=fun k=>k false:=funext fun k=>by rw [zx4 R hl zzy,lvW]
 have e5:F23 R bV=fun k=>k (SHA bV):=funext fun k=>F23_eq R zk8 k
 have e6:F9 R lvC lvZ=fun k=>k lv0 0:=funext fun k=>by rw [F9_eq,if_pos hz]
 have e7:F9 R ((0:Int),(0:Int),(0:Int),(0:Int),(0:Int),()) lvZ=fun k=>k zLed 1:=funext fun k=>by rw [F9_eq,if_neg (by rw [hw]; decide)]
 have e8:F20 R [(0:Int)] [(0:Int)]=fun k=>k true:=funext fun k=>by rw [zow R _ _ (by decide)]; rfl
 have e9:Kd.eqv (.arr 32 (.int .u8)) lvD lvD=true:=(B7 zwh.1 zwh.1).trans (decide_eq_true rfl);unfold F8 p8;dsimp only;rw [e6,e7,e5];dsimp only;rw [e1];dsimp only;have:∀(k0:Bool→Option R) (k1:List An→Led→List Int→Option R),Z4 FUEL R lvA [(0:Int),(0:Int),(7:Int),(10:Int),(0:Int),(0:Int),(0:Int),(0:Int),(0:Int),(2:Int),(3:Int)] 0 lv5 bV k0 k1=k1 lvA lv5 bV:=G8_ok R lv5 bV;rw [show ((0:Int) !=0)=false from rfl,show ((1:Int) !=1)=false from rfl,show ((lvA.length:Int) !=(lvO.length:Int))=false from rfl];dsimp only;rw [this];dsimp only;rw [show bnd (4:Int) (lvA.length:Int)=true from rfl];dsimp only
 rw [show ((List.getD lvA 4 ((0:Int),(0:Int),([]:(List Int)),(List.replicate 32 (0:Int)),())).2.1==(1:Int))=true from rfl];dsimp only;rw [show bnd (6:Int) (lvA.length:Int)=true from rfl];dsimp only;rw [show (List.getD lvA 6 ((0:Int),(0:Int),([]:(List Int)),(List.replicate 32 (0:Int)),()))=((0:Int),(0:Int),[],lvD,()) from rfl];dsimp only;rw [show ((0:Int)==0)=true from rfl];dsimp only;rw [e2];dsimp only;rw [e9];dsimp only;rw [show bnd (7:Int) (lvA.length:Int)=true from rfl];dsimp only
 rw [show (List.getD lvA 7 ((0:Int),(0:Int),([]:(List Int)),(List.replicate 32 (0:Int)),())).2.2.1=[(0:Int)] from rfl,e8];dsimp only;rw [show bnd (8:Int) (lvA.length:Int)=true from rfl];dsimp only;rw [show ((List.getD lvA 8 ((0:Int),(0:Int),([]:(List Int)),(List.replicate 32 (0:Int)),())).2.1==(5:Int))=true from rfl];dsimp only;rw [show ((1:Int)==1)=true from rfl,show ((([]:List Int).length:Int)==0)=true from rfl];dsimp only;rw [e3];dsimp only;rw [e4];rfl
end Go.PG
namespace Go.PG
theorem fit_op {o:OpT} (h:Fit Kq13 o):OpOK o:=⟨fit_i h.1,fit_i h.2.1,(by have:=fit_u64 h.2.2.1; unfold U64; omega),fit_h32 h.2.2.2.1,fit_i h.2.2.2.2.1⟩
abbrev b1:List Int:=List.set (List.replicate 32 (0:Int)) 0 (1:Int)
end Go.PG
namespace Go.PG
theorem Ok (v:List Va) (j:Nat):(v.getD j zV).2.1=(Al v).getD j 0:=by
 unfold Al;rw [List.getD_eq_getElem?_getD,List.getD_eq_getElem?_getD,List.getElem?_map];cases v[j]?<;>rfl
theorem Stays.stakes {l m:Led} (h:Stays l m) {j:Nat} (hj:j<l.2.2.1.length):j<m.2.2.1.length∧(m.2.2.1.getD j zV).2.1=(l.2.2.1.getD j zV).2.1:=by
 rw [Ok,Ok];have h1:=Bu l.2.2.1;have h2:=Bu m.2.2.1;rcases h.stake with e | e
 ·rw [e] at h2 ⊢
  exact ⟨by omega,rfl⟩
 ·rw [e] at h2 ⊢
  rw [List.length_append] at h2;exact ⟨by omega,by rw [List.getD_eq_getElem?_getD,List.getElem?_append_left (by omega),List.getD_eq_getElem?_getD]⟩
theorem G15_end (R:Type) (ops:List OpT) (i:Int) (c:Cfg) (l m:Led) (k0:Bool→Option R) (k1:List OpT→Int→Bool→Cfg→Led→Led→Option R):Pq FUEL R ops i true (0:Int) c l m k0 k1=k1 ops i true c l m:=by
 obtain ⟨f,hf⟩:=Ga 1 (by omega);rw [hf];simp only [Pq,zr2,Bool.not_true];cases decide ((0:Int)<(l.2.2.1.length:Int))<;>rfl
theorem zxq (R:Type) (ops:List OpT) (i:Int) (c:Cfg) {l m:Led} (h:Stays l m) (hl:l.2.2.1.length≤1000) (k0:Bool→Option R) (k1:List OpT→Int→Bool→Cfg→Led→Led→Option R):∀(f j:Nat),j≤l.2.2.1.length→l.2.2.1.length - j<f→
  Pq f R ops i false (j:Int) c l m k0 k1=k1 ops i false c l m
 | 0,j,_,h=>by omega
 | f+1,j,h1,h2=>by
  simp only [Pq,zr2,Bool.not_false]
  by_cases hj:j<l.2.2.1.length
  ·have ih:=zxq R ops i c h hl k0 k1 f (j+1) (by omega) (by omega)
   obtain ⟨s1,s2⟩:=h.stakes hj;have e1:decide ((j:Int)≥(m.2.2.1.length:Int))=false:=decide_eq_false (by omega);simp only [C8 hj,A0 hj,A0 s1,e1,Int.toNat_natCast,Bg hj hl,s2,bne_self_eq_false];exact ih
  ·have:j=l.2.2.1.length:=by omega
   subst this;simp only [Cp]
theorem G7_eq (R:Type) {c:Cfg} {ops:List OpT} (ho:∀o∈ops,OpOK o) (hL:ops.length≤50) (k0:Bool→Option R) (k1:Option R):∀(f i:Nat) {n:Nat} (l:Led),LOK c n l→n+(ops.length - i)≤99→i≤ops.length→ops.length - i<f→
  G7_8 f R ops (i:Int) c l k0 k1=k1
 | 0,i,n,l,_,_,_,h=>by omega
 | f+1,i,n,l,h,hn,h1,h2=>by
  simp only [G7_8,p7_8]
  by_cases hi:i<ops.length
  ·have hoi:=ho _ (List.getElem_mem hi)
   have h':=do_ok h (by omega) hoi;have ih:=G7_eq R ho hL k0 k1 f (i+1) (n:=n+1) (doS l ops[i]).1 h' (by omega) (by omega) (by omega);have he:=do_ends h (by omega) hoi;simp only [C8 hi,A0 hi,Int.toNat_natCast,Bg hi (show ops.length≤1000 by omega),zj2 hi,zx5 R h (show n≤100 by omega) hoi];generalize doS l ops[i]=r at*;obtain ⟨m,a⟩:=r;dsimp only at*;have hv:=h.vlen;have hv':=h'.vlen;have hc:=Cj h.right;have hll':=h'.llen;have hll:=h.llen;have e0:((m.2.2.2.2.1.length:Int) !=c.1)=false:=by rw [bne_eq_false_iff_eq]; exact hll'
   rcases he with ⟨⟨x1,x2,x3⟩,he⟩ | ⟨hx,hs⟩
   ·have y1:(ops[i].1==(6:Int))=true:=by rw [x1]; rfl
    have y2:(a.1==(0:Int))=true:=by rw [x2]; rfl
    have y3:(m.2.1==(0:Int))=true:=by rw [x3]; rfl
    have hu:=h.bea.ep;have hz:=he.ep;have w:IntKind.u64.wrap (l.2.2.2.1.1+1)=m.2.2.2.1.1:=by rw [hz.1]; exact Ae (by omega) (by omega)
    have hlead:=he.lead;rw [h.cfg] at hlead;have hend:=G15_end R ops (i:Int) c l m;simp only [y1,y2,y3,Bool.not_true,hend,e0,F22_eq R (show m.2.2.1.length≤1000 by omega),F21_eq R h'.bea.seed (show c.1≤9223372036854775807 by omega) c.2.2.2.1 (Cy h'.vals) (show (Al m.2.2.1).length≤200 by rw [Bu]; omega),hlead,bne_self_eq_false,zow R m.2.2.2.2.1 m.2.2.2.2.1 (show m.2.2.2.2.1.length≤1000000 by omega),decide_true,w,Bg hi (show ops.length≤1000 by omega)];exact ih
   ·have z1:Kd.eqv (.arr 32 (.int .u8)) m.2.2.2.1.2.1 l.2.2.2.1.2.1=true:=by rw [hs.seed]; exact (B7 h.bea.seed.1 h.bea.seed.1).trans (decide_eq_true rfl)
    have z2:(m.2.2.2.1.1 !=l.2.2.2.1.1)=false:=by rw [hs.ep]; exact bne_self_eq_false _
    have z3:∀q,F20 R m.2.2.2.2.1 l.2.2.2.2.1 q=q true:=fun q=>by rw [hs.lead,zow R _ _ (by omega),decide_eq_true rfl]
    have z4:∀(k0:Bool→Option R) (k1:List OpT→Int→Bool→Cfg→Led→Led→Option R),Pq FUEL R ops (i:Int) false (0:Int) c l m k0 k1=k1 ops i false c l m:=fun k0 k1=>zxq R ops i c hs (by omega) k0 k1 FUEL 0 (by omega) (by rw [Ak]; omega)
    cases y1:(ops[i].1==(6:Int)) with
    | false=>
     simp only [z1,z2,z3,z4,Bool.not_true,e0,Bg hi (show ops.length≤1000 by omega)];exact ih
    | true=>
     cases y2:(a.1==(0:Int)) with
     | false=>
      simp only [z1,z2,z3,z4,Bool.not_true,e0,Bg hi (show ops.length≤1000 by omega)];exact ih
     | true=>
      have y3:(m.2.1==(0:Int))=false:=by
       have a1:=beq_iff_eq.1 y1;have a2:=beq_iff_eq.1 y2;exact B1 fun a3=>hx ⟨a1,a2,a3⟩
      simp only [y3,z1,z2,z3,z4,Bool.not_true,Bool.not_false,e0,Bg hi (show ops.length≤1000 by omega)];exact ih
  ·have:i=ops.length:=by omega
   subst this;simp only [Cp]
theorem F7_eq' (R:Type) {a:List Int} (ha:AllU8 a) {s:List Int} (hs:H32 s) {ops:List OpT} (ho:∀o∈ops,OpOK o) (k:Bool→Option R):F7 R a s ops k=k true:=by
 simp only [F7,p7,F8_eq,Bool.not_true]
 by_cases hL:(ops.length:Int)>50
 ·simp only [decide_eq_true hL]
 ·simp only [decide_eq_false hL,F12_eq R ha,F9_eq,(zdu a).1,if_true]
  exact G7_eq R ho (by omega) (fun x=>k x) (k true) FUEL 0 (n:=0) _ (zwf (zdu a).1 hs) (by omega) (by omega) (by rw [Ak]; omega)
end Go.PG
end
