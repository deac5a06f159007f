/- A part of the proof over this seat (own work; the framework that reads a Go function as a pure one, or a use of it). No condition of its own. -/
import Derived.Test.YtlbchnapmipbhaaGreatDoorXB7
import Derived.KernelRfl
set_option linter.unusedVariables false
set_option linter.unusedSimpArgs false
set_option linter.unusedSectionVars false
noncomputable section
namespace Go.PG
abbrev OpT:=Int×(Int×(Int×(List Int×(Int×Unit))))
abbrev zO:OpT:=((0:Int),(0:Int),(0:Int),(List.replicate 32 (0:Int)),(0:Int),())
structure OpOK (o:OpT):Prop where
 kind:I64 o.1
 who:I64 o.2.1
 amount:U64 o.2.2.1
 hash:H32 o.2.2.2.1
 n:I64 o.2.2.2.2.1
theorem zjo {x b:Int} (hx:0≤x∧x<72057594037927936) (hb:0≤b∧b<256):ior .u64 (ishl .u64 x 8) b=x*256+b:=by
 obtain ⟨n,rfl⟩:∃n:Nat,x=n:=⟨x.toNat,by omega⟩
 obtain ⟨c,rfl⟩:∃c:Nat,b=c:=⟨b.toNat,by omega⟩
 have e2:ishl .u64 (n:Int) 8=((n*256:Nat):Int):=by
  unfold ishl;rw [show (2:Int)^(min (8:Int).toNat IntKind.u64.bits)=256 by decide,Aj (by omega) (by omega)];simp
 rw [e2,Za,BitVec.ofInt_natCast,BitVec.ofInt_natCast,BitVec.toNat_or,BitVec.toNat_ofNat,BitVec.toNat_ofNat,Nat.mod_eq_of_lt (by omega),Nat.mod_eq_of_lt (by omega)];have h6:=Nat.shiftLeft_add_eq_or_of_lt (i:=8) (b:=c) (by omega) n;rw [Nat.shiftLeft_eq] at h6;rw [show n*256=n*2^8 by rfl,←h6];simp
theorem Eb {y z:Int} (hy:0≤y∧y<18446744073709551616) (hz:y/256=z):ior .u64 (ishl .u64 z 8) (y % 256)=y:=by
 rw [←hz,zjo (by omega) (by omega)]; omega
theorem zpi (R:Type) {a:Int} (ha:U64 a) (k:Int→Option R):F173 R (putS a) k=k a:=by
 unfold U64 at ha;have s1:ior .u64 (ishl .u64 0 8) (a/72057594037927936 % 256)=a/72057594037927936:=Eb (by omega) (by omega);have s2:ior .u64 (ishl .u64 (a/72057594037927936) 8) (a/281474976710656 % 256)=a/281474976710656:=Eb (by omega) (by omega);have s3:ior .u64 (ishl .u64 (a/281474976710656) 8) (a/1099511627776 % 256)=a/1099511627776:=Eb (by omega) (by omega);have s4:ior .u64 (ishl .u64 (a/1099511627776) 8) (a/4294967296 % 256)=a/4294967296:=Eb (by omega) (by omega);have s5:ior .u64 (ishl .u64 (a/4294967296) 8) (a/16777216 % 256)=a/16777216:=Eb (by omega) (by omega)
 have s6:ior .u64 (ishl .u64 (a/16777216) 8) (a/65536 % 256)=a/65536:=Eb (by omega) (by omega);have s7:ior .u64 (ishl .u64 (a/65536) 8) (a/256 % 256)=a/256:=Eb (by omega) (by omega);have s8:ior .u64 (ishl .u64 (a/256) 8) (a % 256)=a:=Eb (by omega) (by omega);have w:∀y:Int,IntKind.u64.wrap (y % 256)=y % 256:=fun y=>Aj (by omega) (by omega)
 obtain ⟨m,hm⟩:=Kc 9 (by omega);simp only [F173,p173,hm,Ra,zh2,putS];simp [bnd,Fg,w,s1,s2,s3,s4,s5,s6,s7,s8]
inductive Fd where | H | A | W | N
deriving DecidableEq
def enc:Fd→Tq7
 | .H=>((32:Int),(FnV.fn 168),(FnV.fn 170),())
 | .A=>((8:Int),(FnV.fn 171),(FnV.fn 172),())
 | .W=>((4:Int),(FnV.clo 217 (FnV.fn 175)),(FnV.clo 219 (FnV.fn 175)),())
 | .N=>((4:Int),(FnV.clo 217 (FnV.fn 176)),(FnV.clo 219 (FnV.fn 176)),())
def fsOf (k:Int):List Fd×Bool:=
 if k=1 then ([.H,.A],true) else if k=2 then ([.W,.A],true) else if k=3 then ([.W,.A],true) else if k=4 then ([.W,.H],true) else if k=5 then ([.W,.H],true) else
 if k=6 then ([],true) else if k=11 then ([],true) else if k=7 then ([.N],true) else if k=8 then ([.N],true) else if k=9 then ([.N,.W],true) else if k=10 then ([.W,.N],true) else ([],false)
theorem kinds (k:Int):k=1∨k=2∨k=3∨k=4∨k=5∨k=6∨k=7∨k=8∨k=9∨k=10∨k=11∨(k≠1∧k≠2∧k≠3∧k≠4∧k≠5∧k≠6∧k≠7∧k≠8∧k≠9∧k≠10∧k≠11):=by omega
theorem Ca {a b:Int} (h:a≠b):(a==b)=false:=by simpa using h
theorem Wy (R:Type) (x:Int) (k:List Tq7→Bool→Option R):F88 R x k=k ((fsOf x).1.map enc) (fsOf x).2:=by
 simp only [F88,p88,F121,p121,F122,p122,F123,p123,F124,p124,Dy,Xs,Dx,Xr];rcases kinds x with h | h | h | h | h | h | h | h | h | h | h | h
 ·subst h; rfl
 ·subst h; rfl
 ·subst h; rfl
 ·subst h; rfl
 ·subst h; rfl
 ·subst h; rfl
 ·subst h; rfl
 ·subst h; rfl
 ·subst h; rfl
 ·subst h; rfl
 ·subst h; rfl
 ·obtain ⟨h1,h2,h3,h4,h5,h6,h7,h8,h9,h10,h11⟩:=h
  simp only [Ca h1,Ca h2,Ca h3,Ca h4,Ca h5,Ca h6,Ca h7,Ca h8,Ca h9,Ca h10,Ca h11];simp [fsOf,h1,h2,h3,h4,h5,h6,h7,h8,h9,h10,h11]
def Fa (o:OpT):Fd→List Int
 | .H=>o.2.2.2.1
 | .A=>putS o.2.2.1
 | .W=>B3 o.2.1
 | .N=>B3 o.2.2.2.2.1
def Bg:Fd→Nat
 | .H=>32
 | .A=>8
 | .W=>4
 | .N=>4
def zsa (o c:OpT):Fd→OpT
 | .H=>(c.1,c.2.1,c.2.2.1,o.2.2.2.1,c.2.2.2.2)
 | .A=>(c.1,c.2.1,o.2.2.1,c.2.2.2)
 | .W=>(c.1,o.2.1,c.2.2)
 | .N=>(c.1,c.2.1,c.2.2.1,c.2.2.2.1,o.2.2.2.2.1,c.2.2.2.2.2)
theorem J1 {o:OpT} (h:OpOK o) (f:Fd):(Fa o f).length=Bg f:=by
 cases f
 ·exact h.hash.1
 ·rfl
 ·rfl
 ·rfl
def Da (o:OpT) (l:List Fd):List Int:=l.flatMap (Fa o)
theorem K2 (o:OpT) (f:Fd) (l:List Fd):Da o (f::l)=Fa o f++Da o l:=by simp [Da]
theorem Oo {o:OpT} (h:OpOK o):∀(l:List Fd),(Da o l).length=(l.map Bg).sum
 | []=>rfl
 | f::l=>by rw [K2,List.length_append,J1 h,Oo h l]; simp
theorem Sb (f:Fd):(enc f).1=(Bg f:Int):=by cases f<;>rfl
theorem Rl (f:Fd):Bg f≤32:=by cases f<;>decide
theorem zca:∀(l:List Fd),(l.map Bg).sum≤32*l.length
 | []=>by simp
 | f::l=>by have:=zca l; have:=Rl f; simp; omega
theorem Nj {l:List Fd} {i:Nat} (hi:i<l.length):List.getD (l.map enc) i ((0:Int),FnV.nil,FnV.nil,())=enc l[i]:=by simp [hi]
theorem zx3 (R:Type) {o:OpT} (h:OpOK o) (hw:U32 o.2.1) (hn:U32 o.2.2.2.2.1) {l:List Fd} (hl:l.length≤2) (k0:List Int→Option R):∀(m i:Nat) (acc:List Int),i≤l.length→l.length - i<m→acc.length≤1+32*i→
  V1 m R (l.map enc) (l.length:Int) (i:Int) o acc k0=k0 (acc++Da o (l.drop i))
 | 0,i,acc,_,hh,_=>by omega
 | m+1,i,acc,h1,h2,h3=>by
  simp only [V1,p77_6]
  by_cases hi:i<l.length
  ·have ih:=zx3 R h hw hn hl k0 m (i+1) (acc++Fa o l[i]) (by omega) (by omega) (by rw [List.length_append,J1 h]; have:=Rl l[i]; omega)
   have hb:bnd (i:Int) ((l.map enc).length:Int)=true:=by rw [List.length_map]; exact A4 hi
   rw [List.drop_eq_getElem_cons hi,K2,←List.append_assoc,←ih];simp only [Df hi,hb,Int.toNat_natCast,Cc hi (show l.length≤1000 by omega),Nj hi];have hc:∀y:List Int,y.length≤32→decide (acc.length+y.length≤140737488355328)=true:=fun y hy=>by simp; omega
   have w1:IntKind.u32.wrap o.2.1=o.2.1:=by unfold U32 at hw; exact Cj hw.1 (by omega)
   have w2:IntKind.u32.wrap o.2.2.2.2.1=o.2.2.2.2.1:=by unfold U32 at hn; exact Cj hn.1 (by omega)
   cases l[i] with
   | H=>
    have e1:FnV.same (enc .H).2.1 (FnV.fn 168)=true:=rfl;have e2:List.take 32 (List.drop 0 o.2.2.2.1)=o.2.2.2.1:=by rw [List.drop_zero,List.take_of_length_le (by rw [h.hash.1]; omega)]
    have e3:decide (([]:List Int).length+o.2.2.2.1.length≤140737488355328)=true:=by rw [h.hash.1]; rfl
    simp only [e1,e2,F169,e3,hc _ (show o.2.2.2.1.length≤32 by rw [h.hash.1]; omega)];rfl
   | A=>
    have e1:FnV.same (enc .A).2.1 (FnV.fn 168)=false:=rfl;have e2:FnV.same (enc .A).2.1 (FnV.fn 171)=true:=rfl;have e3:List.take 8 (List.drop 0 (putS o.2.2.1))=putS o.2.2.1:=rfl;simp only [e1,e2,Pt,e3,hc _ (show (putS o.2.2.1).length≤32 from Nat.le_of_ble_eq_true rfl)];rfl
   | W=>
    have e1:FnV.same (enc .W).2.1 (FnV.fn 168)=false:=rfl;have e2:FnV.same (enc .W).2.1 (FnV.fn 171)=false:=rfl;have e3:FnV.same (enc .W).2.1 (FnV.clo 217 (FnV.fn 175))=true:=rfl;have e4:List.take 4 (List.drop 0 (B3 o.2.1))=B3 o.2.1:=rfl;simp only [e1,e2,e3,w1,zbj R hw,e4,hc _ (show (B3 o.2.1).length≤32 from Nat.le_of_ble_eq_true rfl)];rfl
   | N=>
    have e1:FnV.same (enc .N).2.1 (FnV.fn 168)=false:=rfl;have e2:FnV.same (enc .N).2.1 (FnV.fn 171)=false:=rfl;have e3:FnV.same (enc .N).2.1 (FnV.clo 217 (FnV.fn 175))=false:=rfl;have e3':FnV.same (enc .N).2.1 (FnV.clo 217 (FnV.fn 176))=true:=rfl;have e4:List.take 4 (List.drop 0 (B3 o.2.2.2.2.1))=B3 o.2.2.2.2.1:=rfl;simp only [e1,e2,e3,e3',w2,zbj R hn,e4,hc _ (show (B3 o.2.2.2.2.1).length≤32 from Nat.le_of_ble_eq_true rfl)];rfl
  ·have:i=l.length:=by omega
   subst this;simp only [Cx,List.drop_length,Da,List.flatMap_nil,List.append_nil]
theorem Fi (k:Int):(fsOf k).1.length≤2:=by
 unfold fsOf
 repeat' split
 all_goals decide
def Mo (o:OpT):List Int:=if (fsOf o.1).2=true then (o.1 % 256)::Da o (fsOf o.1).1 else [o.2.2.2.2.1 % 256]
theorem F77_eq (R:Type) {o:OpT} (h:OpOK o) (hw:U32 o.2.1) (hn:U32 o.2.2.2.2.1) (k:List Int→Option R):F77 R o k=k (Mo o):=by
 simp only [F77,p77,Wy,Cv];unfold Mo;cases (fsOf o.1).2 with
 | false=>simp
 | true=>
  simp only [Bool.not_true,if_true,List.length_map];exact zx3 R h hw hn (Fi _) (fun x=>k x) FUEL 0 _ (by omega) (by rw [Al]; have:=Fi o.1; omega) (by simp)
def szF (l:List Fd):Int:=1+((l.map Bg).sum:Nat)
theorem zm7 (R:Type) {l:List Fd} (hl:l.length≤2) (k0:Int→Option R):∀(m i:Nat),i≤l.length→l.length - i<m→
  Pn m R (szF (l.take i)) (l.map enc) (l.length:Int) (i:Int) k0=k0 (szF l)
 | 0,i,_,hh=>by omega
 | m+1,i,h1,h2=>by
  simp only [Pn,zh5]
  by_cases hi:i<l.length
  ·have ih:=zm7 R hl k0 m (i+1) (by omega) (by omega)
   have hb:bnd (i:Int) ((l.map enc).length:Int)=true:=by rw [List.length_map]; exact A4 hi
   simp only [Df hi,hb,Int.toNat_natCast,Cc hi (show l.length≤1000 by omega),Nj hi,Sb];have e:IntKind.i64.wrap (szF (l.take i)+(Bg l[i]:Int))=szF (l.take (i+1)):=by
    have h3:=zca (l.take i);have h4:=Rl l[i];have h5:(l.take i).length≤2:=by rw [List.length_take]; omega
    have h6:szF (l.take (i+1))=szF (l.take i)+(Bg l[i]:Int):=by
     unfold szF;rw [List.take_succ_eq_append_getElem hi,List.map_append,List.sum_append];simp;omega
    rw [h6];unfold szF;exact wrap_i64 (by omega) (by omega)
   rw [e,ih]
  ·have:i=l.length:=by omega
   subst this;simp only [Cx,List.take_length]
theorem F125_eq (R:Type) (x:Int) (k:Int→Bool→Option R):F125 R x k=if (fsOf x).2=true then k (szF (fsOf x).1) true else k 0 false:=by
 simp only [F125,p125,Wy];cases (fsOf x).2 with
 | false=>simp
 | true=>
  simp only [Bool.not_true,if_true,List.length_map];have:=zm7 R (Fi x) (fun x4=>k x4 true) FUEL 0 (by omega) (by rw [Al]; have:=Fi x; omega);simpa [szF] using this
theorem eqvO {a b:OpT} (ha:a.2.2.2.1.length=32) (hb:b.2.2.2.1.length=32):Kd.eqv Kq11 a b=decide (a=b):=by
 obtain ⟨a1,a2,a3,a4,a5,⟨⟩⟩:=a;obtain ⟨b1,b2,b3,b4,b5,⟨⟩⟩:=b;have e1:Kd.eqv (.arr 32 (.int .u8)) a4 b4=decide (a4=b4):=Ci ha hb;show ((a1==b1)&&((a2==b2)&&((a3==b3)&&((Kd.eqv (.arr 32 (.int .u8)) a4 b4)&&((a5==b5)&&true)))))=_;rw [e1]
 by_cases h1:a1=b1
 ·by_cases h2:a2=b2
  ·by_cases h3:a3=b3
   ·by_cases h4:a4=b4
    ·by_cases h5:a5=b5
     ·simp [h1,h2,h3,h4,h5]
     ·simp [h5]
    ·simp [h4]
   ·simp [h3]
  ·simp [h2]
 ·simp [h1]
theorem zjv {a:Int} (ha:U32 a):Jv (a/16777216 % 256) (a/65536 % 256) (a/256 % 256) (a % 256)=a:=by
 unfold U32 at ha; unfold Jv; omega
theorem Te (R:Type) {a:Int} (ha:U32 a) (k:Int→Option R):F220 R (B3 a) k=k a:=by
 have u:∀x:Int,U8 (x % 256):=fun x=>by unfold U8; omega
 unfold B3;rw [zpc R (u _) (u _) (u _) (u _),zjv ha]
def Vi (o:OpT) (l:List Fd) (c:OpT):OpT:=l.foldl (zsa o) c
theorem zx5 (R:Type) {o:OpT} (h:OpOK o) (hw:U32 o.2.1) (hn:U32 o.2.2.2.2.1) {l:List Fd} (hl:l.length≤2) (x5:OpT) (k0:List Int→OpT→OpT→Option R):∀(m i:Nat) (c:OpT),i≤l.length→l.length - i<m→
  Hu m R (Da o (l.drop i)) (l.map enc) (l.length:Int) (i:Int) x5 c k0=k0 [] x5 (Vi o (l.drop i) c)
 | 0,i,c,_,hh=>by omega
 | m+1,i,c,h1,h2=>by
  simp only [Hu,Uk]
  by_cases hi:i<l.length
  ·have ih:=zx5 R h hw hn hl x5 k0 m (i+1) (zsa o c l[i]) (by omega) (by omega)
   have hb:bnd (i:Int) ((l.map enc).length:Int)=true:=by rw [List.length_map]; exact A4 hi
   have hbl:=J1 h l[i];rw [List.drop_eq_getElem_cons hi,K2];have hlen:(Fa o l[i]++Da o (l.drop (i+1))).length=Bg l[i]+(Da o (l.drop (i+1))).length:=by rw [List.length_append,hbl]
   have c1:decide ((0:Int)≤0∧(0:Int)≤(Bg l[i]:Int)∧(Bg l[i]:Int)≤(Bg l[i]:Int)∧(Bg l[i]:Int)≤((Fa o l[i]++Da o (l.drop (i+1))).length:Int))=true:=by
    rw [hlen]; simp; omega
   have c2:decide ((0:Int)≤(Bg l[i]:Int)∧(Bg l[i]:Int)≤((Fa o l[i]++Da o (l.drop (i+1))).length:Int)∧((Fa o l[i]++Da o (l.drop (i+1))).length:Int)≤((Fa o l[i]++Da o (l.drop (i+1))).length:Int)∧((Fa o l[i]++Da o (l.drop (i+1))).length:Int)≤((Fa o l[i]++Da o (l.drop (i+1))).length:Int))=true:=by
    rw [hlen]; simp; omega
   have t1:List.take (Int.toNat ((Bg l[i]:Int) - 0)) (List.drop 0 (Fa o l[i]++Da o (l.drop (i+1))))=Fa o l[i]:=by
    rw [Int.sub_zero,Int.toNat_natCast,List.drop_zero,←hbl,List.take_left]
   have t2:List.take (Int.toNat (((Fa o l[i]++Da o (l.drop (i+1))).length:Int) - (Bg l[i]:Int))) (List.drop (Bg l[i]) (Fa o l[i]++Da o (l.drop (i+1))))=Da o (l.drop (i+1)):=by
    rw [←hbl,List.drop_left,List.take_of_length_le];rw [List.length_append];omega
   have hbk:Vi o (l[i]::l.drop (i+1)) c=Vi o (l.drop (i+1)) (zsa o c l[i]):=rfl;rw [hbk,←ih];simp only [Df hi,hb,Int.toNat_natCast,Cc hi (show l.length≤1000 by omega),Nj hi,Sb,c1,c2];rw [t1,t2];have hw':=hw;have hn':=hn;unfold U32 at hw' hn';have w1:IntKind.i64.wrap o.2.1=o.2.1:=wrap_i64 (by omega) (by omega);have w2:IntKind.i64.wrap o.2.2.2.2.1=o.2.2.2.2.1:=wrap_i64 (by omega) (by omega);cases l[i] with
   | H=>
    have e1:FnV.same (enc .H).2.2.1 (FnV.fn 170)=true:=rfl;have e2:List.take 32 o.2.2.2.1=o.2.2.2.1:=by rw [List.take_of_length_le (by rw [h.hash.1]; omega)]
    have e3:decide ((32:Int)≤((Fa o .H).length:Int))=true:=by rw [J1 h]; rfl
    simp only [e1,e3];simp only [Fa,e2];rfl
   | A=>
    have e1:FnV.same (enc .A).2.2.1 (FnV.fn 170)=false:=rfl;have e2:FnV.same (enc .A).2.2.1 (FnV.fn 172)=true:=rfl;have e3:decide ((8:Int)≤((Fa o .A).length:Int))=true:=rfl;have e4:List.take 8 (putS o.2.2.1)=putS o.2.2.1:=rfl;simp only [e1,e2,e3];simp only [Fa,e4,zpi R h.amount];rfl
   | W=>
    have e1:FnV.same (enc .W).2.2.1 (FnV.fn 170)=false:=rfl;have e2:FnV.same (enc .W).2.2.1 (FnV.fn 172)=false:=rfl;have e2':FnV.same (enc .W).2.2.1 (FnV.clo 219 (FnV.fn 175))=true:=rfl;have e3:decide ((4:Int)≤((Fa o .W).length:Int))=true:=rfl;have e4:List.take 4 (B3 o.2.1)=B3 o.2.1:=rfl;simp only [e1,e2,e2',e3];simp only [Fa,e4,Te R hw,w1];rfl
   | N=>
    have e1:FnV.same (enc .N).2.2.1 (FnV.fn 170)=false:=rfl;have e2:FnV.same (enc .N).2.2.1 (FnV.fn 172)=false:=rfl;have e2':FnV.same (enc .N).2.2.1 (FnV.clo 219 (FnV.fn 175))=false:=rfl;have e2'':FnV.same (enc .N).2.2.1 (FnV.clo 219 (FnV.fn 176))=true:=rfl;have e3:decide ((4:Int)≤((Fa o .N).length:Int))=true:=rfl;have e4:List.take 4 (B3 o.2.2.2.2.1)=B3 o.2.2.2.2.1:=rfl;simp only [e1,e2,e2',e2'',e3];simp only [Fa,e4,Te R hn,w2];rfl
  ·have:i=l.length:=by omega
   subst this;simp only [Cx,List.drop_length];rfl
theorem Wx (R:Type) (x:Int) (hx:0≤x∧x<256) (b:List Int) (k:Bool→Option R):F89 R (x::b) k=k (if (fsOf x).2=true then decide (szF (fsOf x).1≤((x::b).length:Int)) else true):=by
 simp only [F89,p89];have hb:bnd 0 (((x::b).length:Nat):Int)=true:=by unfold bnd; simp<;>omega
 have hw:IntKind.i64.wrap x=x:=wrap_i64 (by omega) (by omega);simp only [hb,List.getD_cons_zero,hw,F125_eq];cases (fsOf x).2 with
 | false=>simp
 | true=>simp
theorem Kw {k:Int} (h:(fsOf k).2=true):1≤k∧k≤11:=by
 rcases kinds k with q | q | q | q | q | q | q | q | q | q | q | q
 all_goals try omega
 obtain ⟨h1,h2,h3,h4,h5,h6,h7,h8,h9,h10,h11⟩:=q;simp [fsOf,h1,h2,h3,h4,h5,h6,h7,h8,h9,h10,h11] at h
theorem drop1 (x:Int) (b:List Int):List.take (Int.toNat (((x::b).length:Int) - 1)) (List.drop 1 (x::b))=b:=by
 rw [List.drop_one,List.tail_cons,List.take_of_length_le];rw [List.length_cons];omega
theorem zot (R:Type) {o:OpT} (h:OpOK o) (hw:U32 o.2.1) (hn:U32 o.2.2.2.2.1) (hv:(fsOf o.1).2=true) (k:OpT→List Int→Option R):
  F61 R (Mo o) k=k (Vi o (fsOf o.1).1 (o.1,(0:Int),(0:Int),(List.replicate 32 (0:Int)),(0:Int),())) []:=by
 have hr:=Kw hv;have em:o.1 % 256=o.1:=by omega
 unfold Mo;rw [if_pos hv,em];simp only [F61,p61];have hb:bnd 0 (((o.1::Da o (fsOf o.1).1).length:Nat):Int)=true:=by unfold bnd; simp<;>omega
 have hwr:IntKind.i64.wrap o.1=o.1:=wrap_i64 (by omega) (by omega);have hc:decide ((0:Int)≤1∧(1:Int)≤((o.1::Da o (fsOf o.1).1).length:Int)∧((o.1::Da o (fsOf o.1).1).length:Int)≤((o.1::Da o (fsOf o.1).1).length:Int)∧((o.1::Da o (fsOf o.1).1).length:Int)≤((o.1::Da o (fsOf o.1).1).length:Int))=true:=by
  simp<;>omega
 have hs:decide (szF (fsOf o.1).1≤((o.1::Da o (fsOf o.1).1).length:Int))=true:=by
  unfold szF;rw [List.length_cons,Oo h];simp; omega
 simp only [hb,List.getD_cons_zero,hwr,Wy,hv,Bool.not_true,Wx R o.1 (by omega),if_true,hs,hc,drop1,List.length_map];have:=zx5 R h hw hn (Fi o.1) ((0:Int),(0:Int),(0:Int),(List.replicate 32 (0:Int)),(0:Int),()) (fun x9 x10 x11=>k x11 x9) FUEL 0 (o.1,(0:Int),(0:Int),(List.replicate 32 (0:Int)),(0:Int),()) (by omega) (by rw [Al]; have:=Fi o.1; omega);rw [List.drop_zero] at this;exact this
theorem zwr (R:Type) (x:Int) (hx:0≤x∧x<256) (k:OpT→List Int→Option R):
  F61 R [x] k=if (fsOf x).2=true∧(fsOf x).1=[] then k (x,(0:Int),(0:Int),(List.replicate 32 (0:Int)),(0:Int),()) [] else k ((0:Int),(0:Int),(0:Int),(List.replicate 32 (0:Int)),x,()) []:=by
 simp only [F61,p61];have hwr:IntKind.i64.wrap x=x:=wrap_i64 (by omega) (by omega);have hb:bnd 0 ((([x]:List Int).length:Nat):Int)=true:=rfl;have hc:decide ((0:Int)≤1∧(1:Int)≤(([x]:List Int).length:Int)∧(([x]:List Int).length:Int)≤(([x]:List Int).length:Int)∧(([x]:List Int).length:Int)≤(([x]:List Int).length:Int))=true:=rfl;simp only [hb,List.getD_cons_zero,hwr,Wy,Wx R x hx,hc,drop1,List.length_map];cases hv:(fsOf x).2 with
 | false=>simp
 | true=>
  simp only [Bool.not_true,if_true,true_and]
  by_cases he:(fsOf x).1=[]
  ·rw [if_pos he]
   have hs:decide (szF (fsOf x).1≤(([x]:List Int).length:Int))=true:=by rw [he]; rfl
   simp only [hs,he,List.map_nil];obtain ⟨m,hm⟩:=Kc 1 (by omega);rw [hm];simp only [Hu,Uk];rfl
  ·rw [if_neg he]
   have hs:decide (szF (fsOf x).1≤(([x]:List Int).length:Int))=false:=by
    cases hq:(fsOf x).1 with
    | nil=>exact absurd hq he
    | cons f l=>
     unfold szF;have:4≤Bg f:=by cases f<;>decide
     simp;omega
   simp only [hs,Bool.not_false]
def zw4 (o:OpT):Bool:=decide (0≤o.2.1∧o.2.1<4294967296∧0≤o.2.2.2.2.1∧o.2.2.2.2.1<4294967296)
def El (o:OpT):Bool:=zw4 o&&(if (fsOf o.1).2=true then decide (Vi o (fsOf o.1).1 (o.1,(0:Int),(0:Int),(List.replicate 32 (0:Int)),(0:Int),())=o)
 else decide (o.2.2.2.2.1≤255∧(fsOf o.2.2.2.2.1).2=false∧o=((0:Int),(0:Int),(0:Int),(List.replicate 32 (0:Int)),o.2.2.2.2.1,())))
theorem Vh {o:OpT} (h:o.2.2.2.1.length=32):∀(l:List Fd) (c:OpT),c.2.2.2.1.length=32→(Vi o l c).2.2.2.1.length=32
 | [],_,hc=>hc
 | f::l,c,hc=>by
  show (Vi o l (zsa o c f)).2.2.2.1.length=32;refine Vh h l _ ?_;cases f
  ·exact h
  ·exact hc
  ·exact hc
  ·exact hc
theorem F76_eq (R:Type) {o:OpT} (h:OpOK o) (k:Bool→Option R):F76 R o k=k (El o):=by
 simp only [F76,p76];unfold El zw4
 by_cases r1:o.2.1<0
 ·simp only [decide_eq_true r1]; rw [decide_eq_false (by omega)]; simp
 by_cases r2:o.2.1>4294967295
 ·simp only [decide_eq_false r1,decide_eq_true r2]; rw [decide_eq_false (by omega)]; simp
 by_cases r3:o.2.2.2.2.1<0
 ·simp only [decide_eq_false r1,decide_eq_false r2,decide_eq_true r3]; rw [decide_eq_false (by omega)]; simp
 by_cases r4:o.2.2.2.2.1>4294967295
 ·simp only [decide_eq_false r1,decide_eq_false r2,decide_eq_false r3,decide_eq_true r4]; rw [decide_eq_false (by omega)]; simp
 have hw:U32 o.2.1:=by unfold U32; omega
 have hn:U32 o.2.2.2.2.1:=by unfold U32; omega
 simp only [decide_eq_false r1,decide_eq_false r2,decide_eq_false r3,decide_eq_false r4,F77_eq R h hw hn];rw [decide_eq_true (by omega),Bool.true_and];cases hv:(fsOf o.1).2 with
 | true=>
  rw [zot R h hw hn hv,eqvO (Vh h.hash.1 _ _ rfl) h.hash.1,if_pos rfl];have e0:((([]:List Int).length:Int)==0)=true:=rfl;simp only [e0];have hbo:Mo o=(o.1 % 256)::Da o (fsOf o.1).1:=by unfold Mo; rw [if_pos hv]
  have hr:=Kw hv;have em:o.1 % 256=o.1:=by omega
  have hs:decide (szF (fsOf o.1).1≤((o.1::Da o (fsOf o.1).1).length:Int))=true:=by
   unfold szF;rw [List.length_cons,Oo h];simp; omega
  rw [hbo,em,Wx R o.1 (by omega),if_pos hv,hs];cases decide (Vi o (fsOf o.1).1 (o.1,(0:Int),(0:Int),(List.replicate 32 (0:Int)),(0:Int),())=o)<;>rfl
 | false=>
  have hbo:Mo o=[o.2.2.2.2.1 % 256]:=by unfold Mo; rw [hv]; rfl
  have hx:0≤o.2.2.2.2.1 % 256∧o.2.2.2.2.1 % 256<256:=by omega
  rw [hbo,zwr R _ hx];simp only [Bool.false_eq_true,if_false];have e0:((([]:List Int).length:Int)==0)=true:=rfl
  by_cases he:(fsOf (o.2.2.2.2.1 % 256)).2=true∧(fsOf (o.2.2.2.2.1 % 256)).1=[]
  ·rw [if_pos he,eqvO (by rfl) h.hash.1]
   have hne:((o.2.2.2.2.1 % 256,(0:Int),(0:Int),(List.replicate 32 (0:Int)),(0:Int),()):OpT)≠o:=fun e=>by
    have:o.1=o.2.2.2.2.1 % 256:=by conv=>lhs; rw [←e]
    rw [←this,hv] at he;cases he.1
   rw [decide_eq_false hne,decide_eq_false]
   rintro ⟨q1,q2,_⟩
   rw [show o.2.2.2.2.1 % 256=o.2.2.2.2.1 by omega,q2] at he;cases he.1
  ·rw [if_neg he,eqvO (by rfl) h.hash.1]
   by_cases e:((0:Int),(0:Int),(0:Int),(List.replicate 32 (0:Int)),o.2.2.2.2.1 % 256,())=o
   ·have en:o.2.2.2.2.1=o.2.2.2.2.1 % 256:=by conv=>lhs; rw [←e]
    simp only [decide_eq_true e,e0,Wx R _ hx];cases hq:(fsOf (o.2.2.2.2.1 % 256)).2 with
    | true=>
     have hs:decide (szF (fsOf (o.2.2.2.2.1 % 256)).1≤(([o.2.2.2.2.1 % 256]:List Int).length:Int))=false:=by
      cases hf:(fsOf (o.2.2.2.2.1 % 256)).1 with
      | nil=>exact absurd ⟨hq,hf⟩ he
      | cons f l=>
       unfold szF;have:4≤Bg f:=by cases f<;>decide
       simp;omega
     rw [if_pos rfl,hs,decide_eq_false]
     rintro ⟨_,q2,_⟩
     rw [en,hq] at q2;cases q2
    | false=>
     rw [if_neg (by decide),decide_eq_true];exact ⟨by omega,by rw [en]; exact hq,by rw [←en] at e; exact e.symm⟩
   ·simp only [decide_eq_false e]
    rw [decide_eq_false]
    rintro ⟨q1,_,q3⟩
    rw [show o.2.2.2.2.1 % 256=o.2.2.2.2.1 by omega] at e;exact e q3.symm
theorem Qj {n:Int} (hn:U64 n):∀(m:Nat) (s:Src),SOK s→Bh s=true→64*(m:Int)≤Ee s→(Ea n m s).2.2=0∨(Ea n m s).2.2=9
 | 0,s,_,_,_=>.inr rfl
 | m+1,s,hs,hr,hl=>by
  have hk:=(zik hn).1;have ht:=zb1 (s:=s) (n:=B5 n) hr hk (by omega);have h2:=zgw hs hr (k:=B5 n) (by omega);simp only [Ea,ht];rw [if_pos trivial]
  by_cases hv:M2 s (atS s) (B5 n)<n
  ·rw [if_pos hv]; exact .inl rfl
  ·rw [if_neg hv]
   have hs2:=Tm hs (B5 n);rw [ht] at hs2;exact Qj hn m _ hs2 h2.1 (by rw [h2.2]; omega)
theorem zg8 {l:List Int} (h:AllU64 l):∀(i:Nat),i≤l.length→(posN l i≠0↔0<sumS l i)
 | 0,_=>by simp [posN,sumS]
 | i+1,hi=>by
  have hi':i<l.length:=by omega
  have ih:=zg8 h i (by omega);have h0:=Ay h i;have hx:=(Au h Ii i)
  unfold U64 at hx;rw [Uh hi',Bw hi']
  by_cases e:l.getD i 0>0
  ·rw [if_pos e]; omega
  ·rw [if_neg e]
   have:l.getD i 0=0:=by omega
   rw [this];omega
theorem Rs {l:List Int} (h:AllU64 l):posS l≠0↔0<totS l:=by
 have:=zg8 h l.length (Nat.le_refl _);unfold posS totS;omega
theorem zb8 {l:List Int} {a:Int} {j:Nat} (hj:j≤l.length):sumS (l++[a]) j=sumS l j:=by
 unfold sumS; rw [List.take_append_of_le_length hj]
theorem own_app {l:List Int} (h:AllU64 l) (hlen:l.length≤199) (ht:totS l<9223372036854775808) {x:Int} (hx:0≤x∧x<totS l):ownN (l++[0]) x=ownN l x:=by
 obtain ⟨i,hi,e⟩:=zcn h (by omega) ht hx;rw [e];have hA:AllU64 (l++[0]):=fun y hy=>by
  rcases List.mem_append.1 hy with hy | hy
  ·exact h y hy
  ·rw [List.mem_singleton.1 hy]; exact Ii
 refine Xv hA ⟨by rw [List.length_append]; have:=hi.1; omega,?_⟩;rw [zb8 (by have:=hi.1; omega),zb8 (by have:=hi.1; omega)];exact hi.2
theorem U9 {n:Int}:∀(m:Nat) (s:Src),(Ea n m s).2.2=0→(Ea n m s).1<n
 | 0,s,h=>by simp [Ea] at h
 | m+1,s,h=>by
  simp only [Ea] at h ⊢;split
  ·rename_i h1
   rw [if_pos h1] at h;split
   ·assumption
   ·rename_i h2
    rw [if_neg h2] at h;exact U9 m _ h
  ·rename_i h1
   rw [if_neg h1] at h;exact absurd h h1
theorem zkr {s:Src} {n m:Int} (h:(By s n m).2.2=0):0≤(By s n m).1∧(By s n m).1<n:=by
 unfold By at h ⊢;split
 ·rename_i hc
  rw [if_pos hc] at h;exact ⟨Hm _ _,U9 _ _ h⟩
 ·rename_i hc
  rw [if_neg hc] at h;cases h
theorem zue {a:List Int} {slot m:Int} {l:List Int} (h:AllU64 l) (hlen:l.length≤199):leaS a slot m (l++[0])=leaS a slot m l:=by
 unfold leaS;rw [Hd,Int.add_zero]
 by_cases hm:mayS m slot=true
 ·rw [if_pos hm,if_pos hm]
  by_cases ht:totS l<9223372036854775808
  ·rw [if_pos ht,if_pos ht]
   have:∀s:Src,Ce (l++[0]) s m=Ce l s m:=fun s=>by
    unfold Ce;rw [Hd,Int.add_zero,if_pos ht,if_pos ht]
    by_cases h0:totS l=0
    ·rw [if_pos h0,if_pos h0]
    ·rw [if_neg h0,if_neg h0]
     by_cases hd:(By s (totS l) m).2.2=0
     ·rw [if_pos hd,if_pos hd,own_app h hlen ht (zkr hd)]
     ·rw [if_neg hd,if_neg hd]
   rw [this]
  ·rw [if_neg ht,if_neg ht]
 ·rw [if_neg hm,if_neg hm]
theorem zud {a:List Int} (ha:H32 a) {slot m:Int} {l:List Int} (h:AllU64 l) (hm:mayS m slot=true) (ht:totS l<9223372036854775808) (hp:0<totS l):
  ((leaS a slot m l).2=0∧0≤(leaS a slot m l).1)∨(leaS a slot m l).2=9:=by
 obtain ⟨m1,m2,m3,m4⟩:=Jt hm;unfold leaS;rw [if_pos hm,if_pos ht];have hs:=Rj ha (d:=1) (slot:=slot) (by omega) (by omega);have hr:Bh (srcS a 1 slot)=true:=by
  unfold Bh srcS Cq; simp
 have hl:Ee (srcS a 1 slot)=4611686018427387904:=by
  unfold Ee; rw [if_pos hr]; unfold endS srcS Cq; simp
 have hu:U64 (totS l):=by unfold U64; omega
 simp only [];unfold Ce;rw [if_pos ht,if_neg (by omega)];have hd:(By (srcS a 1 slot) (totS l) m)=Ea (totS l) m.toNat (srcS a 1 slot):=by
  unfold By;rw [if_pos ⟨hr,hp,ht,by omega,by omega⟩]
 have he:=Qj hu m.toNat (srcS a 1 slot) hs hr (by rw [hl]; omega);rw [←hd] at he
 by_cases h0:(By (srcS a 1 slot) (totS l) m).2.2=0
 ·rw [if_pos h0]; exact .inl ⟨rfl,Int.natCast_nonneg _⟩
 ·rw [if_neg h0]; exact .inr (he.resolve_left h0)
abbrev Led:=Cfg×(Int×(List Va×(Bea×(List Int×(List Int×Unit)))))
abbrev An:=Int×(Int×(List Int×(List Int×Unit)))
abbrev Clk:=Led×(An×Unit)
def badS (e:Int):An:=(e,(0:Int),([]:List Int),(List.replicate 32 (0:Int)),())
def okS (n:Int):An:=((0:Int),n,([]:List Int),(List.replicate 32 (0:Int)),())
def D8 (l:Led) (r:List Va×Int×Int):Led×An:=if r.2.2=0 then ((l.1,l.2.1,r.1,l.2.2.2),okS r.2.1) else (l,badS r.2.2)
def Kn (l:Led) (r:Bea×Int):Led×An:=if r.2=0 then ((l.1,l.2.1,l.2.2.1,r.1,l.2.2.2.2),okS 0) else (l,badS r.2)
def Ek (l:Led) (w:Int):Bool:=decide (0≤w∧w<(l.2.2.1.length:Int))
def advS (l:Led):Led×An:=
 if zu4 l.1 l.2.1=true then
  (if (bEnd l.2.2.2.1).2.2.2=0 then
   ((l.1,Py l.1 l.2.1,actS l.2.2.1,(bEnd l.2.2.2.1).1,(schL (bEnd l.2.2.2.1).1.2.1 l.1.1 l.1.2.2.2.1 (Am (actS l.2.2.1))).1,(bEnd l.2.2.2.1).2.2.1,()),
    ((0:Int),Py l.1 l.2.1,(bEnd l.2.2.2.1).2.2.1,(bEnd l.2.2.2.1).1.2.1,()))
  else (l,badS (bEnd l.2.2.2.1).2.2.2))
 else ((l.1,Py l.1 l.2.1,l.2.2),okS (Py l.1 l.2.1))
def askS (l:Led) (o:OpT):An:=
 if o.1=10 then (if Ek l o.2.1=true then okS (if o.2.2.2.2.1=0 then (l.2.2.1.getD o.2.1.toNat zV).2.1 else (l.2.2.1.getD o.2.1.toNat zV).2.2.1) else badS 5)
 else if o.1=11 then ((0:Int),l.2.2.2.1.1,([]:List Int),l.2.2.2.1.2.1,())
 else if o.2.2.2.2.1≥l.1.1 then badS 3
 else if o.1=7 then
  (if posS (Am l.2.2.1)=0 then badS 10 else
   if (leaS l.2.2.2.1.2.1 o.2.2.2.2.1 l.1.2.2.2.1 (Am l.2.2.1)).2=0 then ((0:Int),(0:Int),[(leaS l.2.2.2.1.2.1 o.2.2.2.2.1 l.1.2.2.2.1 (Am l.2.2.1)).1],(List.replicate 32 (0:Int)),())
   else badS (leaS l.2.2.2.1.2.1 o.2.2.2.2.1 l.1.2.2.2.1 (Am l.2.2.1)).2)
 else if o.1=8 then
  (if (aliS l.2.2.2.1.2.1 o.2.2.2.2.1 l.1.2.2.2.1 (Am l.2.2.1)).2=0 then ((0:Int),(0:Int),[(aliS l.2.2.2.1.2.1 o.2.2.2.2.1 l.1.2.2.2.1 (Am l.2.2.1)).1],(List.replicate 32 (0:Int)),())
   else badS (aliS l.2.2.2.1.2.1 o.2.2.2.2.1 l.1.2.2.2.1 (Am l.2.2.1)).2)
 else
  (if (sitS l.2.2.2.1.2.1 o.2.2.2.2.1 o.2.1 l.1.2.2.2.1 (Am l.2.2.1)).2=0 then ((0:Int),(0:Int),(sitS l.2.2.2.1.2.1 o.2.2.2.2.1 o.2.1 l.1.2.2.2.1 (Am l.2.2.1)).1,(List.replicate 32 (0:Int)),())
   else badS (sitS l.2.2.2.1.2.1 o.2.2.2.2.1 o.2.1 l.1.2.2.2.1 (Am l.2.2.1)).2)
def doS (l:Led) (o:OpT):Led×An:=
 if El o=true∧o.1≠0 then
  if o.1=1 then D8 l (depS l.2.2.1 o.2.2.2.1 o.2.2.1 l.1.2.2.2.2.1)
  else if o.1=2 then D8 l (wdS l.2.2.1 o.2.1 o.2.2.1)
  else if o.1=3 then D8 l (slS l.2.2.1 o.2.1 o.2.2.1)
  else if o.1=4 then (if Ek l o.2.1=true then Kn l (Dd l.2.2.2.1 (phS l.1 l.2.1) o.2.1 o.2.2.2.1) else (l,badS 5))
  else if o.1=5 then (if Ek l o.2.1=true then Kn l (Dc l.2.2.2.1 (phS l.1 l.2.1) o.2.1 o.2.2.2.1) else (l,badS 5))
  else if o.1=6 then advS l
  else (l,askS l o)
 else (l,badS 2)
structure LOK (c:Cfg) (n:Nat) (l:Led):Prop where
 cfg:l.1=c
 right:cfgS c=true
 slot:0≤l.2.1∧l.2.1<c.1
 vals:VsOK l.2.2.1
 vlen:l.2.2.1.length≤n
 next:totS (A0 l.2.2.1)<9223372036854775808
 stake:totS (Am l.2.2.1)<9223372036854775808
 bea:Gf l.2.2.2.1
 blen:l.2.2.2.1.2.2.2.1.length≤n
 llen:(l.2.2.2.2.1.length:Int)=c.1
 lead:∀i:Nat,(i:Int)<c.1→posS (Am l.2.2.1)≠0→l.2.2.2.2.1.getD i 0=schV l.2.2.2.1.2.1 c.2.2.2.1 (Am l.2.2.1) i
 miss:l.2.2.2.2.2.1.length≤1000
theorem zeo {o:OpT} (h:El o=true) (h0:o.1≠0):1≤o.1∧o.1≤11:=by
 unfold El at h;rw [Bool.and_eq_true] at h
 by_cases hv:(fsOf o.1).2=true
 ·exact Kw hv
 ·rw [if_neg hv] at h
  have:=(of_decide_eq_true h.2).2.2;exfalso;apply h0;rw [this]
theorem Rp {o:OpT} (h:El o=true):0≤o.2.2.2.2.1∧o.2.2.2.2.1<4294967296∧0≤o.2.1∧o.2.1<4294967296:=by
 unfold El at h;rw [Bool.and_eq_true] at h;have:=of_decide_eq_true h.1;omega
theorem zc9 {x:Int} (h:x=0):(x !=0)=false:=by simp [h]
theorem zk1 {x:Int} (h:¬x=0):(x !=0)=true:=by simpa using h
theorem zvy (l:List Va) (key:List Int) (a most:Int) (hn:l.length≤1000):0≤(depS l key a most).2.1∧(depS l key a most).2.1≤1000:=by
 unfold depS;split
 ·cases hq:fstK l key with
  | none=>
   simp only [];split
   ·simp
   ·split
    ·simp only []; omega
    ·simp
  | some i=>
   have:=(Zb hq).1;simp only [];split
   ·simp only []; omega
   ·simp
 ·simp
section
variable {c:Cfg} {n:Nat} {l:Led}
theorem N6 (h:LOK c n l):0≤Py l.1 l.2.1∧Py l.1 l.2.1<c.1∧c.1≤1024:=by
 have h1:=B9 h.right;have h2:=h.slot;unfold Py;rw [h.cfg];split
 ·omega
 ·omega
theorem zlc {v:List Va} (h:VsOK v):VsOK (actS v):=fun x hx=>by
 obtain ⟨y,hy,rfl⟩:=List.mem_map.1 hx;exact ⟨(h y hy).key,(h y hy).next,(h y hy).next⟩
theorem Ov (v:List Va):Am (actS v)=A0 v:=by simp [Am,actS,A0,actV]
theorem zfe (v:List Va):A0 (actS v)=A0 v:=by simp [actS,A0,actV]
theorem zk5 {b:Bea} (h:Gf b):H32 (bEnd b).1.2.1∧((bEnd b).2.2.2=0→(bEnd b).2.1.2.2.2.1=(bEnd b).1.2.1):=by
 unfold bEnd;split
 ·exact ⟨A6,fun h=>by cases h⟩
 ·split
  ·exact ⟨A6,fun h=>by cases h⟩
  ·exact ⟨Rm _ _ _,fun _=>rfl⟩
end
end Go.PG
set_option maxRecDepth 100000
namespace Go.PG
def endC {R:Type} (l:Led) (k:Led→An→Option R) (y:Int) (p:Clk):Option R:=match (y !=0) with | true=>k l (badS y) | false=>k p.1 p.2.1
def Do {R:Type} (l:Led) (k:Led→An→Option R) (x:Option R) (y:Bool):Option R:=match (!y) with | true=>k l (badS 2) | false=>x
theorem F62_1 (R:Type) (l:Led) {o:OpT} (hk:o.1=1) (k:Led→An→Option R):F62 R l o k=F76 R o (Do l k (F126 R (l,okS 0,()) o (endC l k))):=by
 obtain ⟨x,r⟩:=o;cases hk
 kernel_rfl
theorem F62_2 (R:Type) (l:Led) {o:OpT} (hk:o.1=2) (k:Led→An→Option R):F62 R l o k=F76 R o (Do l k (F127 R (l,okS 0,()) o (endC l k))):=by
 obtain ⟨x,r⟩:=o;cases hk
 kernel_rfl
theorem F62_3 (R:Type) (l:Led) {o:OpT} (hk:o.1=3) (k:Led→An→Option R):F62 R l o k=F76 R o (Do l k (F128 R (l,okS 0,()) o (endC l k))):=by
 obtain ⟨x,r⟩:=o;cases hk
 kernel_rfl
theorem F62_4 (R:Type) (l:Led) {o:OpT} (hk:o.1=4) (k:Led→An→Option R):F62 R l o k=F76 R o (Do l k (F129 R (l,okS 0,()) o (endC l k))):=by
 obtain ⟨x,r⟩:=o;cases hk
 kernel_rfl
theorem F62_5 (R:Type) (l:Led) {o:OpT} (hk:o.1=5) (k:Led→An→Option R):F62 R l o k=F76 R o (Do l k (F132 R (l,okS 0,()) o (endC l k))):=by
 obtain ⟨x,r⟩:=o;cases hk
 kernel_rfl
theorem F62_6 (R:Type) (l:Led) {o:OpT} (hk:o.1=6) (k:Led→An→Option R):F62 R l o k=F76 R o (Do l k (F134 R (l,okS 0,()) o (endC l k))):=by
 obtain ⟨x,r⟩:=o;cases hk
 kernel_rfl
theorem F62_7 (R:Type) (l:Led) {o:OpT} (hk:o.1=7) (k:Led→An→Option R):F62 R l o k=F76 R o (Do l k (F135 R (l,okS 0,()) o (endC l k))):=by
 obtain ⟨x,r⟩:=o;cases hk
 kernel_rfl
theorem F62_8 (R:Type) (l:Led) {o:OpT} (hk:o.1=8) (k:Led→An→Option R):F62 R l o k=F76 R o (Do l k (F136 R (l,okS 0,()) o (endC l k))):=by
 obtain ⟨x,r⟩:=o;cases hk
 kernel_rfl
theorem F62_9 (R:Type) (l:Led) {o:OpT} (hk:o.1=9) (k:Led→An→Option R):F62 R l o k=F76 R o (Do l k (F137 R (l,okS 0,()) o (endC l k))):=by
 obtain ⟨x,r⟩:=o;cases hk
 kernel_rfl
theorem F62_10 (R:Type) (l:Led) {o:OpT} (hk:o.1=10) (k:Led→An→Option R):F62 R l o k=F76 R o (Do l k (F138 R (l,okS 0,()) o (endC l k))):=by
 obtain ⟨x,r⟩:=o;cases hk
 kernel_rfl
theorem F62_11 (R:Type) (l:Led) {o:OpT} (hk:o.1=11) (k:Led→An→Option R):F62 R l o k=F76 R o (Do l k (F139 R (l,okS 0,()) o (endC l k))):=by
 obtain ⟨x,r⟩:=o;cases hk
 kernel_rfl
theorem zwq (R:Type) (l:Led) {o:OpT} (hk:o.1≠1∧o.1≠2∧o.1≠3∧o.1≠4∧o.1≠5∧o.1≠6∧o.1≠7∧o.1≠8∧o.1≠9∧o.1≠10∧o.1≠11) (k:Led→An→Option R):F62 R l o k=k l (badS 2):=by
 obtain ⟨h1,h2,h3,h4,h5,h6,h7,h8,h9,h10,h11⟩:=hk;simp [F62,p62,Bx,Kd.eqv];simp only [Ca h1,Ca h2,Ca h3,Ca h4,Ca h5,Ca h6,Ca h7,Ca h8,Ca h9,Ca h10,Ca h11];rfl
section
variable {c:Cfg} {n:Nat} {l:Led}
theorem B2 {R:Type} (l:Led) {o:OpT} (ho:OpOK o) (k:Led→An→Option R) (x:Option R) (z:Option R) (h1:El o=false→k l (badS 2)=z) (h2:El o=true→x=z):F76 R o (Do l k x)=z:=by
 rw [F76_eq R ho];unfold Do;cases hr:El o with
 | false=>exact h1 hr
 | true=>exact h2 hr
theorem Cr {R:Type} (l:Led) (k:Led→An→Option R) {y:Int} (p:Clk) (h:y=0):endC l k y p=k p.1 p.2.1:=by unfold endC; rw [zc9 h]
theorem Cl {R:Type} (l:Led) (k:Led→An→Option R) {y:Int} (p:Clk) (h:¬y=0):endC l k y p=k l (badS y):=by unfold endC; rw [zk1 h]
theorem Og {R:Type} (l:Led) (k:Led→An→Option R) (r:List Va×Int×Int):endC l k r.2.2 ((l.1,l.2.1,r.1,l.2.2.2),((0:Int),r.2.1,([]:List Int),(List.replicate 32 (0:Int)),()),())=k (D8 l r).1 (D8 l r).2:=by
 unfold D8
 by_cases hr:r.2.2=0
 ·rw [Cr l k _ hr,if_pos hr]; rfl
 ·rw [Cl l k _ hr,if_neg hr]
theorem zc7 {R:Type} (l:Led) (k:Led→An→Option R) (r:Bea×Int):endC l k r.2 ((l.1,l.2.1,l.2.2.1,r.1,l.2.2.2.2),okS 0,())=k (Kn l r).1 (Kn l r).2:=by
 unfold Kn
 by_cases hr:r.2=0
 ·rw [Cr l k _ hr,if_pos hr]
 ·rw [Cl l k _ hr,if_neg hr]
theorem P51 (R:Type) (h:LOK c n l) (hn:n≤150) {o:OpT} (ho:OpOK o) (k:Led→An→Option R):
  F126 R (l,okS 0,()) o (endC l k)=k (D8 l (depS l.2.2.1 o.2.2.2.1 o.2.2.1 l.1.2.2.2.2.1)).1 (D8 l (depS l.2.2.1 o.2.2.2.1 o.2.2.1 l.1.2.2.2.2.1)).2:=by
 have hl:=h.vlen;have hi:=zvy l.2.2.1 o.2.2.2.1 o.2.2.1 l.1.2.2.2.2.1 (by omega);simp only [F126,p126];rw [F177_eq R h.vals (by omega) ho.hash.1 ho.amount,Aj (n:=(depS l.2.2.1 o.2.2.2.1 o.2.2.1 l.1.2.2.2.2.1).2.1) (by omega) (by omega)];exact Og l k _
theorem P52 (R:Type) (h:LOK c n l) (hn:n≤150) {o:OpT} (ho:OpOK o) (k:Led→An→Option R):
  F127 R (l,okS 0,()) o (endC l k)=k (D8 l (wdS l.2.2.1 o.2.1 o.2.2.1)).1 (D8 l (wdS l.2.2.1 o.2.1 o.2.2.1)).2:=by
 have hl:=h.vlen;simp only [F127,p127];rw [F178_eq R h.vals (by omega) _ ho.amount];exact Og l k _
theorem P53 (R:Type) (h:LOK c n l) (hn:n≤150) {o:OpT} (ho:OpOK o) (k:Led→An→Option R):
  F128 R (l,okS 0,()) o (endC l k)=k (D8 l (slS l.2.2.1 o.2.1 o.2.2.1)).1 (D8 l (slS l.2.2.1 o.2.1 o.2.2.1)).2:=by
 have hl:=h.vlen;simp only [F128,p128];rw [F179_eq R h.vals (by omega) _ ho.amount];exact Og l k _
theorem zbl (R:Type) (p:Clk) (w:Int) (k:Int→Clk→Option R):F180 R p w k=k (if Ek p.1 w=true then 0 else 5) p:=by
 simp only [F180,p180]
 by_cases h1:w<0
 ·have e:Ek p.1 w=false:=decide_eq_false (by omega)
  simp only [decide_eq_true h1]; rw [e]; rfl
 ·simp only [decide_eq_false h1]
  by_cases h2:w≥(p.1.2.2.1.length:Int)
  ·have e:Ek p.1 w=false:=decide_eq_false (by omega)
   simp only [decide_eq_true h2]; rw [e]; rfl
  ·have e:Ek p.1 w=true:=decide_eq_true (by omega)
   simp only [decide_eq_false h2]; rw [e]; rfl
theorem P54 (R:Type) (h:LOK c n l) (hn:n≤150) {o:OpT} (ho:OpOK o) (k:Led→An→Option R):
  F129 R (l,okS 0,()) o (endC l k)=k (if Ek l o.2.1=true then Kn l (Dd l.2.2.2.1 (phS l.1 l.2.1) o.2.1 o.2.2.2.1) else (l,badS 5)).1 (if Ek l o.2.1=true then Kn l (Dd l.2.2.2.1 (phS l.1 l.2.1) o.2.1 o.2.2.2.1) else (l,badS 5)).2:=by
 have hl:=h.blen;simp only [F129,p129,D0,Xu,zbl];cases Ek l o.2.1 with
 | false=>
  simp only [Bool.false_eq_true,if_false];exact Cl l k _ (by decide)
 | true=>
  simp only [if_true,show ((0:Int) !=0)=false from rfl,zph,F131_eq R h.bea (show l.2.2.2.1.2.2.2.1.length≤400 by omega) _ ho.who ho.hash];exact zc7 l k _
theorem P57 (R:Type) (h:LOK c n l) (hn:n≤150) {o:OpT} (ho:OpOK o) (k:Led→An→Option R):
  F132 R (l,okS 0,()) o (endC l k)=k (if Ek l o.2.1=true then Kn l (Dc l.2.2.2.1 (phS l.1 l.2.1) o.2.1 o.2.2.2.1) else (l,badS 5)).1 (if Ek l o.2.1=true then Kn l (Dc l.2.2.2.1 (phS l.1 l.2.1) o.2.1 o.2.2.2.1) else (l,badS 5)).2:=by
 have hl:=h.blen;simp only [F132,p132,Dz,Xt,zbl];cases Ek l o.2.1 with
 | false=>
  simp only [Bool.false_eq_true,if_false];exact Cl l k _ (by decide)
 | true=>
  simp only [if_true,show ((0:Int) !=0)=false from rfl,zph,F133_eq R h.bea (show l.2.2.2.1.2.2.2.1.length≤400 by omega) _ _ ho.hash];exact zc7 l k _
theorem zw1 (h:LOK c n l) (a:List Int):(schL a l.1.1 l.1.2.2.2.1 (Am (actS l.2.2.1))).2=0∧(schL a l.1.1 l.1.2.2.2.1 (Am (actS l.2.2.1))).1=schP a l.1.2.2.2.1 (Am (actS l.2.2.1)) l.1.1.toNat:=by
 have hc:=B9 h.right;have hm:mayS l.1.2.2.2.1 (l.1.1 - 1)=true:=by
  rw [h.cfg]; unfold mayS; simp; omega
 have ht:totS (Am (actS l.2.2.1))<9223372036854775808:=by rw [Ov]; exact h.next
 unfold schL;rw [if_neg (by rw [h.cfg]; omega),if_pos hm,if_pos ht];exact ⟨rfl,rfl⟩
theorem zim (l:List Cm):(G7 l).length≤l.length:=by
 unfold G7;simp only [List.length_map];exact List.length_filter_le _ _
theorem ze9 (b:Bea):(bEnd b).2.2.1.length≤b.2.2.2.1.length:=by
 unfold bEnd;split
 ·simp
 ·split
  ·simp
  ·exact zim _
theorem P59 (R:Type) (h:LOK c n l) (hn:n≤150) {o:OpT} (k:Led→An→Option R):
  F134 R (l,okS 0,()) o (endC l k)=k (advS l).1 (advS l).2:=by
 have hl:=h.blen;have hv:=h.vlen;have hx:=N6 h;have hc:=B9 h.right;obtain ⟨hs,hf⟩:=zk5 h.bea;simp only [F134,p134,F186_eq];rw [Aj (n:=Py l.1 l.2.1) (by omega) (by omega)];unfold advS;cases zu4 l.1 l.2.1 with
 | false=>
  simp only [Bool.false_eq_true,if_false];exact Cr l k _ rfl
 | true=>
  simp only [if_true,F187,p187,F237_eq R h.bea (show l.2.2.2.1.2.2.2.1.length≤400 by omega)]
  by_cases he:(bEnd l.2.2.2.1).2.2.2=0
  ·simp only [zc9 he,if_pos he,F238_eq R (show l.2.2.1.length≤1000 by omega)]
   have hm:=ze9 l.2.2.2.1;have hcl:decide (([]:List Int).length+(bEnd l.2.2.2.1).2.2.1.length≤17592186044416)=true:=by simp; omega
   simp only [F239,hcl];rw [Ps R (by rw [J3]; omega),F240_eq R hs (by rw [h.cfg]; omega) _ (Dk (zlc h.vals)) (by rw [Cw,J3]; omega)];exact Cr l k _ (zw1 h _).1
  ·simp only [zk1 he,if_neg he]
   exact Cl l k _ he
theorem askS_7 (l:Led) {o:OpT} (hk:o.1=7):askS l o=if o.2.2.2.2.1≥l.1.1 then badS 3 else
  (if posS (Am l.2.2.1)=0 then badS 10 else
   if (leaS l.2.2.2.1.2.1 o.2.2.2.2.1 l.1.2.2.2.1 (Am l.2.2.1)).2=0 then ((0:Int),(0:Int),[(leaS l.2.2.2.1.2.1 o.2.2.2.2.1 l.1.2.2.2.1 (Am l.2.2.1)).1],(List.replicate 32 (0:Int)),())
   else badS (leaS l.2.2.2.1.2.1 o.2.2.2.2.1 l.1.2.2.2.1 (Am l.2.2.1)).2):=by
 unfold askS; rw [hk]; rfl
theorem askS_8 (l:Led) {o:OpT} (hk:o.1=8):askS l o=if o.2.2.2.2.1≥l.1.1 then badS 3 else
  (if (aliS l.2.2.2.1.2.1 o.2.2.2.2.1 l.1.2.2.2.1 (Am l.2.2.1)).2=0 then ((0:Int),(0:Int),[(aliS l.2.2.2.1.2.1 o.2.2.2.2.1 l.1.2.2.2.1 (Am l.2.2.1)).1],(List.replicate 32 (0:Int)),())
   else badS (aliS l.2.2.2.1.2.1 o.2.2.2.2.1 l.1.2.2.2.1 (Am l.2.2.1)).2):=by
 unfold askS; rw [hk]; rfl
theorem askS_9 (l:Led) {o:OpT} (hk:o.1=9):askS l o=if o.2.2.2.2.1≥l.1.1 then badS 3 else
  (if (sitS l.2.2.2.1.2.1 o.2.2.2.2.1 o.2.1 l.1.2.2.2.1 (Am l.2.2.1)).2=0 then ((0:Int),(0:Int),(sitS l.2.2.2.1.2.1 o.2.2.2.2.1 o.2.1 l.1.2.2.2.1 (Am l.2.2.1)).1,(List.replicate 32 (0:Int)),())
   else badS (sitS l.2.2.2.1.2.1 o.2.2.2.2.1 o.2.1 l.1.2.2.2.1 (Am l.2.2.1)).2):=by
 unfold askS; rw [hk]; rfl
theorem zbk (R:Type) (p:Clk) (w:Int) (hw:0≤w) (k:Int→Clk→Option R):F188 R p w k=k (if w≥p.1.1.1 then 3 else 0) p:=by
 simp only [F188,p188,decide_eq_false (show ¬w<0 by omega)]
 by_cases h2:w≥p.1.1.1
 ·simp only [decide_eq_true h2,if_pos h2]
 ·simp only [decide_eq_false h2,if_neg h2]
theorem P60 (R:Type) (h:LOK c n l) (hn:n≤150) {o:OpT} (hr:El o=true) (hk:o.1=7) (k:Led→An→Option R):
  F135 R (l,okS 0,()) o (endC l k)=k l (askS l o):=by
 have hv:=h.vlen;have hA:=Dk h.vals;have hL:(Am l.2.2.1).length≤200:=by rw [Cw]; omega
 obtain ⟨hn0,_,_,_⟩:=Rp hr;have hc:=B9 h.right;simp only [F135,p135,zbk R _ _ hn0];rw [askS_7 l hk]
 by_cases h1:o.2.2.2.2.1≥l.1.1
 ·simp only [if_pos h1,show ((3:Int) !=0)=true from rfl]
  exact Cl l k _ (show ¬(3:Int)=0 by decide)
 ·simp only [if_neg h1,show ((0:Int) !=0)=false from rfl,Ps R (show l.2.2.1.length≤1000 by omega),zdz R (show (Am l.2.2.1).length≤1000000 by omega)]
  by_cases h2:posS (Am l.2.2.1)=0
  ·rw [if_pos h2,h2]
   exact Cl l k _ (by decide)
  ·rw [if_neg h2]
   simp only [Ca h2];obtain ⟨i,hi⟩:∃i:Nat,o.2.2.2.2.1=i:=⟨o.2.2.2.2.1.toNat,by omega⟩
   rw [hi] at h1 ⊢;have hll:=h.llen;have hcf:=h.cfg;have hil:i<l.2.2.2.2.1.length:=by rw [hcf] at h1; omega
   have hld:=h.lead i (by rw [hcf] at h1; omega) h2;simp only [A4 hil,Int.toNat_natCast,hld];have hm:mayS l.1.2.2.2.1 (i:Int)=true:=by
    rw [hcf] at h1 ⊢; unfold mayS; simp; omega
   have hE:=zud h.bea.seed (slot:=(i:Int)) (m:=l.1.2.2.2.1) hA hm h.stake ((Rs hA).1 h2);rw [hcf] at hE ⊢;unfold schV;rcases hE with ⟨e1,e2⟩ | e1
   ·rw [if_pos e1,if_pos e1]
    have e3:((leaS l.2.2.2.1.2.1 (i:Int) c.2.2.2.1 (Am l.2.2.1)).1== -1)=false:=Ca (by omega);simp only [e3];exact Cr l k _ rfl
   ·have e0:¬(leaS l.2.2.2.1.2.1 (i:Int) c.2.2.2.1 (Am l.2.2.1)).2=0:=by rw [e1]; decide
    rw [if_neg e0,if_neg e0];simp only [show ((-1:Int)== -1)=true from rfl];rw [e1];exact Cl l k _ (by decide)
theorem P61 (R:Type) (h:LOK c n l) (hn:n≤150) {o:OpT} (hr:El o=true) (hk:o.1=8) (k:Led→An→Option R):
  F136 R (l,okS 0,()) o (endC l k)=k l (askS l o):=by
 have hv:=h.vlen;have hA:=Dk h.vals;have hL:(Am l.2.2.1).length≤200:=by rw [Cw]; omega
 obtain ⟨hn0,_,_,_⟩:=Rp hr;simp only [F136,p136,zbk R _ _ hn0];rw [askS_8 l hk]
 by_cases h1:o.2.2.2.2.1≥l.1.1
 ·simp only [if_pos h1,show ((3:Int) !=0)=true from rfl]
  exact Cl l k _ (show ¬(3:Int)=0 by decide)
 ·simp only [if_neg h1,show ((0:Int) !=0)=false from rfl,Ps R (show l.2.2.1.length≤1000 by omega),F191_eq R h.bea.seed _ _ hA hL]
  by_cases h2:(aliS l.2.2.2.1.2.1 o.2.2.2.2.1 l.1.2.2.2.1 (Am l.2.2.1)).2=0
  ·rw [if_pos h2,Cr l k _ h2]; rfl
  ·rw [if_neg h2,Cl l k _ h2]
theorem P62 (R:Type) (h:LOK c n l) (hn:n≤150) {o:OpT} (hr:El o=true) (hk:o.1=9) (k:Led→An→Option R):
  F137 R (l,okS 0,()) o (endC l k)=k l (askS l o):=by
 have hv:=h.vlen;have hA:=Dk h.vals;have hL:(Am l.2.2.1).length≤200:=by rw [Cw]; omega
 obtain ⟨hn0,_,_,_⟩:=Rp hr;simp only [F137,p137,zbk R _ _ hn0];rw [askS_9 l hk]
 by_cases h1:o.2.2.2.2.1≥l.1.1
 ·simp only [if_pos h1,show ((3:Int) !=0)=true from rfl]
  exact Cl l k _ (show ¬(3:Int)=0 by decide)
 ·simp only [if_neg h1,show ((0:Int) !=0)=false from rfl,Ps R (show l.2.2.1.length≤1000 by omega),F192_eq R h.bea.seed _ _ _ hA hL]
  by_cases h2:(sitS l.2.2.2.1.2.1 o.2.2.2.2.1 o.2.1 l.1.2.2.2.1 (Am l.2.2.1)).2=0
  ·rw [if_pos h2,Cr l k _ h2]; rfl
  ·rw [if_neg h2,Cl l k _ h2]
theorem P63 (R:Type) {o:OpT} (hk:o.1=10) (k:Led→An→Option R):
  F138 R (l,okS 0,()) o (endC l k)=k l (askS l o):=by
 simp only [F138,p138,zbl];unfold askS;rw [hk,if_pos rfl];cases ht:Ek l o.2.1 with
 | false=>
  simp only [Bool.false_eq_true,if_false];exact Cl l k _ (by decide)
 | true=>
  have ht':=of_decide_eq_true ht;obtain ⟨i,hi⟩:∃i:Nat,o.2.1=i:=⟨o.2.1.toNat,by omega⟩
  have hb:bnd o.2.1 (l.2.2.1.length:Int)=true:=by rw [hi]; exact A4 (by omega)
  simp only [if_true,show ((0:Int) !=0)=false from rfl,hb]
  by_cases k2:o.2.2.2.2.1=0
  ·simp only [k2,if_true,show ((0:Int)==0)=true from rfl]
   exact Cr l k _ rfl
  ·simp only [Ca k2,if_neg k2]
   exact Cr l k _ rfl
theorem P64 (R:Type) {o:OpT} (hk:o.1=11) (k:Led→An→Option R):
  F139 R (l,okS 0,()) o (endC l k)=k l (askS l o):=by
 simp only [F139,p139];unfold askS;rw [hk,if_neg (by decide),if_pos rfl];exact Cr l k _ rfl
theorem zzc (R:Type) (h:LOK c n l) (hn:n≤150) {o:OpT} (ho:OpOK o) (k:Led→An→Option R):F62 R l o k=k (doS l o).1 (doS l o).2:=by
 have hf:El o=false→k l (badS 2)=k (doS l o).1 (doS l o).2:=fun hr=>by unfold doS; rw [hr]; rfl
 have hd:El o=true→o.1≠0→doS l o=if o.1=1 then D8 l (depS l.2.2.1 o.2.2.2.1 o.2.2.1 l.1.2.2.2.2.1)
  else if o.1=2 then D8 l (wdS l.2.2.1 o.2.1 o.2.2.1)
  else if o.1=3 then D8 l (slS l.2.2.1 o.2.1 o.2.2.1)
  else if o.1=4 then (if Ek l o.2.1=true then Kn l (Dd l.2.2.2.1 (phS l.1 l.2.1) o.2.1 o.2.2.2.1) else (l,badS 5))
  else if o.1=5 then (if Ek l o.2.1=true then Kn l (Dc l.2.2.2.1 (phS l.1 l.2.1) o.2.1 o.2.2.2.1) else (l,badS 5))
  else if o.1=6 then advS l
  else (l,askS l o):=fun hr h0=>by unfold doS; rw [if_pos ⟨hr,h0⟩]
 rcases kinds o.1 with q | q | q | q | q | q | q | q | q | q | q | q
 ·rw [F62_1 R l q]; exact B2 l ho k _ _ hf fun hr=>by rw [P51 R h hn ho,hd hr (by omega)]; simp [q]
 ·rw [F62_2 R l q]; exact B2 l ho k _ _ hf fun hr=>by rw [P52 R h hn ho,hd hr (by omega)]; simp [q]
 ·rw [F62_3 R l q]; exact B2 l ho k _ _ hf fun hr=>by rw [P53 R h hn ho,hd hr (by omega)]; simp [q]
 ·rw [F62_4 R l q]; exact B2 l ho k _ _ hf fun hr=>by rw [P54 R h hn ho,hd hr (by omega)]; simp [q]
 ·rw [F62_5 R l q]; exact B2 l ho k _ _ hf fun hr=>by rw [P57 R h hn ho,hd hr (by omega)]; simp [q]
 ·rw [F62_6 R l q]; exact B2 l ho k _ _ hf fun hr=>by rw [P59 R h hn,hd hr (by omega)]; simp [q]
 ·rw [F62_7 R l q]; exact B2 l ho k _ _ hf fun hr=>by rw [P60 R h hn hr q,hd hr (by omega)]; simp [q]
 ·rw [F62_8 R l q]; exact B2 l ho k _ _ hf fun hr=>by rw [P61 R h hn hr q,hd hr (by omega)]; simp [q]
 ·rw [F62_9 R l q]; exact B2 l ho k _ _ hf fun hr=>by rw [P62 R h hn hr q,hd hr (by omega)]; simp [q]
 ·rw [F62_10 R l q]; exact B2 l ho k _ _ hf fun hr=>by rw [P63 R q,hd hr (by omega)]; simp [q]
 ·rw [F62_11 R l q]; exact B2 l ho k _ _ hf fun hr=>by rw [P64 R q,hd hr (by omega)]; simp [q]
 ·rw [zwq R l q]
  have:¬(El o=true∧o.1≠0):=fun hh=>by have:=zeo hh.1 hh.2; omega
  unfold doS;rw [if_neg this]
end
theorem zb7:∀(l:List Int) (i:Nat) (x:Int),i<l.length→(l.set i x).sum=l.sum - l.getD i 0+x
 | [],i,_,h=>by simp at h
 | y::l,0,x,_=>by simp; omega
 | y::l,i+1,x,h=>by
  have:=zb7 l i x (by simpa using h);simp only [List.set_cons_succ,List.sum_cons,List.getD_cons_succ];omega
theorem zbz (l:List Int):totS l=l.sum:=by unfold totS sumS; rw [List.take_length]
theorem Is {l:List Va} {i:Nat} (hi:i<l.length) (x:Int):Am (Jg l i x)=Am l:=by
 unfold Am Jg;rw [List.map_set];apply List.ext_getElem
 ·simp
 ·intro j h1 h2
  rw [List.getElem_set];split
  ·rename_i e; subst e; rw [C9 hi]; simp
  ·rfl
theorem Kl {l:List Va} {i:Nat} (hi:i<l.length) (x:Int):totS (A0 (Jg l i x))=totS (A0 l) - (l.getD i zV).2.2.1+x:=by
 have e:A0 (Jg l i x)=(A0 l).set i x:=by unfold A0 Jg; rw [List.map_set]
 rw [e,zbz,zbz,zb7 _ _ _ (by rw [Es]; exact hi)];have:(A0 l).getD i 0=(l.getD i zV).2.2.1:=by rw [C9 hi]; simp [A0,hi]
 rw [this]
theorem W6 {l:List Va} (h:VsOK l) (i:Nat) {x:Int} (hx:U64 x):VsOK (Jg l i x):=fun v hv=>by
 rcases List.mem_or_eq_of_mem_set hv with h1 | h1
 ·exact h v h1
 ·rw [h1]; exact ⟨(h.get i).key,(h.get i).stake,hx⟩
theorem Rc (l:List Va) (i:Nat) (x:Int):(Jg l i x).length=l.length:=by simp [Jg]
section
variable {c:Cfg} {n:Nat} {l:Led}
theorem LOK.mono (h:LOK c n l):LOK c (n+1) l:=⟨h.cfg,h.right,h.slot,h.vals,by have:=h.vlen; omega,h.next,h.stake,h.bea,by have:=h.blen; omega,h.llen,h.lead,h.miss⟩
structure MOK (l:Led) (n:Nat) (v:List Va):Prop where
 vals:VsOK v
 vlen:v.length≤n+1
 next:totS (A0 v)<9223372036854775808
 stake:Am v=Am l.2.2.1∨Am v=Am l.2.2.1++[0]
theorem Rx (h:LOK c n l) (hn:n≤150) {r:List Va×Int×Int} (hr:r.2.2=0→MOK l n r.1):LOK c (n+1) (D8 l r).1:=by
 unfold D8;split
 ·rename_i h0
  have hm:=hr h0;have hA:=Dk h.vals;have hv:=h.vlen;refine ⟨h.cfg,h.right,h.slot,hm.vals,hm.vlen,hm.next,?_,h.bea,by have:=h.blen; exact Nat.le_succ_of_le this,h.llen,fun i hi hp=>?_,h.miss⟩
  ·rcases hm.stake with e | e
   ·simp only [e]; exact h.stake
   ·simp only [e,Hd,Int.add_zero]; exact h.stake
  ·rcases hm.stake with e | e
   ·simp only [e] at hp ⊢; exact h.lead i hi hp
   ·simp only [e] at hp ⊢
    have hp':posS (Am l.2.2.1)≠0:=by
     rw [Rs hA];have hA2:AllU64 (Am l.2.2.1++[0]):=by rw [←e]; exact Dk hm.vals
     have:=(Rs hA2).1 hp
     rwa [Hd,Int.add_zero] at this
    rw [h.lead i hi hp'];unfold schV;rw [zue hA (by rw [Cw]; omega)]
 ·exact h.mono
theorem dep_ok (h:LOK c n l) (hn:n≤150) {o:OpT} (ho:OpOK o) (most:Int) (h0:(depS l.2.2.1 o.2.2.2.1 o.2.2.1 most).2.2=0):MOK l n (depS l.2.2.1 o.2.2.2.1 o.2.2.1 most).1:=by
 have hv:=h.vlen;have ha:=ho.amount;unfold U64 at ha;unfold depS at h0 ⊢;split
 ·rename_i hc
  rw [if_pos hc] at h0;cases hq:fstK l.2.2.1 o.2.2.2.1 with
  | none=>
   rw [hq] at h0;simp only [] at h0 ⊢;split
   ·rename_i h1; rw [if_pos h1] at h0; cases h0
   ·rename_i h1
    rw [if_neg h1] at h0;split
    ·rename_i h2
     refine ⟨fun v hvm=>?_,by simp; omega,?_,.inr ?_⟩
     ·rcases List.mem_append.1 hvm with h3 | h3
      ·exact h.vals v h3
      ·rw [List.mem_singleton.1 h3]; exact ⟨ho.hash,Ii,ho.amount⟩
     ·have:A0 (l.2.2.1++[(o.2.2.2.1,0,o.2.2.1,())])=A0 l.2.2.1++[o.2.2.1]:=by simp [A0]
      simp only [this,Hd];exact h2
     ·simp [Am]
    ·rename_i h2; rw [if_neg h2] at h0; cases h0
  | some i=>
   rw [hq] at h0;obtain ⟨hi,_⟩:=Zb hq;have hx:=(h.vals.get i).next;have hnx:=zii h.vals hi;unfold U64 at hx;simp only [] at h0 ⊢;split
   ·rename_i h2
    refine ⟨W6 h.vals i (by unfold U64; omega),by rw [Rc]; omega,?_,.inl (Is hi _)⟩;rw [Kl hi];omega
   ·rename_i h2; rw [if_neg h2] at h0; cases h0
 ·rename_i hc; rw [if_neg hc] at h0; cases h0
theorem wd_ok (h:LOK c n l) (w a:Int) (ha:U64 a) (h0:(wdS l.2.2.1 w a).2.2=0):MOK l n (wdS l.2.2.1 w a).1:=by
 have hv:=h.vlen;have ht:=h.next;unfold U64 at ha;unfold wdS at h0 ⊢;split
 ·rename_i hc
  rw [if_pos hc] at h0;split
  ·rename_i h1
   rw [if_pos h1] at h0;have hi:w.toNat<l.2.2.1.length:=by omega
   have hx:=(h.vals.get w.toNat).next;unfold U64 at hx;split
   ·rename_i h2
    refine ⟨W6 h.vals _ (by unfold U64; omega),by rw [Rc]; omega,?_,.inl (Is hi _)⟩;rw [Kl hi];omega
   ·rename_i h2; rw [if_neg h2] at h0; cases h0
  ·rename_i h1; rw [if_neg h1] at h0; cases h0
 ·rename_i hc; rw [if_neg hc] at h0; cases h0
theorem sl_ok (h:LOK c n l) (w a:Int) (ha:U64 a) (h0:(slS l.2.2.1 w a).2.2=0):MOK l n (slS l.2.2.1 w a).1:=by
 have hv:=h.vlen;have ht:=h.next;unfold U64 at ha;unfold slS at h0 ⊢;split
 ·rename_i hc
  rw [if_pos hc] at h0;split
  ·rename_i h1
   rw [if_pos h1] at h0;have hi:w.toNat<l.2.2.1.length:=by omega
   have hx:=(h.vals.get w.toNat).next;unfold U64 at hx;refine ⟨W6 h.vals _ (by unfold U64; omega),by rw [Rc]; omega,?_,.inl (Is hi _)⟩;rw [Kl hi];omega
  ·rename_i h1; rw [if_neg h1] at h0; cases h0
 ·rename_i hc; rw [if_neg hc] at h0; cases h0
theorem Vk {b:Bea} {ph w:Int} {x:List Int} (h0:(Dd b ph w x).2=0):(Dd b ph w x).1.1=b.1∧(Dd b ph w x).1.2.1=b.2.1:=by
 unfold Dd at h0 ⊢;split
 ·rename_i h1; rw [if_pos h1] at h0; cases h0
 ·rename_i h1
  rw [if_neg h1] at h0;split
  ·rename_i h2
   rw [if_pos h2] at h0;unfold Pv at h0 ⊢;split
   ·exact ⟨rfl,rfl⟩
   ·rename_i h3; rw [if_neg h3] at h0; exact absurd h0 h3
  ·rename_i h2; rw [if_neg h2] at h0; cases h0
theorem Vj {b:Bea} {ph w:Int} {x:List Int} (h0:(Dc b ph w x).2=0):(Dc b ph w x).1.1=b.1∧(Dc b ph w x).1.2.1=b.2.1:=by
 unfold Dc at h0 ⊢;split
 ·rename_i h1; rw [if_pos h1] at h0; cases h0
 ·rename_i h1
  rw [if_neg h1] at h0;split
  ·rename_i h2
   rw [if_pos h2] at h0;unfold Pv at h0 ⊢;split
   ·exact ⟨rfl,rfl⟩
   ·rename_i h3; rw [if_neg h3] at h0; exact absurd h0 h3
  ·rename_i h2; rw [if_neg h2] at h0; cases h0
theorem zgm (h:LOK c n l) {r:Bea×Int} (hr:Gf r.1∧r.1.2.2.2.1.length≤l.2.2.2.1.2.2.2.1.length+1) (hs:r.2=0→r.1.1=l.2.2.2.1.1∧r.1.2.1=l.2.2.2.1.2.1):LOK c (n+1) (Kn l r).1:=by
 have hb:=h.blen;have hv:=h.vlen;unfold Kn;split
 ·rename_i h0
  have:=(hs h0).2;exact ⟨h.cfg,h.right,h.slot,h.vals,by simp only []; omega,h.next,h.stake,hr.1,by have:=hr.2; simp only []; omega,h.llen,fun i hi hp=>by simp only [this]; exact h.lead i hi hp,h.miss⟩
 ·exact h.mono
theorem zsc (a:List Int) (m:Int) (l:List Int) {n i:Nat} (h:i<n):(schP a m l n).getD i 0=schV a m l i:=by
 unfold schP;simp [h]
theorem adv_ok (h:LOK c n l) (hn:n≤150):LOK c (n+1) (advS l).1:=by
 have hb:=h.blen;have hv:=h.vlen;have hx:=N6 h;have hc:=B9 h.right;unfold advS;split
 ·split
  ·obtain ⟨b1,b2⟩:=bEnd_ok h.bea
   have hm:=zk6 l.2.2.2.1;rw [(zw1 h _).2];refine ⟨h.cfg,h.right,⟨hx.1,hx.2.1⟩,zlc h.vals,by simp only [J3]; omega,by simp only [zfe]; exact h.next,by simp only [Ov]; exact h.next,b1,by simp only [b2]; omega,?_,fun i hi _=>?_,by simp only []; omega⟩
   ·simp only [H2,h.cfg]; omega
   ·simp only [h.cfg]
    exact zsc _ _ _ (by omega)
  ·exact h.mono
 ·exact ⟨h.cfg,h.right,⟨hx.1,hx.2.1⟩,h.vals,by simp only []; omega,h.next,h.stake,h.bea,by simp only []; omega,h.llen,h.lead,h.miss⟩
theorem do_ok (h:LOK c n l) (hn:n≤150) {o:OpT} (ho:OpOK o):LOK c (n+1) (doS l o).1:=by
 unfold doS;split
 ·split
  ·exact Rx h hn (dep_ok h hn ho _)
  ·split
   ·exact Rx h hn (wd_ok h _ _ ho.amount)
   ·split
    ·exact Rx h hn (sl_ok h _ _ ho.amount)
    ·split
     ·split
      ·exact zgm h (zfa h.bea _ ho.who ho.hash) Vk
      ·exact h.mono
     ·split
      ·split
       ·have:=ze8 h.bea (phS l.1 l.2.1) o.2.1 ho.hash
        exact zgm h ⟨this.1,by omega⟩ Vj
       ·exact h.mono
      ·split
       ·exact adv_ok h hn
       ·exact h.mono
 ·exact h.mono
end
theorem zw6 {l:List Int} {o:Nat} {d:List Int} (h:o+d.length≤l.length):lay l o d=l.take o++d++l.drop (o+d.length):=by
 simp [lay]
def repS (j n:Nat):List Int:=List.replicate j (-1)++List.replicate (n - j) 0
theorem zsh {j n:Nat} (h:j≤n):(repS j n).length=n:=by simp [repS]; omega
theorem Uf {j n i:Nat} (h:i≤j):(repS j n).take i=List.replicate i (-1):=by
 unfold repS;rw [List.take_append_of_le_length (by simpa using h),List.take_replicate,Nat.min_eq_left h]
theorem zgy {j n d:Nat} (h:j+d≤n):(repS j n).take j++List.replicate d (-1)++(repS j n).drop (j+d)=repS (j+d) n:=by
 rw [Uf (Nat.le_refl j)];unfold repS;rw [List.drop_append,List.drop_eq_nil_of_le (by simp),List.nil_append,List.length_replicate,List.drop_replicate,List.replicate_append_replicate,show n - j - (j+d - j)=n - (j+d) by omega]
theorem zx6 (R:Type) {n:Nat} (hn:n≤1024) (k0:List Int→Option R):∀(m j:Nat),1≤j→j≤n→n - j<m→Zx m R (j:Int) (repS j n) k0=k0 (List.replicate n (-1))
 | 0,j,_,_,h=>by omega
 | m+1,j,h0,h1,h2=>by
  simp only [Zx,p60_8];have hl:=zsh h1
  by_cases hj:j<n
  ·have hd:min j (n - j)≤n - j:=Nat.min_le_right _ _
   have hd1:1≤min j (n - j):=by omega
   have ih:=zx6 R hn k0 m (j+min j (n - j)) (by omega) (by omega) (by omega);have c1:decide ((j:Int)<((repS j n).length:Int))=true:=by rw [hl]; exact Df hj
   have c2:decide ((0:Int)≤(j:Int)∧(j:Int)≤((repS j n).length:Int)∧((repS j n).length:Int)≤((repS j n).length:Int)∧((repS j n).length:Int)≤((repS j n).length:Int))=true:=by rw [hl]; simp; omega
   have c3:decide ((0:Int)≤0∧(0:Int)≤(j:Int)∧(j:Int)≤(j:Int)∧(j:Int)≤((repS j n).length:Int))=true:=by rw [hl]; simp; omega
   simp only [c1,c2,c3];have t1:List.take (Int.toNat ((j:Int) - 0)) (List.drop 0 (repS j n))=List.replicate j (-1):=by
    rw [Int.sub_zero,Int.toNat_natCast,List.drop_zero,Uf (Nat.le_refl j)]
   have t2:Int.toNat (((repS j n).length:Int) - (j:Int))=n - j:=by rw [hl]; omega
   rw [t1,t2,List.take_replicate,List.length_replicate];have t3:lay (repS j n) (Int.toNat (j:Int)) (List.replicate (min (n - j) j) (-1))=repS (j+min j (n - j)) n:=by
    rw [Int.toNat_natCast,zw6 (by rw [List.length_replicate,hl]; omega),List.length_replicate,Nat.min_comm (n - j) j,zgy (by omega)]
   rw [t3,show IntKind.i64.wrap ((j:Int)+((min j (n - j):Nat):Int))=((j+min j (n - j):Nat):Int) by rw [wrap_i64 (by omega) (by omega)]; omega];exact ih
  ·have:j=n:=by omega
   subst this;have c1:decide ((j:Int)<((repS j j).length:Int))=false:=by rw [hl]; simp
   simp only [c1];unfold repS;rw [Nat.sub_self,List.replicate_zero,List.append_nil]
theorem F60_eq (R:Type) {n:Int} (h0:1≤n) (hn:n≤1024) (k:List Int→Option R):F60 R [-1] n k=k (List.replicate n.toNat (-1)):=by
 obtain ⟨j,rfl⟩:∃j:Nat,n=j:=⟨n.toNat,by omega⟩
 simp only [F60,p60,F87,p87];have e1:decide ((j:Int)<0)=false:=by simp
 have w1:IntKind.u64.wrap ((([-1]:List Int).length:Nat):Int)=1:=by decide
 have w2:IntKind.u64.wrap (j:Int)=(j:Int):=Aj (by omega) (by omega);simp only [e1,w1,w2];rw [zpl R (a:=1) (b:=(j:Int)) (by unfold U64; omega) (by unfold U64; omega)];rw [Int.one_mul,w2,show (j:Int)/18446744073709551616=0 by omega,wrap_i64 (n:=(j:Int)) (by omega) (by omega)];have e2:decide ((0:Int)>0)=false:=rfl;have e3:decide ((j:Int)>9223372036854775807)=false:=by simp; omega
 have e4:decide ((0:Int)≤(j:Int)∧(j:Int)≤(j:Int)∧(j:Int)≤17592186044416)=true:=by simp; omega
 simp only [e2,e3,e4,Int.toNat_natCast,List.length_replicate];have t1:lay (List.replicate j (0:Int)) 0 (List.take j [-1])=repS 1 j:=by
  rw [List.take_of_length_le (by simp; omega),zw6 (by simp; omega)];simp [repS,List.replicate_succ']
 have t2:((min ([-1]:List Int).length j:Nat):Int)=((1:Nat):Int):=by
  rw [show min ([-1]:List Int).length j=1 by simp; omega]
 rw [t1,t2];exact zx6 R (by omega) (fun x=>k x) FUEL 1 (by omega) (by omega) (by rw [Al]; omega)
abbrev zLed:Led:=(((0:Int),(0:Int),(0:Int),(0:Int),(0:Int),()),(0:Int),([]:List Va),((0:Int),(List.replicate 32 (0:Int)),(List.replicate 32 (0:Int)),([]:List Cm),()),([]:List Int),([]:List Int),())
def newS (c:Cfg) (a:List Int):Led:=(c,(0:Int),[],((0:Int),a,(List.replicate 32 (0:Int)),[],()),List.replicate c.1.toNat (-1),[],())
theorem Wz (R:Type) (c:Cfg) (a:List Int) (k:Led→Int→Option R):F31 R c a k=if cfgS c=true then k (newS c a) 0 else k zLed 1:=by
 simp only [F31,p31,zzd,F59,p59];cases hc:cfgS c with
 | false=>rfl
 | true=>
  have hr:=B9 hc;simp only [Bool.not_true,if_true];rw [F60_eq R hr.1 hr.2.1];rfl
theorem zyz (R:Type) {c:Cfg} (hc:cfgS c=true) (z:Led) (v:List Va) (ms:List Int) (b:Bea) (s:Int)
  (k0:Led→List Va→List Int→List Int→Tq52→Option R):∀(m i:Nat),(i:Int)≤c.1→c.1 - (i:Int)<m→
  Z9 m R (i:Int) c z v (List.replicate i (-1)) ms (c.1,c.2.1,c.2.2.1,c.2.2.2.1,c.2.2.2.2.1,s,b.1,b.2.1,b.2.2.1,b.2.2.2.1,()) k0=k0 z v (List.replicate c.1.toNat (-1)) ms (c.1,c.2.1,c.2.2.1,c.2.2.2.1,c.2.2.2.2.1,s,b.1,b.2.1,b.2.2.1,b.2.2.2.1,())
 | 0,i,_,h=>by omega
 | m+1,i,h1,h2=>by
  have hr:=B9 hc;simp only [Z9,p15_5]
  by_cases hi:(i:Int)<c.1
  ·have ih:=zyz R hc z v ms b s k0 m (i+1) (by omega) (by omega)
   have c1:decide ((List.replicate i (-1:Int)).length+([-1]:List Int).length≤17592186044416)=true:=by simp; omega
   have e:List.replicate i (-1:Int)++[-1]=List.replicate (i+1) (-1):=by rw [List.replicate_succ']
   have w:IntKind.i64.wrap ((i:Int)+1)=((i+1:Nat):Int):=by rw [wrap_i64 (by omega) (by omega)]; omega
   simp only [decide_eq_true hi,c1,e,w];exact ih
  ·have:i=c.1.toNat:=by omega
   subst this;simp only [decide_eq_false hi]
theorem F15_eq (R:Type) (c:Cfg) (a:List Int) (k:Led→Int→Option R):F15 R c a k=if cfgS c=true then k (newS c a) 0 else k zLed 1:=by
 simp only [F15,p15,F37_eq];cases hc:cfgS c with
 | false=>rfl
 | true=>
  have hr:=B9 hc;simp only [Bool.not_true,if_true];have h:=zyz R hc zLed [] [] ((0:Int),a,(List.replicate 32 (0:Int)),[],()) 0 (fun x2 x3 x4 x5 x6=>k ((x6.1,x6.2.1,x6.2.2.1,x6.2.2.2.1,x6.2.2.2.2.1,()),x6.2.2.2.2.2.1,x3,(x6.2.2.2.2.2.2.1,x6.2.2.2.2.2.2.2.1,x6.2.2.2.2.2.2.2.2.1,x6.2.2.2.2.2.2.2.2.2.1,()),x4,x5,()) 0) FUEL 0 (by omega) (by rw [Al]; omega);exact h
theorem zij {c:Cfg} (hc:cfgS c=true) {a:List Int} (ha:H32 a):LOK c 0 (newS c a):=by
 have hr:=B9 hc;refine ⟨rfl,hc,⟨by simp [newS],by simp only [newS]; omega⟩,fun v hv=>(by cases hv),by simp [newS],by simp [newS,A0,totS,sumS],by simp [newS,Am,totS,sumS],⟨by simp [newS],ha,A6,nilOK⟩,by simp [newS],by simp [newS]; omega,fun i _ hp=>?_,by simp [newS]⟩;exact absurd rfl hp
structure LW (l:Led):Prop where
 vals:VsOK l.2.2.1
 vlen:l.2.2.1.length≤1000
 bea:Gf l.2.2.2.1
 blen:l.2.2.2.1.2.2.2.1.length≤1000
 llen:l.2.2.2.2.1.length≤2000
 mlen:l.2.2.2.2.2.1.length≤2000
theorem LOK.lw {c:Cfg} {n:Nat} {l:Led} (h:LOK c n l) (hn:n≤150):LW l:=by
 have h1:=h.vlen; have h2:=h.blen; have h3:=h.llen; have h4:=B9 h.right; have h5:=h.miss;exact ⟨h.vals,by omega,h.bea,by omega,by omega,by omega⟩
theorem Rb:LW zLed:=⟨fun v hv=>(by cases hv),by simp,Tg,by simp,by simp,by simp⟩
def zsd (a b:Led):Bool:=Kd.eqv Kq21 a.1 b.1&&((a.2.1==b.2.1)&&(decide (a.2.2.1=b.2.2.1)&&(ze2 a.2.2.2.1 b.2.2.2.1&&(decide (a.2.2.2.2.1=b.2.2.2.2.1)&&decide (a.2.2.2.2.2.1=b.2.2.2.2.2.1)))))
theorem eqv_cfg (c:Cfg):Kd.eqv Kq21 c c=true:=by
 show ((c.1==c.1)&&((c.2.1==c.2.1)&&((c.2.2.1==c.2.2.1)&&((c.2.2.2.1==c.2.2.2.1)&&((c.2.2.2.2.1==c.2.2.2.2.1)&&true)))))=true;simp
theorem Ko (l:Led):zsd l l=true:=by
 unfold zsd;rw [eqv_cfg,ze1];simp
theorem zpk (R:Type) {a b:Led} (ha:LW a) (hb:LW b) (k:Bool→Option R):F13 R a b k=k (zsd a b):=by
 have h1:=ha.llen; have h2:=ha.mlen;simp only [F13,p13,F34_eq R ha.vals hb.vals ha.vlen,F35_eq R ha.bea hb.bea ha.blen,zzi R a.2.2.2.2.1 b.2.2.2.2.1 (by omega),zzi R a.2.2.2.2.2.1 b.2.2.2.2.2.1 (by omega)];unfold zsd;cases Kd.eqv Kq21 a.1 b.1<;>cases (a.2.1==b.2.1)<;>cases decide (a.2.2.1=b.2.2.1)<;>cases ze2 a.2.2.2.1 b.2.2.2.1<;>cases decide (a.2.2.2.2.1=b.2.2.2.2.1)<;>rfl
section
variable {c:Cfg} {n:Nat} {l:Led}
def Kp:Led→List OpT→Led×List An
 | l,[]=>(l,[])
 | l,o::r=>((Kp (doS l o).1 r).1,(doS l o).2::(Kp (doS l o).1 r).2)
theorem getD_op {ops:List OpT} {i:Nat} (hi:i<ops.length):ops.getD i zO=ops[i]:=by simp [hi]
theorem zyd (R:Type) {ops:List OpT} (ho:∀o∈ops,OpOK o) (x5:Led) (k0:Led→Led→List An→Option R):∀(m i:Nat) {n:Nat} (l:Led) (acc:List An),LOK c n l→n+(ops.length - i)≤150→acc.length+(ops.length - i)≤1000→i≤ops.length→ops.length≤1000→ops.length - i<m→
  Sw m R ops (ops.length:Int) (i:Int) l x5 acc k0=k0 (Kp l (ops.drop i)).1 x5 (acc++(Kp l (ops.drop i)).2)
 | 0,i,n,l,acc,_,_,_,_,_,h=>by omega
 | m+1,i,n,l,acc,h,hn,ha,h1,hL,h2=>by
  simp only [Sw,zsp]
  by_cases hi:i<ops.length
  ·have hoi:=ho _ (List.getElem_mem hi)
   have ih:=zyd R ho x5 k0 m (i+1) (n:=n+1) (doS l ops[i]).1 (acc++[(doS l ops[i]).2]) (do_ok h (by omega) hoi) (by omega) (by simp; omega) (by omega) hL (by omega);have c1:decide (acc.length+[(doS l ops[i]).2].length≤1954687338268)=true:=by simp; omega
   rw [List.drop_eq_getElem_cons hi];simp only [Df hi,A4 hi,Int.toNat_natCast,Cc hi hL,getD_op hi,zzc R h (show n≤150 by omega) hoi,c1];rw [ih];simp only [Kp,List.append_assoc,List.cons_append,List.nil_append]
  ·have:i=ops.length:=by omega
   subst this;simp only [Cx,List.drop_length,Kp,List.append_nil]
theorem F33_eq (R:Type) (h:LOK c n l) {ops:List OpT} (ho:∀o∈ops,OpOK o) (hn:n+ops.length≤150) (k:Led→List An→Option R):F33 R l ops k=k (Kp l ops).1 (Kp l ops).2:=by
 simp only [F33,p33];have:=zyd R ho zLed (fun x2 x3 x4=>k x2 x4) FUEL 0 l [] h (by omega) (by simp; omega) (by omega) (by omega) (by rw [Al]; omega);rw [List.drop_zero,List.nil_append] at this;exact this
end
def beN (l:List Int):Int:=l.foldl (fun a x=>a*256+x) 0
theorem be4 {l:List Int} (hl:l.length=4) (h:AllU8 l):U32 (beN l)∧B3 (beN l)=l:=by
 match l,hl with
 | [a,b,c,d],_=>
  have ha:=h a (by simp); have hb:=h b (by simp); have hc:=h c (by simp); have hd:=h d (by simp);unfold U8 at ha hb hc hd;have e:beN [a,b,c,d]=((a*256+b)*256+c)*256+d:=by simp [beN]
  rw [e];unfold U32 B3;refine ⟨by omega,?_⟩;simp only [List.cons.injEq,and_true];omega
theorem be8 {l:List Int} (hl:l.length=8) (h:AllU8 l):U64 (beN l)∧putS (beN l)=l:=by
 match l,hl with
 | [a,b,c,d,e,f,g,i],_=>
  have ha:=h a (by simp); have hb:=h b (by simp); have hc:=h c (by simp); have hd:=h d (by simp);have he:=h e (by simp); have hf:=h f (by simp); have hg:=h g (by simp); have hi:=h i (by simp);unfold U8 at ha hb hc hd he hf hg hi;have q:beN [a,b,c,d,e,f,g,i]=((((((a*256+b)*256+c)*256+d)*256+e)*256+f)*256+g)*256+i:=by simp [beN]
  rw [q];unfold U64 putS;refine ⟨by omega,?_⟩;simp only [List.cons.injEq,and_true];omega
theorem zww (R:Type) {l:List Int} (hl:l.length=8) (h:AllU8 l) (k:Int→Option R):F173 R l k=k (beN l):=by
 obtain ⟨q1,q2⟩:=be8 hl h;have:=zpi R q1 k
 rwa [q2] at this
theorem zdy (R:Type) {l:List Int} (hl:l.length=4) (h:AllU8 l) (k:Int→Option R):F220 R l k=k (beN l):=by
 obtain ⟨q1,q2⟩:=be4 hl h;have:=Te R q1 k
 rwa [q2] at this
theorem Qo {l:List Int} (h:AllU8 l) (n:Nat):AllU8 (l.take n):=fun x hx=>h x (List.mem_of_mem_take hx)
theorem K5 {l:List Int} (h:AllU8 l) (n:Nat):AllU8 (l.drop n):=fun x hx=>h x (List.mem_of_mem_drop hx)
def takeF (b:List Int) (c:OpT):Fd→OpT
 | .H=>(c.1,c.2.1,c.2.2.1,b.take 32,c.2.2.2.2)
 | .A=>(c.1,c.2.1,beN (b.take 8),c.2.2.2)
 | .W=>(c.1,beN (b.take 4),c.2.2)
 | .N=>(c.1,c.2.1,c.2.2.1,c.2.2.2.1,beN (b.take 4),c.2.2.2.2.2)
def zjz:List Fd→List Int→OpT→OpT
 | [],_,c=>c
 | f::l,b,c=>zjz l (b.drop (Bg f)) (takeF b c f)
theorem zml (R:Type) {l:List Fd} (hl:l.length≤2) (x5:OpT) (k0:List Int→OpT→OpT→Option R):∀(m i:Nat) (b:List Int) (c:OpT),i≤l.length→l.length - i<m→AllU8 b→((l.drop i).map Bg).sum≤b.length→
  Hu m R b (l.map enc) (l.length:Int) (i:Int) x5 c k0=k0 (b.drop ((l.drop i).map Bg).sum) x5 (zjz (l.drop i) b c)
 | 0,i,b,c,_,hh,_,_=>by omega
 | m+1,i,b,c,h1,h2,hb8,hs=>by
  simp only [Hu,Uk]
  by_cases hi:i<l.length
  ·rw [List.drop_eq_getElem_cons hi] at hs ⊢
   simp only [List.map_cons,List.sum_cons] at hs ⊢;have ih:=fun c'=>zml R hl x5 k0 m (i+1) (b.drop (Bg l[i])) c' (by omega) (by omega) (K5 hb8 _) (by rw [List.length_drop]; omega)
   have hb:bnd (i:Int) ((l.map enc).length:Int)=true:=by rw [List.length_map]; exact A4 hi
   have c1:decide ((0:Int)≤0∧(0:Int)≤(Bg l[i]:Int)∧(Bg l[i]:Int)≤(Bg l[i]:Int)∧(Bg l[i]:Int)≤(b.length:Int))=true:=by simp; omega
   have c2:decide ((0:Int)≤(Bg l[i]:Int)∧(Bg l[i]:Int)≤(b.length:Int)∧(b.length:Int)≤(b.length:Int)∧(b.length:Int)≤(b.length:Int))=true:=by simp; omega
   have t1:List.take (Int.toNat ((Bg l[i]:Int) - 0)) (List.drop 0 b)=b.take (Bg l[i]):=by rw [Int.sub_zero,Int.toNat_natCast,List.drop_zero]
   have t2:List.take (Int.toNat ((b.length:Int) - (Bg l[i]:Int))) (List.drop (Bg l[i]) b)=b.drop (Bg l[i]):=by
    rw [List.take_of_length_le];rw [List.length_drop];omega
   have tl:(b.take (Bg l[i])).length=Bg l[i]:=by rw [List.length_take]; omega
   simp only [Df hi,hb,Int.toNat_natCast,Cc hi (show l.length≤1000 by omega),Nj hi,Sb,c1,c2];rw [t1,t2,zjz,←List.drop_drop];generalize hf:l[i]=f at*;have hu:=Qo hb8 (Bg f);cases f with
   | H=>
    have e1:FnV.same (enc .H).2.2.1 (FnV.fn 170)=true:=rfl;have e3:decide ((32:Int)≤((b.take (Bg .H)).length:Int))=true:=by rw [tl]; rfl
    have e4:List.take 32 (b.take (Bg .H))=b.take 32:=by rw [List.take_take]; rfl
    simp only [e1,e3,e4];exact ih _
   | A=>
    have e1:FnV.same (enc .A).2.2.1 (FnV.fn 170)=false:=rfl;have e2:FnV.same (enc .A).2.2.1 (FnV.fn 172)=true:=rfl;have e3:decide ((8:Int)≤((b.take (Bg .A)).length:Int))=true:=by rw [tl]; rfl
    have e4:List.take 8 (b.take (Bg .A))=b.take 8:=by rw [List.take_take]; rfl
    obtain ⟨q1,q2⟩:=be8 (l:=b.take 8) tl hu;simp only [e1,e2,e3,e4];rw [zww R (l:=b.take 8) tl hu];exact ih _
   | W=>
    have e1:FnV.same (enc .W).2.2.1 (FnV.fn 170)=false:=rfl;have e2:FnV.same (enc .W).2.2.1 (FnV.fn 172)=false:=rfl;have e2':FnV.same (enc .W).2.2.1 (FnV.clo 219 (FnV.fn 175))=true:=rfl;have e3:decide ((4:Int)≤((b.take (Bg .W)).length:Int))=true:=by rw [tl]; rfl
    have e4:List.take 4 (b.take (Bg .W))=b.take 4:=by rw [List.take_take]; rfl
    obtain ⟨q1,q2⟩:=be4 (l:=b.take 4) tl hu;have w1:IntKind.i64.wrap (beN (b.take 4))=beN (b.take 4):=by unfold U32 at q1; exact wrap_i64 (by omega) (by omega)
    simp only [e1,e2,e2',e3,e4];rw [zdy R (l:=b.take 4) tl hu];simp only [w1];exact ih _
   | N=>
    have e1:FnV.same (enc .N).2.2.1 (FnV.fn 170)=false:=rfl;have e2:FnV.same (enc .N).2.2.1 (FnV.fn 172)=false:=rfl;have e2':FnV.same (enc .N).2.2.1 (FnV.clo 219 (FnV.fn 175))=false:=rfl;have e2'':FnV.same (enc .N).2.2.1 (FnV.clo 219 (FnV.fn 176))=true:=rfl;have e3:decide ((4:Int)≤((b.take (Bg .N)).length:Int))=true:=by rw [tl]; rfl
    have e4:List.take 4 (b.take (Bg .N))=b.take 4:=by rw [List.take_take]; rfl
    obtain ⟨q1,q2⟩:=be4 (l:=b.take 4) tl hu;have w1:IntKind.i64.wrap (beN (b.take 4))=beN (b.take 4):=by unfold U32 at q1; exact wrap_i64 (by omega) (by omega)
    simp only [e1,e2,e2',e2'',e3,e4];rw [zdy R (l:=b.take 4) tl hu];simp only [w1];exact ih _
  ·have:i=l.length:=by omega
   subst this;simp only [Cx,List.drop_length];rfl
def opB (x:Int):OpT:=((0:Int),(0:Int),(0:Int),(List.replicate 32 (0:Int)),x,())
def opK (x:Int):OpT:=(x,(0:Int),(0:Int),(List.replicate 32 (0:Int)),(0:Int),())
def oneS (x:Int) (b:List Int):OpT×List Int:=
 if (fsOf x).2=true then (if ((fsOf x).1.map Bg).sum≤b.length then (zjz (fsOf x).1 b (opK x),b.drop ((fsOf x).1.map Bg).sum) else (opB x,[])) else (opB x,b)
theorem F61_any (R:Type) {x:Int} {b:List Int} (h:AllU8 (x::b)) (k:OpT→List Int→Option R):F61 R (x::b) k=k (oneS x b).1 (oneS x b).2:=by
 have hx:=h x (by simp);have hb8:AllU8 b:=fun y hy=>h y (by simp [hy])
 unfold U8 at hx;simp only [F61,p61];have hwr:IntKind.i64.wrap x=x:=wrap_i64 (by omega) (by omega);have hb:bnd 0 (((x::b).length:Nat):Int)=true:=by unfold bnd; simp<;>omega
 have hc:decide ((0:Int)≤1∧(1:Int)≤((x::b).length:Int)∧((x::b).length:Int)≤((x::b).length:Int)∧((x::b).length:Int)≤((x::b).length:Int))=true:=by simp<;>omega
 simp only [hb,List.getD_cons_zero,hwr,Wy,Wx R x (by omega),hc,drop1,List.length_map];unfold oneS;cases hv:(fsOf x).2 with
 | false=>simp only [Bool.not_false,Bool.false_eq_true,if_false]; rfl
 | true=>
  simp only [Bool.not_true,if_true]
  by_cases hs:((fsOf x).1.map Bg).sum≤b.length
  ·rw [if_pos hs]
   have hd:decide (szF (fsOf x).1≤((x::b).length:Int))=true:=by unfold szF; simp; omega
   simp only [hd,Bool.not_true];have:=zml R (Fi x) ((0:Int),(0:Int),(0:Int),(List.replicate 32 (0:Int)),(0:Int),()) (fun x9 x10 x11=>k x11 x9) FUEL 0 b (opK x) (by omega) (by rw [Al]; have:=Fi x; omega) hb8 (by rw [List.drop_zero]; exact hs);rw [List.drop_zero] at this;exact this
  ·rw [if_neg hs]
   have hd:decide (szF (fsOf x).1≤((x::b).length:Int))=false:=by unfold szF; simp; omega
   simp only [hd,Bool.not_false];rfl
theorem Ru (x:Int) (b:List Int):(oneS x b).2.length≤b.length:=by
 unfold oneS;split
 ·split
  ·rw [List.length_drop]; omega
  ·simp
 ·exact Nat.le_refl _
theorem zib {x:Int} {b:List Int} (h:AllU8 b):AllU8 (oneS x b).2:=by
 unfold oneS;split
 ·split
  ·exact K5 h _
  ·intro y hy; cases hy
 ·exact h
theorem zcy:∀(l:List Fd) (b:List Int) (c:OpT),AllU8 b→(l.map Bg).sum≤b.length→OpOK c→OpOK (zjz l b c)
 | [],_,_,_,_,h=>h
 | f::l,b,c,hb,hs,h=>by
  simp only [List.map_cons,List.sum_cons] at hs;refine zcy l _ _ (K5 hb _) (by rw [List.length_drop]; omega) ?_;have hu:=Qo hb (Bg f);have tl:(b.take (Bg f)).length=Bg f:=by rw [List.length_take]; omega
  cases f with
  | H=>exact ⟨h.kind,h.who,h.amount,⟨tl,hu⟩,h.n⟩
  | A=>exact ⟨h.kind,h.who,(be8 (l:=b.take 8) tl hu).1,h.hash,h.n⟩
  | W=>exact ⟨h.kind,by have:=(be4 (l:=b.take 4) tl hu).1; unfold U32 at this; unfold I64; simp only [takeF]; omega,h.amount,h.hash,h.n⟩
  | N=>exact ⟨h.kind,h.who,h.amount,h.hash,by have:=(be4 (l:=b.take 4) tl hu).1; unfold U32 at this; unfold I64; simp only [takeF]; omega⟩
theorem zia {x:Int} (hx:U8 x):OpOK (opB x):=by
 unfold U8 at hx;exact ⟨by unfold I64; simp only [opB]; omega,by unfold I64; simp only [opB]; omega,by unfold U64; simp only [opB]; omega,A6,by unfold I64; simp only [opB]; omega⟩
theorem opK_ok {x:Int} (hx:U8 x):OpOK (opK x):=by
 unfold U8 at hx;exact ⟨by unfold I64; simp only [opK]; omega,by unfold I64; simp only [opK]; omega,by unfold U64; simp only [opK]; omega,A6,by unfold I64; simp only [opK]; omega⟩
theorem oneS_ok {x:Int} {b:List Int} (hx:U8 x) (h:AllU8 b):OpOK (oneS x b).1:=by
 unfold oneS;split
 ·split
  ·rename_i hs; exact zcy _ _ _ h hs (opK_ok hx)
  ·exact zia hx
 ·exact zia hx
def decN:Nat→List Int→List OpT
 | 0,_=>[]
 | _+1,[]=>[]
 | n+1,x::b=>(oneS x b).1::decN n (oneS x b).2
def decS (b:List Int):List OpT:=decN b.length b
theorem zku:∀(n m:Nat) (b:List Int),b.length≤n→b.length≤m→decN n b=decN m b
 | 0,m,b,h,_=>by
  have:b=[]:=List.eq_nil_of_length_eq_zero (by omega);subst this;cases m<;>rfl
 | n+1,0,b,_,h=>by
  have:b=[]:=List.eq_nil_of_length_eq_zero (by omega);subst this;rfl
 | n+1,m+1,[],_,_=>rfl
 | n+1,m+1,x::b,h1,h2=>by
  have:=Ru x b;simp only [decN];rw [zku n m _ (by simp at h1; omega) (by simp at h2; omega)]
theorem Vb (x:Int) (b:List Int):decS (x::b)=(oneS x b).1::decS (oneS x b).2:=by
 have:=Ru x b;show decN (b.length+1) (x::b)=_;simp only [decN];rw [zku b.length (oneS x b).2.length _ this (Nat.le_refl _)];rfl
theorem zkt:∀(n:Nat) (b:List Int),AllU8 b→∀o∈decN n b,OpOK o
 | 0,_,_,o,ho=>by cases ho
 | n+1,[],_,o,ho=>by cases ho
 | n+1,x::b,h,o,ho=>by
  have hb:AllU8 b:=fun y hy=>h y (by simp [hy])
  simp only [decN] at ho;rcases List.mem_cons.1 ho with e | ho
  ·rw [e]; exact oneS_ok (h x (by simp)) hb
  ·exact zkt n _ (zib hb) o ho
theorem decS_ok {b:List Int} (h:AllU8 b):∀o∈decS b,OpOK o:=zkt _ _ h
theorem zye (R:Type) (k0:List OpT→Option R):∀(m:Nat) (b:List Int) (acc:List OpT),AllU8 b→b.length<m→acc.length+b.length≤200000→V3 m R b acc k0=k0 (acc++decS b)
 | 0,b,acc,_,h,_=>by omega
 | m+1,[],acc,_,_,_=>by
  simp only [V3,zsq];have:decS []=[]:=rfl;rw [this,List.append_nil];rfl
 | m+1,x::b,acc,h,h1,h2=>by
  have hb:AllU8 b:=fun y hy=>h y (by simp [hy])
  have hl:=Ru x b;simp only [List.length_cons] at h1 h2;have ih:=zye R k0 m (oneS x b).2 (acc++[(oneS x b).1]) (zib hb) (by omega) (by rw [List.length_append,List.length_singleton]; omega);simp only [V3,zsq];have e1:decide ((((x::b).length:Nat):Int)>0)=true:=by simp<;>omega
  have c1:decide (acc.length+[(oneS x b).1].length≤2199023255552)=true:=by simp; omega
  simp only [e1,F61_any R h,c1];rw [ih,Vb,List.append_assoc];rfl
theorem zbd (R:Type) {b:List Int} (h:AllU8 b) (hn:b.length≤100000) (k:List OpT→Option R):F32 R b k=k (decS b):=by
 simp only [F32,p32];have:=zye R (fun x=>k x) FUEL b [] h (by rw [Al]; omega) (by simp; omega);rw [List.nil_append] at this;exact this
theorem F10_eq (R:Type) {c:Cfg} (hc:cfgS c=true) {a b:List Int} (ha:H32 a) (hb:AllU8 b) (hn:b.length≤100000) (hd:(decS b).length≤150) (k:Led→List An→Int→Option R):F10 R c a b k=k (Kp (newS c a) (decS b)).1 (Kp (newS c a) (decS b)).2 0:=by
 simp only [F10,p10,Wz,hc,if_true];have e1:((0:Int) !=0)=false:=rfl;have e2:decide (((b.length:Nat):Int)>100000)=false:=decide_eq_false (by omega);have e3:decide ((((decS b).length:Nat):Int)>2000)=false:=decide_eq_false (by omega);simp only [e1,e2,zbd R hb hn,e3];rw [F33_eq R (zij hc ha) (decS_ok hb) (by omega)]
open Go.Proofs
theorem zpm (R:Type) {c:Cfg} (hc:cfgS c=false) (a b:List Int) (k:Led→List An→Int→Option R):F10 R c a b k=k zLed [] 1:=by
 simp only [F10,p10,Wz,hc];rfl
theorem zd0 (R:Type) {c:Cfg} (hc:cfgS c=true) (a:List Int) {b:List Int} (hn:100000<b.length) (k:Led→List An→Int→Option R):F10 R c a b k=k zLed [] 14:=by
 have e2:decide (((b.length:Nat):Int)>100000)=true:=decide_eq_true (by omega);have e1:((0:Int) !=0)=false:=rfl;simp only [F10,p10,Wz,hc,if_true,e1,e2]
abbrev c26:Cfg:=((1:Int),(0:Int),(0:Int),(1:Int),(1:Int),())
def s26:List Int:=Xe (List.replicate 32 (0:Int)) 0 (List.replicate 32 (0:Int))
theorem al26_1:(Kp (newS c26 (List.replicate 32 (0:Int))) (decS [6,255])).1.2.2.2.1.1=1:=by kernel_rfl
theorem al26_2:(Kp (newS c26 (List.replicate 32 (0:Int))) (decS [6,255])).2=[((0:Int),(0:Int),([]:List Int),s26,()),badS 2]:=by kernel_rfl
theorem al26_3:(decS [6,255]).length=2:=by kernel_rfl
theorem Ty:H32 s26:=Rm _ _ _
theorem an0_w:AnW ((0:Int),(0:Int),([]:List Int),s26,()):=by
 refine ⟨?_,?_,fun x hx=>(by cases hx),Nat.zero_le _,Ty.1,fun x hx=>Ty.2 x hx⟩
 ·show Wd 0
  unfold Wd; omega
 ·show (0:Int)≤0∧(0:Int)<18446744073709551616
  omega
theorem bad_w {e:Int} (h:Wd e):AnW (badS e):=by
 refine ⟨h,?_,fun x hx=>(by cases hx),Nat.zero_le _,rfl,fun x hx=>?_⟩
 ·show (0:Int)≤0∧(0:Int)<18446744073709551616
  omega
 ·have:x=0:=List.eq_of_mem_replicate hx
  omega
theorem t26_0:ansT ((0:Int),(0:Int),([]:List Int),s26,())=[111,107,32,48,32,45,32]++hexT s26:=by
 rw [ok_text _ rfl];show [111,107]++32::(Lib.decDigits 0++32::(memT []++32::hexT s26))=_;rw [Lib.decDigits_one (by omega)];rfl
theorem t26_1:ansT (badS 2)=[101,114,114,32,50]:=by
 rw [zuv _ (by decide)];show [101,114,114,32]++Lib.itoa 2=_
 rw [zct (by omega)];show [101,114,114,32]++Lib.decDigits 2=_
 rw [Lib.decDigits_one (by omega)];rfl
theorem F8_eq (R:Type) (k:Bool→Option R):F8 R k=k true:=by
 have hz:=P5;have h1:∀k':Led→List An→Int→Option R,F10 R c26 (List.replicate 32 (0:Int)) [(6:Int),(255:Int)] k'=k' (Kp (newS c26 (List.replicate 32 (0:Int))) (decS [6,255])).1 [((0:Int),(0:Int),([]:List Int),s26,()),badS 2] 0:=fun k'=>by
  rw [←al26_2];exact F10_eq R (by kernel_rfl) hz (fun x hx=>by
   simp only [List.mem_cons,List.not_mem_nil,or_false] at hx;unfold U8;omega) (by decide) (by rw [al26_3]; omega) k'
 have h2:=fun k'=>zpm R (c:=((0:Int),(0:Int),(0:Int),(0:Int),(0:Int),())) (by kernel_rfl) (List.replicate 32 (0:Int)) [] k'
 have h3:=fun k'=>zd0 R (c:=c26) (by kernel_rfl) (List.replicate 32 (0:Int)) (b:=List.replicate 100001 (0:Int)) (by rw [List.length_replicate]; omega) k'
 have h4:=fun k'=>F25_eq R hz hz (e:=0) (by omega) k'
 have w1:=bad_w (e:=2) (by unfold Wd; omega);have ws:∀a∈[((0:Int),(0:Int),([]:List Int),s26,()),badS 2],AnW a:=fun a ha=>by
  simp only [List.mem_cons,List.not_mem_nil,or_false] at ha;rcases ha with rfl | rfl
  ·exact an0_w
  ·exact w1
 have b1:((0:Int)==0)=true:=rfl;have b2:((1:Int)==1)=true:=rfl;have b3:((14:Int)==14)=true:=rfl;have b4:(((2:Nat):Int)==2)=true:=rfl;have b5:bnd (0:Int) ((2:Nat):Int)=true:=rfl;have b6:bnd (1:Int) ((2:Nat):Int)=true:=rfl;have hl:∀x y:An,[x,y].length=2:=fun _ _=>rfl
 have g0:List.getD [((0:Int),(0:Int),([]:List Int),s26,()),badS 2] 0 ((0:Int),(0:Int),([]:(List Int)),(List.replicate 32 (0:Int)),())=((0:Int),(0:Int),([]:List Int),s26,()):=rfl;have g1:List.getD [((0:Int),(0:Int),([]:List Int),s26,()),badS 2] 1 ((0:Int),(0:Int),([]:(List Int)),(List.replicate 32 (0:Int)),())=badS 2:=rfl;have hx:(hexT s26).length=64:=by rw [Nh,Ty.1]
 have c1:decide (ByteArray.size (bs [111,107,32,48,32,45,32])+ByteArray.size (bs (hexT s26))≤9223372036854775807)=true:=by
  rw [Ej,Ej,hx]
  decide
 have c2:decide (ByteArray.size (bs ([111,107,32,48,32,45,32]++hexT s26))+ByteArray.size (bs [10,101,114,114,32,50,10])≤9223372036854775807)=true:=by
  rw [Ej,Ej,List.length_append,hx]
  decide
 have e1:zfb [((0:Int),(0:Int),([]:List Int),s26,()),badS 2]=[111,107,32,48,32,45,32]++hexT s26++[10,101,114,114,32,50,10]:=by
  have:=Qn [((0:Int),(0:Int),([]:List Int),s26,())] (badS 2);have h0:=Qn [] ((0:Int),(0:Int),([]:List Int),s26,());rw [List.nil_append] at h0;rw [show [((0:Int),(0:Int),([]:List Int),s26,()),badS 2]=[((0:Int),(0:Int),([]:List Int),s26,())]++[badS 2] from rfl,this,h0,t26_0,t26_1];simp [zfb,texJ]
 simp only [F8,p8,h1,h2,h3,h4,b1,b2,b3,al26_1,hl,b4,b5,b6,g0,g1,Tf R an0_w,Tf R w1,t26_0,t26_1,zkz];have h26:=fun k'=>zwu R (h:=s26) Ty.1 (fun x hx=>Ty.2 x hx) k'
 unfold s26 at*;simp only [h26,c1,zk0,zkz,zwv R ws (by decide),c2,e1]
open Go.Proofs
section
variable {c:Cfg} {n:Nat} {l:Led}
end
theorem zwx (R:Type) {c:Cfg} (hc:cfgS c=true) (a:List Int) {b:List Int} (hb:AllU8 b) (hn:b.length≤100000) (hd:2000<(decS b).length) (k:Led→List An→Int→Option R):F10 R c a b k=k zLed [] 14:=by
 simp only [F10,p10,Wz,hc,if_true];have e1:((0:Int) !=0)=false:=rfl;have e2:decide (((b.length:Nat):Int)>100000)=false:=decide_eq_false (by omega);have e3:decide ((((decS b).length:Nat):Int)>2000)=true:=decide_eq_true (by omega);simp only [e1,e2,zbd R hb hn,e3]
open Go.Proofs
theorem G4_eq (R:Type) {x v:Int} (hv:IntKind.u8.wrap (12+Int.tmod x 200)=v) {n:Nat} (hn:n≤200000) (c:Cfg) (k0:Int→Cfg→List Int→Option R):∀(m i:Nat),i≤n→n - i<m→
  G4_8 m R x (n:Int) (i:Int) c (List.replicate i v++List.replicate (n - i) 0) k0=k0 (n:Int) c (List.replicate n v)
 | 0,i,_,h=>by omega
 | m+1,i,h1,h2=>by
  simp only [G4_8,p4_8]
  by_cases hi:i<n
  ·have ih:=G4_eq R hv hn c k0 m (i+1) (by omega) (by omega)
   have hl:(List.replicate i v++List.replicate (n - i) (0:Int)).length=n:=by simp; omega
   have e:(List.replicate i v++List.replicate (n - i) (0:Int)).set i v=List.replicate (i+1) v++List.replicate (n - (i+1)) 0:=by
    obtain ⟨q,hq⟩:∃q,n - i=q+1:=⟨n - i - 1,by omega⟩
    have hq2:n - (i+1)=q:=by omega
    rw [hq,hq2,List.replicate_succ,List.set_append_right _ _ (by simp)];simp only [List.length_replicate,Nat.sub_self,List.set_cons_zero];rw [List.replicate_succ',List.append_assoc];rfl
   have w:IntKind.i64.wrap ((i:Int)+1)=((i+1:Nat):Int):=by rw [wrap_i64 (by omega) (by omega)]; omega
   simp only [Df hi,hl,A4 hi,Int.toNat_natCast,hv,w,e];exact ih
  ·have:i=n:=by omega
   subst this;simp only [Cx,Nat.sub_self,List.replicate_zero,List.append_nil]
theorem zv3 {x:Int} (hx:U8 x):∃v,IntKind.u8.wrap (12+Int.tmod x 200)=v∧U8 v∧(fsOf v).2=false:=by
 unfold U8 at hx;have e:Int.tmod x 200=x % 200:=Int.tmod_eq_emod_of_nonneg hx.1;refine ⟨12+x % 200,by rw [Cv,e]; omega,by unfold U8; omega,?_⟩;unfold fsOf;rw [if_neg (by omega),if_neg (by omega),if_neg (by omega),if_neg (by omega),if_neg (by omega),if_neg (by omega),if_neg (by omega),if_neg (by omega),if_neg (by omega),if_neg (by omega),if_neg (by omega)]
theorem Zk {v:Int} (hv:(fsOf v).2=false):∀n:Nat,decS (List.replicate n v)=List.replicate n (opB v)
 | 0=>rfl
 | n+1=>by
  rw [List.replicate_succ,Vb];have e:oneS v (List.replicate n v)=(opB v,List.replicate n v):=by
   unfold oneS;rw [if_neg (by rw [hv]; exact Bool.false_ne_true)]
  rw [e,Zk hv n,List.replicate_succ]
theorem do_bad (l:Led) (v:Int):doS l (opB v)=(l,badS 2):=by
 unfold doS;rw [if_neg (fun h=>h.2 rfl)]
section
variable {c:Cfg} {l:Led}
theorem zmm (R:Type) (h:LOK c 0 l) {v:Int} (hv:U8 v) {n:Nat} (hn:n≤2000) (x5:Led) (k0:Led→Led→List An→Option R):∀(m i:Nat),i≤n→n - i<m→
  Sw m R (List.replicate n (opB v)) (n:Int) (i:Int) l x5 (List.replicate i (badS 2)) k0=k0 l x5 (List.replicate n (badS 2))
 | 0,i,_,h=>by omega
 | m+1,i,h1,h2=>by
  simp only [Sw,zsp]
  by_cases hi:i<n
  ·have ih:=zmm R h hv hn x5 k0 m (i+1) (by omega) (by omega)
   have hg:List.getD (List.replicate n (opB v)) i zO=opB v:=by simp [hi]
   have c1:decide ((List.replicate i (badS 2)).length+[badS 2].length≤1954687338268)=true:=decide_eq_true (by simp; omega);have w:IntKind.i64.wrap ((i:Int)+1)=((i+1:Nat):Int):=by rw [wrap_i64 (by omega) (by omega)]; omega
   have d:=do_bad l v;have hF:∀k,F62 R l (opB v) k=k l (badS 2):=fun k=>by rw [zzc R h (by omega) (zia hv),d]
   have e:List.replicate i (badS 2)++[badS 2]=List.replicate (i+1) (badS 2):=by rw [List.replicate_succ']
   simp only [Df hi,List.length_replicate,A4 hi,Int.toNat_natCast,hg,hF,w,e] at c1 ⊢;simp only [c1];exact ih
  ·have:i=n:=by omega
   subst this;simp only [Cx]
theorem F33_bad (R:Type) (h:LOK c 0 l) {v:Int} (hv:U8 v) {n:Nat} (hn:n≤2000) (k:Led→List An→Option R):F33 R l (List.replicate n (opB v)) k=k l (List.replicate n (badS 2)):=by
 simp only [F33,p33,List.length_replicate];exact zmm R h hv hn zLed (fun x2 x3 x4=>k x2 x4) FUEL 0 (by omega) (by rw [Al]; omega)
end
theorem zf4 (R:Type) {c:Cfg} (hc:cfgS c=true) {a:List Int} (ha:H32 a) {v:Int} (hv:U8 v) (hf:(fsOf v).2=false) {n:Nat} (hn:n≤2000) (k:Led→List An→Int→Option R):F10 R c a (List.replicate n v) k=k (newS c a) (List.replicate n (badS 2)) 0:=by
 have hb:AllU8 (List.replicate n v):=fun x hx=>by rw [List.eq_of_mem_replicate hx]; exact hv
 simp only [F10,p10,Wz,hc,if_true];have e1:((0:Int) !=0)=false:=rfl;have e2:decide ((((List.replicate n v).length:Nat):Int)>100000)=false:=decide_eq_false (by rw [List.length_replicate]; omega);have e3:decide ((((List.replicate n (opB v)).length:Nat):Int)>2000)=false:=decide_eq_false (by rw [List.length_replicate]; omega);simp only [e1,e2,zbd R hb (show (List.replicate n v).length≤100000 by rw [List.length_replicate]; omega),Zk hf,e3];rw [F33_bad R (zij hc ha) hv hn]
set_option maxRecDepth 100000 in
theorem F4_eq' (R:Type) {c:Cfg} {n:Int} (hn:U32 n) {x:Int} (hx:U8 x) (k:Bool→Option R):F4 R c n x k=k true:=by
 obtain ⟨v,hv,hv8,hf⟩:=zv3 hx;unfold U32 at hn;obtain ⟨q,hq,hq2⟩:∃q:Nat,Int.tmod n 110000=q∧q<110000:=⟨(n % 110000).toNat,by rw [Int.tmod_eq_emod_of_nonneg hn.1]; omega,by omega⟩
 have w:IntKind.i64.wrap (q:Int)=q:=wrap_i64 (by omega) (by omega);have hz:=P5;have hb:AllU8 (List.replicate q v):=fun y hy=>by rw [List.eq_of_mem_replicate hy]; exact hv8
 have hG:∀k0:Int→Cfg→List Int→Option R,G4_8 FUEL R x (q:Int) 0 c (List.replicate q (0:Int)) k0=k0 (q:Int) c (List.replicate q v):=fun k0=>G4_eq R hv (by omega) c k0 FUEL 0 (by omega) (by rw [Al]; omega)
 have g0:decide ((0:Int)≤(q:Int)∧(q:Int)≤(q:Int)∧(q:Int)≤140737488355328)=true:=decide_eq_true (by omega);have b1:((1:Int) !=0)=true:=rfl;have b0:((0:Int) !=0)=false:=rfl;have bs1:((1:Int)==1)=true:=rfl;have bs0:((0:Int)==0)=true:=rfl;have bs14:((14:Int)==14)=true:=rfl;have hlz:((([]:List An).length:Int)==0)=true:=rfl;simp only [F4,p4,F8_eq,Bool.not_true,hq,w,g0,Int.toNat_natCast,hG,F15_eq];cases hc:cfgS c with
 | false=>
  simp only [zpm R hc,Bool.false_eq_true,if_false,b1,bs1,hlz]
  by_cases h1:(q:Int)<100001
  ·simp only [decide_eq_true h1]
   cases decide ((q:Int)>2100)<;>cases decide (c.1>10)<;>rfl
  ·simp only [decide_eq_false h1]
 | true=>
  simp only [if_true,b0];have hL:LW (newS c (List.replicate 32 (0:Int))):=(zij hc hz).lw (by omega)
  by_cases h1:q≤100000
  ·have t1:decide ((q:Int)<100001)=true:=decide_eq_true (by omega)
   simp only [t1]
   by_cases h2:q≤2100
   ·have t2:decide ((q:Int)>2100)=false:=decide_eq_false (by omega)
    simp only [t2];cases decide (c.1>10) with
    | true=>rfl
    | false=>
     simp only []
     by_cases h3:q≤2000
     ·have t3:decide ((q:Int)>2000)=false:=decide_eq_false (by omega)
      have hl2:(((List.replicate q (badS 2)).length:Int)==(q:Int))=true:=by rw [List.length_replicate]; exact beq_self_eq_true _
      simp only [zf4 R hc hz hv8 hf h3,t3,bs0,hl2,zpk R hL hL,Ko]
     ·have t3:decide ((q:Int)>2000)=true:=decide_eq_true (by omega)
      have hd:2000<(decS (List.replicate q v)).length:=by rw [Zk hf,List.length_replicate]; omega
      simp only [zwx R hc _ hb (show (List.replicate q v).length≤100000 by rw [List.length_replicate]; omega) hd,t3,bs14,hlz,zpk R Rb Rb,Ko]
   ·have t2:decide ((q:Int)>2100)=true:=decide_eq_true (by omega)
    simp only [t2]
  ·have t1:decide ((q:Int)<100001)=false:=decide_eq_false (by omega)
   have t3:decide ((q:Int)>2000)=true:=decide_eq_true (by omega);simp only [t1,zd0 R hc _ (show 100000<(List.replicate q v).length by rw [List.length_replicate]; omega),t3,bs14,hlz,zpk R Rb Rb,Ko]
end Go.PG
end
