/- A part of the proof over this seat (own work; the framework that reads a Go function as a pure one, or a use of it). No condition of its own. -/
import Derived.Test.YtldfbfilibnpmaaGreatWv6
import Derived.KernelRfl
set_option linter.unusedVariables false
set_option linter.unusedSimpArgs false
set_option linter.unusedSectionVars false
noncomputable section
namespace Go.PG
theorem zeq (R:Type) {b:List Int} {o:Nat} (ho:o+64≤b.length) (hb:b.length≤1000000000) (acc:List (List Int)) (k0:List Int→Int→List (List Int)→List Int→Option R):∀(m i:Nat),i≤64→64 - i<m→
  Xc m R b (o:Int) (i:Int) acc ((b.drop o).take i++List.replicate (64 - i) 0) k0=k0 b (o:Int) acc ((b.drop o).take 64)
 | 0,i,_,h=>by omega
 | m+1,i,h1,h2=>by
  simp only [Xc,zyv]
  by_cases hi:i<64
  ·have ih:=zeq R ho hb acc k0 m (i+1) (by omega) (by omega)
   have hd:decide ((i:Int)<64)=true:=by simp; omega
   have hbn:bnd (i:Int) 64=true:=by unfold bnd; simp; omega
   have hb2:bnd ((o:Int)+(i:Int)) (b.length:Int)=true:=by unfold bnd; simp; omega
   have e1:((o:Int)+(i:Int)).toNat=o+i:=by omega
   have hl:((b.drop o).take i).length=i:=by rw [List.length_take,List.length_drop]; omega
   have hs:List.set ((b.drop o).take i++List.replicate (64 - i) 0) i (List.getD b (o+i) 0)=(b.drop o).take (i+1)++List.replicate (64 - (i+1)) 0:=by
    rw [List.set_append_right _ _ (by omega),hl,Nat.sub_self,show 64 - i=(64 - (i+1))+1 by omega,List.replicate_succ,List.set_cons_zero];rw [List.take_succ_eq_append_getElem (by rw [List.length_drop]; omega),List.append_assoc];simp [show o+i<b.length by omega]
   rw [wrap_i64 (n:=(o:Int)+(i:Int)) (by omega) (by omega),wrap_i64 (n:=(i:Int)+1) (by omega) (by omega)];simp only [hd,hbn,hb2,e1,Int.toNat_natCast,hs];exact ih
  ·have:i=64:=by omega
   subst this;have hd:decide (((64:Nat):Int)<64)=false:=by simp
   simp only [hd];simp
theorem zer (R:Type) {b:List Int} (hb:b.length≤1000000000) (k0:List Int→Int→List (List Int)→Option R):∀(m o:Nat) (acc:List (List Int)),o≤b.length→(b.length - o)/64<m→acc.length+(b.length - o)/64≤1000000000→
  ∃o':Nat,o'≤b.length∧b.drop o'=Es (b.drop o)∧T6 m R b (o:Int) acc k0=k0 b (o':Int) (acc++blkS (b.drop o))
 | 0,o,acc,_,h,_=>by omega
 | m+1,o,acc,h0,h1,h2=>by
  simp only [T6,zyw];rw [wrap_i64 (n:=(o:Int)+64) (by omega) (by omega)]
  by_cases hi:o+64≤b.length
  ·have hd:decide ((o:Int)+64≤(b.length:Int))=true:=by simp; omega
   obtain ⟨o',g1,g2,g3⟩:=zer R hb k0 m (o+64) (acc++[(b.drop o).take 64]) (by omega) (by omega) (by rw [List.length_append]; simp; omega);have hl:64≤(b.drop o).length:=by rw [List.length_drop]; omega
   refine ⟨o',g1,?_,?_⟩
   ·rw [g2,Fe hl,List.drop_drop]
   ·have g:=zeq R hi hb acc (fun x7 x8 x9 x10=>match decide (x9.length+[x10].length≤2199023255552) with | true=>T6 m R x7 (IntKind.i64.wrap (x8+64)) (x9++[x10]) k0 | false=>none) FUEL 0 (by omega) (by rw [Al]; omega)
    have hc:decide (acc.length+[(b.drop o).take 64].length≤2199023255552)=true:=by simp; omega
    simp only [hd];refine Eq.trans ?_ (g.trans ?_)
    ·rfl
    ·simp only [hc]
     rw [wrap_i64 (by omega) (by omega),Gy hl,List.drop_drop];rw [List.append_assoc] at g3;exact g3
  ·have hd:decide ((o:Int)+64≤(b.length:Int))=false:=by simp; omega
   simp only [hd];have hl:(b.drop o).length<64:=by rw [List.length_drop]; omega
   exact ⟨o,h0,by rw [Do hl],by rw [Fa hl,List.append_nil]⟩
theorem F84_eq (R:Type) {b:List Int} (hb:b.length≤1000000000) (k:List (List Int)→List Int→Option R):F84 R b k=k (blkS b) (Es b):=by
 simp only [F84,p84];obtain ⟨o',g1,g2,g3⟩:=zer R hb (fun x1 x2 x3=>match decide (0≤x2∧x2≤(x1.length:Int)∧(x1.length:Int)≤(x1.length:Int)∧(x1.length:Int)≤(x1.length:Int)) with | true=>k x3 (List.take (Int.toNat ((x1.length:Int) - x2)) (List.drop (Int.toNat x2) x1)) | false=>none) FUEL 0 [] (by omega) (by rw [Al]; omega) (by simp; omega);refine g3.trans ?_;have c:decide (0≤(o':Int)∧(o':Int)≤(b.length:Int)∧(b.length:Int)≤(b.length:Int)∧(b.length:Int)≤(b.length:Int))=true:=decide_eq_true (by omega);simp only [c,Int.toNat_natCast];rw [List.take_of_length_le (by rw [List.length_drop]; omega),g2];rfl
def padM (m:List Int):List Int:=m++128::(List.replicate (C1 m.length) 0++putS (8*(m.length:Int)))
theorem F85_eq (R:Type) {m:List Int} (hm:m.length≤500000000) (k:List Int→Option R):F85 R m k=k (padM m):=by
 simp only [F85,p85];rw [Int.tmod_eq_emod_of_nonneg (by omega),wrap_i64 (by omega) (by omega),Aj (n:=(m.length:Int)) (by omega) (by omega)];obtain ⟨q,hq⟩:∃q:Nat,(m.length:Int) - (m.length:Int) % 64=q:=⟨m.length - m.length % 64,by omega⟩
 have hq':q=m.length - m.length % 64:=by omega
 rw [hq];have c1:decide (0≤(q:Int)∧(q:Int)≤(m.length:Int)∧(m.length:Int)≤(m.length:Int)∧(m.length:Int)≤(m.length:Int))=true:=decide_eq_true (by omega);have c2:decide (0≤(0:Int)∧(0:Int)≤(q:Int)∧(q:Int)≤(q:Int)∧(q:Int)≤(m.length:Int))=true:=decide_eq_true (by omega);have e1:List.take (Int.toNat ((m.length:Int) - (q:Int))) (List.drop q m)=List.drop q m:=List.take_of_length_le (by rw [List.length_drop]; omega);have e2:List.take (Int.toNat ((q:Int) - 0)) (List.drop 0 m)=List.take q m:=by simp
 simp only [c1,Int.toNat_natCast,e1];rw [F125_eq R (by rw [List.length_drop]; omega) (by omega)];have c3:decide (([]:List Int).length+(List.take q m).length≤140737488355328)=true:=decide_eq_true (by simp; omega);have c4:decide (([]++List.take q m).length+(padT (List.drop q m) m.length).length≤140737488355328)=true:=decide_eq_true (by simp [padT,putS]; unfold C1; omega);simp only [c2,e2,c3,c4]
 congr 1
 simp only [padT,padM,List.nil_append];rw [←List.append_assoc,List.take_append_drop]
end Go.PG
namespace Go.PG
def ztb (st:List Int):List Int:=(List.range' 0 8).foldl (Gi st) (List.replicate 32 0)
theorem F182_eq (R:Type) {st:List Int} (u:List Int×Int×Unit) (hu:AllU32 st) (k:List Int→(Wr×Unit)→Option R):F182 R ((st,u),()) k=k (ztb st) ((st,u),()):=by
 simp only [F182,p182];exact zms R hu ((st,u),()) (fun x1 x2=>k x2 x1) FUEL 0 (List.replicate 32 0) (by omega) (by rw [Al]; omega)
def SHA (m:List Int):List Int:=ztb (K4 H0 (blkS (padM m)))
theorem O7 (x:Int):AllU8 (putS x):=fun y hy=>by
 simp only [putS,List.mem_cons,List.not_mem_nil,or_false] at hy;unfold U8;omega
theorem zh1 {rest:List Int} (h:AllU8 rest) (n:Nat):AllU8 (padT rest n):=fun y hy=>by
 unfold padT at hy;rcases List.mem_append.1 hy with h1 | h1
 ·exact h y h1
 ·rcases List.mem_cons.1 h1 with rfl | h1
  ·unfold U8; omega
  ·rcases List.mem_append.1 h1 with h1 | h1
   ·rw [List.eq_of_mem_replicate h1]; exact u8_0
   ·exact O7 _ y h1
theorem zrb (m:List Int):blkS (padM m)=blkS m++blkS (padT (Es m) m.length):=(Me m.length m _ (Nat.le_refl _)).1
theorem F130_eq (R:Type) {m:List Int} (h8:AllU8 m) (hm:m.length≤500000000) (k:List Int→Int→Option R):F130 R (wrS H0 m) k=k (SHA m) 0:=by
 have tl:=(Kn m.length m (Nat.le_refl _)).1;have ok:=Pt m.length m (Nat.le_refl _) h8;have hf:=K3 (blkS m) Xa.1 Xa.2;have hp:=zh1 ok.2 m.length;simp only [F130,p130,wrS];rw [F180_eq R tl (by omega)];simp only [Bool.not_true];rw [zot R (Es m,(m.length:Int),()) hf.1 hf.2 hp (by simp [padT,putS]; unfold C1; omega)];have hf2:=K3 (blkS (padT (Es m) m.length)) hf.1 hf.2;rw [F182_eq R _ hf2.2];unfold SHA;rw [zrb];unfold K4;rw [List.foldl_append]
theorem zoa (R:Type) {ps:List (List Int)} (h8:∀p∈ps,AllU8 p) (hlen:ps.flatten.length≤500000000) (hnum:ps.length≤1000000000) (k:List Int→Option R):F93 R ps k=k (SHA ps.flatten):=by
 simp only [F93,p93];rw [F129_eq,F128_eq R Xa.1 Xa.2 h8 hlen hnum];refine F130_eq R (fun x hx=>?_) hlen _;obtain ⟨p,h1,h2⟩:=List.mem_flatten.1 hx;exact h8 p h1 x h2
end Go.PG
namespace Go.PG
theorem zeo (R:Type) (x1:Nat) (h:x1<8) (x3 x4 ys:List Int) (hy:ys.length=4) (k0:Int→List Int→List Int→List Int→Option R):∀(m j:Nat) (l:List Int),j≤4→4 - j<m→Xb m R (x1:Int) (j:Int) x3 x4 l ys k0=k0 (x1:Int) x3 x4 ((List.range' j (4 - j)).foldl (fun l j=>l.set (4*x1+j) (ys.getD j 0)) l)
 | 0,j,l,_,h=>by omega
 | m+1,j,l,h1,h2=>by
  simp only [Xb,zyt]
  by_cases hi:j<4
  ·have ih:=zeo R x1 h x3 x4 ys hy k0 m (j+1) (l.set (4*x1+j) (ys.getD j 0)) (by omega) (by omega)
   rw [Bz hi,List.foldl_cons,←ih];have hd:decide ((j:Int)<4)=true:=by simp; omega
   have hbn:bnd (j:Int) 4=true:=by unfold bnd; simp; omega
   rw [wrap_i64 (n:=4*(x1:Int)) (by omega) (by omega),wrap_i64 (n:=4*(x1:Int)+(j:Int)) (by omega) (by omega),wrap_i64 (n:=(j:Int)+1) (by omega) (by omega)];have hb2:bnd (4*(x1:Int)+(j:Int)) 32=true:=by unfold bnd; simp; omega
   have e1:(4*(x1:Int)+(j:Int)).toNat=4*x1+j:=by omega
   simp only [hd,hbn,hb2,e1,Int.toNat_natCast];rfl
  ·have:j=4:=by omega
   subst this;rfl
end Go.PG
namespace Go.PG
theorem zqy (l:List Int) (p:Nat) (h:p+4≤l.length) (a b c d:Int):
  (List.range' 0 4).foldl (fun l j=>l.set (p+j) (List.getD [a,b,c,d] j 0)) l=lay l p [a,b,c,d]:=by
 have e:(List.range' 0 4).foldl (fun l j=>l.set (p+j) (List.getD [a,b,c,d] j 0)) l=(((l.set p a).set (p+1) b).set (p+2) c).set (p+3) d:=rfl;rw [e];apply List.ext_getElem?;intro i;unfold lay;simp only [List.getElem?_set,List.getElem?_append,List.length_take,List.length_set,List.getElem?_drop,List.length_append,List.length_cons,List.length_nil,List.getElem?_take];have hm:min p l.length=p:=by omega
 have hx:[a,b,c,d].length=4:=rfl
 by_cases h1:i<p
 ·have n1:¬p+3=i:=by omega
  have n2:¬p+2=i:=by omega
  have n3:¬p+1=i:=by omega
  have n4:¬p=i:=by omega
  simp only [n1,n2,n3,n4,if_false,hm];rw [if_pos (by omega),if_pos (by omega),if_pos h1]
 ·by_cases h2:i<p+4
  ·obtain ⟨q,rfl⟩:∃q,i=p+q:=⟨i - p,by omega⟩
   have hq:q=0∨q=1∨q=2∨q=3:=by omega
   rcases hq with rfl | rfl | rfl | rfl
   ·simp [hm,show ¬p+3=p from by omega,show p<l.length from by omega]
   ·simp [hm,show p+1<l.length from by omega,show ¬p+1<p from by omega]
   ·simp [hm,show p+2<l.length from by omega,show ¬p+2<p from by omega]
   ·simp [hm,show p+3<l.length from by omega,show ¬p+3<p from by omega]
  ·have n1:¬p+3=i:=by omega
   have n2:¬p+2=i:=by omega
   have n3:¬p+1=i:=by omega
   have n4:¬p=i:=by omega
   simp only [n1,n2,n3,n4,if_false,hm];rw [if_neg (by omega)]
   congr 1
   omega
theorem zep (R:Type) {st:List Int} (hu:AllU32 st) (x3:List Int) (k0:List Int→List Int→Option R):∀(m i:Nat) (l:List Int),i≤8→8 - i<m→l.length=32→N9 m R (i:Int) st x3 l k0=k0 x3 ((List.range' i (8 - i)).foldl (Gi st) l)
 | 0,i,l,_,h,_=>by omega
 | m+1,i,l,h1,h2,hl=>by
  simp only [N9,zyu]
  by_cases hi:i<8
  ·have hs:lay l (4*i) (Bu (st.getD i 0))=Gi st l i:=rfl
   have ih:=zep R hu x3 k0 m (i+1) (Gi st l i) (by omega) (by omega) (by rw [←hs,zj9 (by simp [Bu]; omega)]; exact hl);rw [Bz hi,List.foldl_cons,←ih];have hd:decide ((i:Int)<8)=true:=by simp; omega
   have hbn:bnd (i:Int) 8=true:=by unfold bnd; simp; omega
   simp only [hd,hbn,Int.toNat_natCast];rw [F126_eq R (Av hu Qx _)];refine (zeo R i hi st x3 _ rfl _ FUEL 0 l (by omega) (by rw [Al]; omega)).trans ?_;have e4:=zqy l (4*i) (by omega) (st.getD i 0/16777216 % 256) (st.getD i 0/65536 % 256) (st.getD i 0/256 % 256) (st.getD i 0 % 256);rw [wrap_i64 (n:=(i:Int)+1) (by omega) (by omega)];show N9 m R ((i:Int)+1) st x3 _ k0=N9 m R ((i+1:Nat):Int) st x3 _ k0;rw [←hs];show N9 m R ((i:Int)+1) st x3 _ k0=N9 m R ((i:Int)+1) st x3 _ k0
   congr 1
  ·have:i=8:=by omega
   subst this;rfl
theorem F86_eq (R:Type) {st:List Int} (hu:AllU32 st) (k:List Int→Option R):F86 R st k=k (ztb st):=by
 simp only [F86,p86];exact zep R hu _ (fun x1 x2=>k x2) FUEL 0 (List.replicate 32 0) (by omega) (by rw [Al]; omega) rfl
theorem zyo {m:List Int} (h:AllU8 m):AllU8 (padM m):=fun x hx=>by
 unfold padM at hx;rcases List.mem_append.1 hx with h1 | h1
 ·exact h x h1
 ·exact zh1 (rest:=[]) (fun y hy=>absurd hy (by simp)) m.length x h1
theorem zra (m:List Int):(padM m).length≤m.length+72:=by
 simp [padM,putS,C1]; omega
theorem zed:∀(n:Nat) (b:List Int),(blkF n b).length≤n
 | 0,b=>by simp [blkF]
 | n+1,b=>by
  simp only [blkF];split
  ·simp only [List.length_cons]
   have:=zed n (b.drop 64);omega
  ·simp
theorem zwn (R:Type) {m:List Int} (h8:AllU8 m) (hm:m.length≤500000000) (k:List Int→Option R):F47 R m k=k (SHA m):=by
 simp only [F47,p47];have hp:=zra m;rw [F85_eq R hm,F84_eq R (by omega),F88_eq];have ok:=Pt (padM m).length (padM m) (Nat.le_refl _) (zyo h8);rw [F87_eq R Xa.1 Xa.2 ok.1 (by have:=zed ((padM m).length/64+1) (padM m); unfold blkS; omega),F86_eq R (K3 (blkS (padM m)) Xa.1 Xa.2).2];rfl
end Go.PG
namespace Go.PG
theorem zcv (b:BitVec 8):IntKind.u8.wrap ((b.toNat:Nat):Int)=(b.toNat:Int):=by
 have:=b.isLt;exact zg3 (by omega) (by omega)
theorem Ti (a b:Int):ixor .u8 a b=((BitVec.ofInt 8 a^^^BitVec.ofInt 8 b).toNat:Int):=zcv _
theorem Jk (b:BitVec 8):BitVec.ofInt 8 ((b.toNat:Nat):Int)=b:=by
 rw [BitVec.ofInt_natCast,BitVec.ofNat_toNat,BitVec.setWidth_eq]
theorem Vu {x:Int} (h:U8 x):((BitVec.ofInt 8 x).toNat:Int)=x:=by
 rw [BitVec.toNat_ofInt];unfold U8 at h;have:x % ((2^8:Nat):Int)=x:=by omega
 rw [this];omega
theorem zs5 (a b:Int):U8 (ixor .u8 a b):=by
 rw [Ti];have:=(BitVec.ofInt 8 a^^^BitVec.ofInt 8 b).isLt;unfold U8;omega
theorem zs4 (a b c:Int):ixor .u8 (ixor .u8 a b) c=ixor .u8 (ixor .u8 a c) b:=by
 simp only [Ti,Jk];rw [BitVec.xor_assoc,BitVec.xor_comm (BitVec.ofInt 8 b),BitVec.xor_assoc]
theorem zai (a b c:Int):ixor .u8 (ixor .u8 a b) c=ixor .u8 a (ixor .u8 b c):=by
 simp only [Ti,Jk];rw [BitVec.xor_assoc]
theorem ixor8_0 {a:Int} (h:U8 a):ixor .u8 0 a=a:=by
 rw [Ti,show BitVec.ofInt 8 0=0#8 from rfl,BitVec.zero_xor,Vu h]
def xorS (h x:List Int):List Int:=List.zipWith (ixor .u8) h x
def Ce:List Int:=List.replicate 32 0
def En (l:List (List Int)):List Int:=l.foldl xorS Ce
def H32 (l:List Int):Prop:=l.length=32∧AllU8 l
theorem zgw:∀h a b:List Int,xorS (xorS h a) b=xorS (xorS h b) a
 | [],a,b=>by simp [xorS]
 | h::hs,[],b=>by cases b<;>simp [xorS]
 | h::hs,a::ts,[]=>by simp [xorS]
 | h::hs,a::ts,b::bs=>by
  have:=zgw hs ts bs;simp only [xorS,List.zipWith_cons_cons] at*;rw [this,zs4]
theorem Um:∀h a b:List Int,xorS (xorS h a) b=xorS h (xorS a b)
 | [],a,b=>by simp [xorS]
 | h::hs,[],b=>by simp [xorS]
 | h::hs,a::ts,[]=>by simp [xorS]
 | h::hs,a::ts,b::bs=>by
  have:=Um hs ts bs;simp only [xorS,List.zipWith_cons_cons] at*;rw [this,zai]
theorem Sh:∀{n:Nat} {a:List Int},a.length=n→AllU8 a→xorS (List.replicate n 0) a=a
 | 0,[],_,_=>rfl
 | n+1,a::ts,hl,h=>by
  have ih:=Sh (n:=n) (a:=ts) (by simpa using hl) (fun x hx=>h x (List.mem_cons_of_mem _ hx));simp only [xorS,List.replicate_succ,List.zipWith_cons_cons] at*;rw [ih,ixor8_0 (h a List.mem_cons_self)]
theorem zg1:∀h x:List Int,AllU8 (xorS h x)
 | [],x=>fun y hy=>by simp [xorS] at hy
 | h::hs,[]=>fun y hy=>by simp [xorS] at hy
 | h::hs,x::xs=>fun y hy=>by
  simp only [xorS,List.zipWith_cons_cons,List.mem_cons] at hy;rcases hy with rfl | hy
  ·exact zs5 _ _
  ·exact zg1 hs xs y hy
theorem Si {h x:List Int} (hh:H32 h) (hx:H32 x):H32 (xorS h x):=⟨by simp [xorS,hh.1,hx.1],zg1 h x⟩
theorem A1:H32 Ce:=⟨by simp [Ce],fun x hx=>by rw [List.eq_of_mem_replicate hx]; exact u8_0⟩
theorem zg2:∀(l:List (List Int)) {h:List Int},H32 h→(∀x∈l,H32 x)→H32 (l.foldl xorS h)
 | [],h,hh,_=>hh
 | x::xs,h,hh,hl=>zg2 xs (Si hh (hl x List.mem_cons_self)) (fun y hy=>hl y (List.mem_cons_of_mem _ hy))
theorem On {l:List (List Int)} (hl:∀x∈l,H32 x):H32 (En l):=zg2 l A1 hl
theorem xor0 {x:List Int} (h:H32 x):xorS Ce x=x:=Sh h.1 h.2
theorem Yb:∀(l:List (List Int)) {h:List Int},H32 h→(∀x∈l,H32 x)→l.foldl xorS h=xorS h (En l)
 | [],h,hh,_=>by
  show h=xorS h Ce;have:=Sh hh.1 hh.2;have e:xorS h Ce=xorS Ce h:=by
   have e1:=xor0 hh;have:xorS (xorS Ce h) Ce=xorS (xorS Ce Ce) h:=zgw _ _ _;rw [e1] at this;rw [this,xor0 A1]
  rw [e,xor0 hh]
 | x::xs,h,hh,hl=>by
  have hx:=hl x List.mem_cons_self;have hxs:=fun y hy=>hl y (List.mem_cons_of_mem x hy)
  unfold En;rw [List.foldl_cons,List.foldl_cons,Yb xs (Si hh hx) hxs,xor0 hx,Yb xs hx hxs,Um]
theorem Sj {a b:List (List Int)} (ha:∀x∈a,H32 x) (hb:∀x∈b,H32 x):En (a++b)=xorS (En a) (En b):=by
 unfold En;rw [List.foldl_append];exact Yb b (On ha) hb
theorem Yc {a b:List (List Int)} (h:a.Perm b):En a=En b:=by
 unfold En;generalize Ce=z
 induction h generalizing z with
 | nil=>rfl
 | cons x _ ih=>exact ih _
 | swap x y l=>simp only [List.foldl_cons,zgw]
 | trans _ _ i1 i2=>rw [i1 z,i2 z]
theorem zx8 (A:List Int) (h:Int) (hs:List Int) (v:Int):(A++h::hs).set A.length v=(A++[v])++hs:=by
 rw [List.set_append_right _ _ (Nat.le_refl _)];simp
theorem zd0 (A:List Int) (h:Int) (hs:List Int):(A++h::hs).getD A.length 0=h:=by
 simp
theorem zeu (R:Type) (x1:List (List Int)) (x2 x3:Int) (k0:List (List Int)→Int→Int→List Int→Option R):∀(m:Nat) (hs xs A X:List Int),hs.length=xs.length→A.length=X.length→A.length+hs.length=32→hs.length<m→
  T7 m R x1 x2 x3 (X++xs) (A.length:Int) (A++hs) k0=k0 x1 x2 x3 (A++xorS hs xs)
 | 0,_,_,_,_,_,_,_,h=>by omega
 | m+1,[],[],A,X,_,h2,h3,_=>by
  have:A.length=32:=by simpa using h3
  simp only [T7,zrc,this];simp [xorS]
 | m+1,h::hs,x::xs,A,X,h1,h2,h3,h4=>by
  simp only [List.length_cons] at h1 h3 h4;have ih:=zeu R x1 x2 x3 k0 m hs xs (A++[ixor .u8 h x]) (X++[x]) (by omega) (by simp; omega) (by simp; omega) (by omega);simp only [T7,zrc];have hd:decide ((A.length:Int)<32)=true:=by simp; omega
  have hbn:bnd (A.length:Int) 32=true:=by unfold bnd; simp; omega
  simp only [hd,hbn,Int.toNat_natCast];rw [zx8,zd0,wrap_i64 (n:=(A.length:Int)+1) (by omega) (by omega),h2,zd0];simp only [List.append_assoc,List.cons_append,List.nil_append,List.length_append,List.length_cons,List.length_nil] at ih;rw [h2] at ih;simp only [List.append_assoc,List.cons_append,List.nil_append];exact ih
theorem zev (R:Type) (l:List (List Int)) (hl:∀x∈l,H32 x) (hn:l.length≤1000000000) (k0:List Int→Option R):∀(m i:Nat) (h:List Int),i≤l.length→l.length - i<m→H32 h→
  Xd m R l (l.length:Int) (i:Int) h k0=k0 ((l.drop i).foldl xorS h)
 | 0,i,_,_,h,_=>by omega
 | m+1,i,h,h1,h2,hh=>by
  simp only [Xd,zy2]
  by_cases hi:i<l.length
  ·have hd:decide ((i:Int)<(l.length:Int))=true:=by simpa using hi
   have hbn:bnd (i:Int) (l.length:Int)=true:=by unfold bnd; simp; omega
   have hx:=hl l[i] (List.getElem_mem hi);have hg:List.getD l i (List.replicate 32 0)=l[i]:=by simp [hi]
   have ih:=zev R l hl hn k0 m (i+1) (xorS h l[i]) (by omega) (by omega) (Si hh hx);simp only [hd,hbn,Int.toNat_natCast,hg];refine (zeu R l (l.length:Int) (i:Int) _ FUEL h l[i] [] [] (by rw [hh.1,hx.1]) rfl (by simp [hh.1]) (by rw [Al,hh.1]; omega)).trans ?_;rw [wrap_i64 (n:=(i:Int)+1) (by omega) (by omega),List.drop_eq_getElem_cons hi];exact ih
  ·have:i=l.length:=by omega
   subst this;have hd:decide ((l.length:Int)<(l.length:Int))=false:=by simp
   simp only [hd];rw [List.drop_of_length_le (Nat.le_refl _)];rfl
theorem zwm (R:Type) {l:List (List Int)} (hl:∀x∈l,H32 x) (hn:l.length≤1000000000) (k:List Int→Option R):F54 R l k=k (En l):=by
 simp only [F54,p54];exact zev R l hl hn (fun x2=>k x2) FUEL 0 Ce (by omega) (by rw [Al]; omega) A1
end Go.PG
namespace Go.PG
theorem Kr (x:Int):(putS x).length=8:=rfl
theorem zc4 {l:List Int} (h:H32 l):List.take 32 (List.drop 0 l)=l:=by
 rw [List.drop_zero,List.take_of_length_le (by rw [h.1]; omega)]
theorem take8 (x:Int):List.take 8 (List.drop 0 (putS x))=putS x:=rfl
theorem zov (R:Type) {a:List Int} (ha:H32 a) (k:List Int→Option R):F166 R a k=k (SHA a):=by
 simp only [F166,p166,zc4 ha];rw [zoa R (fun p hp=>by simp only [List.mem_cons,List.not_mem_nil,or_false] at hp; rw [hp]; exact ha.2) (by simp [ha.1]) (by simp)];simp
def Sw (a:List Int) (e:Int) (b:List Int):List Int:=SHA (a++(putS e++b))
theorem zwl (R:Type) {a b:List Int} (ha:H32 a) (hb:H32 b) (e:Int) (k:List Int→Option R):F55 R a e b k=k (Sw a e b):=by
 simp only [F55,p55];rw [X7];simp only [zc4 ha,zc4 hb,take8];rw [zoa R (fun p hp=>by
  simp only [List.mem_cons,List.not_mem_nil,or_false] at hp;rcases hp with rfl | rfl | rfl
  ·exact ha.2
  ·exact O7 e
  ·exact hb.2) (by simp [ha.1,hb.1,Kr]) (by simp)]
 simp [Sw]
theorem Wi {l:List Int} {i:Nat} (h:i<l.length):l.drop i=l.getD i 0::l.drop (i+1):=by
 rw [List.drop_eq_getElem_cons h];simp [h]
theorem zwb (R:Type) {a:List Int} (ha:a.length=32) (k0:List Int→Option R):∀(m i:Nat) (o:List Int),i≤32→32 - i<m→o.length≤1000000+i→za8 m R (i:Int) a o k0=k0 (o++a.drop i)
 | 0,i,_,_,h,_=>by omega
 | m+1,i,o,h1,h2,h3=>by
  simp only [za8,zy4]
  by_cases hi:i<32
  ·have ih:=zwb R ha k0 m (i+1) (o++[a.getD i 0]) (by omega) (by omega) (by simp; omega)
   have hd:decide ((i:Int)<32)=true:=by simp; omega
   have hbn:bnd (i:Int) 32=true:=by unfold bnd; simp; omega
   have hc:∀y:Int,decide (List.length o+List.length [y]≤140737488355328)=true:=fun y=>by simp; omega
   simp only [hd,hbn,Int.toNat_natCast,hc];rw [wrap_i64 (n:=(i:Int)+1) (by omega) (by omega),Wi (by omega)];simp only [List.append_assoc,List.cons_append,List.nil_append] at ih;exact ih
  ·have:i=32:=by omega
   subst this;rw [List.drop_of_length_le (by omega),List.append_nil];rfl
theorem zog (R:Type) {a:List Int} (ha:a.length=32) (k:List Int→Option R):F45 R a k=k a:=by
 simp only [F45,p45];exact zwb R ha (fun x=>k x) FUEL 0 [] (by omega) (by rw [Al]; omega) (by simp)
theorem zwr (R:Type) {a:List Int} (ha:H32 a) (k:List Int→Option R):F26 R a k=k (SHA a):=by
 simp only [F26,p26];rw [zog R ha.1,zwn R ha.2 (by rw [ha.1]; omega)]
theorem zwh (R:Type) {a:List Int} (ha:a.length=8) (x2 x3:List Int) (k0:List Int→List Int→List Int→Option R):∀(m i:Nat) (o:List Int),i≤8→8 - i<m→o.length≤1000000+i→zbc m R (i:Int) x2 x3 o a k0=k0 x2 x3 (o++a.drop i)
 | 0,i,_,_,h,_=>by omega
 | m+1,i,o,h1,h2,h3=>by
  simp only [zbc,zy9]
  by_cases hi:i<8
  ·have ih:=zwh R ha x2 x3 k0 m (i+1) (o++[a.getD i 0]) (by omega) (by omega) (by simp; omega)
   have hd:decide ((i:Int)<8)=true:=by simp; omega
   have hbn:bnd (i:Int) 8=true:=by unfold bnd; simp; omega
   have hc:∀y:Int,decide (List.length o+List.length [y]≤140737488355328)=true:=fun y=>by simp; omega
   simp only [hd,hbn,Int.toNat_natCast,hc];rw [wrap_i64 (n:=(i:Int)+1) (by omega) (by omega),Wi (by omega)];simp only [List.append_assoc,List.cons_append,List.nil_append] at ih;exact ih
  ·have:i=8:=by omega
   subst this;rw [List.drop_of_length_le (by omega),List.append_nil];rfl
theorem AllU8.app {a b:List Int} (ha:AllU8 a) (hb:AllU8 b):AllU8 (a++b):=fun x hx=>(List.mem_append.1 hx).elim (ha x) (hb x)
theorem F24_eq (R:Type) {a b:List Int} (ha:H32 a) (hb:H32 b) {e:Int} (he:0≤e∧e<18446744073709551616) (k:List Int→Option R):F24 R a e b k=k (Sw a e b):=by
 simp only [F24,p24];rw [zog R ha.1,zwo R he];refine (zwh R (Kr e) b _ _ FUEL 0 a (by omega) (by rw [Al]; omega) (by rw [ha.1]; omega)).trans ?_;simp only [List.drop_zero];rw [zog R hb.1];have hc:decide (List.length (a++putS e)+List.length b≤140737488355328)=true:=by simp [ha.1,hb.1,Kr]
 simp only [hc];rw [zwn R ((ha.2.app (O7 e)).app hb.2) (by simp [ha.1,hb.1,Kr])];rw [List.append_assoc];rfl
theorem fit_h32 {x:List Int} (h:Fit (.arr 32 (.int .u8)) x):H32 x:=⟨h.1,fun y hy=>by have:=fit_u8 (h.2 y hy); unfold U8; omega⟩
end Go.PG
namespace Go.PG
end Go.PG
namespace Go.PG
theorem zft {st l:List Int} (hl:H32 l) {i:Nat} (hi:i<8):H32 (Gi st l i):=by
 refine ⟨by unfold Gi; rw [zj9 (by simp [Bu,hl.1]; omega)]; exact hl.1,?_⟩;unfold Gi lay;refine AllU8.app (AllU8.app (fun x hx=>hl.2 x (List.mem_of_mem_take hx)) ?_) (fun x hx=>hl.2 x (List.mem_of_mem_drop hx));intro y hy;simp only [Bu,List.mem_cons,List.not_mem_nil,or_false] at hy;unfold U8;omega
theorem Rk (st:List Int):∀(is:List Nat) {l:List Int},(∀i∈is,i<8)→H32 l→H32 (is.foldl (Gi st) l)
 | [],_,_,hl=>hl
 | i::is,_,h,hl=>Rk st is (fun j hj=>h j (List.mem_cons_of_mem _ hj)) (zft hl (h i List.mem_cons_self))
theorem W8 (m:List Int):H32 (SHA m):=by
 unfold SHA ztb;refine Rk _ _ (fun i hi=>?_) A1;rw [List.mem_range'] at hi;obtain ⟨j,hj,rfl⟩:=hi;omega
def Np (a:List Int) (d i:Int):List Int:=SHA (a++(putS d++putS i))
theorem zlu (a:List Int) (d i:Int):H32 (Np a d i):=W8 _
theorem F259_eq (R:Type) {a:List Int} (ha:H32 a) (d i:Int) (k:List Int→Option R):F259 R a d i k=k (Np a d i):=by
 simp only [F259,p259];rw [X7,X7];simp only [zc4 ha,take8];rw [zoa R (fun p hp=>by
  simp only [List.mem_cons,List.not_mem_nil,or_false] at hp;rcases hp with rfl | rfl | rfl
  ·exact ha.2
  ·exact O7 d
  ·exact O7 i) (by simp [ha.1,Kr]) (by simp)]
 simp [Np]
def U64 (x:Int):Prop:=0≤x∧x<18446744073709551616
theorem Un (b:BitVec 64):IntKind.u64.wrap ((b.toNat:Nat):Int)=(b.toNat:Int):=by
 have:=b.isLt;exact Aj (by omega) (by omega)
theorem zta (a b:Int):iand .u64 a b=((BitVec.ofInt 64 a&&& BitVec.ofInt 64 b).toNat:Int):=Un _
theorem zaj (a b:Int):ior .u64 a b=((BitVec.ofInt 64 a||| BitVec.ofInt 64 b).toNat:Int):=Un _
theorem zkj {x:Int} (hx:U64 x) (n:Nat) (hn:n<64):iand .u64 x ((2^n - 1:Nat):Int)=x % 2^n:=by
 unfold U64 at hx;obtain ⟨y,rfl⟩:∃y:Nat,x=y:=⟨x.toNat,by omega⟩
 have h1:(2:Nat)^n<2^64:=Nat.pow_lt_pow_right (by omega) hn;have h0:0<(2:Nat)^n:=Nat.pow_pos (by omega);rw [zta,BitVec.ofInt_natCast,BitVec.ofInt_natCast,BitVec.toNat_and,BitVec.toNat_ofNat,BitVec.toNat_ofNat,Nat.mod_eq_of_lt (by omega),Nat.mod_eq_of_lt (by omega),Nat.and_two_pow_sub_one_eq_mod];simp
def bitS (a:List Int) (d n:Int):Int:=(Np a d (n/256)).getD (n % 256/8).toNat 0/2^(7 - n % 8).toNat % 2
end Go.PG
namespace Go.PG
abbrev Cm:=Int×(List Int×(Bool×(List Int×Unit)))
abbrev zC:Cm:=((0:Int),(List.replicate 32 (0:Int)),false,(List.replicate 32 (0:Int)),())
def I64 (x:Int):Prop:= -9223372036854775808≤x∧x<9223372036854775808
structure CmOK (c:Cm):Prop where
 who:I64 c.1
 hash:H32 c.2.1
 value:H32 c.2.2.2.1
def CsOK (l:List Cm):Prop:=∀c∈l,CmOK c
theorem zC_ok:CmOK zC:=⟨by show I64 0; unfold I64; omega,A1,A1⟩
theorem CsOK.get {l:List Cm} (h:CsOK l) (i:Nat):CmOK (l.getD i zC):=by
 rw [List.getD_eq_getElem?_getD];cases hi:l[i]? with
 | none=>exact zC_ok
 | some c=>exact h c (List.mem_of_getElem? hi)
theorem zd5:∀{a b:List Int},a.length=b.length→eqvL (Kd.eqv (.int .u8)) a b=decide (a=b)
 | [],[],_=>rfl
 | x::xs,y::ys,h=>by
  simp only [eqvL,zd5 (a:=xs) (b:=ys) (by simpa using h)]
  by_cases e:x=y
  ·subst e; simp [Kd.eqv]
  ·simp [Kd.eqv,e]
theorem Ew {a b:List Int} (ha:a.length=32) (hb:b.length=32):Kd.eqv (.arr 32 (.int .u8)) a b=decide (a=b):=zd5 (by rw [ha,hb])
def Gj (f:Nat→Bool):Nat→Nat→Bool
 | 0,_=>true
 | d+1,i=>f i&&Gj f d (i+1)
theorem F3 {f:Nat→Bool}:∀{d i:Nat},Gj f d i=true↔∀j,i≤j→j<i+d→f j=true
 | 0,i=>⟨fun _ j h1 h2=>by omega,fun _=>rfl⟩
 | d+1,i=>by
  simp only [Gj,Bool.and_eq_true,F3 (d:=d)];constructor
  ·rintro ⟨h1,h2⟩ j h3 h4
   by_cases e:j=i
   ·subst e; exact h1
   ·exact h2 j (by omega) (by omega)
  ·intro h
   exact ⟨h i (by omega) (by omega),fun j h1 h2=>h j (by omega) (by omega)⟩
def Jg (c:Cm):Bool:=decide (0≤c.1)&&match c.2.2.1 with
 | true=>decide (SHA c.2.2.2.1=c.2.1)
 | false=>decide (c.2.2.2.1=Ce)
def D6 (l:List Cm) (i:Nat):Bool:=Jg (l.getD i zC)&&(Nat.beq i 0||decide ((l.getD (i - 1) zC).1<(l.getD i zC).1))
def Dq (l:List Cm):Bool:=Gj (D6 l) l.length 0
theorem Yn (x:List Int):(SHA x).length=32:=by
 exact (W8 x).1
theorem F199_eq (R:Type) {c:Cm} (h:CmOK c) (k:Bool→Option R):F199 R c k=k (Jg c):=by
 obtain ⟨a1,a2,a3,a4,⟨⟩⟩:=c;simp only [F199,p199,Jg];have hv:H32 a4:=h.value;have hh:H32 a2:=h.hash
 by_cases h0:(0:Int)≤a1
 ·have hd:decide (a1≥(0:Int))=true:=decide_eq_true h0
  have hd':decide ((0:Int)≤a1)=true:=decide_eq_true h0;simp only [hd,hd',Bool.true_and];cases a3 with
  | true=>
   simp only;rw [zov R hv,Ew (Yn _) hh.1]
  | false=>
   simp only;rw [show List.replicate 32 (0:Int)=Ce from rfl,Ew hv.1 A1.1]
 ·have hd:decide (a1≥(0:Int))=false:=decide_eq_false h0
  have hd':decide ((0:Int)≤a1)=false:=decide_eq_false h0;simp only [hd,hd',Bool.false_and];cases a3<;>rfl
theorem zmv (R:Type) {l:List Cm} (h:CsOK l) (hn:l.length≤1000) (k0:Bool→Option R) (k1:Option R):∀(m i:Nat),i≤l.length→l.length - i<m→
  Qp m R l l (l.length:Int) (i:Int) k0 k1=match Gj (D6 l) (l.length - i) i with | true=>k1 | false=>k0 false
 | 0,i,_,h=>by omega
 | m+1,i,h1,h2=>by
  simp only [Qp,ziq]
  by_cases hi:i<l.length
  ·have hd:decide ((i:Int)<(l.length:Int))=true:=by simpa using hi
   have hbn:bnd (i:Int) (l.length:Int)=true:=by unfold bnd; simp; omega
   have ih:=zmv R h hn k0 k1 m (i+1) (by omega) (by omega);have hw:IntKind.i64.wrap ((i:Int)+1)=((i+1:Nat):Int):=by rw [wrap_i64 (by omega) (by omega)]; omega
   simp only [hd,hbn,Int.toNat_natCast];rw [F199_eq R (h.get i),hw,show l.length - i=(l.length - (i+1))+1 by omega];simp only [Gj];cases hr:Jg (l.getD i zC) with
   | false=>
    have e2:D6 l i=false:=by simp only [D6,hr,Bool.false_and]
    simp only [e2,Bool.false_and,Bool.not_false]
   | true=>
    simp only [Bool.not_true]
    by_cases h0:i=0
    ·subst h0
     have e1:decide (((0:Nat):Int)>0)=false:=by simp
     have e2:D6 l 0=true:=by simp [D6]; exact hr
     simp only [e1,e2,Bool.true_and];exact ih
    ·have e1:decide ((i:Int)>0)=true:=decide_eq_true (by omega)
     have e3:IntKind.i64.wrap ((i:Int) - 1)=((i - 1:Nat):Int):=by rw [wrap_i64 (by omega) (by omega)]; omega
     have e4:bnd ((i - 1:Nat):Int) (l.length:Int)=true:=by unfold bnd; simp; omega
     have e5:Nat.beq i 0=false:=by
      cases hb:Nat.beq i 0 with
      | false=>rfl
      | true=>exact absurd (Nat.eq_of_beq_eq_true hb) h0
     simp only [e1,e3,e4,Int.toNat_natCast]
     by_cases hlt:(l.getD (i - 1) zC).1<(l.getD i zC).1
     ·have e6:decide ((l.getD (i - 1) zC).1≥(l.getD i zC).1)=false:=decide_eq_false (by omega)
      have e2:D6 l i=true:=by simp only [D6,hr,e5,decide_eq_true hlt,Bool.or_true,Bool.and_self]
      simp only [e6,e2,Bool.true_and];exact ih
     ·have e6:decide ((l.getD (i - 1) zC).1≥(l.getD i zC).1)=true:=decide_eq_true (by omega)
      have e2:D6 l i=false:=by simp only [D6,hr,e5,decide_eq_false hlt,Bool.or_self,Bool.and_false]
      simp only [e6,e2,Bool.false_and]
  ·have:i=l.length:=by omega
   subst this;have hd:decide ((l.length:Int)<(l.length:Int))=false:=by simp
   simp only [hd,Nat.sub_self,Gj]
theorem zcp (R:Type) {l:List Cm} (h:CsOK l) (hn:l.length≤1000) (k:Bool→Option R):F161 R l k=k (Dq l):=by
 simp only [F161,p161];refine (zmv R h hn (fun x2=>k x2) (k true) FUEL 0 (by omega) (by rw [Al]; omega)).trans ?_;unfold Dq;rw [Nat.sub_zero];cases Gj (D6 l) l.length 0<;>rfl
end Go.PG
namespace Go.PG
theorem Bv {i n:Nat} (h:i<n) (hn:n≤1000):IntKind.i64.wrap ((i:Int)+1)=((i+1:Nat):Int):=by rw [wrap_i64 (by omega) (by omega)]; omega
theorem A5 {i n:Nat} (h:i<n):bnd (i:Int) (n:Int)=true:=by unfold bnd; simp; omega
theorem C4 {i n:Nat} (h:i<n):decide ((i:Int)<(n:Int))=true:=by simpa using h
theorem Co (n:Nat):decide ((n:Int)<(n:Int))=false:=by simp
structure G0 (l:List Cm):Prop where
 each:∀c∈l,Jg c=true
 ord:∀i j,i<j→j<l.length→(l.getD i zC).1<(l.getD j zC).1
theorem I3 {l:List Cm} {i:Nat} (h:i<l.length):l.getD i zC∈l:=by
 rw [List.getD_eq_getElem?_getD,List.getElem?_eq_getElem h]; exact List.getElem_mem h
theorem Og {l:List Cm} {c:Cm} (h:c∈l):∃i,i<l.length∧l.getD i zC=c:=by
 obtain ⟨i,hi,e⟩:=List.getElem_of_mem h;exact ⟨i,hi,by rw [List.getD_eq_getElem?_getD,List.getElem?_eq_getElem hi]; exact e⟩
theorem D4 {l:List Cm}:Dq l=true↔G0 l:=by
 unfold Dq;rw [F3];constructor
 ·intro h
  have hat:∀i,i<l.length→Jg (l.getD i zC)=true∧(i=0∨(l.getD (i - 1) zC).1<(l.getD i zC).1):=by
   intro i hi;have:=h i (by omega) (by omega);simp only [D6,Bool.and_eq_true,Bool.or_eq_true,decide_eq_true_eq] at this;refine ⟨this.1,?_⟩;rcases this.2 with h1 | h1
   ·exact .inl (Nat.eq_of_beq_eq_true h1)
   ·exact .inr h1
  refine ⟨fun c hc=>?_,fun i j hij hj=>?_⟩
  ·obtain ⟨i,hi,rfl⟩:=Og hc
   exact (hat i hi).1
  ·induction j with
   | zero=>omega
   | succ j ih=>
    have h1:=(hat (j+1) hj).2;rcases h1 with h1 | h1
    ·omega
    ·rw [Nat.add_sub_cancel] at h1
     by_cases e:i=j
     ·subst e; exact h1
     ·have:=ih (by omega) (by omega)
      omega
 ·intro h j _ hj
  simp only [D6,Bool.and_eq_true,Bool.or_eq_true,decide_eq_true_eq];refine ⟨h.each _ (I3 (by omega)),?_⟩
  by_cases e:j=0
  ·subst e; exact .inl rfl
  ·exact .inr (h.ord _ _ (by omega) (by omega))
def Aw:List Cm→Int→Nat
 | [],_=>0
 | c::l,w=>if c.1<w then Aw l w+1 else 0
theorem O8:∀(l:List Cm) (w:Int),Aw l w≤l.length
 | [],_=>Nat.le_refl _
 | c::l,w=>by
  have:=O8 l w;simp only [Aw,List.length_cons];split<;>omega
theorem S6:∀(l:List Cm) (w:Int) (i:Nat),i<Aw l w→(l.getD i zC).1<w
 | [],_,i,h=>by simp [Aw] at h
 | c::l,w,i,h=>by
  simp only [Aw] at h;split at h
  ·rename_i hc
   cases i with
   | zero=>simpa using hc
   | succ i=>have:=S6 l w i (by omega); simpa using this
  ·omega
theorem zhy:∀(l:List Cm) (w:Int),Aw l w<l.length→w≤(l.getD (Aw l w) zC).1
 | [],_,h=>by simp [Aw] at h
 | c::l,w,h=>by
  simp only [Aw] at h ⊢;split
  ·rename_i hc
   rw [if_pos hc] at h;have:=zhy l w (by simpa using h);simpa using this
  ·rename_i hc; simp; omega
theorem O9 {l:List Cm} (h:G0 l) (w:Int) {i:Nat} (h1:Aw l w≤i) (h2:i<l.length):w≤(l.getD i zC).1:=by
 have:=zhy l w (by omega)
 by_cases e:i=Aw l w
 ·rw [e]; exact this
 ·have:=h.ord (Aw l w) i (by omega) h2
  omega
def Ck (l:List Cm) (w:Int):Bool:=decide (Aw l w<l.length)&&decide ((l.getD (Aw l w) zC).1=w)
theorem zez (R:Type) (a b:Int) (k:Int→Option R):F202 R a b k=k (if a<b then -1 else if a>b then 1 else 0):=by
 simp only [F202,p202,F227,p227,bne_self_eq_false]
 by_cases h:a<b
 ·simp only [decide_eq_true h,if_pos h]
 ·simp only [decide_eq_false h,if_neg h]
  by_cases h2:a>b
  ·simp only [decide_eq_true h2,if_pos h2]
  ·simp only [decide_eq_false h2,if_neg h2]
theorem ztc {i j:Nat} (hi:i≤1000) (hj:j≤1000):IntKind.i64.wrap (ishr .u64 (IntKind.u64.wrap (IntKind.i64.wrap ((i:Int)+(j:Int)))) 1)=(((i+j)/2:Nat):Int):=by
 rw [wrap_i64 (n:=(i:Int)+(j:Int)) (by omega) (by omega),Aj (by omega) (by omega)];have:=zx7 (x:=(i:Int)+(j:Int)) 1 (by omega);rw [show ishr .u64 ((i:Int)+(j:Int)) 1=((i:Int)+(j:Int))/2^1 from this,wrap_i64 (by omega) (by omega)];omega
theorem Nc (R:Type) {l:List Cm} (h:G0 l) (hn:l.length≤1000) (w:Int) (k0:List Cm→Int→Int→Int→Option R):∀(m i j:Nat),i≤Aw l w→Aw l w≤j→j≤l.length→j - i<m→
  Bf m R l w (l.length:Int) (i:Int) (j:Int) k0=k0 l w (l.length:Int) (Aw l w:Int)
 | 0,i,j,_,_,_,h=>by omega
 | m+1,i,j,h1,h2,h3,h4=>by
  simp only [Bf,Kv]
  by_cases hij:i<j
  ·have e1:=ztc (i:=i) (j:=j) (by omega) (by omega)
   have hq:(i+j)/2<l.length:=by omega
   simp only [C4 hij,e1,A5 hq,Int.toNat_natCast,F201,p201];rw [zez]
   by_cases hp:(i+j)/2<Aw l w
   ·have hlt:=S6 l w _ hp
    simp only [if_pos hlt,show decide ((-1:Int)<0)=true from rfl];rw [Bv (n:=l.length) hq hn];exact Nc R h hn w k0 m ((i+j)/2+1) j (by omega) h2 h3 (by omega)
   ·have hge:=O9 h w (i:=(i+j)/2) (by omega) hq
    have hd:∀z:Int,0≤z→decide (z<0)=false:=fun z hz=>decide_eq_false (by omega)
    rw [hd _ (by rw [if_neg (Int.not_lt.2 hge)]; split<;>omega)];exact Nc R h hn w k0 m i ((i+j)/2) h1 (by omega) (by omega) (by omega)
  ·have e1:decide ((i:Int)<(j:Int))=false:=decide_eq_false (by omega)
   simp only [e1];rw [show i=Aw l w by omega]
theorem zoy (R:Type) {l:List Cm} (h:G0 l) (hn:l.length≤1000) (w:Int) (k:Int→Bool→Option R):F162 R l w k=k (Aw l w:Int) (Ck l w):=by
 simp only [F162,p162,Eb,Yx];refine (Nc R h hn w _ FUEL 0 l.length (by omega) (O8 l w) (Nat.le_refl _) (by rw [Al]; omega)).trans ?_;have hp:=O8 l w;unfold Ck
 by_cases hlt:Aw l w<l.length
 ·simp only [C4 hlt,A5 hlt,Int.toNat_natCast,F201,p201,decide_eq_true hlt,Bool.true_and]
  rw [zez];have hge:=O9 h w (Nat.le_refl _) hlt
  by_cases e:(l.getD (Aw l w) zC).1=w
  ·rw [if_neg (Int.not_lt.2 hge),if_neg (show ¬(l.getD (Aw l w) zC).1>w by omega),decide_eq_true e]; rfl
  ·rw [if_neg (Int.not_lt.2 hge),if_pos (show (l.getD (Aw l w) zC).1>w by omega),decide_eq_false e]; rfl
 ·have e1:decide ((Aw l w:Int)<(l.length:Int))=false:=decide_eq_false (by omega)
  simp only [e1,decide_eq_false hlt,Bool.false_and]
end Go.PG
namespace Go.PG
theorem zox (R:Type) {l:List Cm} (hn:l.length≤1000) (k:List Cm→Option R):F164 R l k=k l:=by
 have:decide (List.length ([]:List Cm)+l.length≤1759218604441)=true:=decide_eq_true (by simp; omega);simp only [F164,this]
def newC (w:Int) (h:List Int):Cm:=(w,h,false,Ce,())
def putL (l:List Cm) (w:Int) (h:List Int):List Cm:=l.take (Aw l w)++[newC w h]++l.drop (Aw l w)
def Ji (l:List Cm) (w:Int) (h:List Int):List Cm×Int:=
 if w<0∨Dq l=false then ([],1) else if Ck l w then ([],6) else (putL l w h,0)
theorem F116_eq (R:Type) {l:List Cm} (h:CsOK l) (hn:l.length≤500) (w:Int) (x:List Int) (k:List Cm→Int→Option R):F116 R l w x k=k (Ji l w x).1 (Ji l w x).2:=by
 simp only [F116,p116,Ji]
 by_cases hw:w<0
 ·simp only [decide_eq_true hw,if_pos (Or.inl hw)]
 ·simp only [decide_eq_false hw]
  rw [zcp R h (by omega)];cases hr:Dq l with
  | false=>simp only [Bool.not_false,or_true,if_true]
  | true=>
   have hn1:¬(w<0∨true=false):=by simp; omega
   simp only [Bool.not_true,if_neg hn1];rw [zoy R (D4.1 hr) (by omega)];cases ht:Ck l w with
   | true=>simp only [if_true]
   | false=>
    have hp:=O8 l w;have hc:decide ((0:Int)≤(Aw l w:Int)∧(Aw l w:Int)≤(l.length:Int)∧l.length+1≤1759218604441)=true:=decide_eq_true ⟨by omega,by omega,by omega⟩;simp only [Bool.false_eq_true,if_false];rw [zox R (by omega)];simp only [List.length_cons,List.length_nil,Nat.zero_add,hc,Int.toNat_natCast];rfl
def setL (l:List Cm) (i:Nat) (v:List Int):List Cm:=l.set i ((l.getD i zC).1,(l.getD i zC).2.1,true,v,())
def revS (l:List Cm) (w:Int) (v:List Int):List Cm×Int:=
 if Dq l=false then ([],1) else if Ck l w=false then ([],5) else if (l.getD (Aw l w) zC).2.2.1 then ([],6)
 else if SHA v=(l.getD (Aw l w) zC).2.1 then (setL l (Aw l w) v,0) else ([],13)
theorem zqu {l:List Cm} {i:Nat} (hi:i<l.length) (v:List Int):
  List.set (List.set l i ((List.getD l i zC).1,(List.getD l i zC).2.1,true,(List.getD l i zC).2.2.2)) i
   ((List.getD (List.set l i ((List.getD l i zC).1,(List.getD l i zC).2.1,true,(List.getD l i zC).2.2.2)) i zC).1,(List.getD (List.set l i ((List.getD l i zC).1,(List.getD l i zC).2.1,true,(List.getD l i zC).2.2.2)) i zC).2.1,(List.getD (List.set l i ((List.getD l i zC).1,(List.getD l i zC).2.1,true,(List.getD l i zC).2.2.2)) i zC).2.2.1,v,(List.getD (List.set l i ((List.getD l i zC).1,(List.getD l i zC).2.1,true,(List.getD l i zC).2.2.2)) i zC).2.2.2.2)=setL l i v:=by
 have e:List.getD (List.set l i ((List.getD l i zC).1,(List.getD l i zC).2.1,true,(List.getD l i zC).2.2.2)) i zC=((List.getD l i zC).1,(List.getD l i zC).2.1,true,(List.getD l i zC).2.2.2):=by
  rw [List.getD_eq_getElem?_getD,List.getElem?_set_self hi]; rfl
 rw [e,List.set_set];rfl
theorem F118_eq (R:Type) {l:List Cm} (h:CsOK l) (hn:l.length≤500) (w:Int) {v:List Int} (hv:H32 v) (k:List Cm→Int→Option R):F118 R l w v k=k (revS l w v).1 (revS l w v).2:=by
 simp only [F118,p118,revS];rw [zcp R h (by omega)];cases hr:Dq l with
 | false=>simp only [Bool.not_false,if_pos]
 | true=>
  simp only [Bool.not_true,Bool.true_eq_false,if_false];rw [zoy R (D4.1 hr) (by omega)];cases ht:Ck l w with
  | false=>simp only [Bool.not_false,if_pos]
  | true=>
   have hp:Aw l w<l.length:=by
    unfold Ck at ht;rw [Bool.and_eq_true] at ht;exact of_decide_eq_true ht.1
   simp only [Bool.not_true,Bool.true_eq_false,if_false,A5 hp,Int.toNat_natCast];cases hd:(l.getD (Aw l w) zC).2.2.1 with
   | true=>simp only [if_pos]
   | false=>
    simp only [Bool.false_eq_true,if_false];rw [zov R hv,Ew (Yn v) (h.get _).hash.1]
    by_cases hs:SHA v=(l.getD (Aw l w) zC).2.1
    ·simp only [decide_eq_true hs,Bool.not_true,if_pos hs]
     rw [zox R (by omega)];have hq:Aw l w<(List.set l (Aw l w) ((List.getD l (Aw l w) zC).1,(List.getD l (Aw l w) zC).2.1,true,(List.getD l (Aw l w) zC).2.2.2)).length:=by rw [List.length_set]; exact hp
     simp only [A5 hp,A5 hq,zqu hp]
    ·simp only [decide_eq_false hs,Bool.not_false,if_neg hs]
end Go.PG
namespace Go.PG
def Dm (l:List Cm):List (List Int):=(l.filter (fun c=>c.2.2.1)).map (fun c=>c.2.2.2.1)
def mixS (l:List Cm):List Int:=En (Dm l)
def Cp (l:List Cm):List Int:=(l.filter (fun c=> !c.2.2.1)).map (fun c=>c.1)
theorem Sk {l:List Cm} (h:CsOK l):∀x∈Dm l,H32 x:=by
 intro x hx;obtain ⟨c,hc,rfl⟩:=List.mem_map.1 hx;exact (h c (List.mem_filter.1 hc).1).value
theorem zi8 {l:List Cm} (h:CsOK l):H32 (mixS l):=On (Sk h)
theorem Is (c:Cm) (l:List Cm):Dm (c::l)=match c.2.2.1 with | true=>c.2.2.2.1::Dm l | false=>Dm l:=by
 unfold Dm;rw [List.filter_cons];cases c.2.2.1<;>rfl
theorem Ri (c:Cm) (l:List Cm):Cp (c::l)=match c.2.2.1 with | true=>Cp l | false=>c.1::Cp l:=by
 unfold Cp;rw [List.filter_cons];cases c.2.2.1<;>rfl
theorem zbg (R:Type) {l:List Cm} (h:CsOK l) (hn:l.length≤1000) (k0:List Int→Option R):∀(m i:Nat) (x:List Int),H32 x→i≤l.length→l.length - i<m→
  Qo m R l (l.length:Int) (i:Int) x k0=k0 ((Dm (l.drop i)).foldl xorS x)
 | 0,i,_,_,_,h=>by omega
 | m+1,i,x,hx,h1,h2=>by
  simp only [Qo,zio]
  by_cases hi:i<l.length
  ·have g1:l.getD i zC=l[i]:=by simp [hi]
   have hc:=h.get i;rw [g1] at hc;simp only [C4 hi,A5 hi,Int.toNat_natCast,Bv hi hn];rw [show List.getD l i ((0:Int),(List.replicate 32 (0:Int)),false,(List.replicate 32 (0:Int)),())=l[i] from g1];rw [List.drop_eq_getElem_cons hi,Is];cases hb:l[i].2.2.1 with
   | true=>
    simp only;rw [zwm R (fun y hy=>by
     simp only [List.mem_cons,List.not_mem_nil,or_false] at hy;rcases hy with rfl | rfl
     ·exact hx
     ·exact hc.value) (by simp)]
    have e:En [x,l[i].2.2.2.1]=xorS x l[i].2.2.2.1:=by
     show xorS (xorS Ce x) _=_;rw [xor0 hx]
    rw [e];exact zbg R h hn k0 m (i+1) _ (Si hx hc.value) (by omega) (by omega)
   | false=>exact zbg R h hn k0 m (i+1) _ hx (by omega) (by omega)
  ·have:i=l.length:=by omega
   subst this;simp only [Co,List.drop_length];rfl
theorem zow (R:Type) {l:List Cm} (h:CsOK l) (hn:l.length≤1000) (k:List Int→Option R):F165 R l k=k (mixS l):=by
 simp only [F165,p165];exact zbg R h hn (fun x2=>k x2) FUEL 0 Ce A1 (by omega) (by rw [Al]; omega)
theorem zfq {l:List Cm} {i:Nat} (hi:i<l.length):Cp (l.take (i+1))=Cp (l.take i)++Cp [l[i]]:=by
 unfold Cp;rw [List.take_succ_eq_append_getElem hi,List.filter_append,List.map_append]
theorem Td (l:List Cm):(Cp l).length≤l.length:=by
 unfold Cp;rw [List.length_map];exact List.length_filter_le _ _
theorem zew (R:Type) {l:List Cm} (hn:l.length≤1000) (k0:List Int→Option R):∀(m i:Nat),i≤l.length→l.length - i<m→
  Qi m R l (l.length:Int) (i:Int) (Cp (l.take i)) k0=k0 (Cp l)
 | 0,i,_,h=>by omega
 | m+1,i,h1,h2=>by
  simp only [Qi,zie]
  by_cases hi:i<l.length
  ·have g1:l.getD i zC=l[i]:=by simp [hi]
   have ih:=zew R hn k0 m (i+1) (by omega) (by omega);simp only [C4 hi,A5 hi,Int.toNat_natCast,Bv hi hn];rw [show List.getD l i ((0:Int),(List.replicate 32 (0:Int)),false,(List.replicate 32 (0:Int)),())=l[i] from g1];rw [zfq hi,Ri] at ih;have hle:=Td (l.take i);have hc:decide ((Cp (l.take i)).length+1≤17592186044416)=true:=decide_eq_true (by simp at hle; omega);have e:Cp ([]:List Cm)=[]:=rfl;cases hb:l[i].2.2.1 with
   | true=>
    rw [hb] at ih;simp only [e,List.append_nil] at ih;exact ih
   | false=>
    rw [hb] at ih;simp only [List.length_cons,List.length_nil,Nat.zero_add,Bool.not_false,hc];exact ih
  ·have:i=l.length:=by omega
   subst this;simp only [Co,List.take_length]
theorem zu5 (R:Type) {l:List Cm} (hn:l.length≤1000) (k:List Int→Option R):F205 R l k=k (Cp l):=by
 simp only [F205,p205];exact zew R hn (fun x2=>k x2) FUEL 0 (by omega) (by rw [Al]; omega)
end Go.PG
namespace Go.PG
theorem zfi {w:Int} (hw:¬w<0) (h:List Int):Jg (newC w h)=true:=by
 show (decide (0≤w)&&decide (Ce=Ce))=true;rw [decide_eq_true (show 0≤w by omega),decide_eq_true rfl]; rfl
theorem zzy {w:Int} (hw:I64 w) {h:List Int} (hh:H32 h):CmOK (newC w h):=⟨hw,hh,A1⟩
theorem zyl {l:List Cm} (hl:CsOK l) {w:Int} (hw:I64 w) {h:List Int} (hh:H32 h):CsOK (putL l w h):=by
 intro c hc;unfold putL at hc;rcases List.mem_append.1 hc with h1 | h1
 ·rcases List.mem_append.1 h1 with h2 | h2
  ·exact hl c (List.mem_of_mem_take h2)
  ·simp only [List.mem_cons,List.not_mem_nil,or_false] at h2
   rw [h2]; exact zzy hw hh
 ·exact hl c (List.mem_of_mem_drop h1)
theorem zq8 (l:List Cm) (w:Int) (h:List Int):(putL l w h).length=l.length+1:=by
 have:=O8 l w;simp [putL]; omega
theorem Vl {l:List Cm} (hl:CsOK l) {w:Int} (hw:I64 w) {h:List Int} (hh:H32 h):CsOK (Ji l w h).1∧(Ji l w h).1.length≤l.length+1:=by
 unfold Ji;split
 ·exact ⟨fun c hc=>(by cases hc),by simp⟩
 ·split
  ·exact ⟨fun c hc=>(by cases hc),by simp⟩
  ·exact ⟨zyl hl hw hh,Nat.le_of_eq (zq8 l w h)⟩
theorem zx9 {l:List Cm} (hl:CsOK l) (i:Nat) {v:List Int} (hv:H32 v):CsOK (setL l i v):=by
 intro c hc;rcases List.mem_or_eq_of_mem_set hc with h1 | h1
 ·exact hl c h1
 ·rw [h1]
  have:=hl.get i;exact ⟨this.who,this.hash,hv⟩
theorem zdc (l:List Cm) (i:Nat) (v:List Int):(setL l i v).length=l.length:=by unfold setL; exact List.length_set
theorem zho {l:List Cm} (hl:CsOK l) (w:Int) {v:List Int} (hv:H32 v):CsOK (revS l w v).1∧(revS l w v).1.length≤l.length:=by
 have nil:CsOK []∧([]:List Cm).length≤l.length:=⟨fun c hc=>(by cases hc),by simp⟩
 unfold revS;split
 ·exact nil
 ·split
  ·exact nil
  ·split
   ·exact nil
   ·split
    ·exact ⟨zx9 hl _ hv,Nat.le_of_eq (zdc _ _ _)⟩
    ·exact nil
end Go.PG
namespace Go.PG
theorem Od {l:List Cm} {w:Int} (h:Ck l w=true):Aw l w<l.length∧(l.getD (Aw l w) zC).1=w:=by
 unfold Ck at h;rw [Bool.and_eq_true] at h;exact ⟨of_decide_eq_true h.1,of_decide_eq_true h.2⟩
theorem zqx {l:List Cm} {i:Nat} (hi:i<l.length) (v:List Int) (j:Nat):(setL l i v).getD j zC=if j=i then ((l.getD i zC).1,(l.getD i zC).2.1,true,v,()) else l.getD j zC:=by
 unfold setL;rw [List.getD_eq_getElem?_getD,List.getElem?_set]
 by_cases e:i=j
 ·subst e; rw [if_pos rfl,if_pos rfl,if_pos hi]; rfl
 ·rw [if_neg e,if_neg (fun h=>e h.symm),←List.getD_eq_getElem?_getD]
theorem zfd {l:List Cm} (h:G0 l) {i:Nat} (hi:i<l.length) {v:List Int} (hs:SHA v=(l.getD i zC).2.1):G0 (setL l i v):=by
 have hw:∀j,((setL l i v).getD j zC).1=(l.getD j zC).1:=by
  intro j;rw [zqx hi];split
  ·rename_i e; subst e; rfl
  ·rfl
 refine ⟨fun c hc=>?_,fun a b hab hb=>?_⟩
 ·rcases List.mem_or_eq_of_mem_set hc with h1 | h1
  ·exact h.each c h1
  ·rw [h1]
   have:=h.each _ (I3 hi);simp only [Jg,Bool.and_eq_true,decide_eq_true_eq] at this;show (decide (0≤(l.getD i zC).1)&&decide (SHA v=(l.getD i zC).2.1))=true;rw [decide_eq_true this.1,decide_eq_true hs]; rfl
 ·rw [hw,hw]
  exact h.ord a b hab (by rw [zdc] at hb; exact hb)
theorem Sr {l:List Cm} {i:Nat} (hi:i<l.length):l=l.take i++l.getD i zC::l.drop (i+1):=by
 have g:l.getD i zC=l[i]:=by simp [hi]
 rw [g];simp
theorem Q9 {l:List Cm} {i:Nat} (hi:i<l.length) (v:List Int):setL l i v=l.take i++((l.getD i zC).1,(l.getD i zC).2.1,true,v,())::l.drop (i+1):=by
 unfold setL;rw [List.set_eq_take_append_cons_drop,if_pos hi]
theorem Ep (a b:List Cm):Dm (a++b)=Dm a++Dm b:=by unfold Dm; rw [List.filter_append,List.map_append]
theorem zdb {l:List Cm} (hl:CsOK l) {i:Nat} (hi:i<l.length) (hd:(l.getD i zC).2.2.1=false) {v:List Int} (hv:H32 v):mixS (setL l i v)=En [mixS l,v]:=by
 have e1:Dm l=Dm (l.take i)++Dm (l.drop (i+1)):=by
  have h:Dm l=Dm (l.take i++l.getD i zC::l.drop (i+1)):=congrArg Dm (Sr hi);rw [h,Ep,Is,hd]
 have e2:Dm (setL l i v)=Dm (l.take i)++(v::Dm (l.drop (i+1))):=by
  rw [Q9 hi,Ep,Is]
 have hp:(Dm (setL l i v)).Perm (Dm l++[v]):=by
  rw [e1,e2];have:=List.perm_middle (a:=v) (l₁:=Dm (l.take i)) (l₂:=Dm (l.drop (i+1)));refine this.trans ?_;exact (List.perm_append_comm (l₁:=[v]) (l₂:=Dm (l.take i)++Dm (l.drop (i+1))))
 unfold mixS;rw [Yc hp,Sj (Sk hl) (fun x hx=>by simp only [List.mem_cons,List.not_mem_nil,or_false] at hx; rw [hx]; exact hv)];show xorS _ (xorS Ce v)=xorS (xorS Ce _) v
 rw [xor0 hv,xor0 (On (Sk hl))]
end Go.PG
namespace Go.PG
end Go.PG
namespace Go.PG
end Go.PG
namespace Go.PG
abbrev Bea:=Int×(List Int×(List Int×(List Cm×Unit)))
abbrev zB:Bea:=((0:Int),(List.replicate 32 (0:Int)),(List.replicate 32 (0:Int)),([]:List Cm),())
structure Hr (b:Bea):Prop where
 ep:0≤b.1∧b.1<18446744073709551616
 seed:H32 b.2.1
 mix:H32 b.2.2.1
 cs:CsOK b.2.2.2.1
theorem zzx:CsOK []:=fun c hc=>(by cases hc)
theorem Ya:Hr zB:=⟨by show (0:Int)≤0∧(0:Int)<18446744073709551616; omega,A1,A1,zzx⟩
def B4 (b:Bea):Bool:=Dq b.2.2.2.1&&decide (mixS b.2.2.2.1=b.2.2.1)
theorem zoz (R:Type) {b:Bea} (h:Hr b) (hn:b.2.2.2.1.length≤500) (k:Bool→Option R):F160 R b k=k (B4 b):=by
 simp only [F160,p160,B4];rw [zcp R h.cs (by omega)];cases Dq b.2.2.2.1 with
 | false=>simp only [Bool.false_and]
 | true=>
  simp only [Bool.true_and];rw [zow R h.cs (by omega),Ew (zi8 h.cs).1 h.mix.1]
theorem Vm (l:List Cm) (w:Int) (h:List Int):Dm (putL l w h)=Dm l:=by
 unfold putL;rw [Ep,Ep,Is];have e:Dm ([]:List Cm)=[]:=rfl;simp only [newC,e,List.append_nil];rw [←Ep,List.take_append_drop]
theorem zq7 (l:List Cm) (w:Int) (h:List Int):mixS (putL l w h)=mixS l:=by unfold mixS; rw [Vm]
def Kk (b:Bea) (r:List Cm×Int):Bea×Int:=if r.2=0 then ((b.1,b.2.1,mixS r.1,r.1,()),0) else (zB,r.2)
def Cj (b:Bea) (ph w:Int) (h:List Int):Bea×Int:=
 if B4 b=false then (zB,1) else if ph=1 then Kk b (Ji b.2.2.2.1 w h) else (zB,7)
def Ch (b:Bea) (ph w:Int) (v:List Int):Bea×Int:=
 if B4 b=false then (zB,1) else if ph=2 then Kk b (revS b.2.2.2.1 w v) else (zB,7)
theorem zo7 (R:Type) (b:Bea) {l:List Cm} (h:CsOK l) (hn:l.length≤1000) (e:Int) (k:Bea→Int→Option R):F117 R b l e k=k (Kk b (l,e)).1 (Kk b (l,e)).2:=by
 simp only [F117,p117,Kk]
 by_cases he:e=0
 ·subst he
  simp only [show ((0:Int) !=0)=false from rfl,if_true];rw [zow R h hn]
 ·have:(e !=0)=true:=by simp [he]
  simp only [this,if_neg he]
theorem zo8 (R:Type) {b:Bea} (h:Hr b) (hn:b.2.2.2.1.length≤500) (ph w:Int) (k:Int→Option R):F115 R b ph w k=k (if B4 b=false then 1 else if ph=w then 0 else 7):=by
 simp only [F115,p115];rw [zoz R h hn];cases B4 b with
 | false=>simp only [Bool.not_false,if_true]
 | true=>
  simp only [Bool.not_true,Bool.true_eq_false,if_false]
  by_cases e:ph=w
  ·have:(ph !=w)=false:=by simp [e]
   simp only [this,if_pos e]
  ·have:(ph !=w)=true:=by simp [e]
   simp only [this,if_neg e]
theorem F73_eq (R:Type) {b:Bea} (h:Hr b) (hn:b.2.2.2.1.length≤400) (ph:Int) {w:Int} (hw:I64 w) {x:List Int} (hx:H32 x) (k:Bea→Int→Option R):F73 R b ph w x k=k (Cj b ph w x).1 (Cj b ph w x).2:=by
 simp only [F73,p73,Cj];rw [zo8 R h (by omega)];cases B4 b with
 | false=>simp only [if_true,show ((1:Int) !=0)=true from rfl]
 | true=>
  simp only [Bool.true_eq_false,if_false]
  by_cases e:ph=1
  ·simp only [if_pos e,show ((0:Int) !=0)=false from rfl]
   obtain ⟨p1,p2⟩:=Vl h.cs hw hx;rw [F116_eq R h.cs (by omega),zo7 R b p1 (by omega)]
  ·simp only [if_neg e,show ((7:Int) !=0)=true from rfl]
theorem F75_eq (R:Type) {b:Bea} (h:Hr b) (hn:b.2.2.2.1.length≤400) (ph w:Int) {x:List Int} (hx:H32 x) (k:Bea→Int→Option R):F75 R b ph w x k=k (Ch b ph w x).1 (Ch b ph w x).2:=by
 simp only [F75,p75,Ch];rw [zo8 R h (by omega)];cases B4 b with
 | false=>simp only [if_true,show ((1:Int) !=0)=true from rfl]
 | true=>
  simp only [Bool.true_eq_false,if_false]
  by_cases e:ph=2
  ·simp only [if_pos e,show ((0:Int) !=0)=false from rfl]
   obtain ⟨p1,p2⟩:=zho h.cs w hx;rw [F118_eq R h.cs (by omega) _ hx,zo7 R b p1 (by omega)]
  ·simp only [if_neg e,show ((7:Int) !=0)=true from rfl]
abbrev Fol:=Int×(List Int×(List Int×(List Int×Unit)))
abbrev zF:Fol:=((0:Int),(List.replicate 32 (0:Int)),(List.replicate 32 (0:Int)),(List.replicate 32 (0:Int)),())
def bEnd (b:Bea):Bea×Fol×List Int×Int:=
 if B4 b=false then (zB,zF,[],1) else if b.1=18446744073709551615 then (zB,zF,[],3)
 else ((b.1+1,Sw b.2.1 b.1 b.2.2.1,Ce,[],()),(b.1,b.2.1,b.2.2.1,Sw b.2.1 b.1 b.2.2.1,()),Cp b.2.2.2.1,0)
theorem F167_eq (R:Type) {b:Bea} (h:Hr b) (hn:b.2.2.2.1.length≤400) (k:Bea→Fol→List Int→Int→Option R):F167 R b k=k (bEnd b).1 (bEnd b).2.1 (bEnd b).2.2.1 (bEnd b).2.2.2:=by
 simp only [F167,p167,bEnd];rw [zoz R h (by omega)];cases B4 b with
 | false=>simp only [if_true,Bool.not_false]
 | true=>
  simp only [Bool.true_eq_false,if_false,Bool.not_true];have hep:=h.ep
  by_cases e:b.1=18446744073709551615
  ·have e1:(b.1==18446744073709551615)=true:=by simp [e]
   simp only [if_pos e,e1]
  ·have e1:(b.1==18446744073709551615)=false:=by simp [e]
   simp only [if_neg e,e1];rw [zwl R h.seed h.mix,zu5 R (by omega),Aj (by omega) (by omega)];rfl
theorem zcw {b:Bea} (h:Hr b) {r:List Cm×Int} (hr:CsOK r.1) {n:Nat} (hn:r.1.length≤n):Hr (Kk b r).1∧(Kk b r).1.2.2.2.1.length≤n:=by
 unfold Kk;split
 ·exact ⟨⟨h.ep,h.seed,zi8 hr,hr⟩,hn⟩
 ·exact ⟨Ya,Nat.zero_le _⟩
theorem zgi {b:Bea} (h:Hr b) (ph:Int) {w:Int} (hw:I64 w) {x:List Int} (hx:H32 x):Hr (Cj b ph w x).1∧(Cj b ph w x).1.2.2.2.1.length≤b.2.2.2.1.length+1:=by
 obtain ⟨p1,p2⟩:=Vl h.cs hw hx;unfold Cj;split
 ·exact ⟨Ya,Nat.zero_le _⟩
 ·split
  ·exact zcw h p1 p2
  ·exact ⟨Ya,Nat.zero_le _⟩
theorem zgf {b:Bea} (h:Hr b) (ph w:Int) {x:List Int} (hx:H32 x):Hr (Ch b ph w x).1∧(Ch b ph w x).1.2.2.2.1.length≤b.2.2.2.1.length:=by
 obtain ⟨p1,p2⟩:=zho h.cs w hx;unfold Ch;split
 ·exact ⟨Ya,Nat.zero_le _⟩
 ·split
  ·exact zcw h p1 p2
  ·exact ⟨Ya,Nat.zero_le _⟩
theorem zdd (a:List Int) (e:Int) (b:List Int):H32 (Sw a e b):=W8 _
theorem bEnd_ok {b:Bea} (h:Hr b):Hr (bEnd b).1∧(bEnd b).1.2.2.2.1.length=0:=by
 unfold bEnd;split
 ·exact ⟨Ya,rfl⟩
 ·split
  ·exact ⟨Ya,rfl⟩
  ·have:=h.ep
   exact ⟨⟨⟨by show (0:Int)≤b.1+1; omega,by show b.1+1<(18446744073709551616:Int); omega⟩,zdd _ _ _,A1,zzx⟩,rfl⟩
end Go.PG
namespace Go.PG
abbrev bV:List Int:=List.set (List.replicate 32 (0:Int)) 0 (7:Int)
theorem zge:H32 bV:=⟨rfl,by unfold AllU8 U8; decide⟩
theorem zlx (b:Bea):(bEnd b).2.2.1.length≤b.2.2.2.1.length:=by
 unfold bEnd;split
 ·exact Nat.zero_le _
 ·split
  ·exact Nat.zero_le _
  ·exact Td _
end Go.PG
namespace Go.PG
end Go.PG
namespace Go.PG
end Go.PG
namespace Go.PG
theorem zkf {x b:Int} (hx:U32 x) (hb:U32 b):ior .u64 (ishl .u64 x 32) b=x*4294967296+b:=by
 unfold U32 at hx hb;obtain ⟨n,rfl⟩:∃n:Nat,x=n:=⟨x.toNat,by omega⟩
 obtain ⟨c,rfl⟩:∃c:Nat,b=c:=⟨b.toNat,by omega⟩
 have e2:ishl .u64 (n:Int) 32=((n*4294967296:Nat):Int):=by
  unfold ishl;rw [show (2:Int)^(min (32:Int).toNat IntKind.u64.bits)=4294967296 by decide,Aj (by omega) (by omega)];simp
 rw [e2,zaj,BitVec.ofInt_natCast,BitVec.ofInt_natCast,BitVec.toNat_or,BitVec.toNat_ofNat,BitVec.toNat_ofNat,Nat.mod_eq_of_lt (by omega),Nat.mod_eq_of_lt (by omega)];have h6:=Nat.shiftLeft_add_eq_or_of_lt (i:=32) (b:=c) (by omega) n;rw [Nat.shiftLeft_eq] at h6;rw [show n*4294967296=n*2^32 by rfl,←h6];simp
theorem F103_eq (R:Type) {a b:Int} (ha:U32 a) (hb:U32 b) (k:Int→Option R):F103 R a b k=k (a*4294967296+b):=by
 have u:=ha; have v:=hb;unfold U32 at u v;simp only [F103,p103];rw [Aj (n:=a) (by omega) (by omega),Aj (n:=b) (by omega) (by omega),zkf ha hb]
end Go.PG
namespace Go.PG
abbrev Src:=Int×(List Int×(Int×(List Int×(Int×(Int×Unit)))))
abbrev Rdr:=Src×(List Int×(Int×(Bool×Unit)))
def atS (s:Src):Int:=s.2.2.2.2.2.1
def Cr (s:Src) (n:Int):Src:=(s.1,s.2.1,s.2.2.1,s.2.2.2.1,s.2.2.2.2.1,n,())
structure SOK (s:Src):Prop where
 tape:AllU8 s.2.1
 len:s.2.1.length≤1000000
 bits:U64 s.2.2.1
 seed:H32 s.2.2.2.1
 dom:U64 s.2.2.2.2.1
 at_:U64 s.2.2.2.2.2.1
theorem SOK.set {s:Src} (h:SOK s) {n:Int} (hn:U64 n):SOK (Cr s n):=⟨h.tape,h.len,h.bits,h.seed,h.dom,hn⟩
def Bk (s:Src):Bool:=if s.1=1 then decide (s.2.2.1≤8*(s.2.1.length:Int)∧s.2.2.2.2.2.1≤s.2.2.1) else decide (s.1=2∧s.2.2.2.2.2.1≤4611686018427387904)
def endS (s:Src):Int:=if s.1=1 then s.2.2.1 else 4611686018427387904
def E3 (s:Src):Int:=if Bk s=true then endS s - s.2.2.2.2.2.1 else 0
def Ws (s:Src) (n:Int):Int:=if s.1=1 then s.2.1.getD (n/8).toNat 0/2^(7 - n % 8).toNat % 2 else bitS s.2.2.2.1 s.2.2.2.2.1 n
theorem zoo (R:Type) {s:Src} (h:SOK s) (k:Int→Bool→Option R):F220 R s k=(if s.1=1 then k s.2.2.1 (decide (s.2.2.1≤8*(s.2.1.length:Int))) else if s.1=2 then k 4611686018427387904 true else k 0 false):=by
 have hl:=h.len;simp only [F220,p220];rw [Aj (n:=(s.2.1.length:Int)) (by omega) (by omega),Aj (n:=(s.2.1.length:Int)*8) (by omega) (by omega),Int.mul_comm]
 by_cases h1:s.1=1
 ·simp [h1]
 ·by_cases h2:s.1=2
  ·simp [h2]
  ·simp only [beq_eq_false_iff_ne.2 h1,beq_eq_false_iff_ne.2 h2,if_neg h1,if_neg h2]
theorem Uj (R:Type) {s:Src} (h:SOK s) (k:Bool→Option R):F186 R s k=k (Bk s):=by
 simp only [F186,p186];rw [zoo R h];unfold Bk
 by_cases h1:s.1=1
 ·simp only [h1,if_true]
  by_cases h2:s.2.2.1≤8*(s.2.1.length:Int)
  ·simp [h2]
  ·simp [h2]
 ·simp only [h1,if_false]
  by_cases h2:s.1=2
  ·simp [h2]
  ·simp [h2]
theorem Gs {s:Src} (h:Bk s=true):(s.1=1∧s.2.2.1≤8*(s.2.1.length:Int)∧s.2.2.2.2.2.1≤s.2.2.1∧endS s=s.2.2.1)∨(s.1=2∧s.2.2.2.2.2.1≤4611686018427387904∧endS s=4611686018427387904):=by
 unfold Bk at h;unfold endS
 by_cases h1:s.1=1
 ·rw [if_pos h1] at h ⊢
  have:=of_decide_eq_true h;exact .inl ⟨h1,this.1,this.2,rfl⟩
 ·rw [if_neg h1] at h ⊢
  have:=of_decide_eq_true h;exact .inr ⟨this.1,this.2,rfl⟩
theorem Pf {s:Src} (hs:SOK s):0≤E3 s∧E3 s≤4611686018427387904∧(Bk s=true→s.2.2.2.2.2.1+E3 s=endS s):=by
 have h1:=hs.at_; have h2:=hs.bits; have h3:=hs.len;unfold U64 at h1 h2;unfold E3
 by_cases h:Bk s=true
 ·rw [if_pos h]
  rcases Gs h with ⟨_,a2,a3,a4⟩ | ⟨_,a2,a3⟩
  ·rw [a4]; omega
  ·rw [a3]; omega
 ·rw [if_neg h]
  exact ⟨by omega,by omega,fun e=>absurd e h⟩
theorem F241_eq (R:Type) {s:Src} (h:SOK s) (k:Int→Option R):F241 R s k=k (E3 s):=by
 have hl:=Pf h;simp only [F241,p241];rw [Uj R h,zoo R h];unfold E3 at*
 by_cases hr:Bk s=true
 ·have hr':=hr
  simp only [hr,Bool.not_true,if_true] at hl ⊢;rcases Gs hr' with ⟨a1,a2,a3,a4⟩ | ⟨a1,a2,a3⟩
  ·rw [if_pos a1,a4,Aj (by rw [a4] at hl; omega) (by rw [a4] at hl; omega)]
  ·rw [if_neg (by omega),if_pos a1,a3,Aj (by rw [a3] at hl; omega) (by rw [a3] at hl; omega)]
 ·simp only [Bool.not_eq_true] at hr
  simp [hr]
theorem Wq (s:Src) (n:Int):0≤Ws s n∧Ws s n≤1:=by
 unfold Ws bitS;split<;>omega
def RI (r:Rdr):Prop:=r.2.2.2.1=true→r.2.1=Np r.1.2.2.2.1 r.1.2.2.2.2.1 r.2.2.1
theorem zki {x:Int} (hx:U8 x):iand .u8 x 1=x % 2:=by
 unfold U8 at hx;obtain ⟨y,rfl⟩:∃y:Nat,x=y:=⟨x.toNat,by omega⟩
 have e:iand .u8 (y:Int) 1=((BitVec.ofInt 8 (y:Int)&&& BitVec.ofInt 8 ((1:Nat):Int)).toNat:Int):=zcv _;rw [e,BitVec.ofInt_natCast,BitVec.ofInt_natCast,BitVec.toNat_and,BitVec.toNat_ofNat,BitVec.toNat_ofNat,Nat.mod_eq_of_lt (by omega),Nat.mod_eq_of_lt (by omega),show (1:Nat)=2^1 - 1 by rfl,Nat.and_two_pow_sub_one_eq_mod];simp
theorem zg5 (R:Type) (r:Rdr) {y:Int} (hy:U8 y) (hat:0≤atS r.1∧atS r.1<9000000000000000000) (q:List Int×(Int×(Bool×Unit))) (k:Int→Rdr→Option R):
  u242 R r y q k=k (y/2^(7 - atS r.1 % 8).toNat % 2) (Cr r.1 (atS r.1+1),q):=by
 unfold atS at*;simp only [u242];unfold Cr;generalize r.1.2.2.2.2.2.1=n at*;rw [Int.tmod_eq_emod_of_nonneg hat.1,Aj (n:=7 - n % 8) (by omega) (by omega),Aj (n:=n+1) (by omega) (by omega)];obtain ⟨m,hm⟩:∃m:Nat,7 - n % 8=m:=⟨(7 - n % 8).toNat,by omega⟩
 rw [hm,Int.toNat_natCast];have e8:ishr .u8 y (m:Int)=y/2^m:=by
  unfold ishr;rw [show IntKind.u8.bits=8 from rfl,Int.toNat_natCast,Nat.min_eq_left (by omega),Int.fdiv_eq_ediv_of_nonneg _ (by have:=two_pow_pos m; omega)]
 unfold U8 at hy;have hp:(0:Int)<2^m:=Int.pow_pos (by decide);have hq:0≤y/2^m∧y/2^m≤y:=⟨Int.ediv_nonneg hy.1 (by omega),Int.ediv_le_self _ hy.1⟩
 rw [e8,zki (by unfold U8; omega),Aj (by omega) (by omega)]
theorem F242_eq (R:Type) {r:Rdr} (h:SOK r.1) (hi:RI r) (hk:(r.1.1=1∧atS r.1<8*(r.1.2.1.length:Int))∨r.1.1=2) (hat:atS r.1<9000000000000000000) (k:Int→Rdr→Option R):
  ∃q,RI (Cr r.1 (atS r.1+1),q)∧F242 R r k=k (Ws r.1 (atS r.1)) (Cr r.1 (atS r.1+1),q):=by
 have hl:=h.len;have ha:=h.at_;have hat':0≤atS r.1∧atS r.1<9000000000000000000:=⟨ha.1,hat⟩
 simp only [F242];show ∃q,RI (Cr r.1 (atS r.1+1),q)∧(F254 R r (IntKind.u64.wrap (Int.tdiv (atS r.1) 8)) fun y2 p3=>match decide (0≤IntKind.u64.wrap (7 - Int.tmod (atS r.1) 8)) with | true=>u242 R r y2 p3.2 k | false=>none)=_
 have hdc:decide (0≤IntKind.u64.wrap (7 - Int.tmod (atS r.1) 8))=true:=by
  rw [De]; exact decide_eq_true (by omega)
 simp only [hdc];rw [Int.tdiv_eq_ediv_of_nonneg hat'.1,Aj (n:=atS r.1/8) (by omega) (by omega)];simp only [F254,p254];generalize hn:atS r.1=n at*;unfold Ws;rcases hk with ⟨a1,a2⟩ | a1
 ·have e1:(r.1.1==1)=true:=by simp [a1]
  have hb:bnd (n/8) (r.1.2.1.length:Int)=true:=by unfold bnd; simp; omega
  simp only [e1,hb];refine ⟨r.2,hi,?_⟩;rw [if_pos a1,zg5 R r (Av h.tape u8_0 _) (by rw [hn]; exact hat'),hn]
 ·have e1:(r.1.1==1)=false:=by simp [a1]
  simp only [e1];rw [if_neg (by omega),Int.tdiv_eq_ediv_of_nonneg (by omega),Aj (n:=n/8/32) (by omega) (by omega),Int.tmod_eq_emod_of_nonneg (by omega)];have hb:bnd (n/8 % 32) 32=true:=by unfold bnd; simp; omega
  have hbit:(Np r.1.2.2.2.1 r.1.2.2.2.2.1 (n/8/32)).getD (n/8 % 32).toNat 0/2^(7 - n % 8).toNat % 2=bitS r.1.2.2.2.1 r.1.2.2.2.2.1 n:=by
   unfold bitS;rw [show n/8/32=n/256 by omega,show n/8 % 32=n % 256/8 by omega]
  have hu:=fun i=>Av (zlu r.1.2.2.2.1 r.1.2.2.2.2.1 (n/8/32)).2 u8_0 i
  have go:∀q,u242 R r ((Np r.1.2.2.2.1 r.1.2.2.2.2.1 (n/8/32)).getD (n/8 % 32).toNat 0) q k=k (bitS r.1.2.2.2.1 r.1.2.2.2.2.1 n) (Cr r.1 (n+1),q):=fun q=>by
   rw [zg5 R r (hu _) (by rw [hn]; exact hat'),hn,hbit]
  have Hz:(F259 R r.1.2.2.2.1 r.1.2.2.2.2.1 (n/8/32) fun y5=>match bnd (n/8 % 32) 32 with
    | true=>u242 R r (y5.getD (n/8 % 32).toNat 0) (r.1,y5,n/8/32,true,r.2.2.2.2).2 k
    | false=>none)=k (bitS r.1.2.2.2.1 r.1.2.2.2.2.1 n) (Cr r.1 (n+1),(Np r.1.2.2.2.1 r.1.2.2.2.2.1 (n/8/32),n/8/32,true,())):=by
   rw [F259_eq R h.seed];simp only [hb];exact go _
  cases hs:r.2.2.2.1 with
  | false=>
   simp only [Bool.not_false];exact ⟨_,fun _=>rfl,Hz⟩
  | true=>
   simp only [Bool.not_true]
   by_cases hne:n/8/32=r.2.2.1
   ·have e2:(n/8/32 !=r.2.2.1)=false:=by simp [hne]
    simp only [e2,hb];refine ⟨r.2,fun e=>hi e,?_⟩;have:=hi hs;rw [←hne] at this;rw [this];exact go _
   ·have e2:(n/8/32 !=r.2.2.1)=true:=by simp [hne]
    simp only [e2];exact ⟨_,fun _=>rfl,Hz⟩
end Go.PG
namespace Go.PG
def N3 (s:Src) (a:Int):Nat→Int
 | 0=>0
 | n+1=>2*N3 s a n+Ws s (a+n)
theorem Jq (s:Src) (a:Int):∀n:Nat,0≤N3 s a n∧N3 s a n<2^n
 | 0=>by simp [N3]
 | n+1=>by
  have ih:=Jq s a n;have hb:=Wq s (a+n);simp only [N3];rw [Int.pow_succ];omega
theorem zs6 {x b:Int} (hx:0≤x∧x<9223372036854775808) (hb:0≤b∧b≤1):ior .u64 (ishl .u64 x 1) b=2*x+b:=by
 obtain ⟨n,rfl⟩:∃n:Nat,x=n:=⟨x.toNat,by omega⟩
 obtain ⟨c,rfl⟩:∃c:Nat,b=c:=⟨b.toNat,by omega⟩
 have e2:ishl .u64 (n:Int) 1=((n*2:Nat):Int):=by
  unfold ishl;rw [show (2:Int)^(min (1:Int).toNat IntKind.u64.bits)=2 by decide,Aj (by omega) (by omega)];simp
 rw [e2,zaj,BitVec.ofInt_natCast,BitVec.ofInt_natCast,BitVec.toNat_or,BitVec.toNat_ofNat,BitVec.toNat_ofNat,Nat.mod_eq_of_lt (by omega),Nat.mod_eq_of_lt (by omega)];have h6:=Nat.shiftLeft_add_eq_or_of_lt (i:=1) (b:=c) (by omega) n;rw [Nat.shiftLeft_eq] at h6;rw [show n*2=n*2^1 by rfl,←h6];simp; omega
theorem O1 (s:Src) (x y:Int):Cr (Cr s x) y=Cr s y:=rfl
theorem atS_set (s:Src) (x:Int):atS (Cr s x)=x:=rfl
theorem zmo (R:Type) {s:Src} (h:SOK s) {K:Nat} (hK:K≤64) (hk:(s.1=1∧atS s+K≤8*(s.2.1.length:Int))∨s.1=2) (hat:atS s+K<9000000000000000000) (x4:Src) (k0:Int→Src→Rdr→Option R):
  ∀(m i:Nat) (r:Rdr),i≤K→K - i<m→r.1=Cr s (atS s+i)→RI r→∃q,Nu m R (N3 s (atS s) i) (K:Int) (i:Int) x4 r k0=k0 (N3 s (atS s) K) x4 (Cr s (atS s+K),q)
 | 0,i,_,_,h,_,_=>by omega
 | m+1,i,r,h1,h2,hr,hi=>by
  simp only [Nu,zh7];have h0:=h.at_;unfold U64 at h0;have h0':0≤atS s:=h0.1
  by_cases hlt:i<K
  ·have hd:decide ((i:Int)<(K:Int))=true:=by simpa using hlt
   simp only [hd];have hra:atS r.1=atS s+i:=by rw [hr]; rfl
   have hlen:r.1.2.1=s.2.1:=by rw [hr]; rfl
   have hknd:r.1.1=s.1:=by rw [hr]; rfl
   obtain ⟨q,g1,g2⟩:=F242_eq R (r:=r) (by rw [hr]; exact h.set (by unfold U64; omega)) hi (by
    rw [hra,hlen,hknd];rcases hk with ⟨b1,b2⟩ | b1
    ·exact .inl ⟨b1,by omega⟩
    ·exact .inr b1) (by rw [hra]; omega) (fun y8 p9=>Nu m R (ior .u64 (ishl .u64 (N3 s (atS s) i) 1) y8) (K:Int) (IntKind.i64.wrap ((i:Int)+1)) x4 p9 k0)
   have hv:=Jq s (atS s) i;have hp:(2:Int)^i≤9223372036854775808:=by
    have:(2:Nat)^i≤2^63:=Nat.pow_le_pow_right (by omega) (by omega);have e:((2^i:Nat):Int)=(2:Int)^i:=by simp
    omega
   have hbt:Ws r.1 (atS r.1)=Ws s (atS s+i):=by rw [hra,hr]; rfl
   obtain ⟨q2,g3⟩:=zmo R h hK hk hat x4 k0 m (i+1) (Cr r.1 (atS r.1+1),q) (by omega) (by omega) (by
    show Cr r.1 (atS r.1+1)=_;rw [hra,hr,O1]
    congr 1
    omega) g1
   refine ⟨q2,?_⟩;rw [g2,zs6 ⟨hv.1,by omega⟩ (Wq _ _),hbt,wrap_i64 (n:=(i:Int)+1) (by omega) (by omega)];exact g3
  ·have:i=K:=by omega
   subst this;have hd:decide ((i:Int)<(i:Int))=false:=by simp
   simp only [hd];refine ⟨r.2,?_⟩;rw [←hr]
def G5 (s:Src) (k:Int):Int×Src×Int:=
 if Bk s=true∧0≤k∧k≤64 then (if k≤E3 s then (N3 s (atS s) k.toNat,Cr s (atS s+k),0) else (0,s,8)) else (0,s,1)
theorem Ra {s:Src} (hs:SOK s) (hr:Bk s=true) {k:Nat} (hk:(k:Int)≤E3 s):((s.1=1∧atS s+k≤8*(s.2.1.length:Int))∨s.1=2)∧atS s+k<9000000000000000000:=by
 have hl:=Pf hs;have:=hl.2.2 hr;have hln:=hs.len;unfold atS;rcases Gs hr with ⟨a1,a2,a3,a4⟩ | ⟨a1,a2,a3⟩
 ·rw [a4] at this
  exact ⟨.inl ⟨a1,by omega⟩,by omega⟩
 ·exact ⟨.inr a1,by omega⟩
theorem F224_eq (R:Type) {s:Src} (hs:SOK s) {n:Int} (k:Int→Src→Int→Option R):F224 R s n k=k (G5 s n).1 (G5 s n).2.1 (G5 s n).2.2:=by
 simp only [F224,p224];rw [Uj R hs];unfold G5
 by_cases hr:Bk s=true
 ·simp only [hr,Bool.not_true,true_and]
  by_cases h1:n<0
  ·rw [if_neg (by omega)]
   simp only [decide_eq_true h1]
  ·simp only [decide_eq_false h1]
   by_cases h2:n>64
   ·rw [if_neg (by omega)]
    simp only [decide_eq_true h2]
   ·rw [if_pos (by omega)]
    simp only [decide_eq_false h2];rw [Aj (n:=n) (by omega) (by omega),F241_eq R hs]
    by_cases h3:n>E3 s
    ·rw [if_neg (by omega)]
     simp only [decide_eq_true h3]
    ·rw [if_pos (by omega)]
     simp only [decide_eq_false h3];obtain ⟨m,rfl⟩:∃m:Nat,n=m:=⟨n.toNat,by omega⟩
     have hroom:=Ra hs hr (k:=m) (by omega);obtain ⟨q,g⟩:=zmo R hs (K:=m) (by omega) hroom.1 hroom.2 (0,[],0,List.replicate 32 0,0,0,()) (fun x7 x8 x9=>k x7 x9.1 0) FUEL 0 (s,List.replicate 32 0,0,false,()) (by omega) (by rw [Al]; omega) (by simp only [Int.natCast_zero,Int.add_zero]; rfl) (fun e=>by cases e);refine g.trans ?_;rw [Int.toNat_natCast]
 ·simp only [Bool.not_eq_true] at hr
  simp [hr]
end Go.PG
namespace Go.PG
def C3 (a:List Int) (d:Int):Src:=(2,[],0,a,d,0,())
theorem U0 {a:List Int} (ha:H32 a) {d:Int} (hd:U64 d):SOK (C3 a d):=⟨fun y hy=>by simp [C3] at hy,by simp [C3],by unfold U64 C3; simp,ha,hd,by unfold U64 C3; simp⟩
theorem F102_eq (R:Type) (a:List Int) (d:Int) (k:Src→Option R):F102 R a d k=k (C3 a d):=by
 simp only [F102,p102]; rfl
theorem zc3 {s:Src} {n:Nat} (hr:Bk s=true) (h1:n≤64) (h2:(n:Int)≤E3 s):G5 s n=(N3 s (atS s) n,Cr s (atS s+n),0):=by
 unfold G5;rw [if_pos ⟨hr,by omega,by omega⟩,if_pos h2,Int.toNat_natCast]
theorem zhn {s:Src} (hs:SOK s) (hr:Bk s=true) {k:Nat} (hk:(k:Int)≤E3 s):Bk (Cr s (atS s+k))=true∧E3 (Cr s (atS s+k))=E3 s - k:=by
 have hl:=(Pf hs).2.2 hr;have h0:0≤s.2.2.2.2.2.1:=hs.at_.1;have hR:Bk (Cr s (atS s+k))=true:=by
  unfold Bk atS;rcases Gs hr with ⟨a1,a2,a3,a4⟩ | ⟨a1,a2,a3⟩
  ·rw [if_pos (show (Cr s (s.2.2.2.2.2.1+k)).1=1 from a1)]
   rw [a4] at hl;exact decide_eq_true ⟨a2,by show s.2.2.2.2.2.1+k≤s.2.2.1; omega⟩
  ·rw [if_neg (show ¬(Cr s (s.2.2.2.2.2.1+k)).1=1 by show ¬s.1=1; omega)]
   rw [a3] at hl;exact decide_eq_true ⟨a1,by show s.2.2.2.2.2.1+k≤_; omega⟩
 refine ⟨hR,?_⟩;have e:E3 (Cr s (atS s+k))=endS s - (s.2.2.2.2.2.1+k):=by
  unfold E3;rw [if_pos hR];rfl
 rw [e];omega
end Go.PG
namespace Go.PG
def H2:Nat→Nat→Nat
 | 0,_=>0
 | f+1,x=>if x=0 then 0 else H2 f (x/2)+1
theorem Rp:∀(f x:Nat),x<2^f→x<2^H2 f x∧(x≠0→2^(H2 f x - 1)≤x)∧H2 f x≤f
 | 0,x,h=>by simp at h; subst h; simp [H2]
 | f+1,x,h=>by
  rw [Nat.pow_succ] at h;simp only [H2]
  by_cases h0:x=0
  ·subst h0; simp
  ·rw [if_neg h0]
   obtain ⟨h1,h2,h3⟩:=Rp f (x/2) (by omega);refine ⟨?_,fun _=>?_,by omega⟩
   ·rw [Nat.pow_succ]; omega
   ·rw [Nat.add_sub_cancel]
    by_cases hx:x/2=0
    ·have e:H2 f (x/2)=0:=by
      rw [hx];cases f with
      | zero=>rfl
      | succ f=>simp [H2]
     rw [e,Nat.pow_zero]; omega
    ·have:=h2 hx
     have hb:H2 f (x/2)≠0:=fun e=>by rw [e,Nat.pow_zero] at h1; omega
     obtain ⟨b,hb⟩:∃b,H2 f (x/2)=b+1:=⟨H2 f (x/2) - 1,by omega⟩
     rw [hb,Nat.add_sub_cancel] at this;rw [hb,Nat.pow_succ];omega
theorem zml (R:Type) (k0:Int→Option R):∀(f m x c:Nat),x<2^f→f≤64→f<m→c+f≤1000→Nt m R (x:Int) (c:Int) k0=k0 ((c+H2 f x:Nat):Int)
 | _,0,_,_,_,_,h,_=>by omega
 | 0,m+1,x,c,h,_,_,_=>by
  simp at h; subst h;simp only [Nt,zdk,H2];rfl
 | f+1,m+1,x,c,h,hf,hm,hc=>by
  simp only [Nt,zdk,H2];rw [Nat.pow_succ] at h
  by_cases h0:x=0
  ·subst h0
   simp
  ·have e:((x:Int) !=0)=true:=by simp [h0]
   have e2:ishr .u64 (x:Int) 1=((x/2:Nat):Int):=by
    have:=zx7 (x:=(x:Int)) 1 (by omega);refine this.trans ?_;omega
   simp only [e,if_neg h0];have ih:=zml R k0 f m (x/2) (c+1) (by omega) (by omega) (by omega) (by omega);rw [wrap_i64 (n:=(c:Int)+1) (by omega) (by omega),e2,show c+(H2 f (x/2)+1)=c+1+H2 f (x/2) by omega];exact ih
def Cc (n:Int):Nat:=H2 64 (n - 1).toNat
theorem zi7 {n:Int} (hn:U64 n):Cc n≤64∧n≤2^Cc n∧(2≤n→1≤Cc n∧(2:Int)^(Cc n - 1)<n):=by
 unfold U64 at hn;obtain ⟨h1,h2,h3⟩:=Rp 64 (n - 1).toNat (by omega);unfold Cc;generalize H2 64 (n - 1).toNat=b at*;have e:∀j:Nat,((2^j:Nat):Int)=(2:Int)^j:=fun j=>by simp
 refine ⟨h3,?_,fun h=>⟨?_,?_⟩⟩
 ·rw [←e]; omega
 ·cases b with
  | zero=>rw [Nat.pow_zero] at h1; omega
  | succ b=>omega
 ·have:=h2 (by omega)
  rw [←e]; omega
theorem F225_eq (R:Type) {n:Int} (hn:U64 n) (k:Int→Option R):F225 R n k=k (Cc n:Int):=by
 have hn':=hn;unfold U64 at hn;simp only [F225,p225,F243,p243];have e:IntKind.u64.wrap ((if (1:Int)>n then (1:Int) else n) - 1)=((n - 1).toNat:Int):=by
  split
  ·rw [Aj (by omega) (by omega)]; omega
  ·rw [Aj (by omega) (by omega)]; omega
 rw [e];have:=zml R (fun x1=>k x1) 64 FUEL (n - 1).toNat 0 (by omega) (by omega) (by rw [Al]; omega) (by omega);rw [Nat.zero_add] at this;exact this
def Ex (n:Int):Nat→Src→Int×Src×Int
 | 0,s=>(0,s,9)
 | m+1,s=>if (G5 s (Cc n)).2.2=0 then (if (G5 s (Cc n)).1<n then ((G5 s (Cc n)).1,(G5 s (Cc n)).2.1,0) else Ex n m (G5 s (Cc n)).2.1) else (0,s,(G5 s (Cc n)).2.2)
theorem Ut {s:Src} (hs:SOK s) (k:Int):SOK (G5 s k).2.1:=by
 unfold G5;split
 ·rename_i h
  split
  ·rename_i h2
   have hl:=Pf hs;have h0:0≤atS s:=hs.at_.1;have:=Ra hs h.1 (k:=k.toNat) (by omega);refine hs.set ?_;unfold U64;omega
  ·exact hs
 ·exact hs
theorem Q8 {s:Src} {k:Nat} (h:(G5 s k).2.2=0):Bk s=true∧k≤64∧(k:Int)≤E3 s∧G5 s k=(N3 s (atS s) k,Cr s (atS s+k),0):=by
 unfold G5 at h;split at h
 ·rename_i h1
  split at h
  ·rename_i h2
   exact ⟨h1.1,by omega,h2,zc3 h1.1 (by omega) h2⟩
  ·simp at h
 ·simp at h
theorem zmr (R:Type) {n:Int} (hn:U64 n) (a:Nat) (ha:a≤64) (x5:Src) (k0:Int→Int→Src→Option R) (k1:Src→Src→Option R):
  ∀(m i:Nat) (s:Src),i≤a→a - i<m→SOK s→(∀y:Src,k1 y x5=k0 0 9 y)→Qj m R n (a:Int) (i:Int) s x5 k0 k1=k0 (Ex n (a - i) s).1 (Ex n (a - i) s).2.2 (Ex n (a - i) s).2.1
 | 0,i,_,_,h,_,_=>by omega
 | m+1,i,s,h1,h2,hs,hk=>by
  simp only [Qj,zih]
  by_cases hi:i<a
  ·have hd:decide ((i:Int)<(a:Int))=true:=by simpa using hi
   simp only [hd];rw [F225_eq R hn,F224_eq R hs,show a - i=(a - (i+1))+1 by omega];simp only [Ex];have ih:=zmr R hn a ha x5 k0 k1 m (i+1) (G5 s (Cc n)).2.1 (by omega) (by omega) (Ut hs _) hk;generalize G5 s (Cc n)=t at*
   by_cases he:t.2.2=0
   ·have e1:(t.2.2 !=0)=false:=by simp [he]
    simp only [e1,if_pos he]
    by_cases hx:t.1<n
    ·simp only [decide_eq_true hx,if_pos hx]
    ·simp only [decide_eq_false hx,if_neg hx]
     rw [wrap_i64 (n:=(i:Int)+1) (by omega) (by omega)];exact ih
   ·have e1:(t.2.2 !=0)=true:=by simp [he]
    simp only [e1,if_neg he]
  ·have:i=a:=by omega
   subst this;have hd:decide ((i:Int)<(i:Int))=false:=by simp
   simp only [hd,Nat.sub_self,Ex];exact hk s
def B5 (s:Src) (n m:Int):Int×Src×Int:=if Bk s=true∧0<n∧n<9223372036854775808∧0<m∧m≤64 then Ex n m.toNat s else (0,s,1)
theorem zos (R:Type) {s:Src} (hs:SOK s) {n:Int} (hn:U64 n) (m:Int) (k:Int→Src→Int→Option R):F188 R s n m k=k (B5 s n m).1 (B5 s n m).2.1 (B5 s n m).2.2:=by
 simp only [F188,p188,F223,p223];rw [Uj R hs];unfold B5
 by_cases hr:Bk s=true
 ·simp only [hr,true_and]
  by_cases h1:n>0
  ·simp only [decide_eq_true h1]
   by_cases h2:n<9223372036854775808
   ·simp only [decide_eq_true h2]
    by_cases h3:m>0
    ·simp only [decide_eq_true h3]
     by_cases h4:m≤64
     ·simp only [decide_eq_true h4,Bool.not_true]
      rw [if_pos ⟨h1,h2,h3,h4⟩];obtain ⟨a,rfl⟩:∃a:Nat,m=a:=⟨m.toNat,by omega⟩
      rw [Int.toNat_natCast];exact zmr R hn a (by omega) (0,[],0,List.replicate 32 0,0,0,()) (fun x2 x3 x4=>k x2 x4 x3) (fun x5 x6=>k 0 x5 9) FUEL 0 s (by omega) (by rw [Al]; omega) hs (fun y=>rfl)
     ·rw [if_neg (fun h=>h4 h.2.2.2)]
      simp only [decide_eq_false h4,Bool.not_false]
    ·rw [if_neg (fun h=>h3 h.2.2.1)]
     simp only [decide_eq_false h3,Bool.not_false]
   ·rw [if_neg (fun h=>h2 h.2.1)]
    simp only [decide_eq_false h2,Bool.not_false]
  ·rw [if_neg (fun h=>h1 h.1)]
   simp only [decide_eq_false h1,Bool.not_false]
 ·simp only [Bool.not_eq_true] at hr
  simp [hr]
end Go.PG
namespace Go.PG
theorem Tq {n:Int}:∀(m:Nat) (s:Src),(Ex n m s).2.2=0→∃j,1≤j∧j≤m∧(Ex n m s).1<n∧(Ex n m s).2.1=Cr s (atS s+Cc n*j)∧(Cc n*j:Int)≤E3 s∧∀i<j,Ex n i s=(0,Cr s (atS s+Cc n*i),9)
 | 0,s,h=>by simp [Ex] at h
 | m+1,s,h=>by
  simp only [Ex] at h ⊢;split at h
  ·rename_i h1
   obtain ⟨g1,g2,g3,g4⟩:=Q8 h1;rw [if_pos h1];split at h
   ·rename_i h2
    rw [if_pos h2];refine ⟨1,by omega,by omega,h2,?_,by omega,fun i hi=>?_⟩
    ·rw [g4]
     show Cr s (atS s+Cc n)=Cr s (atS s+Cc n*((1:Nat):Int));rw [Int.natCast_one,Int.mul_one]
    ·have:i=0:=by omega
     subst this;simp only [Ex,Int.natCast_zero,Int.mul_zero,Int.add_zero];rfl
   ·rename_i h2
    rw [if_neg h2];have hmul:∀i:Nat,((Cc n:Nat):Int)*((i+1:Nat):Int)=Cc n+Cc n*i:=fun i=>by
     rw [show ((i+1:Nat):Int)=(i:Int)+1 by omega,Int.mul_add,Int.mul_one,Int.add_comm]
    obtain ⟨j,j1,j2,j3,j4,j5,j6⟩:=Tq m _ h;refine ⟨j+1,by omega,by omega,j3,?_,?_,fun i hi=>?_⟩
    ·rw [j4,g4]
     show Cr (Cr s (atS s+Cc n)) (atS s+Cc n+Cc n*j)=_;rw [O1,hmul,Int.add_assoc]
    ·rw [g4] at j5
     have hle:E3 (Cr s (atS s+Cc n))≤E3 s - Cc n:=by
      unfold E3 at g3 ⊢;rw [if_pos g1] at g3 ⊢;split
      ·show endS s - (atS s+Cc n)≤endS s - atS s - Cc n
       omega
      ·show 0≤endS s - atS s - Cc n
       have:endS s - s.2.2.2.2.2.1=endS s - atS s:=rfl;omega
     rw [hmul];have j5':(Cc n:Int)*j≤E3 (Cr s (atS s+Cc n)):=j5;omega
    ·cases i with
     | zero=>
      simp only [Ex,Int.natCast_zero,Int.mul_zero,Int.add_zero];rfl
     | succ i=>
      have:=j6 i (by omega);simp only [Ex];rw [if_pos h1,if_neg h2,this,g4];show (0,Cr (Cr s (atS s+Cc n)) (atS s+Cc n+Cc n*i),9)=_;rw [O1,hmul,Int.add_assoc]
  ·rename_i h1
   exact absurd h h1
end Go.PG
namespace Go.PG
end Go.PG
namespace Go.PG
end Go.PG
namespace Go.PG
end Go.PG
namespace Go.PG
def sumS (l:List Int) (n:Nat):Int:=(l.take n).sum
theorem Gp (l:List Int):sumS l 0=0:=rfl
theorem B1 {l:List Int} {i:Nat} (h:i<l.length):sumS l (i+1)=sumS l i+l.getD i 0:=by
 unfold sumS;have et:l.take (i+1)=l.take i++[l[i]]:=by rw [List.take_succ_eq_append_getElem h]
 rw [et,List.sum_append];simp [h]
def AllU64 (l:List Int):Prop:=∀x∈l,U64 x
theorem Jd:U64 0:=by unfold U64; omega
theorem Ux {l:List Int} (h:AllU64 l) {a:Nat}:∀d:Nat,sumS l a≤sumS l (a+d)
 | 0=>Int.le_refl _
 | d+1=>by
  have ih:=Ux h (a:=a) d
  by_cases hd:a+d<l.length
  ·have:=(Av h Jd (a+d)).1
   rw [←Nat.add_assoc,B1 hd];omega
  ·have e:sumS l (a+(d+1))=sumS l (a+d):=by
    unfold sumS;rw [List.take_of_length_le (by omega),List.take_of_length_le (by omega)]
   rw [e]; exact ih
theorem Dp {l:List Int} (h:AllU64 l) {a b:Nat} (hab:a≤b):sumS l a≤sumS l b:=by
 have:=Ux h (a:=a) (b - a)
 rwa [show a+(b - a)=b by omega] at this
theorem A4 {l:List Int} (h:AllU64 l) (n:Nat):0≤sumS l n:=by
 have:=Dp h (Nat.zero_le n)
 rwa [Gp] at this
def totS (l:List Int):Int:=sumS l l.length
theorem Ej {l:List Int} (h:AllU64 l) (n:Nat):sumS l n≤totS l:=by
 by_cases hn:n≤l.length
 ·exact Dp h hn
 ·unfold totS sumS
  rw [List.take_of_length_le (by omega),List.take_length];exact Int.le_refl _
def lowF:Nat→Nat→Nat
 | 0,_=>1
 | f+1,n=>if n % 2=0 then 2*lowF f (n/2) else 1
def lowN (n:Nat):Nat:=lowF 20 n
def ALLN:List Nat:=List.range' 1 1000
theorem zjf:(ALLN.all fun n=>decide (iand .i64 (n:Int) (IntKind.i64.wrap (0 - (n:Int)))=(lowN n:Int))&&decide (1≤lowN n∧lowN n≤n))=true:=by kernel_rfl
theorem Nk {n:Nat} (h1:1≤n) (h2:n≤1000):iand .i64 (n:Int) (IntKind.i64.wrap (0 - (n:Int)))=(lowN n:Int)∧1≤lowN n∧lowN n≤n:=by
 have:=List.all_eq_true.1 zjf n (by unfold ALLN; rw [List.mem_range']; exact ⟨n - 1,by omega,by omega⟩);simp only [Bool.and_eq_true,decide_eq_true_eq] at this;exact ⟨this.1,this.2⟩
theorem Ul (R:Type) {n:Nat} (h1:1≤n) (h2:n≤1000) (k:Int→Option R):F138 R (n:Int) k=k (lowN n:Int):=by
 simp only [F138,p138];rw [(Nk h1 h2).1]
theorem zrt (m:Nat) (h1:1≤m) (h2:m≤500):lowN (2*m)=2*lowN m:=by
 have:(List.range' 1 500).all (fun m=>decide (lowN (2*m)=2*lowN m))=true:=by kernel_rfl
 have:=List.all_eq_true.1 this m (by rw [List.mem_range']; exact ⟨m - 1,by omega,by omega⟩);exact of_decide_eq_true this
theorem zzz (m:Nat):lowN (2*m+1)=1:=by
 unfold lowN lowF;rw [if_neg (by omega)]
theorem zje:∀(k q:Nat),(2*q+1)*2^k≤1000→lowN ((2*q+1)*2^k)=2^k
 | 0,q,_=>by rw [Nat.pow_zero,Nat.mul_one,zzz]
 | k+1,q,h=>by
  rw [Nat.pow_succ,←Nat.mul_assoc] at h;have hp:0<(2*q+1)*2^k:=Nat.mul_pos (by omega) (Nat.pow_pos (by omega));rw [Nat.pow_succ,←Nat.mul_assoc,Nat.mul_comm _ 2,zrt _ hp (by omega),zje k q (by omega),Nat.mul_comm]
def E1 (l:List Int) (q:Nat):Int:=sumS l (q+1) - sumS l (q+1 - lowN (q+1))
def C2 (l:List Int):List Int:=(List.range l.length).map (E1 l)
theorem Fs (l:List Int):(C2 l).length=l.length:=by simp [C2]
theorem Uq {l:List Int} {q:Nat} (h:q<l.length):(C2 l).getD q 0=E1 l q:=by
 simp [C2,h]
theorem zfp {l:List Int} (h:AllU64 l) (ht:totS l<9223372036854775808) (q:Nat):0≤E1 l q∧E1 l q<9223372036854775808:=by
 have h1:=Dp h (a:=q+1 - lowN (q+1)) (b:=q+1) (by omega);have h2:=A4 h (q+1 - lowN (q+1));have h3:=Ej h (q+1);unfold E1;omega
theorem zbe (R:Type) {l:List Int} (h:AllU64 l) (ht:totS l<9223372036854775808) (hlen:l.length≤500) (k0:Int→Option R) (n0:Nat) (hn0:n0≤l.length):∀(m n:Nat),n≤n0→n<m→Qe m R (n:Int) (sumS l n0 - sumS l n) (C2 l,()) k0=k0 (sumS l n0)
 | 0,n,_,h=>by omega
 | m+1,n,h1,h2=>by
  simp only [Qe,zh8]
  by_cases hn:n=0
  ·subst hn
   have hd:decide (((0:Nat):Int)>0)=false:=by simp
   simp only [hd,Gp,Int.sub_zero]
  ·have hd:decide ((n:Int)>0)=true:=decide_eq_true (by omega)
   have hl:=Nk (n:=n) (by omega) (by omega);rw [wrap_i64 (n:=(n:Int) - 1) (by omega) (by omega),show (n:Int) - 1=((n - 1:Nat):Int) by omega];have hbn:bnd ((n - 1:Nat):Int) ((C2 l).length:Int)=true:=by rw [Fs]; unfold bnd; simp; omega
   simp only [hd,hbn,Int.toNat_natCast];rw [Uq (by omega),Ul R (by omega) (by omega)];have e:E1 l (n - 1)=sumS l n - sumS l (n - lowN n):=by
    unfold E1;rw [show n - 1+1=n by omega]
   have q1:=Dp h (a:=n - lowN n) (b:=n) (by omega);have q2:=A4 h (n - lowN n);have q3:=Ej h n0;have q4:=Dp h h1;rw [e,Aj (n:=sumS l n0 - sumS l n+(sumS l n - sumS l (n - lowN n))) (by omega) (by omega),wrap_i64 (n:=(n:Int) - (lowN n:Int)) (by omega) (by omega),show (n:Int) - (lowN n:Int)=((n - lowN n:Nat):Int) by omega,show sumS l n0 - sumS l n+(sumS l n - sumS l (n - lowN n))=sumS l n0 - sumS l (n - lowN n) by omega];exact zbe R h ht hlen k0 n0 hn0 m (n - lowN n) (by omega) (by omega)
theorem zco (R:Type) {l:List Int} (h:AllU64 l) (ht:totS l<9223372036854775808) (hlen:l.length≤500) (k:Int→Option R):F187 R (C2 l,()) k=k (totS l):=by
 simp only [F187,p187,F222,p222,F221,p221,Fs];have:=zbe R h ht hlen (fun x1=>k x1) l.length (Nat.le_refl _) FUEL l.length (Nat.le_refl _) (by rw [Al]; omega);rw [Int.sub_self] at this;exact this
def Owns (l:List Int) (x:Int) (i:Nat):Prop:=i<l.length∧sumS l i≤x∧x<sumS l (i+1)
theorem Owns.uniq {l:List Int} (h:AllU64 l) {x:Int} {i j:Nat} (hi:Owns l x i) (hj:Owns l x j):i=j:=by
 obtain ⟨a1,a2,a3⟩:=hi;obtain ⟨b1,b2,b3⟩:=hj;rcases Nat.lt_trichotomy i j with h1 | h1 | h1
 ·have:=Dp h (a:=i+1) (b:=j) (by omega); omega
 ·exact h1
 ·have:=Dp h (a:=j+1) (b:=i) (by omega); omega
theorem Xj (R:Type) {n:Nat} (hn:n≤500) (t:List Int×Unit) (htl:t.1.length=n) (x:Int) (k0:Int→Int→Int→(List Int×Unit)→Option R):∀(m k:Nat),2^k≤n∨k=0→n+2<m+2^k→∃j,n<2^(j+1)∧(2^j≤n∨j=0)∧Nw m R x 0 ((2^k:Nat):Int) t k0=k0 x 0 ((2^j:Nat):Int) t
 | 0,k,h1,h2=>by
  rcases h1 with h1 | rfl
  ·omega
  ·rw [Nat.pow_zero] at h2; omega
 | m+1,k,h1,h2=>by
  simp only [Nw,zig,F222,p222,htl];have hpp:0<2^k:=Nat.pow_pos (by omega);have hp:2^k≤500:=by
   rcases h1 with h1 | rfl
   ·omega
   ·rw [Nat.pow_zero]; omega
  have e:ishl .i64 ((2^k:Nat):Int) 1=((2^(k+1):Nat):Int):=by
   unfold ishl;rw [show (2:Int)^(min (1:Int).toNat IntKind.i64.bits)=2 by decide,Nat.pow_succ];generalize 2^k=p at*;rw [wrap_i64 (by omega) (by omega)]; omega
  rw [e]
  by_cases hk:2^(k+1)≤n
  ·have hd:decide (((2^(k+1):Nat):Int)≤(n:Int))=true:=decide_eq_true (by omega)
   simp only [hd];exact Xj R hn t htl x k0 m (k+1) (.inl hk) (by rw [Nat.pow_succ]; omega)
  ·have hd:decide (((2^(k+1):Nat):Int)≤(n:Int))=false:=decide_eq_false (by omega)
   simp only [hd];exact ⟨k,by omega,h1,rfl⟩
theorem Xi (R:Type) {l:List Int} (h:AllU64 l) (ht:totS l<9223372036854775808) (hlen:l.length≤400) {x:Int} (hx:0≤x∧x<totS l) (k0:Int→Option R):∀(m k q:Nat),2^(k+1)*q≤l.length→2^k≤500→sumS l (2^(k+1)*q)≤x→(l.length<2^(k+1)*q+2^(k+1)∨x<sumS l (2^(k+1)*q+2^(k+1)))→k+1<m→
  ∃i,Owns l x i∧Io m R (x - sumS l (2^(k+1)*q)) ((2^(k+1)*q:Nat):Int) ((2^k:Nat):Int) (C2 l,()) k0=k0 (i:Int)
 | 0,_,_,_,_,_,_,h=>by omega
 | m+1,k,q,h1,h2,h3,h4,h5=>by
  have hpp:0<2^k:=Nat.pow_pos (by omega);have e1:2^(k+1)*q=2^k*(2*q):=by rw [Nat.pow_succ,Nat.mul_assoc]
  have hlow:2^(k+1)*q+2^k≤1000→lowN (2^(k+1)*q+2^k)=2^k:=fun hh=>by
   have e2:2^(k+1)*q+2^k=(2*q+1)*2^k:=by rw [e1,Nat.add_mul,Nat.one_mul,Nat.mul_comm (2*q)]
   rw [e2] at hh ⊢;exact zje k q hh
  simp only [Io,zdl,F222,p222,Fs];have hd:decide (((2^k:Nat):Int)>0)=true:=decide_eq_true (by omega);have eshr:ishr .i64 ((2^k:Nat):Int) 1=((2^k/2:Nat):Int):=by
   unfold ishr;rw [show (2:Int)^(min (1:Int).toNat IntKind.i64.bits)=2 by decide,Int.fdiv_eq_ediv_of_nonneg _ (by omega)];omega
  simp only [hd,eshr];rw [wrap_i64 (n:=((2^(k+1)*q:Nat):Int)+((2^k:Nat):Int)) (by omega) (by omega),show ((2^(k+1)*q:Nat):Int)+((2^k:Nat):Int)=((2^(k+1)*q+2^k:Nat):Int) by omega]
  -- what comes behind,for the next step
  have next:∀(q':Nat) (_:2^k*q'≤l.length) (_:sumS l (2^k*q')≤x) (_:l.length<2^k*q'+2^k∨x<sumS l (2^k*q'+2^k)),
    ∃i,Owns l x i∧Io m R (x - sumS l (2^k*q')) ((2^k*q':Nat):Int) ((2^k/2:Nat):Int) (C2 l,()) k0=k0 (i:Int):=by
   intro q' g1 g2 g3;cases k with
   | zero=>
    rw [Nat.pow_zero,Nat.one_mul] at g1 g2 g3 ⊢;have hlt:q'<l.length:=by
     refine Classical.byContradiction fun hh=>?_
     have:sumS l q'=totS l:=by
      unfold totS sumS;rw [List.take_of_length_le (by omega),List.take_length]
     omega
    refine ⟨q',⟨hlt,g2,?_⟩,?_⟩
    ·rcases g3 with g3 | g3
     ·have:q'+1=l.length:=by omega
      rw [this]; exact hx.2
     ·exact g3
    ·cases m with
     | zero=>omega
     | succ m=>
      simp only [Io,zdl];rfl
   | succ k=>
    have e3:2^(k+1)/2=2^k:=by rw [Nat.pow_succ]; omega
    rw [e3];exact Xi R h ht hlen hx k0 m k q' g1 (by rw [Nat.pow_succ] at h2; omega) g2 g3 (by omega)
  by_cases hn:2^(k+1)*q+2^k≤l.length
  ·have hd2:decide (((2^(k+1)*q+2^k:Nat):Int)≤(l.length:Int))=true:=decide_eq_true (by omega)
   have hbn:bnd ((2^(k+1)*q+2^k - 1:Nat):Int) (l.length:Int)=true:=by unfold bnd; simp; omega
   rw [wrap_i64 (n:=((2^(k+1)*q+2^k:Nat):Int) - 1) (by omega) (by omega),show ((2^(k+1)*q+2^k:Nat):Int) - 1=((2^(k+1)*q+2^k - 1:Nat):Int) by omega];simp only [hd2,hbn,Int.toNat_natCast];have en:E1 l (2^(k+1)*q+2^k - 1)=sumS l (2^(k+1)*q+2^k) - sumS l (2^(k+1)*q):=by
    unfold E1;rw [show 2^(k+1)*q+2^k - 1+1=2^(k+1)*q+2^k by omega,hlow (by omega),Nat.add_sub_cancel]
   have eg:(C2 l).getD (2^(k+1)*q+2^k - 1) 0=sumS l (2^(k+1)*q+2^k) - sumS l (2^(k+1)*q):=by rw [Uq (by omega),en]
   simp only [eg];have q1:=Dp h (a:=2^(k+1)*q) (b:=2^(k+1)*q+2^k) (by omega);have q2:=A4 h (2^(k+1)*q)
   by_cases hle:sumS l (2^(k+1)*q+2^k)≤x
   ·have hd3:decide (sumS l (2^(k+1)*q+2^k) - sumS l (2^(k+1)*q)≤x - sumS l (2^(k+1)*q))=true:=decide_eq_true (by omega)
    simp only [hd3];rw [Aj (n:=x - sumS l (2^(k+1)*q) - (sumS l (2^(k+1)*q+2^k) - sumS l (2^(k+1)*q))) (by omega) (by omega),show x - sumS l (2^(k+1)*q) - (sumS l (2^(k+1)*q+2^k) - sumS l (2^(k+1)*q))=x - sumS l (2^(k+1)*q+2^k) by omega];have e4:2^(k+1)*q+2^k=2^k*(2*q+1):=by rw [e1,Nat.mul_add,Nat.mul_one]
    have e5:2^(k+1)*q+2^(k+1)=2^k*(2*q+1)+2^k:=by
     rw [←e4,Nat.pow_succ]; omega
    rw [e4];rw [e4] at hle hn;rw [e5] at h4;exact next (2*q+1) hn hle h4
   ·have hd3:decide (sumS l (2^(k+1)*q+2^k) - sumS l (2^(k+1)*q)≤x - sumS l (2^(k+1)*q))=false:=decide_eq_false (by omega)
    simp only [hd3];rw [e1] at h1 h3 hle ⊢;exact next (2*q) h1 h3 (.inr (by omega))
  ·have hd2:decide (((2^(k+1)*q+2^k:Nat):Int)≤(l.length:Int))=false:=decide_eq_false (by omega)
   simp only [hd2];rw [e1] at h1 h3 hn ⊢;exact next (2*q) h1 h3 (.inl (by omega))
theorem ze1 (R:Type) {l:List Int} (h:AllU64 l) (ht:totS l<9223372036854775808) (hlen:l.length≤400) {x:Int} (hx:0≤x∧x<totS l) (k:Int→Int→Option R):∃i,Owns l x i∧F189 R (C2 l,()) x k=k (i:Int) 0:=by
 simp only [F189,p189];rw [zco R h ht (by omega)];have hd:decide (x≥totS l)=false:=decide_eq_false (by omega);simp only [hd];obtain ⟨j,j1,j2,j3⟩:=Xj R (n:=l.length) (by omega) (C2 l,()) (Fs l) x (fun x3 x4 x5 x6=>Io FUEL R x3 x4 x5 x6 (fun x7=>k x7 0)) FUEL 0 (.inr rfl) (by rw [Al]; omega);have hj:2^j≤500:=by
  rcases j2 with j2 | rfl
  ·omega
  ·rw [Nat.pow_zero]; omega
 have hjm:j≤500:=by have:=Nat.lt_two_pow_self (n:=j); omega
 obtain ⟨i,hi,g⟩:=Xi R h ht hlen hx (fun x7=>k x7 0) FUEL j 0 (by simp) hj (by rw [Nat.mul_zero,Gp]; exact hx.1) (.inl (by omega)) (by rw [Al]; omega);refine ⟨i,hi,?_⟩;rw [Nat.mul_zero,Gp,Int.sub_zero] at g;exact j3.trans g
end Go.PG
namespace Go.PG
def Hd (j:Nat):Nat→Nat
 | 0=>j - lowN j
 | m+1=>if (m+1)+lowN (m+1)=j then m+1 else Hd j m
theorem zag:((List.range' 1 400).all fun c=>decide (Hd (c+lowN c) (c - 1)=c - lowN c))=true:=by kernel_rfl
theorem zaf:((List.range' 1 400).all fun j=>decide (Hd j (j - 1)=j - 1))=true:=by kernel_rfl
theorem lastA {c:Nat} (h1:1≤c) (h2:c≤400):Hd (c+lowN c) (c - 1)=c - lowN c:=
 of_decide_eq_true (List.all_eq_true.1 zag c (by rw [List.mem_range']; exact ⟨c - 1,by omega,by omega⟩))
theorem lastB {j:Nat} (h1:1≤j) (h2:j≤400):Hd j (j - 1)=j - 1:=
 of_decide_eq_true (List.all_eq_true.1 zaf j (by rw [List.mem_range']; exact ⟨j - 1,by omega,by omega⟩))
theorem V1 {j:Nat} (h1:1≤j):∀(d:Nat),j+d≤1000→Hd j (j - 1+d)=Hd j (j - 1)
 | 0,_=>rfl
 | d+1,h=>by
  have ih:=V1 h1 d (by omega);rw [show j - 1+(d+1)=(j - 1+d)+1 by omega];simp only [Hd];have:=Nk (n:=j - 1+d+1) (by omega) (by omega);rw [if_neg (by omega),ih]
def D8 (l:List Int) (m q:Nat):Int:=sumS l (Hd (q+1) m) - sumS l (q+1 - lowN (q+1))+l.getD q 0
def F6 (l:List Int) (m:Nat):List Int:=(List.range l.length).map (D8 l m)
theorem Rc (l:List Int):F6 l 0=l:=by
 unfold F6 D8;apply List.ext_getElem?;intro i;rw [List.getElem?_map]
 by_cases h:i<l.length
 ·rw [List.getElem?_range h]
  simp [Hd,h]
 ·rw [List.getElem?_eq_none (by simp; omega),List.getElem?_eq_none (by omega)]
  rfl
theorem Lv {l:List Int} {q m:Nat} (hq:q<l.length) (hl:l.length≤400) (hm:q≤m) (hm2:m≤500):D8 l m q=E1 l q:=by
 unfold D8 E1;have h1:=lastB (j:=q+1) (by omega) (by omega);have h2:=V1 (j:=q+1) (by omega) (m - q) (by omega);rw [show q+1 - 1+(m - q)=m by omega] at h2;rw [h2,h1,B1 hq];show sumS l (q+1 - 1) - _+_=_;rw [Nat.add_sub_cancel];omega
theorem Re {l:List Int} (hl:l.length≤400):F6 l l.length=C2 l:=by
 unfold F6 C2;refine List.map_congr_left (fun q hq=>?_);have hq':q<l.length:=by simpa using hq
 exact Lv hq' hl (by omega) (by omega)
theorem Vp (l:List Int) (m:Nat):(F6 l m).length=l.length:=by simp [F6]
theorem Kt {l:List Int} {m q:Nat} (h:q<l.length):(F6 l m).getD q 0=D8 l m q:=by simp [F6,h]
theorem zdw:∀(j m:Nat),Hd j m≤max m (j - lowN j)
 | j,0=>by simp [Hd]
 | j,m+1=>by
  have:=zdw j m;simp only [Hd];split<;>omega
theorem zbi (R:Type) {l:List Int} (h:AllU64 l) (ht:totS l<9223372036854775808) (hlen:l.length≤200) (x2:List Int×Unit) (k0:(List Int×Unit)→List Int→Option R):∀(m i:Nat),i≤l.length→l.length - i<m→
  Qt m R ((i+1:Nat):Int) x2 (F6 l i) k0=k0 x2 (C2 l)
 | 0,i,_,h=>by omega
 | m+1,i,h1,h2=>by
  simp only [Qt,ziy,Vp]
  by_cases hi:i<l.length
  ·have hd:decide (((i+1:Nat):Int)≤(l.length:Int))=true:=decide_eq_true (by omega)
   have hlo:=Nk (n:=i+1) (by omega) (by omega);simp only [hd];rw [Ul R (by omega) (by omega),wrap_i64 (n:=((i+1:Nat):Int)+(lowN (i+1):Int)) (by omega) (by omega),wrap_i64 (n:=((i+1:Nat):Int)+1) (by omega) (by omega),show ((i+1:Nat):Int)+1=((i+1+1:Nat):Int) by omega];have keep:∀q,q+1≠i+1+lowN (i+1)→D8 l (i+1) q=D8 l i q:=fun q hq=>by
    unfold D8;simp only [Hd];rw [if_neg (by omega)]
   by_cases hup:i+1+lowN (i+1)≤l.length
   ·have hd2:decide (((i+1:Nat):Int)+(lowN (i+1):Int)≤(l.length:Int))=true:=decide_eq_true (by omega)
    rw [wrap_i64 (n:=((i+1:Nat):Int)+(lowN (i+1):Int) - 1) (by omega) (by omega),wrap_i64 (n:=((i+1:Nat):Int) - 1) (by omega) (by omega),show ((i+1:Nat):Int)+(lowN (i+1):Int) - 1=((i+lowN (i+1):Nat):Int) by omega,show ((i+1:Nat):Int) - 1=(i:Int) by omega];have hb1:bnd ((i+lowN (i+1):Nat):Int) (l.length:Int)=true:=by unfold bnd; simp; omega
    have hb2:bnd (i:Int) (l.length:Int)=true:=by unfold bnd; simp; omega
    simp only [hd2,hb1,hb2,Int.toNat_natCast];rw [Kt (by omega),Kt (by omega)];have q1:D8 l i i=E1 l i:=Lv hi (by omega) (Nat.le_refl _) (by omega);have qA:=lastA (c:=i+1) (by omega) (by omega);rw [Nat.add_sub_cancel] at qA;have q2:D8 l i (i+lowN (i+1))+E1 l i=D8 l (i+1) (i+lowN (i+1)):=by
     unfold D8 E1;rw [show i+lowN (i+1)+1=i+1+lowN (i+1) by omega,qA];simp only [Hd,if_true];omega
    have q3:0≤D8 l (i+1) (i+lowN (i+1))∧D8 l (i+1) (i+lowN (i+1))<18446744073709551616:=by
     unfold D8;rw [show i+lowN (i+1)+1=i+1+lowN (i+1) by omega];simp only [Hd,if_true];have hlo2:=Nk (n:=i+1+lowN (i+1)) (by omega) (by omega);have a1:=Ej h (i+1);have a2:=A4 h (i+1+lowN (i+1) - lowN (i+1+lowN (i+1)));have a3:=Av h Jd (i+lowN (i+1));have a4:sumS l (i+1+lowN (i+1) - lowN (i+1+lowN (i+1)))≤sumS l (i+1):=by
      have:=zdw (i+1+lowN (i+1)) i;refine Dp h ?_;have hge:∀m,i+1+lowN (i+1) - lowN (i+1+lowN (i+1))≤Hd (i+1+lowN (i+1)) m∨True:=fun _=>.inr trivial
      have hchk:((List.range' 1 400).all fun c=>decide (c+lowN c - lowN (c+lowN c)≤c))=true:=by kernel_rfl
      exact of_decide_eq_true (List.all_eq_true.1 hchk (i+1) (by rw [List.mem_range']; exact ⟨i,by omega,by omega⟩))
     have a5:=B1 (l:=l) (i:=i+lowN (i+1)) (by omega);have a6:=Ej h (i+lowN (i+1)+1);have a7:=Dp h (a:=i+1) (b:=i+lowN (i+1)) (by omega);unfold U64 at a3;omega
    rw [q1,q2,Aj (by omega) (by omega)];have e:(F6 l i).set (i+lowN (i+1)) (D8 l (i+1) (i+lowN (i+1)))=F6 l (i+1):=by
     apply List.ext_getElem?;intro q;unfold F6;rw [List.getElem?_set,List.getElem?_map,List.getElem?_map];simp only [List.length_map,List.length_range]
     by_cases hq:q<l.length
     ·rw [List.getElem?_range hq]
      by_cases eq:i+lowN (i+1)=q
      ·subst eq
       rw [if_pos rfl,if_pos hq]; rfl
      ·rw [if_neg eq]
       simp only [Option.map_some];rw [keep q (by omega)]
     ·rw [List.getElem?_eq_none (by simp; omega),if_neg (by omega)]
      rfl
    rw [e];exact zbi R h ht hlen x2 k0 m (i+1) (by omega) (by omega)
   ·have hd2:decide (((i+1:Nat):Int)+(lowN (i+1):Int)≤(l.length:Int))=false:=decide_eq_false (by omega)
    simp only [hd2];have e:F6 l i=F6 l (i+1):=by
     unfold F6;refine List.map_congr_left (fun q hq=>?_);have hq':q<l.length:=by simpa using hq
     rw [keep q (by omega)]
    rw [e];exact zbi R h ht hlen x2 k0 m (i+1) (by omega) (by omega)
  ·have:i=l.length:=by omega
   subst this;have hd:decide (((l.length+1:Nat):Int)≤(l.length:Int))=false:=decide_eq_false (by omega);simp only [hd];rw [Re (by omega)]
theorem zcq (R:Type) {a b:Int} (ha:0≤a∧a<9223372036854775808) (hb:U64 b) (k:Int→Bool→Option R):F155 R a b k=(if a+b<9223372036854775808 then k (a+b) true else k 0 false):=by
 unfold U64 at hb;simp only [F155,p155,F197,F196,p196,F226,p226];have hd:decide (0≤a∧0≤b∧(0:Int)≤0∧(0:Int)≤1)=true:=decide_eq_true (by omega);simp only [hd,Int.add_zero]
 by_cases h1:a+b<9223372036854775808
 ·have e1:(a+b)/18446744073709551616=0:=by omega
  have e2:(a+b) % 18446744073709551616=a+b:=by omega
  rw [if_pos h1,e1,e2];have n0:((0:Int) !=0)=false:=rfl;simp only [n0,decide_eq_true h1,Bool.not_true]
 ·rw [if_neg h1]
  by_cases h2:a+b<18446744073709551616
  ·have e1:(a+b)/18446744073709551616=0:=by omega
   have e2:(a+b) % 18446744073709551616=a+b:=by omega
   rw [e1,e2];have n0:((0:Int) !=0)=false:=rfl;simp only [n0,decide_eq_false h1,Bool.not_false]
  ·have e1:((a+b)/18446744073709551616 !=0)=true:=by
    have:¬(a+b)/18446744073709551616=0:=by omega
    simp [this]
   simp only [e1]
theorem zmy (R:Type) {l:List Int} (h:AllU64 l) (hlen:l.length≤1000000) (k0:Int→Bool→Option R) (k1:Int→Option R):∀(m i:Nat),i≤l.length→l.length - i<m→sumS l i<9223372036854775808→
  Qr m R (sumS l i) l (l.length:Int) (i:Int) k0 k1=(if totS l<9223372036854775808 then k1 (totS l) else k0 0 false)
 | 0,i,_,h,_=>by omega
 | m+1,i,h1,h2,h3=>by
  simp only [Qr,zit]
  by_cases hi:i<l.length
  ·have hd:decide ((i:Int)<(l.length:Int))=true:=by simpa using hi
   have hbn:bnd (i:Int) (l.length:Int)=true:=by unfold bnd; simp; omega
   simp only [hd,hbn,Int.toNat_natCast];rw [zcq R ⟨A4 h i,h3⟩ (Av h Jd i),←B1 hi]
   by_cases h4:sumS l (i+1)<9223372036854775808
   ·rw [if_pos h4]
    simp only [Bool.not_true];rw [wrap_i64 (n:=(i:Int)+1) (by omega) (by omega)];exact zmy R h hlen k0 k1 m (i+1) (by omega) (by omega) h4
   ·rw [if_neg h4,if_neg (by have:=Ej h (i+1); omega)]
    simp only [Bool.not_false]
  ·have:i=l.length:=by omega
   subst this;have hd:decide ((l.length:Int)<(l.length:Int))=false:=by simp
   simp only [hd];rw [if_pos (show totS l<_ from h3)];rfl
theorem Ng (R:Type) {l:List Int} (h:AllU64 l) (hlen:l.length≤1000000) (k:Int→Bool→Option R):F136 R l k=(if totS l<9223372036854775808 then k (totS l) true else k 0 false):=by
 simp only [F136,p136];exact zmy R h hlen (fun x2 x3=>k x2 x3) (fun x4=>k x4 true) FUEL 0 (by omega) (by rw [Al]; omega) (by rw [Gp]; decide)
end Go.PG
namespace Go.PG
theorem ze3 (R:Type) {l:List Int} (h:AllU64 l) (hlen:l.length≤200) (k:(List Int×Unit)→Int→Option R):F100 R l k=(if totS l<9223372036854775808 then k (C2 l,()) 0 else k ([],()) 11):=by
 simp only [F100,p100];have hd:decide ((l.length:Int)>1048576)=false:=decide_eq_false (by omega);simp only [hd];rw [Ng R h (by omega)]
 by_cases ht:totS l<9223372036854775808
 ·rw [if_pos ht,if_pos ht]
  simp only [Bool.not_true,F137];have hc:decide (List.length ([]:List Int)+l.length≤17592186044416)=true:=by simp; omega
  simp only [hc];have:=zbi R h ht hlen ([],()) (fun x6 x7=>k (x7,()) 0) FUEL 0 (by omega) (by rw [Al]; omega);rw [Rc] at this;exact this
 ·rw [if_neg ht,if_neg ht]
  simp only [Bool.not_false]
def ownN (l:List Int) (x:Int):Nat:=((List.range l.length).find? (fun i=>decide (sumS l i≤x∧x<sumS l (i+1)))).getD 0
theorem Y2 {l:List Int} (h:AllU64 l) {x:Int} {i:Nat} (hi:Owns l x i):ownN l x=i:=by
 unfold ownN;cases hf:(List.range l.length).find? (fun i=>decide (sumS l i≤x∧x<sumS l (i+1))) with
 | none=>
  have:=List.find?_eq_none.1 hf i (by simpa using hi.1);simp only [decide_eq_true_eq] at this;exact absurd hi.2 this
 | some j=>
  have h1:=List.find?_some hf;have h2:=List.mem_of_find?_eq_some hf;simp only [decide_eq_true_eq] at h1;have hj:Owns l x j:=⟨by simpa using h2,h1⟩
  exact hj.uniq h hi
def Cs (l:List Int) (s:Src) (m:Int):Int×Src×Int:=
 if totS l<9223372036854775808 then (if totS l=0 then (0,s,10) else if (B5 s (totS l) m).2.2=0 then ((ownN l (B5 s (totS l) m).1:Int),(B5 s (totS l) m).2.1,0) else (0,(B5 s (totS l) m).2.1,(B5 s (totS l) m).2.2)) else (0,s,11)
theorem Ic {n:Int}:∀(m:Nat) (s:Src),0≤(Ex n m s).1
 | 0,s=>Int.le_refl _
 | m+1,s=>by
  simp only [Ex];split
  ·split
   ·rename_i h _
    obtain ⟨_,_,_,g⟩:=Q8 h;rw [g];exact (Jq s (atS s) _).1
   ·exact Ic m _
  ·exact Int.le_refl _
theorem Mb {s:Src} {n m:Int} (h:(B5 s n m).2.2=0):0≤(B5 s n m).1∧(B5 s n m).1<n:=by
 unfold B5 at h ⊢;split at h
 ·rename_i hc
  rw [if_pos hc];obtain ⟨j,_,_,h3,_⟩:=Tq _ _ h;exact ⟨Ic _ _,h3⟩
 ·simp at h
theorem zo6 (R:Type) {l:List Int} (h:AllU64 l) (hlen:l.length≤200) (ht:totS l<9223372036854775808) {s:Src} (hs:SOK s) (m:Int) (k:Int→Src→Int→Option R):F141 R (C2 l,()) s m k=k (Cs l s m).1 (Cs l s m).2.1 (Cs l s m).2.2:=by
 simp only [F141,p141];rw [zco R h ht (by omega)];have hnn:=A4 h l.length;unfold Cs;rw [if_pos ht]
 by_cases h0:totS l=0
 ·have e:(totS l==0)=true:=by simp [h0]
  rw [if_pos h0];simp only [e]
 ·have e:(totS l==0)=false:=by simp [h0]
  rw [if_neg h0];simp only [e];rw [zos R hs (show U64 (totS l) from by unfold U64; exact ⟨hnn,by omega⟩)]
  by_cases he:(B5 s (totS l) m).2.2=0
  ·have e1:((B5 s (totS l) m).2.2 !=0)=false:=by simp [he]
   rw [if_pos he];simp only [e1];obtain ⟨i,hi,g⟩:=ze1 R h ht (by omega) (Mb he) (fun y7 y8=>k y7 (B5 s (totS l) m).2.1 y8);rw [g,Y2 h hi]
  ·have e1:((B5 s (totS l) m).2.2 !=0)=true:=by simp [he]
   rw [if_neg he];simp only [e1]
end Go.PG
namespace Go.PG
theorem up_ok {c:Nat} (h1:1≤c) (h2:c≤400):c+lowN c - lowN (c+lowN c)≤c - lowN c:=by
 have hchk:((List.range' 1 400).all fun c=>decide (c+lowN c - lowN (c+lowN c)≤c - lowN c))=true:=by kernel_rfl
 exact of_decide_eq_true (List.all_eq_true.1 hchk c (by rw [List.mem_range']; exact ⟨c - 1,by omega,by omega⟩))
theorem zfb:((List.range' 1 200).all fun c=>(List.range (lowN c - 1)).all fun d=>decide (c≤c+d+1 - lowN (c+d+1)))=true:=by kernel_rfl
theorem zx5 {c d:Nat} (h1:1≤c) (h2:c≤200) (hd:d+1<lowN c):c≤c+d+1 - lowN (c+d+1):=by
 have:=List.all_eq_true.1 zfb c (by rw [List.mem_range']; exact ⟨c - 1,by omega,by omega⟩);exact of_decide_eq_true (List.all_eq_true.1 this d (by rw [List.mem_range]; omega))
theorem zbh (R:Type) {l:List Int} (h:AllU64 l) (ht:totS l<9223372036854775808) (hlen:l.length≤200) (k0:List Int→Option R):∀(m i:Nat),i≤l.length→i<m→
  Ny m R (i:Int) (F6 l i) k0=k0 l
 | 0,i,_,h=>by omega
 | m+1,0,h1,h2=>by
  simp only [Ny,zdn];have hd:decide (((0:Nat):Int)>0)=false:=by simp
  simp only [hd];rw [Rc]
 | m+1,i+1,h1,h2=>by
  simp only [Ny,zdn,Vp];have hd:decide (((i+1:Nat):Int)>0)=true:=decide_eq_true (by omega);have hlo:=Nk (n:=i+1) (by omega) (by omega);simp only [hd];rw [Ul R (by omega) (by omega),wrap_i64 (n:=((i+1:Nat):Int)+(lowN (i+1):Int)) (by omega) (by omega),wrap_i64 (n:=((i+1:Nat):Int) - 1) (by omega) (by omega),show ((i+1:Nat):Int) - 1=(i:Int) by omega];have keep:∀q,q+1≠i+1+lowN (i+1)→D8 l (i+1) q=D8 l i q:=fun q hq=>by
   unfold D8;simp only [Hd];rw [if_neg (by omega)]
  by_cases hup:i+1+lowN (i+1)≤l.length
  ·have hd2:decide (((i+1:Nat):Int)+(lowN (i+1):Int)≤(l.length:Int))=true:=decide_eq_true (by omega)
   rw [wrap_i64 (n:=((i+1:Nat):Int)+(lowN (i+1):Int) - 1) (by omega) (by omega),show ((i+1:Nat):Int)+(lowN (i+1):Int) - 1=((i+lowN (i+1):Nat):Int) by omega];have hb1:bnd ((i+lowN (i+1):Nat):Int) (l.length:Int)=true:=by unfold bnd; simp; omega
   have hb2:bnd (i:Int) (l.length:Int)=true:=by unfold bnd; simp; omega
   simp only [hd2,hb1,hb2,Int.toNat_natCast];rw [Kt (by omega),Kt (by omega)];have q1:D8 l (i+1) i=E1 l i:=Lv (by omega) (by omega) (by omega) (by omega);have qA:=lastA (c:=i+1) (by omega) (by omega);rw [Nat.add_sub_cancel] at qA;have q2:D8 l (i+1) (i+lowN (i+1)) - E1 l i=D8 l i (i+lowN (i+1)):=by
    unfold D8 E1;rw [show i+lowN (i+1)+1=i+1+lowN (i+1) by omega,qA];simp only [Hd,if_true];omega
   have q3:0≤D8 l i (i+lowN (i+1))∧D8 l i (i+lowN (i+1))<18446744073709551616:=by
    unfold D8;rw [show i+lowN (i+1)+1=i+1+lowN (i+1) by omega,qA];have a1:=Ej h (i+1 - lowN (i+1));have a2:=A4 h (i+1+lowN (i+1) - lowN (i+1+lowN (i+1)));have a3:=Av h Jd (i+lowN (i+1));have a4:sumS l (i+1+lowN (i+1) - lowN (i+1+lowN (i+1)))≤sumS l (i+1 - lowN (i+1)):=Dp h (up_ok (by omega) (by omega));have a5:=B1 (l:=l) (i:=i+lowN (i+1)) (by omega);have a6:=Ej h (i+lowN (i+1)+1);have a7:=Dp h (a:=i+1 - lowN (i+1)) (b:=i+lowN (i+1)) (by omega);unfold U64 at a3;omega
   rw [q1,q2,Aj (by omega) (by omega)];have e:(F6 l (i+1)).set (i+lowN (i+1)) (D8 l i (i+lowN (i+1)))=F6 l i:=by
    apply List.ext_getElem?;intro q;unfold F6;rw [List.getElem?_set,List.getElem?_map,List.getElem?_map];simp only [List.length_map,List.length_range]
    by_cases hq:q<l.length
    ·rw [List.getElem?_range hq]
     by_cases eq:i+lowN (i+1)=q
     ·subst eq
      rw [if_pos rfl,if_pos hq]; rfl
     ·rw [if_neg eq]
      simp only [Option.map_some];rw [keep q (by omega)]
    ·rw [List.getElem?_eq_none (by simp; omega),if_neg (by omega)]
     rfl
   rw [e];exact zbh R h ht hlen k0 m i (by omega) (by omega)
  ·have hd2:decide (((i+1:Nat):Int)+(lowN (i+1):Int)≤(l.length:Int))=false:=decide_eq_false (by omega)
   simp only [hd2];have e:F6 l (i+1)=F6 l i:=by
    unfold F6;refine List.map_congr_left (fun q hq=>?_);have hq':q<l.length:=by simpa using hq
    rw [keep q (by omega)]
   rw [e];exact zbh R h ht hlen k0 m i (by omega) (by omega)
theorem F140_eq (R:Type) {l:List Int} (h:AllU64 l) (ht:totS l<9223372036854775808) (hlen:l.length≤200) (k:List Int→Option R):F140 R (C2 l,()) k=k l:=by
 simp only [F140,p140,F137];have hc:decide (List.length ([]:List Int)+l.length≤17592186044416)=true:=by simp; omega
 simp only [Fs,hc];have:=zbh R h ht hlen (fun x3=>k x3) FUEL l.length (Nat.le_refl _) (by rw [Al]; omega);rw [Re (by omega)] at this;exact this
theorem zon (R:Type) {l:List Int} (h:AllU64 l) (ht:totS l<9223372036854775808) (hlen:l.length≤500) {n:Nat} (hn:n≤l.length) (k:Int→Option R):F221 R (C2 l,()) (n:Int) k=k (sumS l n):=by
 simp only [F221,p221];have:=zbe R h ht hlen (fun x1=>k x1) n hn FUEL n (Nat.le_refl _) (by rw [Al]; omega);rw [Int.sub_self] at this;exact this
theorem F190_eq (R:Type) {l:List Int} (h:AllU64 l) (ht:totS l<9223372036854775808) (hlen:l.length≤500) {i:Nat} (hi:i<l.length) (k:Int→Int→Option R):F190 R (C2 l,()) (i:Int) k=k (l.getD i 0) 0:=by
 simp only [F190,p190,F222,p222,Fs];have d1:decide ((i:Int)<0)=false:=decide_eq_false (by omega);have d2:decide ((i:Int)≥(l.length:Int))=false:=decide_eq_false (by omega);simp only [d1,d2];have hs:=B1 hi;have h0:=Av h Jd i;unfold U64 at h0;rw [wrap_i64 (n:=(i:Int)+1) (by omega) (by omega),show (i:Int)+1=((i+1:Nat):Int) by omega,zon R h ht hlen hi,zon R h ht hlen (by omega),show sumS l (i+1) - sumS l i=l.getD i 0 by omega,Aj (by omega) (by omega)]
theorem Sp {l:List Int} {i:Nat} (hi:i<l.length) (v:Int):∀n:Nat,n≤l.length→sumS (l.set i v) n=sumS l n+(if i<n then v - l.getD i 0 else 0)
 | 0,_=>by simp [Gp]
 | n+1,h=>by
  have ih:=Sp hi v n (by omega);rw [B1 (l:=l.set i v) (by rw [List.length_set]; omega),B1 (l:=l) (by omega),ih]
  by_cases e:i=n
  ·subst e
   have e1:(l.set i v).getD i 0=v:=by simp [List.getD_eq_getElem?_getD,hi]
   rw [e1,if_neg (by omega),if_pos (by omega)];omega
  ·have e1:(l.set i v).getD n 0=l.getD n 0:=by simp [List.getD_eq_getElem?_getD,List.getElem?_set,e]
   rw [e1]
   by_cases e2:i<n
   ·rw [if_pos e2,if_pos (by omega)]; omega
   ·rw [if_neg e2,if_neg (by omega)]; omega
theorem AllU64.set0 {l:List Int} (h:AllU64 l) (i:Nat):AllU64 (l.set i 0):=fun x hx=>by
 rcases List.mem_or_eq_of_mem_set hx with hx | hx
 ·exact h x hx
 ·rw [hx]; exact Jd
theorem zx2 {l:List Int} {i:Nat} (hi:i<l.length):totS (l.set i 0)=totS l - l.getD i 0:=by
 have:=Sp hi 0 l.length (Nat.le_refl _);rw [if_pos hi] at this;have e:totS (l.set i 0)=sumS (l.set i 0) l.length:=by unfold totS; rw [List.length_set]
 rw [e,this];show _=sumS l l.length - _
 omega
def setN (l:List Int) (i c q:Nat):Int:=E1 l q - (if q+1<c∧q+1 - lowN (q+1)≤i∧i<q+1 then l.getD i 0 else 0)
def N4 (l:List Int) (i c:Nat):List Int:=(List.range l.length).map (setN l i c)
theorem zqv (l:List Int) (i c:Nat):(N4 l i c).length=l.length:=by simp [N4]
theorem zqw {l:List Int} {i c q:Nat} (h:q<l.length):(N4 l i c).getD q 0=setN l i c q:=by simp [N4,h]
theorem zfc (l:List Int) (i:Nat):N4 l i (i+1)=C2 l:=by
 unfold N4 C2 setN;refine List.map_congr_left (fun q _=>?_);rw [if_neg (by omega)]; omega
theorem zhe {l:List Int} {i c:Nat} (hi:i<l.length) (hc:l.length<c):N4 l i c=C2 (l.set i 0):=by
 unfold N4 C2;rw [List.length_set];refine List.map_congr_left (fun q hq=>?_);have hq':q<l.length:=by simpa using hq
 unfold setN E1;rw [Sp hi 0 (q+1) (by omega),Sp hi 0 (q+1 - lowN (q+1)) (by omega)]
 by_cases c1:q+1 - lowN (q+1)≤i∧i<q+1
 ·rw [if_pos ⟨by omega,c1⟩,if_pos c1.2,if_neg (by omega)]; omega
 ·rw [if_neg (fun hh=>c1 hh.2)]
  by_cases c2:i<q+1
  ·rw [if_pos c2,if_pos (by omega)]; omega
  ·rw [if_neg c2,if_neg (by omega)]; omega
theorem zmx (R:Type) {l:List Int} (h:AllU64 l) (ht:totS l<9223372036854775808) (hlen:l.length≤200) {i:Nat} (hi:i<l.length) (x4:List Int×Unit) (k0:(List Int×Unit)→List Int→Option R):∀(m c:Nat),1≤c→i<c→c - lowN c≤i→c≤400→401 - c<m→
  Qq m R 0 (l.getD i 0) (c:Int) x4 (N4 l i c) k0=k0 x4 (C2 (l.set i 0))
 | 0,_,_,_,_,_,hh=>by omega
 | m+1,c,h1,h2,h3,h4,h5=>by
  simp only [Qq,zis,zqv]
  by_cases hc:c≤l.length
  ·have hd:decide ((c:Int)≤(l.length:Int))=true:=decide_eq_true (by omega)
   simp only [hd];have hlo:=Nk (n:=c) h1 (by omega);rw [wrap_i64 (n:=(c:Int) - 1) (by omega) (by omega),show (c:Int) - 1=((c - 1:Nat):Int) by omega];have hb2:bnd ((c - 1:Nat):Int) (l.length:Int)=true:=by unfold bnd; simp; omega
   simp only [hb2,Int.toNat_natCast];rw [zqw (by omega)];have v:setN l i c (c - 1)=E1 l (c - 1):=by
    unfold setN;rw [if_neg (by omega)]; omega
   rw [v];have hn:=zfp h ht (c - 1);have h0:=(Av h Jd i).1;have hge:l.getD i 0≤E1 l (c - 1):=by
    unfold E1;rw [show c - 1+1=c by omega];have a1:=Dp h h3;have a2:=B1 hi;have a3:=Dp h (show i+1≤c by omega);omega
   rw [Aj (n:=E1 l (c - 1) - l.getD i 0) (by omega) (by omega),Int.add_zero,Aj (n:=E1 l (c - 1) - l.getD i 0) (by omega) (by omega),Ul R h1 (by omega),wrap_i64 (n:=(c:Int)+(lowN c:Int)) (by omega) (by omega),show (c:Int)+(lowN c:Int)=((c+lowN c:Nat):Int) by omega];have e:(N4 l i c).set (c - 1) (E1 l (c - 1) - l.getD i 0)=N4 l i (c+lowN c):=by
    apply List.ext_getElem?;intro q;unfold N4;rw [List.getElem?_set,List.getElem?_map,List.getElem?_map];simp only [List.length_map,List.length_range]
    by_cases hq:q<l.length
    ·rw [List.getElem?_range hq]
     by_cases eq:c - 1=q
     ·subst eq
      rw [if_pos rfl,if_pos hq];simp only [Option.map_some];unfold setN;rw [show c - 1+1=c by omega,if_pos (by omega)]
     ·rw [if_neg eq]
      simp only [Option.map_some];unfold setN
      congr 2
      by_cases q1:q+1<c
      ·have a:q+1<c+lowN c:=by omega
       simp [q1,a]
      ·have n1:¬(q+1<c∧q+1 - lowN (q+1)≤i∧i<q+1):=fun hh=>q1 hh.1
       rw [if_neg n1]
       by_cases q2:q+1<c+lowN c
       ·have hsk:=zx5 (c:=c) (d:=q - c) h1 (by omega) (by omega)
        rw [show c+(q - c)+1=q+1 by omega] at hsk;rw [if_neg (by omega)]
       ·rw [if_neg (fun hh=>q2 hh.1)]
    ·rw [List.getElem?_eq_none (by simp; omega),if_neg (by omega)]
     rfl
   rw [e];have hup:=up_ok (c:=c) h1 (by omega);exact zmx R h ht hlen hi x4 k0 m (c+lowN c) (by omega) (by omega) (by omega) (by omega) (by omega)
  ·have hd:decide ((c:Int)≤(l.length:Int))=false:=decide_eq_false (by omega)
   simp only [hd];rw [zhe hi (by omega)]
theorem F142_eq (R:Type) {l:List Int} (h:AllU64 l) (ht:totS l<9223372036854775808) (hlen:l.length≤200) {i:Nat} (hi:i<l.length) (k:(List Int×Unit)→Int→Option R):F142 R (C2 l,()) (i:Int) 0 k=k (C2 (l.set i 0),()) 0:=by
 simp only [F142,p142,F137];rw [F190_eq R h ht (by omega) hi];have n0:((0:Int) !=0)=false:=rfl;simp only [n0];rw [zco R h ht (by omega)];have h0:=(Av h Jd i).1;have hs:=B1 hi;have ha:=Ej h (i+1);have hz:=A4 h i;rw [Aj (n:=totS l - l.getD i 0) (by omega) (by omega),zcq R (by omega) Jd,if_pos (by omega)];simp only [Bool.not_true];have hc:decide (List.length ([]:List Int)+(C2 l).length≤17592186044416)=true:=by rw [Fs]; simp; omega
 simp only [hc];rw [wrap_i64 (n:=(i:Int)+1) (by omega) (by omega),show (i:Int)+1=((i+1:Nat):Int) by omega];have hlo:=Nk (n:=i+1) (by omega) (by omega);have:=zmx R h ht hlen hi ([],()) (fun x10 x11=>k (x11,()) 0) FUEL (i+1) (by omega) (by omega) (by omega) (by omega) (by rw [Al]; omega);rw [zfc] at this;exact this
end Go.PG
namespace Go.PG
def posN (l:List Int) (i:Nat):Nat:=((l.take i).filter fun x=>decide (x>0)).length
def posS (l:List Int):Int:=(posN l l.length:Int)
theorem Vn {l:List Int} {i:Nat} (h:i<l.length):posN l (i+1)=posN l i+(if l.getD i 0>0 then 1 else 0):=by
 unfold posN;rw [List.take_succ_eq_append_getElem h,List.filter_append,List.length_append];have:l.getD i 0=l[i]:=by simp [h]
 rw [this]
 by_cases e:l[i]>0
 ·rw [if_pos e]; simp [List.filter,e]
 ·rw [if_neg e]; simp [List.filter,e]
theorem zym (l:List Int) (i:Nat):posN l i≤l.length:=by
 unfold posN;have:=List.length_filter_le (fun x=>decide (x>0)) (l.take i);have:(l.take i).length≤l.length:=by simp; omega
 omega
theorem T9 (R:Type) {l:List Int} (hlen:l.length≤1000000) (k0:Int→Option R):∀(m i:Nat),i≤l.length→l.length - i<m→
  Qs m R (posN l i:Int) l (l.length:Int) (i:Int) k0=k0 (posS l)
 | 0,i,_,h=>by omega
 | m+1,i,h1,h2=>by
  simp only [Qs,zix]
  by_cases hi:i<l.length
  ·have hd:decide ((i:Int)<(l.length:Int))=true:=decide_eq_true (by omega)
   have hbn:bnd (i:Int) (l.length:Int)=true:=by unfold bnd; simp; omega
   simp only [hd,hbn,Int.toNat_natCast];have hs:=Vn hi;have hle:=zym l i;have e:(i:Int)+1=((i+1:Nat):Int):=by omega
   by_cases hp:l.getD i 0>0
   ·simp only [decide_eq_true hp]
    rw [if_pos hp] at hs;rw [wrap_i64 (n:=(posN l i:Int)+1) (by omega) (by omega),wrap_i64 (n:=(i:Int)+1) (by omega) (by omega),e,show (posN l i:Int)+1=((posN l (i+1):Nat):Int) by omega];exact T9 R hlen k0 m (i+1) (by omega) (by omega)
   ·simp only [decide_eq_false hp]
    rw [if_neg hp] at hs;rw [wrap_i64 (n:=(i:Int)+1) (by omega) (by omega),e,show posN l i=posN l (i+1) by omega];exact T9 R hlen k0 m (i+1) (by omega) (by omega)
  ·have:i=l.length:=by omega
   subst this;have hd:decide ((l.length:Int)<(l.length:Int))=false:=by simp
   simp only [hd];rfl
theorem ze2 (R:Type) {l:List Int} (hlen:l.length≤1000000) (k:Int→Option R):F122 R l k=k (posS l):=by
 simp only [F122,p122];exact T9 R hlen (fun x1=>k x1) FUEL 0 (by omega) (by rw [Al]; omega)
theorem zdr {l:List Int} (h:AllU64 l) (hlen:l.length≤200) (ht:totS l<9223372036854775808) {x:Int} (hx:0≤x∧x<totS l):∃i,Owns l x i∧ownN l x=i:=by
 obtain ⟨i,hi,_⟩:=ze1 Unit h ht (by omega) hx (fun _ _=>none);exact ⟨i,hi,Y2 h hi⟩
theorem zuk {s:Src} (hs:SOK s) {n m:Int} (h:(B5 s n m).2.2=0):SOK (B5 s n m).2.1∧atS s≤atS (B5 s n m).2.1∧∃a,(B5 s n m).2.1=Cr s a:=by
 unfold B5 at h ⊢;split at h
 ·rename_i hc
  rw [if_pos hc];obtain ⟨j,_,_,_,j4,j5,_⟩:=Tq _ _ h;rw [j4];obtain ⟨_,_,l3⟩:=Pf hs;have l4:=l3 hc.1;have hb:=hs.bits;have h5:(0:Int)≤(Cc n:Int)*j:=Int.mul_nonneg (by omega) (by omega);have h0:=hs.at_;have hend:endS s<18446744073709551616:=by
   rcases Gs hc.1 with ⟨_,_,_,r⟩ | ⟨_,_,r⟩
   ·rw [r]; unfold U64 at hb; exact hb.2
   ·rw [r]; omega
  change U64 (atS s) at h0
  change atS s+E3 s=endS s at l4
  unfold U64 at h0;exact ⟨hs.set (by unfold U64; omega),by rw [atS_set]; omega,_,rfl⟩
 ·simp at h
theorem lead_ok {l:List Int} (h:AllU64 l) (hlen:l.length≤200) {s:Src} (hs:SOK s) {m:Int} (he:(Cs l s m).2.2=0):totS l<9223372036854775808∧totS l≠0∧(B5 s (totS l) m).2.2=0∧
  ∃i:Nat,i<l.length∧0<l.getD i 0∧(Cs l s m).1=(i:Int)∧ownN l (B5 s (totS l) m).1=i∧(Cs l s m).2.1=(B5 s (totS l) m).2.1∧SOK (Cs l s m).2.1∧atS s≤atS (Cs l s m).2.1:=by
 unfold Cs at he ⊢
 by_cases ht:totS l<9223372036854775808
 ·rw [if_pos ht] at he ⊢
  by_cases h0:totS l=0
  ·rw [if_pos h0] at he; exact absurd he (by show ¬((10:Int)=0); decide)
  ·rw [if_neg h0] at he ⊢
   by_cases hd:(B5 s (totS l) m).2.2=0
   ·rw [if_pos hd] at he ⊢
    obtain ⟨i,hi,e⟩:=zdr h hlen ht (Mb hd);have h1:=B1 hi.1;have h2:=hi.2;obtain ⟨s1,s2,_⟩:=zuk hs hd;exact ⟨ht,h0,hd,i,hi.1,by omega,by rw [e],e,rfl,s1,s2⟩
   ·rw [if_neg hd] at he; exact absurd he hd
 ·rw [if_neg ht] at he; exact absurd he (by show ¬((11:Int)=0); decide)
def comF (m:Int):Nat→List Int→Src→List Int→List Int×Src×Int
 | 0,_,s,mem=>(mem,s,0)
 | n+1,l,s,mem=>if (Cs l s m).2.2=0 then comF m n (l.set (Cs l s m).1.toNat 0) (Cs l s m).2.1 (mem++[(Cs l s m).1]) else ([],(Cs l s m).2.1,(Cs l s m).2.2)
theorem zqq {l:List Int} (h:AllU64 l) {i:Nat} (hi:i<l.length):totS (l.set i 0)≤totS l:=by
 rw [zx2 hi];have:=(Av h Jd i).1;omega
theorem zm0 (R:Type) {c m:Int} (x6:Src) (k0:Int→Src→Option R) (k1:Src→List Int→Src→Option R) (K:List Int→Src→Int→Option R) (h0:∀e s,k0 e s=K [] s e) (h1:∀s l,k1 s l x6=K l s 0):
  ∀(n f:Nat) (l:List Int) (s:Src) (mem:List Int),AllU64 l→totS l<9223372036854775808→l.length≤200→SOK s→(mem.length:Int)+n=c→c≤1000→n<f→N1 f R c m (C2 l,()) s mem x6 k0 k1=K (comF m n l s mem).1 (comF m n l s mem).2.1 (comF m n l s mem).2.2
 | _,0,_,_,_,_,_,_,_,_,_,hf=>by omega
 | 0,f+1,l,s,mem,h,ht,hl,hs,hc,hc1,hf=>by
  simp only [N1,zdq];have hd:decide ((mem.length:Int)<c)=false:=decide_eq_false (by omega);simp only [hd];rw [h1];rfl
 | n+1,f+1,l,s,mem,h,ht,hl,hs,hc,hc1,hf=>by
  simp only [N1,zdq];have hd:decide ((mem.length:Int)<c)=true:=decide_eq_true (by omega);simp only [hd];rw [zo6 R h hl ht hs]
  by_cases he:(Cs l s m).2.2=0
  ·obtain ⟨_,_,_,i,i1,_,i3,_,_,i6,_⟩:=lead_ok h hl hs he
   have e1:((Cs l s m).2.2 !=0)=false:=by simp [he]
   have hcap:∀y:Int,decide (mem.length+List.length [y]≤17592186044416)=true:=fun y=>by simp; omega
   simp only [e1,hcap];simp only [comF];rw [if_pos he,i3,F142_eq R h ht hl i1,Int.toNat_natCast];have n0:((0:Int) !=0)=false:=rfl;simp only [n0];have hd:=zqq h i1;exact zm0 R x6 k0 k1 K h0 h1 n f (l.set i 0) (Cs l s m).2.1 (mem++[(i:Int)]) (h.set0 i) (by omega) (by simpa using hl) i6 (by simp; omega) hc1 (by omega)
  ·have e1:((Cs l s m).2.2 !=0)=true:=by simp [he]
   simp only [e1,comF];rw [if_neg he,h0]
def comR (l:List Int) (c:Int) (s:Src) (m:Int):List Int×Src×Int:=
 if 0≤c∧c≤256∧Bk s=true∧0<m∧m≤64 then (if posS l<c then ([],s,12) else comF m c.toNat l s []) else ([],s,1)
theorem F139_eq (R:Type) {c m:Int} {s:Src} (hs:SOK s) (k:Bool→Option R):F139 R c s m k=k (decide (0≤c∧c≤256∧Bk s=true∧0<m∧m≤64)):=by
 simp only [F139,p139];rw [Uj R hs]
 by_cases h1:c≥0
 ·simp only [decide_eq_true h1]
  by_cases h2:c≤256
  ·simp only [decide_eq_true h2]
   cases h3:Bk s with
   | true=>
    by_cases h4:m>0
    ·simp only [decide_eq_true h4]
     by_cases h5:m≤64
     ·simp [h1,h2,h4,h5]
     ·simp [h5]
    ·have h4':¬(0<m):=h4
     simp [h4']
   | false=>simp
  ·simp [h2]
 ·have h1':¬(0≤c):=h1
  simp [h1']
theorem F101_eq (R:Type) {l:List Int} (h:AllU64 l) (ht:totS l<9223372036854775808) (hl:l.length≤200) {s:Src} (hs:SOK s) (c m:Int) (k:List Int→Src→Int→Option R):F101 R (C2 l,()) c s m k=k (comR l c s m).1 (comR l c s m).2.1 (comR l c s m).2.2:=by
 simp only [F101,p101];rw [F139_eq R hs];unfold comR
 by_cases hm:0≤c∧c≤256∧Bk s=true∧0<m∧m≤64
 ·rw [if_pos hm]
  simp only [decide_eq_true hm,Bool.not_true];rw [F140_eq R h ht hl,ze2 R (by omega)]
  by_cases hp:posS l<c
  ·simp only [decide_eq_true hp,if_pos hp]
  ·simp only [decide_eq_false hp,if_neg hp]
   exact zm0 R _ _ _ k (fun e s=>rfl) (fun s l=>rfl) c.toNat FUEL l s [] h ht hl hs (by simp; omega) (by omega) (by rw [Al]; omega)
 ·rw [if_neg hm]
  simp only [decide_eq_false hm,Bool.not_false]
def comL (l:List Int) (c:Int) (s:Src) (m:Int):List Int×Src×Int:=if totS l<9223372036854775808 then comR l c s m else ([],s,11)
theorem F63_eq (R:Type) {l:List Int} (h:AllU64 l) (hl:l.length≤200) {s:Src} (hs:SOK s) (c m:Int) (k:List Int→Src→Int→Option R):F63 R c s m l k=k (comL l c s m).1 (comL l c s m).2.1 (comL l c s m).2.2:=by
 simp only [F63,p63];rw [ze3 R h hl];unfold comL
 by_cases ht:totS l<9223372036854775808
 ·rw [if_pos ht,if_pos ht]
  have n0:((0:Int) !=0)=false:=rfl;simp only [n0];rw [F101_eq R h ht hl hs]
 ·rw [if_neg ht,if_neg ht]
  rfl
end Go.PG
namespace Go.PG
end Go.PG
namespace Go.PG
end Go.PG
namespace Go.PG
theorem and32 {x:Int} (hx:U64 x):iand .u64 x 4294967295=x % 4294967296:=by
 have:=zkj hx 32 (by omega);simpa using this
theorem shr32 (x:Int):ishr .u64 x 32=x/4294967296:=by
 unfold ishr;rw [show (2:Int)^(min (32:Int).toNat IntKind.u64.bits)=4294967296 by decide,Int.fdiv_eq_ediv_of_nonneg _ (by omega)]
theorem zdh {a b:Int} (ha:0≤a∧a<4294967296) (hb:0≤b∧b<4294967296):0≤a*b∧a*b≤18446744065119617025:=by
 refine ⟨Int.mul_nonneg ha.1 hb.1,?_⟩;have:a*b≤4294967295*4294967295:=Int.mul_le_mul (by omega) (by omega) hb.1 (by omega);omega
theorem zpa (R:Type) {a b:Int} (ha:U64 a) (hb:U64 b) (k:Int→Int→Option R):F105 R a b k=k (a*b/18446744073709551616) (IntKind.u64.wrap (a*b)):=by
 simp only [F105,p105];simp only [shr32];rw [and32 ha,and32 hb];unfold U64 at ha hb;have hx0:0≤a % 4294967296∧a % 4294967296<4294967296:=by omega
 have hx1:0≤a/4294967296∧a/4294967296<4294967296:=by omega
 have hy0:0≤b % 4294967296∧b % 4294967296<4294967296:=by omega
 have hy1:0≤b/4294967296∧b/4294967296<4294967296:=by omega
 have h00:=zdh hx0 hy0;have h10:=zdh hx1 hy0;have h01:=zdh hx0 hy1;have h11:=zdh hx1 hy1;have hab:a*b=(a/4294967296)*(b/4294967296)*18446744073709551616+((a/4294967296)*(b % 4294967296)+(a % 4294967296)*(b/4294967296))*4294967296+(a % 4294967296)*(b % 4294967296):=by
  have e1:a=a % 4294967296+4294967296*(a/4294967296):=(Int.emod_add_mul_ediv a 4294967296).symm;have e2:b=b % 4294967296+4294967296*(b/4294967296):=(Int.emod_add_mul_ediv b 4294967296).symm;generalize a % 4294967296=x0 at*;generalize a/4294967296=x1 at*;generalize b % 4294967296=y0 at*;generalize b/4294967296=y1 at*;subst e1 e2;rw [Int.mul_add,Int.add_mul,Int.add_mul,Int.mul_assoc 4294967296 x1 y0,Int.mul_left_comm x0 4294967296 y1,Int.mul_assoc 4294967296 x1,Int.mul_left_comm x1 4294967296 y1];omega
 generalize (a % 4294967296)*(b % 4294967296)=p00 at*;generalize (a/4294967296)*(b % 4294967296)=p10 at*;generalize (a % 4294967296)*(b/4294967296)=p01 at*;generalize (a/4294967296)*(b/4294967296)=p11 at*;rw [Aj (n:=p00) (by omega) (by omega),Aj (n:=p10) (by omega) (by omega),Aj (n:=p01) (by omega) (by omega),Aj (n:=p11) (by omega) (by omega)];rw [Aj (n:=p10+p00/4294967296) (by omega) (by omega),and32 (by unfold U64; omega)];rw [Aj (n:=(p10+p00/4294967296) % 4294967296+p01) (by omega) (by omega)];rw [Aj (n:=p11+(p10+p00/4294967296)/4294967296) (by omega) (by omega)]
 rw [Aj (n:=p11+(p10+p00/4294967296)/4294967296+((p10+p00/4294967296) % 4294967296+p01)/4294967296) (by omega) (by omega)]
 congr 1
 rw [hab];omega
theorem zol (R:Type) {a b:Int} (ha:U64 a) (hb:U64 b) (k:Int→Bool→Option R):F245 R a b k=(if a*b<9223372036854775808 then k (a*b) true else k 0 false):=by
 simp only [F245,p245];rw [zpa R ha hb];simp only [F196,p196,F226,p226];have h0:0≤a*b:=Int.mul_nonneg ha.1 hb.1;generalize a*b=p at*
 by_cases h1:p<9223372036854775808
 ·have e1:p/18446744073709551616=0:=by omega
  have n0:((0:Int) !=0)=false:=rfl;rw [if_pos h1,e1,Aj (by omega) (by omega)];simp only [n0,decide_eq_true h1,Bool.not_true]
 ·rw [if_neg h1]
  by_cases h2:p<18446744073709551616
  ·have e1:p/18446744073709551616=0:=by omega
   have n0:((0:Int) !=0)=false:=rfl;rw [e1,Aj (by omega) (by omega)];simp only [n0,decide_eq_false h1,Bool.not_false]
  ·have e1:(p/18446744073709551616 !=0)=true:=by
    have:¬p/18446744073709551616=0:=by omega
    simp [this]
   simp only [e1]
abbrev Ip:=Int×(Int×Unit)
abbrev TabA:=Int×(List Ip×Unit)
def badC (t:TabA) (c:Ip):Bool:=decide (c.1>t.1)||(decide (c.2.1<0)||decide (c.2.1≥(t.2.1.length:Int)))
def Jf (t:TabA):Bool:=decide ((t.2.1.length:Int)*t.1<9223372036854775808)&&(!((t.2.1.length:Int)==0)&&(!(t.1==0)&& !(t.2.1.any (badC t))))
theorem F248_eq (R:Type) (c:Ip) (t:TabA) (k:Bool→TabA→Option R):F248 R c t k=k (badC t c) t:=by
 simp only [F248,p248,badC];cases decide (c.1>t.1) with
 | true=>rfl
 | false=>
  cases decide (c.2.1<0) with
  | true=>rfl
  | false=>rfl
theorem Sc (R:Type) (t:TabA) (l:List Ip) (hlen:l.length≤1000000) (k0:Int→TabA→Option R) (k1:TabA→Option R) (K:Bool→TabA→Option R) (h0:∀i:Int,0≤i→k0 i t=K true t) (h1:k1 t=K false t):
  ∀(m i:Nat),i≤l.length→l.length - i<m→Be m R l (l.length:Int) (i:Int) t k0 k1=K ((l.drop i).any (badC t)) t
 | 0,i,_,h=>by omega
 | m+1,i,h2,h3=>by
  simp only [Be,Ku]
  by_cases hi:i<l.length
  ·have hd:decide ((i:Int)<(l.length:Int))=true:=by simpa using hi
   have hbn:bnd (i:Int) (l.length:Int)=true:=by unfold bnd; simp; omega
   simp only [hd,hbn,Int.toNat_natCast];rw [F248_eq,List.drop_eq_getElem_cons hi,List.any_cons];have hg:l.getD i ((0:Int),(0:Int),())=l[i]:=by simp [hi]
   rw [hg];cases hb:badC t l[i] with
   | true=>simpa using h0 (i:Int) (by omega)
   | false=>
    simp only [Bool.false_or];rw [wrap_i64 (n:=(i:Int)+1) (by omega) (by omega)];exact Sc R t l hlen k0 k1 K h0 h1 m (i+1) (by omega) (by omega)
  ·have:i=l.length:=by omega
   subst this;have hd:decide ((l.length:Int)<(l.length:Int))=false:=by simp
   simp only [hd];rw [h1,List.drop_length];rfl
theorem Uh (R:Type) {t:TabA} (ht:U64 t.1) (hlen:t.2.1.length≤1000) (k:Bool→Option R):F232 R t k=k (Jf t):=by
 simp only [F232,p232];rw [Aj (n:=(t.2.1.length:Int)) (by omega) (by omega),zol R (by unfold U64; omega) ht];unfold Jf
 by_cases h1:(t.2.1.length:Int)*t.1<9223372036854775808
 ·rw [if_pos h1]
  simp only [decide_eq_true h1,Bool.not_true,Bool.true_and];cases e1:((t.2.1.length:Int)==0) with
  | true=>rfl
  | false=>
   cases e2:(t.1==0) with
   | true=>rfl
   | false=>
    simp only [Bool.not_false,Bool.true_and,Ea,Yv,Dw,Yu];have:=Sc R t t.2.1 (by omega) (fun x2 x3=>k !decide (x2≥0)) (fun x4=>k !decide ((-1:Int)≥0)) (fun b _=>k !b) (fun i hi=>by simp [hi]) (by rfl) FUEL 0 (by omega) (by rw [Al]; omega);simpa using this
 ·rw [if_neg h1]
  simp only [decide_eq_false h1,Bool.not_false,Bool.false_and]
theorem Sy {t:TabA} (h:Jf t=true):(t.2.1.length:Int)*t.1<9223372036854775808∧t.2.1.length≠0∧t.1≠0∧∀c∈t.2.1,c.1≤t.1∧0≤c.2.1∧c.2.1<(t.2.1.length:Int):=by
 simp only [Jf,Bool.and_eq_true,Bool.not_eq_true',decide_eq_true_eq] at h;obtain ⟨h1,h2,h3,h4⟩:=h;refine ⟨h1,fun e=>by simp [e] at h2,fun e=>by simp [e] at h3,fun c hc=>?_⟩;have:=List.any_eq_false.1 h4 c hc;simp only [badC,Bool.not_eq_true,Bool.or_eq_false_iff,decide_eq_false_iff_not] at this;omega
theorem zom (R:Type) {t:TabA} (ht:U64 t.1) (hlen:t.2.1.length≤1000) (k:Int→Option R):F233 R t k=k (if Jf t=true then (t.2.1.length:Int)*t.1 else 0):=by
 simp only [F233,p233];rw [Uh R ht hlen];cases h:Jf t with
 | false=>rfl
 | true=>
  obtain ⟨h1,h2,h3,h4⟩:=Sy h;have h0:0≤(t.2.1.length:Int)*t.1:=Int.mul_nonneg (by omega) ht.1;simp only [Bool.not_true,if_true];rw [Aj (n:=(t.2.1.length:Int)) (by omega) (by omega),Aj h0 (by omega)]
def ownT (t:TabA) (u:Int):Int:=if u % t.1<(t.2.1.getD (u/t.1).toNat (0,0,())).1 then u/t.1 else (t.2.1.getD (u/t.1).toNat (0,0,())).2.1
theorem col_T {t:TabA} (ht:U64 t.1) (h:Jf t=true) {u:Int} (hu:0≤u∧u<(t.2.1.length:Int)*t.1):0≤u/t.1∧u/t.1<(t.2.1.length:Int)∧0≤u % t.1∧u % t.1<t.1:=by
 obtain ⟨h1,h2,h3,h4⟩:=Sy h;have hp:0<t.1:=by have:=ht.1; omega
 exact ⟨Int.ediv_nonneg hu.1 (by omega),Int.ediv_lt_of_lt_mul hp hu.2,Int.emod_nonneg _ h3,Int.emod_lt_of_pos _ hp⟩
theorem F234_eq (R:Type) {t:TabA} (ht:U64 t.1) (hlen:t.2.1.length≤1000) (h:Jf t=true) {u:Int} (hu:0≤u∧u<(t.2.1.length:Int)*t.1) (k:Int→Int→Option R):F234 R t u k=k (ownT t u) 0:=by
 simp only [F234,p234];rw [Uh R ht hlen];simp only [h,Bool.not_true];rw [zom R ht hlen];obtain ⟨h1,h2,h3,h4⟩:=Sy h;obtain ⟨c1,c2,c3,c4⟩:=col_T ht h hu;have e0:(t.1==0)=false:=by simp [h3]
 have ed:decide (u≥(t.2.1.length:Int)*t.1)=false:=decide_eq_false (by omega);simp only [h,if_true,ed,e0,Bool.not_false];rw [Int.tdiv_eq_ediv_of_nonneg hu.1,Int.tmod_eq_emod_of_nonneg hu.1,Aj (n:=u/t.1) c1 (by omega),wrap_i64 (n:=u/t.1) (by omega) (by omega)];simp only [F249,p249,F256,p256];rw [Uh R ht hlen];have d1:decide (u/t.1<0)=false:=decide_eq_false (by omega);have d2:decide (u/t.1≥(t.2.1.length:Int))=false:=decide_eq_false (by omega);have d3:decide (u % t.1≥t.1)=false:=decide_eq_false (by omega);have d4:bnd (u/t.1) (t.2.1.length:Int)=true:=by unfold bnd; simp; omega
 have n0:((0:Int) !=0)=false:=rfl;simp only [h,Bool.not_true,d1,d2,n0,d3,d4];unfold ownT
 by_cases hc:u % t.1<(t.2.1.getD (u/t.1).toNat (0,0,())).1
 ·rw [if_pos hc]
  simp only [decide_eq_false (show ¬(u % t.1≥(t.2.1.getD (u/t.1).toNat (0,0,())).1) by omega)]
 ·rw [if_neg hc]
  simp only [decide_eq_true (show (u % t.1≥(t.2.1.getD (u/t.1).toNat (0,0,())).1) by omega)]
def zh0 (t:TabA) (s:Src) (m:Int):Int×Src×Int:=
 if Jf t=true then (if (B5 s ((t.2.1.length:Int)*t.1) m).2.2=0 then (ownT t (B5 s ((t.2.1.length:Int)*t.1) m).1,(B5 s ((t.2.1.length:Int)*t.1) m).2.1,0)
  else (0,(B5 s ((t.2.1.length:Int)*t.1) m).2.1,(B5 s ((t.2.1.length:Int)*t.1) m).2.2)) else (0,s,1)
theorem F208_eq (R:Type) {t:TabA} (ht:U64 t.1) (hlen:t.2.1.length≤1000) {s:Src} (hs:SOK s) (m:Int) (k:Int→Src→Int→Option R):F208 R t s m k=k (zh0 t s m).1 (zh0 t s m).2.1 (zh0 t s m).2.2:=by
 simp only [F208,p208];rw [Uh R ht hlen];unfold zh0;cases h:Jf t with
 | false=>rfl
 | true=>
  obtain ⟨h1,h2,h3,h4⟩:=Sy h;have h0:0≤(t.2.1.length:Int)*t.1:=Int.mul_nonneg (by omega) ht.1;simp only [Bool.not_true,if_true];rw [zom R ht hlen];simp only [h,if_true];rw [zos R hs (show U64 ((t.2.1.length:Int)*t.1) from by unfold U64; omega)]
  by_cases he:(B5 s ((t.2.1.length:Int)*t.1) m).2.2=0
  ·have e1:((B5 s ((t.2.1.length:Int)*t.1) m).2.2 !=0)=false:=by simp [he]
   rw [if_pos he];simp only [e1];rw [F234_eq R ht hlen h (Mb he)]
  ·have e1:((B5 s ((t.2.1.length:Int)*t.1) m).2.2 !=0)=true:=by simp [he]
   rw [if_neg he];simp only [e1]
end Go.PG
namespace Go.PG
def popI (l:List Int):Int:=l.getD (l.length - 1) 0
def cutL (l:List Int):List Int:=l.take (l.length - 1)
theorem zq9 (a:List Int) (x:Int):popI (a++[x])=x:=by simp [popI]
theorem zum (a:List Int) (x:Int):cutL (a++[x])=a:=by simp [cutL]
theorem Ss {l:List Int} (h:l.length≠0):∃a x,l=a++[x]:=by
 rcases List.eq_nil_or_concat l with rfl | ⟨a,x,rfl⟩
 ·simp at h
 ·exact ⟨a,x,by simp⟩
def Gq (T:Int) (h:List Int) (i k:Int):List Int:=h.set k.toNat (h.getD k.toNat 0 - (T - h.getD i.toNat 0))
def runA (T:Int):Nat→List Int→List Ip→List Int→List Int→List Int×(List Ip×(List Int×List Int))
 | 0,h,c,sm,la=>(h,c,sm,la)
 | f+1,h,c,sm,la=>if sm.length=0∨la.length=0 then (h,c,sm,la) else
   if (Gq T h (popI sm) (popI la)).getD (popI la).toNat 0<T then runA T f (Gq T h (popI sm) (popI la)) (c.set (popI sm).toNat (h.getD (popI sm).toNat 0,popI la,())) (cutL sm++[popI la]) (cutL la)
   else runA T f (Gq T h (popI sm) (popI la)) (c.set (popI sm).toNat (h.getD (popI sm).toNat 0,popI la,())) (cutL sm) (cutL la++[popI la])
structure IA (T:Int) (n:Nat) (h:List Int) (c:List Ip) (sm la:List Int):Prop where
 hl:h.length=n
 cl:c.length=n
 ix:∀x∈sm++la,0≤x∧x<(n:Int)
 nd:(sm++la).Nodup
 sml:∀x∈sm,0≤h.getD x.toNat 0∧h.getD x.toNat 0<T
 lrg:∀x∈la,T≤h.getD x.toNat 0∧h.getD x.toNat 0<9223372036854775808
theorem V5 (h:List Int) {i j:Nat} (v:Int) (hij:i≠j):(h.set i v).getD j 0=h.getD j 0:=by
 simp [List.getD_eq_getElem?_getD,List.getElem?_set,hij]
theorem Nm (h:List Int) {i:Nat} (v:Int) (hi:i<h.length):(h.set i v).getD i 0=v:=by
 simp [List.getD_eq_getElem?_getD,hi]
theorem perm1 (s0 l0:List Int) (i k:Int):((s0++[i])++(l0++[k])).Perm (i::((s0++[k])++l0)):=by
 rw [List.append_assoc,List.append_assoc];refine List.perm_middle.trans (.cons i (List.Perm.append_left s0 ?_));exact (List.perm_append_comm:(l0++[k]).Perm ([k]++l0))
theorem perm2 (s0 l0:List Int) (i k:Int):((s0++[i])++(l0++[k])).Perm (i::(s0++(l0++[k]))):=by
 rw [List.append_assoc];exact List.perm_middle
theorem IA.facts {T:Int} {n:Nat} {h:List Int} {c:List Ip} {s0 l0:List Int} {i k:Int} (hI:IA T n h c (s0++[i]) (l0++[k])):
  (0≤i∧i<(n:Int))∧(0≤k∧k<(n:Int))∧i≠k∧(∀x∈s0,x≠i∧x≠k∧0≤x)∧(∀x∈l0,x≠i∧x≠k∧0≤x):=by
 have hn:=(perm1 s0 l0 i k).nodup_iff.1 hI.nd;rw [List.nodup_cons] at hn;obtain ⟨h1,h2⟩:=hn;have h3:(k::(s0++l0)).Nodup:=by
  rw [List.append_assoc] at h2;exact (List.perm_middle (l₁:=s0) (l₂:=l0) (a:=k)).nodup_iff.1 h2
 rw [List.nodup_cons] at h3;have hm:∀x,x∈s0∨x∈l0→x≠i∧x≠k∧0≤x:=fun x hx=>by
  refine ⟨fun e=>h1 ?_,fun e=>h3.1 ?_,(hI.ix x ?_).1⟩
  ·subst e; simp; rcases hx with hx | hx<;>simp [hx]
  ·subst e; simpa using hx
  ·simp; rcases hx with hx | hx<;>simp [hx]
 refine ⟨hI.ix i (by simp),hI.ix k (by simp),fun e=>h1 ?_,fun x hx=>hm x (.inl hx),fun x hx=>hm x (.inr hx)⟩;subst e; simp
theorem IA.step {T:Int} {n:Nat} {h:List Int} {c:List Ip} {s0 l0:List Int} {i k:Int} (hI:IA T n h c (s0++[i]) (l0++[k])):
  (0≤(Gq T h i k).getD k.toNat 0∧(Gq T h i k).getD k.toNat 0<9223372036854775808∧(Gq T h i k).getD k.toNat 0=h.getD k.toNat 0 - (T - h.getD i.toNat 0))∧
  ((Gq T h i k).getD k.toNat 0<T→IA T n (Gq T h i k) (c.set i.toNat (h.getD i.toNat 0,k,())) (s0++[k]) l0)∧
  (¬(Gq T h i k).getD k.toNat 0<T→IA T n (Gq T h i k) (c.set i.toNat (h.getD i.toNat 0,k,())) s0 (l0++[k])):=by
 obtain ⟨hi,hk,hik,hs,hl⟩:=hI.facts;have hkl:k.toNat<h.length:=by rw [hI.hl]; omega
 have ek:(Gq T h i k).getD k.toNat 0=h.getD k.toNat 0 - (T - h.getD i.toNat 0):=Nm h _ hkl;have b1:=hI.sml i (by simp);have b2:=hI.lrg k (by simp);have same:∀x:Int,0≤x→x≠k→(Gq T h i k).getD x.toNat 0=h.getD x.toNat 0:=fun x h0 hx=>V5 h _ (by omega)
 have hn1:=((perm1 s0 l0 i k).nodup_iff.1 hI.nd)
 have hn2:=((perm2 s0 l0 i k).nodup_iff.1 hI.nd)
 rw [List.nodup_cons] at hn1 hn2;refine ⟨⟨by omega,by omega,ek⟩,fun hlt=>⟨by simp [Gq,hI.hl],by simp [hI.cl],fun x hx=>hI.ix x ?_,hn1.2,fun x hx=>?_,fun x hx=>?_⟩,fun hge=>⟨by simp [Gq,hI.hl],by simp [hI.cl],fun x hx=>hI.ix x ?_,hn2.2,fun x hx=>?_,fun x hx=>?_⟩⟩
 ·simp at hx ⊢; rcases hx with hx | hx | hx<;>simp [hx]
 ·rcases List.mem_append.1 hx with hx | hx
  ·have:=hs x hx
   rw [same x this.2.2 this.2.1]; exact hI.sml x (by simp [hx])
  ·simp at hx; subst hx; omega
 ·have:=hl x hx
  rw [same x this.2.2 this.2.1]; exact hI.lrg x (by simp [hx])
 ·simp at hx ⊢; rcases hx with hx | hx | hx<;>simp [hx]
 ·have:=hs x hx
  rw [same x this.2.2 this.2.1]; exact hI.sml x (by simp [hx])
 ·rcases List.mem_append.1 hx with hx | hx
  ·have:=hl x hx
   rw [same x this.2.2 this.2.1]; exact hI.lrg x (by simp [hx])
  ·simp at hx; subst hx; omega
theorem U6 {T:Int} {f:Nat} {h:List Int} {c:List Ip} {s0 l0:List Int} {i k:Int}:runA T (f+1) h c (s0++[i]) (l0++[k])=
  if (Gq T h i k).getD k.toNat 0<T then runA T f (Gq T h i k) (c.set i.toNat (h.getD i.toNat 0,k,())) (s0++[k]) l0 else runA T f (Gq T h i k) (c.set i.toNat (h.getD i.toNat 0,k,())) s0 (l0++[k]):=by
 simp only [runA,zq9,zum];rw [if_neg (by simp)]
theorem O3 {T:Int} {f:Nat} {h:List Int} {c:List Ip} {sm la:List Int} (hs:sm.length=0∨la.length=0):runA T f h c sm la=(h,c,sm,la):=by
 cases f with
 | zero=>rfl
 | succ f=>simp only [runA]; rw [if_pos hs]
theorem Nb (R:Type) {T:Int} {n:Nat} (hT:0<T∧T<9223372036854775808) (hn:n≤1000) (x1:TabA) (k0:TabA→List Int→List Ip→List Int→List Int→(Int×Unit)→Option R):
  ∀(f m:Nat) (h:List Int) (c:List Ip) (sm la:List Int),IA T n h c sm la→sm.length+la.length≤f→f≤10000→f<m→
   Gm m R x1 h c sm la (T,()) k0=k0 x1 (runA T f h c sm la).1 (runA T f h c sm la).2.1 (runA T f h c sm la).2.2.1 (runA T f h c sm la).2.2.2 (T,())
 | f,0,_,_,_,_,_,_,_,hm=>by omega
 | f,m+1,h,c,sm,la,hI,hf,hf2,hm=>by
  simp only [Gm,Yw]
  by_cases hs:sm.length=0
  ·have hd:decide ((sm.length:Int)>0)=false:=decide_eq_false (by omega)
   simp only [hd];rw [O3 (.inl hs)]
  ·have hd:decide ((sm.length:Int)>0)=true:=decide_eq_true (by omega)
   simp only [hd]
   by_cases hl:la.length=0
   ·have hd:decide ((la.length:Int)>0)=false:=decide_eq_false (by omega)
    simp only [hd];rw [O3 (.inr hl)]
   ·have hd:decide ((la.length:Int)>0)=true:=decide_eq_true (by omega)
    simp only [hd];obtain ⟨s0,i,rfl⟩:=Ss hs;obtain ⟨l0,k,rfl⟩:=Ss hl;obtain ⟨hi,hk,hik,hms,hml⟩:=hI.facts;obtain ⟨⟨e0,e1,e2⟩,st1,st2⟩:=hI.step;have b1:=hI.sml i (by simp);have b2:=hI.lrg k (by simp);have ls:((s0++[i]).length:Int)=(s0.length:Int)+1:=by simp
    have ll:((l0++[k]).length:Int)=(l0.length:Int)+1:=by simp
    simp only [List.length_append,List.length_cons,List.length_nil] at hf;rw [ls,ll,show (s0.length:Int)+1 - 1=(s0.length:Int) by omega,show (l0.length:Int)+1 - 1=(l0.length:Int) by omega,wrap_i64 (n:=(s0.length:Int)) (by omega) (by omega),wrap_i64 (n:=(l0.length:Int)) (by omega) (by omega)];have d1:bnd (s0.length:Int) ((s0.length:Int)+1)=true:=by unfold bnd; simp; omega
    have d2:bnd (l0.length:Int) ((l0.length:Int)+1)=true:=by unfold bnd; simp; omega
    have d3:decide (0≤(s0.length:Int)∧(s0.length:Int)≤(s0.length:Int)+1)=true:=decide_eq_true (by omega);have d4:decide (0≤(l0.length:Int)∧(l0.length:Int)≤(l0.length:Int)+1)=true:=decide_eq_true (by omega);have g1:(s0++[i]).getD s0.length 0=i:=by simp
    have g2:(l0++[k]).getD l0.length 0=k:=by simp
    have t1:(s0++[i]).take s0.length=s0:=by simp
    have t2:(l0++[k]).take l0.length=l0:=by simp
    have d5:bnd i (h.length:Int)=true:=by rw [hI.hl]; unfold bnd; simp; omega
    have d6:bnd i (c.length:Int)=true:=by rw [hI.cl]; unfold bnd; simp; omega
    have d7:bnd k (h.length:Int)=true:=by rw [hI.hl]; unfold bnd; simp; omega
    simp only [d1,d2,d3,d4,Int.toNat_natCast,g1,g2,t1,t2,d5,d6,d7,List.length_set];rw [Aj (n:=T - h.getD i.toNat 0) (by omega) (by omega),Aj (n:=h.getD k.toNat 0 - (T - h.getD i.toNat 0)) (by omega) (by omega)]
    change (match decide ((Gq T h i k).getD k.toNat 0<T) with
     | true=>_
     | false=>_)=_
    cases f with
    | zero=>omega
    | succ f=>
     rw [U6]
     by_cases hlt:(Gq T h i k).getD k.toNat 0<T
     ·have dc:decide (s0.length+[k].length≤17592186044416)=true:=decide_eq_true (by simp; omega)
      rw [if_pos hlt];simp only [decide_eq_true hlt,dc];exact Nb R hT hn x1 k0 f m _ _ _ _ (st1 hlt) (by simp; omega) (by omega) (by omega)
     ·have dc:decide (l0.length+[k].length≤17592186044416)=true:=decide_eq_true (by simp; omega)
      rw [if_neg hlt];simp only [decide_eq_false hlt,dc];exact Nb R hT hn x1 k0 f m _ _ _ _ (st2 hlt) (by simp; omega) (by omega) (by omega)
end Go.PG
namespace Go.PG
theorem zhd {α:Type} (A:List α) (z v:α) (m:Nat) {i:Nat} (hi:A.length=i):(A++List.replicate (m+1) z).set i v=A++[v]++List.replicate m z:=by
 subst hi;rw [List.set_append_right _ _ (Nat.le_refl _),Nat.sub_self,List.replicate_succ,List.set_cons_zero];simp
def hasP (n:Int) (l:List Int) (i:Nat):List Int:=(l.take i).map (fun v=>n*v)++List.replicate (l.length - i) 0
def ceP (T:Int) (i:Nat):List Ip:=(List.range i).map (fun j:Nat=>(T,(j:Int),()))
def smP (T n:Int) (l:List Int) (i:Nat):List Int:=((List.range i).filter (fun j=>decide (n*l.getD j 0<T))).map (fun j:Nat=>(j:Int))
def laP (T n:Int) (l:List Int) (i:Nat):List Int:=((List.range i).filter (fun j=> !decide (n*l.getD j 0<T))).map (fun j:Nat=>(j:Int))
theorem Ok {n:Int} {l:List Int} {i:Nat} (h:i≤l.length):(hasP n l i).length=l.length:=by simp [hasP]; omega
theorem zdy {n:Int} {l:List Int} {i:Nat} (h:i<l.length):(hasP n l i).set i (n*l.getD i 0)=hasP n l (i+1):=by
 unfold hasP;rw [show l.length - i=(l.length - (i+1))+1 by omega,zhd _ _ _ _ (by simp; omega),List.take_succ_eq_append_getElem h,List.map_append];simp only [List.getD_eq_getElem?_getD,List.getElem?_eq_getElem h,Option.getD_some,List.map_cons,List.map_nil]
theorem zuo (T:Int) (i:Nat):ceP T i++[(T,(i:Int),())]=ceP T (i+1):=by simp [ceP,List.range_succ]
theorem zu8 {T n:Int} {l:List Int} {i:Nat} (h:n*l.getD i 0<T):smP T n l i++[(i:Int)]=smP T n l (i+1)∧laP T n l i=laP T n l (i+1):=by
 unfold smP laP;rw [List.range_succ,List.filter_append,List.filter_append,List.map_append,List.map_append];have e1:[i].filter (fun j=>decide (n*l.getD j 0<T))=[i]:=by rw [List.filter_cons,if_pos (decide_eq_true h)]; rfl
 have e2:[i].filter (fun j=> !decide (n*l.getD j 0<T))=[]:=by rw [List.filter_cons,if_neg (by simp only [decide_eq_true h]; simp)]; rfl
 rw [e1,e2];simp
theorem zu9 {T n:Int} {l:List Int} {i:Nat} (h:¬n*l.getD i 0<T):smP T n l i=smP T n l (i+1)∧laP T n l i++[(i:Int)]=laP T n l (i+1):=by
 unfold smP laP;rw [List.range_succ,List.filter_append,List.filter_append,List.map_append,List.map_append];have e1:[i].filter (fun j=>decide (n*l.getD j 0<T))=[]:=by rw [List.filter_cons,if_neg (by simp only [decide_eq_false h]; simp)]; rfl
 have e2:[i].filter (fun j=> !decide (n*l.getD j 0<T))=[i]:=by rw [List.filter_cons,if_pos (by simp only [decide_eq_false h]; simp)]; rfl
 rw [e1,e2];simp
theorem zha (T n:Int) (l:List Int) (i:Nat):(smP T n l i).length+(laP T n l i).length≤i:=by
 induction i with
 | zero=>simp [smP,laP]
 | succ i ih=>
  by_cases h:n*l.getD i 0<T
  ·obtain ⟨h1,h2⟩:=zu8 h
   rw [←h1,←h2]; simp; omega
  ·obtain ⟨h1,h2⟩:=zu9 h
   rw [←h1,←h2]; simp; omega
theorem zf2 {l:List Int} (h:AllU64 l) (i:Nat):l.getD i 0≤totS l:=by
 by_cases hi:i<l.length
 ·have h1:=B1 hi
  have h2:=A4 h i;have h3:=Ej h (i+1);omega
 ·have:l.getD i 0=0:=by simp [List.getD_eq_getElem?_getD,List.getElem?_eq_none (show l.length≤i by omega)]
  rw [this];exact A4 h l.length
theorem Yt {l:List Int} (h:AllU64 l) (hb:(l.length:Int)*totS l<9223372036854775808) (i:Nat):0≤(l.length:Int)*l.getD i 0∧(l.length:Int)*l.getD i 0<9223372036854775808:=by
 have h1:=(Av h Jd i).1;have h2:=zf2 h i;have h3:(l.length:Int)*l.getD i 0≤(l.length:Int)*totS l:=Int.mul_le_mul_of_nonneg_left h2 (by omega);exact ⟨Int.mul_nonneg (by omega) h1,by omega⟩
theorem Qh (R:Type) {l:List Int} (h:AllU64 l) (hlen:l.length≤1000) {T:Int} (hb:(l.length:Int)*totS l<9223372036854775808) (x6:TabA) (k0:TabA→List Int→List Ip→List Int→List Int→(Int×Unit)→Option R):
  ∀(m i:Nat),i≤l.length→l.length - i<m→Lf m R l T l (l.length:Int) (i:Int) x6 (hasP (l.length:Int) l i) (ceP T i) (smP T (l.length:Int) l i) (laP T (l.length:Int) l i) (T,()) k0=
   k0 x6 (hasP (l.length:Int) l l.length) (ceP T l.length) (smP T (l.length:Int) l l.length) (laP T (l.length:Int) l l.length) (T,())
 | 0,i,_,hm=>by omega
 | m+1,i,h1,h2=>by
  simp only [Lf,zid]
  by_cases hi:i<l.length
  ·have hd:decide ((i:Int)<(l.length:Int))=true:=by simpa using hi
   have hbn:bnd (i:Int) (l.length:Int)=true:=by unfold bnd; simp; omega
   have hp:=Yt h hb i;have hsl:=zha T (l.length:Int) l i;have cl:(ceP T i).length=i:=by simp [ceP]
   have dc:decide ((ceP T i).length+[(T,(i:Int),())].length≤8796093022208)=true:=decide_eq_true (by rw [cl]; simp; omega);have ew:IntKind.u64.wrap (l.getD i 0*IntKind.u64.wrap (l.length:Int))=(l.length:Int)*l.getD i 0:=by
    rw [Aj (n:=(l.length:Int)) (by omega) (by omega),Int.mul_comm (l.getD i 0),Aj (n:=(l.length:Int)*l.getD i 0) hp.1 (by omega)]
   simp only [hd,hbn,Int.toNat_natCast,Ok (n:=(l.length:Int)) h1,dc,ew,zdy hi,zuo,Ok (n:=(l.length:Int)) (show i+1≤l.length by omega)];have hg:(hasP (l.length:Int) l (i+1)).getD i 0=(l.length:Int)*l.getD i 0:=by
    rw [←zdy hi,Nm _ _ (by rw [Ok h1]; exact hi)]
   simp only [hbn,hg]
   by_cases hlt:(l.length:Int)*l.getD i 0<T
   ·obtain ⟨q1,q2⟩:=zu8 hlt
    have dd:decide ((smP T (l.length:Int) l i).length+[(i:Int)].length≤17592186044416)=true:=decide_eq_true (by simp; omega);simp only [decide_eq_true hlt,dd];rw [q1,q2,wrap_i64 (n:=(i:Int)+1) (by omega) (by omega)];exact Qh R h hlen hb x6 k0 m (i+1) (by omega) (by omega)
   ·obtain ⟨q1,q2⟩:=zu9 hlt
    have dd:decide ((laP T (l.length:Int) l i).length+[(i:Int)].length≤17592186044416)=true:=decide_eq_true (by simp; omega);simp only [decide_eq_false hlt,dd];rw [q1,q2,wrap_i64 (n:=(i:Int)+1) (by omega) (by omega)];exact Qh R h hlen hb x6 k0 m (i+1) (by omega) (by omega)
  ·have:i=l.length:=by omega
   subst this;have hd:decide ((l.length:Int)<(l.length:Int))=false:=by simp
   simp only [hd]
theorem zdz {n:Int} {l:List Int} {j:Nat} (hj:j<l.length):(hasP n l l.length).getD j 0=n*l.getD j 0:=by
 simp [hasP,hj]
theorem Y5 {T n:Int} {l:List Int} {i:Nat} {x:Int} (h:x∈smP T n l i):∃j:Nat,x=(j:Int)∧j<i∧n*l.getD j 0<T:=by
 simp only [smP,List.mem_map,List.mem_filter,List.mem_range,decide_eq_true_eq] at h;obtain ⟨j,⟨h1,h2⟩,rfl⟩:=h;exact ⟨j,rfl,h1,h2⟩
theorem Y6 {T n:Int} {l:List Int} {i:Nat} {x:Int} (h:x∈laP T n l i):∃j:Nat,x=(j:Int)∧j<i∧¬n*l.getD j 0<T:=by
 simp only [laP,List.mem_map,List.mem_filter,List.mem_range,Bool.not_eq_true',decide_eq_false_iff_not] at h;obtain ⟨j,⟨h1,h2⟩,rfl⟩:=h;exact ⟨j,rfl,h1,h2⟩
theorem Rg {l:List Nat} (h:l.Nodup):(l.map fun j:Nat=>(j:Int)).Nodup:=by
 induction l with
 | nil=>simp
 | cons a l ih=>
  rw [List.nodup_cons] at h;rw [List.map_cons,List.nodup_cons];refine ⟨fun hm=>?_,ih h.2⟩;obtain ⟨b,hb,e⟩:=List.mem_map.1 hm;have:b=a:=by omega
  subst this;exact h.1 hb
theorem zen {l:List Int} (h:AllU64 l) {T:Int} (hb:(l.length:Int)*totS l<9223372036854775808):IA T l.length (hasP (l.length:Int) l l.length) (ceP T l.length) (smP T (l.length:Int) l l.length) (laP T (l.length:Int) l l.length):=by
 refine ⟨Ok (Nat.le_refl _),by simp [ceP],fun x hx=>?_,?_,fun x hx=>?_,fun x hx=>?_⟩
 ·rcases List.mem_append.1 hx with hx | hx
  ·obtain ⟨j,rfl,hj,_⟩:=Y5 hx; omega
  ·obtain ⟨j,rfl,hj,_⟩:=Y6 hx; omega
 ·rw [List.nodup_append]
  refine ⟨Rg (List.nodup_range.sublist List.filter_sublist),Rg (List.nodup_range.sublist List.filter_sublist),fun a ha b hb e=>?_⟩;obtain ⟨j,e1,_,h1⟩:=Y5 ha;obtain ⟨j',e2,_,h2⟩:=Y6 hb;have:j=j':=by omega
  subst this;exact h2 h1
 ·obtain ⟨j,rfl,hj,h1⟩:=Y5 hx
  rw [Int.toNat_natCast,zdz hj];exact ⟨(Yt h hb j).1,h1⟩
 ·obtain ⟨j,rfl,hj,h1⟩:=Y6 hx
  rw [Int.toNat_natCast,zdz hj];exact ⟨by omega,(Yt h hb j).2⟩
def tabC (l:List Int):List Ip:=(runA (totS l) l.length (hasP (l.length:Int) l l.length) (ceP (totS l) l.length) (smP (totS l) (l.length:Int) l l.length) (laP (totS l) (l.length:Int) l l.length)).2.1
def tabR (l:List Int):TabA×Int:=
 if l.length=0 then ((0,[],()),10) else if ¬totS l<9223372036854775808 then ((0,[],()),11) else if totS l=0 then ((0,[],()),10)
 else if ¬(l.length:Int)*totS l<9223372036854775808 then ((0,[],()),11) else ((totS l,tabC l,()),0)
theorem zc5 {l:List Int} (h0:l.length=0):tabR l=((0,[],()),10):=by unfold tabR; rw [if_pos h0]
theorem zc6 {l:List Int} (h0:l.length≠0) (ht:¬totS l<9223372036854775808):tabR l=((0,[],()),11):=by unfold tabR; rw [if_neg h0,if_pos ht]
theorem Uv {l:List Int} (h0:l.length≠0) (hz:totS l=0):tabR l=((0,[],()),10):=by unfold tabR; rw [if_neg h0,if_neg (by simp [hz]),if_pos hz]
theorem Uw {l:List Int} (h0:l.length≠0) (ht:totS l<9223372036854775808) (hz:totS l≠0) (hb:¬(l.length:Int)*totS l<9223372036854775808):tabR l=((0,[],()),11):=by
 unfold tabR; rw [if_neg h0,if_neg (by simpa using ht),if_neg hz,if_pos hb]
theorem Ym {l:List Int} (h0:l.length≠0) (ht:totS l<9223372036854775808) (hz:totS l≠0) (hb:(l.length:Int)*totS l<9223372036854775808):tabR l=((totS l,tabC l,()),0):=by
 unfold tabR; rw [if_neg h0,if_neg (by simpa using ht),if_neg hz,if_neg (by simpa using hb)]
def zuv (l:List Int):Prop:=l.length≠0∧totS l<9223372036854775808∧totS l≠0∧(l.length:Int)*totS l<9223372036854775808
theorem zg9 (l:List Int):(zuv l∧tabR l=((totS l,tabC l,()),0))∨(¬zuv l∧(tabR l=((0,[],()),10)∨tabR l=((0,[],()),11))):=by
 unfold zuv
 by_cases h0:l.length=0
 ·exact .inr ⟨fun h=>h.1 h0,.inl (zc5 h0)⟩
 by_cases ht:totS l<9223372036854775808
 ·by_cases hz:totS l=0
  ·exact .inr ⟨fun h=>h.2.2.1 hz,.inl (Uv h0 hz)⟩
  ·by_cases hb:(l.length:Int)*totS l<9223372036854775808
   ·exact .inl ⟨⟨h0,ht,hz,hb⟩,Ym h0 ht hz hb⟩
   ·exact .inr ⟨fun h=>hb h.2.2.2,.inr (Uw h0 ht hz hb)⟩
 ·exact .inr ⟨fun h=>ht h.2.1,.inr (zc6 h0 ht)⟩
theorem F229_eq (R:Type) {l:List Int} (h:AllU64 l) (hlen:l.length≤1000) (k:Int→Int→Option R) (K:TabA→Int→Option R) (h1:zuv l→k (totS l) 0=K (tabR l).1 0) (h2:∀e,e≠0→k 0 e=K (0,[],()) e):F229 R l k=K (tabR l).1 (tabR l).2:=by
 simp only [F229,p229];rw [Aj (n:=(l.length:Int)) (by omega) (by omega)]
 by_cases h0:l.length=0
 ·have e:((l.length:Int)==0)=true:=by simp [h0]
  simp only [e];rw [zc5 h0];exact h2 10 (by omega)
 ·have e:((l.length:Int)==0)=false:=by simp [h0]
  simp only [e];rw [Ng R h (by omega)];have hnn:=A4 h l.length
  by_cases ht:totS l<9223372036854775808
  ·rw [if_pos ht]
   simp only [Bool.not_true]
   by_cases hz:totS l=0
   ·have e:(totS l==0)=true:=by simp [hz]
    simp only [e];rw [Uv h0 hz];exact h2 10 (by omega)
   ·have e:(totS l==0)=false:=by simp [hz]
    simp only [e];rw [zol R (by unfold U64; omega) (show U64 (totS l) from by unfold U64; exact ⟨hnn,by omega⟩)]
    by_cases hb:(l.length:Int)*totS l<9223372036854775808
    ·rw [if_pos hb]
     simp only [Bool.not_true];rw [h1 ⟨h0,ht,hz,hb⟩,Ym h0 ht hz hb]
    ·rw [if_neg hb,Uw h0 ht hz hb]
     simp only [Bool.not_false];exact h2 11 (by omega)
  ·rw [if_neg ht,zc6 h0 ht]
   simp only [Bool.not_false];exact h2 11 (by omega)
theorem F207_eq (R:Type) {l:List Int} (h:AllU64 l) (hlen:l.length≤1000) (k:TabA→Int→Option R):F207 R l k=k (tabR l).1 (tabR l).2:=by
 simp only [F207,p207];refine F229_eq R h hlen _ k (fun hc=>?_) (fun e he=>?_)
 ·have n0:((0:Int) !=0)=false:=rfl
  simp only [n0]
  ·obtain ⟨h0,ht,hz,hb⟩:=hc
   have hnn:=A4 h l.length;have hpos:0<totS l:=by have:0≤totS l:=hnn; omega
   rw [Ym h0 ht hz hb];have dc:decide (0≤(l.length:Int)∧(l.length:Int)≤(l.length:Int)∧(l.length:Int)≤(17592186044416:Int))=true:=decide_eq_true (by omega);simp only [dc,Int.toNat_natCast];have g:=Qh R h hlen (T:=totS l) hb (0,[],()) (fun x7 x8 x9 x10 x11 x12=>Gm FUEL R x7 x8 x9 x10 x11 (x12.1,()) (fun x13 x14 x15 x16 x17 x18=>k (x18.1,x15,()) 0)) FUEL 0 (by omega) (by rw [Al]; omega);have q0:hasP (l.length:Int) l 0=List.replicate l.length 0:=by simp [hasP]
   rw [q0] at g;refine g.trans ?_;rw [Nb R (n:=l.length) ⟨hpos,ht⟩ hlen _ _ l.length FUEL _ _ _ _ (zen h hb) (zha _ _ _ _) (by omega) (by rw [Al]; omega)];rfl
 ·have n1:(e !=0)=true:=by simp [he]
  simp only [n1]
end Go.PG
namespace Go.PG
theorem Yo {T:Int} {n:Nat}:∀(f:Nat) (h:List Int) (c:List Ip) (sm la:List Int),IA T n h c sm la→IA T n (runA T f h c sm la).1 (runA T f h c sm la).2.1 (runA T f h c sm la).2.2.1 (runA T f h c sm la).2.2.2
 | 0,h,c,sm,la,hI=>hI
 | f+1,h,c,sm,la,hI=>by
  by_cases hs:sm.length=0∨la.length=0
  ·rw [O3 hs]; exact hI
  ·obtain ⟨s0,i,rfl⟩:=Ss (fun e=>hs (.inl e))
   obtain ⟨l0,k,rfl⟩:=Ss (fun e=>hs (.inr e));obtain ⟨_,st1,st2⟩:=hI.step;rw [U6]
   by_cases hlt:(Gq T h i k).getD k.toNat 0<T
   ·rw [if_pos hlt]; exact Yo f _ _ _ _ (st1 hlt)
   ·rw [if_neg hlt]; exact Yo f _ _ _ _ (st2 hlt)
theorem zqs {l:List Int} (h:AllU64 l) (hb:(l.length:Int)*totS l<9223372036854775808):(tabC l).length=l.length:=(Yo l.length _ _ _ _ (zen h hb)).cl
theorem zx3 {l:List Int} (h:AllU64 l):U64 (tabR l).1.1∧(tabR l).1.2.1.length≤l.length:=by
 have hnn:=A4 h l.length;rcases zg9 l with ⟨⟨h0,ht,hz,hb⟩,e⟩ | ⟨hn,e | e⟩
 ·rw [e]
  exact ⟨by unfold U64; exact ⟨hnn,by have:totS l<9223372036854775808:=ht; show totS l<_; omega⟩,by show (tabC l).length≤_; rw [zqs h hb]; exact Nat.le_refl _⟩
 ·rw [e]; exact ⟨by unfold U64; simp,by simp⟩
 ·rw [e]; exact ⟨by unfold U64; simp,by simp⟩
def zfm (l:List Int) (s:Src) (m:Int):Int×Src×Int:=if (tabR l).2=0 then zh0 (tabR l).1 s m else (0,s,(tabR l).2)
theorem F173_eq (R:Type) {l:List Int} (h:AllU64 l) (hlen:l.length≤1000) {s:Src} (hs:SOK s) (m:Int) (k:Int→Src→Int→Option R):F173 R s m l k=k (zfm l s m).1 (zfm l s m).2.1 (zfm l s m).2.2:=by
 simp only [F173,p173];rw [F207_eq R h hlen];obtain ⟨f1,f2⟩:=zx3 h;unfold zfm
 by_cases he:(tabR l).2=0
 ·have e1:((tabR l).2 !=0)=false:=by simp [he]
  rw [if_pos he];simp only [e1];rw [F208_eq R f1 (by omega) hs]
 ·have e1:((tabR l).2 !=0)=true:=by simp [he]
  rw [if_neg he];simp only [e1]
end Go.PG
namespace Go.PG
def domS (k slot:Int):Int:=k*4294967296+slot
def mayS (m slot:Int):Bool:=decide (slot≥0)&&(decide (slot<1024)&&(decide (m>0)&&decide (m≤64)))
theorem zod (R:Type) (a:List Int) (m slot:Int) (k:Bool→Option R):F62 R (a,m,()) slot k=k (mayS m slot):=by
 simp only [F62,p62,mayS];cases decide (slot≥0)<;>cases decide (slot<1024)<;>cases decide (m>0)<;>rfl
theorem K1 {m slot:Int} (h:mayS m slot=true):0≤slot∧slot<1024∧0<m∧m≤64:=by
 simp only [mayS,Bool.and_eq_true,decide_eq_true_eq] at h;exact ⟨h.1,h.2.1,h.2.2.1,h.2.2.2⟩
theorem wrap32 {n:Int} (h1:0≤n) (h2:n<4294967296):IntKind.u32.wrap n=n:=by
 unfold IntKind.wrap;simp only [IntKind.bits,IntKind.signed];have e:n % (2^32)=n:=Int.emod_eq_of_lt h1 h2
 first
 | exact e
 | simp [e]
 | (simp; omega)
theorem zoc (R:Type) (a:List Int) (m:Int) {d slot:Int} (hd:0≤d∧d≤10) (hs:0≤slot∧slot<1024) (k:Src→Option R):F64 R (a,m,()) d slot k=k (C3 a (domS d slot)):=by
 simp only [F64,p64];rw [wrap32 hs.1 (by omega),F103_eq R (by unfold U32; omega) (by unfold U32; omega),F102_eq];rfl
theorem dom_u64 {d slot:Int} (hd:0≤d∧d≤10) (hs:0≤slot∧slot<1024):U64 (domS d slot):=by unfold U64 domS; omega
def srcS (a:List Int) (d slot:Int):Src:=C3 a (domS d slot)
theorem Sq {a:List Int} (ha:H32 a) {d slot:Int} (hd:0≤d∧d≤10) (hs:0≤slot∧slot<1024):SOK (srcS a d slot):=U0 ha (dom_u64 hd hs)
def leaS (a:List Int) (slot m:Int) (l:List Int):Int×Int:=
 if mayS m slot=true then (if totS l<9223372036854775808 then ((Cs l (srcS a 1 slot) m).1,(Cs l (srcS a 1 slot) m).2.2) else (0,11)) else (0,1)
theorem F206_eq (R:Type) {a:List Int} (ha:H32 a) {m slot:Int} (hs:0≤slot∧slot<1024) {l:List Int} (h:AllU64 l) (ht:totS l<9223372036854775808) (hl:l.length≤200) (k:Int→Int→Option R):
  F206 R (a,m,()) (C2 l,()) slot k=k (Cs l (srcS a 1 slot) m).1 (Cs l (srcS a 1 slot) m).2.2:=by
 simp only [F206,p206];rw [zoc R a m (by omega) hs];show F141 R (C2 l,()) (srcS a 1 slot) m _=_
 rw [zo6 R h hl ht (Sq ha (by omega) hs)]
def aliS (a:List Int) (slot m:Int) (l:List Int):Int×Int:=
 if mayS m slot=true then ((zfm l (srcS a 2 slot) m).1,(zfm l (srcS a 2 slot) m).2.2) else (0,1)
theorem F124_eq (R:Type) {a:List Int} (ha:H32 a) (slot m:Int) {l:List Int} (h:AllU64 l) (hl:l.length≤200) (k:Int→Int→Option R):F124 R a slot m l k=k (aliS a slot m l).1 (aliS a slot m l).2:=by
 simp only [F124,p124];rw [zod];unfold aliS;cases hm:mayS m slot with
 | false=>rfl
 | true=>
  obtain ⟨m1,m2,_⟩:=K1 hm;simp only [Bool.not_true,if_true];rw [zoc R a m (by omega) ⟨m1,m2⟩];show F173 R (srcS a 2 slot) m l _=_;rw [F173_eq R h (by omega) (Sq ha (by omega) ⟨m1,m2⟩)]
def sitS (a:List Int) (slot c m:Int) (l:List Int):List Int×Int:=
 if mayS m slot=true then ((comL l c (srcS a 3 slot) m).1,(comL l c (srcS a 3 slot) m).2.2) else ([],1)
theorem F33_eq (R:Type) {a:List Int} (ha:H32 a) (slot c m:Int) {l:List Int} (h:AllU64 l) (hl:l.length≤200) (k:List Int→Int→Option R):F33 R a slot c m l k=k (sitS a slot c m l).1 (sitS a slot c m l).2:=by
 simp only [F33,p33];rw [zod];unfold sitS;cases hm:mayS m slot with
 | false=>rfl
 | true=>
  obtain ⟨m1,m2,_⟩:=K1 hm;simp only [Bool.not_true,if_true];rw [zoc R a m (by omega) ⟨m1,m2⟩];show F63 R c (srcS a 3 slot) m l _=_;rw [F63_eq R h hl (Sq ha (by omega) ⟨m1,m2⟩)]
theorem zmk (R:Type) (l r:List Int) (hl:l.length≤1000000) (hr:l.length=r.length) (k0:Bool→Option R) (k1:Option R):∀(m i:Nat),i≤l.length→l.length - i<m→l.take i=r.take i→
  zbb m R l r (i:Int) k0 k1=if l=r then k1 else k0 false
 | 0,i,_,h,_=>by omega
 | m+1,i,h1,h2,h3=>by
  simp only [zbb,zy8]
  by_cases hi:i<l.length
  ·have hd:decide ((i:Int)<(l.length:Int))=true:=decide_eq_true (by omega)
   have hbn:bnd (i:Int) (l.length:Int)=true:=by unfold bnd; simp; omega
   have hbr:bnd (i:Int) (r.length:Int)=true:=by unfold bnd; simp; omega
   simp only [hd,hbn,hbr,Int.toNat_natCast]
   by_cases he:l.getD i 0=r.getD i 0
   ·have e1:(l.getD i 0 !=r.getD i 0)=false:=by rw [he]; simp
    simp only [e1];rw [wrap_i64 (n:=(i:Int)+1) (by omega) (by omega)];refine zmk R l r hl hr k0 k1 m (i+1) (by omega) (by omega) ?_;rw [List.take_succ_eq_append_getElem hi,List.take_succ_eq_append_getElem (by omega),h3]
    congr 2
    simpa [hi,show i<r.length by omega] using he
   ·have e1:(l.getD i 0 !=r.getD i 0)=true:=by simpa using he
    simp only [e1];rw [if_neg (fun e=>he (by rw [e]))]
  ·have:i=l.length:=by omega
   subst this;have hd:decide ((l.length:Int)<(l.length:Int))=false:=by simp
   simp only [hd];rw [List.take_length,hr,List.take_length] at h3;rw [if_pos h3]
theorem zwq (R:Type) (l r:List Int) (hl:l.length≤1000000) (k:Bool→Option R):F27 R l r k=k (decide (l=r)):=by
 simp only [F27,p27]
 by_cases hr:l.length=r.length
 ·have e:((l.length:Int) !=(r.length:Int))=false:=by rw [hr]; simp
  simp only [e];have:=zmk R l r hl hr (fun x4=>k x4) (k true) FUEL 0 (by omega) (by rw [Al]; omega) (by simp);refine Eq.trans ?_ (this.trans ?_)
  ·rfl
  by_cases h:l=r
  ·rw [if_pos h,decide_eq_true h]
  ·rw [if_neg h,decide_eq_false h]
 ·have e:((l.length:Int) !=(r.length:Int))=true:=by
   have:¬(l.length:Int)=(r.length:Int):=by omega
   simpa using this
  simp only [e];rw [decide_eq_false (fun h=>hr (by rw [h]))]
end Go.PG
namespace Go.PG
def schV (a:List Int) (m:Int) (l:List Int) (i:Nat):Int:=if (leaS a (i:Int) m l).2=0 then (leaS a (i:Int) m l).1 else -1
def schP (a:List Int) (m:Int) (l:List Int) (n:Nat):List Int:=(List.range n).map (schV a m l)
theorem Iv (a:List Int) (m:Int) (l:List Int) (n:Nat):(schP a m l n).length=n:=by simp [schP]
theorem U4 (a:List Int) (m:Int) (l:List Int) (n:Nat):schP a m l n++[schV a m l n]=schP a m l (n+1):=by simp [schP,List.range_succ]
def schL (a:List Int) (n m:Int) (l:List Int):List Int×Int:=
 if n<1 then ([],1) else if mayS m (n - 1)=true then (if totS l<9223372036854775808 then (schP a m l n.toNat,0) else ([],11)) else ([],1)
theorem may_le {m:Int} {n i:Int} (h:mayS m n=true) (h0:0≤i) (h1:i≤n):mayS m i=true:=by
 obtain ⟨a,b,c,d⟩:=K1 h;unfold mayS;simp;omega
theorem zbf (R:Type) {a:List Int} (ha:H32 a) {m:Int} {l:List Int} (h:AllU64 l) (ht:totS l<9223372036854775808) (hl:l.length≤200) {N:Nat} (hN:N≤1024) (hm:∀i:Nat,i<N→mayS m (i:Int)=true) (k0:List Int→Option R):∀(f i:Nat),i≤N→N - i<f→
  Qm f R (N:Int) (i:Int) (a,m,()) (C2 l,()) (schP a m l i++List.replicate (N - i) 0) k0=k0 (schP a m l N)
 | 0,_,_,hh=>by omega
 | f+1,i,h1,h2=>by
  simp only [Qm,zim];have hlen:(schP a m l i++List.replicate (N - i) (0:Int)).length=N:=by simp [Iv]; omega
  by_cases hi:i<N
  ·have hd:decide ((i:Int)<(N:Int))=true:=decide_eq_true (by omega)
   simp only [hd];rw [F206_eq R ha (by omega) h ht hl];have hb:bnd (i:Int) ((schP a m l i++List.replicate (N - i) (0:Int)).length:Int)=true:=by rw [hlen]; unfold bnd; simp; omega
   have hle:leaS a (i:Int) m l=((Cs l (srcS a 1 (i:Int)) m).1,(Cs l (srcS a 1 (i:Int)) m).2.2):=by unfold leaS; rw [if_pos (hm i hi),if_pos ht]
   simp only [hb,Int.toNat_natCast];have hset:∀v:Int,(schP a m l i++List.replicate (N - i) (0:Int)).set i v=schP a m l i++[v]++List.replicate (N - (i+1)) 0:=fun v=>by
    rw [show N - i=N - (i+1)+1 by omega];exact zhd _ _ _ _ (Iv a m l i)
   rw [wrap_i64 (n:=(i:Int)+1) (by omega) (by omega),show (i:Int)+1=((i+1:Nat):Int) by omega]
   by_cases he:(Cs l (srcS a 1 (i:Int)) m).2.2=0
   ·have e1:((Cs l (srcS a 1 (i:Int)) m).2.2 !=0)=false:=by simp [he]
    simp only [e1,hset];have hv:(Cs l (srcS a 1 (i:Int)) m).1=schV a m l i:=by unfold schV; rw [hle]; rw [if_pos he]
    rw [hv,U4];exact zbf R ha h ht hl hN hm k0 f (i+1) (by omega) (by omega)
   ·have e1:((Cs l (srcS a 1 (i:Int)) m).2.2 !=0)=true:=by simp [he]
    have hb2:bnd (i:Int) ((schP a m l i++[(Cs l (srcS a 1 (i:Int)) m).1]++List.replicate (N - (i+1)) (0:Int)).length:Int)=true:=by
     unfold bnd; simp [Iv]; omega
    simp only [e1,hset,hb2];have hv:(-1:Int)=schV a m l i:=by unfold schV; rw [hle]; rw [if_neg he]
    have hset2:(schP a m l i++[(Cs l (srcS a 1 (i:Int)) m).1]++List.replicate (N - (i+1)) (0:Int)).set i (-1)=schP a m l i++[(-1:Int)]++List.replicate (N - (i+1)) 0:=by
     rw [List.append_assoc,List.set_append_right _ _ (by rw [Iv]; exact Nat.le_refl _),Iv,Nat.sub_self];simp
    rw [hset2,hv,U4];exact zbf R ha h ht hl hN hm k0 f (i+1) (by omega) (by omega)
  ·have:i=N:=by omega
   subst this;have hd:decide ((i:Int)<(i:Int))=false:=by simp
   simp only [hd];rw [Nat.sub_self,List.replicate_zero,List.append_nil]
theorem F170_eq (R:Type) {a:List Int} (ha:H32 a) {n:Int} (hn:n≤9223372036854775807) (m:Int) {l:List Int} (h:AllU64 l) (hl:l.length≤200) (k:List Int→Int→Option R):F170 R a n m l k=k (schL a n m l).1 (schL a n m l).2:=by
 simp only [F170,p170];unfold schL
 by_cases h1:n<1
 ·simp only [decide_eq_true h1,if_pos h1]
 ·simp only [decide_eq_false h1,if_neg h1]
  rw [wrap_i64 (n:=n - 1) (by omega) (by omega),zod];cases hm:mayS m (n - 1) with
  | false=>rfl
  | true=>
   obtain ⟨m1,m2,_⟩:=K1 hm;simp only [Bool.not_true,if_true];rw [ze3 R h hl]
   by_cases ht:totS l<9223372036854775808
   ·rw [if_pos ht,if_pos ht]
    have n0:((0:Int) !=0)=false:=rfl;have hc:decide (0≤n∧n≤n∧n≤(17592186044416:Int))=true:=decide_eq_true (by omega);simp only [n0,hc,List.length_replicate];have:=zbf R ha h ht hl (N:=n.toNat) (by omega) (fun i hi=>may_le hm (by omega) (by omega)) (fun x9=>k x9 0) FUEL 0 (by omega) (by rw [Al]; omega);exact this
   ·rw [if_neg ht,if_neg ht]; rfl
end Go.PG
namespace Go.PG
open Go.Proofs
abbrev Cfg:=Int×Int×Int×Int×Int×Unit
def cfgS (c:Cfg):Bool:=decide (1≤c.1∧c.1≤1024∧0≤c.2.1∧c.2.1≤c.1∧0≤c.2.2.1∧c.2.2.1≤c.1 - c.2.1∧1≤c.2.2.2.1∧c.2.2.2.1≤64∧1≤c.2.2.2.2.1∧c.2.2.2.2.1≤1048576)
theorem C6 {c:Cfg} (h:cfgS c=true):1≤c.1∧c.1≤1024∧0≤c.2.1∧c.2.1≤c.1∧0≤c.2.2.1∧c.2.2.1≤c.1 - c.2.1∧1≤c.2.2.2.1∧c.2.2.2.1≤64∧1≤c.2.2.2.2.1∧c.2.2.2.2.1≤1048576:=of_decide_eq_true h
theorem F65_eq (R:Type) (x lo hi:Int) (k:Bool→Option R):F65 R x lo hi k=k (decide (lo≤x∧x≤hi)):=by
 simp only [F65,p65]
 by_cases h:x≥lo
 ·by_cases h2:x≤hi<;>simp [h,h2,show lo≤x from h]
 ·have h3:¬(lo≤x):=h
  simp [h3]
theorem zoi (R:Type) (c:Cfg) (k:Bool→Option R):F34 R c k=k (cfgS c):=by
 obtain ⟨s,co,re,at_,mo,_⟩:=c;simp only [F34,p34,F65_eq,cfgS]
 by_cases h1:1≤s∧s≤1024
 ·by_cases h2:0≤co∧co≤s
  ·rw [wrap_i64 (by omega) (by omega)]
   by_cases h3:0≤re∧re≤s - co
   ·by_cases h4:1≤at_∧at_≤64
    ·simp [h1,h2,h3,h4]
    ·have:¬(1≤s∧s≤1024∧0≤co∧co≤s∧0≤re∧re≤s - co∧1≤at_∧at_≤64∧1≤mo∧mo≤1048576):=by omega
     rw [decide_eq_false this]; simp [h1,h2,h3,h4]
   ·have:¬(1≤s∧s≤1024∧0≤co∧co≤s∧0≤re∧re≤s - co∧1≤at_∧at_≤64∧1≤mo∧mo≤1048576):=by omega
    rw [decide_eq_false this]; simp [h1,h2,h3]
  ·have:¬(1≤s∧s≤1024∧0≤co∧co≤s∧0≤re∧re≤s - co∧1≤at_∧at_≤64∧1≤mo∧mo≤1048576):=by omega
   rw [decide_eq_false this]; simp [h1,h2]
 ·have:¬(1≤s∧s≤1024∧0≤co∧co≤s∧0≤re∧re≤s - co∧1≤at_∧at_≤64∧1≤mo∧mo≤1048576):=by omega
  rw [decide_eq_false this]; simp [h1]
theorem F48_eq (R:Type) (c:Cfg) (k:Bool→Option R):F48 R c k=k (cfgS c):=by
 obtain ⟨s,co,re,at_,mo,_⟩:=c;simp only [F48,p48,cfgS]
 by_cases h:1≤s∧s≤1024∧0≤co∧co≤s∧0≤re∧re≤s - co∧1≤at_∧at_≤64∧1≤mo∧mo≤1048576
 ·obtain ⟨a1,a2,a3,a4,a5,a6,a7,a8,a9,a10⟩:=h
  rw [wrap_i64 (n:=s - co) (by omega) (by omega)];simp [a1,a2,a3,a4,a5,a6,a7,a8,a9,a10]
 ·rw [decide_eq_false h]
  repeat' split
  all_goals first | rfl | skip
  all_goals (simp only [decide_eq_true_eq] at*)
  rw [wrap_i64 (n:=s - co) (by omega) (by omega)] at*
  congr 1
  rw [decide_eq_false];omega
def phS (c:Cfg) (i:Int):Int:=if cfgS c=true∧0≤i∧i<c.1 then (if i<c.2.1 then 1 else if i<c.2.1+c.2.2.1 then 2 else 3) else 0
theorem zo0 (R:Type) (c:Cfg) (i:Int) (k:Bool→Option R):F159 R c i k=k (decide (cfgS c=true∧0≤i∧i<c.1)):=by
 simp only [F159,p159,zoi];cases hr:cfgS c with
 | false=>simp
 | true=>
  by_cases h:0≤i
  ·simp [h]
  ·simp [h]
theorem zo9 (R:Type) (c:Cfg) (i:Int) (k:Int→Option R):F114 R c i k=k (phS c i):=by
 simp only [F114,p114,zo0,phS]
 by_cases h:cfgS c=true∧0≤i∧i<c.1
 ·have hr:=C6 h.1
  rw [wrap_i64 (by omega) (by omega),if_pos h]
  by_cases h2:i<c.2.1
  ·simp [h,h2]
  ·by_cases h3:i<c.2.1+c.2.2.1<;>simp [h,h2,h3]
 ·simp [h]
theorem F25_eq (R:Type) (c:Cfg) (i:Int) (k:Int→Option R):F25 R c i k=k (phS c i):=by
 simp only [F25,p25,F48_eq,phS];cases hr:cfgS c with
 | false=>simp
 | true=>
  have hs:=C6 hr
  by_cases h1:i<0
  ·have:¬(0≤i):=by omega
   simp [h1,this]
  ·by_cases h2:i≥c.1
   ·have:¬(i<c.1):=by omega
    simp [h1,h2,this]
   ·have h1':0≤i:=by omega
    have h2':i<c.1:=by omega
    have h2'':¬(c.1≤i):=by omega
    rw [wrap_i64 (by omega) (by omega)]
    by_cases h3:i<c.2.1
    ·simp [h1,h2'',h1',h2',h3]
    ·by_cases h4:i<c.2.1+c.2.2.1<;>simp [h1,h2'',h1',h2',h3,h4]
def Ky (c:Cfg) (i:Int):Int:=if phS c i=0∨i=c.1 - 1 then 0 else i+1
def zky (c:Cfg) (i:Int):Bool:=decide (phS c i≠0∧i=c.1 - 1)
theorem S8 {c:Cfg} {i:Int}:phS c i=0↔¬(cfgS c=true∧0≤i∧i<c.1):=by
 unfold phS;constructor
 ·intro h hh; rw [if_pos hh] at h; split at h<;>omega
 ·intro h; rw [if_neg h]
theorem F119_eq (R:Type) (c:Cfg) (i:Int) (k:Int→Bool→Option R):F119 R c i k=k (Ky c i) (zky c i):=by
 simp only [F119,p119,zo0,Ky,zky]
 by_cases h:cfgS c=true∧0≤i∧i<c.1
 ·have hr:=C6 h.1
  have hp:phS c i≠0:=fun e=>S8.1 e h
  have hz:(c.1==0)=false:=by simp; omega
  rw [wrap_i64 (by omega) (by omega)];simp only [h,hz,hp]
  by_cases h2:i=c.1 - 1
  ·have:i+1=c.1:=by omega
   rw [decide_eq_true (p:=phS c i≠0∧i=c.1 - 1) ⟨hp,h2⟩];simp [h2]
  ·rw [Int.tmod_eq_of_lt (by omega) (by omega)]
   have:(i+1==0)=false:=by simp; omega
   simp [h2,this]
 ·simp [h,S8.2 h]
end Go.PG
namespace Go.PG
abbrev Va:=List Int×(Int×(Int×Unit))
abbrev zV:Va:=(List.replicate 32 (0:Int),(0:Int),(0:Int),())
structure VaOK (v:Va):Prop where
 key:H32 v.1
 stake:U64 v.2.1
 next:U64 v.2.2.1
def VsOK (l:List Va):Prop:=∀v∈l,VaOK v
theorem zV_ok:VaOK zV:=⟨A1,Jd,Jd⟩
theorem VsOK.get {l:List Va} (h:VsOK l) (i:Nat):VaOK (l.getD i zV):=by
 rw [List.getD_eq_getElem?_getD];cases hi:l[i]? with
 | none=>exact zV_ok
 | some c=>exact h c (List.mem_of_getElem? hi)
theorem E5 {l:List Va} {i:Nat} (hi:i<l.length):l.getD i zV=l[i]:=by simp [hi]
def Ao (l:List Va):List Int:=l.map fun v=>v.2.1
def A3 (l:List Va):List Int:=l.map fun v=>v.2.2.1
theorem Dz {l:List Va} (h:VsOK l):AllU64 (Ao l):=fun x hx=>by
 obtain ⟨v,hv,rfl⟩:=List.mem_map.1 hx;exact (h v hv).stake
theorem Gw {l:List Va} (h:VsOK l):AllU64 (A3 l):=fun x hx=>by
 obtain ⟨v,hv,rfl⟩:=List.mem_map.1 hx;exact (h v hv).next
theorem Dc (l:List Va):(Ao l).length=l.length:=by simp [Ao]
theorem Fg (l:List Va):(A3 l).length=l.length:=by simp [A3]
theorem U2 {l:List Va} {i:Nat} (hi:i<l.length):Ao (l.take i)++[(l.getD i zV).2.1]=Ao (l.take (i+1)):=by
 rw [List.take_succ_eq_append_getElem hi,E5 hi]; simp only [Ao,List.map_append,List.map_cons,List.map_nil]
theorem Y4 {l:List Va} {i:Nat} (hi:i<l.length):A3 (l.take i)++[(l.getD i zV).2.2.1]=A3 (l.take (i+1)):=by
 rw [List.take_succ_eq_append_getElem hi,E5 hi]; simp only [A3,List.map_append,List.map_cons,List.map_nil]
theorem zvw {n m:Nat} (hn:n≤1000) (hm:m=1):decide (n+m≤17592186044416)=true:=by simp; omega
theorem Sf (R:Type) {l:List Va} (hn:l.length≤1000) (k0:List Int→Option R):∀(m i:Nat),i≤l.length→l.length - i<m→
  Bh m R l (l.length:Int) (i:Int) (Ao (l.take i)) k0=k0 (Ao l)
 | 0,i,_,h=>by omega
 | m+1,i,h1,h2=>by
  simp only [Bh,Kx,F172,p172]
  by_cases hi:i<l.length
  ·have ih:=Sf R hn k0 m (i+1) (by omega) (by omega)
   have hc:decide ((Ao (l.take i)).length+[(l.getD i zV).2.1].length≤17592186044416)=true:=zvw (by rw [Dc,List.length_take]; omega) rfl;simp only [C4 hi,A5 hi,Int.toNat_natCast,Bv hi hn,hc];rw [U2 hi,ih]
  ·have:i=l.length:=by omega
   subst this;simp only [Co,List.take_length]
theorem Qw (R:Type) {l:List Va} (hn:l.length≤1000) (k:List Int→Option R):F123 R l k=k (Ao l):=by
 simp only [F123,p123,Ed,Yz];have hc:decide ((0:Int)≤0∧(0:Int)≤(l.length:Int)∧(l.length:Int)≤17592186044416)=true:=by simp; omega
 simp only [hc];exact Sf R hn (fun x=>k x) FUEL 0 (by omega) (by rw [Al]; omega)
theorem Se (R:Type) {l:List Va} (hn:l.length≤1000) (k0:List Int→Option R):∀(m i:Nat),i≤l.length→l.length - i<m→
  Bg m R l (l.length:Int) (i:Int) (A3 (l.take i)) k0=k0 (A3 l)
 | 0,i,_,h=>by omega
 | m+1,i,h1,h2=>by
  simp only [Bg,Kw,F195,p195]
  by_cases hi:i<l.length
  ·have ih:=Se R hn k0 m (i+1) (by omega) (by omega)
   have hc:decide ((A3 (l.take i)).length+[(l.getD i zV).2.2.1].length≤17592186044416)=true:=zvw (by rw [Fg,List.length_take]; omega) rfl;simp only [C4 hi,A5 hi,Int.toNat_natCast,Bv hi hn,hc];rw [Y4 hi,ih]
  ·have:i=l.length:=by omega
   subst this;simp only [Co,List.take_length]
theorem zo2 (R:Type) {l:List Va} (hn:l.length≤1000) (k:List Int→Option R):F154 R l k=k (A3 l):=by
 simp only [F154,p154,Ec,Yy];have hc:decide ((0:Int)≤0∧(0:Int)≤(l.length:Int)∧(l.length:Int)≤17592186044416)=true:=by simp; omega
 simp only [hc];exact Se R hn (fun x=>k x) FUEL 0 (by omega) (by rw [Al]; omega)
def actV (v:Va):Va:=(v.1,v.2.2.1,v.2.2.1,())
def actS (l:List Va):List Va:=l.map actV
theorem Jb (l:List Va):(actS l).length=l.length:=by simp [actS]
theorem zoq (R:Type) {l:List Va} (hn:l.length≤1000) (k:List Va→Option R):F198 R l k=k l:=by
 simp only [F198];have hc:decide (([]:List Va).length+l.length≤2932031007402)=true:=by simp; omega
 rw [hc]
theorem zmu (R:Type) {l:List Va} (hn:l.length≤1000) (k0:List Va→Option R):∀(m i:Nat),i≤l.length→l.length - i<m→
  Qn m R (l.length:Int) (i:Int) (actS (l.take i)++l.drop i) k0=k0 (actS l)
 | 0,i,_,h=>by omega
 | m+1,i,h1,h2=>by
  simp only [Qn,zin]
  by_cases hi:i<l.length
  ·have ih:=zmu R hn k0 m (i+1) (by omega) (by omega)
   have hlen:(actS (l.take i)++l.drop i).length=l.length:=by simp [Jb]; omega
   have hat:(actS (l.take i)).length=i:=by rw [Jb,List.length_take]; omega
   have hg:(actS (l.take i)++l.drop i).getD i zV=l[i]:=by
    rw [List.getD_eq_getElem?_getD,List.getElem?_append_right (by omega),hat,Nat.sub_self,List.getElem?_drop];simp [hi]
   have hs:(actS (l.take i)++l.drop i).set i (l[i].1,l[i].2.2.1,l[i].2.2)=actS (l.take (i+1))++l.drop (i+1):=by
    rw [List.set_append_right _ _ (by omega),hat,Nat.sub_self,List.drop_eq_getElem_cons hi,List.set_cons_zero,List.take_succ_eq_append_getElem hi];simp only [actS,actV,List.map_append,List.map_cons,List.map_nil,List.append_assoc,List.cons_append,List.nil_append]
   rw [hlen];simp only [C4 hi,A5 hi,Int.toNat_natCast,Bv hi hn,hg,hs];rw [ih]
  ·have:i=l.length:=by omega
   subst this;simp only [Co,List.take_length,List.drop_length,List.append_nil]
theorem F168_eq (R:Type) {l:List Va} (hn:l.length≤1000) (k:List Va→Option R):F168 R l k=k (actS l):=by
 simp only [F168,p168,zoq R hn];exact zmu R hn (fun x=>k x) FUEL 0 (by omega) (by rw [Al]; omega)
end Go.PG
namespace Go.PG
def fstK (l:List Va) (key:List Int):Option Nat:=l.findIdx? fun v=>decide (v.1=key)
def Hx (l:List Va):List (List Int):=l.map fun v=>v.1
def plA (l:List Va):Nat→List (List Int×Int)
 | 0=>[]
 | i+1=>match B2 (Kd.eqv (.arr 32 (.int .u8))) (plA l i) (l.getD i zV).1 with
  | some _=>plA l i
  | none=>plA l i++[((l.getD i zV).1,(i:Int))]
theorem zfr {K V:Type} (eq:K→K→Bool) (m:List (K×V)) (x:K×V) (k:K):B2 eq (m++[x]) k=match B2 eq m k with | some v=>some v | none=>match eq k x.1 with | true=>some x.2 | false=>none:=by
 induction m with
 | nil=>simp only [List.nil_append,B2]; cases eq k x.1<;>rfl
 | cons y m ih=>
  simp only [List.cons_append,B2];cases eq k y.1
  ·exact ih
  ·rfl
theorem zkp {l:List Va} {i:Nat} (hi:i<l.length) (key:List Int):fstK (l.take (i+1)) key=match fstK (l.take i) key with | some j=>some j | none=>if (l.getD i zV).1=key then some i else none:=by
 unfold fstK;rw [List.take_succ_eq_append_getElem hi,List.findIdx?_append,E5 hi];cases List.findIdx? (fun v=>decide (v.1=key)) (l.take i) with
 | some j=>rfl
 | none=>
  have hl:(l.take i).length=i:=by rw [List.length_take]; omega
  by_cases e:l[i].1=key
  ·simp [List.findIdx?_cons,e,hl]
  ·simp [List.findIdx?_cons,e]
theorem S7 {l:List Va} (h:VsOK l):∀(i:Nat),i≤l.length→∀(key:List Int),key.length=32→B2 (Kd.eqv (.arr 32 (.int .u8))) (plA l i) key=Option.map (fun n:Nat=>(n:Int)) (fstK (l.take i) key)
 | 0,_,key,_=>by simp [plA,B2,fstK]
 | i+1,hi,key,hk=>by
  have hi':i<l.length:=by omega
  have ih:=S7 h i (by omega);have hv:=(h.get i).key.1;rw [zkp hi'];simp only [plA];have h1:=ih (l.getD i zV).1 hv;cases hf:B2 (Kd.eqv (.arr 32 (.int .u8))) (plA l i) (l.getD i zV).1 with
  | some z=>
   simp only [];rw [ih key hk];cases hq:fstK (l.take i) key with
   | some j=>rfl
   | none=>
    simp only [];rw [if_neg];intro e;rw [hf,e,hq] at h1;cases h1
  | none=>
   simp only [];rw [zfr,ih key hk];cases hq:fstK (l.take i) key with
   | some j=>rfl
   | none=>
    simp only [Option.map_none];have e1:Kd.eqv (.arr 32 (.int .u8)) key (l.getD i zV).1=decide (key=(l.getD i zV).1):=Ew hk hv;rw [e1]
    by_cases e:(l.getD i zV).1=key
    ·rw [decide_eq_true e.symm,if_pos e]; rfl
    ·rw [decide_eq_false (fun q=>e q.symm),if_neg e]; rfl
theorem V7 {l:List Va} {key:List Int}:fstK l key=none↔key∉Hx l:=by
 unfold fstK Hx;rw [List.findIdx?_eq_none_iff];constructor
 ·intro h hm
  obtain ⟨v,hv,e⟩:=List.mem_map.1 hm;have:=h v hv;simp [e] at this
 ·intro h v hv
  simp only [decide_eq_false_iff_not];intro e;exact h (List.mem_map.2 ⟨v,hv,e⟩)
theorem zal {l:List Va} {key:List Int} {j:Nat} (h:fstK l key=some j):j<l.length∧(l.getD j zV).1=key:=by
 obtain ⟨h1,h2,_⟩:=List.findIdx?_eq_some_iff_getElem.1 h;exact ⟨h1,by rw [E5 h1]; simpa using h2⟩
theorem zfv {l:List Va} {i:Nat} (hi:i<l.length):Hx (l.take (i+1))=Hx (l.take i)++[(l.getD i zV).1]:=by
 rw [List.take_succ_eq_append_getElem hi,E5 hi]; simp only [Hx,List.map_append,List.map_cons,List.map_nil]
theorem zhz {l:List Va} (h:VsOK l):∀(i:Nat),i≤l.length→(plA l i).length≤i∧((plA l i).length=i↔(Hx (l.take i)).Nodup)
 | 0,_=>by simp [plA,Hx]
 | i+1,hi=>by
  have hi':i<l.length:=by omega
  obtain ⟨ih1,ih2⟩:=zhz h i (by omega);have h1:=S7 h i (by omega) (l.getD i zV).1 (h.get i).key.1;rw [zfv hi',List.nodup_append];simp only [plA];cases hf:B2 (Kd.eqv (.arr 32 (.int .u8))) (plA l i) (l.getD i zV).1 with
  | some z=>
   simp only [];refine ⟨by omega,⟨fun hh=>by omega,fun hh=>?_⟩⟩;exfalso;rw [hf] at h1;cases hq:fstK (l.take i) (l.getD i zV).1 with
   | none=>rw [hq] at h1; cases h1
   | some j=>
    have hm:(l.getD i zV).1∈Hx (l.take i):=by
     apply Classical.byContradiction;intro hn;rw [V7.2 hn] at hq;cases hq
    exact hh.2.2 _ hm _ (List.mem_singleton.2 rfl) rfl
  | none=>
   simp only [List.length_append,List.length_cons,List.length_nil];rw [hf] at h1;have hq:fstK (l.take i) (l.getD i zV).1=none:=by
    cases hq:fstK (l.take i) (l.getD i zV).1 with
    | none=>rfl
    | some j=>rw [hq] at h1; cases h1
   have hn:=V7.1 hq;refine ⟨by omega,⟨fun hh=>⟨ih2.1 (by omega),by simp,fun a ha b hb e=>?_⟩,fun hh=>by have:=ih2.2 hh.1; omega⟩⟩;rw [List.mem_singleton.1 hb] at e;exact hn (e ▸ ha)
theorem zmw (R:Type) {l:List Va} (hn:l.length≤1000) (k0:List (List Int×Int)→Option R):∀(m i:Nat),i≤l.length→l.length - i<m→
  Dx m R l (l.length:Int) (i:Int) (plA l i) k0=k0 (plA l l.length)
 | 0,i,_,h=>by omega
 | m+1,i,h1,h2=>by
  simp only [Dx,zdm]
  by_cases hi:i<l.length
  ·have ih:=zmw R hn k0 m (i+1) (by omega) (by omega)
   simp only [C4 hi,A5 hi,Int.toNat_natCast,Bv hi hn];simp only [plA] at ih;cases hf:B2 (Kd.eqv (.arr 32 (.int .u8))) (plA l i) (l.getD i zV).1 with
   | some z=>
    simp only [hf] at ih;simp only [Option.isSome_some,Bool.not_true];exact ih
   | none=>
    simp only [hf] at ih;simp only [Option.isSome_none,Bool.not_false,Option.isNone_none];exact ih
  ·have:i=l.length:=by omega
   subst this;simp only [Co]
theorem zo3 (R:Type) {l:List Va} (hn:l.length≤1000) (k:List (List Int×Int)→Option R):F153 R l k=k (plA l l.length):=by
 simp only [F153,p153];exact zmw R hn (fun x=>k x) FUEL 0 (by omega) (by rw [Al]; omega)
def Gt (l:List Va):Bool:=decide (totS (Ao l)<9223372036854775808)&&(decide (totS (A3 l)<9223372036854775808)&&decide (Hx l).Nodup)
theorem zo4 (R:Type) {l:List Va} (h:VsOK l) (hn:l.length≤1000) (k:Bool→Option R):F152 R l k=k (Gt l):=by
 simp only [F152,p152,Qw R hn,zo2 R hn];rw [Ng R (Dz h) (by rw [Dc]; omega)];unfold Gt
 by_cases h1:totS (Ao l)<9223372036854775808
 ·rw [if_pos h1,Ng R (Gw h) (by rw [Fg]; omega)]
  by_cases h2:totS (A3 l)<9223372036854775808
  ·rw [if_pos h2]
   have hc:decide ((l.length:Int)≤1048576)=true:=by simp; omega
   simp only [hc,zo3 R hn];have hd:=(zhz h l.length (Nat.le_refl _)).2;rw [List.take_length] at hd;rw [decide_eq_true h1,decide_eq_true h2,Bool.true_and,Bool.true_and]
   congr 1
   by_cases h3:(Hx l).Nodup
   ·rw [decide_eq_true h3]; simp [hd.2 h3]
   ·rw [decide_eq_false h3]
    have:(plA l l.length).length≠l.length:=fun e=>h3 (hd.1 e)
    simp; omega
  ·rw [if_neg h2,decide_eq_false h2,Bool.false_and,Bool.and_false]
 ·rw [if_neg h1,decide_eq_false h1,Bool.false_and,Ng R (Gw h) (by rw [Fg]; omega)]
  by_cases h2:totS (A3 l)<9223372036854775808
  ·rw [if_pos h2]
  ·rw [if_neg h2]
def neK (l:List Va) (i j:Nat):Bool:=decide ((l.getD i zV).1≠(l.getD j zV).1)
theorem nodup_iff {l:List Va}:Gj (fun i=>Gj (neK l i) i 0) l.length 0=decide (Hx l).Nodup:=by
 rw [Bool.eq_iff_iff,decide_eq_true_eq,F3];unfold List.Nodup;rw [List.pairwise_iff_getElem];constructor
 ·intro h i j hi hj hij
  have hi':i<l.length:=by simpa [Hx] using hi
  have hj':j<l.length:=by simpa [Hx] using hj
  have h1:=F3.1 (h j (by omega) (by omega)) i (by omega) (by omega);unfold neK at h1;simp only [decide_eq_true_eq] at h1;rw [E5 hi',E5 hj'] at h1;simp only [Hx,List.getElem_map];exact fun e=>h1 e.symm
 ·intro h j _ hj
  refine F3.2 fun i _ hi=>?_
  have hi':i<l.length:=by omega
  have hj':j<l.length:=by omega
  have h1:=h i j (by simpa [Hx] using hi') (by simpa [Hx] using hj') (by omega);simp only [Hx,List.getElem_map] at h1;unfold neK;simp only [decide_eq_true_eq];rw [E5 hi',E5 hj'];exact fun e=>h1 e.symm
end Go.PG
namespace Go.PG
def Kj (l:List Va) (i:Nat) (n:Int):List Va:=l.set i ((l.getD i zV).1,(l.getD i zV).2.1,n,())
theorem Uk (R:Type) {l:List Va} (hn:l.length≤1000) {i:Nat} (hi:i<l.length) (n:Int) (k:List Va→Option R):F157 R l (i:Int) n k=k (Kj l i n):=by
 simp only [F157,p157,zoq R hn,A5 hi,Int.toNat_natCast];rfl
theorem H3 (l:List Int) (a:Int):totS (l++[a])=totS l+a:=by
 unfold totS sumS;rw [List.take_length,List.take_length];simp
theorem zi6 {l:List Va} (h:VsOK l) {i:Nat} (hi:i<l.length):(l.getD i zV).2.2.1≤totS (A3 l):=by
 have h1:=B1 (l:=A3 l) (i:=i) (by rw [Fg]; exact hi);have h2:=Ej (Gw h) (i+1);have h3:=A4 (Gw h) i;have h4:(A3 l).getD i 0=(l.getD i zV).2.2.1:=by
  rw [E5 hi]; simp [A3,hi]
 rw [h4] at h1;omega
def depS (l:List Va) (key:List Int) (a most:Int):List Va×Int×Int:=
 if Gt l=true∧a≠0∧1≤most∧most≤1048576 then
  match fstK l key with
  | none=>if most≤(l.length:Int) then ([],0,4) else if totS (A3 l)+a<9223372036854775808 then (l++[(key,0,a,())],(l.length:Int),0) else ([],0,11)
  | some i=>if totS (A3 l)+a<9223372036854775808 then (Kj l i ((l.getD i zV).2.2.1+a),(i:Int),0) else ([],0,11)
 else ([],0,1)
theorem Yp {l:List Va} (h:Gt l=true):totS (Ao l)<9223372036854775808∧totS (A3 l)<9223372036854775808∧(Hx l).Nodup:=by
 unfold Gt at h;rw [Bool.and_eq_true,Bool.and_eq_true] at h;exact ⟨of_decide_eq_true h.1,of_decide_eq_true h.2.1,of_decide_eq_true h.2.2⟩
theorem Yj {l:List Int} (h:AllU64 l):0≤totS l:=A4 h _
theorem zc0 {x:Int} (h0:0≤x) (h1:x<9223372036854775808):IntKind.u64.wrap x=x:=by rw [De]; omega
theorem F110_eq (R:Type) {l:List Va} (h:VsOK l) (hn:l.length≤900) {key:List Int} (hk:key.length=32) {a:Int} (ha:U64 a) (most:Int) (k:List Va→Int→Int→Option R):
  F110 R l key a most k=k (depS l key a most).1 (depS l key a most).2.1 (depS l key a most).2.2:=by
 simp only [F110,p110,zo4 R h (by omega),zo3 R (show l.length≤1000 by omega),zo2 R (show l.length≤1000 by omega)];unfold depS;cases hr:Gt l with
 | false=>simp
 | true=>
  obtain ⟨_,ht,_⟩:=Yp hr;have htn:=Yj (Gw h);unfold U64 at ha;simp only [Bool.not_true]
  by_cases h1:a=0
  ·rw [if_neg (by simp [h1])]; simp [h1]
  by_cases h2:most<1
  ·rw [if_neg (by omega)]
   have e1:(a==0)=false:=by simpa using h1
   simp only [e1,decide_eq_true h2]
  by_cases h3:most>1048576
  ·rw [if_neg (by omega)]
   have e1:(a==0)=false:=by simpa using h1
   simp only [e1,decide_eq_false h2,decide_eq_true h3]
  have e1:(a==0)=false:=by simpa using h1
  rw [if_pos ⟨trivial,h1,by omega,by omega⟩];have hf:=S7 h l.length (Nat.le_refl _) key hk;rw [List.take_length] at hf;have hT:=Ng R (Gw h) (show (A3 l).length≤1000000 by rw [Fg]; omega);have hA:=zcq R (a:=totS (A3 l)) (b:=a) ⟨htn,ht⟩ ha;simp only [e1,decide_eq_false h2,decide_eq_false h3,hf];cases hq:fstK l key with
  | none=>
   simp only [Option.map_none,Option.isSome_none,Bool.not_false]
   by_cases h4:most≤(l.length:Int)
   ·rw [if_pos h4]
    simp only [decide_eq_true (show (l.length:Int)≥most from h4)]
   ·rw [if_neg h4]
    simp only [decide_eq_false (show ¬(l.length:Int)≥most from h4),hT,if_pos ht,hA]
    by_cases h5:totS (A3 l)+a<9223372036854775808
    ·rw [if_pos h5,if_pos h5]
     have hc:decide (0<[((key,0,0,()):Va)].length∧l.length+[((key,0,0,()):Va)].length≤2932031007402)=true:=by simp; omega
     have hl:l.length<(l++[((key,0,0,()):Va)]).length:=by simp
     have hg:(l++[((key,0,0,()):Va)]).getD l.length zV=(key,0,0,()):=by simp
     simp only [Bool.not_true,hc,A5 hl,Int.toNat_natCast,hg,Int.zero_add];rw [zc0 (by omega) (by omega),Uk R (by simp; omega) hl];have:Kj (l++[((key,0,0,()):Va)]) l.length a=l++[(key,0,a,())]:=by
      unfold Kj;rw [hg,List.set_append_right _ _ (Nat.le_refl _),Nat.sub_self];rfl
     rw [this]
    ·rw [if_neg h5,if_neg h5]; simp only [Bool.not_false]
  | some i=>
   obtain ⟨hi,_⟩:=zal hq;have hnx:=zi6 h hi;have hx:=(h.get i).next;unfold U64 at hx;simp only [Option.map_some,Option.isSome_some,Bool.not_true,Option.getD_some,hT,if_pos ht,hA]
   by_cases h5:totS (A3 l)+a<9223372036854775808
   ·simp only [if_pos h5,Bool.not_true,A5 hi,Int.toNat_natCast]
    rw [show IntKind.u64.wrap ((l.getD i zV).2.2.1+a)=(l.getD i zV).2.2.1+a from zc0 (by omega) (by omega),Uk R (by omega) hi];cases decide ((i:Int)≥most)<;>rfl
   ·simp only [if_neg h5,Bool.not_false]
    cases decide ((i:Int)≥most)<;>rfl
def wdS (l:List Va) (who a:Int):List Va×Int×Int:=
 if Gt l=true∧a≠0 then
  if 0≤who∧who<(l.length:Int) then
   if a≤(l.getD who.toNat zV).2.2.1 then (Kj l who.toNat ((l.getD who.toNat zV).2.2.1 - a),(l.getD who.toNat zV).2.2.1 - a,0) else ([],0,12)
  else ([],0,5)
 else ([],0,1)
def slS (l:List Va) (who a:Int):List Va×Int×Int:=
 if Gt l=true then
  if 0≤who∧who<(l.length:Int) then
   (Kj l who.toNat ((l.getD who.toNat zV).2.2.1 - min a (l.getD who.toNat zV).2.2.1),min a (l.getD who.toNat zV).2.2.1,0)
  else ([],0,5)
 else ([],0,1)
def zc2 (l:List Va) (who:Int):Int:=if Gt l=true then (if 0≤who∧who<(l.length:Int) then 0 else 5) else 1
theorem zo1 (R:Type) {l:List Va} (h:VsOK l) (hn:l.length≤1000) (who:Int) (k:Int→Option R):F158 R l who k=k (zc2 l who):=by
 simp only [F158,p158,zo4 R h hn];unfold zc2;cases Gt l with
 | false=>simp
 | true=>
  simp only [Bool.not_true,if_true]
  by_cases h1:who<0
  ·rw [if_neg (by omega)]; simp only [decide_eq_true h1]
  ·by_cases h2:who≥(l.length:Int)
   ·rw [if_neg (by omega)]; simp only [decide_eq_false h1,decide_eq_true h2]
   ·rw [if_pos (by omega)]; simp only [decide_eq_false h1,decide_eq_false h2]
theorem F111_eq (R:Type) {l:List Va} (h:VsOK l) (hn:l.length≤1000) (who:Int) {a:Int} (ha:U64 a) (k:List Va→Int→Int→Option R):
  F111 R l who a k=k (wdS l who a).1 (wdS l who a).2.1 (wdS l who a).2.2:=by
 simp only [F111,p111,zo1 R h hn];unfold wdS zc2;unfold U64 at ha
 by_cases h1:a=0
 ·rw [if_neg (show ¬(Gt l=true∧a≠0) from fun q=>q.2 h1)]; simp [h1]
 have e1:(a==0)=false:=by simpa using h1
 simp only [e1];cases hr:Gt l with
 | false=>simp
 | true=>
  have q:(True∧a≠0):=⟨trivial,h1⟩
  simp only [if_pos q,if_true]
  by_cases h2:0≤who∧who<(l.length:Int)
  ·obtain ⟨i,rfl⟩:∃i:Nat,who=i:=⟨who.toNat,by omega⟩
   have hi:i<l.length:=by omega
   have hx:=(h.get i).next;unfold U64 at hx;rw [if_pos h2,if_pos h2];simp only [bne_self_eq_false,A5 hi,Int.toNat_natCast]
   by_cases h3:a≤(l.getD i zV).2.2.1
   ·rw [if_pos h3]
    have:¬a>(l.getD i zV).2.2.1:=by omega
    simp only [decide_eq_false this];rw [show IntKind.u64.wrap ((l.getD i zV).2.2.1 - a)=(l.getD i zV).2.2.1 - a by rw [De]; omega,Uk R hn hi]
   ·rw [if_neg h3]
    have:a>(l.getD i zV).2.2.1:=by omega
    simp only [decide_eq_true this]
  ·rw [if_neg h2,if_neg h2]
   rfl
theorem F112_eq (R:Type) {l:List Va} (h:VsOK l) (hn:l.length≤1000) (who:Int) {a:Int} (ha:U64 a) (k:List Va→Int→Int→Option R):
  F112 R l who a k=k (slS l who a).1 (slS l who a).2.1 (slS l who a).2.2:=by
 simp only [F112,p112,zo1 R h hn];unfold slS zc2;unfold U64 at ha;cases hr:Gt l with
 | false=>simp
 | true=>
  simp only [if_true]
  by_cases h2:0≤who∧who<(l.length:Int)
  ·obtain ⟨i,rfl⟩:∃i:Nat,who=i:=⟨who.toNat,by omega⟩
   have hi:i<l.length:=by omega
   have hx:=(h.get i).next;unfold U64 at hx;rw [if_pos h2,if_pos h2];have em:(if (l.getD i zV).2.2.1<a then (l.getD i zV).2.2.1 else a)=min a (l.getD i zV).2.2.1:=by
    by_cases hh:(l.getD i zV).2.2.1<a
    ·rw [if_pos hh]; omega
    ·rw [if_neg hh]; omega
   simp only [bne_self_eq_false,A5 hi,Int.toNat_natCast,em];rw [show IntKind.u64.wrap ((l.getD i zV).2.2.1 - min a (l.getD i zV).2.2.1)=(l.getD i zV).2.2.1 - min a (l.getD i zV).2.2.1 by rw [De]; omega,Uk R hn hi]
  ·rw [if_neg h2,if_neg h2]
   rfl
end Go.PG
namespace Go.PG
abbrev OpT:=Int×(Int×(Int×(List Int×(Int×Unit))))
abbrev zO:OpT:=((0:Int),(0:Int),(0:Int),(List.replicate 32 (0:Int)),(0:Int),())
structure OpOK (o:OpT):Prop where
 kind:I64 o.1
 who:I64 o.2.1
 amount:U64 o.2.2.1
 hash:H32 o.2.2.2.1
 n:I64 o.2.2.2.2.1
theorem zke {x b:Int} (hx:0≤x∧x<72057594037927936) (hb:0≤b∧b<256):ior .u64 (ishl .u64 x 8) b=x*256+b:=by
 obtain ⟨n,rfl⟩:∃n:Nat,x=n:=⟨x.toNat,by omega⟩
 obtain ⟨c,rfl⟩:∃c:Nat,b=c:=⟨b.toNat,by omega⟩
 have e2:ishl .u64 (n:Int) 8=((n*256:Nat):Int):=by
  unfold ishl;rw [show (2:Int)^(min (8:Int).toNat IntKind.u64.bits)=256 by decide,Aj (by omega) (by omega)];simp
 rw [e2,zaj,BitVec.ofInt_natCast,BitVec.ofInt_natCast,BitVec.toNat_or,BitVec.toNat_ofNat,BitVec.toNat_ofNat,Nat.mod_eq_of_lt (by omega),Nat.mod_eq_of_lt (by omega)];have h6:=Nat.shiftLeft_add_eq_or_of_lt (i:=8) (b:=c) (by omega) n;rw [Nat.shiftLeft_eq] at h6;rw [show n*256=n*2^8 by rfl,←h6];simp
theorem Ey {y z:Int} (hy:0≤y∧y<18446744073709551616) (hz:y/256=z):ior .u64 (ishl .u64 z 8) (y % 256)=y:=by
 rw [←hz,zke (by omega) (by omega)]; omega
theorem zo5 (R:Type) {a:Int} (ha:U64 a) (k:Int→Option R):F148 R (putS a) k=k a:=by
 unfold U64 at ha;have s1:ior .u64 (ishl .u64 0 8) (a/72057594037927936 % 256)=a/72057594037927936:=Ey (by omega) (by omega);have s2:ior .u64 (ishl .u64 (a/72057594037927936) 8) (a/281474976710656 % 256)=a/281474976710656:=Ey (by omega) (by omega);have s3:ior .u64 (ishl .u64 (a/281474976710656) 8) (a/1099511627776 % 256)=a/1099511627776:=Ey (by omega) (by omega);have s4:ior .u64 (ishl .u64 (a/1099511627776) 8) (a/4294967296 % 256)=a/4294967296:=Ey (by omega) (by omega);have s5:ior .u64 (ishl .u64 (a/4294967296) 8) (a/16777216 % 256)=a/16777216:=Ey (by omega) (by omega)
 have s6:ior .u64 (ishl .u64 (a/16777216) 8) (a/65536 % 256)=a/65536:=Ey (by omega) (by omega);have s7:ior .u64 (ishl .u64 (a/65536) 8) (a/256 % 256)=a/256:=Ey (by omega) (by omega);have s8:ior .u64 (ishl .u64 (a/256) 8) (a % 256)=a:=Ey (by omega) (by omega);have w:∀y:Int,IntKind.u64.wrap (y % 256)=y % 256:=fun y=>Aj (by omega) (by omega)
 obtain ⟨m,hm⟩:=E0 9 (by omega);simp only [F148,p148,hm,Sg,zir,putS];simp [bnd,Eo,w,s1,s2,s3,s4,s5,s6,s7,s8]
inductive Fd where | H | A | W | N
deriving DecidableEq
def enc:Fd→Tq2
 | .H=>((32:Int),(FnV.fn 143),(FnV.fn 145),())
 | .A=>((8:Int),(FnV.fn 146),(FnV.fn 147),())
 | .W=>((4:Int),(FnV.clo 191 (FnV.fn 150)),(FnV.clo 193 (FnV.fn 150)),())
 | .N=>((4:Int),(FnV.clo 191 (FnV.fn 151)),(FnV.clo 193 (FnV.fn 151)),())
def fsOf (k:Int):List Fd×Bool:=
 if k=1 then ([.H,.A],true) else if k=2 then ([.W,.A],true) else if k=3 then ([.W,.A],true) else if k=4 then ([.W,.H],true) else if k=5 then ([.W,.H],true) else
 if k=6 then ([],true) else if k=11 then ([],true) else if k=7 then ([.N],true) else if k=8 then ([.N],true) else if k=9 then ([.N,.W],true) else if k=10 then ([.W,.N],true) else ([],false)
theorem zah (k:Int):k=1∨k=2∨k=3∨k=4∨k=5∨k=6∨k=7∨k=8∨k=9∨k=10∨k=11∨(k≠1∧k≠2∧k≠3∧k≠4∧k≠5∧k≠6∧k≠7∧k≠8∧k≠9∧k≠10∧k≠11):=by omega
theorem Ar {a b:Int} (h:a≠b):(a==b)=false:=by simpa using h
theorem X8 (R:Type) (x:Int) (k:List Tq2→Bool→Option R):F67 R x k=k ((fsOf x).1.map enc) (fsOf x).2:=by
 simp only [F67,p67,F106,p106,F107,p107,F108,p108,F109,p109,Eh,Y1,Ee,Y0];rcases zah x with h | h | h | h | h | h | h | h | h | h | h | h
 ·subst h; rfl
 ·subst h; rfl
 ·subst h; rfl
 ·subst h; rfl
 ·subst h; rfl
 ·subst h; rfl
 ·subst h; rfl
 ·subst h; rfl
 ·subst h; rfl
 ·subst h; rfl
 ·subst h; rfl
 ·obtain ⟨h1,h2,h3,h4,h5,h6,h7,h8,h9,h10,h11⟩:=h
  simp only [Ar h1,Ar h2,Ar h3,Ar h4,Ar h5,Ar h6,Ar h7,Ar h8,Ar h9,Ar h10,Ar h11];simp [fsOf,h1,h2,h3,h4,h5,h6,h7,h8,h9,h10,h11]
def C7 (o:OpT):Fd→List Int
 | .H=>o.2.2.2.1
 | .A=>putS o.2.2.1
 | .W=>Bu o.2.1
 | .N=>Bu o.2.2.2.2.1
def A0:Fd→Nat
 | .H=>32
 | .A=>8
 | .W=>4
 | .N=>4
def Qy (o c:OpT):Fd→OpT
 | .H=>(c.1,c.2.1,c.2.2.1,o.2.2.2.1,c.2.2.2.2)
 | .A=>(c.1,c.2.1,o.2.2.1,c.2.2.2)
 | .W=>(c.1,o.2.1,c.2.2)
 | .N=>(c.1,c.2.1,c.2.2.1,c.2.2.2.1,o.2.2.2.2.1,c.2.2.2.2.2)
theorem Ie {o:OpT} (h:OpOK o) (f:Fd):(C7 o f).length=A0 f:=by
 cases f
 ·exact h.hash.1
 ·rfl
 ·rfl
 ·rfl
def Dl (o:OpT) (l:List Fd):List Int:=l.flatMap (C7 o)
theorem I7 (o:OpT) (f:Fd) (l:List Fd):Dl o (f::l)=C7 o f++Dl o l:=by simp [Dl]
theorem Gx {o:OpT} (h:OpOK o):∀(l:List Fd),(Dl o l).length=(l.map A0).sum
 | []=>rfl
 | f::l=>by rw [I7,List.length_append,Ie h,Gx h l]; simp
theorem Tn (f:Fd):(enc f).1=(A0 f:Int):=by cases f<;>rfl
theorem Sv (f:Fd):A0 f≤32:=by cases f<;>decide
theorem Su:∀(l:List Fd),(l.map A0).sum≤32*l.length
 | []=>by simp
 | f::l=>by have:=Su l; have:=Sv f; simp; omega
theorem Ol {l:List Fd} {i:Nat} (hi:i<l.length):List.getD (l.map enc) i ((0:Int),FnV.nil,FnV.nil,())=enc l[i]:=by simp [hi]
theorem zwc (R:Type) {o:OpT} (h:OpOK o) (hw:U32 o.2.1) (hn:U32 o.2.2.2.2.1) {l:List Fd} (hl:l.length≤2) (k0:List Int→Option R):∀(m i:Nat) (acc:List Int),i≤l.length→l.length - i<m→acc.length≤1+32*i→
  Xf m R (l.map enc) (l.length:Int) (i:Int) o acc k0=k0 (acc++Dl o (l.drop i))
 | 0,i,acc,_,hh,_=>by omega
 | m+1,i,acc,h1,h2,h3=>by
  simp only [Xf,zy5]
  by_cases hi:i<l.length
  ·have ih:=zwc R h hw hn hl k0 m (i+1) (acc++C7 o l[i]) (by omega) (by omega) (by rw [List.length_append,Ie h]; have:=Sv l[i]; omega)
   have hb:bnd (i:Int) ((l.map enc).length:Int)=true:=by rw [List.length_map]; exact A5 hi
   rw [List.drop_eq_getElem_cons hi,I7,←List.append_assoc,←ih];simp only [C4 hi,hb,Int.toNat_natCast,Bv hi (show l.length≤1000 by omega),Ol hi];have hc:∀y:List Int,y.length≤32→decide (acc.length+y.length≤140737488355328)=true:=fun y hy=>by simp; omega
   have w1:IntKind.u32.wrap o.2.1=o.2.1:=by unfold U32 at hw; exact Cw hw.1 (by omega)
   have w2:IntKind.u32.wrap o.2.2.2.2.1=o.2.2.2.2.1:=by unfold U32 at hn; exact Cw hn.1 (by omega)
   cases l[i] with
   | H=>
    have e1:FnV.same (enc .H).2.1 (FnV.fn 143)=true:=rfl;have e2:List.take 32 (List.drop 0 o.2.2.2.1)=o.2.2.2.1:=by rw [List.drop_zero,List.take_of_length_le (by rw [h.hash.1]; omega)]
    have e3:decide (([]:List Int).length+o.2.2.2.1.length≤140737488355328)=true:=by rw [h.hash.1]; rfl
    simp only [e1,e2,F144,e3,hc _ (show o.2.2.2.1.length≤32 by rw [h.hash.1]; omega)];rfl
   | A=>
    have e1:FnV.same (enc .A).2.1 (FnV.fn 143)=false:=rfl;have e2:FnV.same (enc .A).2.1 (FnV.fn 146)=true:=rfl;have e3:List.take 8 (List.drop 0 (putS o.2.2.1))=putS o.2.2.1:=rfl;simp only [e1,e2,X7,e3,hc _ (show (putS o.2.2.1).length≤32 from Nat.le_of_ble_eq_true rfl)];rfl
   | W=>
    have e1:FnV.same (enc .W).2.1 (FnV.fn 143)=false:=rfl;have e2:FnV.same (enc .W).2.1 (FnV.fn 146)=false:=rfl;have e3:FnV.same (enc .W).2.1 (FnV.clo 191 (FnV.fn 150))=true:=rfl;have e4:List.take 4 (List.drop 0 (Bu o.2.1))=Bu o.2.1:=rfl;simp only [e1,e2,e3,w1,zcn R hw,e4,hc _ (show (Bu o.2.1).length≤32 from Nat.le_of_ble_eq_true rfl)];rfl
   | N=>
    have e1:FnV.same (enc .N).2.1 (FnV.fn 143)=false:=rfl;have e2:FnV.same (enc .N).2.1 (FnV.fn 146)=false:=rfl;have e3:FnV.same (enc .N).2.1 (FnV.clo 191 (FnV.fn 150))=false:=rfl;have e3':FnV.same (enc .N).2.1 (FnV.clo 191 (FnV.fn 151))=true:=rfl;have e4:List.take 4 (List.drop 0 (Bu o.2.2.2.2.1))=Bu o.2.2.2.2.1:=rfl;simp only [e1,e2,e3,e3',w2,zcn R hn,e4,hc _ (show (Bu o.2.2.2.2.1).length≤32 from Nat.le_of_ble_eq_true rfl)];rfl
  ·have:i=l.length:=by omega
   subst this;simp only [Co,List.drop_length,Dl,List.flatMap_nil,List.append_nil]
theorem Cy (k:Int):(fsOf k).1.length≤2:=by
 unfold fsOf
 repeat' split
 all_goals decide
def Dj (o:OpT):List Int:=if (fsOf o.1).2=true then (o.1 % 256)::Dl o (fsOf o.1).1 else [o.2.2.2.2.1 % 256]
theorem zwp (R:Type) {o:OpT} (h:OpOK o) (hw:U32 o.2.1) (hn:U32 o.2.2.2.2.1) (k:List Int→Option R):F43 R o k=k (Dj o):=by
 simp only [F43,p43,X8,Fr];unfold Dj;cases (fsOf o.1).2 with
 | false=>simp
 | true=>
  simp only [Bool.not_true,if_true,List.length_map];exact zwc R h hw hn (Cy _) (fun x=>k x) FUEL 0 _ (by omega) (by rw [Al]; have:=Cy o.1; omega) (by simp)
def szF (l:List Fd):Int:=1+((l.map A0).sum:Nat)
theorem zv8 (R:Type) {l:List Fd} (hl:l.length≤2) (k0:Int→Option R):∀(m i:Nat),i≤l.length→l.length - i<m→
  za6 m R (szF (l.take i)) (l.map enc) (l.length:Int) (i:Int) k0=k0 (szF l)
 | 0,i,_,hh=>by omega
 | m+1,i,h1,h2=>by
  simp only [za6,zyx]
  by_cases hi:i<l.length
  ·have ih:=zv8 R hl k0 m (i+1) (by omega) (by omega)
   have hb:bnd (i:Int) ((l.map enc).length:Int)=true:=by rw [List.length_map]; exact A5 hi
   simp only [C4 hi,hb,Int.toNat_natCast,Bv hi (show l.length≤1000 by omega),Ol hi,Tn];have e:IntKind.i64.wrap (szF (l.take i)+(A0 l[i]:Int))=szF (l.take (i+1)):=by
    have h3:=Su (l.take i);have h4:=Sv l[i];have h5:(l.take i).length≤2:=by rw [List.length_take]; omega
    have h6:szF (l.take (i+1))=szF (l.take i)+(A0 l[i]:Int):=by
     unfold szF;rw [List.take_succ_eq_append_getElem hi,List.map_append,List.sum_append];simp;omega
    rw [h6];unfold szF;exact wrap_i64 (by omega) (by omega)
   rw [e,ih]
  ·have:i=l.length:=by omega
   subst this;simp only [Co,List.take_length]
theorem F83_eq (R:Type) (x:Int) (k:Int→Bool→Option R):F83 R x k=if (fsOf x).2=true then k (szF (fsOf x).1) true else k 0 false:=by
 simp only [F83,p83,X8];cases (fsOf x).2 with
 | false=>simp
 | true=>
  simp only [Bool.not_true,if_true,List.length_map];have:=zv8 R (Cy x) (fun x4=>k x4 true) FUEL 0 (by omega) (by rw [Al]; have:=Cy x; omega);simpa [szF] using this
end Go.PG
namespace Go.PG
theorem eqvO {a b:OpT} (ha:a.2.2.2.1.length=32) (hb:b.2.2.2.1.length=32):Kd.eqv Kq6 a b=decide (a=b):=by
 obtain ⟨a1,a2,a3,a4,a5,⟨⟩⟩:=a;obtain ⟨b1,b2,b3,b4,b5,⟨⟩⟩:=b;have e1:Kd.eqv (.arr 32 (.int .u8)) a4 b4=decide (a4=b4):=Ew ha hb;show ((a1==b1)&&((a2==b2)&&((a3==b3)&&((Kd.eqv (.arr 32 (.int .u8)) a4 b4)&&((a5==b5)&&true)))))=_;rw [e1]
 by_cases h1:a1=b1
 ·by_cases h2:a2=b2
  ·by_cases h3:a3=b3
   ·by_cases h4:a4=b4
    ·by_cases h5:a5=b5
     ·simp [h1,h2,h3,h4,h5]
     ·simp [h5]
    ·simp [h4]
   ·simp [h3]
  ·simp [h2]
 ·simp [h1]
theorem zkm {a:Int} (ha:U32 a):Jm (a/16777216 % 256) (a/65536 % 256) (a/256 % 256) (a % 256)=a:=by
 unfold U32 at ha; unfold Jm; omega
theorem Ui (R:Type) {a:Int} (ha:U32 a) (k:Int→Option R):F194 R (Bu a) k=k a:=by
 have u:∀x:Int,U8 (x % 256):=fun x=>by unfold U8; omega
 unfold Bu;rw [zor R (u _) (u _) (u _) (u _),zkm ha]
def Pu (o:OpT) (l:List Fd) (c:OpT):OpT:=l.foldl (Qy o) c
theorem zwe (R:Type) {o:OpT} (h:OpOK o) (hw:U32 o.2.1) (hn:U32 o.2.2.2.2.1) {l:List Fd} (hl:l.length≤2) (x5:OpT) (k0:List Int→OpT→OpT→Option R):∀(m i:Nat) (c:OpT),i≤l.length→l.length - i<m→
  In m R (Dl o (l.drop i)) (l.map enc) (l.length:Int) (i:Int) x5 c k0=k0 [] x5 (Pu o (l.drop i) c)
 | 0,i,c,_,hh=>by omega
 | m+1,i,c,h1,h2=>by
  simp only [In,Vq]
  by_cases hi:i<l.length
  ·have ih:=zwe R h hw hn hl x5 k0 m (i+1) (Qy o c l[i]) (by omega) (by omega)
   have hb:bnd (i:Int) ((l.map enc).length:Int)=true:=by rw [List.length_map]; exact A5 hi
   have hbl:=Ie h l[i];rw [List.drop_eq_getElem_cons hi,I7];have hlen:(C7 o l[i]++Dl o (l.drop (i+1))).length=A0 l[i]+(Dl o (l.drop (i+1))).length:=by rw [List.length_append,hbl]
   have c1:decide ((0:Int)≤0∧(0:Int)≤(A0 l[i]:Int)∧(A0 l[i]:Int)≤(A0 l[i]:Int)∧(A0 l[i]:Int)≤((C7 o l[i]++Dl o (l.drop (i+1))).length:Int))=true:=by
    rw [hlen]; simp; omega
   have c2:decide ((0:Int)≤(A0 l[i]:Int)∧(A0 l[i]:Int)≤((C7 o l[i]++Dl o (l.drop (i+1))).length:Int)∧((C7 o l[i]++Dl o (l.drop (i+1))).length:Int)≤((C7 o l[i]++Dl o (l.drop (i+1))).length:Int)∧((C7 o l[i]++Dl o (l.drop (i+1))).length:Int)≤((C7 o l[i]++Dl o (l.drop (i+1))).length:Int))=true:=by
    rw [hlen]; simp; omega
   have t1:List.take (Int.toNat ((A0 l[i]:Int) - 0)) (List.drop 0 (C7 o l[i]++Dl o (l.drop (i+1))))=C7 o l[i]:=by
    rw [Int.sub_zero,Int.toNat_natCast,List.drop_zero,←hbl,List.take_left]
   have t2:List.take (Int.toNat (((C7 o l[i]++Dl o (l.drop (i+1))).length:Int) - (A0 l[i]:Int))) (List.drop (A0 l[i]) (C7 o l[i]++Dl o (l.drop (i+1))))=Dl o (l.drop (i+1)):=by
    rw [←hbl,List.drop_left,List.take_of_length_le];rw [List.length_append];omega
   have hbk:Pu o (l[i]::l.drop (i+1)) c=Pu o (l.drop (i+1)) (Qy o c l[i]):=rfl;rw [hbk,←ih];simp only [C4 hi,hb,Int.toNat_natCast,Bv hi (show l.length≤1000 by omega),Ol hi,Tn,c1,c2];rw [t1,t2];have hw':=hw;have hn':=hn;unfold U32 at hw' hn';have w1:IntKind.i64.wrap o.2.1=o.2.1:=wrap_i64 (by omega) (by omega);have w2:IntKind.i64.wrap o.2.2.2.2.1=o.2.2.2.2.1:=wrap_i64 (by omega) (by omega);cases l[i] with
   | H=>
    have e1:FnV.same (enc .H).2.2.1 (FnV.fn 145)=true:=rfl;have e2:List.take 32 o.2.2.2.1=o.2.2.2.1:=by rw [List.take_of_length_le (by rw [h.hash.1]; omega)]
    have e3:decide ((32:Int)≤((C7 o .H).length:Int))=true:=by rw [Ie h]; rfl
    simp only [e1,e3];simp only [C7,e2];rfl
   | A=>
    have e1:FnV.same (enc .A).2.2.1 (FnV.fn 145)=false:=rfl;have e2:FnV.same (enc .A).2.2.1 (FnV.fn 147)=true:=rfl;have e3:decide ((8:Int)≤((C7 o .A).length:Int))=true:=rfl;have e4:List.take 8 (putS o.2.2.1)=putS o.2.2.1:=rfl;simp only [e1,e2,e3];simp only [C7,e4,zo5 R h.amount];rfl
   | W=>
    have e1:FnV.same (enc .W).2.2.1 (FnV.fn 145)=false:=rfl;have e2:FnV.same (enc .W).2.2.1 (FnV.fn 147)=false:=rfl;have e2':FnV.same (enc .W).2.2.1 (FnV.clo 193 (FnV.fn 150))=true:=rfl;have e3:decide ((4:Int)≤((C7 o .W).length:Int))=true:=rfl;have e4:List.take 4 (Bu o.2.1)=Bu o.2.1:=rfl;simp only [e1,e2,e2',e3];simp only [C7,e4,Ui R hw,w1];rfl
   | N=>
    have e1:FnV.same (enc .N).2.2.1 (FnV.fn 145)=false:=rfl;have e2:FnV.same (enc .N).2.2.1 (FnV.fn 147)=false:=rfl;have e2':FnV.same (enc .N).2.2.1 (FnV.clo 193 (FnV.fn 150))=false:=rfl;have e2'':FnV.same (enc .N).2.2.1 (FnV.clo 193 (FnV.fn 151))=true:=rfl;have e3:decide ((4:Int)≤((C7 o .N).length:Int))=true:=rfl;have e4:List.take 4 (Bu o.2.2.2.2.1)=Bu o.2.2.2.2.1:=rfl;simp only [e1,e2,e2',e2'',e3];simp only [C7,e4,Ui R hn,w2];rfl
  ·have:i=l.length:=by omega
   subst this;simp only [Co,List.drop_length];rfl
theorem X9 (R:Type) (x:Int) (hx:0≤x∧x<256) (b:List Int) (k:Bool→Option R):F44 R (x::b) k=k (if (fsOf x).2=true then decide (szF (fsOf x).1≤((x::b).length:Int)) else true):=by
 simp only [F44,p44];have hb:bnd 0 (((x::b).length:Nat):Int)=true:=by unfold bnd; simp<;>omega
 have hw:IntKind.i64.wrap x=x:=wrap_i64 (by omega) (by omega);simp only [hb,List.getD_cons_zero,hw,F83_eq];cases (fsOf x).2 with
 | false=>simp
 | true=>simp
theorem I4 {k:Int} (h:(fsOf k).2=true):1≤k∧k≤11:=by
 rcases zah k with q | q | q | q | q | q | q | q | q | q | q | q
 all_goals try omega
 obtain ⟨h1,h2,h3,h4,h5,h6,h7,h8,h9,h10,h11⟩:=q;simp [fsOf,h1,h2,h3,h4,h5,h6,h7,h8,h9,h10,h11] at h
theorem drop1 (x:Int) (b:List Int):List.take (Int.toNat (((x::b).length:Int) - 1)) (List.drop 1 (x::b))=b:=by
 rw [List.drop_one,List.tail_cons,List.take_of_length_le];rw [List.length_cons];omega
theorem zoh (R:Type) {o:OpT} (h:OpOK o) (hw:U32 o.2.1) (hn:U32 o.2.2.2.2.1) (hv:(fsOf o.1).2=true) (k:OpT→List Int→Option R):
  F37 R (Dj o) k=k (Pu o (fsOf o.1).1 (o.1,(0:Int),(0:Int),(List.replicate 32 (0:Int)),(0:Int),())) []:=by
 have hr:=I4 hv;have em:o.1 % 256=o.1:=by omega
 unfold Dj;rw [if_pos hv,em];simp only [F37,p37];have hb:bnd 0 (((o.1::Dl o (fsOf o.1).1).length:Nat):Int)=true:=by unfold bnd; simp<;>omega
 have hwr:IntKind.i64.wrap o.1=o.1:=wrap_i64 (by omega) (by omega);have hc:decide ((0:Int)≤1∧(1:Int)≤((o.1::Dl o (fsOf o.1).1).length:Int)∧((o.1::Dl o (fsOf o.1).1).length:Int)≤((o.1::Dl o (fsOf o.1).1).length:Int)∧((o.1::Dl o (fsOf o.1).1).length:Int)≤((o.1::Dl o (fsOf o.1).1).length:Int))=true:=by
  simp<;>omega
 have hs:decide (szF (fsOf o.1).1≤((o.1::Dl o (fsOf o.1).1).length:Int))=true:=by
  unfold szF;rw [List.length_cons,Gx h];simp; omega
 simp only [hb,List.getD_cons_zero,hwr,X8,hv,Bool.not_true,X9 R o.1 (by omega),if_true,hs,hc,drop1,List.length_map];have:=zwe R h hw hn (Cy o.1) ((0:Int),(0:Int),(0:Int),(List.replicate 32 (0:Int)),(0:Int),()) (fun x9 x10 x11=>k x11 x9) FUEL 0 (o.1,(0:Int),(0:Int),(List.replicate 32 (0:Int)),(0:Int),()) (by omega) (by rw [Al]; have:=Cy o.1; omega);rw [List.drop_zero] at this;exact this
theorem zu3 (R:Type) (x:Int) (hx:0≤x∧x<256) (k:OpT→List Int→Option R):
  F37 R [x] k=if (fsOf x).2=true∧(fsOf x).1=[] then k (x,(0:Int),(0:Int),(List.replicate 32 (0:Int)),(0:Int),()) [] else k ((0:Int),(0:Int),(0:Int),(List.replicate 32 (0:Int)),x,()) []:=by
 simp only [F37,p37];have hwr:IntKind.i64.wrap x=x:=wrap_i64 (by omega) (by omega);have hb:bnd 0 ((([x]:List Int).length:Nat):Int)=true:=rfl;have hc:decide ((0:Int)≤1∧(1:Int)≤(([x]:List Int).length:Int)∧(([x]:List Int).length:Int)≤(([x]:List Int).length:Int)∧(([x]:List Int).length:Int)≤(([x]:List Int).length:Int))=true:=rfl;simp only [hb,List.getD_cons_zero,hwr,X8,X9 R x hx,hc,drop1,List.length_map];cases hv:(fsOf x).2 with
 | false=>simp
 | true=>
  simp only [Bool.not_true,if_true,true_and]
  by_cases he:(fsOf x).1=[]
  ·rw [if_pos he]
   have hs:decide (szF (fsOf x).1≤(([x]:List Int).length:Int))=true:=by rw [he]; rfl
   simp only [hs,he,List.map_nil];obtain ⟨m,hm⟩:=E0 1 (by omega);rw [hm];simp only [In,Vq];rfl
  ·rw [if_neg he]
   have hs:decide (szF (fsOf x).1≤(([x]:List Int).length:Int))=false:=by
    cases hq:(fsOf x).1 with
    | nil=>exact absurd hq he
    | cons f l=>
     unfold szF;have:4≤A0 f:=by cases f<;>decide
     simp;omega
   simp only [hs,Bool.not_false]
def Kq (o:OpT):Bool:=decide (0≤o.2.1∧o.2.1<4294967296∧0≤o.2.2.2.2.1∧o.2.2.2.2.1<4294967296)
def A6 (o:OpT):Bool:=Kq o&&(if (fsOf o.1).2=true then decide (Pu o (fsOf o.1).1 (o.1,(0:Int),(0:Int),(List.replicate 32 (0:Int)),(0:Int),())=o)
 else decide (o.2.2.2.2.1≤255∧(fsOf o.2.2.2.2.1).2=false∧o=((0:Int),(0:Int),(0:Int),(List.replicate 32 (0:Int)),o.2.2.2.2.1,())))
theorem Wt {o:OpT} (h:o.2.2.2.1.length=32):∀(l:List Fd) (c:OpT),c.2.2.2.1.length=32→(Pu o l c).2.2.2.1.length=32
 | [],_,hc=>hc
 | f::l,c,hc=>by
  show (Pu o l (Qy o c f)).2.2.2.1.length=32;refine Wt h l _ ?_;cases f
  ·exact h
  ·exact hc
  ·exact hc
  ·exact hc
theorem zws (R:Type) {o:OpT} (h:OpOK o) (k:Bool→Option R):F21 R o k=k (A6 o):=by
 simp only [F21,p21];unfold A6 Kq
 by_cases r1:o.2.1<0
 ·simp only [decide_eq_true r1]; rw [decide_eq_false (by omega)]; simp
 by_cases r2:o.2.1>4294967295
 ·simp only [decide_eq_false r1,decide_eq_true r2]; rw [decide_eq_false (by omega)]; simp
 by_cases r3:o.2.2.2.2.1<0
 ·simp only [decide_eq_false r1,decide_eq_false r2,decide_eq_true r3]; rw [decide_eq_false (by omega)]; simp
 by_cases r4:o.2.2.2.2.1>4294967295
 ·simp only [decide_eq_false r1,decide_eq_false r2,decide_eq_false r3,decide_eq_true r4]; rw [decide_eq_false (by omega)]; simp
 have hw:U32 o.2.1:=by unfold U32; omega
 have hn:U32 o.2.2.2.2.1:=by unfold U32; omega
 simp only [decide_eq_false r1,decide_eq_false r2,decide_eq_false r3,decide_eq_false r4,zwp R h hw hn];rw [decide_eq_true (by omega),Bool.true_and];cases hv:(fsOf o.1).2 with
 | true=>
  rw [zoh R h hw hn hv,eqvO (Wt h.hash.1 _ _ rfl) h.hash.1,if_pos rfl];have e0:((([]:List Int).length:Int)==0)=true:=rfl;simp only [e0];have hbo:Dj o=(o.1 % 256)::Dl o (fsOf o.1).1:=by unfold Dj; rw [if_pos hv]
  have hr:=I4 hv;have em:o.1 % 256=o.1:=by omega
  have hs:decide (szF (fsOf o.1).1≤((o.1::Dl o (fsOf o.1).1).length:Int))=true:=by
   unfold szF;rw [List.length_cons,Gx h];simp; omega
  rw [hbo,em,X9 R o.1 (by omega),if_pos hv,hs];cases decide (Pu o (fsOf o.1).1 (o.1,(0:Int),(0:Int),(List.replicate 32 (0:Int)),(0:Int),())=o)<;>rfl
 | false=>
  have hbo:Dj o=[o.2.2.2.2.1 % 256]:=by unfold Dj; rw [hv]; rfl
  have hx:0≤o.2.2.2.2.1 % 256∧o.2.2.2.2.1 % 256<256:=by omega
  rw [hbo,zu3 R _ hx];simp only [Bool.false_eq_true,if_false];have e0:((([]:List Int).length:Int)==0)=true:=rfl
  by_cases he:(fsOf (o.2.2.2.2.1 % 256)).2=true∧(fsOf (o.2.2.2.2.1 % 256)).1=[]
  ·rw [if_pos he,eqvO (by rfl) h.hash.1]
   have hne:((o.2.2.2.2.1 % 256,(0:Int),(0:Int),(List.replicate 32 (0:Int)),(0:Int),()):OpT)≠o:=fun e=>by
    have:o.1=o.2.2.2.2.1 % 256:=by conv=>lhs; rw [←e]
    rw [←this,hv] at he;cases he.1
   rw [decide_eq_false hne,decide_eq_false]
   rintro ⟨q1,q2,_⟩
   rw [show o.2.2.2.2.1 % 256=o.2.2.2.2.1 by omega,q2] at he;cases he.1
  ·rw [if_neg he,eqvO (by rfl) h.hash.1]
   by_cases e:((0:Int),(0:Int),(0:Int),(List.replicate 32 (0:Int)),o.2.2.2.2.1 % 256,())=o
   ·have en:o.2.2.2.2.1=o.2.2.2.2.1 % 256:=by conv=>lhs; rw [←e]
    simp only [decide_eq_true e,e0,X9 R _ hx];cases hq:(fsOf (o.2.2.2.2.1 % 256)).2 with
    | true=>
     have hs:decide (szF (fsOf (o.2.2.2.2.1 % 256)).1≤(([o.2.2.2.2.1 % 256]:List Int).length:Int))=false:=by
      cases hf:(fsOf (o.2.2.2.2.1 % 256)).1 with
      | nil=>exact absurd ⟨hq,hf⟩ he
      | cons f l=>
       unfold szF;have:4≤A0 f:=by cases f<;>decide
       simp;omega
     rw [if_pos rfl,hs,decide_eq_false]
     rintro ⟨_,q2,_⟩
     rw [en,hq] at q2;cases q2
    | false=>
     rw [if_neg (by decide),decide_eq_true];exact ⟨by omega,by rw [en]; exact hq,by rw [←en] at e; exact e.symm⟩
   ·simp only [decide_eq_false e]
    rw [decide_eq_false]
    rintro ⟨q1,_,q3⟩
    rw [show o.2.2.2.2.1 % 256=o.2.2.2.2.1 by omega] at e;exact e q3.symm
end Go.PG
namespace Go.PG
def fldS (x:Int):ByteArray:=
 if x=1 then ⟨#[104,97]⟩ else if x=2 then ⟨#[119,97]⟩ else if x=3 then ⟨#[119,97]⟩ else if x=4 then ⟨#[119,104]⟩ else if x=5 then ⟨#[119,104]⟩ else
 if x=6 then ⟨#[45]⟩ else if x=11 then ⟨#[45]⟩ else if x=7 then ⟨#[110]⟩ else if x=8 then ⟨#[110]⟩ else if x=9 then ⟨#[110,119]⟩ else if x=10 then ⟨#[119,110]⟩ else ⟨#[]⟩
theorem zof (R:Type) (x:Int) (k:ByteArray→Option R):F50 R x k=k (fldS x):=by
 simp only [F50,p50];rcases zah x with h | h | h | h | h | h | h | h | h | h | h | h
 ·subst h; rfl
 ·subst h; rfl
 ·subst h; rfl
 ·subst h; rfl
 ·subst h; rfl
 ·subst h; rfl
 ·subst h; rfl
 ·subst h; rfl
 ·subst h; rfl
 ·subst h; rfl
 ·subst h; rfl
 ·obtain ⟨h1,h2,h3,h4,h5,h6,h7,h8,h9,h10,h11⟩:=h
  simp only [Ar h1,Ar h2,Ar h3,Ar h4,Ar h5,Ar h6,Ar h7,Ar h8,Ar h9,Ar h10,Ar h11];simp [fldS,h1,h2,h3,h4,h5,h6,h7,h8,h9,h10,h11]
theorem Rm (x:Int):(ByteArray.toList (fldS x)==ByteArray.toList (⟨#[]⟩:ByteArray))= !(fsOf x).2:=by
 rcases zah x with h | h | h | h | h | h | h | h | h | h | h | h
 ·subst h; simp [fldS,fsOf,ByteArray.toList,ByteArray.toList.loop,ByteArray.size]
 ·subst h; simp [fldS,fsOf,ByteArray.toList,ByteArray.toList.loop,ByteArray.size]
 ·subst h; simp [fldS,fsOf,ByteArray.toList,ByteArray.toList.loop,ByteArray.size]
 ·subst h; simp [fldS,fsOf,ByteArray.toList,ByteArray.toList.loop,ByteArray.size]
 ·subst h; simp [fldS,fsOf,ByteArray.toList,ByteArray.toList.loop,ByteArray.size]
 ·subst h; simp [fldS,fsOf,ByteArray.toList,ByteArray.toList.loop,ByteArray.size]
 ·subst h; simp [fldS,fsOf,ByteArray.toList,ByteArray.toList.loop,ByteArray.size]
 ·subst h; simp [fldS,fsOf,ByteArray.toList,ByteArray.toList.loop,ByteArray.size]
 ·subst h; simp [fldS,fsOf,ByteArray.toList,ByteArray.toList.loop,ByteArray.size]
 ·subst h; simp [fldS,fsOf,ByteArray.toList,ByteArray.toList.loop,ByteArray.size]
 ·subst h; simp [fldS,fsOf,ByteArray.toList,ByteArray.toList.loop,ByteArray.size]
 ·obtain ⟨h1,h2,h3,h4,h5,h6,h7,h8,h9,h10,h11⟩:=h
  simp [fldS,fsOf,h1,h2,h3,h4,h5,h6,h7,h8,h9,h10,h11]
def zrv (c:Int):Int:=if c=119 then 4 else if c=110 then 4 else if c=97 then 8 else if c=104 then 32 else 0
theorem zoe (R:Type) (c:Int) (k:Int→Option R):F52 R c k=k (zrv c):=by
 simp only [F52,p52];unfold zrv
 by_cases h1:c=119
 ·subst h1; rfl
 by_cases h2:c=110
 ·subst h2; rfl
 by_cases h3:c=97
 ·subst h3; rfl
 by_cases h4:c=104
 ·subst h4; rfl
 simp only [Ar h1,Ar h2,Ar h3,Ar h4];simp [h1,h2,h3,h4]
theorem classes {x:Int} (hv:(fsOf x).2=true):(fsOf x).1=[.H,.A]∨(fsOf x).1=[.W,.A]∨(fsOf x).1=[.W,.H]∨(fsOf x).1=[]∨(fsOf x).1=[.N]∨(fsOf x).1=[.N,.W]∨(fsOf x).1=[.W,.N]:=by
 rcases zah x with q | q | q | q | q | q | q | q | q | q | q | q
 ·subst q; decide
 ·subst q; decide
 ·subst q; decide
 ·subst q; decide
 ·subst q; decide
 ·subst q; decide
 ·subst q; decide
 ·subst q; decide
 ·subst q; decide
 ·subst q; decide
 ·subst q; decide
 ·obtain ⟨h1,h2,h3,h4,h5,h6,h7,h8,h9,h10,h11⟩:=q
  simp [fsOf,h1,h2,h3,h4,h5,h6,h7,h8,h9,h10,h11] at hv
end Go.PG
namespace Go.PG
theorem Rn {n:Int} (hn:U64 n):∀(m:Nat) (s:Src),SOK s→Bk s=true→64*(m:Int)≤E3 s→(Ex n m s).2.2=0∨(Ex n m s).2.2=9
 | 0,s,_,_,_=>.inr rfl
 | m+1,s,hs,hr,hl=>by
  have hk:=(zi7 hn).1;have ht:=zc3 (s:=s) (n:=Cc n) hr hk (by omega);have h2:=zhn hs hr (k:=Cc n) (by omega);simp only [Ex,ht];rw [if_pos trivial]
  by_cases hv:N3 s (atS s) (Cc n)<n
  ·rw [if_pos hv]; exact .inl rfl
  ·rw [if_neg hv]
   have hs2:=Ut hs (Cc n);rw [ht] at hs2;exact Rn hn m _ hs2 h2.1 (by rw [h2.2]; omega)
theorem zhx {l:List Int} (h:AllU64 l):∀(i:Nat),i≤l.length→(posN l i≠0↔0<sumS l i)
 | 0,_=>by simp [posN,sumS]
 | i+1,hi=>by
  have hi':i<l.length:=by omega
  have ih:=zhx h i (by omega);have h0:=A4 h i;have hx:=(Av h Jd i)
  unfold U64 at hx;rw [Vn hi',B1 hi']
  by_cases e:l.getD i 0>0
  ·rw [if_pos e]; omega
  ·rw [if_neg e]
   have:l.getD i 0=0:=by omega
   rw [this];omega
theorem S5 {l:List Int} (h:AllU64 l):posS l≠0↔0<totS l:=by
 have:=zhx h l.length (Nat.le_refl _);unfold posS totS;omega
theorem zc8 {l:List Int} {a:Int} {j:Nat} (hj:j≤l.length):sumS (l++[a]) j=sumS l j:=by
 unfold sumS; rw [List.take_append_of_le_length hj]
theorem zzb {l:List Int} (h:AllU64 l) (hlen:l.length≤199) (ht:totS l<9223372036854775808) {x:Int} (hx:0≤x∧x<totS l):ownN (l++[0]) x=ownN l x:=by
 obtain ⟨i,hi,e⟩:=zdr h (by omega) ht hx;rw [e];have hA:AllU64 (l++[0]):=fun y hy=>by
  rcases List.mem_append.1 hy with hy | hy
  ·exact h y hy
  ·rw [List.mem_singleton.1 hy]; exact Jd
 refine Y2 hA ⟨by rw [List.length_append]; have:=hi.1; omega,?_⟩;rw [zc8 (by have:=hi.1; omega),zc8 (by have:=hi.1; omega)];exact hi.2
theorem Wj {n:Int}:∀(m:Nat) (s:Src),(Ex n m s).2.2=0→(Ex n m s).1<n
 | 0,s,h=>by simp [Ex] at h
 | m+1,s,h=>by
  simp only [Ex] at h ⊢;split
  ·rename_i h1
   rw [if_pos h1] at h;split
   ·assumption
   ·rename_i h2
    rw [if_neg h2] at h;exact Wj m _ h
  ·rename_i h1
   rw [if_neg h1] at h;exact absurd h h1
theorem zlg {s:Src} {n m:Int} (h:(B5 s n m).2.2=0):0≤(B5 s n m).1∧(B5 s n m).1<n:=by
 unfold B5 at h ⊢;split
 ·rename_i hc
  rw [if_pos hc] at h;exact ⟨Ic _ _,Wj _ _ h⟩
 ·rename_i hc
  rw [if_neg hc] at h;cases h
theorem zs1 {a:List Int} {slot m:Int} {l:List Int} (h:AllU64 l) (hlen:l.length≤199):leaS a slot m (l++[0])=leaS a slot m l:=by
 unfold leaS;rw [H3,Int.add_zero]
 by_cases hm:mayS m slot=true
 ·rw [if_pos hm,if_pos hm]
  by_cases ht:totS l<9223372036854775808
  ·rw [if_pos ht,if_pos ht]
   have:∀s:Src,Cs (l++[0]) s m=Cs l s m:=fun s=>by
    unfold Cs;rw [H3,Int.add_zero,if_pos ht,if_pos ht]
    by_cases h0:totS l=0
    ·rw [if_pos h0,if_pos h0]
    ·rw [if_neg h0,if_neg h0]
     by_cases hd:(B5 s (totS l) m).2.2=0
     ·rw [if_pos hd,if_pos hd,zzb h hlen ht (zlg hd)]
     ·rw [if_neg hd,if_neg hd]
   rw [this]
  ·rw [if_neg ht,if_neg ht]
 ·rw [if_neg hm,if_neg hm]
theorem zs0 {a:List Int} (ha:H32 a) {slot m:Int} {l:List Int} (h:AllU64 l) (hm:mayS m slot=true) (ht:totS l<9223372036854775808) (hp:0<totS l):
  ((leaS a slot m l).2=0∧0≤(leaS a slot m l).1)∨(leaS a slot m l).2=9:=by
 obtain ⟨m1,m2,m3,m4⟩:=K1 hm;unfold leaS;rw [if_pos hm,if_pos ht];have hs:=Sq ha (d:=1) (slot:=slot) (by omega) (by omega);have hr:Bk (srcS a 1 slot)=true:=by
  unfold Bk srcS C3; simp
 have hl:E3 (srcS a 1 slot)=4611686018427387904:=by
  unfold E3; rw [if_pos hr]; unfold endS srcS C3; simp
 have hu:U64 (totS l):=by unfold U64; omega
 simp only [];unfold Cs;rw [if_pos ht,if_neg (by omega)];have hd:(B5 (srcS a 1 slot) (totS l) m)=Ex (totS l) m.toNat (srcS a 1 slot):=by
  unfold B5;rw [if_pos ⟨hr,hp,ht,by omega,by omega⟩]
 have he:=Rn hu m.toNat (srcS a 1 slot) hs hr (by rw [hl]; omega);rw [←hd] at he
 by_cases h0:(B5 (srcS a 1 slot) (totS l) m).2.2=0
 ·rw [if_pos h0]; exact .inl ⟨rfl,Int.natCast_nonneg _⟩
 ·rw [if_neg h0]; exact .inr (he.resolve_left h0)
end Go.PG
namespace Go.PG
abbrev Led:=Cfg×(Int×(List Va×(Bea×(List Int×(List Int×Unit)))))
abbrev An:=Int×(Int×(List Int×(List Int×Unit)))
abbrev Clk:=Led×(An×Unit)
def badS (e:Int):An:=(e,(0:Int),([]:List Int),(List.replicate 32 (0:Int)),())
def okS (n:Int):An:=((0:Int),n,([]:List Int),(List.replicate 32 (0:Int)),())
def Cb (l:Led) (r:List Va×Int×Int):Led×An:=if r.2.2=0 then ((l.1,l.2.1,r.1,l.2.2.2),okS r.2.1) else (l,badS r.2.2)
def Eu (l:Led) (r:Bea×Int):Led×An:=if r.2=0 then ((l.1,l.2.1,l.2.2.1,r.1,l.2.2.2.2),okS 0) else (l,badS r.2)
def Cq (l:Led) (w:Int):Bool:=decide (0≤w∧w<(l.2.2.1.length:Int))
def advS (l:Led):Led×An:=
 if zky l.1 l.2.1=true then
  (if (bEnd l.2.2.2.1).2.2.2=0 then
   ((l.1,Ky l.1 l.2.1,actS l.2.2.1,(bEnd l.2.2.2.1).1,(schL (bEnd l.2.2.2.1).1.2.1 l.1.1 l.1.2.2.2.1 (Ao (actS l.2.2.1))).1,(bEnd l.2.2.2.1).2.2.1,()),
    ((0:Int),Ky l.1 l.2.1,(bEnd l.2.2.2.1).2.2.1,(bEnd l.2.2.2.1).1.2.1,()))
  else (l,badS (bEnd l.2.2.2.1).2.2.2))
 else ((l.1,Ky l.1 l.2.1,l.2.2),okS (Ky l.1 l.2.1))
def askS (l:Led) (o:OpT):An:=
 if o.1=10 then (if Cq l o.2.1=true then okS (if o.2.2.2.2.1=0 then (l.2.2.1.getD o.2.1.toNat zV).2.1 else (l.2.2.1.getD o.2.1.toNat zV).2.2.1) else badS 5)
 else if o.1=11 then ((0:Int),l.2.2.2.1.1,([]:List Int),l.2.2.2.1.2.1,())
 else if o.2.2.2.2.1≥l.1.1 then badS 3
 else if o.1=7 then
  (if posS (Ao l.2.2.1)=0 then badS 10 else
   if (leaS l.2.2.2.1.2.1 o.2.2.2.2.1 l.1.2.2.2.1 (Ao l.2.2.1)).2=0 then ((0:Int),(0:Int),[(leaS l.2.2.2.1.2.1 o.2.2.2.2.1 l.1.2.2.2.1 (Ao l.2.2.1)).1],(List.replicate 32 (0:Int)),())
   else badS (leaS l.2.2.2.1.2.1 o.2.2.2.2.1 l.1.2.2.2.1 (Ao l.2.2.1)).2)
 else if o.1=8 then
  (if (aliS l.2.2.2.1.2.1 o.2.2.2.2.1 l.1.2.2.2.1 (Ao l.2.2.1)).2=0 then ((0:Int),(0:Int),[(aliS l.2.2.2.1.2.1 o.2.2.2.2.1 l.1.2.2.2.1 (Ao l.2.2.1)).1],(List.replicate 32 (0:Int)),())
   else badS (aliS l.2.2.2.1.2.1 o.2.2.2.2.1 l.1.2.2.2.1 (Ao l.2.2.1)).2)
 else
  (if (sitS l.2.2.2.1.2.1 o.2.2.2.2.1 o.2.1 l.1.2.2.2.1 (Ao l.2.2.1)).2=0 then ((0:Int),(0:Int),(sitS l.2.2.2.1.2.1 o.2.2.2.2.1 o.2.1 l.1.2.2.2.1 (Ao l.2.2.1)).1,(List.replicate 32 (0:Int)),())
   else badS (sitS l.2.2.2.1.2.1 o.2.2.2.2.1 o.2.1 l.1.2.2.2.1 (Ao l.2.2.1)).2)
def doS (l:Led) (o:OpT):Led×An:=
 if A6 o=true∧o.1≠0 then
  if o.1=1 then Cb l (depS l.2.2.1 o.2.2.2.1 o.2.2.1 l.1.2.2.2.2.1)
  else if o.1=2 then Cb l (wdS l.2.2.1 o.2.1 o.2.2.1)
  else if o.1=3 then Cb l (slS l.2.2.1 o.2.1 o.2.2.1)
  else if o.1=4 then (if Cq l o.2.1=true then Eu l (Cj l.2.2.2.1 (phS l.1 l.2.1) o.2.1 o.2.2.2.1) else (l,badS 5))
  else if o.1=5 then (if Cq l o.2.1=true then Eu l (Ch l.2.2.2.1 (phS l.1 l.2.1) o.2.1 o.2.2.2.1) else (l,badS 5))
  else if o.1=6 then advS l
  else (l,askS l o)
 else (l,badS 2)
structure LOK (c:Cfg) (n:Nat) (l:Led):Prop where
 cfg:l.1=c
 right:cfgS c=true
 slot:0≤l.2.1∧l.2.1<c.1
 vals:VsOK l.2.2.1
 vlen:l.2.2.1.length≤n
 next:totS (A3 l.2.2.1)<9223372036854775808
 stake:totS (Ao l.2.2.1)<9223372036854775808
 bea:Hr l.2.2.2.1
 blen:l.2.2.2.1.2.2.2.1.length≤n
 llen:(l.2.2.2.2.1.length:Int)=c.1
 lead:∀i:Nat,(i:Int)<c.1→posS (Ao l.2.2.1)≠0→l.2.2.2.2.1.getD i 0=schV l.2.2.2.1.2.1 c.2.2.2.1 (Ao l.2.2.1) i
 miss:l.2.2.2.2.2.1.length≤1000
theorem zfu {o:OpT} (h:A6 o=true) (h0:o.1≠0):1≤o.1∧o.1≤11:=by
 unfold A6 at h;rw [Bool.and_eq_true] at h
 by_cases hv:(fsOf o.1).2=true
 ·exact I4 hv
 ·rw [if_neg hv] at h
  have:=(of_decide_eq_true h.2).2.2;exfalso;apply h0;rw [this]
theorem Sz {o:OpT} (h:A6 o=true):0≤o.2.2.2.2.1∧o.2.2.2.2.1<4294967296∧0≤o.2.1∧o.2.1<4294967296:=by
 unfold A6 at h;rw [Bool.and_eq_true] at h;have:=of_decide_eq_true h.1;omega
end Go.PG
namespace Go.PG
theorem zec {x:Int} (h:x=0):(x !=0)=false:=by simp [h]
theorem zlt {x:Int} (h:¬x=0):(x !=0)=true:=by simpa using h
theorem zul (l:List Va) (key:List Int) (a most:Int) (hn:l.length≤1000):0≤(depS l key a most).2.1∧(depS l key a most).2.1≤1000:=by
 unfold depS;split
 ·cases hq:fstK l key with
  | none=>
   simp only [];split
   ·simp
   ·split
    ·simp only []; omega
    ·simp
  | some i=>
   have:=(zal hq).1;simp only [];split
   ·simp only []; omega
   ·simp
 ·simp
section
variable {c:Cfg} {n:Nat} {l:Led}
theorem Pc (h:LOK c n l):0≤Ky l.1 l.2.1∧Ky l.1 l.2.1<c.1∧c.1≤1024:=by
 have h1:=C6 h.right;have h2:=h.slot;unfold Ky;rw [h.cfg];split
 ·omega
 ·omega
theorem zl3 {v:List Va} (h:VsOK v):VsOK (actS v):=fun x hx=>by
 obtain ⟨y,hy,rfl⟩:=List.mem_map.1 hx;exact ⟨(h y hy).key,(h y hy).next,(h y hy).next⟩
theorem Px (v:List Va):Ao (actS v)=A3 v:=by simp [Ao,actS,A3,actV]
theorem zgm (v:List Va):A3 (actS v)=A3 v:=by simp [actS,A3,actV]
theorem zlw {b:Bea} (h:Hr b):H32 (bEnd b).1.2.1∧((bEnd b).2.2.2=0→(bEnd b).2.1.2.2.2.1=(bEnd b).1.2.1):=by
 unfold bEnd;split
 ·exact ⟨A1,fun h=>by cases h⟩
 ·split
  ·exact ⟨A1,fun h=>by cases h⟩
  ·exact ⟨zdd _ _ _,fun _=>rfl⟩
end
end Go.PG
set_option maxRecDepth 100000
namespace Go.PG
def endC {R:Type} (l:Led) (k:Led→An→Option R) (y:Int) (p:Clk):Option R:=match (y !=0) with | true=>k l (badS y) | false=>k p.1 p.2.1
def D5 {R:Type} (l:Led) (k:Led→An→Option R) (x:Option R) (y:Bool):Option R:=match (!y) with | true=>k l (badS 2) | false=>x
theorem F14_1 (R:Type) (l:Led) {o:OpT} (hk:o.1=1) (k:Led→An→Option R):F14 R l o k=F21 R o (D5 l k (F68 R (l,okS 0,()) o (endC l k))):=by
 obtain ⟨x,r⟩:=o;cases hk
 kernel_rfl
theorem F14_2 (R:Type) (l:Led) {o:OpT} (hk:o.1=2) (k:Led→An→Option R):F14 R l o k=F21 R o (D5 l k (F69 R (l,okS 0,()) o (endC l k))):=by
 obtain ⟨x,r⟩:=o;cases hk
 kernel_rfl
theorem F14_3 (R:Type) (l:Led) {o:OpT} (hk:o.1=3) (k:Led→An→Option R):F14 R l o k=F21 R o (D5 l k (F70 R (l,okS 0,()) o (endC l k))):=by
 obtain ⟨x,r⟩:=o;cases hk
 kernel_rfl
theorem F14_4 (R:Type) (l:Led) {o:OpT} (hk:o.1=4) (k:Led→An→Option R):F14 R l o k=F21 R o (D5 l k (F71 R (l,okS 0,()) o (endC l k))):=by
 obtain ⟨x,r⟩:=o;cases hk
 kernel_rfl
theorem F14_5 (R:Type) (l:Led) {o:OpT} (hk:o.1=5) (k:Led→An→Option R):F14 R l o k=F21 R o (D5 l k (F74 R (l,okS 0,()) o (endC l k))):=by
 obtain ⟨x,r⟩:=o;cases hk
 kernel_rfl
theorem F14_6 (R:Type) (l:Led) {o:OpT} (hk:o.1=6) (k:Led→An→Option R):F14 R l o k=F21 R o (D5 l k (F76 R (l,okS 0,()) o (endC l k))):=by
 obtain ⟨x,r⟩:=o;cases hk
 kernel_rfl
theorem F14_7 (R:Type) (l:Led) {o:OpT} (hk:o.1=7) (k:Led→An→Option R):F14 R l o k=F21 R o (D5 l k (F77 R (l,okS 0,()) o (endC l k))):=by
 obtain ⟨x,r⟩:=o;cases hk
 kernel_rfl
theorem F14_8 (R:Type) (l:Led) {o:OpT} (hk:o.1=8) (k:Led→An→Option R):F14 R l o k=F21 R o (D5 l k (F78 R (l,okS 0,()) o (endC l k))):=by
 obtain ⟨x,r⟩:=o;cases hk
 kernel_rfl
theorem F14_9 (R:Type) (l:Led) {o:OpT} (hk:o.1=9) (k:Led→An→Option R):F14 R l o k=F21 R o (D5 l k (F79 R (l,okS 0,()) o (endC l k))):=by
 obtain ⟨x,r⟩:=o;cases hk
 kernel_rfl
theorem F14_10 (R:Type) (l:Led) {o:OpT} (hk:o.1=10) (k:Led→An→Option R):F14 R l o k=F21 R o (D5 l k (F80 R (l,okS 0,()) o (endC l k))):=by
 obtain ⟨x,r⟩:=o;cases hk
 kernel_rfl
theorem F14_11 (R:Type) (l:Led) {o:OpT} (hk:o.1=11) (k:Led→An→Option R):F14 R l o k=F21 R o (D5 l k (F81 R (l,okS 0,()) o (endC l k))):=by
 obtain ⟨x,r⟩:=o;cases hk
 kernel_rfl
theorem zu6 (R:Type) (l:Led) {o:OpT} (hk:o.1≠1∧o.1≠2∧o.1≠3∧o.1≠4∧o.1≠5∧o.1≠6∧o.1≠7∧o.1≠8∧o.1≠9∧o.1≠10∧o.1≠11) (k:Led→An→Option R):F14 R l o k=k l (badS 2):=by
 obtain ⟨h1,h2,h3,h4,h5,h6,h7,h8,h9,h10,h11⟩:=hk;simp [F14,p14,B2,Kd.eqv];simp only [Ar h1,Ar h2,Ar h3,Ar h4,Ar h5,Ar h6,Ar h7,Ar h8,Ar h9,Ar h10,Ar h11];rfl
end Go.PG
namespace Go.PG
section
variable {c:Cfg} {n:Nat} {l:Led}
theorem B9 {R:Type} (l:Led) {o:OpT} (ho:OpOK o) (k:Led→An→Option R) (x:Option R) (z:Option R) (h1:A6 o=false→k l (badS 2)=z) (h2:A6 o=true→x=z):F21 R o (D5 l k x)=z:=by
 rw [zws R ho];unfold D5;cases hr:A6 o with
 | false=>exact h1 hr
 | true=>exact h2 hr
theorem C5 {R:Type} (l:Led) (k:Led→An→Option R) {y:Int} (p:Clk) (h:y=0):endC l k y p=k p.1 p.2.1:=by unfold endC; rw [zec h]
theorem Cz {R:Type} (l:Led) (k:Led→An→Option R) {y:Int} (p:Clk) (h:¬y=0):endC l k y p=k l (badS y):=by unfold endC; rw [zlt h]
theorem Pk {R:Type} (l:Led) (k:Led→An→Option R) (r:List Va×Int×Int):endC l k r.2.2 ((l.1,l.2.1,r.1,l.2.2.2),((0:Int),r.2.1,([]:List Int),(List.replicate 32 (0:Int)),()),())=k (Cb l r).1 (Cb l r).2:=by
 unfold Cb
 by_cases hr:r.2.2=0
 ·rw [C5 l k _ hr,if_pos hr]; rfl
 ·rw [Cz l k _ hr,if_neg hr]
theorem zea {R:Type} (l:Led) (k:Led→An→Option R) (r:Bea×Int):endC l k r.2 ((l.1,l.2.1,l.2.2.1,r.1,l.2.2.2.2),okS 0,())=k (Eu l r).1 (Eu l r).2:=by
 unfold Eu
 by_cases hr:r.2=0
 ·rw [C5 l k _ hr,if_pos hr]
 ·rw [Cz l k _ hr,if_neg hr]
theorem P51 (R:Type) (h:LOK c n l) (hn:n≤100) {o:OpT} (ho:OpOK o) (k:Led→An→Option R):
  F68 R (l,okS 0,()) o (endC l k)=k (Cb l (depS l.2.2.1 o.2.2.2.1 o.2.2.1 l.1.2.2.2.2.1)).1 (Cb l (depS l.2.2.1 o.2.2.2.1 o.2.2.1 l.1.2.2.2.2.1)).2:=by
 have hl:=h.vlen;have hi:=zul l.2.2.1 o.2.2.2.1 o.2.2.1 l.1.2.2.2.2.1 (by omega);simp only [F68,p68];rw [F110_eq R h.vals (by omega) ho.hash.1 ho.amount,Aj (n:=(depS l.2.2.1 o.2.2.2.1 o.2.2.1 l.1.2.2.2.2.1).2.1) (by omega) (by omega)];exact Pk l k _
theorem P52 (R:Type) (h:LOK c n l) (hn:n≤100) {o:OpT} (ho:OpOK o) (k:Led→An→Option R):
  F69 R (l,okS 0,()) o (endC l k)=k (Cb l (wdS l.2.2.1 o.2.1 o.2.2.1)).1 (Cb l (wdS l.2.2.1 o.2.1 o.2.2.1)).2:=by
 have hl:=h.vlen;simp only [F69,p69];rw [F111_eq R h.vals (by omega) _ ho.amount];exact Pk l k _
theorem P53 (R:Type) (h:LOK c n l) (hn:n≤100) {o:OpT} (ho:OpOK o) (k:Led→An→Option R):
  F70 R (l,okS 0,()) o (endC l k)=k (Cb l (slS l.2.2.1 o.2.1 o.2.2.1)).1 (Cb l (slS l.2.2.1 o.2.1 o.2.2.1)).2:=by
 have hl:=h.vlen;simp only [F70,p70];rw [F112_eq R h.vals (by omega) _ ho.amount];exact Pk l k _
theorem zct (R:Type) (p:Clk) (w:Int) (k:Int→Clk→Option R):F113 R p w k=k (if Cq p.1 w=true then 0 else 5) p:=by
 simp only [F113,p113]
 by_cases h1:w<0
 ·have e:Cq p.1 w=false:=decide_eq_false (by omega)
  simp only [decide_eq_true h1]; rw [e]; rfl
 ·simp only [decide_eq_false h1]
  by_cases h2:w≥(p.1.2.2.1.length:Int)
  ·have e:Cq p.1 w=false:=decide_eq_false (by omega)
   simp only [decide_eq_true h2]; rw [e]; rfl
  ·have e:Cq p.1 w=true:=decide_eq_true (by omega)
   simp only [decide_eq_false h2]; rw [e]; rfl
theorem P54 (R:Type) (h:LOK c n l) (hn:n≤100) {o:OpT} (ho:OpOK o) (k:Led→An→Option R):
  F71 R (l,okS 0,()) o (endC l k)=k (if Cq l o.2.1=true then Eu l (Cj l.2.2.2.1 (phS l.1 l.2.1) o.2.1 o.2.2.2.1) else (l,badS 5)).1 (if Cq l o.2.1=true then Eu l (Cj l.2.2.2.1 (phS l.1 l.2.1) o.2.1 o.2.2.2.1) else (l,badS 5)).2:=by
 have hl:=h.blen;simp only [F71,p71,G3,zh3,zct];cases Cq l o.2.1 with
 | false=>
  simp only [Bool.false_eq_true,if_false];exact Cz l k _ (by decide)
 | true=>
  simp only [if_true,show ((0:Int) !=0)=false from rfl,zo9,F73_eq R h.bea (show l.2.2.2.1.2.2.2.1.length≤400 by omega) _ ho.who ho.hash];exact zea l k _
theorem P57 (R:Type) (h:LOK c n l) (hn:n≤100) {o:OpT} (ho:OpOK o) (k:Led→An→Option R):
  F74 R (l,okS 0,()) o (endC l k)=k (if Cq l o.2.1=true then Eu l (Ch l.2.2.2.1 (phS l.1 l.2.1) o.2.1 o.2.2.2.1) else (l,badS 5)).1 (if Cq l o.2.1=true then Eu l (Ch l.2.2.2.1 (phS l.1 l.2.1) o.2.1 o.2.2.2.1) else (l,badS 5)).2:=by
 have hl:=h.blen;simp only [F74,p74,G2,zh2,zct];cases Cq l o.2.1 with
 | false=>
  simp only [Bool.false_eq_true,if_false];exact Cz l k _ (by decide)
 | true=>
  simp only [if_true,show ((0:Int) !=0)=false from rfl,zo9,F75_eq R h.bea (show l.2.2.2.1.2.2.2.1.length≤400 by omega) _ _ ho.hash];exact zea l k _
theorem zva (h:LOK c n l) (a:List Int):(schL a l.1.1 l.1.2.2.2.1 (Ao (actS l.2.2.1))).2=0∧(schL a l.1.1 l.1.2.2.2.1 (Ao (actS l.2.2.1))).1=schP a l.1.2.2.2.1 (Ao (actS l.2.2.1)) l.1.1.toNat:=by
 have hc:=C6 h.right;have hm:mayS l.1.2.2.2.1 (l.1.1 - 1)=true:=by
  rw [h.cfg]; unfold mayS; simp; omega
 have ht:totS (Ao (actS l.2.2.1))<9223372036854775808:=by rw [Px]; exact h.next
 unfold schL;rw [if_neg (by rw [h.cfg]; omega),if_pos hm,if_pos ht];exact ⟨rfl,rfl⟩
theorem zjb (l:List Cm):(Cp l).length≤l.length:=by
 unfold Cp;simp only [List.length_map];exact List.length_filter_le _ _
theorem zgh (b:Bea):(bEnd b).2.2.1.length≤b.2.2.2.1.length:=by
 unfold bEnd;split
 ·simp
 ·split
  ·simp
  ·exact zjb _
theorem P59 (R:Type) (h:LOK c n l) (hn:n≤100) {o:OpT} (k:Led→An→Option R):
  F76 R (l,okS 0,()) o (endC l k)=k (advS l).1 (advS l).2:=by
 have hl:=h.blen;have hv:=h.vlen;have hx:=Pc h;have hc:=C6 h.right;obtain ⟨hs,hf⟩:=zlw h.bea;simp only [F76,p76,F119_eq];rw [Aj (n:=Ky l.1 l.2.1) (by omega) (by omega)];unfold advS;cases zky l.1 l.2.1 with
 | false=>
  simp only [Bool.false_eq_true,if_false];exact C5 l k _ rfl
 | true=>
  simp only [if_true,F120,p120,F167_eq R h.bea (show l.2.2.2.1.2.2.2.1.length≤400 by omega)]
  by_cases he:(bEnd l.2.2.2.1).2.2.2=0
  ·simp only [zec he,if_pos he,F168_eq R (show l.2.2.1.length≤1000 by omega)]
   have hm:=zgh l.2.2.2.1;have hcl:decide (([]:List Int).length+(bEnd l.2.2.2.1).2.2.1.length≤17592186044416)=true:=by simp; omega
   simp only [F169,hcl];rw [Qw R (by rw [Jb]; omega),F170_eq R hs (by rw [h.cfg]; omega) _ (Dz (zl3 h.vals)) (by rw [Dc,Jb]; omega)];exact C5 l k _ (zva h _).1
  ·simp only [zlt he,if_neg he]
   exact Cz l k _ he
theorem askS_7 (l:Led) {o:OpT} (hk:o.1=7):askS l o=if o.2.2.2.2.1≥l.1.1 then badS 3 else
  (if posS (Ao l.2.2.1)=0 then badS 10 else
   if (leaS l.2.2.2.1.2.1 o.2.2.2.2.1 l.1.2.2.2.1 (Ao l.2.2.1)).2=0 then ((0:Int),(0:Int),[(leaS l.2.2.2.1.2.1 o.2.2.2.2.1 l.1.2.2.2.1 (Ao l.2.2.1)).1],(List.replicate 32 (0:Int)),())
   else badS (leaS l.2.2.2.1.2.1 o.2.2.2.2.1 l.1.2.2.2.1 (Ao l.2.2.1)).2):=by
 unfold askS; rw [hk]; rfl
theorem askS_8 (l:Led) {o:OpT} (hk:o.1=8):askS l o=if o.2.2.2.2.1≥l.1.1 then badS 3 else
  (if (aliS l.2.2.2.1.2.1 o.2.2.2.2.1 l.1.2.2.2.1 (Ao l.2.2.1)).2=0 then ((0:Int),(0:Int),[(aliS l.2.2.2.1.2.1 o.2.2.2.2.1 l.1.2.2.2.1 (Ao l.2.2.1)).1],(List.replicate 32 (0:Int)),())
   else badS (aliS l.2.2.2.1.2.1 o.2.2.2.2.1 l.1.2.2.2.1 (Ao l.2.2.1)).2):=by
 unfold askS; rw [hk]; rfl
theorem askS_9 (l:Led) {o:OpT} (hk:o.1=9):askS l o=if o.2.2.2.2.1≥l.1.1 then badS 3 else
  (if (sitS l.2.2.2.1.2.1 o.2.2.2.2.1 o.2.1 l.1.2.2.2.1 (Ao l.2.2.1)).2=0 then ((0:Int),(0:Int),(sitS l.2.2.2.1.2.1 o.2.2.2.2.1 o.2.1 l.1.2.2.2.1 (Ao l.2.2.1)).1,(List.replicate 32 (0:Int)),())
   else badS (sitS l.2.2.2.1.2.1 o.2.2.2.2.1 o.2.1 l.1.2.2.2.1 (Ao l.2.2.1)).2):=by
 unfold askS; rw [hk]; rfl
theorem zcs (R:Type) (p:Clk) (w:Int) (hw:0≤w) (k:Int→Clk→Option R):F121 R p w k=k (if w≥p.1.1.1 then 3 else 0) p:=by
 simp only [F121,p121,decide_eq_false (show ¬w<0 by omega)]
 by_cases h2:w≥p.1.1.1
 ·simp only [decide_eq_true h2,if_pos h2]
 ·simp only [decide_eq_false h2,if_neg h2]
theorem P60 (R:Type) (h:LOK c n l) (hn:n≤100) {o:OpT} (hr:A6 o=true) (hk:o.1=7) (k:Led→An→Option R):
  F77 R (l,okS 0,()) o (endC l k)=k l (askS l o):=by
 have hv:=h.vlen;have hA:=Dz h.vals;have hL:(Ao l.2.2.1).length≤200:=by rw [Dc]; omega
 obtain ⟨hn0,_,_,_⟩:=Sz hr;have hc:=C6 h.right;simp only [F77,p77,zcs R _ _ hn0];rw [askS_7 l hk]
 by_cases h1:o.2.2.2.2.1≥l.1.1
 ·simp only [if_pos h1,show ((3:Int) !=0)=true from rfl]
  exact Cz l k _ (show ¬(3:Int)=0 by decide)
 ·simp only [if_neg h1,show ((0:Int) !=0)=false from rfl,Qw R (show l.2.2.1.length≤1000 by omega),ze2 R (show (Ao l.2.2.1).length≤1000000 by omega)]
  by_cases h2:posS (Ao l.2.2.1)=0
  ·rw [if_pos h2,h2]
   exact Cz l k _ (by decide)
  ·rw [if_neg h2]
   simp only [Ar h2];obtain ⟨i,hi⟩:∃i:Nat,o.2.2.2.2.1=i:=⟨o.2.2.2.2.1.toNat,by omega⟩
   rw [hi] at h1 ⊢;have hll:=h.llen;have hcf:=h.cfg;have hil:i<l.2.2.2.2.1.length:=by rw [hcf] at h1; omega
   have hld:=h.lead i (by rw [hcf] at h1; omega) h2;simp only [A5 hil,Int.toNat_natCast,hld];have hm:mayS l.1.2.2.2.1 (i:Int)=true:=by
    rw [hcf] at h1 ⊢; unfold mayS; simp; omega
   have hE:=zs0 h.bea.seed (slot:=(i:Int)) (m:=l.1.2.2.2.1) hA hm h.stake ((S5 hA).1 h2);rw [hcf] at hE ⊢;unfold schV;rcases hE with ⟨e1,e2⟩ | e1
   ·rw [if_pos e1,if_pos e1]
    have e3:((leaS l.2.2.2.1.2.1 (i:Int) c.2.2.2.1 (Ao l.2.2.1)).1== -1)=false:=Ar (by omega);simp only [e3];exact C5 l k _ rfl
   ·have e0:¬(leaS l.2.2.2.1.2.1 (i:Int) c.2.2.2.1 (Ao l.2.2.1)).2=0:=by rw [e1]; decide
    rw [if_neg e0,if_neg e0];simp only [show ((-1:Int)== -1)=true from rfl];rw [e1];exact Cz l k _ (by decide)
theorem P61 (R:Type) (h:LOK c n l) (hn:n≤100) {o:OpT} (hr:A6 o=true) (hk:o.1=8) (k:Led→An→Option R):
  F78 R (l,okS 0,()) o (endC l k)=k l (askS l o):=by
 have hv:=h.vlen;have hA:=Dz h.vals;have hL:(Ao l.2.2.1).length≤200:=by rw [Dc]; omega
 obtain ⟨hn0,_,_,_⟩:=Sz hr;simp only [F78,p78,zcs R _ _ hn0];rw [askS_8 l hk]
 by_cases h1:o.2.2.2.2.1≥l.1.1
 ·simp only [if_pos h1,show ((3:Int) !=0)=true from rfl]
  exact Cz l k _ (show ¬(3:Int)=0 by decide)
 ·simp only [if_neg h1,show ((0:Int) !=0)=false from rfl,Qw R (show l.2.2.1.length≤1000 by omega),F124_eq R h.bea.seed _ _ hA hL]
  by_cases h2:(aliS l.2.2.2.1.2.1 o.2.2.2.2.1 l.1.2.2.2.1 (Ao l.2.2.1)).2=0
  ·rw [if_pos h2,C5 l k _ h2]; rfl
  ·rw [if_neg h2,Cz l k _ h2]
theorem P62 (R:Type) (h:LOK c n l) (hn:n≤100) {o:OpT} (hr:A6 o=true) (hk:o.1=9) (k:Led→An→Option R):
  F79 R (l,okS 0,()) o (endC l k)=k l (askS l o):=by
 have hv:=h.vlen;have hA:=Dz h.vals;have hL:(Ao l.2.2.1).length≤200:=by rw [Dc]; omega
 obtain ⟨hn0,_,_,_⟩:=Sz hr;simp only [F79,p79,zcs R _ _ hn0];rw [askS_9 l hk]
 by_cases h1:o.2.2.2.2.1≥l.1.1
 ·simp only [if_pos h1,show ((3:Int) !=0)=true from rfl]
  exact Cz l k _ (show ¬(3:Int)=0 by decide)
 ·simp only [if_neg h1,show ((0:Int) !=0)=false from rfl,Qw R (show l.2.2.1.length≤1000 by omega),F33_eq R h.bea.seed _ _ _ hA hL]
  by_cases h2:(sitS l.2.2.2.1.2.1 o.2.2.2.2.1 o.2.1 l.1.2.2.2.1 (Ao l.2.2.1)).2=0
  ·rw [if_pos h2,C5 l k _ h2]; rfl
  ·rw [if_neg h2,Cz l k _ h2]
theorem P63 (R:Type) {o:OpT} (hk:o.1=10) (k:Led→An→Option R):
  F80 R (l,okS 0,()) o (endC l k)=k l (askS l o):=by
 simp only [F80,p80,zct];unfold askS;rw [hk,if_pos rfl];cases ht:Cq l o.2.1 with
 | false=>
  simp only [Bool.false_eq_true,if_false];exact Cz l k _ (by decide)
 | true=>
  have ht':=of_decide_eq_true ht;obtain ⟨i,hi⟩:∃i:Nat,o.2.1=i:=⟨o.2.1.toNat,by omega⟩
  have hb:bnd o.2.1 (l.2.2.1.length:Int)=true:=by rw [hi]; exact A5 (by omega)
  simp only [if_true,show ((0:Int) !=0)=false from rfl,hb]
  by_cases k2:o.2.2.2.2.1=0
  ·simp only [k2,if_true,show ((0:Int)==0)=true from rfl]
   exact C5 l k _ rfl
  ·simp only [Ar k2,if_neg k2]
   exact C5 l k _ rfl
theorem P64 (R:Type) {o:OpT} (hk:o.1=11) (k:Led→An→Option R):
  F81 R (l,okS 0,()) o (endC l k)=k l (askS l o):=by
 simp only [F81,p81];unfold askS;rw [hk,if_neg (by decide),if_pos rfl];exact C5 l k _ rfl
theorem zwt (R:Type) (h:LOK c n l) (hn:n≤100) {o:OpT} (ho:OpOK o) (k:Led→An→Option R):F14 R l o k=k (doS l o).1 (doS l o).2:=by
 have hf:A6 o=false→k l (badS 2)=k (doS l o).1 (doS l o).2:=fun hr=>by unfold doS; rw [hr]; rfl
 have hd:A6 o=true→o.1≠0→doS l o=if o.1=1 then Cb l (depS l.2.2.1 o.2.2.2.1 o.2.2.1 l.1.2.2.2.2.1)
  else if o.1=2 then Cb l (wdS l.2.2.1 o.2.1 o.2.2.1)
  else if o.1=3 then Cb l (slS l.2.2.1 o.2.1 o.2.2.1)
  else if o.1=4 then (if Cq l o.2.1=true then Eu l (Cj l.2.2.2.1 (phS l.1 l.2.1) o.2.1 o.2.2.2.1) else (l,badS 5))
  else if o.1=5 then (if Cq l o.2.1=true then Eu l (Ch l.2.2.2.1 (phS l.1 l.2.1) o.2.1 o.2.2.2.1) else (l,badS 5))
  else if o.1=6 then advS l
  else (l,askS l o):=fun hr h0=>by unfold doS; rw [if_pos ⟨hr,h0⟩]
 rcases zah o.1 with q | q | q | q | q | q | q | q | q | q | q | q
 ·rw [F14_1 R l q]; exact B9 l ho k _ _ hf fun hr=>by rw [P51 R h hn ho,hd hr (by omega)]; simp [q]
 ·rw [F14_2 R l q]; exact B9 l ho k _ _ hf fun hr=>by rw [P52 R h hn ho,hd hr (by omega)]; simp [q]
 ·rw [F14_3 R l q]; exact B9 l ho k _ _ hf fun hr=>by rw [P53 R h hn ho,hd hr (by omega)]; simp [q]
 ·rw [F14_4 R l q]; exact B9 l ho k _ _ hf fun hr=>by rw [P54 R h hn ho,hd hr (by omega)]; simp [q]
 ·rw [F14_5 R l q]; exact B9 l ho k _ _ hf fun hr=>by rw [P57 R h hn ho,hd hr (by omega)]; simp [q]
 ·rw [F14_6 R l q]; exact B9 l ho k _ _ hf fun hr=>by rw [P59 R h hn,hd hr (by omega)]; simp [q]
 ·rw [F14_7 R l q]; exact B9 l ho k _ _ hf fun hr=>by rw [P60 R h hn hr q,hd hr (by omega)]; simp [q]
 ·rw [F14_8 R l q]; exact B9 l ho k _ _ hf fun hr=>by rw [P61 R h hn hr q,hd hr (by omega)]; simp [q]
 ·rw [F14_9 R l q]; exact B9 l ho k _ _ hf fun hr=>by rw [P62 R h hn hr q,hd hr (by omega)]; simp [q]
 ·rw [F14_10 R l q]; exact B9 l ho k _ _ hf fun hr=>by rw [P63 R q,hd hr (by omega)]; simp [q]
 ·rw [F14_11 R l q]; exact B9 l ho k _ _ hf fun hr=>by rw [P64 R q,hd hr (by omega)]; simp [q]
 ·rw [zu6 R l q]
  have:¬(A6 o=true∧o.1≠0):=fun hh=>by have:=zfu hh.1 hh.2; omega
  unfold doS;rw [if_neg this]
end
end Go.PG
end
