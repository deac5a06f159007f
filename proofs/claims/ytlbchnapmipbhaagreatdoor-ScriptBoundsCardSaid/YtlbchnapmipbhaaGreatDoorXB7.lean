/- A part of the proof over this seat (own work; the framework that reads a Go function as a pure one, or a use of it). No condition of its own. -/
import Derived.Test.YtlbchnapmipbhaaGreatDoorXB6
import Derived.KernelRfl
set_option linter.unusedVariables false
set_option linter.unusedSimpArgs false
set_option linter.unusedSectionVars false
noncomputable section
namespace Go.PG
theorem F332_eq (R:Type) {x:Int} (hx:U32 x) {r:Nat} (h0:0<r) (hr:r<32) (k:Int→Option R):F332 R x (r:Int) k=k (rotS x r):=by
 simp only [F332,p332];rw [Aj (n:=(r:Int)) (by omega) (by omega),Int.tmod_eq_of_lt (by omega) (by omega),Aj (by omega) (by omega)];rw [show decide (0≤(r:Int))=true by simp,show decide (0≤(32:Int) - r)=true by simp; omega];simp only;rw [rot_or hx h0 hr]
theorem zmv (R:Type) {x:Int} (hx:U32 x) {r:Nat} (hr:r≤32) (k:Int→Option R):∀(m i:Nat),i≤r→r - i<m→Pd m R (rotS x i) (r:Int) (i:Int) k=k (rotS x r)
 | 0,i,_,h=>by omega
 | m+1,i,h1,h2=>by
  simp only [Pd,zhp]
  by_cases hi:i<r
  ·have hd:decide ((i:Int)<(r:Int))=true:=by simpa using hi
   have hu:=zgv hx (r:=i) (by omega);have hs:=T3 hx (r:=i) (by omega);simp only [hd];have ih:=zmv R hx hr k m (i+1) (by omega) (by omega);rw [hs] at ih;rw [←ih];unfold U32 at hu;rw [Int.tdiv_eq_ediv_of_nonneg hu.1,Int.tmod_eq_emod_of_nonneg hu.1];rw [Cj (n:=rotS x i/2) (by omega) (by omega),Cj (n:=rotS x i % 2*2147483648) (by omega) (by omega),Cj (by omega) (by omega),wrap_i64 (by omega) (by omega)];rfl
  ·have hd:decide ((i:Int)<(r:Int))=false:=by simpa using hi
   have:i=r:=by omega
   subst this;simp only [hd]
theorem F259_eq (R:Type) {x:Int} (hx:U32 x) {r:Nat} (hr:r<32) (k:Int→Option R):F259 R x (r:Int) k=k (rotS x r):=by
 simp only [F259,p259];rw [Int.tmod_eq_of_lt (by omega) (by omega)];have hd:decide ((r:Int)<0)=false:=by simp
 simp only [hd];have:=zmv R hx (r:=r) (by omega) k FUEL 0 (by omega) (by rw [Al]; omega);rw [T2] at this;exact this
def shrS (x:Int) (r:Nat):Int:=x/2^r
theorem zcb {x:Int} (hx:U32 x) {r:Nat} (hr:r≤32):ishr .u32 x r=shrS x r:=by
 unfold ishr shrS;rw [show IntKind.u32.bits=32 from rfl,show ((r:Int).toNat)=r by simp,Nat.min_eq_left hr,Int.fdiv_eq_ediv_of_nonneg _ (by have:=two_pow_pos r; omega)]
theorem F333_eq (R:Type) {x:Int} (hx:U32 x) {r:Nat} (hr:r≤32) (k:Int→Option R):F333 R x (r:Int) k=k (shrS x r):=by
 simp only [F333,p333];have e:(if (0:Int)>(r:Int) then (0:Int) else (r:Int))=r:=by split<;>omega
 rw [e,Aj (by omega) (by omega),zcb hx hr];have hd:decide ((0:Int)≤(r:Int))=true:=by simp
 simp only [hd]
theorem shrS_lt {x:Int} (hx:U32 x) (r:Nat):U32 (shrS x r):=by
 unfold shrS U32 at*;have hp:=two_pow_pos r;exact ⟨Int.ediv_nonneg hx.1 (by omega),Int.lt_of_le_of_lt (Int.ediv_le_self _ hx.1) hx.2⟩
theorem zgl (x:Int) (r:Nat):shrS x (r+1)=shrS x r/2:=by
 unfold shrS;rw [Int.pow_succ,Int.ediv_ediv_of_nonneg (by have:=two_pow_pos r; omega)]
theorem zmu (R:Type) {x:Int} (hx:U32 x) {r:Nat} (hr:r≤32) (k:Int→Option R):∀(m i:Nat),i≤r→r - i<m→Pc m R (shrS x i) (r:Int) (i:Int) k=k (shrS x r)
 | 0,i,_,h=>by omega
 | m+1,i,h1,h2=>by
  simp only [Pc,zho]
  by_cases hi:i<r
  ·have hd:decide ((i:Int)<(r:Int))=true:=by simpa using hi
   have hu:=shrS_lt hx i;simp only [hd];have ih:=zmu R hx hr k m (i+1) (by omega) (by omega);rw [zgl] at ih;rw [←ih];unfold U32 at hu;rw [Int.tdiv_eq_ediv_of_nonneg hu.1,Cj (by omega) (by omega),wrap_i64 (by omega) (by omega)];rfl
  ·have hd:decide ((i:Int)<(r:Int))=false:=by simpa using hi
   have:i=r:=by omega
   subst this;simp only [hd]
theorem F260_eq (R:Type) {x:Int} (hx:U32 x) {r:Nat} (hr:r<32) (k:Int→Option R):F260 R x (r:Int) k=k (shrS x r):=by
 simp only [F260,p260];have hd:decide ((r:Int)>31)=false:=by simp; omega
 simp only [hd];have:=zmu R hx (r:=r) (by omega) k FUEL 0 (by omega) (by rw [Al]; omega);rw [show shrS x 0=x by simp [shrS]] at this;exact this
theorem D4 (R:Type) {x:Int} (hx:U32 x) {n:Int} (r:Nat) (e:n=(r:Int)) (h0:0<r) (hr:r<32) (k:Int→Option R):F332 R x n k=k (rotS x r):=by rw [e]; exact F332_eq R hx h0 hr k
theorem G1 (R:Type) {x:Int} (hx:U32 x) {n:Int} (r:Nat) (e:n=(r:Int)) (hr:r<32) (k:Int→Option R):F259 R x n k=k (rotS x r):=by rw [e]; exact F259_eq R hx hr k
theorem zdt (R:Type) {x:Int} (hx:U32 x) {n:Int} (r:Nat) (e:n=(r:Int)) (hr:r≤32) (k:Int→Option R):F333 R x n k=k (shrS x r):=by rw [e]; exact F333_eq R hx hr k
theorem zdx (R:Type) {x:Int} (hx:U32 x) {n:Int} (r:Nat) (e:n=(r:Int)) (hr:r<32) (k:Int→Option R):F260 R x n k=k (shrS x r):=by rw [e]; exact F260_eq R hx hr k
def sig3 (x:Int) (a b c:Nat):Int:=ixor .u32 (ixor .u32 (rotS x a) (rotS x b)) (rotS x c)
def sig2 (x:Int) (a b c:Nat):Int:=ixor .u32 (ixor .u32 (rotS x a) (rotS x b)) (shrS x c)
theorem F303_eq (R:Type) {x:Int} (hx:U32 x) (k:Int→Option R):F303 R x k=k (sig2 x 17 19 10):=by
 simp only [F303,p303,F322,p322];rw [D4 R hx (n:=17) 17 rfl (by omega) (by omega),D4 R hx (n:=19) 19 rfl (by omega) (by omega),zdt R hx (n:=10) 10 rfl (by omega)];simp only [sig2]
theorem F304_eq (R:Type) {x:Int} (hx:U32 x) (k:Int→Option R):F304 R x k=k (sig2 x 7 18 3):=by
 simp only [F304,p304,F322,p322];rw [D4 R hx (n:=7) 7 rfl (by omega) (by omega),D4 R hx (n:=18) 18 rfl (by omega) (by omega),zdt R hx (n:=3) 3 rfl (by omega)];simp only [sig2]
theorem F212_eq (R:Type) {x:Int} (hx:U32 x) (k:Int→Option R):F212 R x k=k (sig2 x 17 19 10):=by
 have h1:=G1 R hx (n:=17) 17 rfl (by omega);have h2:=G1 R hx (n:=19) 19 rfl (by omega);have h3:=zdx R hx (n:=10) 10 rfl (by omega);show p212 F259 F260 R x k=_;generalize F259=f at*;generalize F260=g at*;simp only [p212,h1,h2,h3,sig2]
theorem F213_eq (R:Type) {x:Int} (hx:U32 x) (k:Int→Option R):F213 R x k=k (sig2 x 7 18 3):=by
 have h1:=G1 R hx (n:=7) 7 rfl (by omega);have h2:=G1 R hx (n:=18) 18 rfl (by omega);have h3:=zdx R hx (n:=3) 3 rfl (by omega);show p213 F259 F260 R x k=_;generalize F259=f at*;generalize F260=g at*;simp only [p213,h1,h2,h3,sig2]
def chS (a b c:Int):Int:=ior .u32 (iand .u32 a b) (iand .u32 (IntKind.u32.wrap (4294967295 - a)) c)
def majS (a b c:Int):Int:=ior .u32 (ior .u32 (iand .u32 a b) (iand .u32 a c)) (iand .u32 b c)
theorem F305_eq (R:Type) {a:Int} (ha:U32 a) (b c:Int) (k:Int→Option R):F305 R a b c k=k (IntKind.u32.wrap (sig3 a 6 11 25+chS a b c)):=by
 simp only [F305,p305,F323,p323];rw [D4 R ha (n:=6) 6 rfl (by omega) (by omega),D4 R ha (n:=11) 11 rfl (by omega) (by omega),D4 R ha (n:=25) 25 rfl (by omega) (by omega)];simp only [sig3,chS,zkw b c ha]
theorem F306_eq (R:Type) {a:Int} (ha:U32 a) (b c:Int) (k:Int→Option R):F306 R a b c k=k (IntKind.u32.wrap (sig3 a 2 13 22+majS a b c)):=by
 simp only [F306,p306,F323,p323];rw [D4 R ha (n:=2) 2 rfl (by omega) (by omega),D4 R ha (n:=13) 13 rfl (by omega) (by omega),D4 R ha (n:=22) 22 rfl (by omega) (by omega)];simp only [sig3,majS,X0]
theorem zpd (R:Type) {x:Int} (hx:U32 x) {a b c:Int} (p q r:Nat) (ea:a=(p:Int)) (eb:b=(q:Int)) (ec:c=(r:Int)) (hp:p<32) (hq:q<32) (hr:r<32) (k:Int→Option R):F214 R x a b c k=k (sig3 x p q r):=by
 simp only [F214,p214];rw [G1 R hx p ea hp,G1 R hx q eb hq,G1 R hx r ec hr];simp only [sig3]
def Jk (s:List Int) (w c:Int):List Int:=
 let t:=IntKind.u32.wrap (s.getD 7 0+sig3 (s.getD 4 0) 6 11 25+chS (s.getD 4 0) (s.getD 5 0) (s.getD 6 0)+c+w)
 [IntKind.u32.wrap (t+(sig3 (s.getD 0 0) 2 13 22+majS (s.getD 0 0) (s.getD 1 0) (s.getD 2 0))),s.getD 0 0,s.getD 1 0,s.getD 2 0,IntKind.u32.wrap (s.getD 3 0+t),s.getD 4 0,s.getD 5 0,s.getD 6 0]
theorem F166_eq (R:Type) {s:List Int} (h0:U32 (s.getD 0 0)) (h4:U32 (s.getD 4 0)) (w c:Int) (k:List Int→Option R):F166 R s w c k=k (Jk s w c):=by
 have e1:=zpd R h4 (a:=6) (b:=11) (c:=25) 6 11 25 rfl rfl rfl (by omega) (by omega) (by omega);have e2:=zpd R h0 (a:=2) (b:=13) (c:=22) 2 13 22 rfl rfl rfl (by omega) (by omega) (by omega);show p166 F214 F215 F216 R s w c k=_;generalize F214=f at*;simp only [p166,e1,e2,F215,p215,F216,p216]
 congr 1
 simp only [Jk,chS,majS,List.replicate,List.set];simp only [Cy]
 congr 1
 ·omega
 ·congr 4
  omega
theorem F285_eq (R:Type) {a0 a1 a2 a3 a4 a5 a6 a7:Int} (h0:U32 a0) (h4:U32 a4) (w c:Int) (k:List Int→Option R):F285 R [a0,a1,a2,a3,a4,a5,a6,a7] w c k=k (Jk [a0,a1,a2,a3,a4,a5,a6,a7] w c):=by
 simp only [F285,p285,List.getD_cons_zero,List.getD_cons_succ];rw [F305_eq R h4,F306_eq R h0]
 congr 1
 simp [Jk,lay,List.replicate];simp only [Cy];refine ⟨?_,?_⟩<;>omega
theorem list8 {l:List Int} (h:l.length=8):∃a b c d e f g i,l=[a,b,c,d,e,f,g,i]:=by
 match l,h with
 | [a,b,c,d,e,f,g,i],_=>exact ⟨a,b,c,d,e,f,g,i,rfl⟩
def AllU8 (l:List Int):Prop:=∀x∈l,U8 x
def AllU32 (l:List Int):Prop:=∀x∈l,U32 x
def Jv (a b c d:Int):Int:=((a*256+b)*256+c)*256+d
theorem Kc (n:Nat) (h:n≤1000):∃m,FUEL=m+n:=⟨FUEL - n,by rw [Al]; omega⟩
theorem F56_eq (R:Type) {a b c d:Int} (ha:U8 a) (hb:U8 b) (hc:U8 c) (hd:U8 d) (k:Int→Option R):F56 R [a,b,c,d] k=k (Jv a b c d):=by
 obtain ⟨m,hm⟩:=Kc 5 (by omega);unfold U8 at*;simp only [F56,p56,hm,zfm,p56_3];simp [bnd,Fg,Cy,Jv]
 congr 1
 omega
theorem Ng {x b:Int} (hx:0≤x∧x<16777216) (hb:U8 b):ior .u32 (ishl .u32 x 8) b=x*256+b:=by
 unfold U8 at hb;obtain ⟨n,rfl⟩:∃n:Nat,x=n:=⟨x.toNat,by omega⟩
 obtain ⟨c,rfl⟩:∃c:Nat,b=c:=⟨b.toNat,by omega⟩
 have e2:ishl .u32 (n:Int) 8=((n*256:Nat):Int):=by
  unfold ishl;rw [show (2:Int)^(min (8:Int).toNat IntKind.u32.bits)=256 by decide,Cj (by omega) (by omega)];simp
 rw [e2,R8,BitVec.ofInt_natCast,BitVec.ofInt_natCast,BitVec.toNat_or,BitVec.toNat_ofNat,BitVec.toNat_ofNat,Nat.mod_eq_of_lt (by omega),Nat.mod_eq_of_lt (by omega)];have h6:=Nat.shiftLeft_add_eq_or_of_lt (i:=8) (b:=c) (by omega) n;rw [Nat.shiftLeft_eq] at h6;rw [show n*256=n*2^8 by rfl,←h6];simp
theorem zpc (R:Type) {a b c d:Int} (ha:U8 a) (hb:U8 b) (hc:U8 c) (hd:U8 d) (k:Int→Option R):F220 R [a,b,c,d] k=k (Jv a b c d):=by
 obtain ⟨m,hm⟩:=Kc 5 (by omega);simp only [F220,p220,hm,Q9,zhy];have w:∀x,U8 x→IntKind.u32.wrap x=x:=fun x h=>Cj h.1 (by unfold U8 at h; omega)
 simp [bnd,Fg,w a ha,w b hb,w c hc,w d hd];have u:=ha; have v:=hb; have y:=hc; have z:=hd;unfold U8 at u v y z;rw [Ng (x:=0) (by omega) ha,Ng (by omega) hb,Ng (by omega) hc,Ng (by omega) hd];simp [Jv]
theorem zjw {a b c d:Int} (ha:U8 a) (hb:U8 b) (hc:U8 c) (hd:U8 d):U32 (Jv a b c d):=by
 unfold U8 U32 Jv at*; omega
def zrx (blk:List Int) (i:Nat):Int:=Jv (blk.getD (4*i) 0) (blk.getD (4*i+1) 0) (blk.getD (4*i+2) 0) (blk.getD (4*i+3) 0)
def planW (l:List Int) (i:Nat):Int:=IntKind.u32.wrap (IntKind.u32.wrap (IntKind.u32.wrap (sig2 (l.getD (i - 2) 0) 17 19 10+l.getD (i - 7) 0)+sig2 (l.getD (i - 15) 0) 7 18 3)+l.getD (i - 16) 0)
def B0 (blk l:List Int) (i:Nat):List Int:=l.set i (if i<16 then zrx blk i else planW l i)
def zee (blk:List Int):List Int:=(List.range' 0 64).foldl (B0 blk) (List.replicate 64 0)
theorem Au {p:Int→Prop} {l:List Int} (h:∀x∈l,p x) (h0:p 0) (i:Nat):p (l.getD i 0):=by
 rw [List.getD_eq_getElem?_getD];cases hi:l[i]? with
 | none=>exact h0
 | some x=>exact h x (List.mem_of_getElem? hi)
theorem u8_0:U8 0:=by unfold U8; omega
theorem Pw:U32 0:=by unfold U32; omega
theorem AllU32.set {l:List Int} (h:AllU32 l) {i:Nat} {x:Int} (hx:U32 x):AllU32 (l.set i x):=fun y hy=>by
 rcases List.mem_or_eq_of_mem_set hy with h1 | h1
 ·exact h y h1
 ·rw [h1]; exact hx
theorem AllU32.rep (n:Nat):AllU32 (List.replicate n 0):=fun y hy=>by rw [List.eq_of_mem_replicate hy]; exact Pw
theorem zrw {blk:List Int} (h:AllU8 blk) (i:Nat):U32 (zrx blk i):=zjw (Au h u8_0 _) (Au h u8_0 _) (Au h u8_0 _) (Au h u8_0 _)
theorem Gk {blk l:List Int} (hb:AllU8 blk) (hl:l.length=64) (h:AllU32 l) (i:Nat):(B0 blk l i).length=64∧AllU32 (B0 blk l i):=by
 unfold B0;refine ⟨by simpa using hl,h.set ?_⟩;split
 ·exact zrw hb i
 ·exact Jf _
theorem take4 {l:List Int} {i:Nat} (h:i+4≤l.length):List.take 4 (List.drop i l)=[l.getD i 0,l.getD (i+1) 0,l.getD (i+2) 0,l.getD (i+3) 0]:=by
 have e0:List.drop i l=l[i]::List.drop (i+1) l:=List.drop_eq_getElem_cons (by omega);have e1:List.drop (i+1) l=l[i+1]::List.drop (i+1+1) l:=List.drop_eq_getElem_cons (by omega);have e2:List.drop (i+1+1) l=l[i+1+1]::List.drop (i+1+1+1) l:=List.drop_eq_getElem_cons (by omega);have e3:List.drop (i+1+1+1) l=l[i+1+1+1]::List.drop (i+1+1+1+1) l:=List.drop_eq_getElem_cons (by omega);rw [e0,e1,e2,e3];show [l[i],l[i+1],l[i+1+1],l[i+1+1+1]]=_;simp [show i<l.length by omega,show i+1<l.length by omega,show i+2<l.length by omega,show i+3<l.length by omega]
theorem Bu {i n:Nat} (h:i<n):List.range' i (n - i)=i::List.range' (i+1) (n - (i+1)):=by
 rw [show n - i=(n - (i+1))+1 by omega,List.range'_succ]
theorem zms (R:Type) {blk:List Int} (hb:blk.length=64) (h8:AllU8 blk) (k0:List Int→Option R):∀(m i:Nat) (l:List Int),i≤64→64 - i<m→l.length=64→AllU32 l→
  O8 m R (i:Int) blk l k0=k0 ((List.range' i (64 - i)).foldl (B0 blk) l)
 | 0,i,l,_,h,_,_=>by omega
 | m+1,i,l,h1,h2,hl,hu=>by
  simp only [O8,zhk]
  by_cases hi:i<64
  ·have ok:=Gk h8 hl hu i
   have ih:=zms R hb h8 k0 m (i+1) (B0 blk l i) (by omega) (by omega) ok.1 ok.2;rw [Bu hi,List.foldl_cons,←ih];rw [wrap_i64 (n:=4*(i:Int)) (by omega) (by omega),wrap_i64 (n:=(i:Int)+1) (by omega) (by omega),wrap_i64 (n:=4*(i:Int)+4) (by omega) (by omega)];have hd:decide ((i:Int)<64)=true:=by simp; omega
   have hbn:bnd (i:Int) 64=true:=by unfold bnd; simp; omega
   by_cases h16:i<16
   ·have c1:decide (4*(i:Int)<64)=true:=by simp; omega
    have c2:decide (0≤4*(i:Int)∧4*(i:Int)≤4*(i:Int)+4∧4*(i:Int)+4≤64)=true:=by simp; omega
    have c3:decide ((4:Int)≤((Int.toNat (4*(i:Int)+4 - 4*(i:Int)):Nat):Int))=true:=by simp; omega
    have e1:(4*(i:Int)).toNat=4*i:=by omega
    simp only [hd,c1,c2,c3,e1,hbn];rw [take4 (by omega),zpc R (Au h8 u8_0 _) (Au h8 u8_0 _) (Au h8 u8_0 _) (Au h8 u8_0 _)];simp only [B0,if_pos h16,zrx,Int.toNat_natCast];rfl
   ·have c1:decide (4*(i:Int)<64)=false:=by simp; omega
    rw [wrap_i64 (n:=(i:Int) - 2) (by omega) (by omega),wrap_i64 (n:=(i:Int) - 7) (by omega) (by omega),wrap_i64 (n:=(i:Int) - 15) (by omega) (by omega),wrap_i64 (n:=(i:Int) - 16) (by omega) (by omega)];have b2:bnd ((i:Int) - 2) 64=true:=by unfold bnd; simp; omega
    have b7:bnd ((i:Int) - 7) 64=true:=by unfold bnd; simp; omega
    have b15:bnd ((i:Int) - 15) 64=true:=by unfold bnd; simp; omega
    have b16:bnd ((i:Int) - 16) 64=true:=by unfold bnd; simp; omega
    have n2:((i:Int) - 2).toNat=i - 2:=by omega
    have n7:((i:Int) - 7).toNat=i - 7:=by omega
    have n15:((i:Int) - 15).toNat=i - 15:=by omega
    have n16:((i:Int) - 16).toNat=i - 16:=by omega
    simp only [hd,c1,hbn,b2,b7,b15,b16,n2,n7,n15,n16];rw [F303_eq R (Au hu Pw _),F304_eq R (Au hu Pw _)];simp only [B0,if_neg h16,planW,Int.toNat_natCast];rfl
  ·have:i=64:=by omega
   subst this;rfl
theorem F284_eq (R:Type) {blk:List Int} (hb:blk.length=64) (h8:AllU8 blk) (k:List Int→Option R):F284 R blk k=k (zee blk):=by
 simp only [F284,p284];exact zms R hb h8 _ FUEL 0 (List.replicate 64 0) (by omega) (by rw [Al]; omega) (by simp) (AllU32.rep 64)
theorem V9 (R:Type) {blk:List Int} (hb:blk.length=64) (h8:AllU8 blk) (x3:List Int) (k0:List Int→List Int→Option R):∀(m i:Nat) (l:List Int),i≤16→16 - i<m→l.length=64→AllU32 l→
  Mz m R (i:Int) blk x3 l k0=k0 x3 ((List.range' i (16 - i)).foldl (B0 blk) l)
 | 0,i,l,_,h,_,_=>by omega
 | m+1,i,l,h1,h2,hl,hu=>by
  simp only [Mz,zh4]
  by_cases hi:i<16
  ·have ok:=Gk h8 hl hu i
   have ih:=V9 R hb h8 x3 k0 m (i+1) (B0 blk l i) (by omega) (by omega) ok.1 ok.2;rw [Bu hi,List.foldl_cons,←ih];rw [wrap_i64 (n:=4*(i:Int)) (by omega) (by omega),wrap_i64 (n:=(i:Int)+1) (by omega) (by omega),wrap_i64 (n:=4*(i:Int)+1) (by omega) (by omega),wrap_i64 (n:=4*(i:Int)+2) (by omega) (by omega),wrap_i64 (n:=4*(i:Int)+3) (by omega) (by omega)];have hd:decide ((i:Int)<16)=true:=by simp; omega
   have hbn:bnd (i:Int) 64=true:=by unfold bnd; simp; omega
   have b0:bnd (4*(i:Int)) 64=true:=by unfold bnd; simp; omega
   have b1:bnd (4*(i:Int)+1) 64=true:=by unfold bnd; simp; omega
   have b2:bnd (4*(i:Int)+2) 64=true:=by unfold bnd; simp; omega
   have b3:bnd (4*(i:Int)+3) 64=true:=by unfold bnd; simp; omega
   have n0:(4*(i:Int)).toNat=4*i:=by omega
   have n1:(4*(i:Int)+1).toNat=4*i+1:=by omega
   have n2:(4*(i:Int)+2).toNat=4*i+2:=by omega
   have n3:(4*(i:Int)+3).toNat=4*i+3:=by omega
   simp only [hd,hbn,b0,b1,b2,b3,n0,n1,n2,n3,List.replicate,List.set];rw [F56_eq R (Au h8 u8_0 _) (Au h8 u8_0 _) (Au h8 u8_0 _) (Au h8 u8_0 _)];simp only [B0,if_pos hi,zrx,Int.toNat_natCast];rfl
  ·have:i=16:=by omega
   subst this;rfl
theorem V8 (R:Type) {blk:List Int} (h8:AllU8 blk) (x2:List Int) (k0:List Int→List Int→Option R):∀(m i:Nat) (l:List Int),16≤i→i≤64→64 - i<m→l.length=64→AllU32 l→
  J8 m R (i:Int) x2 l k0=k0 x2 ((List.range' i (64 - i)).foldl (B0 blk) l)
 | 0,i,l,_,_,h,_,_=>by omega
 | m+1,i,l,h16,h1,h2,hl,hu=>by
  simp only [J8,zh3]
  by_cases hi:i<64
  ·have ok:=Gk h8 hl hu i
   have ih:=V8 R h8 x2 k0 m (i+1) (B0 blk l i) (by omega) (by omega) (by omega) ok.1 ok.2;rw [Bu hi,List.foldl_cons,←ih];rw [wrap_i64 (n:=(i:Int)+1) (by omega) (by omega),wrap_i64 (n:=(i:Int) - 2) (by omega) (by omega),wrap_i64 (n:=(i:Int) - 7) (by omega) (by omega),wrap_i64 (n:=(i:Int) - 15) (by omega) (by omega),wrap_i64 (n:=(i:Int) - 16) (by omega) (by omega)];have hd:decide ((i:Int)<64)=true:=by simp; omega
   have hbn:bnd (i:Int) 64=true:=by unfold bnd; simp; omega
   have b2:bnd ((i:Int) - 2) 64=true:=by unfold bnd; simp; omega
   have b7:bnd ((i:Int) - 7) 64=true:=by unfold bnd; simp; omega
   have b15:bnd ((i:Int) - 15) 64=true:=by unfold bnd; simp; omega
   have b16:bnd ((i:Int) - 16) 64=true:=by unfold bnd; simp; omega
   have n2:((i:Int) - 2).toNat=i - 2:=by omega
   have n7:((i:Int) - 7).toNat=i - 7:=by omega
   have n15:((i:Int) - 15).toNat=i - 15:=by omega
   have n16:((i:Int) - 16).toNat=i - 16:=by omega
   simp only [hd,hbn,b2,b7,b15,b16,n2,n7,n15,n16];rw [F212_eq R (Au hu Pw _),F213_eq R (Au hu Pw _)];simp only [B0,if_neg (show ¬i<16 by omega),planW,Int.toNat_natCast];rfl
  ·have:i=64:=by omega
   subst this;rfl
theorem N5 {blk:List Int} (h8:AllU8 blk):∀(is:List Nat) (l:List Int),l.length=64→AllU32 l→(is.foldl (B0 blk) l).length=64∧AllU32 (is.foldl (B0 blk) l)
 | [],l,h1,h2=>⟨h1,h2⟩
 | i::is,l,h1,h2=>by
  have ok:=Gk h8 h1 h2 i;exact N5 h8 is _ ok.1 ok.2
theorem F165_eq (R:Type) {blk:List Int} (hb:blk.length=64) (h8:AllU8 blk) (k:List Int→Option R):F165 R blk k=k (zee blk):=by
 simp only [F165,p165];have g1:=V9 R hb h8 (List.replicate 64 0) (fun x1 x2=>J8 FUEL R 16 x1 x2 fun x3 x4=>k x4) FUEL 0 (List.replicate 64 0) (by omega) (by rw [Al]; omega) (by simp) (AllU32.rep 64);refine g1.trans ?_;have ok:=N5 h8 (List.range' 0 (16 - 0)) (List.replicate 64 0) (by simp) (AllU32.rep 64);have g2:=V8 R h8 (List.replicate 64 0) (fun _ x4=>k x4) FUEL 16 _ (by omega) (by omega) (by rw [Al]; omega) ok.1 ok.2;refine g2.trans ?_;rw [←List.foldl_append];rfl
def KS:List Int:=[1116352408,1899447441,3049323471,3921009573,961987163,1508970993,2453635748,2870763221,3624381080,310598401,607225278,1426881987,1925078388,2162078206,2614888103,3248222580,3835390401,4022224774,264347078,604807628,770255983,1249150122,1555081692,1996064986,2554220882,2821834349,2952996808,3210313671,3336571891,3584528711,113926993,338241895,666307205,773529912,1294757372,1396182291,1695183700,1986661051,2177026350,2456956037,2730485921,2820302411,3259730800,3345764771,3516065817,3600352804,4094571909,275423344,430227734,506948616,659060556,883997877,958139571,1322822218,1537002063,1747873779,1955562222,2024104815,2227730452,2361852424,2428436474,2756734187,3204031479,3329325298]
theorem F283_eq (R:Type) (k:List Int→Option R):F283 R k=k KS:=by kernel_rfl
theorem zpj (R:Type) (a:Int) (k:Int→Option R):F167 R a k=(match decide (a<0) with | true=>k 0 | false=>match decide (a>63) with | true=>k 0 | false=>match bnd a 64 with | true=>k (List.getD KS a.toNat 0) | false=>none):=by kernel_rfl
theorem F167_eq (R:Type) {i:Nat} (h:i<64) (k:Int→Option R):F167 R (i:Int) k=k (KS.getD i 0):=by
 rw [zpj];have h1:decide ((i:Int)<0)=false:=by simp
 have h2:decide ((i:Int)>63)=false:=by simp; omega
 have h3:bnd (i:Int) 64=true:=by unfold bnd; simp; omega
 simp only [h1,h2,h3,Int.toNat_natCast]
def Dn (plan s:List Int) (i:Nat):List Int:=Jk s (plan.getD i 0) (KS.getD i 0)
theorem N0 {s:List Int} (h:AllU32 s) (w c:Int):(Jk s w c).length=8∧AllU32 (Jk s w c):=by
 refine ⟨rfl,fun x hx=>?_⟩;have g:=fun i=>Au h Pw i
 simp only [Jk,List.mem_cons,List.not_mem_nil,or_false] at hx;rcases hx with rfl | rfl | rfl | rfl | rfl | rfl | rfl | rfl
 ·exact Jf _
 ·exact g 0
 ·exact g 1
 ·exact g 2
 ·exact Jf _
 ·exact g 4
 ·exact g 5
 ·exact g 6
theorem zws (R:Type) {s:List Int} (hl:s.length=8) (h:AllU32 s) (w c:Int) (k:List Int→Option R):F285 R s w c k=k (Jk s w c):=by
 obtain ⟨a0,a1,a2,a3,a4,a5,a6,a7,rfl⟩:=list8 hl;exact F285_eq R (h a0 (by simp)) (h a4 (by simp)) w c k
theorem V7 (R:Type) (plan:List Int) (x3 x4:List Int) (k0:List Int→List Int→List Int→Option R):∀(m i:Nat) (s:List Int),i≤64→64 - i<m→s.length=8→AllU32 s→
  My m R plan (i:Int) x3 x4 s KS k0=k0 x3 x4 ((List.range' i (64 - i)).foldl (Dn plan) s)
 | 0,i,s,_,h,_,_=>by omega
 | m+1,i,s,h1,h2,hl,hu=>by
  simp only [My,zhr]
  by_cases hi:i<64
  ·have ok:=N0 hu (plan.getD i 0) (KS.getD i 0)
   have ih:=V7 R plan x3 x4 k0 m (i+1) (Dn plan s i) (by omega) (by omega) ok.1 ok.2;rw [Bu hi,List.foldl_cons,←ih,wrap_i64 (n:=(i:Int)+1) (by omega) (by omega)];have hd:decide ((i:Int)<64)=true:=by simp; omega
   have hbn:bnd (i:Int) 64=true:=by unfold bnd; simp; omega
   simp only [hd,hbn,Int.toNat_natCast];rw [zws R hl hu];rfl
  ·have:i=64:=by omega
   subst this;rfl
theorem Wb (R:Type) (plan:List Int) (x2 x3:List Int) (k0:List Int→List Int→List Int→Option R):∀(m i:Nat) (s:List Int),i≤64→64 - i<m→s.length=8→AllU32 s→
  M1 m R (i:Int) x2 x3 plan s k0=k0 x2 x3 ((List.range' i (64 - i)).foldl (Dn plan) s)
 | 0,i,s,_,h,_,_=>by omega
 | m+1,i,s,h1,h2,hl,hu=>by
  simp only [M1,zh7]
  by_cases hi:i<64
  ·have ok:=N0 hu (plan.getD i 0) (KS.getD i 0)
   have ih:=Wb R plan x2 x3 k0 m (i+1) (Dn plan s i) (by omega) (by omega) ok.1 ok.2;rw [Bu hi,List.foldl_cons,←ih,wrap_i64 (n:=(i:Int)+1) (by omega) (by omega)];have hd:decide ((i:Int)<64)=true:=by simp; omega
   have hbn:bnd (i:Int) 64=true:=by unfold bnd; simp; omega
   simp only [hd,hbn,Int.toNat_natCast];rw [F167_eq R hi,F166_eq R (Au hu Pw _) (Au hu Pw _)];rfl
  ·have:i=64:=by omega
   subst this;rfl
def Fw (a l:List Int) (i:Nat):List Int:=l.set i (IntKind.u32.wrap (l.getD i 0+a.getD i 0))
theorem zfd {a l:List Int} (hl:l.length=8) (h:AllU32 l) (i:Nat):(Fw a l i).length=8∧AllU32 (Fw a l i):=⟨by simpa [Fw] using hl,h.set (Jf _)⟩
theorem V6 (R:Type) (a x3:List Int) (k0:List Int→List Int→Option R):∀(m i:Nat) (l:List Int),i≤8→8 - i<m→J7 m R (i:Int) a x3 l k0=k0 x3 ((List.range' i (8 - i)).foldl (Fw a) l)
 | 0,i,l,_,h=>by omega
 | m+1,i,l,h1,h2=>by
  simp only [J7,zhq]
  by_cases hi:i<8
  ·have ih:=V6 R a x3 k0 m (i+1) (Fw a l i) (by omega) (by omega)
   rw [Bu hi,List.foldl_cons,←ih,wrap_i64 (n:=(i:Int)+1) (by omega) (by omega)];have hd:decide ((i:Int)<8)=true:=by simp; omega
   have hbn:bnd (i:Int) 8=true:=by unfold bnd; simp; omega
   simp only [hd,hbn,Int.toNat_natCast];rfl
  ·have:i=8:=by omega
   subst this;rfl
theorem Wa (R:Type) (a x3:List Int) (k0:List Int→List Int→Option R):∀(m i:Nat) (l:List Int),i≤8→8 - i<m→J9 m R (i:Int) a x3 l k0=k0 x3 ((List.range' i (8 - i)).foldl (Fw a) l)
 | 0,i,l,_,h=>by omega
 | m+1,i,l,h1,h2=>by
  simp only [J9,zh6]
  by_cases hi:i<8
  ·have ih:=Wa R a x3 k0 m (i+1) (Fw a l i) (by omega) (by omega)
   rw [Bu hi,List.foldl_cons,←ih,wrap_i64 (n:=(i:Int)+1) (by omega) (by omega)];have hd:decide ((i:Int)<8)=true:=by simp; omega
   have hbn:bnd (i:Int) 8=true:=by unfold bnd; simp; omega
   simp only [hd,hbn,Int.toNat_natCast];rfl
  ·have:i=8:=by omega
   subst this;rfl
def Xc (st blk:List Int):List Int:=(List.range' 0 8).foldl (Fw st) ((List.range' 0 64).foldl (Dn (zee blk)) st)
theorem F258_eq (R:Type) {st blk:List Int} (hl:st.length=8) (hu:AllU32 st) (hb:blk.length=64) (h8:AllU8 blk) (k:List Int→Option R):F258 R st blk k=k (Xc st blk):=by
 simp only [F258,p258];rw [F283_eq,F284_eq R hb h8];refine (V7 R (zee blk) st (List.replicate 8 0) (fun x3 x4 x5=>J7 FUEL R 0 x3 x4 x5 fun x6 x7=>k x7) FUEL 0 st (by omega) (by rw [Al]; omega) hl hu).trans ?_;exact V6 R st (List.replicate 8 0) (fun _ x7=>k x7) FUEL 0 _ (by omega) (by rw [Al]; omega)
theorem F118_eq (R:Type) {st blk:List Int} (hl:st.length=8) (hu:AllU32 st) (hb:blk.length=64) (h8:AllU8 blk) (k:List Int→Option R):F118 R st blk k=k (Xc st blk):=by
 simp only [F118,p118];rw [F165_eq R hb h8];refine (Wb R (zee blk) st (List.replicate 8 0) (fun x3 x4 x5=>J9 FUEL R 0 x3 x4 x5 fun x6 x7=>k x7) FUEL 0 st (by omega) (by rw [Al]; omega) hl hu).trans ?_;exact Wa R st (List.replicate 8 0) (fun _ x7=>k x7) FUEL 0 _ (by omega) (by rw [Al]; omega)
theorem Jj (plan:List Int):∀(is:List Nat) (s:List Int),s.length=8→AllU32 s→(is.foldl (Dn plan) s).length=8∧AllU32 (is.foldl (Dn plan) s)
 | [],s,h1,h2=>⟨h1,h2⟩
 | i::is,s,h1,h2=>by
  have ok:=N0 h2 (plan.getD i 0) (KS.getD i 0);exact Jj plan is _ ok.1 ok.2
theorem Qp (a:List Int):∀(is:List Nat) (s:List Int),s.length=8→AllU32 s→(is.foldl (Fw a) s).length=8∧AllU32 (is.foldl (Fw a) s)
 | [],s,h1,h2=>⟨h1,h2⟩
 | i::is,s,h1,h2=>by
  have ok:=zfd (a:=a) h1 h2 i;exact Qp a is _ ok.1 ok.2
theorem Rg {st:List Int} (blk:List Int) (hl:st.length=8) (hu:AllU32 st):(Xc st blk).length=8∧AllU32 (Xc st blk):=by
 have h:=Jj (zee blk) (List.range' 0 64) st hl hu;exact Qp st _ _ h.1 h.2
def blkF:Nat→List Int→List (List Int)
 | 0,_=>[]
 | n+1,b=>if 64≤b.length then b.take 64::blkF n (b.drop 64) else []
def Rh:Nat→List Int→List Int
 | 0,b=>b
 | n+1,b=>if 64≤b.length then Rh n (b.drop 64) else b
def blkS (b:List Int):List (List Int):=blkF (b.length/64+1) b
def D6 (b:List Int):List Int:=Rh (b.length/64+1) b
theorem zdb:∀(n m:Nat) (b:List Int),b.length/64<n→b.length/64<m→blkF n b=blkF m b
 | 0,_,_,h,_=>by omega
 | _,0,_,_,h=>by omega
 | n+1,m+1,b,h1,h2=>by
  simp only [blkF]
  by_cases h:64≤b.length
  ·rw [if_pos h,if_pos h,zdb n m (b.drop 64) (by rw [List.length_drop]; omega) (by rw [List.length_drop]; omega)]
  ·rw [if_neg h,if_neg h]
theorem Tn:∀(n m:Nat) (b:List Int),b.length/64<n→b.length/64<m→Rh n b=Rh m b
 | 0,_,_,h,_=>by omega
 | _,0,_,_,h=>by omega
 | n+1,m+1,b,h1,h2=>by
  simp only [Rh]
  by_cases h:64≤b.length
  ·rw [if_pos h,if_pos h,Tn n m (b.drop 64) (by rw [List.length_drop]; omega) (by rw [List.length_drop]; omega)]
  ·rw [if_neg h,if_neg h]
theorem Ge {b:List Int} (h:64≤b.length):blkS b=b.take 64::blkS (b.drop 64):=by
 unfold blkS;rw [show blkF (b.length/64+1) b=b.take 64::blkF (b.length/64) (b.drop 64) by simp only [blkF,if_pos h]];rw [zdb (b.length/64) ((b.drop 64).length/64+1) (b.drop 64) (by rw [List.length_drop]; omega) (by omega)]
theorem Eo {b:List Int} (h:b.length<64):blkS b=[]:=by
 unfold blkS; simp only [blkF,if_neg (show ¬64≤b.length by omega)]
theorem Er {b:List Int} (h:64≤b.length):D6 b=D6 (b.drop 64):=by
 unfold D6;rw [show Rh (b.length/64+1) b=Rh (b.length/64) (b.drop 64) by simp only [Rh,if_pos h]];rw [Tn (b.length/64) ((b.drop 64).length/64+1) (b.drop 64) (by rw [List.length_drop]; omega) (by omega)]
theorem C4 {b:List Int} (h:b.length<64):D6 b=b:=by
 unfold D6; simp only [Rh,if_neg (show ¬64≤b.length by omega)]
theorem Ji:∀(n:Nat) (b:List Int),b.length≤n→(D6 b).length=b.length % 64∧(blkS b).length=b.length/64
 | 0,b,h=>by
  rw [C4 (by omega),Eo (by omega)];simp; omega
 | n+1,b,h=>by
  by_cases h6:64≤b.length
  ·have ih:=Ji n (b.drop 64) (by rw [List.length_drop]; omega)
   rw [Er h6,Ge h6,ih.1,List.length_cons,ih.2,List.length_drop];omega
  ·rw [C4 (by omega),Eo (by omega)]
   simp; omega
theorem K3:∀(n:Nat) (a b:List Int),a.length≤n→blkS (a++b)=blkS a++blkS (D6 a++b)∧D6 (a++b)=D6 (D6 a++b)
 | 0,a,b,h=>by
  rw [Eo (show a.length<64 by omega),C4 (show a.length<64 by omega)];exact ⟨rfl,rfl⟩
 | n+1,a,b,h=>by
  by_cases h6:64≤a.length
  ·have ih:=K3 n (a.drop 64) b (by rw [List.length_drop]; omega)
   have hl:64≤(a++b).length:=by rw [List.length_append]; omega
   rw [Ge hl,Ge h6,Er hl,Er h6,List.take_append_of_le_length h6,List.drop_append_of_le_length h6,ih.1,ih.2];exact ⟨rfl,rfl⟩
  ·rw [Eo (show a.length<64 by omega),C4 (show a.length<64 by omega)]
   exact ⟨rfl,rfl⟩
theorem zmw (R:Type) (k0:List Int→List (List Int)→Option R):∀(m:Nat) (b:List Int) (acc:List (List Int)),b.length/64<m→acc.length+b.length/64≤1000000000→b.length≤100000000000→
  Pe m R b acc k0=k0 (D6 b) (acc++blkS b)
 | 0,b,acc,h,_,_=>by omega
 | m+1,b,acc,h1,h2,h3=>by
  simp only [Pe,zhs]
  by_cases h6:64≤b.length
  ·have ih:=zmw R k0 m (b.drop 64) (acc++[b.take 64]) (by rw [List.length_drop]; omega) (by rw [List.length_drop,List.length_append]; simp; omega) (by rw [List.length_drop]; omega)
   have c1:decide ((b.length:Int)≥64)=true:=by simp; omega
   have c2:decide ((64:Int)≤(b.length:Int))=true:=by simp; omega
   have c3:decide (acc.length+[b.take 64].length≤2199023255552)=true:=by simp; omega
   have c4:decide (0≤(64:Int)∧(64:Int)≤(b.length:Int)∧(b.length:Int)≤(b.length:Int)∧(b.length:Int)≤(b.length:Int))=true:=by simp; omega
   have e1:List.take (Int.toNat ((b.length:Int) - 64)) (List.drop 64 b)=List.drop 64 b:=List.take_of_length_le (by rw [List.length_drop]; omega);simp only [c1,c2,c3,c4,e1];rw [ih,Ge h6,Er h6,List.append_assoc];rfl
  ·have c1:decide ((b.length:Int)≥64)=false:=by simp; omega
   simp only [c1];rw [Eo (by omega),C4 (by omega),List.append_nil]
theorem F257_eq (R:Type) {b:List Int} (h:b.length≤1000000000) (k:List (List Int)→List Int→Option R):F257 R b k=k (blkS b) (D6 b):=by
 simp only [F257,p257];refine (zmw R (fun x1 x2=>k x2 x1) FUEL b [] (by rw [Al]; omega) (by simp; omega) (by omega)).trans ?_;rw [List.nil_append]
abbrev Wr:=List Int×List Int×Int×Unit
def Jx (st:List Int) (bs:List (List Int)):List Int:=bs.foldl Xc st
theorem Oq:∀(n:Nat) (b:List Int),b.length≤n→AllU8 b→(∀x∈blkS b,x.length=64∧AllU8 x)∧AllU8 (D6 b)
 | 0,b,h,h8=>by
  rw [Eo (by omega),C4 (by omega)];exact ⟨fun x hx=>(by cases hx),h8⟩
 | n+1,b,h,h8=>by
  by_cases h6:64≤b.length
  ·have ih:=Oq n (b.drop 64) (by rw [List.length_drop]; omega) (fun x hx=>h8 x (List.mem_of_mem_drop hx))
   rw [Ge h6,Er h6];refine ⟨fun x hx=>?_,ih.2⟩;rcases List.mem_cons.1 hx with rfl | hx
   ·exact ⟨by rw [List.length_take]; omega,fun y hy=>h8 y (List.mem_of_mem_take hy)⟩
   ·exact ih.1 x hx
  ·rw [Eo (by omega),C4 (by omega)]
   exact ⟨fun x hx=>(by cases hx),h8⟩
theorem Jw:∀(bs:List (List Int)) {st:List Int},st.length=8→AllU32 st→(Jx st bs).length=8∧AllU32 (Jx st bs)
 | [],st,h1,h2=>⟨h1,h2⟩
 | b::bs,st,h1,h2=>by
  have ok:=Rg b h1 h2;exact Jw bs ok.1 ok.2
theorem zm2 (R:Type) (rest:List Int) (bs:List (List Int)) (hb:∀x∈bs,x.length=64∧AllU8 x) (hn:bs.length≤1000000000) (u:List Int×Int×Unit) (k0:List Int→(Wr×Unit)→Option R):
  ∀(m i:Nat) (st:List Int),i≤bs.length→bs.length - i<m→st.length=8→AllU32 st→Pl m R rest bs (bs.length:Int) (i:Int) ((st,u),()) k0=k0 rest ((Jx st (bs.drop i),u),())
 | 0,i,st,_,h,_,_=>by omega
 | m+1,i,st,h1,h2,hl,hu=>by
  simp only [Pl,zh0]
  by_cases hi:i<bs.length
  ·have hd:decide ((i:Int)<(bs.length:Int))=true:=by simpa using hi
   have hbn:bnd (i:Int) (bs.length:Int)=true:=by unfold bnd; simp; omega
   have hx:=hb bs[i] (List.getElem_mem hi);have hg:List.getD bs i (List.replicate 64 0)=bs[i]:=by simp [hi]
   simp only [hd,hbn,Int.toNat_natCast,hg];rw [F258_eq R hl hu hx.1 hx.2,wrap_i64 (by omega) (by omega)];have ok:=Rg bs[i] hl hu;have ih:=zm2 R rest bs hb hn u k0 m (i+1) (Xc st bs[i]) (by omega) (by omega) ok.1 ok.2;rw [List.drop_eq_getElem_cons hi];exact ih
  ·have:i=bs.length:=by omega
   subst this;have hd:decide ((bs.length:Int)<(bs.length:Int))=false:=by simp
   simp only [hd];rw [List.drop_of_length_le (Nat.le_refl _)];rfl
theorem zpe (R:Type) {st:List Int} (u:List Int×Int×Unit) {b:List Int} (hl:st.length=8) (hu:AllU32 st) (h8:AllU8 b) (hn:b.length≤1000000000) (k:List Int→(Wr×Unit)→Option R):
  F210 R ((st,u),()) b k=k (D6 b) ((Jx st (blkS b),u),()):=by
 simp only [F210,p210];rw [F257_eq R hn];have ok:=Oq b.length b (Nat.le_refl _) h8;have hlen:=(Ji b.length b (Nat.le_refl _)).2;exact zm2 R (D6 b) (blkS b) ok.1 (by omega) u (fun x4 x5=>k x4 x5) FUEL 0 st (by omega) (by rw [Al]; omega) hl hu
theorem F207_eq (R:Type) {st rest part:List Int} {n:Nat} (hl:st.length=8) (hu:AllU32 st) (hr:AllU8 rest) (hp:AllU8 part) (hlen:rest.length+part.length≤1000000000) (hn:n+part.length≤1000000000) (k:(Wr×Unit)→Option R):
  F207 R ((st,rest,(n:Int),()),()) part k=k ((Jx st (blkS (rest++part)),D6 (rest++part),((n+part.length:Nat):Int),()),()):=by
 simp only [F207,p207,F255];rw [Aj (n:=(part.length:Int)) (by omega) (by omega),Aj (by omega) (by omega)];have c1:decide (([]:List Int).length+rest.length≤140737488355328)=true:=by simp; omega
 have c2:decide (rest.length+part.length≤140737488355328)=true:=by simp; omega
 simp only [c1,c2];have h8:AllU8 (rest++part):=fun x hx=>by
  rcases List.mem_append.1 hx with h | h
  ·exact hr x h
  ·exact hp x h
 rw [zpe R _ hl hu h8 (by rw [List.length_append]; omega)]
 congr 1
def wrS (st m:List Int):Wr:=(Jx st (blkS m),D6 m,(m.length:Int),())
theorem AllU8.append {a b:List Int} (ha:AllU8 a) (hb:AllU8 b):AllU8 (a++b):=fun x hx=>by
 rcases List.mem_append.1 hx with h | h
 ·exact ha x h
 ·exact hb x h
theorem zd4 (st m p:List Int):Jx (Jx st (blkS m)) (blkS (D6 m++p))=Jx st (blkS (m++p))∧D6 (D6 m++p)=D6 (m++p):=by
 obtain ⟨h1,h2⟩:=K3 m.length m p (Nat.le_refl _);rw [h1,h2];refine ⟨?_,rfl⟩;unfold Jx;rw [List.foldl_append]
theorem zm6 (R:Type) {st:List Int} (hl:st.length=8) (hu:AllU32 st) (x4:Wr) (k0:Int→Wr→Option R) (k1:Wr→(Wr×Unit)→Option R):∀(n:Nat) (ps done:List (List Int)) (m:List Int),m=done.flatten→AllU8 m→(∀p∈ps,AllU8 p)→
  m.length+ps.flatten.length≤500000000→(done++ps).length≤1000000000→ps.length<n→M0 n R (done++ps) ((done++ps).length:Int) (done.length:Int) x4 (wrS st m,()) k0 k1=k1 x4 (wrS st (m++ps.flatten),())
 | 0,ps,done,m,_,_,_,_,_,h=>by omega
 | n+1,[],done,m,hm,h8,hps,hlen,hnum,h=>by
  simp only [M0,zcl];have hd:decide ((done.length:Int)<((done++[]).length:Int))=false:=by simp
  simp only [hd];simp
 | n+1,p::ps,done,m,hm,h8,hps,hlen,hnum,h=>by
  simp only [M0,zcl];have hlt:done.length<(done++p::ps).length:=by simp
  have hd:decide ((done.length:Int)<((done++p::ps).length:Int))=true:=by simp; omega
  have hbn:bnd (done.length:Int) ((done++p::ps).length:Int)=true:=by unfold bnd; simp; omega
  have hg:List.getD (done++p::ps) done.length []=p:=by simp
  have hp8:=hps p (by simp);have hfl:(p::ps).flatten=p++ps.flatten:=by simp
  rw [hfl,List.length_append] at hlen;have ok:=Jw (blkS m) hl hu;have ok2:=Oq m.length m (Nat.le_refl _) h8;have tl:=(Ji m.length m (Nat.le_refl _)).1;simp only [hd,hbn,Int.toNat_natCast,hg];unfold wrS;rw [F207_eq R ok.1 ok.2 ok2.2 hp8 (by omega) (by omega)];obtain ⟨a1,a2⟩:=zd4 st m p;rw [a1,a2,←List.length_append];have hb:decide (((m++p).length:Int)≥2305843009213693952)=false:=by simp; omega
  simp only [hb];rw [wrap_i64 (by omega) (by simp at hnum; omega)];have ih:=zm6 R hl hu x4 k0 k1 n ps (done++[p]) (m++p) (by rw [hm]; simp) (h8.append hp8) (fun q hq=>hps q (by simp [hq])) (by rw [List.length_append]; omega) (by simpa using hnum) (by simp at h; omega);unfold wrS at ih;rw [hfl,←List.append_assoc];have e1:done++[p]++ps=done++p::ps:=by simp
  have e2:(((done++[p]).length:Nat):Int)=(done.length:Int)+1:=by simp
  rw [e1,e2] at ih;exact ih
theorem F162_eq (R:Type) {st:List Int} (hl:st.length=8) (hu:AllU32 st) {ps:List (List Int)} (h8:∀p∈ps,AllU8 p) (hlen:ps.flatten.length≤500000000) (hnum:ps.length≤1000000000) (k:Wr→Int→Option R):
  F162 R (st,[],(0:Int),()) ps k=k (wrS st ps.flatten) 0:=by
 have hr:F206 R (st,[],(0:Int),())=fun k=>k true:=by
  funext k
  simp only [F206,p206];rfl
 simp only [F162,p162];rw [hr];have:=zm6 R hl hu (List.replicate 8 0,[],0,()) (fun x3 x4=>k x4 x3) (fun _ x6=>k x6.1 0) FUEL ps [] [] rfl (fun x hx=>by cases hx) h8 (by simpa using hlen) (by simpa using hnum) (by rw [Al]; omega);rw [List.nil_append] at this;refine Eq.trans ?_ this;unfold wrS;rw [Eo (by simp),C4 (by simp)];rfl
def putS (x:Int):List Int:=[x/72057594037927936 % 256,x/281474976710656 % 256,x/1099511627776 % 256,x/4294967296 % 256,x/16777216 % 256,x/65536 % 256,x/256 % 256,x % 256]
theorem shr64 {x:Int} (r:Nat) (hr:r≤64):ishr .u64 x (r:Int)=x/2^r:=by
 unfold ishr;rw [show IntKind.u64.bits=64 from rfl,show ((r:Int).toNat)=r by simp,Nat.min_eq_left hr,Int.fdiv_eq_ediv_of_nonneg _ (by have:=two_pow_pos r; omega)]
theorem zm8 (R:Type) (x:Int) (k0:List Int→Option R):∀(m i:Nat) (l:List Int),i≤8→8 - i<m→Po m R x (i:Int) l k0=k0 ((List.range' i (8 - i)).foldl (fun l i=>l.set i (x/2^(8*(7 - i)) % 256)) l)
 | 0,i,l,_,h=>by omega
 | m+1,i,l,h1,h2=>by
  simp only [Po,zh9]
  by_cases hi:i<8
  ·have ih:=zm8 R x k0 m (i+1) (l.set i (x/2^(8*(7 - i)) % 256)) (by omega) (by omega)
   rw [Bu hi,List.foldl_cons,←ih];have hd:decide ((i:Int)<8)=true:=by simp; omega
   have hbn:bnd (i:Int) 8=true:=by unfold bnd; simp; omega
   rw [wrap_i64 (n:=7 - (i:Int)) (by omega) (by omega),wrap_i64 (n:=8*(7 - (i:Int))) (by omega) (by omega),Aj (n:=8*(7 - (i:Int))) (by omega) (by omega),wrap_i64 (n:=(i:Int)+1) (by omega) (by omega)];have e1:8*(7 - (i:Int))=((8*(7 - i):Nat):Int):=by omega
   have hp:decide ((0:Int)≤((8*(7 - i):Nat):Int))=true:=decide_eq_true (by omega);rw [e1,shr64 _ (by omega),Cv];simp only [hd,hbn,hp,Int.toNat_natCast];rfl
  ·have:i=8:=by omega
   subst this;rfl
theorem Pt (R:Type) (x:Int) (k:List Int→Option R):F115 R x k=k (putS x):=by
 simp only [F115,p115];refine (zm8 R x (fun x1=>k x1) FUEL 0 (List.replicate 8 0) (by omega) (by rw [Al]; omega)).trans ?_
 congr 1
 simp [List.range'_succ,putS,List.replicate]
theorem zx7 (R:Type) {x:Int} (hx:0≤x∧x<18446744073709551616) (x3:List Int) (k0:List Int→List Int→Option R):∀(i m:Nat) (l:List Int),i≤8→i<m→V2 m R (x/2^(8*(8 - i))) ((i:Int) - 1) x3 l k0=k0 x3 ((List.range i).reverse.foldl (fun l j=>l.set j (x/2^(8*(7 - j)) % 256)) l)
 | i,0,l,_,h=>by omega
 | 0,m+1,l,h1,h2=>by
  simp only [V2,zso];have hd:decide (((0:Nat):Int) - 1≥0)=false:=by simp
  simp only [hd];rfl
 | i+1,m+1,l,h1,h2=>by
  simp only [V2,zso];have ih:=zx7 R hx x3 k0 i m (l.set i (x/2^(8*(7 - i)) % 256)) (by omega) (by omega);rw [List.range_succ,List.reverse_append,List.reverse_singleton,List.singleton_append,List.foldl_cons,←ih];have e0:(((i+1:Nat):Int) - 1)=(i:Int):=by omega
  rw [e0];have hd:decide ((i:Int)≥0)=true:=by simp
  have hbn:bnd (i:Int) 8=true:=by unfold bnd; simp; omega
  have e1:8 - (i+1)=7 - i:=by omega
  rw [e1];have hp:=two_pow_pos (8*(7 - i));have hge:0≤x/2^(8*(7 - i)):=Int.ediv_nonneg hx.1 (by omega);have hle:x/2^(8*(7 - i))≤x:=Int.ediv_le_self _ hx.1;have hstep:x/2^(8*(8 - i))=x/2^(8*(7 - i))/256:=by
   rw [show 8*(8 - i)=8*(7 - i)+8 by omega,Int.pow_add,←Int.ediv_ediv_of_nonneg (by omega)];rfl
  rw [hstep];generalize x/2^(8*(7 - i))=q at*;rw [Int.tmod_eq_emod_of_nonneg hge,Int.tdiv_eq_ediv_of_nonneg hge,zf9 (by omega) (by omega),Aj (by omega) (by omega),wrap_i64 (by omega) (by omega)];simp only [hd,hbn,Int.toNat_natCast]
theorem zze (R:Type) {x:Int} (hx:0≤x∧x<18446744073709551616) (k:List Int→Option R):F54 R x k=k (putS x):=by
 simp only [F54,p54];have:=zx7 R hx (List.replicate 8 0) (fun _ x2=>k x2) 8 FUEL (List.replicate 8 0) (by omega) (by rw [Al]; omega);rw [show x/2^(8*(8 - 8))=x by simp] at this;refine Eq.trans this ?_
 congr 1
 simp [List.range_succ,putS,List.replicate]
def Co (n:Nat):Nat:=(119 - n % 64) % 64
def padT (rest:List Int) (n:Nat):List Int:=rest++128::(List.replicate (Co n) 0++putS (8*(n:Int)))
theorem We (R:Type) (x:Int) (k0:Int→List Int→Option R):∀(z m:Nat) (l:List Int),z<64→(l.length+z) % 64=56→(∀y,y<z→(l.length+y) % 64≠56)→z<m→l.length+z≤100000→Kb m R x l k0=k0 x (l++List.replicate z 0)
 | z,0,l,_,_,_,h,_=>by omega
 | 0,m+1,l,h1,h2,_,h3,h4=>by
  simp only [Kb,zcm];have hm:Int.tmod (l.length:Int) 64=56:=by rw [Int.tmod_eq_emod_of_nonneg (by omega)]; omega
  rw [hm];have:((56:Int) !=56)=false:=by simp
  simp only [this];simp
 | z+1,m+1,l,h1,h2,h5,h3,h4=>by
  simp only [Kb,zcm];have hne:(Int.tmod (l.length:Int) 64 !=56)=true:=by
   rw [Int.tmod_eq_emod_of_nonneg (by omega)];have:=h5 0 (by omega);simp; omega
  have hc:decide (l.length+[(0:Int)].length≤140737488355328)=true:=by simp; omega
  have ih:=We R x k0 z m (l++[0]) (by omega) (by rw [List.length_append]; simp; omega) (fun y hy=>by rw [List.length_append]; have:=h5 (y+1) (by omega); simp; omega) (by omega) (by rw [List.length_append]; simp; omega);simp only [hne,hc];rw [ih,List.append_assoc];rfl
theorem Wc (R:Type) (ds:List Int) (k0:List Int→Option R):∀(m i:Nat) (l:List Int),i≤8→8 - i<m→ds.length=8→l.length≤100000+i→Ka m R (i:Int) l ds k0=k0 (l++ds.drop i)
 | 0,i,l,_,h,_,_=>by omega
 | m+1,i,l,h1,h2,hd8,hl=>by
  simp only [Ka,zh8]
  by_cases hi:i<8
  ·have hd:decide ((i:Int)<8)=true:=by simp; omega
   have hbn:bnd (i:Int) 8=true:=by unfold bnd; simp; omega
   have hg:List.getD ds i 0=ds[i]:=by simp [show i<ds.length by omega]
   have hc:decide (l.length+[ds[i]].length≤140737488355328)=true:=by simp; omega
   have ih:=Wc R ds k0 m (i+1) (l++[ds[i]]) (by omega) (by omega) hd8 (by rw [List.length_append]; simp; omega);simp only [hd,hbn,Int.toNat_natCast,hg,hc];rw [wrap_i64 (by omega) (by omega),List.drop_eq_getElem_cons (show i<ds.length by omega)];rw [List.append_assoc] at ih;exact ih
  ·have:i=8:=by omega
   subst this;have hd:decide (((8:Nat):Int)<8)=false:=by simp
   simp only [hd];rw [List.drop_of_length_le (by omega),List.append_nil]
theorem F117_eq (R:Type) {rest:List Int} {n:Nat} (hr:rest.length=n % 64) (hn:n≤1000000000) (k:List Int→Bool→Option R):F117 R rest (n:Int) k=k (padT rest n) true:=by
 simp only [F117,p117];have c0:decide ((n:Int)≥2305843009213693952)=false:=by simp; omega
 have c1:(IntKind.u64.wrap (rest.length:Int) !=Int.tmod (n:Int) 64)=false:=by
  rw [Aj (by omega) (by omega),Int.tmod_eq_emod_of_nonneg (by omega)];simp; omega
 have c2:decide (([]:List Int).length+rest.length≤140737488355328)=true:=by simp; omega
 have c3:decide (([]++rest).length+[(128:Int)].length≤140737488355328)=true:=by simp; omega
 simp only [c0,c1,c2,c3];have g:=We R (n:Int) (fun x10 x11=>F54 R (IntKind.u64.wrap (8*x10)) fun y13=>Ka FUEL R 0 x11 y13 fun x14=>k x14 true) (Co n) FUEL ([]++rest++[128]) (by unfold Co; omega) (by simp; unfold Co; omega) (fun y hy=>by simp; unfold Co at hy; omega) (by rw [Al]; unfold Co; omega) (by simp; unfold Co; omega);refine g.trans ?_;rw [Aj (by omega) (by omega),zze R (by omega)];refine (Wc R (putS (8*(n:Int))) (fun x14=>k x14 true) FUEL 0 _ (by omega) (by rw [Al]; omega) rfl (by simp; unfold Co; omega)).trans ?_
 congr 1
 simp [padT]
theorem F256_eq (R:Type) {n:Nat} (hn:n≤1000000000) (k:Int→Option R):F256 R (n:Int) k=k (((n+72)/64:Nat):Int):=by
 simp only [F256,p256];have c0:decide ((n:Int)≥2305843009213693952)=false:=by simp; omega
 simp only [c0];rw [Aj (n:=(n:Int)+8) (by omega) (by omega),Aj (n:=(n:Int)+8+64) (by omega) (by omega),Int.tdiv_eq_ediv_of_nonneg (by omega),Aj (by omega) (by omega)]
 congr 1
theorem lay_mid {a b c xs:List Int} (h:xs.length=b.length):lay (a++b++c) a.length xs=a++xs++c:=by
 unfold lay;have e1:List.take a.length (a++b++c)=a:=by rw [List.append_assoc,List.take_left]
 have e2:List.drop (a.length+xs.length) (a++b++c)=c:=by
  rw [h,show a.length+b.length=(a++b).length by simp,List.drop_left]
 rw [e1,e2]
theorem F209_eq (R:Type) {rest:List Int} {n:Nat} (hr:rest.length=n % 64) (hn:n≤1000000000) (k:List Int→Bool→Option R):F209 R rest (n:Int) k=k (padT rest n) true:=by
 simp only [F209,p209];have c0:decide ((n:Int)≥2305843009213693952)=false:=by simp; omega
 have c1:(IntKind.u64.wrap (rest.length:Int) !=Int.tmod (n:Int) 64)=false:=by
  rw [Aj (by omega) (by omega),Int.tmod_eq_emod_of_nonneg (by omega)];simp; omega
 simp only [c0,c1];rw [F256_eq R hn,Int.tdiv_eq_ediv_of_nonneg (by omega),Aj (n:=(n:Int)/64) (by omega) (by omega),Aj (by omega) (by omega),wrap_i64 (n:=(((n+72)/64:Nat):Int) - (n:Int)/64) (by omega) (by omega),wrap_i64 (n:=_*64) (by omega) (by omega)];obtain ⟨sz,hsz⟩:∃sz:Nat,((((n+72)/64:Nat):Int) - (n:Int)/64)*64=sz:=⟨((n+72)/64 - n/64)*64,by omega⟩
 have hz:sz=rest.length+1+Co n+8:=by unfold Co; omega
 rw [hsz];have l1:lay (List.replicate sz (0:Int)) 0 (List.take (List.replicate sz (0:Int)).length rest)=rest++List.replicate (1+Co n+8) 0:=by
  unfold lay;rw [List.take_of_length_le (l:=rest) (by simp; omega)];simp;omega
 have l2:List.set (rest++List.replicate (1+Co n+8) 0) rest.length 128=(rest++128::List.replicate (Co n) 0)++List.replicate 8 0++[]:=by
  rw [List.set_append_right _ _ (Nat.le_refl _),Nat.sub_self,show 1+Co n+8=(Co n+8)+1 by omega,List.replicate_succ,List.set_cons_zero,←List.replicate_append_replicate];simp
 have sh:ishl .u64 (n:Int) 3=8*(n:Int):=by
  unfold ishl;rw [show (2:Int)^(min (3:Int).toNat IntKind.u64.bits)=8 by decide,Aj (by omega) (by omega)];omega
 have hl3:((rest++128::List.replicate (Co n) 0)++List.replicate 8 (0:Int)++[]).length=sz:=by simp; omega
 have d1:decide (0≤(sz:Int)∧(sz:Int)≤(sz:Int)∧(sz:Int)≤140737488355328)=true:=decide_eq_true (by omega);have d2:bnd (rest.length:Int) ((rest++List.replicate (1+Co n+8) (0:Int)).length:Int)=true:=by unfold bnd; simp; omega
 have d3:decide (0≤(sz:Int) - 8∧(sz:Int) - 8≤(sz:Int)∧(sz:Int)≤(sz:Int)∧(sz:Int)≤(sz:Int))=true:=decide_eq_true (by omega);have e8:((sz:Int) - 8).toNat=(rest++128::List.replicate (Co n) 0).length:=by simp; omega
 have e9:List.take ((sz:Int) - ((sz:Int) - 8)).toNat (List.take 8 (List.drop 0 (putS (8*(n:Int)))))=putS (8*(n:Int)):=by
  rw [show ((sz:Int) - ((sz:Int) - 8)).toNat=8 by omega]; rfl
 simp only [d1,Int.toNat_natCast,l1,d2,l2,sh];rw [Pt,wrap_i64 (by omega) (by omega)];simp only [hl3,d3,e9,e8];rw [lay_mid (by rfl)]
 congr 1
 simp [padT]
def B3 (a:Int):List Int:=[a/16777216 % 256,a/65536 % 256,a/256 % 256,a % 256]
theorem zbj (R:Type) {a:Int} (ha:U32 a) (k:List Int→Option R):F218 R a k=k (B3 a):=by
 have e24:ishr .u32 a 24=a/16777216:=zcb ha (r:=24) (by omega);have e16:ishr .u32 a 16=a/65536:=zcb ha (r:=16) (by omega);have e8:ishr .u32 a 8=a/256:=zcb ha (r:=8) (by omega);simp only [F218,p218,e24,e16,e8,Cv];rfl
theorem F70_eq (R:Type) {a:Int} (ha:U32 a) (k:List Int→Option R):F70 R a k=k (B3 a):=by
 have h:=ha;unfold U32 at h;simp only [F70,p70];rw [Int.tdiv_eq_ediv_of_nonneg h.1,Int.tdiv_eq_ediv_of_nonneg h.1,Int.tdiv_eq_ediv_of_nonneg h.1,Cj (n:=a/16777216) (by omega) (by omega),Cj (n:=a/65536) (by omega) (by omega),Cj (n:=a/256) (by omega) (by omega)];rw [Int.tmod_eq_emod_of_nonneg (a:=a/65536) (by omega),Int.tmod_eq_emod_of_nonneg (a:=a/256) (by omega),Int.tmod_eq_emod_of_nonneg h.1];simp only [Cv,Int.emod_emod];rfl
theorem zx2 (R:Type) (bs:List (List Int)) (hb:∀x∈bs,x.length=64∧AllU8 x) (hn:bs.length≤1000000000) (x4:List Int) (k0:List Int→List Int→Option R):
  ∀(m i:Nat) (st:List Int),i≤bs.length→bs.length - i<m→st.length=8→AllU32 st→Zv m R bs (i:Int) st x4 k0=k0 (Jx st (bs.drop i)) x4
 | 0,i,st,_,h,_,_=>by omega
 | m+1,i,st,h1,h2,hl,hu=>by
  simp only [Zv,p84_2]
  by_cases hi:i<bs.length
  ·have hd:decide ((i:Int)<(bs.length:Int))=true:=by simpa using hi
   have hbn:bnd (i:Int) (bs.length:Int)=true:=by unfold bnd; simp; omega
   have hx:=hb bs[i] (List.getElem_mem hi);have hg:List.getD bs i (List.replicate 64 0)=bs[i]:=by simp [hi]
   simp only [hd,hbn,Int.toNat_natCast,hg];rw [F118_eq R hl hu hx.1 hx.2,wrap_i64 (by omega) (by omega)];have ok:=Rg bs[i] hl hu;have ih:=zx2 R bs hb hn x4 k0 m (i+1) (Xc st bs[i]) (by omega) (by omega) ok.1 ok.2;rw [List.drop_eq_getElem_cons hi];exact ih
  ·have:i=bs.length:=by omega
   subst this;have hd:decide ((bs.length:Int)<(bs.length:Int))=false:=by simp
   simp only [hd];rw [List.drop_of_length_le (Nat.le_refl _)];rfl
theorem F84_eq (R:Type) {st:List Int} {bs:List (List Int)} (hl:st.length=8) (hu:AllU32 st) (hb:∀x∈bs,x.length=64∧AllU8 x) (hn:bs.length≤1000000000) (k:List Int→Option R):F84 R st bs k=k (Jx st bs):=by
 simp only [F84,p84];exact zx2 R bs hb hn (List.replicate 8 0) (fun x1 _=>k x1) FUEL 0 st (by omega) (by rw [Al]; omega) hl hu
def H0:List Int:=[1779033703,3144134277,1013904242,2773480762,1359893119,2600822924,528734635,1541459225]
theorem F85_eq (R:Type) (k:List Int→Option R):F85 R k=k H0:=by kernel_rfl
theorem F163_eq (R:Type) (k:Wr→Option R):F163 R k=k (H0,[],0,()):=by kernel_rfl
theorem Vx:H0.length=8∧AllU32 H0:=⟨rfl,fun x hx=>by
 simp only [H0,List.mem_cons,List.not_mem_nil,or_false] at hx;unfold U32;omega⟩
def Fu (st l:List Int) (i:Nat):List Int:=lay l (4*i) (B3 (st.getD i 0))
theorem zjg {l xs:List Int} {lo:Nat} (h:lo+xs.length≤l.length):(lay l lo xs).length=l.length:=by
 unfold lay; simp; omega
theorem zm1 (R:Type) {st:List Int} (hu:AllU32 st) (w:Wr×Unit) (k0:(Wr×Unit)→List Int→Option R):∀(m i:Nat) (l:List Int),i≤8→8 - i<m→Pk m R st (i:Int) w l k0=k0 w ((List.range' i (8 - i)).foldl (Fu st) l)
 | 0,i,l,_,h=>by omega
 | m+1,i,l,h1,h2=>by
  simp only [Pk,zhz]
  by_cases hi:i<8
  ·have ih:=zm1 R hu w k0 m (i+1) (Fu st l i) (by omega) (by omega)
   rw [Bu hi,List.foldl_cons,←ih];have hd:decide ((i:Int)<8)=true:=by simp; omega
   have hbn:bnd (i:Int) 8=true:=by unfold bnd; simp; omega
   rw [wrap_i64 (n:=4*(i:Int)) (by omega) (by omega),wrap_i64 (n:=(i:Int)+1) (by omega) (by omega)];have c:decide (0≤4*(i:Int)∧4*(i:Int)≤32∧(32:Int)≤32)=true:=decide_eq_true (by omega);have e1:(4*(i:Int)).toNat=4*i:=by omega
   have e2:∀a,List.take (Int.toNat (32 - 4*(i:Int))) (List.take 4 (List.drop 0 (B3 a)))=B3 a:=fun a=>by
    rw [List.take_of_length_le (l:=List.take 4 (List.drop 0 (B3 a))) (by simp [B3]; omega)];rfl
   simp only [hd,hbn,c,Int.toNat_natCast];rw [zbj R (Au hu Pw _)];simp only [c,e1,e2];rfl
  ·have:i=8:=by omega
   subst this;rfl
theorem zdo (R:Type) {b:List Int} {o:Nat} (ho:o+64≤b.length) (hb:b.length≤1000000000) (acc:List (List Int)) (k0:List Int→Int→List (List Int)→List Int→Option R):∀(m i:Nat),i≤64→64 - i<m→
  Vz m R b (o:Int) (i:Int) acc ((b.drop o).take i++List.replicate (64 - i) 0) k0=k0 b (o:Int) acc ((b.drop o).take 64)
 | 0,i,_,h=>by omega
 | m+1,i,h1,h2=>by
  simp only [Vz,p81_6]
  by_cases hi:i<64
  ·have ih:=zdo R ho hb acc k0 m (i+1) (by omega) (by omega)
   have hd:decide ((i:Int)<64)=true:=by simp; omega
   have hbn:bnd (i:Int) 64=true:=by unfold bnd; simp; omega
   have hb2:bnd ((o:Int)+(i:Int)) (b.length:Int)=true:=by unfold bnd; simp; omega
   have e1:((o:Int)+(i:Int)).toNat=o+i:=by omega
   have hl:((b.drop o).take i).length=i:=by rw [List.length_take,List.length_drop]; omega
   have hs:List.set ((b.drop o).take i++List.replicate (64 - i) 0) i (List.getD b (o+i) 0)=(b.drop o).take (i+1)++List.replicate (64 - (i+1)) 0:=by
    rw [List.set_append_right _ _ (by omega),hl,Nat.sub_self,show 64 - i=(64 - (i+1))+1 by omega,List.replicate_succ,List.set_cons_zero];rw [List.take_succ_eq_append_getElem (by rw [List.length_drop]; omega),List.append_assoc];simp [show o+i<b.length by omega]
   rw [wrap_i64 (n:=(o:Int)+(i:Int)) (by omega) (by omega),wrap_i64 (n:=(i:Int)+1) (by omega) (by omega)];simp only [hd,hbn,hb2,e1,Int.toNat_natCast,hs];exact ih
  ·have:i=64:=by omega
   subst this;have hd:decide (((64:Nat):Int)<64)=false:=by simp
   simp only [hd];simp
theorem zdp (R:Type) {b:List Int} (hb:b.length≤1000000000) (k0:List Int→Int→List (List Int)→Option R):∀(m o:Nat) (acc:List (List Int)),o≤b.length→(b.length - o)/64<m→acc.length+(b.length - o)/64≤1000000000→
  ∃o':Nat,o'≤b.length∧b.drop o'=D6 (b.drop o)∧Su m R b (o:Int) acc k0=k0 b (o':Int) (acc++blkS (b.drop o))
 | 0,o,acc,_,h,_=>by omega
 | m+1,o,acc,h0,h1,h2=>by
  simp only [Su,p81_3];rw [wrap_i64 (n:=(o:Int)+64) (by omega) (by omega)]
  by_cases hi:o+64≤b.length
  ·have hd:decide ((o:Int)+64≤(b.length:Int))=true:=by simp; omega
   obtain ⟨o',g1,g2,g3⟩:=zdp R hb k0 m (o+64) (acc++[(b.drop o).take 64]) (by omega) (by omega) (by rw [List.length_append]; simp; omega);have hl:64≤(b.drop o).length:=by rw [List.length_drop]; omega
   refine ⟨o',g1,?_,?_⟩
   ·rw [g2,Er hl,List.drop_drop]
   ·have g:=zdo R hi hb acc (fun x7 x8 x9 x10=>match decide (x9.length+[x10].length≤2199023255552) with | true=>Su m R x7 (IntKind.i64.wrap (x8+64)) (x9++[x10]) k0 | false=>none) FUEL 0 (by omega) (by rw [Al]; omega)
    have hc:decide (acc.length+[(b.drop o).take 64].length≤2199023255552)=true:=by simp; omega
    simp only [hd];refine Eq.trans ?_ (g.trans ?_)
    ·rfl
    ·simp only [hc]
     rw [wrap_i64 (by omega) (by omega),Ge hl,List.drop_drop];rw [List.append_assoc] at g3;exact g3
  ·have hd:decide ((o:Int)+64≤(b.length:Int))=false:=by simp; omega
   simp only [hd];have hl:(b.drop o).length<64:=by rw [List.length_drop]; omega
   exact ⟨o,h0,by rw [C4 hl],by rw [Eo hl,List.append_nil]⟩
theorem F81_eq (R:Type) {b:List Int} (hb:b.length≤1000000000) (k:List (List Int)→List Int→Option R):F81 R b k=k (blkS b) (D6 b):=by
 simp only [F81,p81];obtain ⟨o',g1,g2,g3⟩:=zdp R hb (fun x1 x2 x3=>match decide (0≤x2∧x2≤(x1.length:Int)∧(x1.length:Int)≤(x1.length:Int)∧(x1.length:Int)≤(x1.length:Int)) with | true=>k x3 (List.take (Int.toNat ((x1.length:Int) - x2)) (List.drop (Int.toNat x2) x1)) | false=>none) FUEL 0 [] (by omega) (by rw [Al]; omega) (by simp; omega);refine g3.trans ?_;have c:decide (0≤(o':Int)∧(o':Int)≤(b.length:Int)∧(b.length:Int)≤(b.length:Int)∧(b.length:Int)≤(b.length:Int))=true:=decide_eq_true (by omega);simp only [c,Int.toNat_natCast];rw [List.take_of_length_le (by rw [List.length_drop]; omega),g2];rfl
def padM (m:List Int):List Int:=m++128::(List.replicate (Co m.length) 0++putS (8*(m.length:Int)))
theorem F82_eq (R:Type) {m:List Int} (hm:m.length≤500000000) (k:List Int→Option R):F82 R m k=k (padM m):=by
 simp only [F82,p82];rw [Int.tmod_eq_emod_of_nonneg (by omega),wrap_i64 (by omega) (by omega),Aj (n:=(m.length:Int)) (by omega) (by omega)];obtain ⟨q,hq⟩:∃q:Nat,(m.length:Int) - (m.length:Int) % 64=q:=⟨m.length - m.length % 64,by omega⟩
 have hq':q=m.length - m.length % 64:=by omega
 rw [hq];have c1:decide (0≤(q:Int)∧(q:Int)≤(m.length:Int)∧(m.length:Int)≤(m.length:Int)∧(m.length:Int)≤(m.length:Int))=true:=decide_eq_true (by omega);have c2:decide (0≤(0:Int)∧(0:Int)≤(q:Int)∧(q:Int)≤(q:Int)∧(q:Int)≤(m.length:Int))=true:=decide_eq_true (by omega);have e1:List.take (Int.toNat ((m.length:Int) - (q:Int))) (List.drop q m)=List.drop q m:=List.take_of_length_le (by rw [List.length_drop]; omega);have e2:List.take (Int.toNat ((q:Int) - 0)) (List.drop 0 m)=List.take q m:=by simp
 simp only [c1,Int.toNat_natCast,e1];rw [F117_eq R (by rw [List.length_drop]; omega) (by omega)];have c3:decide (([]:List Int).length+(List.take q m).length≤140737488355328)=true:=decide_eq_true (by simp; omega);have c4:decide (([]++List.take q m).length+(padT (List.drop q m) m.length).length≤140737488355328)=true:=decide_eq_true (by simp [padT,putS]; unfold Co; omega);simp only [c2,e2,c3,c4]
 congr 1
 simp only [padT,padM,List.nil_append];rw [←List.append_assoc,List.take_append_drop]
def zun (st:List Int):List Int:=(List.range' 0 8).foldl (Fu st) (List.replicate 32 0)
theorem F211_eq (R:Type) {st:List Int} (u:List Int×Int×Unit) (hu:AllU32 st) (k:List Int→(Wr×Unit)→Option R):F211 R ((st,u),()) k=k (zun st) ((st,u),()):=by
 simp only [F211,p211];exact zm1 R hu ((st,u),()) (fun x1 x2=>k x2 x1) FUEL 0 (List.replicate 32 0) (by omega) (by rw [Al]; omega)
def SHA (m:List Int):List Int:=zun (Jx H0 (blkS (padM m)))
theorem N2 (x:Int):AllU8 (putS x):=fun y hy=>by
 simp only [putS,List.mem_cons,List.not_mem_nil,or_false] at hy;unfold U8;omega
theorem zhe {rest:List Int} (h:AllU8 rest) (n:Nat):AllU8 (padT rest n):=fun y hy=>by
 unfold padT at hy;rcases List.mem_append.1 hy with h1 | h1
 ·exact h y h1
 ·rcases List.mem_cons.1 h1 with rfl | h1
  ·unfold U8; omega
  ·rcases List.mem_append.1 h1 with h1 | h1
   ·rw [List.eq_of_mem_replicate h1]; exact u8_0
   ·exact N2 _ y h1
theorem zsm (m:List Int):blkS (padM m)=blkS m++blkS (padT (D6 m) m.length):=(K3 m.length m _ (Nat.le_refl _)).1
theorem F164_eq (R:Type) {m:List Int} (h8:AllU8 m) (hm:m.length≤500000000) (k:List Int→Int→Option R):F164 R (wrS H0 m) k=k (SHA m) 0:=by
 have tl:=(Ji m.length m (Nat.le_refl _)).1;have ok:=Oq m.length m (Nat.le_refl _) h8;have hf:=Jw (blkS m) Vx.1 Vx.2;have hp:=zhe ok.2 m.length;simp only [F164,p164,wrS];rw [F209_eq R tl (by omega)];simp only [Bool.not_true];rw [zpe R (D6 m,(m.length:Int),()) hf.1 hf.2 hp (by simp [padT,putS]; unfold Co; omega)];have hf2:=Jw (blkS (padT (D6 m) m.length)) hf.1 hf.2;rw [F211_eq R _ hf2.2];unfold SHA;rw [zsm];unfold Jx;rw [List.foldl_append]
theorem zbm (R:Type) {ps:List (List Int)} (h8:∀p∈ps,AllU8 p) (hlen:ps.flatten.length≤500000000) (hnum:ps.length≤1000000000) (k:List Int→Option R):F116 R ps k=k (SHA ps.flatten):=by
 simp only [F116,p116];rw [F163_eq,F162_eq R Vx.1 Vx.2 h8 hlen hnum];refine F164_eq R (fun x hx=>?_) hlen _;obtain ⟨p,h1,h2⟩:=List.mem_flatten.1 hx;exact h8 p h1 x h2
theorem zdm (R:Type) (x1:Nat) (h:x1<8) (x3 x4 ys:List Int) (hy:ys.length=4) (k0:Int→List Int→List Int→List Int→Option R):∀(m j:Nat) (l:List Int),j≤4→4 - j<m→Vy m R (x1:Int) (j:Int) x3 x4 l ys k0=k0 (x1:Int) x3 x4 ((List.range' j (4 - j)).foldl (fun l j=>l.set (4*x1+j) (ys.getD j 0)) l)
 | 0,j,l,_,h=>by omega
 | m+1,j,l,h1,h2=>by
  simp only [Vy,p83_7]
  by_cases hi:j<4
  ·have ih:=zdm R x1 h x3 x4 ys hy k0 m (j+1) (l.set (4*x1+j) (ys.getD j 0)) (by omega) (by omega)
   rw [Bu hi,List.foldl_cons,←ih];have hd:decide ((j:Int)<4)=true:=by simp; omega
   have hbn:bnd (j:Int) 4=true:=by unfold bnd; simp; omega
   rw [wrap_i64 (n:=4*(x1:Int)) (by omega) (by omega),wrap_i64 (n:=4*(x1:Int)+(j:Int)) (by omega) (by omega),wrap_i64 (n:=(j:Int)+1) (by omega) (by omega)];have hb2:bnd (4*(x1:Int)+(j:Int)) 32=true:=by unfold bnd; simp; omega
   have e1:(4*(x1:Int)+(j:Int)).toNat=4*x1+j:=by omega
   simp only [hd,hbn,hb2,e1,Int.toNat_natCast];rfl
  ·have:j=4:=by omega
   subst this;rfl
theorem zsb (l:List Int) (p:Nat) (h:p+4≤l.length) (a b c d:Int):
  (List.range' 0 4).foldl (fun l j=>l.set (p+j) (List.getD [a,b,c,d] j 0)) l=lay l p [a,b,c,d]:=by
 have e:(List.range' 0 4).foldl (fun l j=>l.set (p+j) (List.getD [a,b,c,d] j 0)) l=(((l.set p a).set (p+1) b).set (p+2) c).set (p+3) d:=rfl;rw [e];apply List.ext_getElem?;intro i;unfold lay;simp only [List.getElem?_set,List.getElem?_append,List.length_take,List.length_set,List.getElem?_drop,List.length_append,List.length_cons,List.length_nil,List.getElem?_take];have hm:min p l.length=p:=by omega
 have hx:[a,b,c,d].length=4:=rfl
 by_cases h1:i<p
 ·have n1:¬p+3=i:=by omega
  have n2:¬p+2=i:=by omega
  have n3:¬p+1=i:=by omega
  have n4:¬p=i:=by omega
  simp only [n1,n2,n3,n4,if_false,hm];rw [if_pos (by omega),if_pos (by omega),if_pos h1]
 ·by_cases h2:i<p+4
  ·obtain ⟨q,rfl⟩:∃q,i=p+q:=⟨i - p,by omega⟩
   have hq:q=0∨q=1∨q=2∨q=3:=by omega
   rcases hq with rfl | rfl | rfl | rfl
   ·simp [hm,show ¬p+3=p from by omega,show p<l.length from by omega]
   ·simp [hm,show p+1<l.length from by omega,show ¬p+1<p from by omega]
   ·simp [hm,show p+2<l.length from by omega,show ¬p+2<p from by omega]
   ·simp [hm,show p+3<l.length from by omega,show ¬p+3<p from by omega]
  ·have n1:¬p+3=i:=by omega
   have n2:¬p+2=i:=by omega
   have n3:¬p+1=i:=by omega
   have n4:¬p=i:=by omega
   simp only [n1,n2,n3,n4,if_false,hm];rw [if_neg (by omega)]
   congr 1
   omega
theorem zdn (R:Type) {st:List Int} (hu:AllU32 st) (x3:List Int) (k0:List Int→List Int→Option R):∀(m i:Nat) (l:List Int),i≤8→8 - i<m→l.length=32→M9 m R (i:Int) st x3 l k0=k0 x3 ((List.range' i (8 - i)).foldl (Fu st) l)
 | 0,i,l,_,h,_=>by omega
 | m+1,i,l,h1,h2,hl=>by
  simp only [M9,p83_3]
  by_cases hi:i<8
  ·have hs:lay l (4*i) (B3 (st.getD i 0))=Fu st l i:=rfl
   have ih:=zdn R hu x3 k0 m (i+1) (Fu st l i) (by omega) (by omega) (by rw [←hs,zjg (by simp [B3]; omega)]; exact hl);rw [Bu hi,List.foldl_cons,←ih];have hd:decide ((i:Int)<8)=true:=by simp; omega
   have hbn:bnd (i:Int) 8=true:=by unfold bnd; simp; omega
   simp only [hd,hbn,Int.toNat_natCast];rw [F70_eq R (Au hu Pw _)];refine (zdm R i hi st x3 _ rfl _ FUEL 0 l (by omega) (by rw [Al]; omega)).trans ?_;have e4:=zsb l (4*i) (by omega) (st.getD i 0/16777216 % 256) (st.getD i 0/65536 % 256) (st.getD i 0/256 % 256) (st.getD i 0 % 256);rw [wrap_i64 (n:=(i:Int)+1) (by omega) (by omega)];show M9 m R ((i:Int)+1) st x3 _ k0=M9 m R ((i+1:Nat):Int) st x3 _ k0;rw [←hs];show M9 m R ((i:Int)+1) st x3 _ k0=M9 m R ((i:Int)+1) st x3 _ k0
   congr 1
  ·have:i=8:=by omega
   subst this;rfl
theorem F83_eq (R:Type) {st:List Int} (hu:AllU32 st) (k:List Int→Option R):F83 R st k=k (zun st):=by
 simp only [F83,p83];exact zdn R hu _ (fun x1 x2=>k x2) FUEL 0 (List.replicate 32 0) (by omega) (by rw [Al]; omega) rfl
theorem padM_u8 {m:List Int} (h:AllU8 m):AllU8 (padM m):=fun x hx=>by
 unfold padM at hx;rcases List.mem_append.1 hx with h1 | h1
 ·exact h x h1
 ·exact zhe (rest:=[]) (fun y hy=>absurd hy (by simp)) m.length x h1
theorem zsl (m:List Int):(padM m).length≤m.length+72:=by
 simp [padM,putS,Co]; omega
theorem zda:∀(n:Nat) (b:List Int),(blkF n b).length≤n
 | 0,b=>by simp [blkF]
 | n+1,b=>by
  simp only [blkF];split
  ·simp only [List.length_cons]
   have:=zda n (b.drop 64);omega
  ·simp
theorem F55_eq (R:Type) {m:List Int} (h8:AllU8 m) (hm:m.length≤500000000) (k:List Int→Option R):F55 R m k=k (SHA m):=by
 simp only [F55,p55];have hp:=zsl m;rw [F82_eq R hm,F81_eq R (by omega),F85_eq];have ok:=Oq (padM m).length (padM m) (Nat.le_refl _) (padM_u8 h8);rw [F84_eq R Vx.1 Vx.2 ok.1 (by have:=zda ((padM m).length/64+1) (padM m); unfold blkS; omega),F83_eq R (Jw (blkS (padM m)) Vx.1 Vx.2).2];rfl
theorem zbt (b:BitVec 8):IntKind.u8.wrap ((b.toNat:Nat):Int)=(b.toNat:Int):=by
 have:=b.isLt;exact zf9 (by omega) (by omega)
theorem zjk (a b:Int):ixor .u8 a b=((BitVec.ofInt 8 a^^^BitVec.ofInt 8 b).toNat:Int):=zbt _
theorem Uo {x:Int} (h:U8 x):((BitVec.ofInt 8 x).toNat:Int)=x:=by
 rw [BitVec.toNat_ofInt];unfold U8 at h;have:x % ((2^8:Nat):Int)=x:=by omega
 rw [this];omega
theorem zug (a b:Int):U8 (ixor .u8 a b):=by
 rw [zjk];have:=(BitVec.ofInt 8 a^^^BitVec.ofInt 8 b).isLt;unfold U8;omega
theorem ixor8_0 {a:Int} (h:U8 a):ixor .u8 0 a=a:=by
 rw [zjk,show BitVec.ofInt 8 0=0#8 from rfl,BitVec.zero_xor,Uo h]
def xorS (h x:List Int):List Int:=List.zipWith (ixor .u8) h x
def Hc:List Int:=List.replicate 32 0
def zbs (l:List (List Int)):List Int:=l.foldl xorS Hc
def H32 (l:List Int):Prop:=l.length=32∧AllU8 l
theorem zbr:∀{n:Nat} {a:List Int},a.length=n→AllU8 a→xorS (List.replicate n 0) a=a
 | 0,[],_,_=>rfl
 | n+1,a::ts,hl,h=>by
  have ih:=zbr (n:=n) (a:=ts) (by simpa using hl) (fun x hx=>h x (List.mem_cons_of_mem _ hx));simp only [xorS,List.replicate_succ,List.zipWith_cons_cons] at*;rw [ih,ixor8_0 (h a List.mem_cons_self)]
theorem zf6:∀h x:List Int,AllU8 (xorS h x)
 | [],x=>fun y hy=>by simp [xorS] at hy
 | h::hs,[]=>fun y hy=>by simp [xorS] at hy
 | h::hs,x::xs=>fun y hy=>by
  simp only [xorS,List.zipWith_cons_cons,List.mem_cons] at hy;rcases hy with rfl | hy
  ·exact zug _ _
  ·exact zf6 hs xs y hy
theorem W0 {h x:List Int} (hh:H32 h) (hx:H32 x):H32 (xorS h x):=⟨by simp [xorS,hh.1,hx.1],zf6 h x⟩
theorem A6:H32 Hc:=⟨by simp [Hc],fun x hx=>by rw [List.eq_of_mem_replicate hx]; exact u8_0⟩
theorem zf7:∀(l:List (List Int)) {h:List Int},H32 h→(∀x∈l,H32 x)→H32 (l.foldl xorS h)
 | [],h,hh,_=>hh
 | x::xs,h,hh,hl=>zf7 xs (W0 hh (hl x List.mem_cons_self)) (fun y hy=>hl y (List.mem_cons_of_mem _ hy))
theorem zf8 {l:List (List Int)} (hl:∀x∈l,H32 x):H32 (zbs l):=zf7 l A6 hl
theorem xor0 {x:List Int} (h:H32 x):xorS Hc x=x:=zbr h.1 h.2
theorem set_mid (A:List Int) (h:Int) (hs:List Int) (v:Int):(A++h::hs).set A.length v=(A++[v])++hs:=by
 rw [List.set_append_right _ _ (Nat.le_refl _)];simp
theorem zcx (A:List Int) (h:Int) (hs:List Int):(A++h::hs).getD A.length 0=h:=by
 simp
theorem zdq (R:Type) (x1:List (List Int)) (x2 x3:Int) (k0:List (List Int)→Int→Int→List Int→Option R):∀(m:Nat) (hs xs A X:List Int),hs.length=xs.length→A.length=X.length→A.length+hs.length=32→hs.length<m→
  Sv m R x1 x2 x3 (X++xs) (A.length:Int) (A++hs) k0=k0 x1 x2 x3 (A++xorS hs xs)
 | 0,_,_,_,_,_,_,_,h=>by omega
 | m+1,[],[],A,X,_,h2,h3,_=>by
  have:A.length=32:=by simpa using h3
  simp only [Sv,zsn,this];simp [xorS]
 | m+1,h::hs,x::xs,A,X,h1,h2,h3,h4=>by
  simp only [List.length_cons] at h1 h3 h4;have ih:=zdq R x1 x2 x3 k0 m hs xs (A++[ixor .u8 h x]) (X++[x]) (by omega) (by simp; omega) (by simp; omega) (by omega);simp only [Sv,zsn];have hd:decide ((A.length:Int)<32)=true:=by simp; omega
  have hbn:bnd (A.length:Int) 32=true:=by unfold bnd; simp; omega
  simp only [hd,hbn,Int.toNat_natCast];rw [set_mid,zcx,wrap_i64 (n:=(A.length:Int)+1) (by omega) (by omega),h2,zcx];simp only [List.append_assoc,List.cons_append,List.nil_append,List.length_append,List.length_cons,List.length_nil] at ih;rw [h2] at ih;simp only [List.append_assoc,List.cons_append,List.nil_append];exact ih
theorem zdr (R:Type) (l:List (List Int)) (hl:∀x∈l,H32 x) (hn:l.length≤1000000000) (k0:List Int→Option R):∀(m i:Nat) (h:List Int),i≤l.length→l.length - i<m→H32 h→
  V0 m R l (l.length:Int) (i:Int) h k0=k0 ((l.drop i).foldl xorS h)
 | 0,i,_,_,h,_=>by omega
 | m+1,i,h,h1,h2,hh=>by
  simp only [V0,p79_2]
  by_cases hi:i<l.length
  ·have hd:decide ((i:Int)<(l.length:Int))=true:=by simpa using hi
   have hbn:bnd (i:Int) (l.length:Int)=true:=by unfold bnd; simp; omega
   have hx:=hl l[i] (List.getElem_mem hi);have hg:List.getD l i (List.replicate 32 0)=l[i]:=by simp [hi]
   have ih:=zdr R l hl hn k0 m (i+1) (xorS h l[i]) (by omega) (by omega) (W0 hh hx);simp only [hd,hbn,Int.toNat_natCast,hg];refine (zdq R l (l.length:Int) (i:Int) _ FUEL h l[i] [] [] (by rw [hh.1,hx.1]) rfl (by simp [hh.1]) (by rw [Al,hh.1]; omega)).trans ?_;rw [wrap_i64 (n:=(i:Int)+1) (by omega) (by omega),List.drop_eq_getElem_cons hi];exact ih
  ·have:i=l.length:=by omega
   subst this;have hd:decide ((l.length:Int)<(l.length:Int))=false:=by simp
   simp only [hd];rw [List.drop_of_length_le (Nat.le_refl _)];rfl
theorem F79_eq (R:Type) {l:List (List Int)} (hl:∀x∈l,H32 x) (hn:l.length≤1000000000) (k:List Int→Option R):F79 R l k=k (zbs l):=by
 simp only [F79,p79];exact zdr R l hl hn (fun x2=>k x2) FUEL 0 Hc (by omega) (by rw [Al]; omega) A6
theorem Jl (x:Int):(putS x).length=8:=rfl
theorem zb2 {l:List Int} (h:H32 l):List.take 32 (List.drop 0 l)=l:=by
 rw [List.drop_zero,List.take_of_length_le (by rw [h.1]; omega)]
theorem take8 (x:Int):List.take 8 (List.drop 0 (putS x))=putS x:=rfl
theorem zo2 (R:Type) {a:List Int} (ha:H32 a) (k:List Int→Option R):F236 R a k=k (SHA a):=by
 simp only [F236,p236,zb2 ha];rw [zbm R (fun p hp=>by simp only [List.mem_cons,List.not_mem_nil,or_false] at hp; rw [hp]; exact ha.2) (by simp [ha.1]) (by simp)];simp
def Xe (a:List Int) (e:Int) (b:List Int):List Int:=SHA (a++(putS e++b))
theorem F80_eq (R:Type) {a b:List Int} (ha:H32 a) (hb:H32 b) (e:Int) (k:List Int→Option R):F80 R a e b k=k (Xe a e b):=by
 simp only [F80,p80];rw [Pt];simp only [zb2 ha,zb2 hb,take8];rw [zbm R (fun p hp=>by
  simp only [List.mem_cons,List.not_mem_nil,or_false] at hp;rcases hp with rfl | rfl | rfl
  ·exact ha.2
  ·exact N2 e
  ·exact hb.2) (by simp [ha.1,hb.1,Jl]) (by simp)]
 simp [Xe]
theorem U7 {l:List Int} {i:Nat} (h:i<l.length):l.drop i=l.getD i 0::l.drop (i+1):=by
 rw [List.drop_eq_getElem_cons h];simp [h]
theorem zx8 (R:Type) {a:List Int} (ha:a.length=32) (k0:List Int→Option R):∀(m i:Nat) (o:List Int),i≤32→32 - i<m→o.length≤1000000+i→Zy m R (i:Int) a o k0=k0 (o++a.drop i)
 | 0,i,_,_,h,_=>by omega
 | m+1,i,o,h1,h2,h3=>by
  simp only [Zy,p53_3]
  by_cases hi:i<32
  ·have ih:=zx8 R ha k0 m (i+1) (o++[a.getD i 0]) (by omega) (by omega) (by simp; omega)
   have hd:decide ((i:Int)<32)=true:=by simp; omega
   have hbn:bnd (i:Int) 32=true:=by unfold bnd; simp; omega
   have hc:∀y:Int,decide (List.length o+List.length [y]≤140737488355328)=true:=fun y=>by simp; omega
   simp only [hd,hbn,Int.toNat_natCast,hc];rw [wrap_i64 (n:=(i:Int)+1) (by omega) (by omega),U7 (by omega)];simp only [List.append_assoc,List.cons_append,List.nil_append] at ih;exact ih
  ·have:i=32:=by omega
   subst this;rw [List.drop_of_length_le (by omega),List.append_nil];rfl
theorem zzf (R:Type) {a:List Int} (ha:a.length=32) (k:List Int→Option R):F53 R a k=k a:=by
 simp only [F53,p53];exact zx8 R ha (fun x=>k x) FUEL 0 [] (by omega) (by rw [Al]; omega) (by simp)
theorem zyl (R:Type) {a:List Int} (ha:a.length=8) (x2 x3:List Int) (k0:List Int→List Int→List Int→Option R):∀(m i:Nat) (o:List Int),i≤8→8 - i<m→o.length≤1000000+i→Z5 m R (i:Int) x2 x3 o a k0=k0 x2 x3 (o++a.drop i)
 | 0,i,_,_,h,_=>by omega
 | m+1,i,o,h1,h2,h3=>by
  simp only [Z5,p25_4]
  by_cases hi:i<8
  ·have ih:=zyl R ha x2 x3 k0 m (i+1) (o++[a.getD i 0]) (by omega) (by omega) (by simp; omega)
   have hd:decide ((i:Int)<8)=true:=by simp; omega
   have hbn:bnd (i:Int) 8=true:=by unfold bnd; simp; omega
   have hc:∀y:Int,decide (List.length o+List.length [y]≤140737488355328)=true:=fun y=>by simp; omega
   simp only [hd,hbn,Int.toNat_natCast,hc];rw [wrap_i64 (n:=(i:Int)+1) (by omega) (by omega),U7 (by omega)];simp only [List.append_assoc,List.cons_append,List.nil_append] at ih;exact ih
  ·have:i=8:=by omega
   subst this;rw [List.drop_of_length_le (by omega),List.append_nil];rfl
theorem AllU8.app {a b:List Int} (ha:AllU8 a) (hb:AllU8 b):AllU8 (a++b):=fun x hx=>(List.mem_append.1 hx).elim (ha x) (hb x)
theorem F25_eq (R:Type) {a b:List Int} (ha:H32 a) (hb:H32 b) {e:Int} (he:0≤e∧e<18446744073709551616) (k:List Int→Option R):F25 R a e b k=k (Xe a e b):=by
 simp only [F25,p25];rw [zzf R ha.1,zze R he];refine (zyl R (Jl e) b _ _ FUEL 0 a (by omega) (by rw [Al]; omega) (by rw [ha.1]; omega)).trans ?_;simp only [List.drop_zero];rw [zzf R hb.1];have hc:decide (List.length (a++putS e)+List.length b≤140737488355328)=true:=by simp [ha.1,hb.1,Jl]
 simp only [hc];rw [F55_eq R ((ha.2.app (N2 e)).app hb.2) (by simp [ha.1,hb.1,Jl])];rw [List.append_assoc];rfl
theorem zen {st l:List Int} (hl:H32 l) {i:Nat} (hi:i<8):H32 (Fu st l i):=by
 refine ⟨by unfold Fu; rw [zjg (by simp [B3,hl.1]; omega)]; exact hl.1,?_⟩;unfold Fu lay;refine AllU8.app (AllU8.app (fun x hx=>hl.2 x (List.mem_of_mem_take hx)) ?_) (fun x hx=>hl.2 x (List.mem_of_mem_drop hx));intro y hy;simp only [B3,List.mem_cons,List.not_mem_nil,or_false] at hy;unfold U8;omega
theorem Qh (st:List Int):∀(is:List Nat) {l:List Int},(∀i∈is,i<8)→H32 l→H32 (is.foldl (Fu st) l)
 | [],_,_,hl=>hl
 | i::is,_,h,hl=>Qh st is (fun j hj=>h j (List.mem_cons_of_mem _ hj)) (zen hl (h i List.mem_cons_self))
theorem zln (m:List Int):H32 (SHA m):=by
 unfold SHA zun;refine Qh _ _ (fun i hi=>?_) A6;rw [List.mem_range'] at hi;obtain ⟨j,hj,rfl⟩:=hi;omega
def Mp (a:List Int) (d i:Int):List Int:=SHA (a++(putS d++putS i))
theorem zk2 (a:List Int) (d i:Int):H32 (Mp a d i):=zln _
theorem F335_eq (R:Type) {a:List Int} (ha:H32 a) (d i:Int) (k:List Int→Option R):F335 R a d i k=k (Mp a d i):=by
 simp only [F335,p335];rw [Pt,Pt];simp only [zb2 ha,take8];rw [zbm R (fun p hp=>by
  simp only [List.mem_cons,List.not_mem_nil,or_false] at hp;rcases hp with rfl | rfl | rfl
  ·exact ha.2
  ·exact N2 d
  ·exact N2 i) (by simp [ha.1,Jl]) (by simp)]
 simp [Mp]
def U64 (x:Int):Prop:=0≤x∧x<18446744073709551616
theorem Th (b:BitVec 64):IntKind.u64.wrap ((b.toNat:Nat):Int)=(b.toNat:Int):=by
 have:=b.isLt;exact Aj (by omega) (by omega)
theorem zum (a b:Int):iand .u64 a b=((BitVec.ofInt 64 a&&& BitVec.ofInt 64 b).toNat:Int):=Th _
theorem Za (a b:Int):ior .u64 a b=((BitVec.ofInt 64 a||| BitVec.ofInt 64 b).toNat:Int):=Th _
theorem zjt {x:Int} (hx:U64 x) (n:Nat) (hn:n<64):iand .u64 x ((2^n - 1:Nat):Int)=x % 2^n:=by
 unfold U64 at hx;obtain ⟨y,rfl⟩:∃y:Nat,x=y:=⟨x.toNat,by omega⟩
 have h1:(2:Nat)^n<2^64:=Nat.pow_lt_pow_right (by omega) hn;have h0:0<(2:Nat)^n:=Nat.pow_pos (by omega);rw [zum,BitVec.ofInt_natCast,BitVec.ofInt_natCast,BitVec.toNat_and,BitVec.toNat_ofNat,BitVec.toNat_ofNat,Nat.mod_eq_of_lt (by omega),Nat.mod_eq_of_lt (by omega),Nat.and_two_pow_sub_one_eq_mod];simp
def bitS (a:List Int) (d n:Int):Int:=(Mp a d (n/256)).getD (n % 256/8).toNat 0/2^(7 - n % 8).toNat % 2
abbrev Cm:=Int×(List Int×(Bool×(List Int×Unit)))
abbrev zC:Cm:=((0:Int),(List.replicate 32 (0:Int)),false,(List.replicate 32 (0:Int)),())
abbrev KC:Kd:=(.pair (.int .i64) (.pair (.arr 32 (.int .u8)) (.pair .bool (.pair (.arr 32 (.int .u8)) .unit))))
def I64 (x:Int):Prop:= -9223372036854775808≤x∧x<9223372036854775808
structure CmOK (c:Cm):Prop where
 who:I64 c.1
 hash:H32 c.2.1
 value:H32 c.2.2.2.1
def CsOK (l:List Cm):Prop:=∀c∈l,CmOK c
theorem zC_ok:CmOK zC:=⟨by show I64 0; unfold I64; omega,A6,A6⟩
theorem CsOK.get {l:List Cm} (h:CsOK l) (i:Nat):CmOK (l.getD i zC):=by
 rw [List.getD_eq_getElem?_getD];cases hi:l[i]? with
 | none=>exact zC_ok
 | some c=>exact h c (List.mem_of_getElem? hi)
theorem zc2:∀{a b:List Int},a.length=b.length→eqvL (Kd.eqv (.int .u8)) a b=decide (a=b)
 | [],[],_=>rfl
 | x::xs,y::ys,h=>by
  simp only [eqvL,zc2 (a:=xs) (b:=ys) (by simpa using h)]
  by_cases e:x=y
  ·subst e; simp [Kd.eqv]
  ·simp [Kd.eqv,e]
theorem Ci {a b:List Int} (ha:a.length=32) (hb:b.length=32):Kd.eqv (.arr 32 (.int .u8)) a b=decide (a=b):=zc2 (by rw [ha,hb])
theorem eqvC {a b:Cm} (ha:CmOK a) (hb:CmOK b):Kd.eqv KC a b=decide (a=b):=by
 obtain ⟨a1,a2,a3,a4,⟨⟩⟩:=a;obtain ⟨b1,b2,b3,b4,⟨⟩⟩:=b;have e1:Kd.eqv (.arr 32 (.int .u8)) a2 b2=decide (a2=b2):=Ci ha.hash.1 hb.hash.1;have e2:Kd.eqv (.arr 32 (.int .u8)) a4 b4=decide (a4=b4):=Ci ha.value.1 hb.value.1;show ((a1==b1)&&(Kd.eqv (.arr 32 (.int .u8)) a2 b2&&((a3==b3)&&(Kd.eqv (.arr 32 (.int .u8)) a4 b4&&true))))=_;rw [e1,e2]
 by_cases h1:a1=b1
 ·by_cases h2:a2=b2
  ·by_cases h3:a3=b3
   ·by_cases h4:a4=b4
    ·simp [h1,h2,h3,h4]
    ·simp [h4]
   ·simp [h3]
  ·simp [h2]
 ·simp [h1]
def Fv (f:Nat→Bool):Nat→Nat→Bool
 | 0,_=>true
 | d+1,i=>f i&&Fv f d (i+1)
theorem Fb {f:Nat→Bool}:∀{d i:Nat},Fv f d i=true↔∀j,i≤j→j<i+d→f j=true
 | 0,i=>⟨fun _ j h1 h2=>by omega,fun _=>rfl⟩
 | d+1,i=>by
  simp only [Fv,Bool.and_eq_true,Fb (d:=d)];constructor
  ·rintro ⟨h1,h2⟩ j h3 h4
   by_cases e:j=i
   ·subst e; exact h1
   ·exact h2 j (by omega) (by omega)
  ·intro h
   exact ⟨h i (by omega) (by omega),fun j h1 h2=>h j (by omega) (by omega)⟩
def Qa (c:Cm):Bool:=decide (0≤c.1)&&match c.2.2.1 with
 | true=>decide (SHA c.2.2.2.1=c.2.1)
 | false=>decide (c.2.2.2.1=Hc)
def Dp (l:List Cm) (i:Nat):Bool:=Qa (l.getD i zC)&&(Nat.beq i 0||decide ((l.getD (i - 1) zC).1<(l.getD i zC).1))
def Im (l:List Cm):Bool:=Fv (Dp l) l.length 0
theorem zgn (x:List Int):(SHA x).length=32:=by
 exact (zln x).1
theorem F265_eq (R:Type) {c:Cm} (h:CmOK c) (k:Bool→Option R):F265 R c k=k (Qa c):=by
 obtain ⟨a1,a2,a3,a4,⟨⟩⟩:=c;simp only [F265,p265,Qa];have hv:H32 a4:=h.value;have hh:H32 a2:=h.hash
 by_cases h0:(0:Int)≤a1
 ·have hd:decide (a1≥(0:Int))=true:=decide_eq_true h0
  have hd':decide ((0:Int)≤a1)=true:=decide_eq_true h0;simp only [hd,hd',Bool.true_and];cases a3 with
  | true=>
   simp only;rw [zo2 R hv,Ci (zgn _) hh.1]
  | false=>
   simp only;rw [show List.replicate 32 (0:Int)=Hc from rfl,Ci hv.1 A6.1]
 ·have hd:decide (a1≥(0:Int))=false:=decide_eq_false h0
  have hd':decide ((0:Int)≤a1)=false:=decide_eq_false h0;simp only [hd,hd',Bool.false_and];cases a3<;>rfl
theorem zmy (R:Type) {l:List Cm} (h:CsOK l) (hn:l.length≤1000) (k0:Bool→Option R) (k1:Option R):∀(m i:Nat),i≤l.length→l.length - i<m→
  Pi m R l l (l.length:Int) (i:Int) k0 k1=match Fv (Dp l) (l.length - i) i with | true=>k1 | false=>k0 false
 | 0,i,_,h=>by omega
 | m+1,i,h1,h2=>by
  simp only [Pi,zhw]
  by_cases hi:i<l.length
  ·have hd:decide ((i:Int)<(l.length:Int))=true:=by simpa using hi
   have hbn:bnd (i:Int) (l.length:Int)=true:=by unfold bnd; simp; omega
   have ih:=zmy R h hn k0 k1 m (i+1) (by omega) (by omega);have hw:IntKind.i64.wrap ((i:Int)+1)=((i+1:Nat):Int):=by rw [wrap_i64 (by omega) (by omega)]; omega
   simp only [hd,hbn,Int.toNat_natCast];rw [F265_eq R (h.get i),hw,show l.length - i=(l.length - (i+1))+1 by omega];simp only [Fv];cases hr:Qa (l.getD i zC) with
   | false=>
    have e2:Dp l i=false:=by simp only [Dp,hr,Bool.false_and]
    simp only [e2,Bool.false_and,Bool.not_false]
   | true=>
    simp only [Bool.not_true]
    by_cases h0:i=0
    ·subst h0
     have e1:decide (((0:Nat):Int)>0)=false:=by simp
     have e2:Dp l 0=true:=by simp [Dp]; exact hr
     simp only [e1,e2,Bool.true_and];exact ih
    ·have e1:decide ((i:Int)>0)=true:=decide_eq_true (by omega)
     have e3:IntKind.i64.wrap ((i:Int) - 1)=((i - 1:Nat):Int):=by rw [wrap_i64 (by omega) (by omega)]; omega
     have e4:bnd ((i - 1:Nat):Int) (l.length:Int)=true:=by unfold bnd; simp; omega
     have e5:Nat.beq i 0=false:=by
      cases hb:Nat.beq i 0 with
      | false=>rfl
      | true=>exact absurd (Nat.eq_of_beq_eq_true hb) h0
     simp only [e1,e3,e4,Int.toNat_natCast]
     by_cases hlt:(l.getD (i - 1) zC).1<(l.getD i zC).1
     ·have e6:decide ((l.getD (i - 1) zC).1≥(l.getD i zC).1)=false:=decide_eq_false (by omega)
      have e2:Dp l i=true:=by simp only [Dp,hr,e5,decide_eq_true hlt,Bool.or_true,Bool.and_self]
      simp only [e6,e2,Bool.true_and];exact ih
     ·have e6:decide ((l.getD (i - 1) zC).1≥(l.getD i zC).1)=true:=decide_eq_true (by omega)
      have e2:Dp l i=false:=by simp only [Dp,hr,e5,decide_eq_false hlt,Bool.or_self,Bool.and_false]
      simp only [e6,e2,Bool.false_and]
  ·have:i=l.length:=by omega
   subst this;have hd:decide ((l.length:Int)<(l.length:Int))=false:=by simp
   simp only [hd,Nat.sub_self,Fv]
theorem zbh (R:Type) {l:List Cm} (h:CsOK l) (hn:l.length≤1000) (k:Bool→Option R):F231 R l k=k (Im l):=by
 simp only [F231,p231];refine (zmy R h hn (fun x2=>k x2) (k true) FUEL 0 (by omega) (by rw [Al]; omega)).trans ?_;unfold Im;rw [Nat.sub_zero];cases Fv (Dp l) l.length 0<;>rfl
theorem Cc {i n:Nat} (h:i<n) (hn:n≤1000):IntKind.i64.wrap ((i:Int)+1)=((i+1:Nat):Int):=by rw [wrap_i64 (by omega) (by omega)]; omega
theorem A4 {i n:Nat} (h:i<n):bnd (i:Int) (n:Int)=true:=by unfold bnd; simp; omega
theorem Df {i n:Nat} (h:i<n):decide ((i:Int)<(n:Int))=true:=by simpa using h
theorem Cx (n:Nat):decide ((n:Int)<(n:Int))=false:=by simp
structure zdf (l:List Cm):Prop where
 each:∀c∈l,Qa c=true
 ord:∀i j,i<j→j<l.length→(l.getD i zC).1<(l.getD j zC).1
theorem zuq {l:List Cm} {i:Nat} (h:i<l.length):l.getD i zC∈l:=by
 rw [List.getD_eq_getElem?_getD,List.getElem?_eq_getElem h]; exact List.getElem_mem h
theorem zs4 {l:List Cm} {c:Cm} (h:c∈l):∃i,i<l.length∧l.getD i zC=c:=by
 obtain ⟨i,hi,e⟩:=List.getElem_of_mem h;exact ⟨i,hi,by rw [List.getD_eq_getElem?_getD,List.getElem?_eq_getElem hi]; exact e⟩
theorem P9 {l:List Cm}:Im l=true↔zdf l:=by
 unfold Im;rw [Fb];constructor
 ·intro h
  have hat:∀i,i<l.length→Qa (l.getD i zC)=true∧(i=0∨(l.getD (i - 1) zC).1<(l.getD i zC).1):=by
   intro i hi;have:=h i (by omega) (by omega);simp only [Dp,Bool.and_eq_true,Bool.or_eq_true,decide_eq_true_eq] at this;refine ⟨this.1,?_⟩;rcases this.2 with h1 | h1
   ·exact .inl (Nat.eq_of_beq_eq_true h1)
   ·exact .inr h1
  refine ⟨fun c hc=>?_,fun i j hij hj=>?_⟩
  ·obtain ⟨i,hi,rfl⟩:=zs4 hc
   exact (hat i hi).1
  ·induction j with
   | zero=>omega
   | succ j ih=>
    have h1:=(hat (j+1) hj).2;rcases h1 with h1 | h1
    ·omega
    ·rw [Nat.add_sub_cancel] at h1
     by_cases e:i=j
     ·subst e; exact h1
     ·have:=ih (by omega) (by omega)
      omega
 ·intro h j _ hj
  simp only [Dp,Bool.and_eq_true,Bool.or_eq_true,decide_eq_true_eq];refine ⟨h.each _ (zuq (by omega)),?_⟩
  by_cases e:j=0
  ·subst e; exact .inl rfl
  ·exact .inr (h.ord _ _ (by omega) (by omega))
def B4:List Cm→Int→Nat
 | [],_=>0
 | c::l,w=>if c.1<w then B4 l w+1 else 0
theorem N4:∀(l:List Cm) (w:Int),B4 l w≤l.length
 | [],_=>Nat.le_refl _
 | c::l,w=>by
  have:=N4 l w;simp only [B4,List.length_cons];split<;>omega
theorem zg9:∀(l:List Cm) (w:Int) (i:Nat),i<B4 l w→(l.getD i zC).1<w
 | [],_,i,h=>by simp [B4] at h
 | c::l,w,i,h=>by
  simp only [B4] at h;split at h
  ·rename_i hc
   cases i with
   | zero=>simpa using hc
   | succ i=>have:=zg9 l w i (by omega); simpa using this
  ·omega
theorem zhb:∀(l:List Cm) (w:Int),B4 l w<l.length→w≤(l.getD (B4 l w) zC).1
 | [],_,h=>by simp [B4] at h
 | c::l,w,h=>by
  simp only [B4] at h ⊢;split
  ·rename_i hc
   rw [if_pos hc] at h;have:=zhb l w (by simpa using h);simpa using this
  ·rename_i hc; simp; omega
theorem zha {l:List Cm} (h:zdf l) (w:Int) {i:Nat} (h1:B4 l w≤i) (h2:i<l.length):w≤(l.getD i zC).1:=by
 have:=zhb l w (by omega)
 by_cases e:i=B4 l w
 ·rw [e]; exact this
 ·have:=h.ord (B4 l w) i (by omega) h2
  omega
def Nq (l:List Cm) (w:Int):Bool:=decide (B4 l w<l.length)&&decide ((l.getD (B4 l w) zC).1=w)
theorem zdw (R:Type) (a b:Int) (k:Int→Option R):F268 R a b k=k (if a<b then -1 else if a>b then 1 else 0):=by
 simp only [F268,p268,F287,p287,bne_self_eq_false]
 by_cases h:a<b
 ·simp only [decide_eq_true h,if_pos h]
 ·simp only [decide_eq_false h,if_neg h]
  by_cases h2:a>b
  ·simp only [decide_eq_true h2,if_pos h2]
  ·simp only [decide_eq_false h2,if_neg h2]
theorem zuo {i j:Nat} (hi:i≤1000) (hj:j≤1000):IntKind.i64.wrap (ishr .u64 (IntKind.u64.wrap (IntKind.i64.wrap ((i:Int)+(j:Int)))) 1)=(((i+j)/2:Nat):Int):=by
 rw [wrap_i64 (n:=(i:Int)+(j:Int)) (by omega) (by omega),Aj (by omega) (by omega)];have:=shr64 (x:=(i:Int)+(j:Int)) 1 (by omega);rw [show ishr .u64 ((i:Int)+(j:Int)) 1=((i:Int)+(j:Int))/2^1 from this,wrap_i64 (by omega) (by omega)];omega
theorem Mc (R:Type) {l:List Cm} (h:zdf l) (hn:l.length≤1000) (w:Int) (k0:List Cm→Int→Int→Int→Option R):∀(m i j:Nat),i≤B4 l w→B4 l w≤j→j≤l.length→j - i<m→
  A8 m R l w (l.length:Int) (i:Int) (j:Int) k0=k0 l w (l.length:Int) (B4 l w:Int)
 | 0,i,j,_,_,_,h=>by omega
 | m+1,i,j,h1,h2,h3,h4=>by
  simp only [A8,Jp]
  by_cases hij:i<j
  ·have e1:=zuo (i:=i) (j:=j) (by omega) (by omega)
   have hq:(i+j)/2<l.length:=by omega
   simp only [Df hij,e1,A4 hq,Int.toNat_natCast,F267,p267];rw [zdw]
   by_cases hp:(i+j)/2<B4 l w
   ·have hlt:=zg9 l w _ hp
    simp only [if_pos hlt,show decide ((-1:Int)<0)=true from rfl];rw [Cc (n:=l.length) hq hn];exact Mc R h hn w k0 m ((i+j)/2+1) j (by omega) h2 h3 (by omega)
   ·have hge:=zha h w (i:=(i+j)/2) (by omega) hq
    have hd:∀z:Int,0≤z→decide (z<0)=false:=fun z hz=>decide_eq_false (by omega)
    rw [hd _ (by rw [if_neg (Int.not_lt.2 hge)]; split<;>omega)];exact Mc R h hn w k0 m i ((i+j)/2) h1 (by omega) (by omega) (by omega)
  ·have e1:decide ((i:Int)<(j:Int))=false:=decide_eq_false (by omega)
   simp only [e1];rw [show i=B4 l w by omega]
theorem zo5 (R:Type) {l:List Cm} (h:zdf l) (hn:l.length≤1000) (w:Int) (k:Int→Bool→Option R):F232 R l w k=k (B4 l w:Int) (Nq l w):=by
 simp only [F232,p232,Du,Xo];refine (Mc R h hn w _ FUEL 0 l.length (by omega) (N4 l w) (Nat.le_refl _) (by rw [Al]; omega)).trans ?_;have hp:=N4 l w;unfold Nq
 by_cases hlt:B4 l w<l.length
 ·simp only [Df hlt,A4 hlt,Int.toNat_natCast,F267,p267,decide_eq_true hlt,Bool.true_and]
  rw [zdw];have hge:=zha h w (Nat.le_refl _) hlt
  by_cases e:(l.getD (B4 l w) zC).1=w
  ·rw [if_neg (Int.not_lt.2 hge),if_neg (show ¬(l.getD (B4 l w) zC).1>w by omega),decide_eq_true e]; rfl
  ·rw [if_neg (Int.not_lt.2 hge),if_pos (show (l.getD (B4 l w) zC).1>w by omega),decide_eq_false e]; rfl
 ·have e1:decide ((B4 l w:Int)<(l.length:Int))=false:=decide_eq_false (by omega)
  simp only [e1,decide_eq_false hlt,Bool.false_and]
theorem zo4 (R:Type) {l:List Cm} (hn:l.length≤1000) (k:List Cm→Option R):F234 R l k=k l:=by
 have:decide (List.length ([]:List Cm)+l.length≤1759218604441)=true:=decide_eq_true (by simp; omega);simp only [F234,this]
def newC (w:Int) (h:List Int):Cm:=(w,h,false,Hc,())
def putL (l:List Cm) (w:Int) (h:List Int):List Cm:=l.take (B4 l w)++[newC w h]++l.drop (B4 l w)
def N3 (l:List Cm) (w:Int) (h:List Int):List Cm×Int:=
 if w<0∨Im l=false then ([],1) else if Nq l w then ([],6) else (putL l w h,0)
theorem F183_eq (R:Type) {l:List Cm} (h:CsOK l) (hn:l.length≤500) (w:Int) (x:List Int) (k:List Cm→Int→Option R):F183 R l w x k=k (N3 l w x).1 (N3 l w x).2:=by
 simp only [F183,p183,N3]
 by_cases hw:w<0
 ·simp only [decide_eq_true hw,if_pos (Or.inl hw)]
 ·simp only [decide_eq_false hw]
  rw [zbh R h (by omega)];cases hr:Im l with
  | false=>simp only [Bool.not_false,or_true,if_true]
  | true=>
   have hn1:¬(w<0∨true=false):=by simp; omega
   simp only [Bool.not_true,if_neg hn1];rw [zo5 R (P9.1 hr) (by omega)];cases ht:Nq l w with
   | true=>simp only [if_true]
   | false=>
    have hp:=N4 l w;have hc:decide ((0:Int)≤(B4 l w:Int)∧(B4 l w:Int)≤(l.length:Int)∧l.length+1≤1759218604441)=true:=decide_eq_true ⟨by omega,by omega,by omega⟩;simp only [Bool.false_eq_true,if_false];rw [zo4 R (by omega)];simp only [List.length_cons,List.length_nil,Nat.zero_add,hc,Int.toNat_natCast];rfl
def setL (l:List Cm) (i:Nat) (v:List Int):List Cm:=l.set i ((l.getD i zC).1,(l.getD i zC).2.1,true,v,())
def revS (l:List Cm) (w:Int) (v:List Int):List Cm×Int:=
 if Im l=false then ([],1) else if Nq l w=false then ([],5) else if (l.getD (B4 l w) zC).2.2.1 then ([],6)
 else if SHA v=(l.getD (B4 l w) zC).2.1 then (setL l (B4 l w) v,0) else ([],13)
theorem zr6 {l:List Cm} {i:Nat} (hi:i<l.length) (v:List Int):
  List.set (List.set l i ((List.getD l i zC).1,(List.getD l i zC).2.1,true,(List.getD l i zC).2.2.2)) i
   ((List.getD (List.set l i ((List.getD l i zC).1,(List.getD l i zC).2.1,true,(List.getD l i zC).2.2.2)) i zC).1,(List.getD (List.set l i ((List.getD l i zC).1,(List.getD l i zC).2.1,true,(List.getD l i zC).2.2.2)) i zC).2.1,(List.getD (List.set l i ((List.getD l i zC).1,(List.getD l i zC).2.1,true,(List.getD l i zC).2.2.2)) i zC).2.2.1,v,(List.getD (List.set l i ((List.getD l i zC).1,(List.getD l i zC).2.1,true,(List.getD l i zC).2.2.2)) i zC).2.2.2.2)=setL l i v:=by
 have e:List.getD (List.set l i ((List.getD l i zC).1,(List.getD l i zC).2.1,true,(List.getD l i zC).2.2.2)) i zC=((List.getD l i zC).1,(List.getD l i zC).2.1,true,(List.getD l i zC).2.2.2):=by
  rw [List.getD_eq_getElem?_getD,List.getElem?_set_self hi]; rfl
 rw [e,List.set_set];rfl
theorem F185_eq (R:Type) {l:List Cm} (h:CsOK l) (hn:l.length≤500) (w:Int) {v:List Int} (hv:H32 v) (k:List Cm→Int→Option R):F185 R l w v k=k (revS l w v).1 (revS l w v).2:=by
 simp only [F185,p185,revS];rw [zbh R h (by omega)];cases hr:Im l with
 | false=>simp only [Bool.not_false,if_pos]
 | true=>
  simp only [Bool.not_true,Bool.true_eq_false,if_false];rw [zo5 R (P9.1 hr) (by omega)];cases ht:Nq l w with
  | false=>simp only [Bool.not_false,if_pos]
  | true=>
   have hp:B4 l w<l.length:=by
    unfold Nq at ht;rw [Bool.and_eq_true] at ht;exact of_decide_eq_true ht.1
   simp only [Bool.not_true,Bool.true_eq_false,if_false,A4 hp,Int.toNat_natCast];cases hd:(l.getD (B4 l w) zC).2.2.1 with
   | true=>simp only [if_pos]
   | false=>
    simp only [Bool.false_eq_true,if_false];rw [zo2 R hv,Ci (zgn v) (h.get _).hash.1]
    by_cases hs:SHA v=(l.getD (B4 l w) zC).2.1
    ·simp only [decide_eq_true hs,Bool.not_true,if_pos hs]
     rw [zo4 R (by omega)];have hq:B4 l w<(List.set l (B4 l w) ((List.getD l (B4 l w) zC).1,(List.getD l (B4 l w) zC).2.1,true,(List.getD l (B4 l w) zC).2.2.2)).length:=by rw [List.length_set]; exact hp
     simp only [A4 hp,A4 hq,zr6 hp]
    ·simp only [decide_eq_false hs,Bool.not_false,if_neg hs]
theorem zx4 (R:Type) {a b:List Cm} (ha:CsOK a) (hb:CsOK b) (hl:a.length=b.length) (hn:a.length≤1000) (k0:Bool→Option R) (k1:Option R):∀(m i:Nat),i≤a.length→a.length - i<m→
  Zw m R a b (i:Int) k0 k1=if a.drop i=b.drop i then k1 else k0 false
 | 0,i,_,h=>by omega
 | m+1,i,h1,h2=>by
  simp only [Zw,p63_4]
  by_cases hi:i<a.length
  ·have hib:i<b.length:=by omega
   have ih:=zx4 R ha hb hl hn k0 k1 m (i+1) (by omega) (by omega);simp only [Df hi,A4 hi,A4 hib,Int.toNat_natCast,Cc hi hn];rw [eqvC (ha.get i) (hb.get i),ih,List.drop_eq_getElem_cons hi,List.drop_eq_getElem_cons hib];have g1:a.getD i zC=a[i]:=by simp [hi]
   have g2:b.getD i zC=b[i]:=by simp [hib]
   rw [g1,g2]
   by_cases e:a[i]=b[i]
   ·simp only [decide_eq_true e,Bool.not_true]
    simp only [e,List.cons.injEq,true_and]
   ·simp only [decide_eq_false e,Bool.not_false]
    simp only [List.cons.injEq,e,false_and,if_false]
  ·have:i=a.length:=by omega
   subst this;simp only [Cx];rw [List.drop_length,hl,List.drop_length,if_pos rfl]
theorem F63_eq (R:Type) {a b:List Cm} (ha:CsOK a) (hb:CsOK b) (hn:a.length≤1000) (k:Bool→Option R):F63 R a b k=k (decide (a=b)):=by
 simp only [F63,p63]
 by_cases hl:a.length=b.length
 ·have e:((a.length:Int) !=(b.length:Int))=false:=by simp [hl]
  simp only [e];refine (zx4 R ha hb hl hn (fun x4=>k x4) (k true) FUEL 0 (by omega) (by rw [Al]; omega)).trans ?_;rw [List.drop_zero,List.drop_zero]
  by_cases h:a=b
  ·rw [if_pos h,decide_eq_true h]
  ·rw [if_neg h,decide_eq_false h]
 ·have e:((a.length:Int) !=(b.length:Int))=true:=by simp; omega
  have h:a≠b:=fun h=>hl (by rw [h])
  simp only [e,decide_eq_false h]
def W9 (l:List Cm):List (List Int):=(l.filter (fun c=>c.2.2.1)).map (fun c=>c.2.2.2.1)
def mixS (l:List Cm):List Int:=zbs (W9 l)
def G7 (l:List Cm):List Int:=(l.filter (fun c=> !c.2.2.1)).map (fun c=>c.1)
theorem zry {l:List Cm} (h:CsOK l):∀x∈W9 l,H32 x:=by
 intro x hx;obtain ⟨c,hc,rfl⟩:=List.mem_map.1 hx;exact (h c (List.mem_filter.1 hc).1).value
theorem zil {l:List Cm} (h:CsOK l):H32 (mixS l):=zf8 (zry h)
theorem zd5 (c:Cm) (l:List Cm):W9 (c::l)=match c.2.2.1 with | true=>c.2.2.2.1::W9 l | false=>W9 l:=by
 unfold W9;rw [List.filter_cons];cases c.2.2.1<;>rfl
theorem zek (c:Cm) (l:List Cm):G7 (c::l)=match c.2.2.1 with | true=>G7 l | false=>c.1::G7 l:=by
 unfold G7;rw [List.filter_cons];cases c.2.2.1<;>rfl
theorem Z7 (R:Type) {l:List Cm} (h:CsOK l) (hn:l.length≤1000) (k0:List Int→Option R):∀(m i:Nat) (x:List Int),H32 x→i≤l.length→l.length - i<m→
  Ph m R l (l.length:Int) (i:Int) x k0=k0 ((W9 (l.drop i)).foldl xorS x)
 | 0,i,_,_,_,h=>by omega
 | m+1,i,x,hx,h1,h2=>by
  simp only [Ph,zhv]
  by_cases hi:i<l.length
  ·have g1:l.getD i zC=l[i]:=by simp [hi]
   have hc:=h.get i;rw [g1] at hc;simp only [Df hi,A4 hi,Int.toNat_natCast,Cc hi hn];rw [show List.getD l i ((0:Int),(List.replicate 32 (0:Int)),false,(List.replicate 32 (0:Int)),())=l[i] from g1];rw [List.drop_eq_getElem_cons hi,zd5];cases hb:l[i].2.2.1 with
   | true=>
    simp only;rw [F79_eq R (fun y hy=>by
     simp only [List.mem_cons,List.not_mem_nil,or_false] at hy;rcases hy with rfl | rfl
     ·exact hx
     ·exact hc.value) (by simp)]
    have e:zbs [x,l[i].2.2.2.1]=xorS x l[i].2.2.2.1:=by
     show xorS (xorS Hc x) _=_;rw [xor0 hx]
    rw [e];exact Z7 R h hn k0 m (i+1) _ (W0 hx hc.value) (by omega) (by omega)
   | false=>exact Z7 R h hn k0 m (i+1) _ hx (by omega) (by omega)
  ·have:i=l.length:=by omega
   subst this;simp only [Cx,List.drop_length];rfl
theorem zo3 (R:Type) {l:List Cm} (h:CsOK l) (hn:l.length≤1000) (k:List Int→Option R):F235 R l k=k (mixS l):=by
 simp only [F235,p235];exact Z7 R h hn (fun x2=>k x2) FUEL 0 Hc A6 (by omega) (by rw [Al]; omega)
theorem zej {l:List Cm} {i:Nat} (hi:i<l.length):G7 (l.take (i+1))=G7 (l.take i)++G7 [l[i]]:=by
 unfold G7;rw [List.take_succ_eq_append_getElem hi,List.filter_append,List.map_append]
theorem zcr (l:List Cm):(G7 l).length≤l.length:=by
 unfold G7;rw [List.length_map];exact List.length_filter_le _ _
theorem zds (R:Type) {l:List Cm} (hn:l.length≤1000) (k0:List Int→Option R):∀(m i:Nat),i≤l.length→l.length - i<m→
  Pb m R l (l.length:Int) (i:Int) (G7 (l.take i)) k0=k0 (G7 l)
 | 0,i,_,h=>by omega
 | m+1,i,h1,h2=>by
  simp only [Pb,zhn]
  by_cases hi:i<l.length
  ·have g1:l.getD i zC=l[i]:=by simp [hi]
   have ih:=zds R hn k0 m (i+1) (by omega) (by omega);simp only [Df hi,A4 hi,Int.toNat_natCast,Cc hi hn];rw [show List.getD l i ((0:Int),(List.replicate 32 (0:Int)),false,(List.replicate 32 (0:Int)),())=l[i] from g1];rw [zej hi,zek] at ih;have hle:=zcr (l.take i);have hc:decide ((G7 (l.take i)).length+1≤17592186044416)=true:=decide_eq_true (by simp at hle; omega);have e:G7 ([]:List Cm)=[]:=rfl;cases hb:l[i].2.2.1 with
   | true=>
    rw [hb] at ih;simp only [e,List.append_nil] at ih;exact ih
   | false=>
    rw [hb] at ih;simp only [List.length_cons,List.length_nil,Nat.zero_add,Bool.not_false,hc];exact ih
  ·have:i=l.length:=by omega
   subst this;simp only [Cx,List.take_length]
theorem zwt (R:Type) {l:List Cm} (hn:l.length≤1000) (k:List Int→Option R):F271 R l k=k (G7 l):=by
 simp only [F271,p271];exact zds R hn (fun x2=>k x2) FUEL 0 (by omega) (by rw [Al]; omega)
theorem newC_ok {w:Int} (hw:I64 w) {h:List Int} (hh:H32 h):CmOK (newC w h):=⟨hw,hh,A6⟩
theorem putL_ok {l:List Cm} (hl:CsOK l) {w:Int} (hw:I64 w) {h:List Int} (hh:H32 h):CsOK (putL l w h):=by
 intro c hc;unfold putL at hc;rcases List.mem_append.1 hc with h1 | h1
 ·rcases List.mem_append.1 h1 with h2 | h2
  ·exact hl c (List.mem_of_mem_take h2)
  ·simp only [List.mem_cons,List.not_mem_nil,or_false] at h2
   rw [h2]; exact newC_ok hw hh
 ·exact hl c (List.mem_of_mem_drop h1)
theorem zsj (l:List Cm) (w:Int) (h:List Int):(putL l w h).length=l.length+1:=by
 have:=N4 l w;simp [putL]; omega
theorem Ug {l:List Cm} (hl:CsOK l) {w:Int} (hw:I64 w) {h:List Int} (hh:H32 h):CsOK (N3 l w h).1∧(N3 l w h).1.length≤l.length+1:=by
 unfold N3;split
 ·exact ⟨fun c hc=>(by cases hc),by simp⟩
 ·split
  ·exact ⟨fun c hc=>(by cases hc),by simp⟩
  ·exact ⟨putL_ok hl hw hh,Nat.le_of_eq (zsj l w h)⟩
theorem setL_ok {l:List Cm} (hl:CsOK l) (i:Nat) {v:List Int} (hv:H32 v):CsOK (setL l i v):=by
 intro c hc;rcases List.mem_or_eq_of_mem_set hc with h1 | h1
 ·exact hl c h1
 ·rw [h1]
  have:=hl.get i;exact ⟨this.who,this.hash,hv⟩
theorem zr9 (l:List Cm) (i:Nat) (v:List Int):(setL l i v).length=l.length:=by unfold setL; exact List.length_set
theorem zgx {l:List Cm} (hl:CsOK l) (w:Int) {v:List Int} (hv:H32 v):CsOK (revS l w v).1∧(revS l w v).1.length≤l.length:=by
 have nil:CsOK []∧([]:List Cm).length≤l.length:=⟨fun c hc=>(by cases hc),by simp⟩
 unfold revS;split
 ·exact nil
 ·split
  ·exact nil
  ·split
   ·exact nil
   ·split
    ·exact ⟨setL_ok hl _ hv,Nat.le_of_eq (zr9 _ _ _)⟩
    ·exact nil
abbrev Bea:=Int×(List Int×(List Int×(List Cm×Unit)))
abbrev zB:Bea:=((0:Int),(List.replicate 32 (0:Int)),(List.replicate 32 (0:Int)),([]:List Cm),())
structure Gf (b:Bea):Prop where
 ep:0≤b.1∧b.1<18446744073709551616
 seed:H32 b.2.1
 mix:H32 b.2.2.1
 cs:CsOK b.2.2.2.1
theorem nilOK:CsOK []:=fun c hc=>(by cases hc)
theorem Tg:Gf zB:=⟨by show (0:Int)≤0∧(0:Int)<18446744073709551616; omega,A6,A6,nilOK⟩
def Iq (b:Bea):Bool:=Im b.2.2.2.1&&decide (mixS b.2.2.2.1=b.2.2.1)
theorem zo6 (R:Type) {b:Bea} (h:Gf b) (hn:b.2.2.2.1.length≤500) (k:Bool→Option R):F230 R b k=k (Iq b):=by
 simp only [F230,p230,Iq];rw [zbh R h.cs (by omega)];cases Im b.2.2.2.1 with
 | false=>simp only [Bool.false_and]
 | true=>
  simp only [Bool.true_and];rw [zo3 R h.cs (by omega),Ci (zil h.cs).1 h.mix.1]
def Pv (b:Bea) (r:List Cm×Int):Bea×Int:=if r.2=0 then ((b.1,b.2.1,mixS r.1,r.1,()),0) else (zB,r.2)
def Dd (b:Bea) (ph w:Int) (h:List Int):Bea×Int:=
 if Iq b=false then (zB,1) else if ph=1 then Pv b (N3 b.2.2.2.1 w h) else (zB,7)
def Dc (b:Bea) (ph w:Int) (v:List Int):Bea×Int:=
 if Iq b=false then (zB,1) else if ph=2 then Pv b (revS b.2.2.2.1 w v) else (zB,7)
theorem zpf (R:Type) (b:Bea) {l:List Cm} (h:CsOK l) (hn:l.length≤1000) (e:Int) (k:Bea→Int→Option R):F184 R b l e k=k (Pv b (l,e)).1 (Pv b (l,e)).2:=by
 simp only [F184,p184,Pv]
 by_cases he:e=0
 ·subst he
  simp only [show ((0:Int) !=0)=false from rfl,if_true];rw [zo3 R h hn]
 ·have:(e !=0)=true:=by simp [he]
  simp only [this,if_neg he]
theorem zpg (R:Type) {b:Bea} (h:Gf b) (hn:b.2.2.2.1.length≤500) (ph w:Int) (k:Int→Option R):F182 R b ph w k=k (if Iq b=false then 1 else if ph=w then 0 else 7):=by
 simp only [F182,p182];rw [zo6 R h hn];cases Iq b with
 | false=>simp only [Bool.not_false,if_true]
 | true=>
  simp only [Bool.not_true,Bool.true_eq_false,if_false]
  by_cases e:ph=w
  ·have:(ph !=w)=false:=by simp [e]
   simp only [this,if_pos e]
  ·have:(ph !=w)=true:=by simp [e]
   simp only [this,if_neg e]
theorem F131_eq (R:Type) {b:Bea} (h:Gf b) (hn:b.2.2.2.1.length≤400) (ph:Int) {w:Int} (hw:I64 w) {x:List Int} (hx:H32 x) (k:Bea→Int→Option R):F131 R b ph w x k=k (Dd b ph w x).1 (Dd b ph w x).2:=by
 simp only [F131,p131,Dd];rw [zpg R h (by omega)];cases Iq b with
 | false=>simp only [if_true,show ((1:Int) !=0)=true from rfl]
 | true=>
  simp only [Bool.true_eq_false,if_false]
  by_cases e:ph=1
  ·simp only [if_pos e,show ((0:Int) !=0)=false from rfl]
   obtain ⟨p1,p2⟩:=Ug h.cs hw hx;rw [F183_eq R h.cs (by omega),zpf R b p1 (by omega)]
  ·simp only [if_neg e,show ((7:Int) !=0)=true from rfl]
theorem F133_eq (R:Type) {b:Bea} (h:Gf b) (hn:b.2.2.2.1.length≤400) (ph w:Int) {x:List Int} (hx:H32 x) (k:Bea→Int→Option R):F133 R b ph w x k=k (Dc b ph w x).1 (Dc b ph w x).2:=by
 simp only [F133,p133,Dc];rw [zpg R h (by omega)];cases Iq b with
 | false=>simp only [if_true,show ((1:Int) !=0)=true from rfl]
 | true=>
  simp only [Bool.true_eq_false,if_false]
  by_cases e:ph=2
  ·simp only [if_pos e,show ((0:Int) !=0)=false from rfl]
   obtain ⟨p1,p2⟩:=zgx h.cs w hx;rw [F185_eq R h.cs (by omega) _ hx,zpf R b p1 (by omega)]
  ·simp only [if_neg e,show ((7:Int) !=0)=true from rfl]
abbrev Fol:=Int×(List Int×(List Int×(List Int×Unit)))
abbrev zF:Fol:=((0:Int),(List.replicate 32 (0:Int)),(List.replicate 32 (0:Int)),(List.replicate 32 (0:Int)),())
def bEnd (b:Bea):Bea×Fol×List Int×Int:=
 if Iq b=false then (zB,zF,[],1) else if b.1=18446744073709551615 then (zB,zF,[],3)
 else ((b.1+1,Xe b.2.1 b.1 b.2.2.1,Hc,[],()),(b.1,b.2.1,b.2.2.1,Xe b.2.1 b.1 b.2.2.1,()),G7 b.2.2.2.1,0)
theorem F237_eq (R:Type) {b:Bea} (h:Gf b) (hn:b.2.2.2.1.length≤400) (k:Bea→Fol→List Int→Int→Option R):F237 R b k=k (bEnd b).1 (bEnd b).2.1 (bEnd b).2.2.1 (bEnd b).2.2.2:=by
 simp only [F237,p237,bEnd];rw [zo6 R h (by omega)];cases Iq b with
 | false=>simp only [if_true,Bool.not_false]
 | true=>
  simp only [Bool.true_eq_false,if_false,Bool.not_true];have hep:=h.ep
  by_cases e:b.1=18446744073709551615
  ·have e1:(b.1==18446744073709551615)=true:=by simp [e]
   simp only [if_pos e,e1]
  ·have e1:(b.1==18446744073709551615)=false:=by simp [e]
   simp only [if_neg e,e1];rw [F80_eq R h.seed h.mix,zwt R (by omega),Aj (by omega) (by omega)];rfl
def ze2 (a b:Bea):Bool:=a.1==b.1&&(decide (a.2.1=b.2.1)&&(decide (a.2.2.1=b.2.2.1)&&decide (a.2.2.2.1=b.2.2.2.1)))
theorem ze1 (a:Bea):ze2 a a=true:=by simp [ze2]
theorem F35_eq (R:Type) {a b:Bea} (ha:Gf a) (hb:Gf b) (hn:a.2.2.2.1.length≤1000) (k:Bool→Option R):F35 R a b k=k (ze2 a b):=by
 simp only [F35,p35,ze2];rw [ Ci ha.seed.1 hb.seed.1,Ci ha.mix.1 hb.mix.1];cases (a.1==b.1) with
 | false=>simp only [Bool.false_and]
 | true=>
  simp only [Bool.true_and];cases decide (a.2.1=b.2.1) with
  | false=>simp only [Bool.false_and]
  | true=>
   simp only [Bool.true_and];cases decide (a.2.2.1=b.2.2.1) with
   | false=>simp only [Bool.false_and]
   | true=>
    simp only [Bool.true_and];rw [F63_eq R ha.cs hb.cs hn]
theorem zbu {b:Bea} (h:Gf b) {r:List Cm×Int} (hr:CsOK r.1) {n:Nat} (hn:r.1.length≤n):Gf (Pv b r).1∧(Pv b r).1.2.2.2.1.length≤n:=by
 unfold Pv;split
 ·exact ⟨⟨h.ep,h.seed,zil hr,hr⟩,hn⟩
 ·exact ⟨Tg,Nat.zero_le _⟩
theorem zfa {b:Bea} (h:Gf b) (ph:Int) {w:Int} (hw:I64 w) {x:List Int} (hx:H32 x):Gf (Dd b ph w x).1∧(Dd b ph w x).1.2.2.2.1.length≤b.2.2.2.1.length+1:=by
 obtain ⟨p1,p2⟩:=Ug h.cs hw hx;unfold Dd;split
 ·exact ⟨Tg,Nat.zero_le _⟩
 ·split
  ·exact zbu h p1 p2
  ·exact ⟨Tg,Nat.zero_le _⟩
theorem ze8 {b:Bea} (h:Gf b) (ph w:Int) {x:List Int} (hx:H32 x):Gf (Dc b ph w x).1∧(Dc b ph w x).1.2.2.2.1.length≤b.2.2.2.1.length:=by
 obtain ⟨p1,p2⟩:=zgx h.cs w hx;unfold Dc;split
 ·exact ⟨Tg,Nat.zero_le _⟩
 ·split
  ·exact zbu h p1 p2
  ·exact ⟨Tg,Nat.zero_le _⟩
theorem Rm (a:List Int) (e:Int) (b:List Int):H32 (Xe a e b):=zln _
theorem bEnd_ok {b:Bea} (h:Gf b):Gf (bEnd b).1∧(bEnd b).1.2.2.2.1.length=0:=by
 unfold bEnd;split
 ·exact ⟨Tg,rfl⟩
 ·split
  ·exact ⟨Tg,rfl⟩
  ·have:=h.ep
   exact ⟨⟨⟨by show (0:Int)≤b.1+1; omega,by show b.1+1<(18446744073709551616:Int); omega⟩,Rm _ _ _,A6,nilOK⟩,rfl⟩
theorem P5:H32 (List.replicate 32 (0:Int)):=A6
theorem zk6 (b:Bea):(bEnd b).2.2.1.length≤b.2.2.2.1.length:=by
 unfold bEnd;split
 ·exact Nat.zero_le _
 ·split
  ·exact Nat.zero_le _
  ·exact zcr _
theorem zjp {x b:Int} (hx:U32 x) (hb:U32 b):ior .u64 (ishl .u64 x 32) b=x*4294967296+b:=by
 unfold U32 at hx hb;obtain ⟨n,rfl⟩:∃n:Nat,x=n:=⟨x.toNat,by omega⟩
 obtain ⟨c,rfl⟩:∃c:Nat,b=c:=⟨b.toNat,by omega⟩
 have e2:ishl .u64 (n:Int) 32=((n*4294967296:Nat):Int):=by
  unfold ishl;rw [show (2:Int)^(min (32:Int).toNat IntKind.u64.bits)=4294967296 by decide,Aj (by omega) (by omega)];simp
 rw [e2,Za,BitVec.ofInt_natCast,BitVec.ofInt_natCast,BitVec.toNat_or,BitVec.toNat_ofNat,BitVec.toNat_ofNat,Nat.mod_eq_of_lt (by omega),Nat.mod_eq_of_lt (by omega)];have h6:=Nat.shiftLeft_add_eq_or_of_lt (i:=32) (b:=c) (by omega) n;rw [Nat.shiftLeft_eq] at h6;rw [show n*4294967296=n*2^32 by rfl,←h6];simp
theorem F277_eq (R:Type) {a b:Int} (ha:U32 a) (hb:U32 b) (k:Int→Option R):F277 R a b k=k (a*4294967296+b):=by
 have u:=ha; have v:=hb;unfold U32 at u v;simp only [F277,p277];rw [Aj (n:=a) (by omega) (by omega),Aj (n:=b) (by omega) (by omega),zjp ha hb]
abbrev Src:=Int×(List Int×(Int×(List Int×(Int×(Int×Unit)))))
abbrev Rdr:=Src×(List Int×(Int×(Bool×Unit)))
def atS (s:Src):Int:=s.2.2.2.2.2.1
def Cd (s:Src) (n:Int):Src:=(s.1,s.2.1,s.2.2.1,s.2.2.2.1,s.2.2.2.2.1,n,())
structure SOK (s:Src):Prop where
 tape:AllU8 s.2.1
 len:s.2.1.length≤1000000
 bits:U64 s.2.2.1
 seed:H32 s.2.2.2.1
 dom:U64 s.2.2.2.2.1
 at_:U64 s.2.2.2.2.2.1
theorem SOK.set {s:Src} (h:SOK s) {n:Int} (hn:U64 n):SOK (Cd s n):=⟨h.tape,h.len,h.bits,h.seed,h.dom,hn⟩
def Bh (s:Src):Bool:=if s.1=1 then decide (s.2.2.1≤8*(s.2.1.length:Int)∧s.2.2.2.2.2.1≤s.2.2.1) else decide (s.1=2∧s.2.2.2.2.2.1≤4611686018427387904)
def endS (s:Src):Int:=if s.1=1 then s.2.2.1 else 4611686018427387904
def Ee (s:Src):Int:=if Bh s=true then endS s - s.2.2.2.2.2.1 else 0
def Vg (s:Src) (n:Int):Int:=if s.1=1 then s.2.1.getD (n/8).toNat 0/2^(7 - n % 8).toNat % 2 else bitS s.2.2.2.1 s.2.2.2.2.1 n
theorem zov (R:Type) {s:Src} (h:SOK s) (k:Int→Bool→Option R):F331 R s k=(if s.1=1 then k s.2.2.1 (decide (s.2.2.1≤8*(s.2.1.length:Int))) else if s.1=2 then k 4611686018427387904 true else k 0 false):=by
 have hl:=h.len;simp only [F331,p331];rw [Aj (n:=(s.2.1.length:Int)) (by omega) (by omega),Aj (n:=(s.2.1.length:Int)*8) (by omega) (by omega),Int.mul_comm]
 by_cases h1:s.1=1
 ·simp [h1]
 ·by_cases h2:s.1=2
  ·simp [h2]
  ·simp only [beq_eq_false_iff_ne.2 h1,beq_eq_false_iff_ne.2 h2,if_neg h1,if_neg h2]
theorem Ta (R:Type) {s:Src} (h:SOK s) (k:Bool→Option R):F318 R s k=k (Bh s):=by
 simp only [F318,p318];rw [zov R h];unfold Bh
 by_cases h1:s.1=1
 ·simp only [h1,if_true]
  by_cases h2:s.2.2.1≤8*(s.2.1.length:Int)
  ·simp [h2]
  ·simp [h2]
 ·simp only [h1,if_false]
  by_cases h2:s.1=2
  ·simp [h2]
  ·simp [h2]
theorem F5 {s:Src} (h:Bh s=true):(s.1=1∧s.2.2.1≤8*(s.2.1.length:Int)∧s.2.2.2.2.2.1≤s.2.2.1∧endS s=s.2.2.1)∨(s.1=2∧s.2.2.2.2.2.1≤4611686018427387904∧endS s=4611686018427387904):=by
 unfold Bh at h;unfold endS
 by_cases h1:s.1=1
 ·rw [if_pos h1] at h ⊢
  have:=of_decide_eq_true h;exact .inl ⟨h1,this.1,this.2,rfl⟩
 ·rw [if_neg h1] at h ⊢
  have:=of_decide_eq_true h;exact .inr ⟨this.1,this.2,rfl⟩
theorem Oa {s:Src} (hs:SOK s):0≤Ee s∧Ee s≤4611686018427387904∧(Bh s=true→s.2.2.2.2.2.1+Ee s=endS s):=by
 have h1:=hs.at_; have h2:=hs.bits; have h3:=hs.len;unfold U64 at h1 h2;unfold Ee
 by_cases h:Bh s=true
 ·rw [if_pos h]
  rcases F5 h with ⟨_,a2,a3,a4⟩ | ⟨_,a2,a3⟩
  ·rw [a4]; omega
  ·rw [a3]; omega
 ·rw [if_neg h]
  exact ⟨by omega,by omega,fun e=>absurd e h⟩
theorem F327_eq (R:Type) {s:Src} (h:SOK s) (k:Int→Option R):F327 R s k=k (Ee s):=by
 have hl:=Oa h;simp only [F327,p327];rw [Ta R h,zov R h];unfold Ee at*
 by_cases hr:Bh s=true
 ·have hr':=hr
  simp only [hr,Bool.not_true,if_true] at hl ⊢;rcases F5 hr' with ⟨a1,a2,a3,a4⟩ | ⟨a1,a2,a3⟩
  ·rw [if_pos a1,a4,Aj (by rw [a4] at hl; omega) (by rw [a4] at hl; omega)]
  ·rw [if_neg (by omega),if_pos a1,a3,Aj (by rw [a3] at hl; omega) (by rw [a3] at hl; omega)]
 ·simp only [Bool.not_eq_true] at hr
  simp [hr]
theorem Vf (s:Src) (n:Int):0≤Vg s n∧Vg s n≤1:=by
 unfold Vg bitS;split<;>omega
def RI (r:Rdr):Prop:=r.2.2.2.1=true→r.2.1=Mp r.1.2.2.2.1 r.1.2.2.2.2.1 r.2.2.1
theorem zjs {x:Int} (hx:U8 x):iand .u8 x 1=x % 2:=by
 unfold U8 at hx;obtain ⟨y,rfl⟩:∃y:Nat,x=y:=⟨x.toNat,by omega⟩
 have e:iand .u8 (y:Int) 1=((BitVec.ofInt 8 (y:Int)&&& BitVec.ofInt 8 ((1:Nat):Int)).toNat:Int):=zbt _;rw [e,BitVec.ofInt_natCast,BitVec.ofInt_natCast,BitVec.toNat_and,BitVec.toNat_ofNat,BitVec.toNat_ofNat,Nat.mod_eq_of_lt (by omega),Nat.mod_eq_of_lt (by omega),show (1:Nat)=2^1 - 1 by rfl,Nat.and_two_pow_sub_one_eq_mod];simp
theorem zgc (R:Type) (r:Rdr) {y:Int} (hy:U8 y) (hat:0≤atS r.1∧atS r.1<9000000000000000000) (q:List Int×(Int×(Bool×Unit))) (k:Int→Rdr→Option R):
  u328 R r y q k=k (y/2^(7 - atS r.1 % 8).toNat % 2) (Cd r.1 (atS r.1+1),q):=by
 unfold atS at*;simp only [u328];unfold Cd;generalize r.1.2.2.2.2.2.1=n at*;rw [Int.tmod_eq_emod_of_nonneg hat.1,Aj (n:=7 - n % 8) (by omega) (by omega),Aj (n:=n+1) (by omega) (by omega)];obtain ⟨m,hm⟩:∃m:Nat,7 - n % 8=m:=⟨(7 - n % 8).toNat,by omega⟩
 rw [hm,Int.toNat_natCast];have e8:ishr .u8 y (m:Int)=y/2^m:=by
  unfold ishr;rw [show IntKind.u8.bits=8 from rfl,Int.toNat_natCast,Nat.min_eq_left (by omega),Int.fdiv_eq_ediv_of_nonneg _ (by have:=two_pow_pos m; omega)]
 unfold U8 at hy;have hp:(0:Int)<2^m:=Int.pow_pos (by decide);have hq:0≤y/2^m∧y/2^m≤y:=⟨Int.ediv_nonneg hy.1 (by omega),Int.ediv_le_self _ hy.1⟩
 rw [e8,zjs (by unfold U8; omega),Aj (by omega) (by omega)]
theorem F328_eq (R:Type) {r:Rdr} (h:SOK r.1) (hi:RI r) (hk:(r.1.1=1∧atS r.1<8*(r.1.2.1.length:Int))∨r.1.1=2) (hat:atS r.1<9000000000000000000) (k:Int→Rdr→Option R):
  ∃q,RI (Cd r.1 (atS r.1+1),q)∧F328 R r k=k (Vg r.1 (atS r.1)) (Cd r.1 (atS r.1+1),q):=by
 have hl:=h.len;have ha:=h.at_;have hat':0≤atS r.1∧atS r.1<9000000000000000000:=⟨ha.1,hat⟩
 simp only [F328];show ∃q,RI (Cd r.1 (atS r.1+1),q)∧(F334 R r (IntKind.u64.wrap (Int.tdiv (atS r.1) 8)) fun y2 p3=>match decide (0≤IntKind.u64.wrap (7 - Int.tmod (atS r.1) 8)) with | true=>u328 R r y2 p3.2 k | false=>none)=_
 have hdc:decide (0≤IntKind.u64.wrap (7 - Int.tmod (atS r.1) 8))=true:=by
  rw [D5]; exact decide_eq_true (by omega)
 simp only [hdc];rw [Int.tdiv_eq_ediv_of_nonneg hat'.1,Aj (n:=atS r.1/8) (by omega) (by omega)];simp only [F334,p334];generalize hn:atS r.1=n at*;unfold Vg;rcases hk with ⟨a1,a2⟩ | a1
 ·have e1:(r.1.1==1)=true:=by simp [a1]
  have hb:bnd (n/8) (r.1.2.1.length:Int)=true:=by unfold bnd; simp; omega
  simp only [e1,hb];refine ⟨r.2,hi,?_⟩;rw [if_pos a1,zgc R r (Au h.tape u8_0 _) (by rw [hn]; exact hat'),hn]
 ·have e1:(r.1.1==1)=false:=by simp [a1]
  simp only [e1];rw [if_neg (by omega),Int.tdiv_eq_ediv_of_nonneg (by omega),Aj (n:=n/8/32) (by omega) (by omega),Int.tmod_eq_emod_of_nonneg (by omega)];have hb:bnd (n/8 % 32) 32=true:=by unfold bnd; simp; omega
  have hbit:(Mp r.1.2.2.2.1 r.1.2.2.2.2.1 (n/8/32)).getD (n/8 % 32).toNat 0/2^(7 - n % 8).toNat % 2=bitS r.1.2.2.2.1 r.1.2.2.2.2.1 n:=by
   unfold bitS;rw [show n/8/32=n/256 by omega,show n/8 % 32=n % 256/8 by omega]
  have hu:=fun i=>Au (zk2 r.1.2.2.2.1 r.1.2.2.2.2.1 (n/8/32)).2 u8_0 i
  have go:∀q,u328 R r ((Mp r.1.2.2.2.1 r.1.2.2.2.2.1 (n/8/32)).getD (n/8 % 32).toNat 0) q k=k (bitS r.1.2.2.2.1 r.1.2.2.2.2.1 n) (Cd r.1 (n+1),q):=fun q=>by
   rw [zgc R r (hu _) (by rw [hn]; exact hat'),hn,hbit]
  have G9:(F335 R r.1.2.2.2.1 r.1.2.2.2.2.1 (n/8/32) fun y5=>match bnd (n/8 % 32) 32 with
    | true=>u328 R r (y5.getD (n/8 % 32).toNat 0) (r.1,y5,n/8/32,true,r.2.2.2.2).2 k
    | false=>none)=k (bitS r.1.2.2.2.1 r.1.2.2.2.2.1 n) (Cd r.1 (n+1),(Mp r.1.2.2.2.1 r.1.2.2.2.2.1 (n/8/32),n/8/32,true,())):=by
   rw [F335_eq R h.seed];simp only [hb];exact go _
  cases hs:r.2.2.2.1 with
  | false=>
   simp only [Bool.not_false];exact ⟨_,fun _=>rfl,G9⟩
  | true=>
   simp only [Bool.not_true]
   by_cases hne:n/8/32=r.2.2.1
   ·have e2:(n/8/32 !=r.2.2.1)=false:=by simp [hne]
    simp only [e2,hb];refine ⟨r.2,fun e=>hi e,?_⟩;have:=hi hs;rw [←hne] at this;rw [this];exact go _
   ·have e2:(n/8/32 !=r.2.2.1)=true:=by simp [hne]
    simp only [e2];exact ⟨_,fun _=>rfl,G9⟩
def M2 (s:Src) (a:Int):Nat→Int
 | 0=>0
 | n+1=>2*M2 s a n+Vg s (a+n)
theorem It (s:Src) (a:Int):∀n:Nat,0≤M2 s a n∧M2 s a n<2^n
 | 0=>by simp [M2]
 | n+1=>by
  have ih:=It s a n;have hb:=Vf s (a+n);simp only [M2];rw [Int.pow_succ];omega
theorem zui {x b:Int} (hx:0≤x∧x<9223372036854775808) (hb:0≤b∧b≤1):ior .u64 (ishl .u64 x 1) b=2*x+b:=by
 obtain ⟨n,rfl⟩:∃n:Nat,x=n:=⟨x.toNat,by omega⟩
 obtain ⟨c,rfl⟩:∃c:Nat,b=c:=⟨b.toNat,by omega⟩
 have e2:ishl .u64 (n:Int) 1=((n*2:Nat):Int):=by
  unfold ishl;rw [show (2:Int)^(min (1:Int).toNat IntKind.u64.bits)=2 by decide,Aj (by omega) (by omega)];simp
 rw [e2,Za,BitVec.ofInt_natCast,BitVec.ofInt_natCast,BitVec.toNat_or,BitVec.toNat_ofNat,BitVec.toNat_ofNat,Nat.mod_eq_of_lt (by omega),Nat.mod_eq_of_lt (by omega)];have h6:=Nat.shiftLeft_add_eq_or_of_lt (i:=1) (b:=c) (by omega) n;rw [Nat.shiftLeft_eq] at h6;rw [show n*2=n*2^1 by rfl,←h6];simp; omega
theorem Nw (s:Src) (x y:Int):Cd (Cd s x) y=Cd s y:=rfl
theorem atS_set (s:Src) (x:Int):atS (Cd s x)=x:=rfl
theorem zmp (R:Type) {s:Src} (h:SOK s) {K:Nat} (hK:K≤64) (hk:(s.1=1∧atS s+K≤8*(s.2.1.length:Int))∨s.1=2) (hat:atS s+K<9000000000000000000) (x4:Src) (k0:Int→Src→Rdr→Option R):
  ∀(m i:Nat) (r:Rdr),i≤K→K - i<m→r.1=Cd s (atS s+i)→RI r→∃q,Mu m R (M2 s (atS s) i) (K:Int) (i:Int) x4 r k0=k0 (M2 s (atS s) K) x4 (Cd s (atS s+K),q)
 | 0,i,_,_,h,_,_=>by omega
 | m+1,i,r,h1,h2,hr,hi=>by
  simp only [Mu,zhg];have h0:=h.at_;unfold U64 at h0;have h0':0≤atS s:=h0.1
  by_cases hlt:i<K
  ·have hd:decide ((i:Int)<(K:Int))=true:=by simpa using hlt
   simp only [hd];have hra:atS r.1=atS s+i:=by rw [hr]; rfl
   have hlen:r.1.2.1=s.2.1:=by rw [hr]; rfl
   have hknd:r.1.1=s.1:=by rw [hr]; rfl
   obtain ⟨q,g1,g2⟩:=F328_eq R (r:=r) (by rw [hr]; exact h.set (by unfold U64; omega)) hi (by
    rw [hra,hlen,hknd];rcases hk with ⟨b1,b2⟩ | b1
    ·exact .inl ⟨b1,by omega⟩
    ·exact .inr b1) (by rw [hra]; omega) (fun y8 p9=>Mu m R (ior .u64 (ishl .u64 (M2 s (atS s) i) 1) y8) (K:Int) (IntKind.i64.wrap ((i:Int)+1)) x4 p9 k0)
   have hv:=It s (atS s) i;have hp:(2:Int)^i≤9223372036854775808:=by
    have:(2:Nat)^i≤2^63:=Nat.pow_le_pow_right (by omega) (by omega);have e:((2^i:Nat):Int)=(2:Int)^i:=by simp
    omega
   have hbt:Vg r.1 (atS r.1)=Vg s (atS s+i):=by rw [hra,hr]; rfl
   obtain ⟨q2,g3⟩:=zmp R h hK hk hat x4 k0 m (i+1) (Cd r.1 (atS r.1+1),q) (by omega) (by omega) (by
    show Cd r.1 (atS r.1+1)=_;rw [hra,hr,Nw]
    congr 1
    omega) g1
   refine ⟨q2,?_⟩;rw [g2,zui ⟨hv.1,by omega⟩ (Vf _ _),hbt,wrap_i64 (n:=(i:Int)+1) (by omega) (by omega)];exact g3
  ·have:i=K:=by omega
   subst this;have hd:decide ((i:Int)<(i:Int))=false:=by simp
   simp only [hd];refine ⟨r.2,?_⟩;rw [←hr]
def Gi (s:Src) (k:Int):Int×Src×Int:=
 if Bh s=true∧0≤k∧k≤64 then (if k≤Ee s then (M2 s (atS s) k.toNat,Cd s (atS s+k),0) else (0,s,8)) else (0,s,1)
theorem P8 {s:Src} (hs:SOK s) (hr:Bh s=true) {k:Nat} (hk:(k:Int)≤Ee s):((s.1=1∧atS s+k≤8*(s.2.1.length:Int))∨s.1=2)∧atS s+k<9000000000000000000:=by
 have hl:=Oa hs;have:=hl.2.2 hr;have hln:=hs.len;unfold atS;rcases F5 hr with ⟨a1,a2,a3,a4⟩ | ⟨a1,a2,a3⟩
 ·rw [a4] at this
  exact ⟨.inl ⟨a1,by omega⟩,by omega⟩
 ·exact ⟨.inr a1,by omega⟩
theorem F315_eq (R:Type) {s:Src} (hs:SOK s) {n:Int} (k:Int→Src→Int→Option R):F315 R s n k=k (Gi s n).1 (Gi s n).2.1 (Gi s n).2.2:=by
 simp only [F315,p315];rw [Ta R hs];unfold Gi
 by_cases hr:Bh s=true
 ·simp only [hr,Bool.not_true,true_and]
  by_cases h1:n<0
  ·rw [if_neg (by omega)]
   simp only [decide_eq_true h1]
  ·simp only [decide_eq_false h1]
   by_cases h2:n>64
   ·rw [if_neg (by omega)]
    simp only [decide_eq_true h2]
   ·rw [if_pos (by omega)]
    simp only [decide_eq_false h2];rw [Aj (n:=n) (by omega) (by omega),F327_eq R hs]
    by_cases h3:n>Ee s
    ·rw [if_neg (by omega)]
     simp only [decide_eq_true h3]
    ·rw [if_pos (by omega)]
     simp only [decide_eq_false h3];obtain ⟨m,rfl⟩:∃m:Nat,n=m:=⟨n.toNat,by omega⟩
     have hroom:=P8 hs hr (k:=m) (by omega);obtain ⟨q,g⟩:=zmp R hs (K:=m) (by omega) hroom.1 hroom.2 (0,[],0,List.replicate 32 0,0,0,()) (fun x7 x8 x9=>k x7 x9.1 0) FUEL 0 (s,List.replicate 32 0,0,false,()) (by omega) (by rw [Al]; omega) (by simp only [Int.natCast_zero,Int.add_zero]; rfl) (fun e=>by cases e);refine g.trans ?_;rw [Int.toNat_natCast]
 ·simp only [Bool.not_eq_true] at hr
  simp [hr]
def Cq (a:List Int) (d:Int):Src:=(2,[],0,a,d,0,())
theorem Tt {a:List Int} (ha:H32 a) {d:Int} (hd:U64 d):SOK (Cq a d):=⟨fun y hy=>by simp [Cq] at hy,by simp [Cq],by unfold U64 Cq; simp,ha,hd,by unfold U64 Cq; simp⟩
theorem F276_eq (R:Type) (a:List Int) (d:Int) (k:Src→Option R):F276 R a d k=k (Cq a d):=by
 simp only [F276,p276]; rfl
theorem zb1 {s:Src} {n:Nat} (hr:Bh s=true) (h1:n≤64) (h2:(n:Int)≤Ee s):Gi s n=(M2 s (atS s) n,Cd s (atS s+n),0):=by
 unfold Gi;rw [if_pos ⟨hr,by omega,by omega⟩,if_pos h2,Int.toNat_natCast]
theorem zgw {s:Src} (hs:SOK s) (hr:Bh s=true) {k:Nat} (hk:(k:Int)≤Ee s):Bh (Cd s (atS s+k))=true∧Ee (Cd s (atS s+k))=Ee s - k:=by
 have hl:=(Oa hs).2.2 hr;have h0:0≤s.2.2.2.2.2.1:=hs.at_.1;have hR:Bh (Cd s (atS s+k))=true:=by
  unfold Bh atS;rcases F5 hr with ⟨a1,a2,a3,a4⟩ | ⟨a1,a2,a3⟩
  ·rw [if_pos (show (Cd s (s.2.2.2.2.2.1+k)).1=1 from a1)]
   rw [a4] at hl;exact decide_eq_true ⟨a2,by show s.2.2.2.2.2.1+k≤s.2.2.1; omega⟩
  ·rw [if_neg (show ¬(Cd s (s.2.2.2.2.2.1+k)).1=1 by show ¬s.1=1; omega)]
   rw [a3] at hl;exact decide_eq_true ⟨a1,by show s.2.2.2.2.2.1+k≤_; omega⟩
 refine ⟨hR,?_⟩;have e:Ee (Cd s (atS s+k))=endS s - (s.2.2.2.2.2.1+k):=by
  unfold Ee;rw [if_pos hR];rfl
 rw [e];omega
def Hb:Nat→Nat→Nat
 | 0,_=>0
 | f+1,x=>if x=0 then 0 else Hb f (x/2)+1
theorem Qm:∀(f x:Nat),x<2^f→x<2^Hb f x∧(x≠0→2^(Hb f x - 1)≤x)∧Hb f x≤f
 | 0,x,h=>by simp at h; subst h; simp [Hb]
 | f+1,x,h=>by
  rw [Nat.pow_succ] at h;simp only [Hb]
  by_cases h0:x=0
  ·subst h0; simp
  ·rw [if_neg h0]
   obtain ⟨h1,h2,h3⟩:=Qm f (x/2) (by omega);refine ⟨?_,fun _=>?_,by omega⟩
   ·rw [Nat.pow_succ]; omega
   ·rw [Nat.add_sub_cancel]
    by_cases hx:x/2=0
    ·have e:Hb f (x/2)=0:=by
      rw [hx];cases f with
      | zero=>rfl
      | succ f=>simp [Hb]
     rw [e,Nat.pow_zero]; omega
    ·have:=h2 hx
     have hb:Hb f (x/2)≠0:=fun e=>by rw [e,Nat.pow_zero] at h1; omega
     obtain ⟨b,hb⟩:∃b,Hb f (x/2)=b+1:=⟨Hb f (x/2) - 1,by omega⟩
     rw [hb,Nat.add_sub_cancel] at this;rw [hb,Nat.pow_succ];omega
theorem zmn (R:Type) (k0:Int→Option R):∀(f m x c:Nat),x<2^f→f≤64→f<m→c+f≤1000→Mt m R (x:Int) (c:Int) k0=k0 ((c+Hb f x:Nat):Int)
 | _,0,_,_,_,_,h,_=>by omega
 | 0,m+1,x,c,h,_,_,_=>by
  simp at h; subst h;simp only [Mt,zcg,Hb];rfl
 | f+1,m+1,x,c,h,hf,hm,hc=>by
  simp only [Mt,zcg,Hb];rw [Nat.pow_succ] at h
  by_cases h0:x=0
  ·subst h0
   simp
  ·have e:((x:Int) !=0)=true:=by simp [h0]
   have e2:ishr .u64 (x:Int) 1=((x/2:Nat):Int):=by
    have:=shr64 (x:=(x:Int)) 1 (by omega);refine this.trans ?_;omega
   simp only [e,if_neg h0];have ih:=zmn R k0 f m (x/2) (c+1) (by omega) (by omega) (by omega) (by omega);rw [wrap_i64 (n:=(c:Int)+1) (by omega) (by omega),e2,show c+(Hb f (x/2)+1)=c+1+Hb f (x/2) by omega];exact ih
def B5 (n:Int):Nat:=Hb 64 (n - 1).toNat
theorem zik {n:Int} (hn:U64 n):B5 n≤64∧n≤2^B5 n∧(2≤n→1≤B5 n∧(2:Int)^(B5 n - 1)<n):=by
 unfold U64 at hn;obtain ⟨h1,h2,h3⟩:=Qm 64 (n - 1).toNat (by omega);unfold B5;generalize Hb 64 (n - 1).toNat=b at*;have e:∀j:Nat,((2^j:Nat):Int)=(2:Int)^j:=fun j=>by simp
 refine ⟨h3,?_,fun h=>⟨?_,?_⟩⟩
 ·rw [←e]; omega
 ·cases b with
  | zero=>rw [Nat.pow_zero] at h1; omega
  | succ b=>omega
 ·have:=h2 (by omega)
  rw [←e]; omega
theorem F316_eq (R:Type) {n:Int} (hn:U64 n) (k:Int→Option R):F316 R n k=k (B5 n:Int):=by
 have hn':=hn;unfold U64 at hn;simp only [F316,p316,F329,p329];have e:IntKind.u64.wrap ((if (1:Int)>n then (1:Int) else n) - 1)=((n - 1).toNat:Int):=by
  split
  ·rw [Aj (by omega) (by omega)]; omega
  ·rw [Aj (by omega) (by omega)]; omega
 rw [e];have:=zmn R (fun x1=>k x1) 64 FUEL (n - 1).toNat 0 (by omega) (by omega) (by rw [Al]; omega) (by omega);rw [Nat.zero_add] at this;exact this
def Ea (n:Int):Nat→Src→Int×Src×Int
 | 0,s=>(0,s,9)
 | m+1,s=>if (Gi s (B5 n)).2.2=0 then (if (Gi s (B5 n)).1<n then ((Gi s (B5 n)).1,(Gi s (B5 n)).2.1,0) else Ea n m (Gi s (B5 n)).2.1) else (0,s,(Gi s (B5 n)).2.2)
theorem Tm {s:Src} (hs:SOK s) (k:Int):SOK (Gi s k).2.1:=by
 unfold Gi;split
 ·rename_i h
  split
  ·rename_i h2
   have hl:=Oa hs;have h0:0≤atS s:=hs.at_.1;have:=P8 hs h.1 (k:=k.toNat) (by omega);refine hs.set ?_;unfold U64;omega
  ·exact hs
 ·exact hs
theorem P7 {s:Src} {k:Nat} (h:(Gi s k).2.2=0):Bh s=true∧k≤64∧(k:Int)≤Ee s∧Gi s k=(M2 s (atS s) k,Cd s (atS s+k),0):=by
 unfold Gi at h;split at h
 ·rename_i h1
  split at h
  ·rename_i h2
   exact ⟨h1.1,by omega,h2,zb1 h1.1 (by omega) h2⟩
  ·simp at h
 ·simp at h
theorem zmr (R:Type) {n:Int} (hn:U64 n) (a:Nat) (ha:a≤64) (x5:Src) (k0:Int→Int→Src→Option R) (k1:Src→Src→Option R):
  ∀(m i:Nat) (s:Src),i≤a→a - i<m→SOK s→(∀y:Src,k1 y x5=k0 0 9 y)→O7 m R n (a:Int) (i:Int) s x5 k0 k1=k0 (Ea n (a - i) s).1 (Ea n (a - i) s).2.2 (Ea n (a - i) s).2.1
 | 0,i,_,_,h,_,_=>by omega
 | m+1,i,s,h1,h2,hs,hk=>by
  simp only [O7,zhj]
  by_cases hi:i<a
  ·have hd:decide ((i:Int)<(a:Int))=true:=by simpa using hi
   simp only [hd];rw [F316_eq R hn,F315_eq R hs,show a - i=(a - (i+1))+1 by omega];simp only [Ea];have ih:=zmr R hn a ha x5 k0 k1 m (i+1) (Gi s (B5 n)).2.1 (by omega) (by omega) (Tm hs _) hk;generalize Gi s (B5 n)=t at*
   by_cases he:t.2.2=0
   ·have e1:(t.2.2 !=0)=false:=by simp [he]
    simp only [e1,if_pos he]
    by_cases hx:t.1<n
    ·simp only [decide_eq_true hx,if_pos hx]
    ·simp only [decide_eq_false hx,if_neg hx]
     rw [wrap_i64 (n:=(i:Int)+1) (by omega) (by omega)];exact ih
   ·have e1:(t.2.2 !=0)=true:=by simp [he]
    simp only [e1,if_neg he]
  ·have:i=a:=by omega
   subst this;have hd:decide ((i:Int)<(i:Int))=false:=by simp
   simp only [hd,Nat.sub_self,Ea];exact hk s
def By (s:Src) (n m:Int):Int×Src×Int:=if Bh s=true∧0<n∧n<9223372036854775808∧0<m∧m≤64 then Ea n m.toNat s else (0,s,1)
theorem zoz (R:Type) {s:Src} (hs:SOK s) {n:Int} (hn:U64 n) (m:Int) (k:Int→Src→Int→Option R):F296 R s n m k=k (By s n m).1 (By s n m).2.1 (By s n m).2.2:=by
 simp only [F296,p296,F314,p314];rw [Ta R hs];unfold By
 by_cases hr:Bh s=true
 ·simp only [hr,true_and]
  by_cases h1:n>0
  ·simp only [decide_eq_true h1]
   by_cases h2:n<9223372036854775808
   ·simp only [decide_eq_true h2]
    by_cases h3:m>0
    ·simp only [decide_eq_true h3]
     by_cases h4:m≤64
     ·simp only [decide_eq_true h4,Bool.not_true]
      rw [if_pos ⟨h1,h2,h3,h4⟩];obtain ⟨a,rfl⟩:∃a:Nat,m=a:=⟨m.toNat,by omega⟩
      rw [Int.toNat_natCast];exact zmr R hn a (by omega) (0,[],0,List.replicate 32 0,0,0,()) (fun x2 x3 x4=>k x2 x4 x3) (fun x5 x6=>k 0 x5 9) FUEL 0 s (by omega) (by rw [Al]; omega) hs (fun y=>rfl)
     ·rw [if_neg (fun h=>h4 h.2.2.2)]
      simp only [decide_eq_false h4,Bool.not_false]
    ·rw [if_neg (fun h=>h3 h.2.2.1)]
     simp only [decide_eq_false h3,Bool.not_false]
   ·rw [if_neg (fun h=>h2 h.2.1)]
    simp only [decide_eq_false h2,Bool.not_false]
  ·rw [if_neg (fun h=>h1 h.1)]
   simp only [decide_eq_false h1,Bool.not_false]
 ·simp only [Bool.not_eq_true] at hr
  simp [hr]
theorem Sd {n:Int}:∀(m:Nat) (s:Src),(Ea n m s).2.2=0→∃j,1≤j∧j≤m∧(Ea n m s).1<n∧(Ea n m s).2.1=Cd s (atS s+B5 n*j)∧(B5 n*j:Int)≤Ee s∧∀i<j,Ea n i s=(0,Cd s (atS s+B5 n*i),9)
 | 0,s,h=>by simp [Ea] at h
 | m+1,s,h=>by
  simp only [Ea] at h ⊢;split at h
  ·rename_i h1
   obtain ⟨g1,g2,g3,g4⟩:=P7 h1;rw [if_pos h1];split at h
   ·rename_i h2
    rw [if_pos h2];refine ⟨1,by omega,by omega,h2,?_,by omega,fun i hi=>?_⟩
    ·rw [g4]
     show Cd s (atS s+B5 n)=Cd s (atS s+B5 n*((1:Nat):Int));rw [Int.natCast_one,Int.mul_one]
    ·have:i=0:=by omega
     subst this;simp only [Ea,Int.natCast_zero,Int.mul_zero,Int.add_zero];rfl
   ·rename_i h2
    rw [if_neg h2];have hmul:∀i:Nat,((B5 n:Nat):Int)*((i+1:Nat):Int)=B5 n+B5 n*i:=fun i=>by
     rw [show ((i+1:Nat):Int)=(i:Int)+1 by omega,Int.mul_add,Int.mul_one,Int.add_comm]
    obtain ⟨j,j1,j2,j3,j4,j5,j6⟩:=Sd m _ h;refine ⟨j+1,by omega,by omega,j3,?_,?_,fun i hi=>?_⟩
    ·rw [j4,g4]
     show Cd (Cd s (atS s+B5 n)) (atS s+B5 n+B5 n*j)=_;rw [Nw,hmul,Int.add_assoc]
    ·rw [g4] at j5
     have hle:Ee (Cd s (atS s+B5 n))≤Ee s - B5 n:=by
      unfold Ee at g3 ⊢;rw [if_pos g1] at g3 ⊢;split
      ·show endS s - (atS s+B5 n)≤endS s - atS s - B5 n
       omega
      ·show 0≤endS s - atS s - B5 n
       have:endS s - s.2.2.2.2.2.1=endS s - atS s:=rfl;omega
     rw [hmul];have j5':(B5 n:Int)*j≤Ee (Cd s (atS s+B5 n)):=j5;omega
    ·cases i with
     | zero=>
      simp only [Ea,Int.natCast_zero,Int.mul_zero,Int.add_zero];rfl
     | succ i=>
      have:=j6 i (by omega);simp only [Ea];rw [if_pos h1,if_neg h2,this,g4];show (0,Cd (Cd s (atS s+B5 n)) (atS s+B5 n+B5 n*i),9)=_;rw [Nw,hmul,Int.add_assoc]
  ·rename_i h1
   exact absurd h h1
def sumS (l:List Int) (n:Nat):Int:=(l.take n).sum
theorem F0 (l:List Int):sumS l 0=0:=rfl
theorem Bw {l:List Int} {i:Nat} (h:i<l.length):sumS l (i+1)=sumS l i+l.getD i 0:=by
 unfold sumS;have et:l.take (i+1)=l.take i++[l[i]]:=by rw [List.take_succ_eq_append_getElem h]
 rw [et,List.sum_append];simp [h]
def AllU64 (l:List Int):Prop:=∀x∈l,U64 x
theorem Ii:U64 0:=by unfold U64; omega
theorem Tq {l:List Int} (h:AllU64 l) {a:Nat}:∀d:Nat,sumS l a≤sumS l (a+d)
 | 0=>Int.le_refl _
 | d+1=>by
  have ih:=Tq h (a:=a) d
  by_cases hd:a+d<l.length
  ·have:=(Au h Ii (a+d)).1
   rw [←Nat.add_assoc,Bw hd];omega
  ·have e:sumS l (a+(d+1))=sumS l (a+d):=by
    unfold sumS;rw [List.take_of_length_le (by omega),List.take_of_length_le (by omega)]
   rw [e]; exact ih
theorem C5 {l:List Int} (h:AllU64 l) {a b:Nat} (hab:a≤b):sumS l a≤sumS l b:=by
 have:=Tq h (a:=a) (b - a)
 rwa [show a+(b - a)=b by omega] at this
theorem Ay {l:List Int} (h:AllU64 l) (n:Nat):0≤sumS l n:=by
 have:=C5 h (Nat.zero_le n)
 rwa [F0] at this
def totS (l:List Int):Int:=sumS l l.length
theorem D1 {l:List Int} (h:AllU64 l) (n:Nat):sumS l n≤totS l:=by
 by_cases hn:n≤l.length
 ·exact C5 h hn
 ·unfold totS sumS
  rw [List.take_of_length_le (by omega),List.take_length];exact Int.le_refl _
def lowF:Nat→Nat→Nat
 | 0,_=>1
 | f+1,n=>if n % 2=0 then 2*lowF f (n/2) else 1
def lowN (n:Nat):Nat:=lowF 20 n
def ALLN:List Nat:=List.range' 1 1000
theorem zis:(ALLN.all fun n=>decide (iand .i64 (n:Int) (IntKind.i64.wrap (0 - (n:Int)))=(lowN n:Int))&&decide (1≤lowN n∧lowN n≤n))=true:=by kernel_rfl
theorem Mj {n:Nat} (h1:1≤n) (h2:n≤1000):iand .i64 (n:Int) (IntKind.i64.wrap (0 - (n:Int)))=(lowN n:Int)∧1≤lowN n∧lowN n≤n:=by
 have:=List.all_eq_true.1 zis n (by unfold ALLN; rw [List.mem_range']; exact ⟨n - 1,by omega,by omega⟩);simp only [Bool.and_eq_true,decide_eq_true_eq] at this;exact ⟨this.1,this.2⟩
theorem Tc (R:Type) {n:Nat} (h1:1≤n) (h2:n≤1000) (k:Int→Option R):F290 R (n:Int) k=k (lowN n:Int):=by
 simp only [F290,p290];rw [(Mj h1 h2).1]
theorem zs7 (m:Nat) (h1:1≤m) (h2:m≤500):lowN (2*m)=2*lowN m:=by
 have:(List.range' 1 500).all (fun m=>decide (lowN (2*m)=2*lowN m))=true:=by kernel_rfl
 have:=List.all_eq_true.1 this m (by rw [List.mem_range']; exact ⟨m - 1,by omega,by omega⟩);exact of_decide_eq_true this
theorem low_odd (m:Nat):lowN (2*m+1)=1:=by
 unfold lowN lowF;rw [if_neg (by omega)]
theorem zir:∀(k q:Nat),(2*q+1)*2^k≤1000→lowN ((2*q+1)*2^k)=2^k
 | 0,q,_=>by rw [Nat.pow_zero,Nat.mul_one,low_odd]
 | k+1,q,h=>by
  rw [Nat.pow_succ,←Nat.mul_assoc] at h;have hp:0<(2*q+1)*2^k:=Nat.mul_pos (by omega) (Nat.pow_pos (by omega));rw [Nat.pow_succ,←Nat.mul_assoc,Nat.mul_comm _ 2,zs7 _ hp (by omega),zir k q (by omega),Nat.mul_comm]
def Ec (l:List Int) (q:Nat):Int:=sumS l (q+1) - sumS l (q+1 - lowN (q+1))
def Cp (l:List Int):List Int:=(List.range l.length).map (Ec l)
theorem E1 (l:List Int):(Cp l).length=l.length:=by simp [Cp]
theorem Tj {l:List Int} {q:Nat} (h:q<l.length):(Cp l).getD q 0=Ec l q:=by
 simp [Cp,h]
theorem zei {l:List Int} (h:AllU64 l) (ht:totS l<9223372036854775808) (q:Nat):0≤Ec l q∧Ec l q<9223372036854775808:=by
 have h1:=C5 h (a:=q+1 - lowN (q+1)) (b:=q+1) (by omega);have h2:=Ay h (q+1 - lowN (q+1));have h3:=D1 h (q+1);unfold Ec;omega
theorem Z1 (R:Type) {l:List Int} (h:AllU64 l) (ht:totS l<9223372036854775808) (hlen:l.length≤500) (k0:Int→Option R) (n0:Nat) (hn0:n0≤l.length):∀(m n:Nat),n≤n0→n<m→O5 m R (n:Int) (sumS l n0 - sumS l n) (Cp l,()) k0=k0 (sumS l n0)
 | 0,n,_,h=>by omega
 | m+1,n,h1,h2=>by
  simp only [O5,zhf]
  by_cases hn:n=0
  ·subst hn
   have hd:decide (((0:Nat):Int)>0)=false:=by simp
   simp only [hd,F0,Int.sub_zero]
  ·have hd:decide ((n:Int)>0)=true:=decide_eq_true (by omega)
   have hl:=Mj (n:=n) (by omega) (by omega);rw [wrap_i64 (n:=(n:Int) - 1) (by omega) (by omega),show (n:Int) - 1=((n - 1:Nat):Int) by omega];have hbn:bnd ((n - 1:Nat):Int) ((Cp l).length:Int)=true:=by rw [E1]; unfold bnd; simp; omega
   simp only [hd,hbn,Int.toNat_natCast];rw [Tj (by omega),Tc R (by omega) (by omega)];have e:Ec l (n - 1)=sumS l n - sumS l (n - lowN n):=by
    unfold Ec;rw [show n - 1+1=n by omega]
   have q1:=C5 h (a:=n - lowN n) (b:=n) (by omega);have q2:=Ay h (n - lowN n);have q3:=D1 h n0;have q4:=C5 h h1;rw [e,Aj (n:=sumS l n0 - sumS l n+(sumS l n - sumS l (n - lowN n))) (by omega) (by omega),wrap_i64 (n:=(n:Int) - (lowN n:Int)) (by omega) (by omega),show (n:Int) - (lowN n:Int)=((n - lowN n:Nat):Int) by omega,show sumS l n0 - sumS l n+(sumS l n - sumS l (n - lowN n))=sumS l n0 - sumS l (n - lowN n) by omega];exact Z1 R h ht hlen k0 n0 hn0 m (n - lowN n) (by omega) (by omega)
theorem zbe (R:Type) {l:List Int} (h:AllU64 l) (ht:totS l<9223372036854775808) (hlen:l.length≤500) (k:Int→Option R):F308 R (Cp l,()) k=k (totS l):=by
 simp only [F308,p308,F325,p325,F324,p324,E1];have:=Z1 R h ht hlen (fun x1=>k x1) l.length (Nat.le_refl _) FUEL l.length (Nat.le_refl _) (by rw [Al]; omega);rw [Int.sub_self] at this;exact this
def Owns (l:List Int) (x:Int) (i:Nat):Prop:=i<l.length∧sumS l i≤x∧x<sumS l (i+1)
theorem Owns.uniq {l:List Int} (h:AllU64 l) {x:Int} {i j:Nat} (hi:Owns l x i) (hj:Owns l x j):i=j:=by
 obtain ⟨a1,a2,a3⟩:=hi;obtain ⟨b1,b2,b3⟩:=hj;rcases Nat.lt_trichotomy i j with h1 | h1 | h1
 ·have:=C5 h (a:=i+1) (b:=j) (by omega); omega
 ·exact h1
 ·have:=C5 h (a:=j+1) (b:=i) (by omega); omega
theorem V5 (R:Type) {n:Nat} (hn:n≤500) (t:List Int×Unit) (htl:t.1.length=n) (x:Int) (k0:Int→Int→Int→(List Int×Unit)→Option R):∀(m k:Nat),2^k≤n∨k=0→n+2<m+2^k→∃j,n<2^(j+1)∧(2^j≤n∨j=0)∧Mv m R x 0 ((2^k:Nat):Int) t k0=k0 x 0 ((2^j:Nat):Int) t
 | 0,k,h1,h2=>by
  rcases h1 with h1 | rfl
  ·omega
  ·rw [Nat.pow_zero] at h2; omega
 | m+1,k,h1,h2=>by
  simp only [Mv,zhh,F325,p325,htl];have hpp:0<2^k:=Nat.pow_pos (by omega);have hp:2^k≤500:=by
   rcases h1 with h1 | rfl
   ·omega
   ·rw [Nat.pow_zero]; omega
  have e:ishl .i64 ((2^k:Nat):Int) 1=((2^(k+1):Nat):Int):=by
   unfold ishl;rw [show (2:Int)^(min (1:Int).toNat IntKind.i64.bits)=2 by decide,Nat.pow_succ];generalize 2^k=p at*;rw [wrap_i64 (by omega) (by omega)]; omega
  rw [e]
  by_cases hk:2^(k+1)≤n
  ·have hd:decide (((2^(k+1):Nat):Int)≤(n:Int))=true:=decide_eq_true (by omega)
   simp only [hd];exact V5 R hn t htl x k0 m (k+1) (.inl hk) (by rw [Nat.pow_succ]; omega)
  ·have hd:decide (((2^(k+1):Nat):Int)≤(n:Int))=false:=decide_eq_false (by omega)
   simp only [hd];exact ⟨k,by omega,h1,rfl⟩
theorem V4 (R:Type) {l:List Int} (h:AllU64 l) (ht:totS l<9223372036854775808) (hlen:l.length≤400) {x:Int} (hx:0≤x∧x<totS l) (k0:Int→Option R):∀(m k q:Nat),2^(k+1)*q≤l.length→2^k≤500→sumS l (2^(k+1)*q)≤x→(l.length<2^(k+1)*q+2^(k+1)∨x<sumS l (2^(k+1)*q+2^(k+1)))→k+1<m→
  ∃i,Owns l x i∧Hv m R (x - sumS l (2^(k+1)*q)) ((2^(k+1)*q:Nat):Int) ((2^k:Nat):Int) (Cp l,()) k0=k0 (i:Int)
 | 0,_,_,_,_,_,_,h=>by omega
 | m+1,k,q,h1,h2,h3,h4,h5=>by
  have hpp:0<2^k:=Nat.pow_pos (by omega);have e1:2^(k+1)*q=2^k*(2*q):=by rw [Nat.pow_succ,Nat.mul_assoc]
  have hlow:2^(k+1)*q+2^k≤1000→lowN (2^(k+1)*q+2^k)=2^k:=fun hh=>by
   have e2:2^(k+1)*q+2^k=(2*q+1)*2^k:=by rw [e1,Nat.add_mul,Nat.one_mul,Nat.mul_comm (2*q)]
   rw [e2] at hh ⊢;exact zir k q hh
  simp only [Hv,zch,F325,p325,E1];have hd:decide (((2^k:Nat):Int)>0)=true:=decide_eq_true (by omega);have eshr:ishr .i64 ((2^k:Nat):Int) 1=((2^k/2:Nat):Int):=by
   unfold ishr;rw [show (2:Int)^(min (1:Int).toNat IntKind.i64.bits)=2 by decide,Int.fdiv_eq_ediv_of_nonneg _ (by omega)];omega
  simp only [hd,eshr];rw [wrap_i64 (n:=((2^(k+1)*q:Nat):Int)+((2^k:Nat):Int)) (by omega) (by omega),show ((2^(k+1)*q:Nat):Int)+((2^k:Nat):Int)=((2^(k+1)*q+2^k:Nat):Int) by omega]
  -- what comes behind,for the next step
  have next:∀(q':Nat) (_:2^k*q'≤l.length) (_:sumS l (2^k*q')≤x) (_:l.length<2^k*q'+2^k∨x<sumS l (2^k*q'+2^k)),
    ∃i,Owns l x i∧Hv m R (x - sumS l (2^k*q')) ((2^k*q':Nat):Int) ((2^k/2:Nat):Int) (Cp l,()) k0=k0 (i:Int):=by
   intro q' g1 g2 g3;cases k with
   | zero=>
    rw [Nat.pow_zero,Nat.one_mul] at g1 g2 g3 ⊢;have hlt:q'<l.length:=by
     refine Classical.byContradiction fun hh=>?_
     have:sumS l q'=totS l:=by
      unfold totS sumS;rw [List.take_of_length_le (by omega),List.take_length]
     omega
    refine ⟨q',⟨hlt,g2,?_⟩,?_⟩
    ·rcases g3 with g3 | g3
     ·have:q'+1=l.length:=by omega
      rw [this]; exact hx.2
     ·exact g3
    ·cases m with
     | zero=>omega
     | succ m=>
      simp only [Hv,zch];rfl
   | succ k=>
    have e3:2^(k+1)/2=2^k:=by rw [Nat.pow_succ]; omega
    rw [e3];exact V4 R h ht hlen hx k0 m k q' g1 (by rw [Nat.pow_succ] at h2; omega) g2 g3 (by omega)
  by_cases hn:2^(k+1)*q+2^k≤l.length
  ·have hd2:decide (((2^(k+1)*q+2^k:Nat):Int)≤(l.length:Int))=true:=decide_eq_true (by omega)
   have hbn:bnd ((2^(k+1)*q+2^k - 1:Nat):Int) (l.length:Int)=true:=by unfold bnd; simp; omega
   rw [wrap_i64 (n:=((2^(k+1)*q+2^k:Nat):Int) - 1) (by omega) (by omega),show ((2^(k+1)*q+2^k:Nat):Int) - 1=((2^(k+1)*q+2^k - 1:Nat):Int) by omega];simp only [hd2,hbn,Int.toNat_natCast];have en:Ec l (2^(k+1)*q+2^k - 1)=sumS l (2^(k+1)*q+2^k) - sumS l (2^(k+1)*q):=by
    unfold Ec;rw [show 2^(k+1)*q+2^k - 1+1=2^(k+1)*q+2^k by omega,hlow (by omega),Nat.add_sub_cancel]
   have eg:(Cp l).getD (2^(k+1)*q+2^k - 1) 0=sumS l (2^(k+1)*q+2^k) - sumS l (2^(k+1)*q):=by rw [Tj (by omega),en]
   simp only [eg];have q1:=C5 h (a:=2^(k+1)*q) (b:=2^(k+1)*q+2^k) (by omega);have q2:=Ay h (2^(k+1)*q)
   by_cases hle:sumS l (2^(k+1)*q+2^k)≤x
   ·have hd3:decide (sumS l (2^(k+1)*q+2^k) - sumS l (2^(k+1)*q)≤x - sumS l (2^(k+1)*q))=true:=decide_eq_true (by omega)
    simp only [hd3];rw [Aj (n:=x - sumS l (2^(k+1)*q) - (sumS l (2^(k+1)*q+2^k) - sumS l (2^(k+1)*q))) (by omega) (by omega),show x - sumS l (2^(k+1)*q) - (sumS l (2^(k+1)*q+2^k) - sumS l (2^(k+1)*q))=x - sumS l (2^(k+1)*q+2^k) by omega];have e4:2^(k+1)*q+2^k=2^k*(2*q+1):=by rw [e1,Nat.mul_add,Nat.mul_one]
    have e5:2^(k+1)*q+2^(k+1)=2^k*(2*q+1)+2^k:=by
     rw [←e4,Nat.pow_succ]; omega
    rw [e4];rw [e4] at hle hn;rw [e5] at h4;exact next (2*q+1) hn hle h4
   ·have hd3:decide (sumS l (2^(k+1)*q+2^k) - sumS l (2^(k+1)*q)≤x - sumS l (2^(k+1)*q))=false:=decide_eq_false (by omega)
    simp only [hd3];rw [e1] at h1 h3 hle ⊢;exact next (2*q) h1 h3 (.inr (by omega))
  ·have hd2:decide (((2^(k+1)*q+2^k:Nat):Int)≤(l.length:Int))=false:=decide_eq_false (by omega)
   simp only [hd2];rw [e1] at h1 h3 hn ⊢;exact next (2*q) h1 h3 (.inl (by omega))
theorem zdu (R:Type) {l:List Int} (h:AllU64 l) (ht:totS l<9223372036854775808) (hlen:l.length≤400) {x:Int} (hx:0≤x∧x<totS l) (k:Int→Int→Option R):∃i,Owns l x i∧F309 R (Cp l,()) x k=k (i:Int) 0:=by
 simp only [F309,p309];rw [zbe R h ht (by omega)];have hd:decide (x≥totS l)=false:=decide_eq_false (by omega);simp only [hd];obtain ⟨j,j1,j2,j3⟩:=V5 R (n:=l.length) (by omega) (Cp l,()) (E1 l) x (fun x3 x4 x5 x6=>Hv FUEL R x3 x4 x5 x6 (fun x7=>k x7 0)) FUEL 0 (.inr rfl) (by rw [Al]; omega);have hj:2^j≤500:=by
  rcases j2 with j2 | rfl
  ·omega
  ·rw [Nat.pow_zero]; omega
 have hjm:j≤500:=by have:=Nat.lt_two_pow_self (n:=j); omega
 obtain ⟨i,hi,g⟩:=V4 R h ht hlen hx (fun x7=>k x7 0) FUEL j 0 (by simp) hj (by rw [Nat.mul_zero,F0]; exact hx.1) (.inl (by omega)) (by rw [Al]; omega);refine ⟨i,hi,?_⟩;rw [Nat.mul_zero,F0,Int.sub_zero] at g;exact j3.trans g
def Gm (j:Nat):Nat→Nat
 | 0=>j - lowN j
 | m+1=>if (m+1)+lowN (m+1)=j then m+1 else Gm j m
theorem Y9:((List.range' 1 400).all fun c=>decide (Gm (c+lowN c) (c - 1)=c - lowN c))=true:=by kernel_rfl
theorem Y8:((List.range' 1 400).all fun j=>decide (Gm j (j - 1)=j - 1))=true:=by kernel_rfl
theorem lastA {c:Nat} (h1:1≤c) (h2:c≤400):Gm (c+lowN c) (c - 1)=c - lowN c:=
 of_decide_eq_true (List.all_eq_true.1 Y9 c (by rw [List.mem_range']; exact ⟨c - 1,by omega,by omega⟩))
theorem lastB {j:Nat} (h1:1≤j) (h2:j≤400):Gm j (j - 1)=j - 1:=
 of_decide_eq_true (List.all_eq_true.1 Y8 j (by rw [List.mem_range']; exact ⟨j - 1,by omega,by omega⟩))
theorem Us {j:Nat} (h1:1≤j):∀(d:Nat),j+d≤1000→Gm j (j - 1+d)=Gm j (j - 1)
 | 0,_=>rfl
 | d+1,h=>by
  have ih:=Us h1 d (by omega);rw [show j - 1+(d+1)=(j - 1+d)+1 by omega];simp only [Gm];have:=Mj (n:=j - 1+d+1) (by omega) (by omega);rw [if_neg (by omega),ih]
def Ds (l:List Int) (m q:Nat):Int:=sumS l (Gm (q+1) m) - sumS l (q+1 - lowN (q+1))+l.getD q 0
def Ff (l:List Int) (m:Nat):List Int:=(List.range l.length).map (Ds l m)
theorem Qb (l:List Int):Ff l 0=l:=by
 unfold Ff Ds;apply List.ext_getElem?;intro i;rw [List.getElem?_map]
 by_cases h:i<l.length
 ·rw [List.getElem?_range h]
  simp [Gm,h]
 ·rw [List.getElem?_eq_none (by simp; omega),List.getElem?_eq_none (by omega)]
  rfl
theorem Kq {l:List Int} {q m:Nat} (hq:q<l.length) (hl:l.length≤400) (hm:q≤m) (hm2:m≤500):Ds l m q=Ec l q:=by
 unfold Ds Ec;have h1:=lastB (j:=q+1) (by omega) (by omega);have h2:=Us (j:=q+1) (by omega) (m - q) (by omega);rw [show q+1 - 1+(m - q)=m by omega] at h2;rw [h2,h1,Bw hq];show sumS l (q+1 - 1) - _+_=_;rw [Nat.add_sub_cancel];omega
theorem Qc {l:List Int} (hl:l.length≤400):Ff l l.length=Cp l:=by
 unfold Ff Cp;refine List.map_congr_left (fun q hq=>?_);have hq':q<l.length:=by simpa using hq
 exact Kq hq' hl (by omega) (by omega)
theorem Uj (l:List Int) (m:Nat):(Ff l m).length=l.length:=by simp [Ff]
theorem Jn {l:List Int} {m q:Nat} (h:q<l.length):(Ff l m).getD q 0=Ds l m q:=by simp [Ff,h]
theorem zcs:∀(j m:Nat),Gm j m≤max m (j - lowN j)
 | j,0=>by simp [Gm]
 | j,m+1=>by
  have:=zcs j m;simp only [Gm];split<;>omega
theorem Z3 (R:Type) {l:List Int} (h:AllU64 l) (ht:totS l<9223372036854775808) (hlen:l.length≤200) (x2:List Int×Unit) (k0:(List Int×Unit)→List Int→Option R):∀(m i:Nat),i≤l.length→l.length - i<m→
  Pa m R ((i+1:Nat):Int) x2 (Ff l i) k0=k0 x2 (Cp l)
 | 0,i,_,h=>by omega
 | m+1,i,h1,h2=>by
  simp only [Pa,zhm,Uj]
  by_cases hi:i<l.length
  ·have hd:decide (((i+1:Nat):Int)≤(l.length:Int))=true:=decide_eq_true (by omega)
   have hlo:=Mj (n:=i+1) (by omega) (by omega);simp only [hd];rw [Tc R (by omega) (by omega),wrap_i64 (n:=((i+1:Nat):Int)+(lowN (i+1):Int)) (by omega) (by omega),wrap_i64 (n:=((i+1:Nat):Int)+1) (by omega) (by omega),show ((i+1:Nat):Int)+1=((i+1+1:Nat):Int) by omega];have keep:∀q,q+1≠i+1+lowN (i+1)→Ds l (i+1) q=Ds l i q:=fun q hq=>by
    unfold Ds;simp only [Gm];rw [if_neg (by omega)]
   by_cases hup:i+1+lowN (i+1)≤l.length
   ·have hd2:decide (((i+1:Nat):Int)+(lowN (i+1):Int)≤(l.length:Int))=true:=decide_eq_true (by omega)
    rw [wrap_i64 (n:=((i+1:Nat):Int)+(lowN (i+1):Int) - 1) (by omega) (by omega),wrap_i64 (n:=((i+1:Nat):Int) - 1) (by omega) (by omega),show ((i+1:Nat):Int)+(lowN (i+1):Int) - 1=((i+lowN (i+1):Nat):Int) by omega,show ((i+1:Nat):Int) - 1=(i:Int) by omega];have hb1:bnd ((i+lowN (i+1):Nat):Int) (l.length:Int)=true:=by unfold bnd; simp; omega
    have hb2:bnd (i:Int) (l.length:Int)=true:=by unfold bnd; simp; omega
    simp only [hd2,hb1,hb2,Int.toNat_natCast];rw [Jn (by omega),Jn (by omega)];have q1:Ds l i i=Ec l i:=Kq hi (by omega) (Nat.le_refl _) (by omega);have qA:=lastA (c:=i+1) (by omega) (by omega);rw [Nat.add_sub_cancel] at qA;have q2:Ds l i (i+lowN (i+1))+Ec l i=Ds l (i+1) (i+lowN (i+1)):=by
     unfold Ds Ec;rw [show i+lowN (i+1)+1=i+1+lowN (i+1) by omega,qA];simp only [Gm,if_true];omega
    have q3:0≤Ds l (i+1) (i+lowN (i+1))∧Ds l (i+1) (i+lowN (i+1))<18446744073709551616:=by
     unfold Ds;rw [show i+lowN (i+1)+1=i+1+lowN (i+1) by omega];simp only [Gm,if_true];have hlo2:=Mj (n:=i+1+lowN (i+1)) (by omega) (by omega);have a1:=D1 h (i+1);have a2:=Ay h (i+1+lowN (i+1) - lowN (i+1+lowN (i+1)));have a3:=Au h Ii (i+lowN (i+1));have a4:sumS l (i+1+lowN (i+1) - lowN (i+1+lowN (i+1)))≤sumS l (i+1):=by
      have:=zcs (i+1+lowN (i+1)) i;refine C5 h ?_;have hge:∀m,i+1+lowN (i+1) - lowN (i+1+lowN (i+1))≤Gm (i+1+lowN (i+1)) m∨True:=fun _=>.inr trivial
      have hchk:((List.range' 1 400).all fun c=>decide (c+lowN c - lowN (c+lowN c)≤c))=true:=by kernel_rfl
      exact of_decide_eq_true (List.all_eq_true.1 hchk (i+1) (by rw [List.mem_range']; exact ⟨i,by omega,by omega⟩))
     have a5:=Bw (l:=l) (i:=i+lowN (i+1)) (by omega);have a6:=D1 h (i+lowN (i+1)+1);have a7:=C5 h (a:=i+1) (b:=i+lowN (i+1)) (by omega);unfold U64 at a3;omega
    rw [q1,q2,Aj (by omega) (by omega)];have e:(Ff l i).set (i+lowN (i+1)) (Ds l (i+1) (i+lowN (i+1)))=Ff l (i+1):=by
     apply List.ext_getElem?;intro q;unfold Ff;rw [List.getElem?_set,List.getElem?_map,List.getElem?_map];simp only [List.length_map,List.length_range]
     by_cases hq:q<l.length
     ·rw [List.getElem?_range hq]
      by_cases eq:i+lowN (i+1)=q
      ·subst eq
       rw [if_pos rfl,if_pos hq]; rfl
      ·rw [if_neg eq]
       simp only [Option.map_some];rw [keep q (by omega)]
     ·rw [List.getElem?_eq_none (by simp; omega),if_neg (by omega)]
      rfl
    rw [e];exact Z3 R h ht hlen x2 k0 m (i+1) (by omega) (by omega)
   ·have hd2:decide (((i+1:Nat):Int)+(lowN (i+1):Int)≤(l.length:Int))=false:=decide_eq_false (by omega)
    simp only [hd2];have e:Ff l i=Ff l (i+1):=by
     unfold Ff;refine List.map_congr_left (fun q hq=>?_);have hq':q<l.length:=by simpa using hq
     rw [keep q (by omega)]
    rw [e];exact Z3 R h ht hlen x2 k0 m (i+1) (by omega) (by omega)
  ·have:i=l.length:=by omega
   subst this;have hd:decide (((l.length+1:Nat):Int)≤(l.length:Int))=false:=decide_eq_false (by omega);simp only [hd];rw [Qc (by omega)]
theorem zbi (R:Type) {a b:Int} (ha:0≤a∧a<9223372036854775808) (hb:U64 b) (k:Int→Bool→Option R):F225 R a b k=(if a+b<9223372036854775808 then k (a+b) true else k 0 false):=by
 unfold U64 at hb;simp only [F225,p225,F263,F262,p262,F286,p286];have hd:decide (0≤a∧0≤b∧(0:Int)≤0∧(0:Int)≤1)=true:=decide_eq_true (by omega);simp only [hd,Int.add_zero]
 by_cases h1:a+b<9223372036854775808
 ·have e1:(a+b)/18446744073709551616=0:=by omega
  have e2:(a+b) % 18446744073709551616=a+b:=by omega
  rw [if_pos h1,e1,e2];have n0:((0:Int) !=0)=false:=rfl;simp only [n0,decide_eq_true h1,Bool.not_true]
 ·rw [if_neg h1]
  by_cases h2:a+b<18446744073709551616
  ·have e1:(a+b)/18446744073709551616=0:=by omega
   have e2:(a+b) % 18446744073709551616=a+b:=by omega
   rw [e1,e2];have n0:((0:Int) !=0)=false:=rfl;simp only [n0,decide_eq_false h1,Bool.not_false]
  ·have e1:((a+b)/18446744073709551616 !=0)=true:=by
    have:¬(a+b)/18446744073709551616=0:=by omega
    simp [this]
   simp only [e1]
theorem zmz (R:Type) {l:List Int} (h:AllU64 l) (hlen:l.length≤1000000) (k0:Int→Bool→Option R) (k1:Int→Option R):∀(m i:Nat),i≤l.length→l.length - i<m→sumS l i<9223372036854775808→
  Pj m R (sumS l i) l (l.length:Int) (i:Int) k0 k1=(if totS l<9223372036854775808 then k1 (totS l) else k0 0 false)
 | 0,i,_,h,_=>by omega
 | m+1,i,h1,h2,h3=>by
  simp only [Pj,zhx]
  by_cases hi:i<l.length
  ·have hd:decide ((i:Int)<(l.length:Int))=true:=by simpa using hi
   have hbn:bnd (i:Int) (l.length:Int)=true:=by unfold bnd; simp; omega
   simp only [hd,hbn,Int.toNat_natCast];rw [zbi R ⟨Ay h i,h3⟩ (Au h Ii i),←Bw hi]
   by_cases h4:sumS l (i+1)<9223372036854775808
   ·rw [if_pos h4]
    simp only [Bool.not_true];rw [wrap_i64 (n:=(i:Int)+1) (by omega) (by omega)];exact zmz R h hlen k0 k1 m (i+1) (by omega) (by omega) h4
   ·rw [if_neg h4,if_neg (by have:=D1 h (i+1); omega)]
    simp only [Bool.not_false]
  ·have:i=l.length:=by omega
   subst this;have hd:decide ((l.length:Int)<(l.length:Int))=false:=by simp
   simp only [hd];rw [if_pos (show totS l<_ from h3)];rfl
theorem Mf (R:Type) {l:List Int} (h:AllU64 l) (hlen:l.length≤1000000) (k:Int→Bool→Option R):F223 R l k=(if totS l<9223372036854775808 then k (totS l) true else k 0 false):=by
 simp only [F223,p223];exact zmz R h hlen (fun x2 x3=>k x2 x3) (fun x4=>k x4 true) FUEL 0 (by omega) (by rw [Al]; omega) (by rw [F0]; decide)
theorem zdv (R:Type) {l:List Int} (h:AllU64 l) (hlen:l.length≤200) (k:(List Int×Unit)→Int→Option R):F272 R l k=(if totS l<9223372036854775808 then k (Cp l,()) 0 else k ([],()) 11):=by
 simp only [F272,p272];have hd:decide ((l.length:Int)>1048576)=false:=decide_eq_false (by omega);simp only [hd];rw [Mf R h (by omega)]
 by_cases ht:totS l<9223372036854775808
 ·rw [if_pos ht,if_pos ht]
  simp only [Bool.not_true,F289];have hc:decide (List.length ([]:List Int)+l.length≤17592186044416)=true:=by simp; omega
  simp only [hc];have:=Z3 R h ht hlen ([],()) (fun x6 x7=>k (x7,()) 0) FUEL 0 (by omega) (by rw [Al]; omega);rw [Qb] at this;exact this
 ·rw [if_neg ht,if_neg ht]
  simp only [Bool.not_false]
def ownN (l:List Int) (x:Int):Nat:=((List.range l.length).find? (fun i=>decide (sumS l i≤x∧x<sumS l (i+1)))).getD 0
theorem Xv {l:List Int} (h:AllU64 l) {x:Int} {i:Nat} (hi:Owns l x i):ownN l x=i:=by
 unfold ownN;cases hf:(List.range l.length).find? (fun i=>decide (sumS l i≤x∧x<sumS l (i+1))) with
 | none=>
  have:=List.find?_eq_none.1 hf i (by simpa using hi.1);simp only [decide_eq_true_eq] at this;exact absurd hi.2 this
 | some j=>
  have h1:=List.find?_some hf;have h2:=List.mem_of_find?_eq_some hf;simp only [decide_eq_true_eq] at h1;have hj:Owns l x j:=⟨by simpa using h2,h1⟩
  exact hj.uniq h hi
def Ce (l:List Int) (s:Src) (m:Int):Int×Src×Int:=
 if totS l<9223372036854775808 then (if totS l=0 then (0,s,10) else if (By s (totS l) m).2.2=0 then ((ownN l (By s (totS l) m).1:Int),(By s (totS l) m).2.1,0) else (0,(By s (totS l) m).2.1,(By s (totS l) m).2.2)) else (0,s,11)
theorem Hm {n:Int}:∀(m:Nat) (s:Src),0≤(Ea n m s).1
 | 0,s=>Int.le_refl _
 | m+1,s=>by
  simp only [Ea];split
  ·split
   ·rename_i h _
    obtain ⟨_,_,_,g⟩:=P7 h;rw [g];exact (It s (atS s) _).1
   ·exact Hm m _
  ·exact Int.le_refl _
theorem Kz {s:Src} {n m:Int} (h:(By s n m).2.2=0):0≤(By s n m).1∧(By s n m).1<n:=by
 unfold By at h ⊢;split at h
 ·rename_i hc
  rw [if_pos hc];obtain ⟨j,_,_,h3,_⟩:=Sd _ _ h;exact ⟨Hm _ _,h3⟩
 ·simp at h
theorem zo0 (R:Type) {l:List Int} (h:AllU64 l) (hlen:l.length≤200) (ht:totS l<9223372036854775808) {s:Src} (hs:SOK s) (m:Int) (k:Int→Src→Int→Option R):F291 R (Cp l,()) s m k=k (Ce l s m).1 (Ce l s m).2.1 (Ce l s m).2.2:=by
 simp only [F291,p291];rw [zbe R h ht (by omega)];have hnn:=Ay h l.length;unfold Ce;rw [if_pos ht]
 by_cases h0:totS l=0
 ·have e:(totS l==0)=true:=by simp [h0]
  rw [if_pos h0];simp only [e]
 ·have e:(totS l==0)=false:=by simp [h0]
  rw [if_neg h0];simp only [e];rw [zoz R hs (show U64 (totS l) from by unfold U64; exact ⟨hnn,by omega⟩)]
  by_cases he:(By s (totS l) m).2.2=0
  ·have e1:((By s (totS l) m).2.2 !=0)=false:=by simp [he]
   rw [if_pos he];simp only [e1];obtain ⟨i,hi,g⟩:=zdu R h ht (by omega) (Kz he) (fun y7 y8=>k y7 (By s (totS l) m).2.1 y8);rw [g,Xv h hi]
  ·have e1:((By s (totS l) m).2.2 !=0)=true:=by simp [he]
   rw [if_neg he];simp only [e1]
theorem up_ok {c:Nat} (h1:1≤c) (h2:c≤400):c+lowN c - lowN (c+lowN c)≤c - lowN c:=by
 have hchk:((List.range' 1 400).all fun c=>decide (c+lowN c - lowN (c+lowN c)≤c - lowN c))=true:=by kernel_rfl
 exact of_decide_eq_true (List.all_eq_true.1 hchk c (by rw [List.mem_range']; exact ⟨c - 1,by omega,by omega⟩))
theorem zd8:((List.range' 1 200).all fun c=>(List.range (lowN c - 1)).all fun d=>decide (c≤c+d+1 - lowN (c+d+1)))=true:=by kernel_rfl
theorem skip_ok {c d:Nat} (h1:1≤c) (h2:c≤200) (hd:d+1<lowN c):c≤c+d+1 - lowN (c+d+1):=by
 have:=List.all_eq_true.1 zd8 c (by rw [List.mem_range']; exact ⟨c - 1,by omega,by omega⟩);exact of_decide_eq_true (List.all_eq_true.1 this d (by rw [List.mem_range]; omega))
theorem Z2 (R:Type) {l:List Int} (h:AllU64 l) (ht:totS l<9223372036854775808) (hlen:l.length≤200) (k0:List Int→Option R):∀(m i:Nat),i≤l.length→i<m→
  Mw m R (i:Int) (Ff l i) k0=k0 l
 | 0,i,_,h=>by omega
 | m+1,0,h1,h2=>by
  simp only [Mw,zci];have hd:decide (((0:Nat):Int)>0)=false:=by simp
  simp only [hd];rw [Qb]
 | m+1,i+1,h1,h2=>by
  simp only [Mw,zci,Uj];have hd:decide (((i+1:Nat):Int)>0)=true:=decide_eq_true (by omega);have hlo:=Mj (n:=i+1) (by omega) (by omega);simp only [hd];rw [Tc R (by omega) (by omega),wrap_i64 (n:=((i+1:Nat):Int)+(lowN (i+1):Int)) (by omega) (by omega),wrap_i64 (n:=((i+1:Nat):Int) - 1) (by omega) (by omega),show ((i+1:Nat):Int) - 1=(i:Int) by omega];have keep:∀q,q+1≠i+1+lowN (i+1)→Ds l (i+1) q=Ds l i q:=fun q hq=>by
   unfold Ds;simp only [Gm];rw [if_neg (by omega)]
  by_cases hup:i+1+lowN (i+1)≤l.length
  ·have hd2:decide (((i+1:Nat):Int)+(lowN (i+1):Int)≤(l.length:Int))=true:=decide_eq_true (by omega)
   rw [wrap_i64 (n:=((i+1:Nat):Int)+(lowN (i+1):Int) - 1) (by omega) (by omega),show ((i+1:Nat):Int)+(lowN (i+1):Int) - 1=((i+lowN (i+1):Nat):Int) by omega];have hb1:bnd ((i+lowN (i+1):Nat):Int) (l.length:Int)=true:=by unfold bnd; simp; omega
   have hb2:bnd (i:Int) (l.length:Int)=true:=by unfold bnd; simp; omega
   simp only [hd2,hb1,hb2,Int.toNat_natCast];rw [Jn (by omega),Jn (by omega)];have q1:Ds l (i+1) i=Ec l i:=Kq (by omega) (by omega) (by omega) (by omega);have qA:=lastA (c:=i+1) (by omega) (by omega);rw [Nat.add_sub_cancel] at qA;have q2:Ds l (i+1) (i+lowN (i+1)) - Ec l i=Ds l i (i+lowN (i+1)):=by
    unfold Ds Ec;rw [show i+lowN (i+1)+1=i+1+lowN (i+1) by omega,qA];simp only [Gm,if_true];omega
   have q3:0≤Ds l i (i+lowN (i+1))∧Ds l i (i+lowN (i+1))<18446744073709551616:=by
    unfold Ds;rw [show i+lowN (i+1)+1=i+1+lowN (i+1) by omega,qA];have a1:=D1 h (i+1 - lowN (i+1));have a2:=Ay h (i+1+lowN (i+1) - lowN (i+1+lowN (i+1)));have a3:=Au h Ii (i+lowN (i+1));have a4:sumS l (i+1+lowN (i+1) - lowN (i+1+lowN (i+1)))≤sumS l (i+1 - lowN (i+1)):=C5 h (up_ok (by omega) (by omega));have a5:=Bw (l:=l) (i:=i+lowN (i+1)) (by omega);have a6:=D1 h (i+lowN (i+1)+1);have a7:=C5 h (a:=i+1 - lowN (i+1)) (b:=i+lowN (i+1)) (by omega);unfold U64 at a3;omega
   rw [q1,q2,Aj (by omega) (by omega)];have e:(Ff l (i+1)).set (i+lowN (i+1)) (Ds l i (i+lowN (i+1)))=Ff l i:=by
    apply List.ext_getElem?;intro q;unfold Ff;rw [List.getElem?_set,List.getElem?_map,List.getElem?_map];simp only [List.length_map,List.length_range]
    by_cases hq:q<l.length
    ·rw [List.getElem?_range hq]
     by_cases eq:i+lowN (i+1)=q
     ·subst eq
      rw [if_pos rfl,if_pos hq]; rfl
     ·rw [if_neg eq]
      simp only [Option.map_some];rw [keep q (by omega)]
    ·rw [List.getElem?_eq_none (by simp; omega),if_neg (by omega)]
     rfl
   rw [e];exact Z2 R h ht hlen k0 m i (by omega) (by omega)
  ·have hd2:decide (((i+1:Nat):Int)+(lowN (i+1):Int)≤(l.length:Int))=false:=decide_eq_false (by omega)
   simp only [hd2];have e:Ff l (i+1)=Ff l i:=by
    unfold Ff;refine List.map_congr_left (fun q hq=>?_);have hq':q<l.length:=by simpa using hq
    rw [keep q (by omega)]
   rw [e];exact Z2 R h ht hlen k0 m i (by omega) (by omega)
theorem F300_eq (R:Type) {l:List Int} (h:AllU64 l) (ht:totS l<9223372036854775808) (hlen:l.length≤200) (k:List Int→Option R):F300 R (Cp l,()) k=k l:=by
 simp only [F300,p300,F289];have hc:decide (List.length ([]:List Int)+l.length≤17592186044416)=true:=by simp; omega
 simp only [E1,hc];have:=Z2 R h ht hlen (fun x3=>k x3) FUEL l.length (Nat.le_refl _) (by rw [Al]; omega);rw [Qc (by omega)] at this;exact this
theorem zow (R:Type) {l:List Int} (h:AllU64 l) (ht:totS l<9223372036854775808) (hlen:l.length≤500) {n:Nat} (hn:n≤l.length) (k:Int→Option R):F324 R (Cp l,()) (n:Int) k=k (sumS l n):=by
 simp only [F324,p324];have:=Z1 R h ht hlen (fun x1=>k x1) n hn FUEL n (Nat.le_refl _) (by rw [Al]; omega);rw [Int.sub_self] at this;exact this
theorem F319_eq (R:Type) {l:List Int} (h:AllU64 l) (ht:totS l<9223372036854775808) (hlen:l.length≤500) {i:Nat} (hi:i<l.length) (k:Int→Int→Option R):F319 R (Cp l,()) (i:Int) k=k (l.getD i 0) 0:=by
 simp only [F319,p319,F325,p325,E1];have d1:decide ((i:Int)<0)=false:=decide_eq_false (by omega);have d2:decide ((i:Int)≥(l.length:Int))=false:=decide_eq_false (by omega);simp only [d1,d2];have hs:=Bw hi;have h0:=Au h Ii i;unfold U64 at h0;rw [wrap_i64 (n:=(i:Int)+1) (by omega) (by omega),show (i:Int)+1=((i+1:Nat):Int) by omega,zow R h ht hlen hi,zow R h ht hlen (by omega),show sumS l (i+1) - sumS l i=l.getD i 0 by omega,Aj (by omega) (by omega)]
theorem Ri {l:List Int} {i:Nat} (hi:i<l.length) (v:Int):∀n:Nat,n≤l.length→sumS (l.set i v) n=sumS l n+(if i<n then v - l.getD i 0 else 0)
 | 0,_=>by simp [F0]
 | n+1,h=>by
  have ih:=Ri hi v n (by omega);rw [Bw (l:=l.set i v) (by rw [List.length_set]; omega),Bw (l:=l) (by omega),ih]
  by_cases e:i=n
  ·subst e
   have e1:(l.set i v).getD i 0=v:=by simp [List.getD_eq_getElem?_getD,hi]
   rw [e1,if_neg (by omega),if_pos (by omega)];omega
  ·have e1:(l.set i v).getD n 0=l.getD n 0:=by simp [List.getD_eq_getElem?_getD,List.getElem?_set,e]
   rw [e1]
   by_cases e2:i<n
   ·rw [if_pos e2,if_pos (by omega)]; omega
   ·rw [if_neg e2,if_neg (by omega)]; omega
theorem AllU64.set0 {l:List Int} (h:AllU64 l) (i:Nat):AllU64 (l.set i 0):=fun x hx=>by
 rcases List.mem_or_eq_of_mem_set hx with hx | hx
 ·exact h x hx
 ·rw [hx]; exact Ii
theorem tot_set {l:List Int} {i:Nat} (hi:i<l.length):totS (l.set i 0)=totS l - l.getD i 0:=by
 have:=Ri hi 0 l.length (Nat.le_refl _);rw [if_pos hi] at this;have e:totS (l.set i 0)=sumS (l.set i 0) l.length:=by unfold totS; rw [List.length_set]
 rw [e,this];show _=sumS l l.length - _
 omega
def setN (l:List Int) (i c q:Nat):Int:=Ec l q - (if q+1<c∧q+1 - lowN (q+1)≤i∧i<q+1 then l.getD i 0 else 0)
def M4 (l:List Int) (i c:Nat):List Int:=(List.range l.length).map (setN l i c)
theorem zr7 (l:List Int) (i c:Nat):(M4 l i c).length=l.length:=by simp [M4]
theorem zr8 {l:List Int} {i c q:Nat} (h:q<l.length):(M4 l i c).getD q 0=setN l i c q:=by simp [M4,h]
theorem zd9 (l:List Int) (i:Nat):M4 l i (i+1)=Cp l:=by
 unfold M4 Cp setN;refine List.map_congr_left (fun q _=>?_);rw [if_neg (by omega)]; omega
theorem zgp {l:List Int} {i c:Nat} (hi:i<l.length) (hc:l.length<c):M4 l i c=Cp (l.set i 0):=by
 unfold M4 Cp;rw [List.length_set];refine List.map_congr_left (fun q hq=>?_);have hq':q<l.length:=by simpa using hq
 unfold setN Ec;rw [Ri hi 0 (q+1) (by omega),Ri hi 0 (q+1 - lowN (q+1)) (by omega)]
 by_cases c1:q+1 - lowN (q+1)≤i∧i<q+1
 ·rw [if_pos ⟨by omega,c1⟩,if_pos c1.2,if_neg (by omega)]; omega
 ·rw [if_neg (fun hh=>c1 hh.2)]
  by_cases c2:i<q+1
  ·rw [if_pos c2,if_pos (by omega)]; omega
  ·rw [if_neg c2,if_neg (by omega)]; omega
theorem zmq (R:Type) {l:List Int} (h:AllU64 l) (ht:totS l<9223372036854775808) (hlen:l.length≤200) {i:Nat} (hi:i<l.length) (x4:List Int×Unit) (k0:(List Int×Unit)→List Int→Option R):∀(m c:Nat),1≤c→i<c→c - lowN c≤i→c≤400→401 - c<m→
  O6 m R 0 (l.getD i 0) (c:Int) x4 (M4 l i c) k0=k0 x4 (Cp (l.set i 0))
 | 0,_,_,_,_,_,hh=>by omega
 | m+1,c,h1,h2,h3,h4,h5=>by
  simp only [O6,zhi,zr7]
  by_cases hc:c≤l.length
  ·have hd:decide ((c:Int)≤(l.length:Int))=true:=decide_eq_true (by omega)
   simp only [hd];have hlo:=Mj (n:=c) h1 (by omega);rw [wrap_i64 (n:=(c:Int) - 1) (by omega) (by omega),show (c:Int) - 1=((c - 1:Nat):Int) by omega];have hb2:bnd ((c - 1:Nat):Int) (l.length:Int)=true:=by unfold bnd; simp; omega
   simp only [hb2,Int.toNat_natCast];rw [zr8 (by omega)];have v:setN l i c (c - 1)=Ec l (c - 1):=by
    unfold setN;rw [if_neg (by omega)]; omega
   rw [v];have hn:=zei h ht (c - 1);have h0:=(Au h Ii i).1;have hge:l.getD i 0≤Ec l (c - 1):=by
    unfold Ec;rw [show c - 1+1=c by omega];have a1:=C5 h h3;have a2:=Bw hi;have a3:=C5 h (show i+1≤c by omega);omega
   rw [Aj (n:=Ec l (c - 1) - l.getD i 0) (by omega) (by omega),Int.add_zero,Aj (n:=Ec l (c - 1) - l.getD i 0) (by omega) (by omega),Tc R h1 (by omega),wrap_i64 (n:=(c:Int)+(lowN c:Int)) (by omega) (by omega),show (c:Int)+(lowN c:Int)=((c+lowN c:Nat):Int) by omega];have e:(M4 l i c).set (c - 1) (Ec l (c - 1) - l.getD i 0)=M4 l i (c+lowN c):=by
    apply List.ext_getElem?;intro q;unfold M4;rw [List.getElem?_set,List.getElem?_map,List.getElem?_map];simp only [List.length_map,List.length_range]
    by_cases hq:q<l.length
    ·rw [List.getElem?_range hq]
     by_cases eq:c - 1=q
     ·subst eq
      rw [if_pos rfl,if_pos hq];simp only [Option.map_some];unfold setN;rw [show c - 1+1=c by omega,if_pos (by omega)]
     ·rw [if_neg eq]
      simp only [Option.map_some];unfold setN
      congr 2
      by_cases q1:q+1<c
      ·have a:q+1<c+lowN c:=by omega
       simp [q1,a]
      ·have n1:¬(q+1<c∧q+1 - lowN (q+1)≤i∧i<q+1):=fun hh=>q1 hh.1
       rw [if_neg n1]
       by_cases q2:q+1<c+lowN c
       ·have hsk:=skip_ok (c:=c) (d:=q - c) h1 (by omega) (by omega)
        rw [show c+(q - c)+1=q+1 by omega] at hsk;rw [if_neg (by omega)]
       ·rw [if_neg (fun hh=>q2 hh.1)]
    ·rw [List.getElem?_eq_none (by simp; omega),if_neg (by omega)]
     rfl
   rw [e];have hup:=up_ok (c:=c) h1 (by omega);exact zmq R h ht hlen hi x4 k0 m (c+lowN c) (by omega) (by omega) (by omega) (by omega) (by omega)
  ·have hd:decide ((c:Int)≤(l.length:Int))=false:=decide_eq_false (by omega)
   simp only [hd];rw [zgp hi (by omega)]
theorem F301_eq (R:Type) {l:List Int} (h:AllU64 l) (ht:totS l<9223372036854775808) (hlen:l.length≤200) {i:Nat} (hi:i<l.length) (k:(List Int×Unit)→Int→Option R):F301 R (Cp l,()) (i:Int) 0 k=k (Cp (l.set i 0),()) 0:=by
 simp only [F301,p301,F289];rw [F319_eq R h ht (by omega) hi];have n0:((0:Int) !=0)=false:=rfl;simp only [n0];rw [zbe R h ht (by omega)];have h0:=(Au h Ii i).1;have hs:=Bw hi;have ha:=D1 h (i+1);have hz:=Ay h i;rw [Aj (n:=totS l - l.getD i 0) (by omega) (by omega),zbi R (by omega) Ii,if_pos (by omega)];simp only [Bool.not_true];have hc:decide (List.length ([]:List Int)+(Cp l).length≤17592186044416)=true:=by rw [E1]; simp; omega
 simp only [hc];rw [wrap_i64 (n:=(i:Int)+1) (by omega) (by omega),show (i:Int)+1=((i+1:Nat):Int) by omega];have hlo:=Mj (n:=i+1) (by omega) (by omega);have:=zmq R h ht hlen hi ([],()) (fun x10 x11=>k (x11,()) 0) FUEL (i+1) (by omega) (by omega) (by omega) (by omega) (by rw [Al]; omega);rw [zd9] at this;exact this
def posN (l:List Int) (i:Nat):Nat:=((l.take i).filter fun x=>decide (x>0)).length
def posS (l:List Int):Int:=(posN l l.length:Int)
theorem Uh {l:List Int} {i:Nat} (h:i<l.length):posN l (i+1)=posN l i+(if l.getD i 0>0 then 1 else 0):=by
 unfold posN;rw [List.take_succ_eq_append_getElem h,List.filter_append,List.length_append];have:l.getD i 0=l[i]:=by simp [h]
 rw [this]
 by_cases e:l[i]>0
 ·rw [if_pos e]; simp [List.filter,e]
 ·rw [if_neg e]; simp [List.filter,e]
theorem posN_le (l:List Int) (i:Nat):posN l i≤l.length:=by
 unfold posN;have:=List.length_filter_le (fun x=>decide (x>0)) (l.take i);have:(l.take i).length≤l.length:=by simp; omega
 omega
theorem Sx (R:Type) {l:List Int} (hlen:l.length≤1000000) (k0:Int→Option R):∀(m i:Nat),i≤l.length→l.length - i<m→
  Pm m R (posN l i:Int) l (l.length:Int) (i:Int) k0=k0 (posS l)
 | 0,i,_,h=>by omega
 | m+1,i,h1,h2=>by
  simp only [Pm,zh1]
  by_cases hi:i<l.length
  ·have hd:decide ((i:Int)<(l.length:Int))=true:=decide_eq_true (by omega)
   have hbn:bnd (i:Int) (l.length:Int)=true:=by unfold bnd; simp; omega
   simp only [hd,hbn,Int.toNat_natCast];have hs:=Uh hi;have hle:=posN_le l i;have e:(i:Int)+1=((i+1:Nat):Int):=by omega
   by_cases hp:l.getD i 0>0
   ·simp only [decide_eq_true hp]
    rw [if_pos hp] at hs;rw [wrap_i64 (n:=(posN l i:Int)+1) (by omega) (by omega),wrap_i64 (n:=(i:Int)+1) (by omega) (by omega),e,show (posN l i:Int)+1=((posN l (i+1):Nat):Int) by omega];exact Sx R hlen k0 m (i+1) (by omega) (by omega)
   ·simp only [decide_eq_false hp]
    rw [if_neg hp] at hs;rw [wrap_i64 (n:=(i:Int)+1) (by omega) (by omega),e,show posN l i=posN l (i+1) by omega];exact Sx R hlen k0 m (i+1) (by omega) (by omega)
  ·have:i=l.length:=by omega
   subst this;have hd:decide ((l.length:Int)<(l.length:Int))=false:=by simp
   simp only [hd];rfl
theorem zdz (R:Type) {l:List Int} (hlen:l.length≤1000000) (k:Int→Option R):F189 R l k=k (posS l):=by
 simp only [F189,p189];exact Sx R hlen (fun x1=>k x1) FUEL 0 (by omega) (by rw [Al]; omega)
theorem zcn {l:List Int} (h:AllU64 l) (hlen:l.length≤200) (ht:totS l<9223372036854775808) {x:Int} (hx:0≤x∧x<totS l):∃i,Owns l x i∧ownN l x=i:=by
 obtain ⟨i,hi,_⟩:=zdu Unit h ht (by omega) hx (fun _ _=>none);exact ⟨i,hi,Xv h hi⟩
theorem zvx {s:Src} (hs:SOK s) {n m:Int} (h:(By s n m).2.2=0):SOK (By s n m).2.1∧atS s≤atS (By s n m).2.1∧∃a,(By s n m).2.1=Cd s a:=by
 unfold By at h ⊢;split at h
 ·rename_i hc
  rw [if_pos hc];obtain ⟨j,_,_,_,j4,j5,_⟩:=Sd _ _ h;rw [j4];obtain ⟨_,_,l3⟩:=Oa hs;have l4:=l3 hc.1;have hb:=hs.bits;have h5:(0:Int)≤(B5 n:Int)*j:=Int.mul_nonneg (by omega) (by omega);have h0:=hs.at_;have hend:endS s<18446744073709551616:=by
   rcases F5 hc.1 with ⟨_,_,_,r⟩ | ⟨_,_,r⟩
   ·rw [r]; unfold U64 at hb; exact hb.2
   ·rw [r]; omega
  change U64 (atS s) at h0
  change atS s+Ee s=endS s at l4
  unfold U64 at h0;exact ⟨hs.set (by unfold U64; omega),by rw [atS_set]; omega,_,rfl⟩
 ·simp at h
theorem lead_ok {l:List Int} (h:AllU64 l) (hlen:l.length≤200) {s:Src} (hs:SOK s) {m:Int} (he:(Ce l s m).2.2=0):totS l<9223372036854775808∧totS l≠0∧(By s (totS l) m).2.2=0∧
  ∃i:Nat,i<l.length∧0<l.getD i 0∧(Ce l s m).1=(i:Int)∧ownN l (By s (totS l) m).1=i∧(Ce l s m).2.1=(By s (totS l) m).2.1∧SOK (Ce l s m).2.1∧atS s≤atS (Ce l s m).2.1:=by
 unfold Ce at he ⊢
 by_cases ht:totS l<9223372036854775808
 ·rw [if_pos ht] at he ⊢
  by_cases h0:totS l=0
  ·rw [if_pos h0] at he; exact absurd he (by show ¬((10:Int)=0); decide)
  ·rw [if_neg h0] at he ⊢
   by_cases hd:(By s (totS l) m).2.2=0
   ·rw [if_pos hd] at he ⊢
    obtain ⟨i,hi,e⟩:=zcn h hlen ht (Kz hd);have h1:=Bw hi.1;have h2:=hi.2;obtain ⟨s1,s2,_⟩:=zvx hs hd;exact ⟨ht,h0,hd,i,hi.1,by omega,by rw [e],e,rfl,s1,s2⟩
   ·rw [if_neg hd] at he; exact absurd he hd
 ·rw [if_neg ht] at he; exact absurd he (by show ¬((11:Int)=0); decide)
def comF (m:Int):Nat→List Int→Src→List Int→List Int×Src×Int
 | 0,_,s,mem=>(mem,s,0)
 | n+1,l,s,mem=>if (Ce l s m).2.2=0 then comF m n (l.set (Ce l s m).1.toNat 0) (Ce l s m).2.1 (mem++[(Ce l s m).1]) else ([],(Ce l s m).2.1,(Ce l s m).2.2)
theorem zr1 {l:List Int} (h:AllU64 l) {i:Nat} (hi:i<l.length):totS (l.set i 0)≤totS l:=by
 rw [tot_set hi];have:=(Au h Ii i).1;omega
theorem zmt (R:Type) {c m:Int} (x6:Src) (k0:Int→Src→Option R) (k1:Src→List Int→Src→Option R) (K:List Int→Src→Int→Option R) (h0:∀e s,k0 e s=K [] s e) (h1:∀s l,k1 s l x6=K l s 0):
  ∀(n f:Nat) (l:List Int) (s:Src) (mem:List Int),AllU64 l→totS l<9223372036854775808→l.length≤200→SOK s→(mem.length:Int)+n=c→c≤1000→n<f→Mx f R c m (Cp l,()) s mem x6 k0 k1=K (comF m n l s mem).1 (comF m n l s mem).2.1 (comF m n l s mem).2.2
 | _,0,_,_,_,_,_,_,_,_,_,hf=>by omega
 | 0,f+1,l,s,mem,h,ht,hl,hs,hc,hc1,hf=>by
  simp only [Mx,zcj];have hd:decide ((mem.length:Int)<c)=false:=decide_eq_false (by omega);simp only [hd];rw [h1];rfl
 | n+1,f+1,l,s,mem,h,ht,hl,hs,hc,hc1,hf=>by
  simp only [Mx,zcj];have hd:decide ((mem.length:Int)<c)=true:=decide_eq_true (by omega);simp only [hd];rw [zo0 R h hl ht hs]
  by_cases he:(Ce l s m).2.2=0
  ·obtain ⟨_,_,_,i,i1,_,i3,_,_,i6,_⟩:=lead_ok h hl hs he
   have e1:((Ce l s m).2.2 !=0)=false:=by simp [he]
   have hcap:∀y:Int,decide (mem.length+List.length [y]≤17592186044416)=true:=fun y=>by simp; omega
   simp only [e1,hcap];simp only [comF];rw [if_pos he,i3,F301_eq R h ht hl i1,Int.toNat_natCast];have n0:((0:Int) !=0)=false:=rfl;simp only [n0];have hd:=zr1 h i1;exact zmt R x6 k0 k1 K h0 h1 n f (l.set i 0) (Ce l s m).2.1 (mem++[(i:Int)]) (h.set0 i) (by omega) (by simpa using hl) i6 (by simp; omega) hc1 (by omega)
  ·have e1:((Ce l s m).2.2 !=0)=true:=by simp [he]
   simp only [e1,comF];rw [if_neg he,h0]
def comR (l:List Int) (c:Int) (s:Src) (m:Int):List Int×Src×Int:=
 if 0≤c∧c≤256∧Bh s=true∧0<m∧m≤64 then (if posS l<c then ([],s,12) else comF m c.toNat l s []) else ([],s,1)
theorem F299_eq (R:Type) {c m:Int} {s:Src} (hs:SOK s) (k:Bool→Option R):F299 R c s m k=k (decide (0≤c∧c≤256∧Bh s=true∧0<m∧m≤64)):=by
 simp only [F299,p299];rw [Ta R hs]
 by_cases h1:c≥0
 ·simp only [decide_eq_true h1]
  by_cases h2:c≤256
  ·simp only [decide_eq_true h2]
   cases h3:Bh s with
   | true=>
    by_cases h4:m>0
    ·simp only [decide_eq_true h4]
     by_cases h5:m≤64
     ·simp [h1,h2,h4,h5]
     ·simp [h5]
    ·have h4':¬(0<m):=h4
     simp [h4']
   | false=>simp
  ·simp [h2]
 ·have h1':¬(0≤c):=h1
  simp [h1']
theorem F278_eq (R:Type) {l:List Int} (h:AllU64 l) (ht:totS l<9223372036854775808) (hl:l.length≤200) {s:Src} (hs:SOK s) (c m:Int) (k:List Int→Src→Int→Option R):F278 R (Cp l,()) c s m k=k (comR l c s m).1 (comR l c s m).2.1 (comR l c s m).2.2:=by
 simp only [F278,p278];rw [F299_eq R hs];unfold comR
 by_cases hm:0≤c∧c≤256∧Bh s=true∧0<m∧m≤64
 ·rw [if_pos hm]
  simp only [decide_eq_true hm,Bool.not_true];rw [F300_eq R h ht hl,zdz R (by omega)]
  by_cases hp:posS l<c
  ·simp only [decide_eq_true hp,if_pos hp]
  ·simp only [decide_eq_false hp,if_neg hp]
   exact zmt R _ _ _ k (fun e s=>rfl) (fun s l=>rfl) c.toNat FUEL l s [] h ht hl hs (by simp; omega) (by omega) (by rw [Al]; omega)
 ·rw [if_neg hm]
  simp only [decide_eq_false hm,Bool.not_false]
def comL (l:List Int) (c:Int) (s:Src) (m:Int):List Int×Src×Int:=if totS l<9223372036854775808 then comR l c s m else ([],s,11)
theorem F246_eq (R:Type) {l:List Int} (h:AllU64 l) (hl:l.length≤200) {s:Src} (hs:SOK s) (c m:Int) (k:List Int→Src→Int→Option R):F246 R c s m l k=k (comL l c s m).1 (comL l c s m).2.1 (comL l c s m).2.2:=by
 simp only [F246,p246];rw [zdv R h hl];unfold comL
 by_cases ht:totS l<9223372036854775808
 ·rw [if_pos ht,if_pos ht]
  have n0:((0:Int) !=0)=false:=rfl;simp only [n0];rw [F278_eq R h ht hl hs]
 ·rw [if_neg ht,if_neg ht]
  rfl
theorem and32 {x:Int} (hx:U64 x):iand .u64 x 4294967295=x % 4294967296:=by
 have:=zjt hx 32 (by omega);simpa using this
theorem shr32 (x:Int):ishr .u64 x 32=x/4294967296:=by
 unfold ishr;rw [show (2:Int)^(min (32:Int).toNat IntKind.u64.bits)=4294967296 by decide,Int.fdiv_eq_ediv_of_nonneg _ (by omega)]
theorem zcd {a b:Int} (ha:0≤a∧a<4294967296) (hb:0≤b∧b<4294967296):0≤a*b∧a*b≤18446744065119617025:=by
 refine ⟨Int.mul_nonneg ha.1 hb.1,?_⟩;have:a*b≤4294967295*4294967295:=Int.mul_le_mul (by omega) (by omega) hb.1 (by omega);omega
theorem zpl (R:Type) {a b:Int} (ha:U64 a) (hb:U64 b) (k:Int→Int→Option R):F120 R a b k=k (a*b/18446744073709551616) (IntKind.u64.wrap (a*b)):=by
 simp only [F120,p120];simp only [shr32];rw [and32 ha,and32 hb];unfold U64 at ha hb;have hx0:0≤a % 4294967296∧a % 4294967296<4294967296:=by omega
 have hx1:0≤a/4294967296∧a/4294967296<4294967296:=by omega
 have hy0:0≤b % 4294967296∧b % 4294967296<4294967296:=by omega
 have hy1:0≤b/4294967296∧b/4294967296<4294967296:=by omega
 have h00:=zcd hx0 hy0;have h10:=zcd hx1 hy0;have h01:=zcd hx0 hy1;have h11:=zcd hx1 hy1;have hab:a*b=(a/4294967296)*(b/4294967296)*18446744073709551616+((a/4294967296)*(b % 4294967296)+(a % 4294967296)*(b/4294967296))*4294967296+(a % 4294967296)*(b % 4294967296):=by
  have e1:a=a % 4294967296+4294967296*(a/4294967296):=(Int.emod_add_mul_ediv a 4294967296).symm;have e2:b=b % 4294967296+4294967296*(b/4294967296):=(Int.emod_add_mul_ediv b 4294967296).symm;generalize a % 4294967296=x0 at*;generalize a/4294967296=x1 at*;generalize b % 4294967296=y0 at*;generalize b/4294967296=y1 at*;subst e1 e2;rw [Int.mul_add,Int.add_mul,Int.add_mul,Int.mul_assoc 4294967296 x1 y0,Int.mul_left_comm x0 4294967296 y1,Int.mul_assoc 4294967296 x1,Int.mul_left_comm x1 4294967296 y1];omega
 generalize (a % 4294967296)*(b % 4294967296)=p00 at*;generalize (a/4294967296)*(b % 4294967296)=p10 at*;generalize (a % 4294967296)*(b/4294967296)=p01 at*;generalize (a/4294967296)*(b/4294967296)=p11 at*;rw [Aj (n:=p00) (by omega) (by omega),Aj (n:=p10) (by omega) (by omega),Aj (n:=p01) (by omega) (by omega),Aj (n:=p11) (by omega) (by omega)];rw [Aj (n:=p10+p00/4294967296) (by omega) (by omega),and32 (by unfold U64; omega)];rw [Aj (n:=(p10+p00/4294967296) % 4294967296+p01) (by omega) (by omega)];rw [Aj (n:=p11+(p10+p00/4294967296)/4294967296) (by omega) (by omega)]
 rw [Aj (n:=p11+(p10+p00/4294967296)/4294967296+((p10+p00/4294967296) % 4294967296+p01)/4294967296) (by omega) (by omega)]
 congr 1
 rw [hab];omega
theorem zox (R:Type) {a b:Int} (ha:U64 a) (hb:U64 b) (k:Int→Bool→Option R):F310 R a b k=(if a*b<9223372036854775808 then k (a*b) true else k 0 false):=by
 simp only [F310,p310];rw [zpl R ha hb];simp only [F262,p262,F286,p286];have h0:0≤a*b:=Int.mul_nonneg ha.1 hb.1;generalize a*b=p at*
 by_cases h1:p<9223372036854775808
 ·have e1:p/18446744073709551616=0:=by omega
  have n0:((0:Int) !=0)=false:=rfl;rw [if_pos h1,e1,Aj (by omega) (by omega)];simp only [n0,decide_eq_true h1,Bool.not_true]
 ·rw [if_neg h1]
  by_cases h2:p<18446744073709551616
  ·have e1:p/18446744073709551616=0:=by omega
   have n0:((0:Int) !=0)=false:=rfl;rw [e1,Aj (by omega) (by omega)];simp only [n0,decide_eq_false h1,Bool.not_false]
  ·have e1:(p/18446744073709551616 !=0)=true:=by
    have:¬p/18446744073709551616=0:=by omega
    simp [this]
   simp only [e1]
abbrev Hw:=Int×(Int×Unit)
abbrev TabA:=Int×(List Hw×Unit)
def badC (t:TabA) (c:Hw):Bool:=decide (c.1>t.1)||(decide (c.2.1<0)||decide (c.2.1≥(t.2.1.length:Int)))
def Il (t:TabA):Bool:=decide ((t.2.1.length:Int)*t.1<9223372036854775808)&&(!((t.2.1.length:Int)==0)&&(!(t.1==0)&& !(t.2.1.any (badC t))))
theorem F313_eq (R:Type) (c:Hw) (t:TabA) (k:Bool→TabA→Option R):F313 R c t k=k (badC t c) t:=by
 simp only [F313,p313,badC];cases decide (c.1>t.1) with
 | true=>rfl
 | false=>
  cases decide (c.2.1<0) with
  | true=>rfl
  | false=>rfl
theorem Q6 (R:Type) (t:TabA) (l:List Hw) (hlen:l.length≤1000000) (k0:Int→TabA→Option R) (k1:TabA→Option R) (K:Bool→TabA→Option R) (h0:∀i:Int,0≤i→k0 i t=K true t) (h1:k1 t=K false t):
  ∀(m i:Nat),i≤l.length→l.length - i<m→A7 m R l (l.length:Int) (i:Int) t k0 k1=K ((l.drop i).any (badC t)) t
 | 0,i,_,h=>by omega
 | m+1,i,h2,h3=>by
  simp only [A7,Jo]
  by_cases hi:i<l.length
  ·have hd:decide ((i:Int)<(l.length:Int))=true:=by simpa using hi
   have hbn:bnd (i:Int) (l.length:Int)=true:=by unfold bnd; simp; omega
   simp only [hd,hbn,Int.toNat_natCast];rw [F313_eq,List.drop_eq_getElem_cons hi,List.any_cons];have hg:l.getD i ((0:Int),(0:Int),())=l[i]:=by simp [hi]
   rw [hg];cases hb:badC t l[i] with
   | true=>simpa using h0 (i:Int) (by omega)
   | false=>
    simp only [Bool.false_or];rw [wrap_i64 (n:=(i:Int)+1) (by omega) (by omega)];exact Q6 R t l hlen k0 k1 K h0 h1 m (i+1) (by omega) (by omega)
  ·have:i=l.length:=by omega
   subst this;have hd:decide ((l.length:Int)<(l.length:Int))=false:=by simp
   simp only [hd];rw [h1,List.drop_length];rfl
theorem Tb (R:Type) {t:TabA} (ht:U64 t.1) (hlen:t.2.1.length≤1000) (k:Bool→Option R):F295 R t k=k (Il t):=by
 simp only [F295,p295];rw [Aj (n:=(t.2.1.length:Int)) (by omega) (by omega),zox R (by unfold U64; omega) ht];unfold Il
 by_cases h1:(t.2.1.length:Int)*t.1<9223372036854775808
 ·rw [if_pos h1]
  simp only [decide_eq_true h1,Bool.not_true,Bool.true_and];cases e1:((t.2.1.length:Int)==0) with
  | true=>rfl
  | false=>
   cases e2:(t.1==0) with
   | true=>rfl
   | false=>
    simp only [Bool.not_false,Bool.true_and,Dt,Xm,De,Xl];have:=Q6 R t t.2.1 (by omega) (fun x2 x3=>k !decide (x2≥0)) (fun x4=>k !decide ((-1:Int)≥0)) (fun b _=>k !b) (fun i hi=>by simp [hi]) (by rfl) FUEL 0 (by omega) (by rw [Al]; omega);simpa using this
 ·rw [if_neg h1]
  simp only [decide_eq_false h1,Bool.not_false,Bool.false_and]
theorem Ro {t:TabA} (h:Il t=true):(t.2.1.length:Int)*t.1<9223372036854775808∧t.2.1.length≠0∧t.1≠0∧∀c∈t.2.1,c.1≤t.1∧0≤c.2.1∧c.2.1<(t.2.1.length:Int):=by
 simp only [Il,Bool.and_eq_true,Bool.not_eq_true',decide_eq_true_eq] at h;obtain ⟨h1,h2,h3,h4⟩:=h;refine ⟨h1,fun e=>by simp [e] at h2,fun e=>by simp [e] at h3,fun c hc=>?_⟩;have:=List.any_eq_false.1 h4 c hc;simp only [badC,Bool.not_eq_true,Bool.or_eq_false_iff,decide_eq_false_iff_not] at this;omega
theorem zoy (R:Type) {t:TabA} (ht:U64 t.1) (hlen:t.2.1.length≤1000) (k:Int→Option R):F297 R t k=k (if Il t=true then (t.2.1.length:Int)*t.1 else 0):=by
 simp only [F297,p297];rw [Tb R ht hlen];cases h:Il t with
 | false=>rfl
 | true=>
  obtain ⟨h1,h2,h3,h4⟩:=Ro h;have h0:0≤(t.2.1.length:Int)*t.1:=Int.mul_nonneg (by omega) ht.1;simp only [Bool.not_true,if_true];rw [Aj (n:=(t.2.1.length:Int)) (by omega) (by omega),Aj h0 (by omega)]
def ownT (t:TabA) (u:Int):Int:=if u % t.1<(t.2.1.getD (u/t.1).toNat (0,0,())).1 then u/t.1 else (t.2.1.getD (u/t.1).toNat (0,0,())).2.1
theorem col_T {t:TabA} (ht:U64 t.1) (h:Il t=true) {u:Int} (hu:0≤u∧u<(t.2.1.length:Int)*t.1):0≤u/t.1∧u/t.1<(t.2.1.length:Int)∧0≤u % t.1∧u % t.1<t.1:=by
 obtain ⟨h1,h2,h3,h4⟩:=Ro h;have hp:0<t.1:=by have:=ht.1; omega
 exact ⟨Int.ediv_nonneg hu.1 (by omega),Int.ediv_lt_of_lt_mul hp hu.2,Int.emod_nonneg _ h3,Int.emod_lt_of_pos _ hp⟩
theorem F298_eq (R:Type) {t:TabA} (ht:U64 t.1) (hlen:t.2.1.length≤1000) (h:Il t=true) {u:Int} (hu:0≤u∧u<(t.2.1.length:Int)*t.1) (k:Int→Int→Option R):F298 R t u k=k (ownT t u) 0:=by
 simp only [F298,p298];rw [Tb R ht hlen];simp only [h,Bool.not_true];rw [zoy R ht hlen];obtain ⟨h1,h2,h3,h4⟩:=Ro h;obtain ⟨c1,c2,c3,c4⟩:=col_T ht h hu;have e0:(t.1==0)=false:=by simp [h3]
 have ed:decide (u≥(t.2.1.length:Int)*t.1)=false:=decide_eq_false (by omega);simp only [h,if_true,ed,e0,Bool.not_false];rw [Int.tdiv_eq_ediv_of_nonneg hu.1,Int.tmod_eq_emod_of_nonneg hu.1,Aj (n:=u/t.1) c1 (by omega),wrap_i64 (n:=u/t.1) (by omega) (by omega)];simp only [F317,p317,F330,p330];rw [Tb R ht hlen];have d1:decide (u/t.1<0)=false:=decide_eq_false (by omega);have d2:decide (u/t.1≥(t.2.1.length:Int))=false:=decide_eq_false (by omega);have d3:decide (u % t.1≥t.1)=false:=decide_eq_false (by omega);have d4:bnd (u/t.1) (t.2.1.length:Int)=true:=by unfold bnd; simp; omega
 have n0:((0:Int) !=0)=false:=rfl;simp only [h,Bool.not_true,d1,d2,n0,d3,d4];unfold ownT
 by_cases hc:u % t.1<(t.2.1.getD (u/t.1).toNat (0,0,())).1
 ·rw [if_pos hc]
  simp only [decide_eq_false (show ¬(u % t.1≥(t.2.1.getD (u/t.1).toNat (0,0,())).1) by omega)]
 ·rw [if_neg hc]
  simp only [decide_eq_true (show (u % t.1≥(t.2.1.getD (u/t.1).toNat (0,0,())).1) by omega)]
def zhd (t:TabA) (s:Src) (m:Int):Int×Src×Int:=
 if Il t=true then (if (By s ((t.2.1.length:Int)*t.1) m).2.2=0 then (ownT t (By s ((t.2.1.length:Int)*t.1) m).1,(By s ((t.2.1.length:Int)*t.1) m).2.1,0)
  else (0,(By s ((t.2.1.length:Int)*t.1) m).2.1,(By s ((t.2.1.length:Int)*t.1) m).2.2)) else (0,s,1)
theorem F275_eq (R:Type) {t:TabA} (ht:U64 t.1) (hlen:t.2.1.length≤1000) {s:Src} (hs:SOK s) (m:Int) (k:Int→Src→Int→Option R):F275 R t s m k=k (zhd t s m).1 (zhd t s m).2.1 (zhd t s m).2.2:=by
 simp only [F275,p275];rw [Tb R ht hlen];unfold zhd;cases h:Il t with
 | false=>rfl
 | true=>
  obtain ⟨h1,h2,h3,h4⟩:=Ro h;have h0:0≤(t.2.1.length:Int)*t.1:=Int.mul_nonneg (by omega) ht.1;simp only [Bool.not_true,if_true];rw [zoy R ht hlen];simp only [h,if_true];rw [zoz R hs (show U64 ((t.2.1.length:Int)*t.1) from by unfold U64; omega)]
  by_cases he:(By s ((t.2.1.length:Int)*t.1) m).2.2=0
  ·have e1:((By s ((t.2.1.length:Int)*t.1) m).2.2 !=0)=false:=by simp [he]
   rw [if_pos he];simp only [e1];rw [F298_eq R ht hlen h (Kz he)]
  ·have e1:((By s ((t.2.1.length:Int)*t.1) m).2.2 !=0)=true:=by simp [he]
   rw [if_neg he];simp only [e1]
def popI (l:List Int):Int:=l.getD (l.length - 1) 0
def cutL (l:List Int):List Int:=l.take (l.length - 1)
theorem zsk (a:List Int) (x:Int):popI (a++[x])=x:=by simp [popI]
theorem zvz (a:List Int) (x:Int):cutL (a++[x])=a:=by simp [cutL]
theorem Rk {l:List Int} (h:l.length≠0):∃a x,l=a++[x]:=by
 rcases List.eq_nil_or_concat l with rfl | ⟨a,x,rfl⟩
 ·simp at h
 ·exact ⟨a,x,by simp⟩
def F2 (T:Int) (h:List Int) (i k:Int):List Int:=h.set k.toNat (h.getD k.toNat 0 - (T - h.getD i.toNat 0))
def runA (T:Int):Nat→List Int→List Hw→List Int→List Int→List Int×(List Hw×(List Int×List Int))
 | 0,h,c,sm,la=>(h,c,sm,la)
 | f+1,h,c,sm,la=>if sm.length=0∨la.length=0 then (h,c,sm,la) else
   if (F2 T h (popI sm) (popI la)).getD (popI la).toNat 0<T then runA T f (F2 T h (popI sm) (popI la)) (c.set (popI sm).toNat (h.getD (popI sm).toNat 0,popI la,())) (cutL sm++[popI la]) (cutL la)
   else runA T f (F2 T h (popI sm) (popI la)) (c.set (popI sm).toNat (h.getD (popI sm).toNat 0,popI la,())) (cutL sm) (cutL la++[popI la])
structure IA (T:Int) (n:Nat) (h:List Int) (c:List Hw) (sm la:List Int):Prop where
 hl:h.length=n
 cl:c.length=n
 ix:∀x∈sm++la,0≤x∧x<(n:Int)
 nd:(sm++la).Nodup
 sml:∀x∈sm,0≤h.getD x.toNat 0∧h.getD x.toNat 0<T
 lrg:∀x∈la,T≤h.getD x.toNat 0∧h.getD x.toNat 0<9223372036854775808
theorem Uv (h:List Int) {i j:Nat} (v:Int) (hij:i≠j):(h.set i v).getD j 0=h.getD j 0:=by
 simp [List.getD_eq_getElem?_getD,List.getElem?_set,hij]
theorem Ml (h:List Int) {i:Nat} (v:Int) (hi:i<h.length):(h.set i v).getD i 0=v:=by
 simp [List.getD_eq_getElem?_getD,hi]
theorem perm1 (s0 l0:List Int) (i k:Int):((s0++[i])++(l0++[k])).Perm (i::((s0++[k])++l0)):=by
 rw [List.append_assoc,List.append_assoc];refine List.perm_middle.trans (.cons i (List.Perm.append_left s0 ?_));exact (List.perm_append_comm:(l0++[k]).Perm ([k]++l0))
theorem perm2 (s0 l0:List Int) (i k:Int):((s0++[i])++(l0++[k])).Perm (i::(s0++(l0++[k]))):=by
 rw [List.append_assoc];exact List.perm_middle
theorem IA.facts {T:Int} {n:Nat} {h:List Int} {c:List Hw} {s0 l0:List Int} {i k:Int} (hI:IA T n h c (s0++[i]) (l0++[k])):
  (0≤i∧i<(n:Int))∧(0≤k∧k<(n:Int))∧i≠k∧(∀x∈s0,x≠i∧x≠k∧0≤x)∧(∀x∈l0,x≠i∧x≠k∧0≤x):=by
 have hn:=(perm1 s0 l0 i k).nodup_iff.1 hI.nd;rw [List.nodup_cons] at hn;obtain ⟨h1,h2⟩:=hn;have h3:(k::(s0++l0)).Nodup:=by
  rw [List.append_assoc] at h2;exact (List.perm_middle (l₁:=s0) (l₂:=l0) (a:=k)).nodup_iff.1 h2
 rw [List.nodup_cons] at h3;have hm:∀x,x∈s0∨x∈l0→x≠i∧x≠k∧0≤x:=fun x hx=>by
  refine ⟨fun e=>h1 ?_,fun e=>h3.1 ?_,(hI.ix x ?_).1⟩
  ·subst e; simp; rcases hx with hx | hx<;>simp [hx]
  ·subst e; simpa using hx
  ·simp; rcases hx with hx | hx<;>simp [hx]
 refine ⟨hI.ix i (by simp),hI.ix k (by simp),fun e=>h1 ?_,fun x hx=>hm x (.inl hx),fun x hx=>hm x (.inr hx)⟩;subst e; simp
theorem IA.step {T:Int} {n:Nat} {h:List Int} {c:List Hw} {s0 l0:List Int} {i k:Int} (hI:IA T n h c (s0++[i]) (l0++[k])):
  (0≤(F2 T h i k).getD k.toNat 0∧(F2 T h i k).getD k.toNat 0<9223372036854775808∧(F2 T h i k).getD k.toNat 0=h.getD k.toNat 0 - (T - h.getD i.toNat 0))∧
  ((F2 T h i k).getD k.toNat 0<T→IA T n (F2 T h i k) (c.set i.toNat (h.getD i.toNat 0,k,())) (s0++[k]) l0)∧
  (¬(F2 T h i k).getD k.toNat 0<T→IA T n (F2 T h i k) (c.set i.toNat (h.getD i.toNat 0,k,())) s0 (l0++[k])):=by
 obtain ⟨hi,hk,hik,hs,hl⟩:=hI.facts;have hkl:k.toNat<h.length:=by rw [hI.hl]; omega
 have ek:(F2 T h i k).getD k.toNat 0=h.getD k.toNat 0 - (T - h.getD i.toNat 0):=Ml h _ hkl;have b1:=hI.sml i (by simp);have b2:=hI.lrg k (by simp);have same:∀x:Int,0≤x→x≠k→(F2 T h i k).getD x.toNat 0=h.getD x.toNat 0:=fun x h0 hx=>Uv h _ (by omega)
 have hn1:=((perm1 s0 l0 i k).nodup_iff.1 hI.nd)
 have hn2:=((perm2 s0 l0 i k).nodup_iff.1 hI.nd)
 rw [List.nodup_cons] at hn1 hn2;refine ⟨⟨by omega,by omega,ek⟩,fun hlt=>⟨by simp [F2,hI.hl],by simp [hI.cl],fun x hx=>hI.ix x ?_,hn1.2,fun x hx=>?_,fun x hx=>?_⟩,fun hge=>⟨by simp [F2,hI.hl],by simp [hI.cl],fun x hx=>hI.ix x ?_,hn2.2,fun x hx=>?_,fun x hx=>?_⟩⟩
 ·simp at hx ⊢; rcases hx with hx | hx | hx<;>simp [hx]
 ·rcases List.mem_append.1 hx with hx | hx
  ·have:=hs x hx
   rw [same x this.2.2 this.2.1]; exact hI.sml x (by simp [hx])
  ·simp at hx; subst hx; omega
 ·have:=hl x hx
  rw [same x this.2.2 this.2.1]; exact hI.lrg x (by simp [hx])
 ·simp at hx ⊢; rcases hx with hx | hx | hx<;>simp [hx]
 ·have:=hs x hx
  rw [same x this.2.2 this.2.1]; exact hI.sml x (by simp [hx])
 ·rcases List.mem_append.1 hx with hx | hx
  ·have:=hl x hx
   rw [same x this.2.2 this.2.1]; exact hI.lrg x (by simp [hx])
  ·simp at hx; subst hx; omega
theorem T1 {T:Int} {f:Nat} {h:List Int} {c:List Hw} {s0 l0:List Int} {i k:Int}:runA T (f+1) h c (s0++[i]) (l0++[k])=
  if (F2 T h i k).getD k.toNat 0<T then runA T f (F2 T h i k) (c.set i.toNat (h.getD i.toNat 0,k,())) (s0++[k]) l0 else runA T f (F2 T h i k) (c.set i.toNat (h.getD i.toNat 0,k,())) s0 (l0++[k]):=by
 simp only [runA,zsk,zvz];rw [if_neg (by simp)]
theorem Nz {T:Int} {f:Nat} {h:List Int} {c:List Hw} {sm la:List Int} (hs:sm.length=0∨la.length=0):runA T f h c sm la=(h,c,sm,la):=by
 cases f with
 | zero=>rfl
 | succ f=>simp only [runA]; rw [if_pos hs]
theorem Mb (R:Type) {T:Int} {n:Nat} (hT:0<T∧T<9223372036854775808) (hn:n≤1000) (x1:TabA) (k0:TabA→List Int→List Hw→List Int→List Int→(Int×Unit)→Option R):
  ∀(f m:Nat) (h:List Int) (c:List Hw) (sm la:List Int),IA T n h c sm la→sm.length+la.length≤f→f≤10000→f<m→
   Fy m R x1 h c sm la (T,()) k0=k0 x1 (runA T f h c sm la).1 (runA T f h c sm la).2.1 (runA T f h c sm la).2.2.1 (runA T f h c sm la).2.2.2 (T,())
 | f,0,_,_,_,_,_,_,_,hm=>by omega
 | f,m+1,h,c,sm,la,hI,hf,hf2,hm=>by
  simp only [Fy,Xn]
  by_cases hs:sm.length=0
  ·have hd:decide ((sm.length:Int)>0)=false:=decide_eq_false (by omega)
   simp only [hd];rw [Nz (.inl hs)]
  ·have hd:decide ((sm.length:Int)>0)=true:=decide_eq_true (by omega)
   simp only [hd]
   by_cases hl:la.length=0
   ·have hd:decide ((la.length:Int)>0)=false:=decide_eq_false (by omega)
    simp only [hd];rw [Nz (.inr hl)]
   ·have hd:decide ((la.length:Int)>0)=true:=decide_eq_true (by omega)
    simp only [hd];obtain ⟨s0,i,rfl⟩:=Rk hs;obtain ⟨l0,k,rfl⟩:=Rk hl;obtain ⟨hi,hk,hik,hms,hml⟩:=hI.facts;obtain ⟨⟨e0,e1,e2⟩,st1,st2⟩:=hI.step;have b1:=hI.sml i (by simp);have b2:=hI.lrg k (by simp);have ls:((s0++[i]).length:Int)=(s0.length:Int)+1:=by simp
    have ll:((l0++[k]).length:Int)=(l0.length:Int)+1:=by simp
    simp only [List.length_append,List.length_cons,List.length_nil] at hf;rw [ls,ll,show (s0.length:Int)+1 - 1=(s0.length:Int) by omega,show (l0.length:Int)+1 - 1=(l0.length:Int) by omega,wrap_i64 (n:=(s0.length:Int)) (by omega) (by omega),wrap_i64 (n:=(l0.length:Int)) (by omega) (by omega)];have d1:bnd (s0.length:Int) ((s0.length:Int)+1)=true:=by unfold bnd; simp; omega
    have d2:bnd (l0.length:Int) ((l0.length:Int)+1)=true:=by unfold bnd; simp; omega
    have d3:decide (0≤(s0.length:Int)∧(s0.length:Int)≤(s0.length:Int)+1)=true:=decide_eq_true (by omega);have d4:decide (0≤(l0.length:Int)∧(l0.length:Int)≤(l0.length:Int)+1)=true:=decide_eq_true (by omega);have g1:(s0++[i]).getD s0.length 0=i:=by simp
    have g2:(l0++[k]).getD l0.length 0=k:=by simp
    have t1:(s0++[i]).take s0.length=s0:=by simp
    have t2:(l0++[k]).take l0.length=l0:=by simp
    have d5:bnd i (h.length:Int)=true:=by rw [hI.hl]; unfold bnd; simp; omega
    have d6:bnd i (c.length:Int)=true:=by rw [hI.cl]; unfold bnd; simp; omega
    have d7:bnd k (h.length:Int)=true:=by rw [hI.hl]; unfold bnd; simp; omega
    simp only [d1,d2,d3,d4,Int.toNat_natCast,g1,g2,t1,t2,d5,d6,d7,List.length_set];rw [Aj (n:=T - h.getD i.toNat 0) (by omega) (by omega),Aj (n:=h.getD k.toNat 0 - (T - h.getD i.toNat 0)) (by omega) (by omega)]
    change (match decide ((F2 T h i k).getD k.toNat 0<T) with
     | true=>_
     | false=>_)=_
    cases f with
    | zero=>omega
    | succ f=>
     rw [T1]
     by_cases hlt:(F2 T h i k).getD k.toNat 0<T
     ·have dc:decide (s0.length+[k].length≤17592186044416)=true:=decide_eq_true (by simp; omega)
      rw [if_pos hlt];simp only [decide_eq_true hlt,dc];exact Mb R hT hn x1 k0 f m _ _ _ _ (st1 hlt) (by simp; omega) (by omega) (by omega)
     ·have dc:decide (l0.length+[k].length≤17592186044416)=true:=decide_eq_true (by simp; omega)
      rw [if_neg hlt];simp only [decide_eq_false hlt,dc];exact Mb R hT hn x1 k0 f m _ _ _ _ (st2 hlt) (by simp; omega) (by omega) (by omega)
theorem zgo {α:Type} (A:List α) (z v:α) (m:Nat) {i:Nat} (hi:A.length=i):(A++List.replicate (m+1) z).set i v=A++[v]++List.replicate m z:=by
 subst hi;rw [List.set_append_right _ _ (Nat.le_refl _),Nat.sub_self,List.replicate_succ,List.set_cons_zero];simp
def hasP (n:Int) (l:List Int) (i:Nat):List Int:=(l.take i).map (fun v=>n*v)++List.replicate (l.length - i) 0
def ceP (T:Int) (i:Nat):List Hw:=(List.range i).map (fun j:Nat=>(T,(j:Int),()))
def smP (T n:Int) (l:List Int) (i:Nat):List Int:=((List.range i).filter (fun j=>decide (n*l.getD j 0<T))).map (fun j:Nat=>(j:Int))
def laP (T n:Int) (l:List Int) (i:Nat):List Int:=((List.range i).filter (fun j=> !decide (n*l.getD j 0<T))).map (fun j:Nat=>(j:Int))
theorem Ni {n:Int} {l:List Int} {i:Nat} (h:i≤l.length):(hasP n l i).length=l.length:=by simp [hasP]; omega
theorem zcv {n:Int} {l:List Int} {i:Nat} (h:i<l.length):(hasP n l i).set i (n*l.getD i 0)=hasP n l (i+1):=by
 unfold hasP;rw [show l.length - i=(l.length - (i+1))+1 by omega,zgo _ _ _ _ (by simp; omega),List.take_succ_eq_append_getElem h,List.map_append];simp only [List.getD_eq_getElem?_getD,List.getElem?_eq_getElem h,Option.getD_some,List.map_cons,List.map_nil]
theorem zv2 (T:Int) (i:Nat):ceP T i++[(T,(i:Int),())]=ceP T (i+1):=by simp [ceP,List.range_succ]
theorem zwz {T n:Int} {l:List Int} {i:Nat} (h:n*l.getD i 0<T):smP T n l i++[(i:Int)]=smP T n l (i+1)∧laP T n l i=laP T n l (i+1):=by
 unfold smP laP;rw [List.range_succ,List.filter_append,List.filter_append,List.map_append,List.map_append];have e1:[i].filter (fun j=>decide (n*l.getD j 0<T))=[i]:=by rw [List.filter_cons,if_pos (decide_eq_true h)]; rfl
 have e2:[i].filter (fun j=> !decide (n*l.getD j 0<T))=[]:=by rw [List.filter_cons,if_neg (by simp only [decide_eq_true h]; simp)]; rfl
 rw [e1,e2];simp
theorem zw0 {T n:Int} {l:List Int} {i:Nat} (h:¬n*l.getD i 0<T):smP T n l i=smP T n l (i+1)∧laP T n l i++[(i:Int)]=laP T n l (i+1):=by
 unfold smP laP;rw [List.range_succ,List.filter_append,List.filter_append,List.map_append,List.map_append];have e1:[i].filter (fun j=>decide (n*l.getD j 0<T))=[]:=by rw [List.filter_cons,if_neg (by simp only [decide_eq_false h]; simp)]; rfl
 have e2:[i].filter (fun j=> !decide (n*l.getD j 0<T))=[i]:=by rw [List.filter_cons,if_pos (by simp only [decide_eq_false h]; simp)]; rfl
 rw [e1,e2];simp
theorem zgk (T n:Int) (l:List Int) (i:Nat):(smP T n l i).length+(laP T n l i).length≤i:=by
 induction i with
 | zero=>simp [smP,laP]
 | succ i ih=>
  by_cases h:n*l.getD i 0<T
  ·obtain ⟨h1,h2⟩:=zwz h
   rw [←h1,←h2]; simp; omega
  ·obtain ⟨h1,h2⟩:=zw0 h
   rw [←h1,←h2]; simp; omega
theorem zew {l:List Int} (h:AllU64 l) (i:Nat):l.getD i 0≤totS l:=by
 by_cases hi:i<l.length
 ·have h1:=Bw hi
  have h2:=Ay h i;have h3:=D1 h (i+1);omega
 ·have:l.getD i 0=0:=by simp [List.getD_eq_getElem?_getD,List.getElem?_eq_none (show l.length≤i by omega)]
  rw [this];exact Ay h l.length
theorem Xk {l:List Int} (h:AllU64 l) (hb:(l.length:Int)*totS l<9223372036854775808) (i:Nat):0≤(l.length:Int)*l.getD i 0∧(l.length:Int)*l.getD i 0<9223372036854775808:=by
 have h1:=(Au h Ii i).1;have h2:=zew h i;have h3:(l.length:Int)*l.getD i 0≤(l.length:Int)*totS l:=Int.mul_le_mul_of_nonneg_left h2 (by omega);exact ⟨Int.mul_nonneg (by omega) h1,by omega⟩
theorem O9 (R:Type) {l:List Int} (h:AllU64 l) (hlen:l.length≤1000) {T:Int} (hb:(l.length:Int)*totS l<9223372036854775808) (x6:TabA) (k0:TabA→List Int→List Hw→List Int→List Int→(Int×Unit)→Option R):
  ∀(m i:Nat),i≤l.length→l.length - i<m→J6 m R l T l (l.length:Int) (i:Int) x6 (hasP (l.length:Int) l i) (ceP T i) (smP T (l.length:Int) l i) (laP T (l.length:Int) l i) (T,()) k0=
   k0 x6 (hasP (l.length:Int) l l.length) (ceP T l.length) (smP T (l.length:Int) l l.length) (laP T (l.length:Int) l l.length) (T,())
 | 0,i,_,hm=>by omega
 | m+1,i,h1,h2=>by
  simp only [J6,zhl]
  by_cases hi:i<l.length
  ·have hd:decide ((i:Int)<(l.length:Int))=true:=by simpa using hi
   have hbn:bnd (i:Int) (l.length:Int)=true:=by unfold bnd; simp; omega
   have hp:=Xk h hb i;have hsl:=zgk T (l.length:Int) l i;have cl:(ceP T i).length=i:=by simp [ceP]
   have dc:decide ((ceP T i).length+[(T,(i:Int),())].length≤8796093022208)=true:=decide_eq_true (by rw [cl]; simp; omega);have ew:IntKind.u64.wrap (l.getD i 0*IntKind.u64.wrap (l.length:Int))=(l.length:Int)*l.getD i 0:=by
    rw [Aj (n:=(l.length:Int)) (by omega) (by omega),Int.mul_comm (l.getD i 0),Aj (n:=(l.length:Int)*l.getD i 0) hp.1 (by omega)]
   simp only [hd,hbn,Int.toNat_natCast,Ni (n:=(l.length:Int)) h1,dc,ew,zcv hi,zv2,Ni (n:=(l.length:Int)) (show i+1≤l.length by omega)];have hg:(hasP (l.length:Int) l (i+1)).getD i 0=(l.length:Int)*l.getD i 0:=by
    rw [←zcv hi,Ml _ _ (by rw [Ni h1]; exact hi)]
   simp only [hbn,hg]
   by_cases hlt:(l.length:Int)*l.getD i 0<T
   ·obtain ⟨q1,q2⟩:=zwz hlt
    have dd:decide ((smP T (l.length:Int) l i).length+[(i:Int)].length≤17592186044416)=true:=decide_eq_true (by simp; omega);simp only [decide_eq_true hlt,dd];rw [q1,q2,wrap_i64 (n:=(i:Int)+1) (by omega) (by omega)];exact O9 R h hlen hb x6 k0 m (i+1) (by omega) (by omega)
   ·obtain ⟨q1,q2⟩:=zw0 hlt
    have dd:decide ((laP T (l.length:Int) l i).length+[(i:Int)].length≤17592186044416)=true:=decide_eq_true (by simp; omega);simp only [decide_eq_false hlt,dd];rw [q1,q2,wrap_i64 (n:=(i:Int)+1) (by omega) (by omega)];exact O9 R h hlen hb x6 k0 m (i+1) (by omega) (by omega)
  ·have:i=l.length:=by omega
   subst this;have hd:decide ((l.length:Int)<(l.length:Int))=false:=by simp
   simp only [hd]
theorem zcw {n:Int} {l:List Int} {j:Nat} (hj:j<l.length):(hasP n l l.length).getD j 0=n*l.getD j 0:=by
 simp [hasP,hj]
theorem Xy {T n:Int} {l:List Int} {i:Nat} {x:Int} (h:x∈smP T n l i):∃j:Nat,x=(j:Int)∧j<i∧n*l.getD j 0<T:=by
 simp only [smP,List.mem_map,List.mem_filter,List.mem_range,decide_eq_true_eq] at h;obtain ⟨j,⟨h1,h2⟩,rfl⟩:=h;exact ⟨j,rfl,h1,h2⟩
theorem Xz {T n:Int} {l:List Int} {i:Nat} {x:Int} (h:x∈laP T n l i):∃j:Nat,x=(j:Int)∧j<i∧¬n*l.getD j 0<T:=by
 simp only [laP,List.mem_map,List.mem_filter,List.mem_range,Bool.not_eq_true',decide_eq_false_iff_not] at h;obtain ⟨j,⟨h1,h2⟩,rfl⟩:=h;exact ⟨j,rfl,h1,h2⟩
theorem Qe {l:List Nat} (h:l.Nodup):(l.map fun j:Nat=>(j:Int)).Nodup:=by
 induction l with
 | nil=>simp
 | cons a l ih=>
  rw [List.nodup_cons] at h;rw [List.map_cons,List.nodup_cons];refine ⟨fun hm=>?_,ih h.2⟩;obtain ⟨b,hb,e⟩:=List.mem_map.1 hm;have:b=a:=by omega
  subst this;exact h.1 hb
theorem zdk {l:List Int} (h:AllU64 l) {T:Int} (hb:(l.length:Int)*totS l<9223372036854775808):IA T l.length (hasP (l.length:Int) l l.length) (ceP T l.length) (smP T (l.length:Int) l l.length) (laP T (l.length:Int) l l.length):=by
 refine ⟨Ni (Nat.le_refl _),by simp [ceP],fun x hx=>?_,?_,fun x hx=>?_,fun x hx=>?_⟩
 ·rcases List.mem_append.1 hx with hx | hx
  ·obtain ⟨j,rfl,hj,_⟩:=Xy hx; omega
  ·obtain ⟨j,rfl,hj,_⟩:=Xz hx; omega
 ·rw [List.nodup_append]
  refine ⟨Qe (List.nodup_range.sublist List.filter_sublist),Qe (List.nodup_range.sublist List.filter_sublist),fun a ha b hb e=>?_⟩;obtain ⟨j,e1,_,h1⟩:=Xy ha;obtain ⟨j',e2,_,h2⟩:=Xz hb;have:j=j':=by omega
  subst this;exact h2 h1
 ·obtain ⟨j,rfl,hj,h1⟩:=Xy hx
  rw [Int.toNat_natCast,zcw hj];exact ⟨(Xk h hb j).1,h1⟩
 ·obtain ⟨j,rfl,hj,h1⟩:=Xz hx
  rw [Int.toNat_natCast,zcw hj];exact ⟨by omega,(Xk h hb j).2⟩
def tabC (l:List Int):List Hw:=(runA (totS l) l.length (hasP (l.length:Int) l l.length) (ceP (totS l) l.length) (smP (totS l) (l.length:Int) l l.length) (laP (totS l) (l.length:Int) l l.length)).2.1
def tabR (l:List Int):TabA×Int:=
 if l.length=0 then ((0,[],()),10) else if ¬totS l<9223372036854775808 then ((0,[],()),11) else if totS l=0 then ((0,[],()),10)
 else if ¬(l.length:Int)*totS l<9223372036854775808 then ((0,[],()),11) else ((totS l,tabC l,()),0)
theorem zb4 {l:List Int} (h0:l.length=0):tabR l=((0,[],()),10):=by unfold tabR; rw [if_pos h0]
theorem zb5 {l:List Int} (h0:l.length≠0) (ht:¬totS l<9223372036854775808):tabR l=((0,[],()),11):=by unfold tabR; rw [if_neg h0,if_pos ht]
theorem To {l:List Int} (h0:l.length≠0) (hz:totS l=0):tabR l=((0,[],()),10):=by unfold tabR; rw [if_neg h0,if_neg (by simp [hz]),if_pos hz]
theorem Tp {l:List Int} (h0:l.length≠0) (ht:totS l<9223372036854775808) (hz:totS l≠0) (hb:¬(l.length:Int)*totS l<9223372036854775808):tabR l=((0,[],()),11):=by
 unfold tabR; rw [if_neg h0,if_neg (by simpa using ht),if_neg hz,if_pos hb]
theorem Xd {l:List Int} (h0:l.length≠0) (ht:totS l<9223372036854775808) (hz:totS l≠0) (hb:(l.length:Int)*totS l<9223372036854775808):tabR l=((totS l,tabC l,()),0):=by
 unfold tabR; rw [if_neg h0,if_neg (by simpa using ht),if_neg hz,if_neg (by simpa using hb)]
def zv8 (l:List Int):Prop:=l.length≠0∧totS l<9223372036854775808∧totS l≠0∧(l.length:Int)*totS l<9223372036854775808
theorem zgi (l:List Int):(zv8 l∧tabR l=((totS l,tabC l,()),0))∨(¬zv8 l∧(tabR l=((0,[],()),10)∨tabR l=((0,[],()),11))):=by
 unfold zv8
 by_cases h0:l.length=0
 ·exact .inr ⟨fun h=>h.1 h0,.inl (zb4 h0)⟩
 by_cases ht:totS l<9223372036854775808
 ·by_cases hz:totS l=0
  ·exact .inr ⟨fun h=>h.2.2.1 hz,.inl (To h0 hz)⟩
  ·by_cases hb:(l.length:Int)*totS l<9223372036854775808
   ·exact .inl ⟨⟨h0,ht,hz,hb⟩,Xd h0 ht hz hb⟩
   ·exact .inr ⟨fun h=>hb h.2.2.2,.inr (Tp h0 ht hz hb)⟩
 ·exact .inr ⟨fun h=>ht h.2.1,.inr (zb5 h0 ht)⟩
theorem F292_eq (R:Type) {l:List Int} (h:AllU64 l) (hlen:l.length≤1000) (k:Int→Int→Option R) (K:TabA→Int→Option R) (h1:zv8 l→k (totS l) 0=K (tabR l).1 0) (h2:∀e,e≠0→k 0 e=K (0,[],()) e):F292 R l k=K (tabR l).1 (tabR l).2:=by
 simp only [F292,p292];rw [Aj (n:=(l.length:Int)) (by omega) (by omega)]
 by_cases h0:l.length=0
 ·have e:((l.length:Int)==0)=true:=by simp [h0]
  simp only [e];rw [zb4 h0];exact h2 10 (by omega)
 ·have e:((l.length:Int)==0)=false:=by simp [h0]
  simp only [e];rw [Mf R h (by omega)];have hnn:=Ay h l.length
  by_cases ht:totS l<9223372036854775808
  ·rw [if_pos ht]
   simp only [Bool.not_true]
   by_cases hz:totS l=0
   ·have e:(totS l==0)=true:=by simp [hz]
    simp only [e];rw [To h0 hz];exact h2 10 (by omega)
   ·have e:(totS l==0)=false:=by simp [hz]
    simp only [e];rw [zox R (by unfold U64; omega) (show U64 (totS l) from by unfold U64; exact ⟨hnn,by omega⟩)]
    by_cases hb:(l.length:Int)*totS l<9223372036854775808
    ·rw [if_pos hb]
     simp only [Bool.not_true];rw [h1 ⟨h0,ht,hz,hb⟩,Xd h0 ht hz hb]
    ·rw [if_neg hb,Tp h0 ht hz hb]
     simp only [Bool.not_false];exact h2 11 (by omega)
  ·rw [if_neg ht,zb5 h0 ht]
   simp only [Bool.not_false];exact h2 11 (by omega)
theorem F274_eq (R:Type) {l:List Int} (h:AllU64 l) (hlen:l.length≤1000) (k:TabA→Int→Option R):F274 R l k=k (tabR l).1 (tabR l).2:=by
 simp only [F274,p274];refine F292_eq R h hlen _ k (fun hc=>?_) (fun e he=>?_)
 ·have n0:((0:Int) !=0)=false:=rfl
  simp only [n0]
  ·obtain ⟨h0,ht,hz,hb⟩:=hc
   have hnn:=Ay h l.length;have hpos:0<totS l:=by have:0≤totS l:=hnn; omega
   rw [Xd h0 ht hz hb];have dc:decide (0≤(l.length:Int)∧(l.length:Int)≤(l.length:Int)∧(l.length:Int)≤(17592186044416:Int))=true:=decide_eq_true (by omega);simp only [dc,Int.toNat_natCast];have g:=O9 R h hlen (T:=totS l) hb (0,[],()) (fun x7 x8 x9 x10 x11 x12=>Fy FUEL R x7 x8 x9 x10 x11 (x12.1,()) (fun x13 x14 x15 x16 x17 x18=>k (x18.1,x15,()) 0)) FUEL 0 (by omega) (by rw [Al]; omega);have q0:hasP (l.length:Int) l 0=List.replicate l.length 0:=by simp [hasP]
   rw [q0] at g;refine g.trans ?_;rw [Mb R (n:=l.length) ⟨hpos,ht⟩ hlen _ _ l.length FUEL _ _ _ _ (zdk h hb) (zgk _ _ _ _) (by omega) (by rw [Al]; omega)];rfl
 ·have n1:(e !=0)=true:=by simp [he]
  simp only [n1]
theorem Xg {T:Int} {n:Nat}:∀(f:Nat) (h:List Int) (c:List Hw) (sm la:List Int),IA T n h c sm la→IA T n (runA T f h c sm la).1 (runA T f h c sm la).2.1 (runA T f h c sm la).2.2.1 (runA T f h c sm la).2.2.2
 | 0,h,c,sm,la,hI=>hI
 | f+1,h,c,sm,la,hI=>by
  by_cases hs:sm.length=0∨la.length=0
  ·rw [Nz hs]; exact hI
  ·obtain ⟨s0,i,rfl⟩:=Rk (fun e=>hs (.inl e))
   obtain ⟨l0,k,rfl⟩:=Rk (fun e=>hs (.inr e));obtain ⟨_,st1,st2⟩:=hI.step;rw [T1]
   by_cases hlt:(F2 T h i k).getD k.toNat 0<T
   ·rw [if_pos hlt]; exact Xg f _ _ _ _ (st1 hlt)
   ·rw [if_neg hlt]; exact Xg f _ _ _ _ (st2 hlt)
theorem zr4 {l:List Int} (h:AllU64 l) (hb:(l.length:Int)*totS l<9223372036854775808):(tabC l).length=l.length:=(Xg l.length _ _ _ _ (zdk h hb)).cl
theorem tab_fit {l:List Int} (h:AllU64 l):U64 (tabR l).1.1∧(tabR l).1.2.1.length≤l.length:=by
 have hnn:=Ay h l.length;rcases zgi l with ⟨⟨h0,ht,hz,hb⟩,e⟩ | ⟨hn,e | e⟩
 ·rw [e]
  exact ⟨by unfold U64; exact ⟨hnn,by have:totS l<9223372036854775808:=ht; show totS l<_; omega⟩,by show (tabC l).length≤_; rw [zr4 h hb]; exact Nat.le_refl _⟩
 ·rw [e]; exact ⟨by unfold U64; simp,by simp⟩
 ·rw [e]; exact ⟨by unfold U64; simp,by simp⟩
def zef (l:List Int) (s:Src) (m:Int):Int×Src×Int:=if (tabR l).2=0 then zhd (tabR l).1 s m else (0,s,(tabR l).2)
theorem F244_eq (R:Type) {l:List Int} (h:AllU64 l) (hlen:l.length≤1000) {s:Src} (hs:SOK s) (m:Int) (k:Int→Src→Int→Option R):F244 R s m l k=k (zef l s m).1 (zef l s m).2.1 (zef l s m).2.2:=by
 simp only [F244,p244];rw [F274_eq R h hlen];obtain ⟨f1,f2⟩:=tab_fit h;unfold zef
 by_cases he:(tabR l).2=0
 ·have e1:((tabR l).2 !=0)=false:=by simp [he]
  rw [if_pos he];simp only [e1];rw [F275_eq R f1 (by omega) hs]
 ·have e1:((tabR l).2 !=0)=true:=by simp [he]
  rw [if_neg he];simp only [e1]
def domS (k slot:Int):Int:=k*4294967296+slot
def mayS (m slot:Int):Bool:=decide (slot≥0)&&(decide (slot<1024)&&(decide (m>0)&&decide (m≤64)))
theorem zbg (R:Type) (a:List Int) (m slot:Int) (k:Bool→Option R):F243 R (a,m,()) slot k=k (mayS m slot):=by
 simp only [F243,p243,mayS];cases decide (slot≥0)<;>cases decide (slot<1024)<;>cases decide (m>0)<;>rfl
theorem Jt {m slot:Int} (h:mayS m slot=true):0≤slot∧slot<1024∧0<m∧m≤64:=by
 simp only [mayS,Bool.and_eq_true,decide_eq_true_eq] at h;exact ⟨h.1,h.2.1,h.2.2.1,h.2.2.2⟩
theorem wrap32 {n:Int} (h1:0≤n) (h2:n<4294967296):IntKind.u32.wrap n=n:=by
 unfold IntKind.wrap;simp only [IntKind.bits,IntKind.signed];have e:n % (2^32)=n:=Int.emod_eq_of_lt h1 h2
 first
 | exact e
 | simp [e]
 | (simp; omega)
theorem zbf (R:Type) (a:List Int) (m:Int) {d slot:Int} (hd:0≤d∧d≤10) (hs:0≤slot∧slot<1024) (k:Src→Option R):F245 R (a,m,()) d slot k=k (Cq a (domS d slot)):=by
 simp only [F245,p245];rw [wrap32 hs.1 (by omega),F277_eq R (by unfold U32; omega) (by unfold U32; omega),F276_eq];rfl
theorem dom_u64 {d slot:Int} (hd:0≤d∧d≤10) (hs:0≤slot∧slot<1024):U64 (domS d slot):=by unfold U64 domS; omega
def srcS (a:List Int) (d slot:Int):Src:=Cq a (domS d slot)
theorem Rj {a:List Int} (ha:H32 a) {d slot:Int} (hd:0≤d∧d≤10) (hs:0≤slot∧slot<1024):SOK (srcS a d slot):=Tt ha (dom_u64 hd hs)
def leaS (a:List Int) (slot m:Int) (l:List Int):Int×Int:=
 if mayS m slot=true then (if totS l<9223372036854775808 then ((Ce l (srcS a 1 slot) m).1,(Ce l (srcS a 1 slot) m).2.2) else (0,11)) else (0,1)
theorem F273_eq (R:Type) {a:List Int} (ha:H32 a) {m slot:Int} (hs:0≤slot∧slot<1024) {l:List Int} (h:AllU64 l) (ht:totS l<9223372036854775808) (hl:l.length≤200) (k:Int→Int→Option R):
  F273 R (a,m,()) (Cp l,()) slot k=k (Ce l (srcS a 1 slot) m).1 (Ce l (srcS a 1 slot) m).2.2:=by
 simp only [F273,p273];rw [zbf R a m (by omega) hs];show F291 R (Cp l,()) (srcS a 1 slot) m _=_
 rw [zo0 R h hl ht (Rj ha (by omega) hs)]
def aliS (a:List Int) (slot m:Int) (l:List Int):Int×Int:=
 if mayS m slot=true then ((zef l (srcS a 2 slot) m).1,(zef l (srcS a 2 slot) m).2.2) else (0,1)
theorem F191_eq (R:Type) {a:List Int} (ha:H32 a) (slot m:Int) {l:List Int} (h:AllU64 l) (hl:l.length≤200) (k:Int→Int→Option R):F191 R a slot m l k=k (aliS a slot m l).1 (aliS a slot m l).2:=by
 simp only [F191,p191];rw [zbg];unfold aliS;cases hm:mayS m slot with
 | false=>rfl
 | true=>
  obtain ⟨m1,m2,_⟩:=Jt hm;simp only [Bool.not_true,if_true];rw [zbf R a m (by omega) ⟨m1,m2⟩];show F244 R (srcS a 2 slot) m l _=_;rw [F244_eq R h (by omega) (Rj ha (by omega) ⟨m1,m2⟩)]
def sitS (a:List Int) (slot c m:Int) (l:List Int):List Int×Int:=
 if mayS m slot=true then ((comL l c (srcS a 3 slot) m).1,(comL l c (srcS a 3 slot) m).2.2) else ([],1)
theorem F192_eq (R:Type) {a:List Int} (ha:H32 a) (slot c m:Int) {l:List Int} (h:AllU64 l) (hl:l.length≤200) (k:List Int→Int→Option R):F192 R a slot c m l k=k (sitS a slot c m l).1 (sitS a slot c m l).2:=by
 simp only [F192,p192];rw [zbg];unfold sitS;cases hm:mayS m slot with
 | false=>rfl
 | true=>
  obtain ⟨m1,m2,_⟩:=Jt hm;simp only [Bool.not_true,if_true];rw [zbf R a m (by omega) ⟨m1,m2⟩];show F246 R c (srcS a 3 slot) m l _=_;rw [F246_eq R h hl (Rj ha (by omega) ⟨m1,m2⟩)]
theorem zm5 (R:Type) (l r:List Int) (hl:l.length≤1000000) (hr:l.length=r.length) (k0:Bool→Option R) (k1:Option R):∀(m i:Nat),i≤l.length→l.length - i<m→l.take i=r.take i→
  Z8 m R l r (i:Int) k0 k1=if l=r then k1 else k0 false
 | 0,i,_,h,_=>by omega
 | m+1,i,h1,h2,h3=>by
  simp only [Z8,p17_4]
  by_cases hi:i<l.length
  ·have hd:decide ((i:Int)<(l.length:Int))=true:=decide_eq_true (by omega)
   have hbn:bnd (i:Int) (l.length:Int)=true:=by unfold bnd; simp; omega
   have hbr:bnd (i:Int) (r.length:Int)=true:=by unfold bnd; simp; omega
   simp only [hd,hbn,hbr,Int.toNat_natCast]
   by_cases he:l.getD i 0=r.getD i 0
   ·have e1:(l.getD i 0 !=r.getD i 0)=false:=by rw [he]; simp
    simp only [e1];rw [wrap_i64 (n:=(i:Int)+1) (by omega) (by omega)];refine zm5 R l r hl hr k0 k1 m (i+1) (by omega) (by omega) ?_;rw [List.take_succ_eq_append_getElem hi,List.take_succ_eq_append_getElem (by omega),h3]
    congr 2
    simpa [hi,show i<r.length by omega] using he
   ·have e1:(l.getD i 0 !=r.getD i 0)=true:=by simpa using he
    simp only [e1];rw [if_neg (fun e=>he (by rw [e]))]
  ·have:i=l.length:=by omega
   subst this;have hd:decide ((l.length:Int)<(l.length:Int))=false:=by simp
   simp only [hd];rw [List.take_length,hr,List.take_length] at h3;rw [if_pos h3]
theorem zzi (R:Type) (l r:List Int) (hl:l.length≤1000000) (k:Bool→Option R):F17 R l r k=k (decide (l=r)):=by
 simp only [F17,p17]
 by_cases hr:l.length=r.length
 ·have e:((l.length:Int) !=(r.length:Int))=false:=by rw [hr]; simp
  simp only [e];have:=zm5 R l r hl hr (fun x4=>k x4) (k true) FUEL 0 (by omega) (by rw [Al]; omega) (by simp);refine Eq.trans ?_ (this.trans ?_)
  ·rfl
  by_cases h:l=r
  ·rw [if_pos h,decide_eq_true h]
  ·rw [if_neg h,decide_eq_false h]
 ·have e:((l.length:Int) !=(r.length:Int))=true:=by
   have:¬(l.length:Int)=(r.length:Int):=by omega
   simpa using this
  simp only [e];rw [decide_eq_false (fun h=>hr (by rw [h]))]
def schV (a:List Int) (m:Int) (l:List Int) (i:Nat):Int:=if (leaS a (i:Int) m l).2=0 then (leaS a (i:Int) m l).1 else -1
def schP (a:List Int) (m:Int) (l:List Int) (n:Nat):List Int:=(List.range n).map (schV a m l)
theorem H2 (a:List Int) (m:Int) (l:List Int) (n:Nat):(schP a m l n).length=n:=by simp [schP]
theorem Tx (a:List Int) (m:Int) (l:List Int) (n:Nat):schP a m l n++[schV a m l n]=schP a m l (n+1):=by simp [schP,List.range_succ]
def schL (a:List Int) (n m:Int) (l:List Int):List Int×Int:=
 if n<1 then ([],1) else if mayS m (n - 1)=true then (if totS l<9223372036854775808 then (schP a m l n.toNat,0) else ([],11)) else ([],1)
theorem may_le {m:Int} {n i:Int} (h:mayS m n=true) (h0:0≤i) (h1:i≤n):mayS m i=true:=by
 obtain ⟨a,b,c,d⟩:=Jt h;unfold mayS;simp;omega
theorem Z6 (R:Type) {a:List Int} (ha:H32 a) {m:Int} {l:List Int} (h:AllU64 l) (ht:totS l<9223372036854775808) (hl:l.length≤200) {N:Nat} (hN:N≤1024) (hm:∀i:Nat,i<N→mayS m (i:Int)=true) (k0:List Int→Option R):∀(f i:Nat),i≤N→N - i<f→
  Pf f R (N:Int) (i:Int) (a,m,()) (Cp l,()) (schP a m l i++List.replicate (N - i) 0) k0=k0 (schP a m l N)
 | 0,_,_,hh=>by omega
 | f+1,i,h1,h2=>by
  simp only [Pf,zht];have hlen:(schP a m l i++List.replicate (N - i) (0:Int)).length=N:=by simp [H2]; omega
  by_cases hi:i<N
  ·have hd:decide ((i:Int)<(N:Int))=true:=decide_eq_true (by omega)
   simp only [hd];rw [F273_eq R ha (by omega) h ht hl];have hb:bnd (i:Int) ((schP a m l i++List.replicate (N - i) (0:Int)).length:Int)=true:=by rw [hlen]; unfold bnd; simp; omega
   have hle:leaS a (i:Int) m l=((Ce l (srcS a 1 (i:Int)) m).1,(Ce l (srcS a 1 (i:Int)) m).2.2):=by unfold leaS; rw [if_pos (hm i hi),if_pos ht]
   simp only [hb,Int.toNat_natCast];have hset:∀v:Int,(schP a m l i++List.replicate (N - i) (0:Int)).set i v=schP a m l i++[v]++List.replicate (N - (i+1)) 0:=fun v=>by
    rw [show N - i=N - (i+1)+1 by omega];exact zgo _ _ _ _ (H2 a m l i)
   rw [wrap_i64 (n:=(i:Int)+1) (by omega) (by omega),show (i:Int)+1=((i+1:Nat):Int) by omega]
   by_cases he:(Ce l (srcS a 1 (i:Int)) m).2.2=0
   ·have e1:((Ce l (srcS a 1 (i:Int)) m).2.2 !=0)=false:=by simp [he]
    simp only [e1,hset];have hv:(Ce l (srcS a 1 (i:Int)) m).1=schV a m l i:=by unfold schV; rw [hle]; rw [if_pos he]
    rw [hv,Tx];exact Z6 R ha h ht hl hN hm k0 f (i+1) (by omega) (by omega)
   ·have e1:((Ce l (srcS a 1 (i:Int)) m).2.2 !=0)=true:=by simp [he]
    have hb2:bnd (i:Int) ((schP a m l i++[(Ce l (srcS a 1 (i:Int)) m).1]++List.replicate (N - (i+1)) (0:Int)).length:Int)=true:=by
     unfold bnd; simp [H2]; omega
    simp only [e1,hset,hb2];have hv:(-1:Int)=schV a m l i:=by unfold schV; rw [hle]; rw [if_neg he]
    have hset2:(schP a m l i++[(Ce l (srcS a 1 (i:Int)) m).1]++List.replicate (N - (i+1)) (0:Int)).set i (-1)=schP a m l i++[(-1:Int)]++List.replicate (N - (i+1)) 0:=by
     rw [List.append_assoc,List.set_append_right _ _ (by rw [H2]; exact Nat.le_refl _),H2,Nat.sub_self];simp
    rw [hset2,hv,Tx];exact Z6 R ha h ht hl hN hm k0 f (i+1) (by omega) (by omega)
  ·have:i=N:=by omega
   subst this;have hd:decide ((i:Int)<(i:Int))=false:=by simp
   simp only [hd];rw [Nat.sub_self,List.replicate_zero,List.append_nil]
theorem F240_eq (R:Type) {a:List Int} (ha:H32 a) {n:Int} (hn:n≤9223372036854775807) (m:Int) {l:List Int} (h:AllU64 l) (hl:l.length≤200) (k:List Int→Int→Option R):F240 R a n m l k=k (schL a n m l).1 (schL a n m l).2:=by
 simp only [F240,p240];unfold schL
 by_cases h1:n<1
 ·simp only [decide_eq_true h1,if_pos h1]
 ·simp only [decide_eq_false h1,if_neg h1]
  rw [wrap_i64 (n:=n - 1) (by omega) (by omega),zbg];cases hm:mayS m (n - 1) with
  | false=>rfl
  | true=>
   obtain ⟨m1,m2,_⟩:=Jt hm;simp only [Bool.not_true,if_true];rw [zdv R h hl]
   by_cases ht:totS l<9223372036854775808
   ·rw [if_pos ht,if_pos ht]
    have n0:((0:Int) !=0)=false:=rfl;have hc:decide (0≤n∧n≤n∧n≤(17592186044416:Int))=true:=decide_eq_true (by omega);simp only [n0,hc,List.length_replicate];have:=Z6 R ha h ht hl (N:=n.toNat) (by omega) (fun i hi=>may_le hm (by omega) (by omega)) (fun x9=>k x9 0) FUEL 0 (by omega) (by rw [Al]; omega);exact this
   ·rw [if_neg ht,if_neg ht]; rfl
open Go.Proofs
abbrev Cfg:=Int×Int×Int×Int×Int×Unit
def cfgS (c:Cfg):Bool:=decide (1≤c.1∧c.1≤1024∧0≤c.2.1∧c.2.1≤c.1∧0≤c.2.2.1∧c.2.2.1≤c.1 - c.2.1∧1≤c.2.2.2.1∧c.2.2.2.1≤64∧1≤c.2.2.2.2.1∧c.2.2.2.2.1≤1048576)
theorem B9 {c:Cfg} (h:cfgS c=true):1≤c.1∧c.1≤1024∧0≤c.2.1∧c.2.1≤c.1∧0≤c.2.2.1∧c.2.2.1≤c.1 - c.2.1∧1≤c.2.2.2.1∧c.2.2.2.1≤64∧1≤c.2.2.2.2.1∧c.2.2.2.2.1≤1048576:=of_decide_eq_true h
theorem F86_eq (R:Type) (x lo hi:Int) (k:Bool→Option R):F86 R x lo hi k=k (decide (lo≤x∧x≤hi)):=by
 simp only [F86,p86]
 by_cases h:x≥lo
 ·by_cases h2:x≤hi<;>simp [h,h2,show lo≤x from h]
 ·have h3:¬(lo≤x):=h
  simp [h3]
theorem zzd (R:Type) (c:Cfg) (k:Bool→Option R):F58 R c k=k (cfgS c):=by
 obtain ⟨s,co,re,at_,mo,_⟩:=c;simp only [F58,p58,F86_eq,cfgS]
 by_cases h1:1≤s∧s≤1024
 ·by_cases h2:0≤co∧co≤s
  ·rw [wrap_i64 (by omega) (by omega)]
   by_cases h3:0≤re∧re≤s - co
   ·by_cases h4:1≤at_∧at_≤64
    ·simp [h1,h2,h3,h4]
    ·have:¬(1≤s∧s≤1024∧0≤co∧co≤s∧0≤re∧re≤s - co∧1≤at_∧at_≤64∧1≤mo∧mo≤1048576):=by omega
     rw [decide_eq_false this]; simp [h1,h2,h3,h4]
   ·have:¬(1≤s∧s≤1024∧0≤co∧co≤s∧0≤re∧re≤s - co∧1≤at_∧at_≤64∧1≤mo∧mo≤1048576):=by omega
    rw [decide_eq_false this]; simp [h1,h2,h3]
  ·have:¬(1≤s∧s≤1024∧0≤co∧co≤s∧0≤re∧re≤s - co∧1≤at_∧at_≤64∧1≤mo∧mo≤1048576):=by omega
   rw [decide_eq_false this]; simp [h1,h2]
 ·have:¬(1≤s∧s≤1024∧0≤co∧co≤s∧0≤re∧re≤s - co∧1≤at_∧at_≤64∧1≤mo∧mo≤1048576):=by omega
  rw [decide_eq_false this]; simp [h1]
theorem F37_eq (R:Type) (c:Cfg) (k:Bool→Option R):F37 R c k=k (cfgS c):=by
 obtain ⟨s,co,re,at_,mo,_⟩:=c;simp only [F37,p37,cfgS]
 by_cases h:1≤s∧s≤1024∧0≤co∧co≤s∧0≤re∧re≤s - co∧1≤at_∧at_≤64∧1≤mo∧mo≤1048576
 ·obtain ⟨a1,a2,a3,a4,a5,a6,a7,a8,a9,a10⟩:=h
  rw [wrap_i64 (n:=s - co) (by omega) (by omega)];simp [a1,a2,a3,a4,a5,a6,a7,a8,a9,a10]
 ·rw [decide_eq_false h]
  repeat' split
  all_goals first | rfl | skip
  all_goals (simp only [decide_eq_true_eq] at*)
  rw [wrap_i64 (n:=s - co) (by omega) (by omega)] at*
  congr 1
  rw [decide_eq_false];omega
def phS (c:Cfg) (i:Int):Int:=if cfgS c=true∧0≤i∧i<c.1 then (if i<c.2.1 then 1 else if i<c.2.1+c.2.2.1 then 2 else 3) else 0
theorem zo7 (R:Type) (c:Cfg) (i:Int) (k:Bool→Option R):F229 R c i k=k (decide (cfgS c=true∧0≤i∧i<c.1)):=by
 simp only [F229,p229,zzd];cases hr:cfgS c with
 | false=>simp
 | true=>
  by_cases h:0≤i
  ·simp [h]
  ·simp [h]
theorem zph (R:Type) (c:Cfg) (i:Int) (k:Int→Option R):F181 R c i k=k (phS c i):=by
 simp only [F181,p181,zo7,phS]
 by_cases h:cfgS c=true∧0≤i∧i<c.1
 ·have hr:=B9 h.1
  rw [wrap_i64 (by omega) (by omega),if_pos h]
  by_cases h2:i<c.2.1
  ·simp [h,h2]
  ·by_cases h3:i<c.2.1+c.2.2.1<;>simp [h,h2,h3]
 ·simp [h]
def Py (c:Cfg) (i:Int):Int:=if phS c i=0∨i=c.1 - 1 then 0 else i+1
def zu4 (c:Cfg) (i:Int):Bool:=decide (phS c i≠0∧i=c.1 - 1)
theorem zce {c:Cfg} {i:Int}:phS c i=0↔¬(cfgS c=true∧0≤i∧i<c.1):=by
 unfold phS;constructor
 ·intro h hh; rw [if_pos hh] at h; split at h<;>omega
 ·intro h; rw [if_neg h]
theorem F186_eq (R:Type) (c:Cfg) (i:Int) (k:Int→Bool→Option R):F186 R c i k=k (Py c i) (zu4 c i):=by
 simp only [F186,p186,zo7,Py,zu4]
 by_cases h:cfgS c=true∧0≤i∧i<c.1
 ·have hr:=B9 h.1
  have hp:phS c i≠0:=fun e=>zce.1 e h
  have hz:(c.1==0)=false:=by simp; omega
  rw [wrap_i64 (by omega) (by omega)];simp only [h,hz,hp]
  by_cases h2:i=c.1 - 1
  ·have:i+1=c.1:=by omega
   rw [decide_eq_true (p:=phS c i≠0∧i=c.1 - 1) ⟨hp,h2⟩];simp [h2]
  ·rw [Int.tmod_eq_of_lt (by omega) (by omega)]
   have:(i+1==0)=false:=by simp; omega
   simp [h2,this]
 ·simp [h,zce.2 h]
abbrev Va:=List Int×(Int×(Int×Unit))
abbrev zV:Va:=(List.replicate 32 (0:Int),(0:Int),(0:Int),())
structure VaOK (v:Va):Prop where
 key:H32 v.1
 stake:U64 v.2.1
 next:U64 v.2.2.1
def VsOK (l:List Va):Prop:=∀v∈l,VaOK v
theorem zV_ok:VaOK zV:=⟨A6,Ii,Ii⟩
theorem VsOK.get {l:List Va} (h:VsOK l) (i:Nat):VaOK (l.getD i zV):=by
 rw [List.getD_eq_getElem?_getD];cases hi:l[i]? with
 | none=>exact zV_ok
 | some c=>exact h c (List.mem_of_getElem? hi)
theorem eqvV {a b:Va} (ha:VaOK a) (hb:VaOK b):Kd.eqv Kq5 a b=decide (a=b):=by
 obtain ⟨a1,a2,a3,⟨⟩⟩:=a;obtain ⟨b1,b2,b3,⟨⟩⟩:=b;have e1:Kd.eqv (.arr 32 (.int .u8)) a1 b1=decide (a1=b1):=Ci ha.key.1 hb.key.1;show ((Kd.eqv (.arr 32 (.int .u8)) a1 b1)&&((a2==b2)&&((a3==b3)&&true)))=_;rw [e1]
 by_cases h1:a1=b1
 ·by_cases h2:a2=b2
  ·by_cases h3:a3=b3
   ·simp [h1,h2,h3]
   ·simp [h3]
  ·simp [h2]
 ·simp [h1]
theorem C9 {l:List Va} {i:Nat} (hi:i<l.length):l.getD i zV=l[i]:=by simp [hi]
theorem zyc (R:Type) {a b:List Va} (ha:VsOK a) (hb:VsOK b) (hl:a.length=b.length) (hn:a.length≤1000) (k0:Bool→Option R) (k1:Option R):∀(m i:Nat),i≤a.length→a.length - i<m→
  Z0 m R a b (i:Int) k0 k1=if a.drop i=b.drop i then k1 else k0 false
 | 0,i,_,h=>by omega
 | m+1,i,h1,h2=>by
  simp only [Z0,p34_4]
  by_cases hi:i<a.length
  ·have hib:i<b.length:=by omega
   have ih:=zyc R ha hb hl hn k0 k1 m (i+1) (by omega) (by omega);simp only [Df hi,A4 hi,A4 hib,Int.toNat_natCast,Cc hi hn];rw [eqvV (ha.get i) (hb.get i),ih,List.drop_eq_getElem_cons hi,List.drop_eq_getElem_cons hib,C9 hi,C9 hib]
   by_cases e:a[i]=b[i]
   ·simp only [decide_eq_true e,Bool.not_true]
    simp only [e,List.cons.injEq,true_and]
   ·simp only [decide_eq_false e,Bool.not_false]
    simp only [List.cons.injEq,e,false_and,if_false]
  ·have:i=a.length:=by omega
   subst this;simp only [Cx];rw [List.drop_length,hl,List.drop_length,if_pos rfl]
theorem F34_eq (R:Type) {a b:List Va} (ha:VsOK a) (hb:VsOK b) (hn:a.length≤1000) (k:Bool→Option R):F34 R a b k=k (decide (a=b)):=by
 simp only [F34,p34]
 by_cases hl:a.length=b.length
 ·have e:((a.length:Int) !=(b.length:Int))=false:=by simp [hl]
  simp only [e];refine (zyc R ha hb hl hn (fun x4=>k x4) (k true) FUEL 0 (by omega) (by rw [Al]; omega)).trans ?_;rw [List.drop_zero,List.drop_zero]
  by_cases h:a=b
  ·rw [if_pos h,decide_eq_true h]
  ·rw [if_neg h,decide_eq_false h]
 ·have e:((a.length:Int) !=(b.length:Int))=true:=by simp; omega
  have h:a≠b:=fun h=>hl (by rw [h])
  simp only [e,decide_eq_false h]
def Am (l:List Va):List Int:=l.map fun v=>v.2.1
def A0 (l:List Va):List Int:=l.map fun v=>v.2.2.1
theorem Dk {l:List Va} (h:VsOK l):AllU64 (Am l):=fun x hx=>by
 obtain ⟨v,hv,rfl⟩:=List.mem_map.1 hx;exact (h v hv).stake
theorem Gd {l:List Va} (h:VsOK l):AllU64 (A0 l):=fun x hx=>by
 obtain ⟨v,hv,rfl⟩:=List.mem_map.1 hx;exact (h v hv).next
theorem Cw (l:List Va):(Am l).length=l.length:=by simp [Am]
theorem Es (l:List Va):(A0 l).length=l.length:=by simp [A0]
theorem Tv {l:List Va} {i:Nat} (hi:i<l.length):Am (l.take i)++[(l.getD i zV).2.1]=Am (l.take (i+1)):=by
 rw [List.take_succ_eq_append_getElem hi,C9 hi]; simp only [Am,List.map_append,List.map_cons,List.map_nil]
theorem Xx {l:List Va} {i:Nat} (hi:i<l.length):A0 (l.take i)++[(l.getD i zV).2.2.1]=A0 (l.take (i+1)):=by
 rw [List.take_succ_eq_append_getElem hi,C9 hi]; simp only [A0,List.map_append,List.map_cons,List.map_nil]
theorem zxm {n m:Nat} (hn:n≤1000) (hm:m=1):decide (n+m≤17592186044416)=true:=by simp; omega
theorem Q8 (R:Type) {l:List Va} (hn:l.length≤1000) (k0:List Int→Option R):∀(m i:Nat),i≤l.length→l.length - i<m→
  Ba m R l (l.length:Int) (i:Int) (Am (l.take i)) k0=k0 (Am l)
 | 0,i,_,h=>by omega
 | m+1,i,h1,h2=>by
  simp only [Ba,Jr,F242,p242]
  by_cases hi:i<l.length
  ·have ih:=Q8 R hn k0 m (i+1) (by omega) (by omega)
   have hc:decide ((Am (l.take i)).length+[(l.getD i zV).2.1].length≤17592186044416)=true:=zxm (by rw [Cw,List.length_take]; omega) rfl;simp only [Df hi,A4 hi,Int.toNat_natCast,Cc hi hn,hc];rw [Tv hi,ih]
  ·have:i=l.length:=by omega
   subst this;simp only [Cx,List.take_length]
theorem Ps (R:Type) {l:List Va} (hn:l.length≤1000) (k:List Int→Option R):F190 R l k=k (Am l):=by
 simp only [F190,p190,Dw,Xq];have hc:decide ((0:Int)≤0∧(0:Int)≤(l.length:Int)∧(l.length:Int)≤17592186044416)=true:=by simp; omega
 simp only [hc];exact Q8 R hn (fun x=>k x) FUEL 0 (by omega) (by rw [Al]; omega)
theorem Q7 (R:Type) {l:List Va} (hn:l.length≤1000) (k0:List Int→Option R):∀(m i:Nat),i≤l.length→l.length - i<m→
  A9 m R l (l.length:Int) (i:Int) (A0 (l.take i)) k0=k0 (A0 l)
 | 0,i,_,h=>by omega
 | m+1,i,h1,h2=>by
  simp only [A9,Jq,F261,p261]
  by_cases hi:i<l.length
  ·have ih:=Q7 R hn k0 m (i+1) (by omega) (by omega)
   have hc:decide ((A0 (l.take i)).length+[(l.getD i zV).2.2.1].length≤17592186044416)=true:=zxm (by rw [Es,List.length_take]; omega) rfl;simp only [Df hi,A4 hi,Int.toNat_natCast,Cc hi hn,hc];rw [Xx hi,ih]
  ·have:i=l.length:=by omega
   subst this;simp only [Cx,List.take_length]
theorem zo9 (R:Type) {l:List Va} (hn:l.length≤1000) (k:List Int→Option R):F224 R l k=k (A0 l):=by
 simp only [F224,p224,Dv,Xp];have hc:decide ((0:Int)≤0∧(0:Int)≤(l.length:Int)∧(l.length:Int)≤17592186044416)=true:=by simp; omega
 simp only [hc];exact Q7 R hn (fun x=>k x) FUEL 0 (by omega) (by rw [Al]; omega)
def actV (v:Va):Va:=(v.1,v.2.2.1,v.2.2.1,())
def actS (l:List Va):List Va:=l.map actV
theorem J3 (l:List Va):(actS l).length=l.length:=by simp [actS]
theorem zo1 (R:Type) {l:List Va} (hn:l.length≤1000) (k:List Va→Option R):F264 R l k=k l:=by
 simp only [F264];have hc:decide (([]:List Va).length+l.length≤2932031007402)=true:=by simp; omega
 rw [hc]
theorem zmx (R:Type) {l:List Va} (hn:l.length≤1000) (k0:List Va→Option R):∀(m i:Nat),i≤l.length→l.length - i<m→
  Pg m R (l.length:Int) (i:Int) (actS (l.take i)++l.drop i) k0=k0 (actS l)
 | 0,i,_,h=>by omega
 | m+1,i,h1,h2=>by
  simp only [Pg,zhu]
  by_cases hi:i<l.length
  ·have ih:=zmx R hn k0 m (i+1) (by omega) (by omega)
   have hlen:(actS (l.take i)++l.drop i).length=l.length:=by simp [J3]; omega
   have hat:(actS (l.take i)).length=i:=by rw [J3,List.length_take]; omega
   have hg:(actS (l.take i)++l.drop i).getD i zV=l[i]:=by
    rw [List.getD_eq_getElem?_getD,List.getElem?_append_right (by omega),hat,Nat.sub_self,List.getElem?_drop];simp [hi]
   have hs:(actS (l.take i)++l.drop i).set i (l[i].1,l[i].2.2.1,l[i].2.2)=actS (l.take (i+1))++l.drop (i+1):=by
    rw [List.set_append_right _ _ (by omega),hat,Nat.sub_self,List.drop_eq_getElem_cons hi,List.set_cons_zero,List.take_succ_eq_append_getElem hi];simp only [actS,actV,List.map_append,List.map_cons,List.map_nil,List.append_assoc,List.cons_append,List.nil_append]
   rw [hlen];simp only [Df hi,A4 hi,Int.toNat_natCast,Cc hi hn,hg,hs];rw [ih]
  ·have:i=l.length:=by omega
   subst this;simp only [Cx,List.take_length,List.drop_length,List.append_nil]
theorem F238_eq (R:Type) {l:List Va} (hn:l.length≤1000) (k:List Va→Option R):F238 R l k=k (actS l):=by
 simp only [F238,p238,zo1 R hn];exact zmx R hn (fun x=>k x) FUEL 0 (by omega) (by rw [Al]; omega)
def fstK (l:List Va) (key:List Int):Option Nat:=l.findIdx? fun v=>decide (v.1=key)
def G8 (l:List Va):List (List Int):=l.map fun v=>v.1
def plA (l:List Va):Nat→List (List Int×Int)
 | 0=>[]
 | i+1=>match Bx (Kd.eqv (.arr 32 (.int .u8))) (plA l i) (l.getD i zV).1 with
  | some _=>plA l i
  | none=>plA l i++[((l.getD i zV).1,(i:Int))]
theorem zel {K V:Type} (eq:K→K→Bool) (m:List (K×V)) (x:K×V) (k:K):Bx eq (m++[x]) k=match Bx eq m k with | some v=>some v | none=>match eq k x.1 with | true=>some x.2 | false=>none:=by
 induction m with
 | nil=>simp only [List.nil_append,Bx]; cases eq k x.1<;>rfl
 | cons y m ih=>
  simp only [List.cons_append,Bx];cases eq k y.1
  ·exact ih
  ·rfl
theorem zjy {l:List Va} {i:Nat} (hi:i<l.length) (key:List Int):fstK (l.take (i+1)) key=match fstK (l.take i) key with | some j=>some j | none=>if (l.getD i zV).1=key then some i else none:=by
 unfold fstK;rw [List.take_succ_eq_append_getElem hi,List.findIdx?_append,C9 hi];cases List.findIdx? (fun v=>decide (v.1=key)) (l.take i) with
 | some j=>rfl
 | none=>
  have hl:(l.take i).length=i:=by rw [List.length_take]; omega
  by_cases e:l[i].1=key
  ·simp [List.findIdx?_cons,e,hl]
  ·simp [List.findIdx?_cons,e]
theorem Rt {l:List Va} (h:VsOK l):∀(i:Nat),i≤l.length→∀(key:List Int),key.length=32→Bx (Kd.eqv (.arr 32 (.int .u8))) (plA l i) key=Option.map (fun n:Nat=>(n:Int)) (fstK (l.take i) key)
 | 0,_,key,_=>by simp [plA,Bx,fstK]
 | i+1,hi,key,hk=>by
  have hi':i<l.length:=by omega
  have ih:=Rt h i (by omega);have hv:=(h.get i).key.1;rw [zjy hi'];simp only [plA];have h1:=ih (l.getD i zV).1 hv;cases hf:Bx (Kd.eqv (.arr 32 (.int .u8))) (plA l i) (l.getD i zV).1 with
  | some z=>
   simp only [];rw [ih key hk];cases hq:fstK (l.take i) key with
   | some j=>rfl
   | none=>
    simp only [];rw [if_neg];intro e;rw [hf,e,hq] at h1;cases h1
  | none=>
   simp only [];rw [zel,ih key hk];cases hq:fstK (l.take i) key with
   | some j=>rfl
   | none=>
    simp only [Option.map_none];have e1:Kd.eqv (.arr 32 (.int .u8)) key (l.getD i zV).1=decide (key=(l.getD i zV).1):=Ci hk hv;rw [e1]
    by_cases e:(l.getD i zV).1=key
    ·rw [decide_eq_true e.symm,if_pos e]; rfl
    ·rw [decide_eq_false (fun q=>e q.symm),if_neg e]; rfl
theorem Ux {l:List Va} {key:List Int}:fstK l key=none↔key∉G8 l:=by
 unfold fstK G8;rw [List.findIdx?_eq_none_iff];constructor
 ·intro h hm
  obtain ⟨v,hv,e⟩:=List.mem_map.1 hm;have:=h v hv;simp [e] at this
 ·intro h v hv
  simp only [decide_eq_false_iff_not];intro e;exact h (List.mem_map.2 ⟨v,hv,e⟩)
theorem Zb {l:List Va} {key:List Int} {j:Nat} (h:fstK l key=some j):j<l.length∧(l.getD j zV).1=key:=by
 obtain ⟨h1,h2,_⟩:=List.findIdx?_eq_some_iff_getElem.1 h;exact ⟨h1,by rw [C9 h1]; simpa using h2⟩
theorem zep {l:List Va} {i:Nat} (hi:i<l.length):G8 (l.take (i+1))=G8 (l.take i)++[(l.getD i zV).1]:=by
 rw [List.take_succ_eq_append_getElem hi,C9 hi]; simp only [G8,List.map_append,List.map_cons,List.map_nil]
theorem zhc {l:List Va} (h:VsOK l):∀(i:Nat),i≤l.length→(plA l i).length≤i∧((plA l i).length=i↔(G8 (l.take i)).Nodup)
 | 0,_=>by simp [plA,G8]
 | i+1,hi=>by
  have hi':i<l.length:=by omega
  obtain ⟨ih1,ih2⟩:=zhc h i (by omega);have h1:=Rt h i (by omega) (l.getD i zV).1 (h.get i).key.1;rw [zep hi',List.nodup_append];simp only [plA];cases hf:Bx (Kd.eqv (.arr 32 (.int .u8))) (plA l i) (l.getD i zV).1 with
  | some z=>
   simp only [];refine ⟨by omega,⟨fun hh=>by omega,fun hh=>?_⟩⟩;exfalso;rw [hf] at h1;cases hq:fstK (l.take i) (l.getD i zV).1 with
   | none=>rw [hq] at h1; cases h1
   | some j=>
    have hm:(l.getD i zV).1∈G8 (l.take i):=by
     apply Classical.byContradiction;intro hn;rw [Ux.2 hn] at hq;cases hq
    exact hh.2.2 _ hm _ (List.mem_singleton.2 rfl) rfl
  | none=>
   simp only [List.length_append,List.length_cons,List.length_nil];rw [hf] at h1;have hq:fstK (l.take i) (l.getD i zV).1=none:=by
    cases hq:fstK (l.take i) (l.getD i zV).1 with
    | none=>rfl
    | some j=>rw [hq] at h1; cases h1
   have hn:=Ux.1 hq;refine ⟨by omega,⟨fun hh=>⟨ih2.1 (by omega),by simp,fun a ha b hb e=>?_⟩,fun hh=>by have:=ih2.2 hh.1; omega⟩⟩;rw [List.mem_singleton.1 hb] at e;exact hn (e ▸ ha)
theorem zm0 (R:Type) {l:List Va} (hn:l.length≤1000) (k0:List (List Int×Int)→Option R):∀(m i:Nat),i≤l.length→l.length - i<m→
  Dg m R l (l.length:Int) (i:Int) (plA l i) k0=k0 (plA l l.length)
 | 0,i,_,h=>by omega
 | m+1,i,h1,h2=>by
  simp only [Dg,zck]
  by_cases hi:i<l.length
  ·have ih:=zm0 R hn k0 m (i+1) (by omega) (by omega)
   simp only [Df hi,A4 hi,Int.toNat_natCast,Cc hi hn];simp only [plA] at ih;cases hf:Bx (Kd.eqv (.arr 32 (.int .u8))) (plA l i) (l.getD i zV).1 with
   | some z=>
    simp only [hf] at ih;simp only [Option.isSome_some,Bool.not_true];exact ih
   | none=>
    simp only [hf] at ih;simp only [Option.isSome_none,Bool.not_false,Option.isNone_none];exact ih
  ·have:i=l.length:=by omega
   subst this;simp only [Cx]
theorem zpa (R:Type) {l:List Va} (hn:l.length≤1000) (k:List (List Int×Int)→Option R):F222 R l k=k (plA l l.length):=by
 simp only [F222,p222];exact zm0 R hn (fun x=>k x) FUEL 0 (by omega) (by rw [Al]; omega)
def F6 (l:List Va):Bool:=decide (totS (Am l)<9223372036854775808)&&(decide (totS (A0 l)<9223372036854775808)&&decide (G8 l).Nodup)
theorem zpb (R:Type) {l:List Va} (h:VsOK l) (hn:l.length≤1000) (k:Bool→Option R):F221 R l k=k (F6 l):=by
 simp only [F221,p221,Ps R hn,zo9 R hn];rw [Mf R (Dk h) (by rw [Cw]; omega)];unfold F6
 by_cases h1:totS (Am l)<9223372036854775808
 ·rw [if_pos h1,Mf R (Gd h) (by rw [Es]; omega)]
  by_cases h2:totS (A0 l)<9223372036854775808
  ·rw [if_pos h2]
   have hc:decide ((l.length:Int)≤1048576)=true:=by simp; omega
   simp only [hc,zpa R hn];have hd:=(zhc h l.length (Nat.le_refl _)).2;rw [List.take_length] at hd;rw [decide_eq_true h1,decide_eq_true h2,Bool.true_and,Bool.true_and]
   congr 1
   by_cases h3:(G8 l).Nodup
   ·rw [decide_eq_true h3]; simp [hd.2 h3]
   ·rw [decide_eq_false h3]
    have:(plA l l.length).length≠l.length:=fun e=>h3 (hd.1 e)
    simp; omega
  ·rw [if_neg h2,decide_eq_false h2,Bool.false_and,Bool.and_false]
 ·rw [if_neg h1,decide_eq_false h1,Bool.false_and,Mf R (Gd h) (by rw [Es]; omega)]
  by_cases h2:totS (A0 l)<9223372036854775808
  ·rw [if_pos h2]
  ·rw [if_neg h2]
def neK (l:List Va) (i j:Nat):Bool:=decide ((l.getD i zV).1≠(l.getD j zV).1)
theorem nodup_iff {l:List Va}:Fv (fun i=>Fv (neK l i) i 0) l.length 0=decide (G8 l).Nodup:=by
 rw [Bool.eq_iff_iff,decide_eq_true_eq,Fb];unfold List.Nodup;rw [List.pairwise_iff_getElem];constructor
 ·intro h i j hi hj hij
  have hi':i<l.length:=by simpa [G8] using hi
  have hj':j<l.length:=by simpa [G8] using hj
  have h1:=Fb.1 (h j (by omega) (by omega)) i (by omega) (by omega);unfold neK at h1;simp only [decide_eq_true_eq] at h1;rw [C9 hi',C9 hj'] at h1;simp only [G8,List.getElem_map];exact fun e=>h1 e.symm
 ·intro h j _ hj
  refine Fb.2 fun i _ hi=>?_
  have hi':i<l.length:=by omega
  have hj':j<l.length:=by omega
  have h1:=h i j (by simpa [G8] using hi') (by simpa [G8] using hj') (by omega);simp only [G8,List.getElem_map] at h1;unfold neK;simp only [decide_eq_true_eq];rw [C9 hi',C9 hj'];exact fun e=>h1 e.symm
def Jg (l:List Va) (i:Nat) (n:Int):List Va:=l.set i ((l.getD i zV).1,(l.getD i zV).2.1,n,())
theorem Td (R:Type) {l:List Va} (hn:l.length≤1000) {i:Nat} (hi:i<l.length) (n:Int) (k:List Va→Option R):F227 R l (i:Int) n k=k (Jg l i n):=by
 simp only [F227,p227,zo1 R hn,A4 hi,Int.toNat_natCast];rfl
theorem Hd (l:List Int) (a:Int):totS (l++[a])=totS l+a:=by
 unfold totS sumS;rw [List.take_length,List.take_length];simp
theorem zii {l:List Va} (h:VsOK l) {i:Nat} (hi:i<l.length):(l.getD i zV).2.2.1≤totS (A0 l):=by
 have h1:=Bw (l:=A0 l) (i:=i) (by rw [Es]; exact hi);have h2:=D1 (Gd h) (i+1);have h3:=Ay (Gd h) i;have h4:(A0 l).getD i 0=(l.getD i zV).2.2.1:=by
  rw [C9 hi]; simp [A0,hi]
 rw [h4] at h1;omega
def depS (l:List Va) (key:List Int) (a most:Int):List Va×Int×Int:=
 if F6 l=true∧a≠0∧1≤most∧most≤1048576 then
  match fstK l key with
  | none=>if most≤(l.length:Int) then ([],0,4) else if totS (A0 l)+a<9223372036854775808 then (l++[(key,0,a,())],(l.length:Int),0) else ([],0,11)
  | some i=>if totS (A0 l)+a<9223372036854775808 then (Jg l i ((l.getD i zV).2.2.1+a),(i:Int),0) else ([],0,11)
 else ([],0,1)
theorem Xh {l:List Va} (h:F6 l=true):totS (Am l)<9223372036854775808∧totS (A0 l)<9223372036854775808∧(G8 l).Nodup:=by
 unfold F6 at h;rw [Bool.and_eq_true,Bool.and_eq_true] at h;exact ⟨of_decide_eq_true h.1,of_decide_eq_true h.2.1,of_decide_eq_true h.2.2⟩
theorem Xa {l:List Int} (h:AllU64 l):0≤totS l:=Ay h _
theorem zby {x:Int} (h0:0≤x) (h1:x<9223372036854775808):IntKind.u64.wrap x=x:=by rw [D5]; omega
theorem F177_eq (R:Type) {l:List Va} (h:VsOK l) (hn:l.length≤900) {key:List Int} (hk:key.length=32) {a:Int} (ha:U64 a) (most:Int) (k:List Va→Int→Int→Option R):
  F177 R l key a most k=k (depS l key a most).1 (depS l key a most).2.1 (depS l key a most).2.2:=by
 simp only [F177,p177,zpb R h (by omega),zpa R (show l.length≤1000 by omega),zo9 R (show l.length≤1000 by omega)];unfold depS;cases hr:F6 l with
 | false=>simp
 | true=>
  obtain ⟨_,ht,_⟩:=Xh hr;have htn:=Xa (Gd h);unfold U64 at ha;simp only [Bool.not_true]
  by_cases h1:a=0
  ·rw [if_neg (by simp [h1])]; simp [h1]
  by_cases h2:most<1
  ·rw [if_neg (by omega)]
   have e1:(a==0)=false:=by simpa using h1
   simp only [e1,decide_eq_true h2]
  by_cases h3:most>1048576
  ·rw [if_neg (by omega)]
   have e1:(a==0)=false:=by simpa using h1
   simp only [e1,decide_eq_false h2,decide_eq_true h3]
  have e1:(a==0)=false:=by simpa using h1
  rw [if_pos ⟨trivial,h1,by omega,by omega⟩];have hf:=Rt h l.length (Nat.le_refl _) key hk;rw [List.take_length] at hf;have hT:=Mf R (Gd h) (show (A0 l).length≤1000000 by rw [Es]; omega);have hA:=zbi R (a:=totS (A0 l)) (b:=a) ⟨htn,ht⟩ ha;simp only [e1,decide_eq_false h2,decide_eq_false h3,hf];cases hq:fstK l key with
  | none=>
   simp only [Option.map_none,Option.isSome_none,Bool.not_false]
   by_cases h4:most≤(l.length:Int)
   ·rw [if_pos h4]
    simp only [decide_eq_true (show (l.length:Int)≥most from h4)]
   ·rw [if_neg h4]
    simp only [decide_eq_false (show ¬(l.length:Int)≥most from h4),hT,if_pos ht,hA]
    by_cases h5:totS (A0 l)+a<9223372036854775808
    ·rw [if_pos h5,if_pos h5]
     have hc:decide (0<[((key,0,0,()):Va)].length∧l.length+[((key,0,0,()):Va)].length≤2932031007402)=true:=by simp; omega
     have hl:l.length<(l++[((key,0,0,()):Va)]).length:=by simp
     have hg:(l++[((key,0,0,()):Va)]).getD l.length zV=(key,0,0,()):=by simp
     simp only [Bool.not_true,hc,A4 hl,Int.toNat_natCast,hg,Int.zero_add];rw [zby (by omega) (by omega),Td R (by simp; omega) hl];have:Jg (l++[((key,0,0,()):Va)]) l.length a=l++[(key,0,a,())]:=by
      unfold Jg;rw [hg,List.set_append_right _ _ (Nat.le_refl _),Nat.sub_self];rfl
     rw [this]
    ·rw [if_neg h5,if_neg h5]; simp only [Bool.not_false]
  | some i=>
   obtain ⟨hi,_⟩:=Zb hq;have hnx:=zii h hi;have hx:=(h.get i).next;unfold U64 at hx;simp only [Option.map_some,Option.isSome_some,Bool.not_true,Option.getD_some,hT,if_pos ht,hA]
   by_cases h5:totS (A0 l)+a<9223372036854775808
   ·simp only [if_pos h5,Bool.not_true,A4 hi,Int.toNat_natCast]
    rw [show IntKind.u64.wrap ((l.getD i zV).2.2.1+a)=(l.getD i zV).2.2.1+a from zby (by omega) (by omega),Td R (by omega) hi];cases decide ((i:Int)≥most)<;>rfl
   ·simp only [if_neg h5,Bool.not_false]
    cases decide ((i:Int)≥most)<;>rfl
def wdS (l:List Va) (who a:Int):List Va×Int×Int:=
 if F6 l=true∧a≠0 then
  if 0≤who∧who<(l.length:Int) then
   if a≤(l.getD who.toNat zV).2.2.1 then (Jg l who.toNat ((l.getD who.toNat zV).2.2.1 - a),(l.getD who.toNat zV).2.2.1 - a,0) else ([],0,12)
  else ([],0,5)
 else ([],0,1)
def slS (l:List Va) (who a:Int):List Va×Int×Int:=
 if F6 l=true then
  if 0≤who∧who<(l.length:Int) then
   (Jg l who.toNat ((l.getD who.toNat zV).2.2.1 - min a (l.getD who.toNat zV).2.2.1),min a (l.getD who.toNat zV).2.2.1,0)
  else ([],0,5)
 else ([],0,1)
def zb0 (l:List Va) (who:Int):Int:=if F6 l=true then (if 0≤who∧who<(l.length:Int) then 0 else 5) else 1
theorem zo8 (R:Type) {l:List Va} (h:VsOK l) (hn:l.length≤1000) (who:Int) (k:Int→Option R):F228 R l who k=k (zb0 l who):=by
 simp only [F228,p228,zpb R h hn];unfold zb0;cases F6 l with
 | false=>simp
 | true=>
  simp only [Bool.not_true,if_true]
  by_cases h1:who<0
  ·rw [if_neg (by omega)]; simp only [decide_eq_true h1]
  ·by_cases h2:who≥(l.length:Int)
   ·rw [if_neg (by omega)]; simp only [decide_eq_false h1,decide_eq_true h2]
   ·rw [if_pos (by omega)]; simp only [decide_eq_false h1,decide_eq_false h2]
theorem F178_eq (R:Type) {l:List Va} (h:VsOK l) (hn:l.length≤1000) (who:Int) {a:Int} (ha:U64 a) (k:List Va→Int→Int→Option R):
  F178 R l who a k=k (wdS l who a).1 (wdS l who a).2.1 (wdS l who a).2.2:=by
 simp only [F178,p178,zo8 R h hn];unfold wdS zb0;unfold U64 at ha
 by_cases h1:a=0
 ·rw [if_neg (show ¬(F6 l=true∧a≠0) from fun q=>q.2 h1)]; simp [h1]
 have e1:(a==0)=false:=by simpa using h1
 simp only [e1];cases hr:F6 l with
 | false=>simp
 | true=>
  have q:(True∧a≠0):=⟨trivial,h1⟩
  simp only [if_pos q,if_true]
  by_cases h2:0≤who∧who<(l.length:Int)
  ·obtain ⟨i,rfl⟩:∃i:Nat,who=i:=⟨who.toNat,by omega⟩
   have hi:i<l.length:=by omega
   have hx:=(h.get i).next;unfold U64 at hx;rw [if_pos h2,if_pos h2];simp only [bne_self_eq_false,A4 hi,Int.toNat_natCast]
   by_cases h3:a≤(l.getD i zV).2.2.1
   ·rw [if_pos h3]
    have:¬a>(l.getD i zV).2.2.1:=by omega
    simp only [decide_eq_false this];rw [show IntKind.u64.wrap ((l.getD i zV).2.2.1 - a)=(l.getD i zV).2.2.1 - a by rw [D5]; omega,Td R hn hi]
   ·rw [if_neg h3]
    have:a>(l.getD i zV).2.2.1:=by omega
    simp only [decide_eq_true this]
  ·rw [if_neg h2,if_neg h2]
   rfl
theorem F179_eq (R:Type) {l:List Va} (h:VsOK l) (hn:l.length≤1000) (who:Int) {a:Int} (ha:U64 a) (k:List Va→Int→Int→Option R):
  F179 R l who a k=k (slS l who a).1 (slS l who a).2.1 (slS l who a).2.2:=by
 simp only [F179,p179,zo8 R h hn];unfold slS zb0;unfold U64 at ha;cases hr:F6 l with
 | false=>simp
 | true=>
  simp only [if_true]
  by_cases h2:0≤who∧who<(l.length:Int)
  ·obtain ⟨i,rfl⟩:∃i:Nat,who=i:=⟨who.toNat,by omega⟩
   have hi:i<l.length:=by omega
   have hx:=(h.get i).next;unfold U64 at hx;rw [if_pos h2,if_pos h2];have em:(if (l.getD i zV).2.2.1<a then (l.getD i zV).2.2.1 else a)=min a (l.getD i zV).2.2.1:=by
    by_cases hh:(l.getD i zV).2.2.1<a
    ·rw [if_pos hh]; omega
    ·rw [if_neg hh]; omega
   simp only [bne_self_eq_false,A4 hi,Int.toNat_natCast,em];rw [show IntKind.u64.wrap ((l.getD i zV).2.2.1 - min a (l.getD i zV).2.2.1)=(l.getD i zV).2.2.1 - min a (l.getD i zV).2.2.1 by rw [D5]; omega,Td R hn hi]
  ·rw [if_neg h2,if_neg h2]
   rfl
end Go.PG
end
