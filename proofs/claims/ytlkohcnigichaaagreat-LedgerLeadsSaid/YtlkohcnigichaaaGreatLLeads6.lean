/- A part of the proof over this seat (own work; the framework that reads a Go function as a pure one, or a use of it). No condition of its own. -/
import Derived.Test.YtlkohcnigichaaaGreatLLeads5
import Derived.KernelRfl
set_option linter.unusedVariables false
set_option linter.unusedSimpArgs false
set_option linter.unusedSectionVars false
noncomputable section
namespace Go.PG
abbrev Wr:=List Int×List Int×Int×Unit
def Kc (st:List Int) (bs:List (List Int)):List Int:=bs.foldl Xb st
theorem Pd:∀(n:Nat) (b:List Int),b.length≤n→AllU8 b→(∀x∈blkS b,x.length=64∧AllU8 x)∧AllU8 (D3 b)
 | 0,b,h,h8=>by
  rw [Ei (by omega),C4 (by omega)];exact ⟨fun x hx=>(by cases hx),h8⟩
 | n+1,b,h,h8=>by
  by_cases h6:64≤b.length
  ·have ih:=Pd n (b.drop 64) (by rw [List.length_drop]; omega) (fun x hx=>h8 x (List.mem_of_mem_drop hx))
   rw [F6 h6,El h6];refine ⟨fun x hx=>?_,ih.2⟩;rcases List.mem_cons.1 hx with rfl | hx
   ·exact ⟨by rw [List.length_take]; omega,fun y hy=>h8 y (List.mem_of_mem_take hy)⟩
   ·exact ih.1 x hx
  ·rw [Ei (by omega),C4 (by omega)]
   exact ⟨fun x hx=>(by cases hx),h8⟩
theorem Kb:∀(bs:List (List Int)) {st:List Int},st.length=8→AllU32 st→(Kc st bs).length=8∧AllU32 (Kc st bs)
 | [],st,h1,h2=>⟨h1,h2⟩
 | b::bs,st,h1,h2=>by
  have ok:=R6 b h1 h2;exact Kb bs ok.1 ok.2
theorem zmd (R:Type) (rest:List Int) (bs:List (List Int)) (hb:∀x∈bs,x.length=64∧AllU8 x) (hn:bs.length≤1000000000) (u:List Int×Int×Unit) (k0:List Int→(Wr×Unit)→Option R):
  ∀(m i:Nat) (st:List Int),i≤bs.length→bs.length - i<m→st.length=8→AllU32 st→Pw m R rest bs (bs.length:Int) (i:Int) ((st,u),()) k0=k0 rest ((Kc st (bs.drop i),u),())
 | 0,i,st,_,h,_,_=>by omega
 | m+1,i,st,h1,h2,hl,hu=>by
  simp only [Pw,zhq]
  by_cases hi:i<bs.length
  ·have hd:decide ((i:Int)<(bs.length:Int))=true:=by simpa using hi
   have hbn:bnd (i:Int) (bs.length:Int)=true:=by unfold bnd; simp; omega
   have hx:=hb bs[i] (List.getElem_mem hi);have hg:List.getD bs i (List.replicate 64 0)=bs[i]:=by simp [hi]
   simp only [hd,hbn,Int.toNat_natCast,hg];rw [F273_eq R hl hu hx.1 hx.2,wrap_i64 (by omega) (by omega)];have ok:=R6 bs[i] hl hu;have ih:=zmd R rest bs hb hn u k0 m (i+1) (Xb st bs[i]) (by omega) (by omega) ok.1 ok.2;rw [List.drop_eq_getElem_cons hi];exact ih
  ·have:i=bs.length:=by omega
   subst this;have hd:decide ((bs.length:Int)<(bs.length:Int))=false:=by simp
   simp only [hd];rw [List.drop_of_length_le (Nat.le_refl _)];rfl
theorem zoq (R:Type) {st:List Int} (u:List Int×Int×Unit) {b:List Int} (hl:st.length=8) (hu:AllU32 st) (h8:AllU8 b) (hn:b.length≤1000000000) (k:List Int→(Wr×Unit)→Option R):
  F254 R ((st,u),()) b k=k (D3 b) ((Kc st (blkS b),u),()):=by
 simp only [F254,p254];rw [F272_eq R hn];have ok:=Pd b.length b (Nat.le_refl _) h8;have hlen:=(Jx b.length b (Nat.le_refl _)).2;exact zmd R (D3 b) (blkS b) ok.1 (by omega) u (fun x4 x5=>k x4 x5) FUEL 0 st (by omega) (by rw [Ak]; omega) hl hu
theorem F251_eq (R:Type) {st rest part:List Int} {n:Nat} (hl:st.length=8) (hu:AllU32 st) (hr:AllU8 rest) (hp:AllU8 part) (hlen:rest.length+part.length≤1000000000) (hn:n+part.length≤1000000000) (k:(Wr×Unit)→Option R):
  F251 R ((st,rest,(n:Int),()),()) part k=k ((Kc st (blkS (rest++part)),D3 (rest++part),((n+part.length:Nat):Int),()),()):=by
 simp only [F251,p251,F270];rw [Ae (n:=(part.length:Int)) (by omega) (by omega),Ae (by omega) (by omega)];have c1:decide (([]:List Int).length+rest.length≤140737488355328)=true:=by simp; omega
 have c2:decide (rest.length+part.length≤140737488355328)=true:=by simp; omega
 simp only [c1,c2];have h8:AllU8 (rest++part):=fun x hx=>by
  rcases List.mem_append.1 hx with h | h
  ·exact hr x h
  ·exact hp x h
 rw [zoq R _ hl hu h8 (by rw [List.length_append]; omega)]
 congr 1
def wrS (st m:List Int):Wr:=(Kc st (blkS m),D3 m,(m.length:Int),())
theorem AllU8.append {a b:List Int} (ha:AllU8 a) (hb:AllU8 b):AllU8 (a++b):=fun x hx=>by
 rcases List.mem_append.1 hx with h | h
 ·exact ha x h
 ·exact hb x h
theorem zen (st m p:List Int):Kc (Kc st (blkS m)) (blkS (D3 m++p))=Kc st (blkS (m++p))∧D3 (D3 m++p)=D3 (m++p):=by
 obtain ⟨h1,h2⟩:=Lj m.length m p (Nat.le_refl _);rw [h1,h2];refine ⟨?_,rfl⟩;unfold Kc;rw [List.foldl_append]
theorem zmi (R:Type) {st:List Int} (hl:st.length=8) (hu:AllU32 st) (x4:Wr) (k0:Int→Wr→Option R) (k1:Wr→(Wr×Unit)→Option R):∀(n:Nat) (ps done:List (List Int)) (m:List Int),m=done.flatten→AllU8 m→(∀p∈ps,AllU8 p)→
  m.length+ps.flatten.length≤500000000→(done++ps).length≤1000000000→ps.length<n→Np n R (done++ps) ((done++ps).length:Int) (done.length:Int) x4 (wrS st m,()) k0 k1=k1 x4 (wrS st (m++ps.flatten),())
 | 0,ps,done,m,_,_,_,_,_,h=>by omega
 | n+1,[],done,m,hm,h8,hps,hlen,hnum,h=>by
  simp only [Np,zc3];have hd:decide ((done.length:Int)<((done++[]).length:Int))=false:=by simp
  simp only [hd];simp
 | n+1,p::ps,done,m,hm,h8,hps,hlen,hnum,h=>by
  simp only [Np,zc3];have hlt:done.length<(done++p::ps).length:=by simp
  have hd:decide ((done.length:Int)<((done++p::ps).length:Int))=true:=by simp; omega
  have hbn:bnd (done.length:Int) ((done++p::ps).length:Int)=true:=by unfold bnd; simp; omega
  have hg:List.getD (done++p::ps) done.length []=p:=by simp
  have hp8:=hps p (by simp);have hfl:(p::ps).flatten=p++ps.flatten:=by simp
  rw [hfl,List.length_append] at hlen;have ok:=Kb (blkS m) hl hu;have ok2:=Pd m.length m (Nat.le_refl _) h8;have tl:=(Jx m.length m (Nat.le_refl _)).1;simp only [hd,hbn,Int.toNat_natCast,hg];unfold wrS;rw [F251_eq R ok.1 ok.2 ok2.2 hp8 (by omega) (by omega)];obtain ⟨a1,a2⟩:=zen st m p;rw [a1,a2,←List.length_append];have hb:decide (((m++p).length:Int)≥2305843009213693952)=false:=by simp; omega
  simp only [hb];rw [wrap_i64 (by omega) (by simp at hnum; omega)];have ih:=zmi R hl hu x4 k0 k1 n ps (done++[p]) (m++p) (by rw [hm]; simp) (h8.append hp8) (fun q hq=>hps q (by simp [hq])) (by rw [List.length_append]; omega) (by simpa using hnum) (by simp at h; omega);unfold wrS at ih;rw [hfl,←List.append_assoc];have e1:done++[p]++ps=done++p::ps:=by simp
  have e2:(((done++[p]).length:Nat):Int)=(done.length:Int)+1:=by simp
  rw [e1,e2] at ih;exact ih
theorem F225_eq (R:Type) {st:List Int} (hl:st.length=8) (hu:AllU32 st) {ps:List (List Int)} (h8:∀p∈ps,AllU8 p) (hlen:ps.flatten.length≤500000000) (hnum:ps.length≤1000000000) (k:Wr→Int→Option R):
  F225 R (st,[],(0:Int),()) ps k=k (wrS st ps.flatten) 0:=by
 have hr:F250 R (st,[],(0:Int),())=fun k=>k true:=by
  funext k
  simp only [F250,p250];rfl
 simp only [F225,p225];rw [hr];have:=zmi R hl hu (List.replicate 8 0,[],0,()) (fun x3 x4=>k x4 x3) (fun _ x6=>k x6.1 0) FUEL ps [] [] rfl (fun x hx=>by cases hx) h8 (by simpa using hlen) (by simpa using hnum) (by rw [Ak]; omega);rw [List.nil_append] at this;refine Eq.trans ?_ this;unfold wrS;rw [Ei (by simp),C4 (by simp)];rfl
end Go.PG
namespace Go.PG
def putS (x:Int):List Int:=[x/72057594037927936 % 256,x/281474976710656 % 256,x/1099511627776 % 256,x/4294967296 % 256,x/16777216 % 256,x/65536 % 256,x/256 % 256,x % 256]
theorem zz9 {x:Int} (r:Nat) (hr:r≤64):ishr .u64 x (r:Int)=x/2^r:=by
 unfold ishr;rw [show IntKind.u64.bits=64 from rfl,show ((r:Int).toNat)=r by simp,Nat.min_eq_left hr,Int.fdiv_eq_ediv_of_nonneg _ (by have:=two_pow_pos r; omega)]
theorem zmm (R:Type) (x:Int) (k0:List Int→Option R):∀(m i:Nat) (l:List Int),i≤8→8 - i<m→P1 m R x (i:Int) l k0=k0 ((List.range' i (8 - i)).foldl (fun l i=>l.set i (x/2^(8*(7 - i)) % 256)) l)
 | 0,i,l,_,h=>by omega
 | m+1,i,l,h1,h2=>by
  simp only [P1,zhy]
  by_cases hi:i<8
  ·have ih:=zmm R x k0 m (i+1) (l.set i (x/2^(8*(7 - i)) % 256)) (by omega) (by omega)
   rw [Bv hi,List.foldl_cons,←ih];have hd:decide ((i:Int)<8)=true:=by simp; omega
   have hbn:bnd (i:Int) 8=true:=by unfold bnd; simp; omega
   rw [wrap_i64 (n:=7 - (i:Int)) (by omega) (by omega),wrap_i64 (n:=8*(7 - (i:Int))) (by omega) (by omega),Ae (n:=8*(7 - (i:Int))) (by omega) (by omega),wrap_i64 (n:=(i:Int)+1) (by omega) (by omega)];have e1:8*(7 - (i:Int))=((8*(7 - i):Nat):Int):=by omega
   have hp:decide ((0:Int)≤((8*(7 - i):Nat):Int))=true:=decide_eq_true (by omega);rw [e1,zz9 _ (by omega),Ew];simp only [hd,hbn,hp,Int.toNat_natCast];rfl
  ·have:i=8:=by omega
   subst this;rfl
theorem Qk (R:Type) (x:Int) (k:List Int→Option R):F203 R x k=k (putS x):=by
 simp only [F203,p203];refine (zmm R x (fun x1=>k x1) FUEL 0 (List.replicate 8 0) (by omega) (by rw [Ak]; omega)).trans ?_
 congr 1
 simp [List.range'_succ,putS,List.replicate]
theorem zxe (R:Type) {x:Int} (hx:0≤x∧x<18446744073709551616) (x3:List Int) (k0:List Int→List Int→Option R):∀(i m:Nat) (l:List Int),i≤8→i<m→V5 m R (x/2^(8*(8 - i))) ((i:Int) - 1) x3 l k0=k0 x3 ((List.range i).reverse.foldl (fun l j=>l.set j (x/2^(8*(7 - j)) % 256)) l)
 | i,0,l,_,h=>by omega
 | 0,m+1,l,h1,h2=>by
  simp only [V5,zr3];have hd:decide (((0:Nat):Int) - 1≥0)=false:=by simp
  simp only [hd];rfl
 | i+1,m+1,l,h1,h2=>by
  simp only [V5,zr3];have ih:=zxe R hx x3 k0 i m (l.set i (x/2^(8*(7 - i)) % 256)) (by omega) (by omega);rw [List.range_succ,List.reverse_append,List.reverse_singleton,List.singleton_append,List.foldl_cons,←ih];have e0:(((i+1:Nat):Int) - 1)=(i:Int):=by omega
  rw [e0];have hd:decide ((i:Int)≥0)=true:=by simp
  have hbn:bnd (i:Int) 8=true:=by unfold bnd; simp; omega
  have e1:8 - (i+1)=7 - i:=by omega
  rw [e1];have hp:=two_pow_pos (8*(7 - i));have hge:0≤x/2^(8*(7 - i)):=Int.ediv_nonneg hx.1 (by omega);have hle:x/2^(8*(7 - i))≤x:=Int.ediv_le_self _ hx.1;have hstep:x/2^(8*(8 - i))=x/2^(8*(7 - i))/256:=by
   rw [show 8*(8 - i)=8*(7 - i)+8 by omega,Int.pow_add,←Int.ediv_ediv_of_nonneg (by omega)];rfl
  rw [hstep];generalize x/2^(8*(7 - i))=q at*;rw [Int.tmod_eq_emod_of_nonneg hge,Int.tdiv_eq_ediv_of_nonneg hge,zga (by omega) (by omega),Ae (by omega) (by omega),wrap_i64 (by omega) (by omega)];simp only [hd,hbn,Int.toNat_natCast]
theorem zed (R:Type) {x:Int} (hx:0≤x∧x<18446744073709551616) (k:List Int→Option R):F47 R x k=k (putS x):=by
 simp only [F47,p47];have:=zxe R hx (List.replicate 8 0) (fun _ x2=>k x2) 8 FUEL (List.replicate 8 0) (by omega) (by rw [Ak]; omega);rw [show x/2^(8*(8 - 8))=x by simp] at this;refine Eq.trans this ?_
 congr 1
 simp [List.range_succ,putS,List.replicate]
end Go.PG
namespace Go.PG
def Co (n:Nat):Nat:=(119 - n % 64) % 64
def padT (rest:List Int) (n:Nat):List Int:=rest++128::(List.replicate (Co n) 0++putS (8*(n:Int)))
theorem Wj (R:Type) (x:Int) (k0:Int→List Int→Option R):∀(z m:Nat) (l:List Int),z<64→(l.length+z) % 64=56→(∀y,y<z→(l.length+y) % 64≠56)→z<m→l.length+z≤100000→Ku m R x l k0=k0 x (l++List.replicate z 0)
 | z,0,l,_,_,_,h,_=>by omega
 | 0,m+1,l,h1,h2,_,h3,h4=>by
  simp only [Ku,zc8];have hm:Int.tmod (l.length:Int) 64=56:=by rw [Int.tmod_eq_emod_of_nonneg (by omega)]; omega
  rw [hm];have:((56:Int) !=56)=false:=by simp
  simp only [this];simp
 | z+1,m+1,l,h1,h2,h5,h3,h4=>by
  simp only [Ku,zc8];have hne:(Int.tmod (l.length:Int) 64 !=56)=true:=by
   rw [Int.tmod_eq_emod_of_nonneg (by omega)];have:=h5 0 (by omega);simp; omega
  have hc:decide (l.length+[(0:Int)].length≤140737488355328)=true:=by simp; omega
  have ih:=Wj R x k0 z m (l++[0]) (by omega) (by rw [List.length_append]; simp; omega) (fun y hy=>by rw [List.length_append]; have:=h5 (y+1) (by omega); simp; omega) (by omega) (by rw [List.length_append]; simp; omega);simp only [hne,hc];rw [ih,List.append_assoc];rfl
theorem Wi (R:Type) (ds:List Int) (k0:List Int→Option R):∀(m i:Nat) (l:List Int),i≤8→8 - i<m→ds.length=8→l.length≤100000+i→Kt m R (i:Int) l ds k0=k0 (l++ds.drop i)
 | 0,i,l,_,h,_,_=>by omega
 | m+1,i,l,h1,h2,hd8,hl=>by
  simp only [Kt,zid]
  by_cases hi:i<8
  ·have hd:decide ((i:Int)<8)=true:=by simp; omega
   have hbn:bnd (i:Int) 8=true:=by unfold bnd; simp; omega
   have hg:List.getD ds i 0=ds[i]:=by simp [show i<ds.length by omega]
   have hc:decide (l.length+[ds[i]].length≤140737488355328)=true:=by simp; omega
   have ih:=Wi R ds k0 m (i+1) (l++[ds[i]]) (by omega) (by omega) hd8 (by rw [List.length_append]; simp; omega);simp only [hd,hbn,Int.toNat_natCast,hg,hc];rw [wrap_i64 (by omega) (by omega),List.drop_eq_getElem_cons (show i<ds.length by omega)];rw [List.append_assoc] at ih;exact ih
  ·have:i=8:=by omega
   subst this;have hd:decide (((8:Nat):Int)<8)=false:=by simp
   simp only [hd];rw [List.drop_of_length_le (by omega),List.append_nil]
theorem F134_eq (R:Type) {rest:List Int} {n:Nat} (hr:rest.length=n % 64) (hn:n≤1000000000) (k:List Int→Bool→Option R):F134 R rest (n:Int) k=k (padT rest n) true:=by
 simp only [F134,p134];have c0:decide ((n:Int)≥2305843009213693952)=false:=by simp; omega
 have c1:(IntKind.u64.wrap (rest.length:Int) !=Int.tmod (n:Int) 64)=false:=by
  rw [Ae (by omega) (by omega),Int.tmod_eq_emod_of_nonneg (by omega)];simp; omega
 have c2:decide (([]:List Int).length+rest.length≤140737488355328)=true:=by simp; omega
 have c3:decide (([]++rest).length+[(128:Int)].length≤140737488355328)=true:=by simp; omega
 simp only [c0,c1,c2,c3];have g:=Wj R (n:Int) (fun x10 x11=>F47 R (IntKind.u64.wrap (8*x10)) fun y13=>Kt FUEL R 0 x11 y13 fun x14=>k x14 true) (Co n) FUEL ([]++rest++[128]) (by unfold Co; omega) (by simp; unfold Co; omega) (fun y hy=>by simp; unfold Co at hy; omega) (by rw [Ak]; unfold Co; omega) (by simp; unfold Co; omega);refine g.trans ?_;rw [Ae (by omega) (by omega),zed R (by omega)];refine (Wi R (putS (8*(n:Int))) (fun x14=>k x14 true) FUEL 0 _ (by omega) (by rw [Ak]; omega) rfl (by simp; unfold Co; omega)).trans ?_
 congr 1
 simp [padT]
theorem F271_eq (R:Type) {n:Nat} (hn:n≤1000000000) (k:Int→Option R):F271 R (n:Int) k=k (((n+72)/64:Nat):Int):=by
 simp only [F271,p271];have c0:decide ((n:Int)≥2305843009213693952)=false:=by simp; omega
 simp only [c0];rw [Ae (n:=(n:Int)+8) (by omega) (by omega),Ae (n:=(n:Int)+8+64) (by omega) (by omega),Int.tdiv_eq_ediv_of_nonneg (by omega),Ae (by omega) (by omega)]
 congr 1
theorem lay_mid {a b c xs:List Int} (h:xs.length=b.length):lay (a++b++c) a.length xs=a++xs++c:=by
 unfold lay;have e1:List.take a.length (a++b++c)=a:=by rw [List.append_assoc,List.take_left]
 have e2:List.drop (a.length+xs.length) (a++b++c)=c:=by
  rw [h,show a.length+b.length=(a++b).length by simp,List.drop_left]
 rw [e1,e2]
theorem F253_eq (R:Type) {rest:List Int} {n:Nat} (hr:rest.length=n % 64) (hn:n≤1000000000) (k:List Int→Bool→Option R):F253 R rest (n:Int) k=k (padT rest n) true:=by
 simp only [F253,p253];have c0:decide ((n:Int)≥2305843009213693952)=false:=by simp; omega
 have c1:(IntKind.u64.wrap (rest.length:Int) !=Int.tmod (n:Int) 64)=false:=by
  rw [Ae (by omega) (by omega),Int.tmod_eq_emod_of_nonneg (by omega)];simp; omega
 simp only [c0,c1];rw [F271_eq R hn,Int.tdiv_eq_ediv_of_nonneg (by omega),Ae (n:=(n:Int)/64) (by omega) (by omega),Ae (by omega) (by omega),wrap_i64 (n:=(((n+72)/64:Nat):Int) - (n:Int)/64) (by omega) (by omega),wrap_i64 (n:=_*64) (by omega) (by omega)];obtain ⟨sz,hsz⟩:∃sz:Nat,((((n+72)/64:Nat):Int) - (n:Int)/64)*64=sz:=⟨((n+72)/64 - n/64)*64,by omega⟩
 have hz:sz=rest.length+1+Co n+8:=by unfold Co; omega
 rw [hsz];have l1:lay (List.replicate sz (0:Int)) 0 (List.take (List.replicate sz (0:Int)).length rest)=rest++List.replicate (1+Co n+8) 0:=by
  unfold lay;rw [List.take_of_length_le (l:=rest) (by simp; omega)];simp;omega
 have l2:List.set (rest++List.replicate (1+Co n+8) 0) rest.length 128=(rest++128::List.replicate (Co n) 0)++List.replicate 8 0++[]:=by
  rw [List.set_append_right _ _ (Nat.le_refl _),Nat.sub_self,show 1+Co n+8=(Co n+8)+1 by omega,List.replicate_succ,List.set_cons_zero,←List.replicate_append_replicate];simp
 have sh:ishl .u64 (n:Int) 3=8*(n:Int):=by
  unfold ishl;rw [show (2:Int)^(min (3:Int).toNat IntKind.u64.bits)=8 by decide,Ae (by omega) (by omega)];omega
 have hl3:((rest++128::List.replicate (Co n) 0)++List.replicate 8 (0:Int)++[]).length=sz:=by simp; omega
 have d1:decide (0≤(sz:Int)∧(sz:Int)≤(sz:Int)∧(sz:Int)≤140737488355328)=true:=decide_eq_true (by omega);have d2:bnd (rest.length:Int) ((rest++List.replicate (1+Co n+8) (0:Int)).length:Int)=true:=by unfold bnd; simp; omega
 have d3:decide (0≤(sz:Int) - 8∧(sz:Int) - 8≤(sz:Int)∧(sz:Int)≤(sz:Int)∧(sz:Int)≤(sz:Int))=true:=decide_eq_true (by omega);have e8:((sz:Int) - 8).toNat=(rest++128::List.replicate (Co n) 0).length:=by simp; omega
 have e9:List.take ((sz:Int) - ((sz:Int) - 8)).toNat (List.take 8 (List.drop 0 (putS (8*(n:Int)))))=putS (8*(n:Int)):=by
  rw [show ((sz:Int) - ((sz:Int) - 8)).toNat=8 by omega]; rfl
 simp only [d1,Int.toNat_natCast,l1,d2,l2,sh];rw [Qk,wrap_i64 (by omega) (by omega)];simp only [hl3,d3,e9,e8];rw [lay_mid (by rfl)]
 congr 1
 simp [padT]
end Go.PG
namespace Go.PG
def Cc (a:Int):List Int:=[a/16777216 % 256,a/65536 % 256,a/256 % 256,a % 256]
theorem zbx (R:Type) {a:Int} (ha:U32 a) (k:List Int→Option R):F242 R a k=k (Cc a):=by
 have e24:ishr .u32 a 24=a/16777216:=zcs ha (r:=24) (by omega);have e16:ishr .u32 a 16=a/65536:=zcs ha (r:=16) (by omega);have e8:ishr .u32 a 8=a/256:=zcs ha (r:=8) (by omega);simp only [F242,p242,e24,e16,e8,Ew];rfl
theorem F135_eq (R:Type) {a:Int} (ha:U32 a) (k:List Int→Option R):F135 R a k=k (Cc a):=by
 have h:=ha;unfold U32 at h;simp only [F135,p135];rw [Int.tdiv_eq_ediv_of_nonneg h.1,Int.tdiv_eq_ediv_of_nonneg h.1,Int.tdiv_eq_ediv_of_nonneg h.1,Cf (n:=a/16777216) (by omega) (by omega),Cf (n:=a/65536) (by omega) (by omega),Cf (n:=a/256) (by omega) (by omega)];rw [Int.tmod_eq_emod_of_nonneg (a:=a/65536) (by omega),Int.tmod_eq_emod_of_nonneg (a:=a/256) (by omega),Int.tmod_eq_emod_of_nonneg h.1];simp only [Ew,Int.emod_emod];rfl
theorem zw9 (R:Type) (bs:List (List Int)) (hb:∀x∈bs,x.length=64∧AllU8 x) (hn:bs.length≤1000000000) (x4:List Int) (k0:List Int→List Int→Option R):
  ∀(m i:Nat) (st:List Int),i≤bs.length→bs.length - i<m→st.length=8→AllU32 st→Z3 m R bs (i:Int) st x4 k0=k0 (Kc st (bs.drop i)) x4
 | 0,i,st,_,h,_,_=>by omega
 | m+1,i,st,h1,h2,hl,hu=>by
  simp only [Z3,p93_2]
  by_cases hi:i<bs.length
  ·have hd:decide ((i:Int)<(bs.length:Int))=true:=by simpa using hi
   have hbn:bnd (i:Int) (bs.length:Int)=true:=by unfold bnd; simp; omega
   have hx:=hb bs[i] (List.getElem_mem hi);have hg:List.getD bs i (List.replicate 64 0)=bs[i]:=by simp [hi]
   simp only [hd,hbn,Int.toNat_natCast,hg];rw [F136_eq R hl hu hx.1 hx.2,wrap_i64 (by omega) (by omega)];have ok:=R6 bs[i] hl hu;have ih:=zw9 R bs hb hn x4 k0 m (i+1) (Xb st bs[i]) (by omega) (by omega) ok.1 ok.2;rw [List.drop_eq_getElem_cons hi];exact ih
  ·have:i=bs.length:=by omega
   subst this;have hd:decide ((bs.length:Int)<(bs.length:Int))=false:=by simp
   simp only [hd];rw [List.drop_of_length_le (Nat.le_refl _)];rfl
theorem F93_eq (R:Type) {st:List Int} {bs:List (List Int)} (hl:st.length=8) (hu:AllU32 st) (hb:∀x∈bs,x.length=64∧AllU8 x) (hn:bs.length≤1000000000) (k:List Int→Option R):F93 R st bs k=k (Kc st bs):=by
 simp only [F93,p93];exact zw9 R bs hb hn (List.replicate 8 0) (fun x1 _=>k x1) FUEL 0 st (by omega) (by rw [Ak]; omega) hl hu
def H0:List Int:=[1779033703,3144134277,1013904242,2773480762,1359893119,2600822924,528734635,1541459225]
theorem F94_eq (R:Type) (k:List Int→Option R):F94 R k=k H0:=by kernel_rfl
theorem F226_eq (R:Type) (k:Wr→Option R):F226 R k=k (H0,[],0,()):=by kernel_rfl
theorem V1:H0.length=8∧AllU32 H0:=⟨rfl,fun x hx=>by
 simp only [H0,List.mem_cons,List.not_mem_nil,or_false] at hx;unfold U32;omega⟩
def Ft (st l:List Int) (i:Nat):List Int:=lay l (4*i) (Cc (st.getD i 0))
theorem zjo {l xs:List Int} {lo:Nat} (h:lo+xs.length≤l.length):(lay l lo xs).length=l.length:=by
 unfold lay; simp; omega
theorem zmc (R:Type) {st:List Int} (hu:AllU32 st) (w:Wr×Unit) (k0:(Wr×Unit)→List Int→Option R):∀(m i:Nat) (l:List Int),i≤8→8 - i<m→Pv m R st (i:Int) w l k0=k0 w ((List.range' i (8 - i)).foldl (Ft st) l)
 | 0,i,l,_,h=>by omega
 | m+1,i,l,h1,h2=>by
  simp only [Pv,zhp]
  by_cases hi:i<8
  ·have ih:=zmc R hu w k0 m (i+1) (Ft st l i) (by omega) (by omega)
   rw [Bv hi,List.foldl_cons,←ih];have hd:decide ((i:Int)<8)=true:=by simp; omega
   have hbn:bnd (i:Int) 8=true:=by unfold bnd; simp; omega
   rw [wrap_i64 (n:=4*(i:Int)) (by omega) (by omega),wrap_i64 (n:=(i:Int)+1) (by omega) (by omega)];have c:decide (0≤4*(i:Int)∧4*(i:Int)≤32∧(32:Int)≤32)=true:=decide_eq_true (by omega);have e1:(4*(i:Int)).toNat=4*i:=by omega
   have e2:∀a,List.take (Int.toNat (32 - 4*(i:Int))) (List.take 4 (List.drop 0 (Cc a)))=Cc a:=fun a=>by
    rw [List.take_of_length_le (l:=List.take 4 (List.drop 0 (Cc a))) (by simp [Cc]; omega)];rfl
   simp only [hd,hbn,c,Int.toNat_natCast];rw [zbx R (Ar hu Qo _)];simp only [c,e1,e2];rfl
  ·have:i=8:=by omega
   subst this;rfl
end Go.PG
namespace Go.PG
theorem zd6 (R:Type) {b:List Int} {o:Nat} (ho:o+64≤b.length) (hb:b.length≤1000000000) (acc:List (List Int)) (k0:List Int→Int→List (List Int)→List Int→Option R):∀(m i:Nat),i≤64→64 - i<m→
  V3 m R b (o:Int) (i:Int) acc ((b.drop o).take i++List.replicate (64 - i) 0) k0=k0 b (o:Int) acc ((b.drop o).take 64)
 | 0,i,_,h=>by omega
 | m+1,i,h1,h2=>by
  simp only [V3,p90_6]
  by_cases hi:i<64
  ·have ih:=zd6 R ho hb acc k0 m (i+1) (by omega) (by omega)
   have hd:decide ((i:Int)<64)=true:=by simp; omega
   have hbn:bnd (i:Int) 64=true:=by unfold bnd; simp; omega
   have hb2:bnd ((o:Int)+(i:Int)) (b.length:Int)=true:=by unfold bnd; simp; omega
   have e1:((o:Int)+(i:Int)).toNat=o+i:=by omega
   have hl:((b.drop o).take i).length=i:=by rw [List.length_take,List.length_drop]; omega
   have hs:List.set ((b.drop o).take i++List.replicate (64 - i) 0) i (List.getD b (o+i) 0)=(b.drop o).take (i+1)++List.replicate (64 - (i+1)) 0:=by
    rw [List.set_append_right _ _ (by omega),hl,Nat.sub_self,show 64 - i=(64 - (i+1))+1 by omega,List.replicate_succ,List.set_cons_zero];rw [List.take_succ_eq_append_getElem (by rw [List.length_drop]; omega),List.append_assoc];simp [show o+i<b.length by omega]
   rw [wrap_i64 (n:=(o:Int)+(i:Int)) (by omega) (by omega),wrap_i64 (n:=(i:Int)+1) (by omega) (by omega)];simp only [hd,hbn,hb2,e1,Int.toNat_natCast,hs];exact ih
  ·have:i=64:=by omega
   subst this;have hd:decide (((64:Nat):Int)<64)=false:=by simp
   simp only [hd];simp
theorem zd7 (R:Type) {b:List Int} (hb:b.length≤1000000000) (k0:List Int→Int→List (List Int)→Option R):∀(m o:Nat) (acc:List (List Int)),o≤b.length→(b.length - o)/64<m→acc.length+(b.length - o)/64≤1000000000→
  ∃o':Nat,o'≤b.length∧b.drop o'=D3 (b.drop o)∧Ti m R b (o:Int) acc k0=k0 b (o':Int) (acc++blkS (b.drop o))
 | 0,o,acc,_,h,_=>by omega
 | m+1,o,acc,h0,h1,h2=>by
  simp only [Ti,p90_3];rw [wrap_i64 (n:=(o:Int)+64) (by omega) (by omega)]
  by_cases hi:o+64≤b.length
  ·have hd:decide ((o:Int)+64≤(b.length:Int))=true:=by simp; omega
   obtain ⟨o',g1,g2,g3⟩:=zd7 R hb k0 m (o+64) (acc++[(b.drop o).take 64]) (by omega) (by omega) (by rw [List.length_append]; simp; omega);have hl:64≤(b.drop o).length:=by rw [List.length_drop]; omega
   refine ⟨o',g1,?_,?_⟩
   ·rw [g2,El hl,List.drop_drop]
   ·have g:=zd6 R hi hb acc (fun x7 x8 x9 x10=>match decide (x9.length+[x10].length≤2199023255552) with | true=>Ti m R x7 (IntKind.i64.wrap (x8+64)) (x9++[x10]) k0 | false=>none) FUEL 0 (by omega) (by rw [Ak]; omega)
    have hc:decide (acc.length+[(b.drop o).take 64].length≤2199023255552)=true:=by simp; omega
    simp only [hd];refine Eq.trans ?_ (g.trans ?_)
    ·rfl
    ·simp only [hc]
     rw [wrap_i64 (by omega) (by omega),F6 hl,List.drop_drop];rw [List.append_assoc] at g3;exact g3
  ·have hd:decide ((o:Int)+64≤(b.length:Int))=false:=by simp; omega
   simp only [hd];have hl:(b.drop o).length<64:=by rw [List.length_drop]; omega
   exact ⟨o,h0,by rw [C4 hl],by rw [Ei hl,List.append_nil]⟩
theorem F90_eq (R:Type) {b:List Int} (hb:b.length≤1000000000) (k:List (List Int)→List Int→Option R):F90 R b k=k (blkS b) (D3 b):=by
 simp only [F90,p90];obtain ⟨o',g1,g2,g3⟩:=zd7 R hb (fun x1 x2 x3=>match decide (0≤x2∧x2≤(x1.length:Int)∧(x1.length:Int)≤(x1.length:Int)∧(x1.length:Int)≤(x1.length:Int)) with | true=>k x3 (List.take (Int.toNat ((x1.length:Int) - x2)) (List.drop (Int.toNat x2) x1)) | false=>none) FUEL 0 [] (by omega) (by rw [Ak]; omega) (by simp; omega);refine g3.trans ?_;have c:decide (0≤(o':Int)∧(o':Int)≤(b.length:Int)∧(b.length:Int)≤(b.length:Int)∧(b.length:Int)≤(b.length:Int))=true:=decide_eq_true (by omega);simp only [c,Int.toNat_natCast];rw [List.take_of_length_le (by rw [List.length_drop]; omega),g2];rfl
def padM (m:List Int):List Int:=m++128::(List.replicate (Co m.length) 0++putS (8*(m.length:Int)))
theorem F91_eq (R:Type) {m:List Int} (hm:m.length≤500000000) (k:List Int→Option R):F91 R m k=k (padM m):=by
 simp only [F91,p91];rw [Int.tmod_eq_emod_of_nonneg (by omega),wrap_i64 (by omega) (by omega),Ae (n:=(m.length:Int)) (by omega) (by omega)];obtain ⟨q,hq⟩:∃q:Nat,(m.length:Int) - (m.length:Int) % 64=q:=⟨m.length - m.length % 64,by omega⟩
 have hq':q=m.length - m.length % 64:=by omega
 rw [hq];have c1:decide (0≤(q:Int)∧(q:Int)≤(m.length:Int)∧(m.length:Int)≤(m.length:Int)∧(m.length:Int)≤(m.length:Int))=true:=decide_eq_true (by omega);have c2:decide (0≤(0:Int)∧(0:Int)≤(q:Int)∧(q:Int)≤(q:Int)∧(q:Int)≤(m.length:Int))=true:=decide_eq_true (by omega);have e1:List.take (Int.toNat ((m.length:Int) - (q:Int))) (List.drop q m)=List.drop q m:=List.take_of_length_le (by rw [List.length_drop]; omega);have e2:List.take (Int.toNat ((q:Int) - 0)) (List.drop 0 m)=List.take q m:=by simp
 simp only [c1,Int.toNat_natCast,e1];rw [F134_eq R (by rw [List.length_drop]; omega) (by omega)];have c3:decide (([]:List Int).length+(List.take q m).length≤140737488355328)=true:=decide_eq_true (by simp; omega);have c4:decide (([]++List.take q m).length+(padT (List.drop q m) m.length).length≤140737488355328)=true:=decide_eq_true (by simp [padT,putS]; unfold Co; omega);simp only [c2,e2,c3,c4]
 congr 1
 simp only [padT,padM,List.nil_append];rw [←List.append_assoc,List.take_append_drop]
end Go.PG
namespace Go.PG
def zua (st:List Int):List Int:=(List.range' 0 8).foldl (Ft st) (List.replicate 32 0)
theorem F255_eq (R:Type) {st:List Int} (u:List Int×Int×Unit) (hu:AllU32 st) (k:List Int→(Wr×Unit)→Option R):F255 R ((st,u),()) k=k (zua st) ((st,u),()):=by
 simp only [F255,p255];exact zmc R hu ((st,u),()) (fun x1 x2=>k x2 x1) FUEL 0 (List.replicate 32 0) (by omega) (by rw [Ak]; omega)
def SHA (m:List Int):List Int:=zua (Kc H0 (blkS (padM m)))
theorem I4 (x:Int):AllU8 (putS x):=fun y hy=>by
 simp only [putS,List.mem_cons,List.not_mem_nil,or_false] at hy;unfold U8;omega
theorem zhc {rest:List Int} (h:AllU8 rest) (n:Nat):AllU8 (padT rest n):=fun y hy=>by
 unfold padT at hy;rcases List.mem_append.1 hy with h1 | h1
 ·exact h y h1
 ·rcases List.mem_cons.1 h1 with rfl | h1
  ·unfold U8; omega
  ·rcases List.mem_append.1 h1 with h1 | h1
   ·rw [List.eq_of_mem_replicate h1]; exact u8_0
   ·exact I4 _ y h1
theorem zr1 (m:List Int):blkS (padM m)=blkS m++blkS (padT (D3 m) m.length):=(Lj m.length m _ (Nat.le_refl _)).1
theorem F227_eq (R:Type) {m:List Int} (h8:AllU8 m) (hm:m.length≤500000000) (k:List Int→Int→Option R):F227 R (wrS H0 m) k=k (SHA m) 0:=by
 have tl:=(Jx m.length m (Nat.le_refl _)).1;have ok:=Pd m.length m (Nat.le_refl _) h8;have hf:=Kb (blkS m) V1.1 V1.2;have hp:=zhc ok.2 m.length;simp only [F227,p227,wrS];rw [F253_eq R tl (by omega)];simp only [Bool.not_true];rw [zoq R (D3 m,(m.length:Int),()) hf.1 hf.2 hp (by simp [padT,putS]; unfold Co; omega)];have hf2:=Kb (blkS (padT (D3 m) m.length)) hf.1 hf.2;rw [F255_eq R _ hf2.2];unfold SHA;rw [zr1];unfold Kc;rw [List.foldl_append]
theorem zby (R:Type) {ps:List (List Int)} (h8:∀p∈ps,AllU8 p) (hlen:ps.flatten.length≤500000000) (hnum:ps.length≤1000000000) (k:List Int→Option R):F189 R ps k=k (SHA ps.flatten):=by
 simp only [F189,p189];rw [F226_eq,F225_eq R V1.1 V1.2 h8 hlen hnum];refine F227_eq R (fun x hx=>?_) hlen _;obtain ⟨p,h1,h2⟩:=List.mem_flatten.1 hx;exact h8 p h1 x h2
end Go.PG
namespace Go.PG
theorem zd4 (R:Type) (x1:Nat) (h:x1<8) (x3 x4 ys:List Int) (hy:ys.length=4) (k0:Int→List Int→List Int→List Int→Option R):∀(m j:Nat) (l:List Int),j≤4→4 - j<m→V2 m R (x1:Int) (j:Int) x3 x4 l ys k0=k0 (x1:Int) x3 x4 ((List.range' j (4 - j)).foldl (fun l j=>l.set (4*x1+j) (ys.getD j 0)) l)
 | 0,j,l,_,h=>by omega
 | m+1,j,l,h1,h2=>by
  simp only [V2,p92_7]
  by_cases hi:j<4
  ·have ih:=zd4 R x1 h x3 x4 ys hy k0 m (j+1) (l.set (4*x1+j) (ys.getD j 0)) (by omega) (by omega)
   rw [Bv hi,List.foldl_cons,←ih];have hd:decide ((j:Int)<4)=true:=by simp; omega
   have hbn:bnd (j:Int) 4=true:=by unfold bnd; simp; omega
   rw [wrap_i64 (n:=4*(x1:Int)) (by omega) (by omega),wrap_i64 (n:=4*(x1:Int)+(j:Int)) (by omega) (by omega),wrap_i64 (n:=(j:Int)+1) (by omega) (by omega)];have hb2:bnd (4*(x1:Int)+(j:Int)) 32=true:=by unfold bnd; simp; omega
   have e1:(4*(x1:Int)+(j:Int)).toNat=4*x1+j:=by omega
   simp only [hd,hbn,hb2,e1,Int.toNat_natCast];rfl
  ·have:j=4:=by omega
   subst this;rfl
end Go.PG
namespace Go.PG
theorem zrr (l:List Int) (p:Nat) (h:p+4≤l.length) (a b c d:Int):
  (List.range' 0 4).foldl (fun l j=>l.set (p+j) (List.getD [a,b,c,d] j 0)) l=lay l p [a,b,c,d]:=by
 have e:(List.range' 0 4).foldl (fun l j=>l.set (p+j) (List.getD [a,b,c,d] j 0)) l=(((l.set p a).set (p+1) b).set (p+2) c).set (p+3) d:=rfl;rw [e];apply List.ext_getElem?;intro i;unfold lay;simp only [List.getElem?_set,List.getElem?_append,List.length_take,List.length_set,List.getElem?_drop,List.length_append,List.length_cons,List.length_nil,List.getElem?_take];have hm:min p l.length=p:=by omega
 have hx:[a,b,c,d].length=4:=rfl
 by_cases h1:i<p
 ·have n1:¬p+3=i:=by omega
  have n2:¬p+2=i:=by omega
  have n3:¬p+1=i:=by omega
  have n4:¬p=i:=by omega
  simp only [n1,n2,n3,n4,if_false,hm];rw [if_pos (by omega),if_pos (by omega),if_pos h1]
 ·by_cases h2:i<p+4
  ·obtain ⟨q,rfl⟩:∃q,i=p+q:=⟨i - p,by omega⟩
   have hq:q=0∨q=1∨q=2∨q=3:=by omega
   rcases hq with rfl | rfl | rfl | rfl
   ·simp [hm,show ¬p+3=p from by omega,show p<l.length from by omega]
   ·simp [hm,show p+1<l.length from by omega,show ¬p+1<p from by omega]
   ·simp [hm,show p+2<l.length from by omega,show ¬p+2<p from by omega]
   ·simp [hm,show p+3<l.length from by omega,show ¬p+3<p from by omega]
  ·have n1:¬p+3=i:=by omega
   have n2:¬p+2=i:=by omega
   have n3:¬p+1=i:=by omega
   have n4:¬p=i:=by omega
   simp only [n1,n2,n3,n4,if_false,hm];rw [if_neg (by omega)]
   congr 1
   omega
theorem zd5 (R:Type) {st:List Int} (hu:AllU32 st) (x3:List Int) (k0:List Int→List Int→Option R):∀(m i:Nat) (l:List Int),i≤8→8 - i<m→l.length=32→N2 m R (i:Int) st x3 l k0=k0 x3 ((List.range' i (8 - i)).foldl (Ft st) l)
 | 0,i,l,_,h,_=>by omega
 | m+1,i,l,h1,h2,hl=>by
  simp only [N2,p92_3]
  by_cases hi:i<8
  ·have hs:lay l (4*i) (Cc (st.getD i 0))=Ft st l i:=rfl
   have ih:=zd5 R hu x3 k0 m (i+1) (Ft st l i) (by omega) (by omega) (by rw [←hs,zjo (by simp [Cc]; omega)]; exact hl);rw [Bv hi,List.foldl_cons,←ih];have hd:decide ((i:Int)<8)=true:=by simp; omega
   have hbn:bnd (i:Int) 8=true:=by unfold bnd; simp; omega
   simp only [hd,hbn,Int.toNat_natCast];rw [F135_eq R (Ar hu Qo _)];refine (zd4 R i hi st x3 _ rfl _ FUEL 0 l (by omega) (by rw [Ak]; omega)).trans ?_;have e4:=zrr l (4*i) (by omega) (st.getD i 0/16777216 % 256) (st.getD i 0/65536 % 256) (st.getD i 0/256 % 256) (st.getD i 0 % 256);rw [wrap_i64 (n:=(i:Int)+1) (by omega) (by omega)];show N2 m R ((i:Int)+1) st x3 _ k0=N2 m R ((i+1:Nat):Int) st x3 _ k0;rw [←hs];show N2 m R ((i:Int)+1) st x3 _ k0=N2 m R ((i:Int)+1) st x3 _ k0
   congr 1
  ·have:i=8:=by omega
   subst this;rfl
theorem F92_eq (R:Type) {st:List Int} (hu:AllU32 st) (k:List Int→Option R):F92 R st k=k (zua st):=by
 simp only [F92,p92];exact zd5 R hu _ (fun x1 x2=>k x2) FUEL 0 (List.replicate 32 0) (by omega) (by rw [Ak]; omega) rfl
theorem padM_u8 {m:List Int} (h:AllU8 m):AllU8 (padM m):=fun x hx=>by
 unfold padM at hx;rcases List.mem_append.1 hx with h1 | h1
 ·exact h x h1
 ·exact zhc (rest:=[]) (fun y hy=>absurd hy (by simp)) m.length x h1
theorem zr0 (m:List Int):(padM m).length≤m.length+72:=by
 simp [padM,putS,Co]; omega
theorem zdw:∀(n:Nat) (b:List Int),(blkF n b).length≤n
 | 0,b=>by simp [blkF]
 | n+1,b=>by
  simp only [blkF];split
  ·simp only [List.length_cons]
   have:=zdw n (b.drop 64);omega
  ·simp
theorem zol (R:Type) {m:List Int} (h8:AllU8 m) (hm:m.length≤500000000) (k:List Int→Option R):F45 R m k=k (SHA m):=by
 simp only [F45,p45];have hp:=zr0 m;rw [F91_eq R hm,F90_eq R (by omega),F94_eq];have ok:=Pd (padM m).length (padM m) (Nat.le_refl _) (padM_u8 h8);rw [F93_eq R V1.1 V1.2 ok.1 (by have:=zdw ((padM m).length/64+1) (padM m); unfold blkS; omega),F92_eq R (Kb (blkS (padM m)) V1.1 V1.2).2];rfl
end Go.PG
namespace Go.PG
theorem zcc (b:BitVec 8):IntKind.u8.wrap ((b.toNat:Nat):Int)=(b.toNat:Int):=by
 have:=b.isLt;exact zga (by omega) (by omega)
theorem zjr (a b:Int):ixor .u8 a b=((BitVec.ofInt 8 a^^^BitVec.ofInt 8 b).toNat:Int):=zcc _
theorem Uy {x:Int} (h:U8 x):((BitVec.ofInt 8 x).toNat:Int)=x:=by
 rw [BitVec.toNat_ofInt];unfold U8 at h;have:x % ((2^8:Nat):Int)=x:=by omega
 rw [this];omega
theorem zt4 (a b:Int):U8 (ixor .u8 a b):=by
 rw [zjr];have:=(BitVec.ofInt 8 a^^^BitVec.ofInt 8 b).isLt;unfold U8;omega
theorem ixor8_0 {a:Int} (h:U8 a):ixor .u8 0 a=a:=by
 rw [zjr,show BitVec.ofInt 8 0=0#8 from rfl,BitVec.zero_xor,Uy h]
def xorS (h x:List Int):List Int:=List.zipWith (ixor .u8) h x
def Hd:List Int:=List.replicate 32 0
def zcb (l:List (List Int)):List Int:=l.foldl xorS Hd
def H32 (l:List Int):Prop:=l.length=32∧AllU8 l
theorem zca:∀{n:Nat} {a:List Int},a.length=n→AllU8 a→xorS (List.replicate n 0) a=a
 | 0,[],_,_=>rfl
 | n+1,a::ts,hl,h=>by
  have ih:=zca (n:=n) (a:=ts) (by simpa using hl) (fun x hx=>h x (List.mem_cons_of_mem _ hx));simp only [xorS,List.replicate_succ,List.zipWith_cons_cons] at*;rw [ih,ixor8_0 (h a List.mem_cons_self)]
theorem zf7:∀h x:List Int,AllU8 (xorS h x)
 | [],x=>fun y hy=>by simp [xorS] at hy
 | h::hs,[]=>fun y hy=>by simp [xorS] at hy
 | h::hs,x::xs=>fun y hy=>by
  simp only [xorS,List.zipWith_cons_cons,List.mem_cons] at hy;rcases hy with rfl | hy
  ·exact zt4 _ _
  ·exact zf7 hs xs y hy
theorem W2 {h x:List Int} (hh:H32 h) (hx:H32 x):H32 (xorS h x):=⟨by simp [xorS,hh.1,hx.1],zf7 h x⟩
theorem A5:H32 Hd:=⟨by simp [Hd],fun x hx=>by rw [List.eq_of_mem_replicate hx]; exact u8_0⟩
theorem zf8:∀(l:List (List Int)) {h:List Int},H32 h→(∀x∈l,H32 x)→H32 (l.foldl xorS h)
 | [],h,hh,_=>hh
 | x::xs,h,hh,hl=>zf8 xs (W2 hh (hl x List.mem_cons_self)) (fun y hy=>hl y (List.mem_cons_of_mem _ hy))
theorem zf9 {l:List (List Int)} (hl:∀x∈l,H32 x):H32 (zcb l):=zf8 l A5 hl
theorem xor0 {x:List Int} (h:H32 x):xorS Hd x=x:=zca h.1 h.2
theorem set_mid (A:List Int) (h:Int) (hs:List Int) (v:Int):(A++h::hs).set A.length v=(A++[v])++hs:=by
 rw [List.set_append_right _ _ (Nat.le_refl _)];simp
theorem zdi (A:List Int) (h:Int) (hs:List Int):(A++h::hs).getD A.length 0=h:=by
 simp
theorem Wc (R:Type) (x1:List (List Int)) (x2 x3:Int) (k0:List (List Int)→Int→Int→List Int→Option R):∀(m:Nat) (hs xs A X:List Int),hs.length=xs.length→A.length=X.length→A.length+hs.length=32→hs.length<m→
  Kq m R x1 x2 x3 (X++xs) (A.length:Int) (A++hs) k0=k0 x1 x2 x3 (A++xorS hs xs)
 | 0,_,_,_,_,_,_,_,h=>by omega
 | m+1,[],[],A,X,_,h2,h3,_=>by
  have:A.length=32:=by simpa using h3
  simp only [Kq,zc6,this];simp [xorS]
 | m+1,h::hs,x::xs,A,X,h1,h2,h3,h4=>by
  simp only [List.length_cons] at h1 h3 h4;have ih:=Wc R x1 x2 x3 k0 m hs xs (A++[ixor .u8 h x]) (X++[x]) (by omega) (by simp; omega) (by simp; omega) (by omega);simp only [Kq,zc6];have hd:decide ((A.length:Int)<32)=true:=by simp; omega
  have hbn:bnd (A.length:Int) 32=true:=by unfold bnd; simp; omega
  simp only [hd,hbn,Int.toNat_natCast];rw [set_mid,zdi,wrap_i64 (n:=(A.length:Int)+1) (by omega) (by omega),h2,zdi];simp only [List.append_assoc,List.cons_append,List.nil_append,List.length_append,List.length_cons,List.length_nil] at ih;rw [h2] at ih;simp only [List.append_assoc,List.cons_append,List.nil_append];exact ih
theorem Wd (R:Type) (l:List (List Int)) (hl:∀x∈l,H32 x) (hn:l.length≤1000000000) (k0:List Int→Option R):∀(m i:Nat) (h:List Int),i≤l.length→l.length - i<m→H32 h→
  Ns m R l (l.length:Int) (i:Int) h k0=k0 ((l.drop i).foldl xorS h)
 | 0,i,_,_,h,_=>by omega
 | m+1,i,h,h1,h2,hh=>by
  simp only [Ns,zh2]
  by_cases hi:i<l.length
  ·have hd:decide ((i:Int)<(l.length:Int))=true:=by simpa using hi
   have hbn:bnd (i:Int) (l.length:Int)=true:=by unfold bnd; simp; omega
   have hx:=hl l[i] (List.getElem_mem hi);have hg:List.getD l i (List.replicate 32 0)=l[i]:=by simp [hi]
   have ih:=Wd R l hl hn k0 m (i+1) (xorS h l[i]) (by omega) (by omega) (W2 hh hx);simp only [hd,hbn,Int.toNat_natCast,hg];refine (Wc R l (l.length:Int) (i:Int) _ FUEL h l[i] [] [] (by rw [hh.1,hx.1]) rfl (by simp [hh.1]) (by rw [Ak,hh.1]; omega)).trans ?_;rw [wrap_i64 (n:=(i:Int)+1) (by omega) (by omega),List.drop_eq_getElem_cons hi];exact ih
  ·have:i=l.length:=by omega
   subst this;have hd:decide ((l.length:Int)<(l.length:Int))=false:=by simp
   simp only [hd];rw [List.drop_of_length_le (Nat.le_refl _)];rfl
theorem F188_eq (R:Type) {l:List (List Int)} (hl:∀x∈l,H32 x) (hn:l.length≤1000000000) (k:List Int→Option R):F188 R l k=k (zcb l):=by
 simp only [F188,p188];exact Wd R l hl hn (fun x2=>k x2) FUEL 0 Hd (by omega) (by rw [Ak]; omega) A5
end Go.PG
namespace Go.PG
theorem Ee (x:Int):(putS x).length=8:=rfl
theorem zcl {l:List Int} (h:H32 l):List.take 32 (List.drop 0 l)=l:=by
 rw [List.drop_zero,List.take_of_length_le (by rw [h.1]; omega)]
theorem take8 (x:Int):List.take 8 (List.drop 0 (putS x))=putS x:=rfl
theorem zoz (R:Type) {a:List Int} (ha:H32 a) (k:List Int→Option R):F152 R a k=k (SHA a):=by
 simp only [F152,p152,zcl ha];rw [zby R (fun p hp=>by simp only [List.mem_cons,List.not_mem_nil,or_false] at hp; rw [hp]; exact ha.2) (by simp [ha.1]) (by simp)];simp
def Xd (a:List Int) (e:Int) (b:List Int):List Int:=SHA (a++(putS e++b))
theorem F190_eq (R:Type) {a b:List Int} (ha:H32 a) (hb:H32 b) (e:Int) (k:List Int→Option R):F190 R a e b k=k (Xd a e b):=by
 simp only [F190,p190];rw [Qk];simp only [zcl ha,zcl hb,take8];rw [zby R (fun p hp=>by
  simp only [List.mem_cons,List.not_mem_nil,or_false] at hp;rcases hp with rfl | rfl | rfl
  ·exact ha.2
  ·exact I4 e
  ·exact hb.2) (by simp [ha.1,hb.1,Ee]) (by simp)]
 simp [Xd]
theorem Hr {l:List Int} {i:Nat} (h:i<l.length):l.drop i=l.getD i 0::l.drop (i+1):=by
 rw [List.drop_eq_getElem_cons h];simp [h]
theorem zxf (R:Type) {a:List Int} (ha:a.length=32) (k0:List Int→Option R):∀(m i:Nat) (o:List Int),i≤32→32 - i<m→o.length≤1000000+i→Z8 m R (i:Int) a o k0=k0 (o++a.drop i)
 | 0,i,_,_,h,_=>by omega
 | m+1,i,o,h1,h2,h3=>by
  simp only [Z8,p46_3]
  by_cases hi:i<32
  ·have ih:=zxf R ha k0 m (i+1) (o++[a.getD i 0]) (by omega) (by omega) (by simp; omega)
   have hd:decide ((i:Int)<32)=true:=by simp; omega
   have hbn:bnd (i:Int) 32=true:=by unfold bnd; simp; omega
   have hc:∀y:Int,decide (List.length o+List.length [y]≤140737488355328)=true:=fun y=>by simp; omega
   simp only [hd,hbn,Int.toNat_natCast,hc];rw [wrap_i64 (n:=(i:Int)+1) (by omega) (by omega),Hr (by omega)];simp only [List.append_assoc,List.cons_append,List.nil_append] at ih;exact ih
  ·have:i=32:=by omega
   subst this;rw [List.drop_of_length_le (by omega),List.append_nil];rfl
theorem zok (R:Type) {a:List Int} (ha:a.length=32) (k:List Int→Option R):F46 R a k=k a:=by
 simp only [F46,p46];exact zxf R ha (fun x=>k x) FUEL 0 [] (by omega) (by rw [Ak]; omega) (by simp)
theorem F23_eq (R:Type) {a:List Int} (ha:H32 a) (k:List Int→Option R):F23 R a k=k (SHA a):=by
 simp only [F23,p23];rw [zok R ha.1,zol R ha.2 (by rw [ha.1]; omega)]
theorem zxi (R:Type) {a:List Int} (ha:a.length=8) (x2 x3:List Int) (k0:List Int→List Int→List Int→Option R):∀(m i:Nat) (o:List Int),i≤8→8 - i<m→o.length≤1000000+i→zac m R (i:Int) x2 x3 o a k0=k0 x2 x3 (o++a.drop i)
 | 0,i,_,_,h,_=>by omega
 | m+1,i,o,h1,h2,h3=>by
  simp only [zac,p24_4]
  by_cases hi:i<8
  ·have ih:=zxi R ha x2 x3 k0 m (i+1) (o++[a.getD i 0]) (by omega) (by omega) (by simp; omega)
   have hd:decide ((i:Int)<8)=true:=by simp; omega
   have hbn:bnd (i:Int) 8=true:=by unfold bnd; simp; omega
   have hc:∀y:Int,decide (List.length o+List.length [y]≤140737488355328)=true:=fun y=>by simp; omega
   simp only [hd,hbn,Int.toNat_natCast,hc];rw [wrap_i64 (n:=(i:Int)+1) (by omega) (by omega),Hr (by omega)];simp only [List.append_assoc,List.cons_append,List.nil_append] at ih;exact ih
  ·have:i=8:=by omega
   subst this;rw [List.drop_of_length_le (by omega),List.append_nil];rfl
theorem AllU8.app {a b:List Int} (ha:AllU8 a) (hb:AllU8 b):AllU8 (a++b):=fun x hx=>(List.mem_append.1 hx).elim (ha x) (hb x)
theorem F24_eq (R:Type) {a b:List Int} (ha:H32 a) (hb:H32 b) {e:Int} (he:0≤e∧e<18446744073709551616) (k:List Int→Option R):F24 R a e b k=k (Xd a e b):=by
 simp only [F24,p24];rw [zok R ha.1,zed R he];refine (zxi R (Ee e) b _ _ FUEL 0 a (by omega) (by rw [Ak]; omega) (by rw [ha.1]; omega)).trans ?_;simp only [List.drop_zero];rw [zok R hb.1];have hc:decide (List.length (a++putS e)+List.length b≤140737488355328)=true:=by simp [ha.1,hb.1,Ee]
 simp only [hc];rw [zol R ((ha.2.app (I4 e)).app hb.2) (by simp [ha.1,hb.1,Ee])];rw [List.append_assoc];rfl
theorem fit_h32 {x:List Int} (h:Fit (.arr 32 (.int .u8)) x):H32 x:=⟨h.1,fun y hy=>by have:=fit_u8 (h.2 y hy); unfold U8; omega⟩
end Go.PG
namespace Go.PG
end Go.PG
namespace Go.PG
theorem ze7 {st l:List Int} (hl:H32 l) {i:Nat} (hi:i<8):H32 (Ft st l i):=by
 refine ⟨by unfold Ft; rw [zjo (by simp [Cc,hl.1]; omega)]; exact hl.1,?_⟩;unfold Ft lay;refine AllU8.app (AllU8.app (fun x hx=>hl.2 x (List.mem_of_mem_take hx)) ?_) (fun x hx=>hl.2 x (List.mem_of_mem_drop hx));intro y hy;simp only [Cc,List.mem_cons,List.not_mem_nil,or_false] at hy;unfold U8;omega
theorem Q8 (st:List Int):∀(is:List Nat) {l:List Int},(∀i∈is,i<8)→H32 l→H32 (is.foldl (Ft st) l)
 | [],_,_,hl=>hl
 | i::is,_,h,hl=>Q8 st is (fun j hj=>h j (List.mem_cons_of_mem _ hj)) (ze7 hl (h i List.mem_cons_self))
theorem Vz (m:List Int):H32 (SHA m):=by
 unfold SHA zua;refine Q8 _ _ (fun i hi=>?_) A5;rw [List.mem_range'] at hi;obtain ⟨j,hj,rfl⟩:=hi;omega
def Ht (a:List Int) (d i:Int):List Int:=SHA (a++(putS d++putS i))
theorem Vl (a:List Int) (d i:Int):H32 (Ht a d i):=Vz _
theorem F290_eq (R:Type) {a:List Int} (ha:H32 a) (d i:Int) (k:List Int→Option R):F290 R a d i k=k (Ht a d i):=by
 simp only [F290,p290];rw [Qk,Qk];simp only [zcl ha,take8];rw [zby R (fun p hp=>by
  simp only [List.mem_cons,List.not_mem_nil,or_false] at hp;rcases hp with rfl | rfl | rfl
  ·exact ha.2
  ·exact I4 d
  ·exact I4 i) (by simp [ha.1,Ee]) (by simp)]
 simp [Ht]
theorem V9 (R:Type) {a:List Int} (ha:a.length=32) (x1 x2:Int) (x5:List Int) (k0:Int→Int→List Int→List Int→Option R):∀(m i:Nat) (o:List Int),i≤32→32 - i<m→o.length≤1000000+i→Ko m R x1 x2 (i:Int) a x5 o k0=k0 x1 x2 x5 (o++a.drop i)
 | 0,i,_,_,h,_=>by omega
 | m+1,i,o,h1,h2,h3=>by
  simp only [Ko,zhm]
  by_cases hi:i<32
  ·have ih:=V9 R ha x1 x2 x5 k0 m (i+1) (o++[a.getD i 0]) (by omega) (by omega) (by simp; omega)
   have hd:decide ((i:Int)<32)=true:=by simp; omega
   have hbn:bnd (i:Int) 32=true:=by unfold bnd; simp; omega
   have hc:∀y:Int,decide (List.length o+List.length [y]≤140737488355328)=true:=fun y=>by simp; omega
   simp only [hd,hbn,Int.toNat_natCast,hc];rw [wrap_i64 (n:=(i:Int)+1) (by omega) (by omega),Hr (by omega)];simp only [List.append_assoc,List.cons_append,List.nil_append] at ih;exact ih
  ·have:i=32:=by omega
   subst this;rw [List.drop_of_length_le (by omega),List.append_nil];rfl
theorem V8 (R:Type) {a:List Int} (ha:a.length=8) (x2 x5:List Int) (k0:List Int→List Int→List Int→Option R):∀(m i:Nat) (o:List Int),i≤8→8 - i<m→o.length≤1000000+i→Kn m R (i:Int) x2 o a x5 k0=k0 x2 (o++a.drop i) x5
 | 0,i,_,_,h,_=>by omega
 | m+1,i,o,h1,h2,h3=>by
  simp only [Kn,zhl]
  by_cases hi:i<8
  ·have ih:=V8 R ha x2 x5 k0 m (i+1) (o++[a.getD i 0]) (by omega) (by omega) (by simp; omega)
   have hd:decide ((i:Int)<8)=true:=by simp; omega
   have hbn:bnd (i:Int) 8=true:=by unfold bnd; simp; omega
   have hc:∀y:Int,decide (List.length o+List.length [y]≤140737488355328)=true:=fun y=>by simp; omega
   simp only [hd,hbn,Int.toNat_natCast,hc];rw [wrap_i64 (n:=(i:Int)+1) (by omega) (by omega),Hr (by omega)];simp only [List.append_assoc,List.cons_append,List.nil_append] at ih;exact ih
  ·have:i=8:=by omega
   subst this;rw [List.drop_of_length_le (by omega),List.append_nil];rfl
theorem Ru (R:Type) {a:List Int} (ha:a.length=8) (x2:List Int) (k0:List Int→List Int→Option R):∀(m i:Nat) (o:List Int),i≤8→8 - i<m→o.length≤1000000+i→Gt m R (i:Int) x2 o a k0=k0 x2 (o++a.drop i)
 | 0,i,_,_,h,_=>by omega
 | m+1,i,o,h1,h2,h3=>by
  simp only [Gt,Xk]
  by_cases hi:i<8
  ·have ih:=Ru R ha x2 k0 m (i+1) (o++[a.getD i 0]) (by omega) (by omega) (by simp; omega)
   have hd:decide ((i:Int)<8)=true:=by simp; omega
   have hbn:bnd (i:Int) 8=true:=by unfold bnd; simp; omega
   have hc:∀y:Int,decide (List.length o+List.length [y]≤140737488355328)=true:=fun y=>by simp; omega
   simp only [hd,hbn,Int.toNat_natCast,hc];rw [wrap_i64 (n:=(i:Int)+1) (by omega) (by omega),Hr (by omega)];simp only [List.append_assoc,List.cons_append,List.nil_append] at ih;exact ih
  ·have:i=8:=by omega
   subst this;rw [List.drop_of_length_le (by omega),List.append_nil];rfl
def U64 (x:Int):Prop:=0≤x∧x<18446744073709551616
theorem F268_eq (R:Type) {a:List Int} (ha:H32 a) {d i:Int} (hd:U64 d) (hi:U64 i) (k:List Int→Option R):F268 R a d i k=k (Ht a d i):=by
 simp only [F268,p268];refine (V9 R ha.1 d i _ _ FUEL 0 [] (by omega) (by rw [Ak]; omega) (by simp)).trans ?_;simp only [List.drop_zero,List.nil_append];rw [zed R hd,zed R hi];refine (V8 R (Ee d) _ _ _ FUEL 0 a (by omega) (by rw [Ak]; omega) (by rw [ha.1]; omega)).trans ?_;simp only [List.drop_zero];refine (Ru R (Ee i) _ _ FUEL 0 (a++putS d) (by omega) (by rw [Ak]; omega) (by simp [ha.1,Ee])).trans ?_;simp only [List.drop_zero];rw [zol R ((ha.2.app (I4 d)).app (I4 i)) (by simp [ha.1,Ee]),List.append_assoc];rfl
theorem T1 (b:BitVec 64):IntKind.u64.wrap ((b.toNat:Nat):Int)=(b.toNat:Int):=by
 have:=b.isLt;exact Ae (by omega) (by omega)
theorem zt9 (a b:Int):iand .u64 a b=((BitVec.ofInt 64 a&&& BitVec.ofInt 64 b).toNat:Int):=T1 _
theorem Zj (a b:Int):ior .u64 a b=((BitVec.ofInt 64 a||| BitVec.ofInt 64 b).toNat:Int):=T1 _
theorem zjz {x:Int} (hx:U64 x) (n:Nat) (hn:n<64):iand .u64 x ((2^n - 1:Nat):Int)=x % 2^n:=by
 unfold U64 at hx;obtain ⟨y,rfl⟩:∃y:Nat,x=y:=⟨x.toNat,by omega⟩
 have h1:(2:Nat)^n<2^64:=Nat.pow_lt_pow_right (by omega) hn;have h0:0<(2:Nat)^n:=Nat.pow_pos (by omega);rw [zt9,BitVec.ofInt_natCast,BitVec.ofInt_natCast,BitVec.toNat_and,BitVec.toNat_ofNat,BitVec.toNat_ofNat,Nat.mod_eq_of_lt (by omega),Nat.mod_eq_of_lt (by omega),Nat.and_two_pow_sub_one_eq_mod];simp
def bitS (a:List Int) (d n:Int):Int:=(Ht a d (n/256)).getD (n % 256/8).toNat 0/2^(7 - n % 8).toNat % 2
theorem zma (R:Type) {n:Nat} (hn:n≤7) (k0:Int→Option R):∀(m i:Nat),i≤n→n - i<m→Pu m R (n:Int) (2^i) (i:Int) k0=k0 (2^n)
 | 0,i,_,h=>by omega
 | m+1,i,h1,h2=>by
  simp only [Pu,zhk]
  by_cases hi:i<n
  ·have hd:decide ((i:Int)<(n:Int))=true:=by simpa using hi
   have ih:=zma R hn k0 m (i+1) (by omega) (by omega);have hp:(2:Int)^i≤128:=by
    have:(2:Nat)^i≤2^7:=Nat.pow_le_pow_right (by omega) (by omega);have e:((2^i:Nat):Int)=(2:Int)^i:=by simp
    omega
   have hq:(0:Int)<2^i:=Int.pow_pos (by decide);simp only [hd];rw [Ae (n:=2*2^i) (by omega) (by omega),Ae (n:=(i:Int)+1) (by omega) (by omega),show (2:Int)*2^i=2^(i+1) by rw [Int.pow_succ,Int.mul_comm]];exact ih
  ·have:i=n:=by omega
   subst this;have hd:decide ((i:Int)<(i:Int))=false:=by simp
   simp only [hd]
theorem F269_eq (R:Type) {n:Nat} (hn:n≤7) (k:Int→Option R):F269 R (n:Int) k=k (2^n):=by
 simp only [F269,p269];exact zma R hn (fun x=>k x) FUEL 0 (by omega) (by rw [Ak]; omega)
theorem F246_eq (R:Type) {a:List Int} (ha:H32 a) {d n:Int} (hd:U64 d) (hn:U64 n) (k:Int→Option R):F246 R a d n k=k (bitS a d n):=by
 have hn':=hn;unfold U64 at hn;simp only [F246,p246];rw [Int.tdiv_eq_ediv_of_nonneg hn.1,Int.tmod_eq_emod_of_nonneg hn.1,Int.tmod_eq_emod_of_nonneg hn.1,Ae (n:=n/256) (by omega) (by omega),F268_eq R ha hd (by unfold U64; omega),Int.tdiv_eq_ediv_of_nonneg (a:=n % 256) (by omega),Ae (n:=n % 256/8) (by omega) (by omega),Ae (n:=7 - n % 8) (by omega) (by omega)];have hbn:bnd (n % 256/8) 32=true:=by unfold bnd; simp; omega
 simp only [hbn];have hb:U8 ((Ht a d (n/256)).getD (n % 256/8).toNat 0):=Ar (Vl a d _).2 u8_0 _;obtain ⟨r,hr⟩:∃r:Nat,7 - n % 8=r:=⟨(7 - n % 8).toNat,by omega⟩
 unfold bitS;rw [hr,F269_eq R (by omega)];generalize (Ht a d (n/256)).getD (n % 256/8).toNat 0=b at*;unfold U8 at hb;have hp:(0:Int)<2^r:=Int.pow_pos (by decide);have hq:0≤b/2^r∧b/2^r≤b:=⟨Int.ediv_nonneg hb.1 (by omega),Int.ediv_le_self _ hb.1⟩
 have hz:((2:Int)^r==0)=false:=by simp; omega
 simp only [hz,Bool.not_false];rw [Ae (n:=b) (by omega) (by omega),Int.tdiv_eq_ediv_of_nonneg (by omega),Ae (n:=b/2^r) (by omega) (by omega),Int.tmod_eq_emod_of_nonneg hq.1,Int.toNat_natCast]
end Go.PG
namespace Go.PG
abbrev Cm:=Int×(List Int×(Bool×(List Int×Unit)))
abbrev zC:Cm:=((0:Int),(List.replicate 32 (0:Int)),false,(List.replicate 32 (0:Int)),())
abbrev KC:Kd:=(.pair (.int .i64) (.pair (.arr 32 (.int .u8)) (.pair .bool (.pair (.arr 32 (.int .u8)) .unit))))
def I64 (x:Int):Prop:= -9223372036854775808≤x∧x<9223372036854775808
structure CmOK (c:Cm):Prop where
 who:I64 c.1
 hash:H32 c.2.1
 value:H32 c.2.2.2.1
def CsOK (l:List Cm):Prop:=∀c∈l,CmOK c
theorem zC_ok:CmOK zC:=⟨by show I64 0; unfold I64; omega,A5,A5⟩
theorem CsOK.get {l:List Cm} (h:CsOK l) (i:Nat):CmOK (l.getD i zC):=by
 rw [List.getD_eq_getElem?_getD];cases hi:l[i]? with
 | none=>exact zC_ok
 | some c=>exact h c (List.mem_of_getElem? hi)
theorem zdm:∀{a b:List Int},a.length=b.length→eqvL (Kd.eqv (.int .u8)) a b=decide (a=b)
 | [],[],_=>rfl
 | x::xs,y::ys,h=>by
  simp only [eqvL,zdm (a:=xs) (b:=ys) (by simpa using h)]
  by_cases e:x=y
  ·subst e; simp [Kd.eqv]
  ·simp [Kd.eqv,e]
theorem B7 {a b:List Int} (ha:a.length=32) (hb:b.length=32):Kd.eqv (.arr 32 (.int .u8)) a b=decide (a=b):=zdm (by rw [ha,hb])
theorem eqvC {a b:Cm} (ha:CmOK a) (hb:CmOK b):Kd.eqv KC a b=decide (a=b):=by
 obtain ⟨a1,a2,a3,a4,⟨⟩⟩:=a;obtain ⟨b1,b2,b3,b4,⟨⟩⟩:=b;have e1:Kd.eqv (.arr 32 (.int .u8)) a2 b2=decide (a2=b2):=B7 ha.hash.1 hb.hash.1;have e2:Kd.eqv (.arr 32 (.int .u8)) a4 b4=decide (a4=b4):=B7 ha.value.1 hb.value.1;show ((a1==b1)&&(Kd.eqv (.arr 32 (.int .u8)) a2 b2&&((a3==b3)&&(Kd.eqv (.arr 32 (.int .u8)) a4 b4&&true))))=_;rw [e1,e2]
 by_cases h1:a1=b1
 ·by_cases h2:a2=b2
  ·by_cases h3:a3=b3
   ·by_cases h4:a4=b4
    ·simp [h1,h2,h3,h4]
    ·simp [h4]
   ·simp [h3]
  ·simp [h2]
 ·simp [h1]
def Fu (f:Nat→Bool):Nat→Nat→Bool
 | 0,_=>true
 | d+1,i=>f i&&Fu f d (i+1)
theorem Fc {f:Nat→Bool}:∀{d i:Nat},Fu f d i=true↔∀j,i≤j→j<i+d→f j=true
 | 0,i=>⟨fun _ j h1 h2=>by omega,fun _=>rfl⟩
 | d+1,i=>by
  simp only [Fu,Bool.and_eq_true,Fc (d:=d)];constructor
  ·rintro ⟨h1,h2⟩ j h3 h4
   by_cases e:j=i
   ·subst e; exact h1
   ·exact h2 j (by omega) (by omega)
  ·intro h
   exact ⟨h i (by omega) (by omega),fun j h1 h2=>h j (by omega) (by omega)⟩
def Q1 (c:Cm):Bool:=decide (0≤c.1)&&match c.2.2.1 with
 | true=>decide (SHA c.2.2.2.1=c.2.1)
 | false=>decide (c.2.2.2.1=Hd)
def Do (l:List Cm) (i:Nat):Bool:=Q1 (l.getD i zC)&&(Nat.beq i 0||decide ((l.getD (i - 1) zC).1<(l.getD i zC).1))
def Iv (l:List Cm):Bool:=Fu (Do l) l.length 0
theorem zgk (x:List Int):(SHA x).length=32:=by
 exact (Vz x).1
theorem F182_eq (R:Type) {c:Cm} (h:CmOK c) (k:Bool→Option R):F182 R c k=k (Q1 c):=by
 obtain ⟨a1,a2,a3,a4,⟨⟩⟩:=c;simp only [F182,p182,Q1];have hv:H32 a4:=h.value;have hh:H32 a2:=h.hash
 by_cases h0:(0:Int)≤a1
 ·have hd:decide (a1≥(0:Int))=true:=decide_eq_true h0
  have hd':decide ((0:Int)≤a1)=true:=decide_eq_true h0;simp only [hd,hd',Bool.true_and];cases a3 with
  | true=>
   simp only;rw [zoz R hv,B7 (zgk _) hh.1]
  | false=>
   simp only;rw [show List.replicate 32 (0:Int)=Hd from rfl,B7 hv.1 A5.1]
 ·have hd:decide (a1≥(0:Int))=false:=decide_eq_false h0
  have hd':decide ((0:Int)≤a1)=false:=decide_eq_false h0;simp only [hd,hd',Bool.false_and];cases a3<;>rfl
theorem zms (R:Type) {l:List Cm} (h:CsOK l) (hn:l.length≤1000) (k0:Bool→Option R) (k1:Option R):∀(m i:Nat),i≤l.length→l.length - i<m→
  P8 m R l l (l.length:Int) (i:Int) k0 k1=match Fu (Do l) (l.length - i) i with | true=>k1 | false=>k0 false
 | 0,i,_,h=>by omega
 | m+1,i,h1,h2=>by
  simp only [P8,zh9]
  by_cases hi:i<l.length
  ·have hd:decide ((i:Int)<(l.length:Int))=true:=by simpa using hi
   have hbn:bnd (i:Int) (l.length:Int)=true:=by unfold bnd; simp; omega
   have ih:=zms R h hn k0 k1 m (i+1) (by omega) (by omega);have hw:IntKind.i64.wrap ((i:Int)+1)=((i+1:Nat):Int):=by rw [wrap_i64 (by omega) (by omega)]; omega
   simp only [hd,hbn,Int.toNat_natCast];rw [F182_eq R (h.get i),hw,show l.length - i=(l.length - (i+1))+1 by omega];simp only [Fu];cases hr:Q1 (l.getD i zC) with
   | false=>
    have e2:Do l i=false:=by simp only [Do,hr,Bool.false_and]
    simp only [e2,Bool.false_and,Bool.not_false]
   | true=>
    simp only [Bool.not_true]
    by_cases h0:i=0
    ·subst h0
     have e1:decide (((0:Nat):Int)>0)=false:=by simp
     have e2:Do l 0=true:=by simp [Do]; exact hr
     simp only [e1,e2,Bool.true_and];exact ih
    ·have e1:decide ((i:Int)>0)=true:=decide_eq_true (by omega)
     have e3:IntKind.i64.wrap ((i:Int) - 1)=((i - 1:Nat):Int):=by rw [wrap_i64 (by omega) (by omega)]; omega
     have e4:bnd ((i - 1:Nat):Int) (l.length:Int)=true:=by unfold bnd; simp; omega
     have e5:Nat.beq i 0=false:=by
      cases hb:Nat.beq i 0 with
      | false=>rfl
      | true=>exact absurd (Nat.eq_of_beq_eq_true hb) h0
     simp only [e1,e3,e4,Int.toNat_natCast]
     by_cases hlt:(l.getD (i - 1) zC).1<(l.getD i zC).1
     ·have e6:decide ((l.getD (i - 1) zC).1≥(l.getD i zC).1)=false:=decide_eq_false (by omega)
      have e2:Do l i=true:=by simp only [Do,hr,e5,decide_eq_true hlt,Bool.or_true,Bool.and_self]
      simp only [e6,e2,Bool.true_and];exact ih
     ·have e6:decide ((l.getD (i - 1) zC).1≥(l.getD i zC).1)=true:=decide_eq_true (by omega)
      have e2:Do l i=false:=by simp only [Do,hr,e5,decide_eq_false hlt,Bool.or_self,Bool.and_false]
      simp only [e6,e2,Bool.false_and]
  ·have:i=l.length:=by omega
   subst this;have hd:decide ((l.length:Int)<(l.length:Int))=false:=by simp
   simp only [hd,Nat.sub_self,Fu]
theorem zb2 (R:Type) {l:List Cm} (h:CsOK l) (hn:l.length≤1000) (k:Bool→Option R):F147 R l k=k (Iv l):=by
 simp only [F147,p147];refine (zms R h hn (fun x2=>k x2) (k true) FUEL 0 (by omega) (by rw [Ak]; omega)).trans ?_;unfold Iv;rw [Nat.sub_zero];cases Fu (Do l) l.length 0<;>rfl
end Go.PG
namespace Go.PG
theorem Bg {i n:Nat} (h:i<n) (hn:n≤1000):IntKind.i64.wrap ((i:Int)+1)=((i+1:Nat):Int):=by rw [wrap_i64 (by omega) (by omega)]; omega
theorem A0 {i n:Nat} (h:i<n):bnd (i:Int) (n:Int)=true:=by unfold bnd; simp; omega
theorem C8 {i n:Nat} (h:i<n):decide ((i:Int)<(n:Int))=true:=by simpa using h
theorem Cp (n:Nat):decide ((n:Int)<(n:Int))=false:=by simp
structure zd0 (l:List Cm):Prop where
 each:∀c∈l,Q1 c=true
 ord:∀i j,i<j→j<l.length→(l.getD i zC).1<(l.getD j zC).1
theorem zud {l:List Cm} {i:Nat} (h:i<l.length):l.getD i zC∈l:=by
 rw [List.getD_eq_getElem?_getD,List.getElem?_eq_getElem h]; exact List.getElem_mem h
theorem zsh {l:List Cm} {c:Cm} (h:c∈l):∃i,i<l.length∧l.getD i zC=c:=by
 obtain ⟨i,hi,e⟩:=List.getElem_of_mem h;exact ⟨i,hi,by rw [List.getD_eq_getElem?_getD,List.getElem?_eq_getElem hi]; exact e⟩
theorem Q0 {l:List Cm}:Iv l=true↔zd0 l:=by
 unfold Iv;rw [Fc];constructor
 ·intro h
  have hat:∀i,i<l.length→Q1 (l.getD i zC)=true∧(i=0∨(l.getD (i - 1) zC).1<(l.getD i zC).1):=by
   intro i hi;have:=h i (by omega) (by omega);simp only [Do,Bool.and_eq_true,Bool.or_eq_true,decide_eq_true_eq] at this;refine ⟨this.1,?_⟩;rcases this.2 with h1 | h1
   ·exact .inl (Nat.eq_of_beq_eq_true h1)
   ·exact .inr h1
  refine ⟨fun c hc=>?_,fun i j hij hj=>?_⟩
  ·obtain ⟨i,hi,rfl⟩:=zsh hc
   exact (hat i hi).1
  ·induction j with
   | zero=>omega
   | succ j ih=>
    have h1:=(hat (j+1) hj).2;rcases h1 with h1 | h1
    ·omega
    ·rw [Nat.add_sub_cancel] at h1
     by_cases e:i=j
     ·subst e; exact h1
     ·have:=ih (by omega) (by omega)
      omega
 ·intro h j _ hj
  simp only [Do,Bool.and_eq_true,Bool.or_eq_true,decide_eq_true_eq];refine ⟨h.each _ (zud (by omega)),?_⟩
  by_cases e:j=0
  ·subst e; exact .inl rfl
  ·exact .inr (h.ord _ _ (by omega) (by omega))
def B6:List Cm→Int→Nat
 | [],_=>0
 | c::l,w=>if c.1<w then B6 l w+1 else 0
theorem Ov:∀(l:List Cm) (w:Int),B6 l w≤l.length
 | [],_=>Nat.le_refl _
 | c::l,w=>by
  have:=Ov l w;simp only [B6,List.length_cons];split<;>omega
theorem zg6:∀(l:List Cm) (w:Int) (i:Nat),i<B6 l w→(l.getD i zC).1<w
 | [],_,i,h=>by simp [B6] at h
 | c::l,w,i,h=>by
  simp only [B6] at h;split at h
  ·rename_i hc
   cases i with
   | zero=>simpa using hc
   | succ i=>have:=zg6 l w i (by omega); simpa using this
  ·omega
theorem zg8:∀(l:List Cm) (w:Int),B6 l w<l.length→w≤(l.getD (B6 l w) zC).1
 | [],_,h=>by simp [B6] at h
 | c::l,w,h=>by
  simp only [B6] at h ⊢;split
  ·rename_i hc
   rw [if_pos hc] at h;have:=zg8 l w (by simpa using h);simpa using this
  ·rename_i hc; simp; omega
theorem zg7 {l:List Cm} (h:zd0 l) (w:Int) {i:Nat} (h1:B6 l w≤i) (h2:i<l.length):w≤(l.getD i zC).1:=by
 have:=zg8 l w (by omega)
 by_cases e:i=B6 l w
 ·rw [e]; exact this
 ·have:=h.ord (B6 l w) i (by omega) h2
  omega
def Of (l:List Cm) (w:Int):Bool:=decide (B6 l w<l.length)&&decide ((l.getD (B6 l w) zC).1=w)
theorem zei (R:Type) (a b:Int) (k:Int→Option R):F185 R a b k=k (if a<b then -1 else if a>b then 1 else 0):=by
 simp only [F185,p185,F223,p223,bne_self_eq_false]
 by_cases h:a<b
 ·simp only [decide_eq_true h,if_pos h]
 ·simp only [decide_eq_false h,if_neg h]
  by_cases h2:a>b
  ·simp only [decide_eq_true h2,if_pos h2]
  ·simp only [decide_eq_false h2,if_neg h2]
theorem zub {i j:Nat} (hi:i≤1000) (hj:j≤1000):IntKind.i64.wrap (ishr .u64 (IntKind.u64.wrap (IntKind.i64.wrap ((i:Int)+(j:Int)))) 1)=(((i+j)/2:Nat):Int):=by
 rw [wrap_i64 (n:=(i:Int)+(j:Int)) (by omega) (by omega),Ae (by omega) (by omega)];have:=zz9 (x:=(i:Int)+(j:Int)) 1 (by omega);rw [show ishr .u64 ((i:Int)+(j:Int)) 1=((i:Int)+(j:Int))/2^1 from this,wrap_i64 (by omega) (by omega)];omega
theorem M1 (R:Type) {l:List Cm} (h:zd0 l) (hn:l.length≤1000) (w:Int) (k0:List Cm→Int→Int→Int→Option R):∀(m i j:Nat),i≤B6 l w→B6 l w≤j→j≤l.length→j - i<m→
  A7 m R l w (l.length:Int) (i:Int) (j:Int) k0=k0 l w (l.length:Int) (B6 l w:Int)
 | 0,i,j,_,_,_,h=>by omega
 | m+1,i,j,h1,h2,h3,h4=>by
  simp only [A7,J5]
  by_cases hij:i<j
  ·have e1:=zub (i:=i) (j:=j) (by omega) (by omega)
   have hq:(i+j)/2<l.length:=by omega
   simp only [C8 hij,e1,A0 hq,Int.toNat_natCast,F184,p184];rw [zei]
   by_cases hp:(i+j)/2<B6 l w
   ·have hlt:=zg6 l w _ hp
    simp only [if_pos hlt,show decide ((-1:Int)<0)=true from rfl];rw [Bg (n:=l.length) hq hn];exact M1 R h hn w k0 m ((i+j)/2+1) j (by omega) h2 h3 (by omega)
   ·have hge:=zg7 h w (i:=(i+j)/2) (by omega) hq
    have hd:∀z:Int,0≤z→decide (z<0)=false:=fun z hz=>decide_eq_false (by omega)
    rw [hd _ (by rw [if_neg (Int.not_lt.2 hge)]; split<;>omega)];exact M1 R h hn w k0 m i ((i+j)/2) h1 (by omega) (by omega) (by omega)
  ·have e1:decide ((i:Int)<(j:Int))=false:=decide_eq_false (by omega)
   simp only [e1];rw [show i=B6 l w by omega]
theorem zo2 (R:Type) {l:List Cm} (h:zd0 l) (hn:l.length≤1000) (w:Int) (k:Int→Bool→Option R):F148 R l w k=k (B6 l w:Int) (Of l w):=by
 simp only [F148,p148,Dv,Xp];refine (M1 R h hn w _ FUEL 0 l.length (by omega) (Ov l w) (Nat.le_refl _) (by rw [Ak]; omega)).trans ?_;have hp:=Ov l w;unfold Of
 by_cases hlt:B6 l w<l.length
 ·simp only [C8 hlt,A0 hlt,Int.toNat_natCast,F184,p184,decide_eq_true hlt,Bool.true_and]
  rw [zei];have hge:=zg7 h w (Nat.le_refl _) hlt
  by_cases e:(l.getD (B6 l w) zC).1=w
  ·rw [if_neg (Int.not_lt.2 hge),if_neg (show ¬(l.getD (B6 l w) zC).1>w by omega),decide_eq_true e]; rfl
  ·rw [if_neg (Int.not_lt.2 hge),if_pos (show (l.getD (B6 l w) zC).1>w by omega),decide_eq_false e]; rfl
 ·have e1:decide ((B6 l w:Int)<(l.length:Int))=false:=decide_eq_false (by omega)
  simp only [e1,decide_eq_false hlt,Bool.false_and]
end Go.PG
namespace Go.PG
theorem zo1 (R:Type) {l:List Cm} (hn:l.length≤1000) (k:List Cm→Option R):F150 R l k=k l:=by
 have:decide (List.length ([]:List Cm)+l.length≤1759218604441)=true:=decide_eq_true (by simp; omega);simp only [F150,this]
def newC (w:Int) (h:List Int):Cm:=(w,h,false,Hd,())
def putL (l:List Cm) (w:Int) (h:List Int):List Cm:=l.take (B6 l w)++[newC w h]++l.drop (B6 l w)
def Ou (l:List Cm) (w:Int) (h:List Int):List Cm×Int:=
 if w<0∨Iv l=false then ([],1) else if Of l w then ([],6) else (putL l w h,0)
theorem F103_eq (R:Type) {l:List Cm} (h:CsOK l) (hn:l.length≤500) (w:Int) (x:List Int) (k:List Cm→Int→Option R):F103 R l w x k=k (Ou l w x).1 (Ou l w x).2:=by
 simp only [F103,p103,Ou]
 by_cases hw:w<0
 ·simp only [decide_eq_true hw,if_pos (Or.inl hw)]
 ·simp only [decide_eq_false hw]
  rw [zb2 R h (by omega)];cases hr:Iv l with
  | false=>simp only [Bool.not_false,or_true,if_true]
  | true=>
   have hn1:¬(w<0∨true=false):=by simp; omega
   simp only [Bool.not_true,if_neg hn1];rw [zo2 R (Q0.1 hr) (by omega)];cases ht:Of l w with
   | true=>simp only [if_true]
   | false=>
    have hp:=Ov l w;have hc:decide ((0:Int)≤(B6 l w:Int)∧(B6 l w:Int)≤(l.length:Int)∧l.length+1≤1759218604441)=true:=decide_eq_true ⟨by omega,by omega,by omega⟩;simp only [Bool.false_eq_true,if_false];rw [zo1 R (by omega)];simp only [List.length_cons,List.length_nil,Nat.zero_add,hc,Int.toNat_natCast];rfl
def setL (l:List Cm) (i:Nat) (v:List Int):List Cm:=l.set i ((l.getD i zC).1,(l.getD i zC).2.1,true,v,())
def revS (l:List Cm) (w:Int) (v:List Int):List Cm×Int:=
 if Iv l=false then ([],1) else if Of l w=false then ([],5) else if (l.getD (B6 l w) zC).2.2.1 then ([],6)
 else if SHA v=(l.getD (B6 l w) zC).2.1 then (setL l (B6 l w) v,0) else ([],13)
theorem zrm {l:List Cm} {i:Nat} (hi:i<l.length) (v:List Int):
  List.set (List.set l i ((List.getD l i zC).1,(List.getD l i zC).2.1,true,(List.getD l i zC).2.2.2)) i
   ((List.getD (List.set l i ((List.getD l i zC).1,(List.getD l i zC).2.1,true,(List.getD l i zC).2.2.2)) i zC).1,(List.getD (List.set l i ((List.getD l i zC).1,(List.getD l i zC).2.1,true,(List.getD l i zC).2.2.2)) i zC).2.1,(List.getD (List.set l i ((List.getD l i zC).1,(List.getD l i zC).2.1,true,(List.getD l i zC).2.2.2)) i zC).2.2.1,v,(List.getD (List.set l i ((List.getD l i zC).1,(List.getD l i zC).2.1,true,(List.getD l i zC).2.2.2)) i zC).2.2.2.2)=setL l i v:=by
 have e:List.getD (List.set l i ((List.getD l i zC).1,(List.getD l i zC).2.1,true,(List.getD l i zC).2.2.2)) i zC=((List.getD l i zC).1,(List.getD l i zC).2.1,true,(List.getD l i zC).2.2.2):=by
  rw [List.getD_eq_getElem?_getD,List.getElem?_set_self hi]; rfl
 rw [e,List.set_set];rfl
theorem F105_eq (R:Type) {l:List Cm} (h:CsOK l) (hn:l.length≤500) (w:Int) {v:List Int} (hv:H32 v) (k:List Cm→Int→Option R):F105 R l w v k=k (revS l w v).1 (revS l w v).2:=by
 simp only [F105,p105,revS];rw [zb2 R h (by omega)];cases hr:Iv l with
 | false=>simp only [Bool.not_false,if_pos]
 | true=>
  simp only [Bool.not_true,Bool.true_eq_false,if_false];rw [zo2 R (Q0.1 hr) (by omega)];cases ht:Of l w with
  | false=>simp only [Bool.not_false,if_pos]
  | true=>
   have hp:B6 l w<l.length:=by
    unfold Of at ht;rw [Bool.and_eq_true] at ht;exact of_decide_eq_true ht.1
   simp only [Bool.not_true,Bool.true_eq_false,if_false,A0 hp,Int.toNat_natCast];cases hd:(l.getD (B6 l w) zC).2.2.1 with
   | true=>simp only [if_pos]
   | false=>
    simp only [Bool.false_eq_true,if_false];rw [zoz R hv,B7 (zgk v) (h.get _).hash.1]
    by_cases hs:SHA v=(l.getD (B6 l w) zC).2.1
    ·simp only [decide_eq_true hs,Bool.not_true,if_pos hs]
     rw [zo1 R (by omega)];have hq:B6 l w<(List.set l (B6 l w) ((List.getD l (B6 l w) zC).1,(List.getD l (B6 l w) zC).2.1,true,(List.getD l (B6 l w) zC).2.2.2)).length:=by rw [List.length_set]; exact hp
     simp only [A0 hp,A0 hq,zrm hp]
    ·simp only [decide_eq_false hs,Bool.not_false,if_neg hs]
end Go.PG
namespace Go.PG
theorem zmw (R:Type) {a b:List Cm} (ha:CsOK a) (hb:CsOK b) (hl:a.length=b.length) (hn:a.length≤1000) (k0:Bool→Option R) (k1:Option R):∀(m i:Nat),i≤a.length→a.length - i<m→
  Qe m R a b (a.length:Int) (i:Int) k0 k1=if a.drop i=b.drop i then k1 else k0 false
 | 0,i,_,h=>by omega
 | m+1,i,h1,h2=>by
  simp only [Qe,zii]
  by_cases hi:i<a.length
  ·have hib:i<b.length:=by omega
   have ih:=zmw R ha hb hl hn k0 k1 m (i+1) (by omega) (by omega);simp only [C8 hi,A0 hi,A0 hib,Int.toNat_natCast,Bg hi hn];rw [eqvC (ha.get i) (hb.get i),ih,List.drop_eq_getElem_cons hi,List.drop_eq_getElem_cons hib];have g1:a.getD i zC=a[i]:=by simp [hi]
   have g2:b.getD i zC=b[i]:=by simp [hib]
   rw [g1,g2]
   by_cases e:a[i]=b[i]
   ·simp only [decide_eq_true e,Bool.not_true]
    simp only [e,List.cons.injEq,true_and]
   ·simp only [decide_eq_false e,Bool.not_false]
    simp only [List.cons.injEq,e,false_and,if_false]
  ·have:i=a.length:=by omega
   subst this;simp only [Cp];rw [List.drop_length,hl,List.drop_length,if_pos rfl]
theorem F85_eq (R:Type) {a b:List Cm} (ha:CsOK a) (hb:CsOK b) (hn:a.length≤1000) (k:Bool→Option R):F85 R a b k=k (decide (a=b)):=by
 simp only [F85,p85,F127,p127]
 by_cases hl:a.length=b.length
 ·have e:((a.length:Int) !=(b.length:Int))=false:=by simp [hl]
  simp only [e];refine (zmw R ha hb hl hn (fun x4=>k x4) (k true) FUEL 0 (by omega) (by rw [Ak]; omega)).trans ?_;rw [List.drop_zero,List.drop_zero]
  by_cases h:a=b
  ·rw [if_pos h,decide_eq_true h]
  ·rw [if_neg h,decide_eq_false h]
 ·have e:((a.length:Int) !=(b.length:Int))=true:=by simp; omega
  have h:a≠b:=fun h=>hl (by rw [h])
  simp only [e,decide_eq_false h]
def W8 (l:List Cm):List (List Int):=(l.filter (fun c=>c.2.2.1)).map (fun c=>c.2.2.2.1)
def mixS (l:List Cm):List Int:=zcb (W8 l)
def G8 (l:List Cm):List Int:=(l.filter (fun c=> !c.2.2.1)).map (fun c=>c.1)
theorem zrf {l:List Cm} (h:CsOK l):∀x∈W8 l,H32 x:=by
 intro x hx;obtain ⟨c,hc,rfl⟩:=List.mem_map.1 hx;exact (h c (List.mem_filter.1 hc).1).value
theorem ziw {l:List Cm} (h:CsOK l):H32 (mixS l):=zf9 (zrf h)
theorem zep (c:Cm) (l:List Cm):W8 (c::l)=match c.2.2.1 with | true=>c.2.2.2.1::W8 l | false=>W8 l:=by
 unfold W8;rw [List.filter_cons];cases c.2.2.1<;>rfl
theorem ze4 (c:Cm) (l:List Cm):G8 (c::l)=match c.2.2.1 with | true=>G8 l | false=>c.1::G8 l:=by
 unfold G8;rw [List.filter_cons];cases c.2.2.1<;>rfl
theorem zak (R:Type) {l:List Cm} (h:CsOK l) (hn:l.length≤1000) (k0:List Int→Option R):∀(m i:Nat) (x:List Int),H32 x→i≤l.length→l.length - i<m→
  P7 m R l (l.length:Int) (i:Int) x k0=k0 ((W8 (l.drop i)).foldl xorS x)
 | 0,i,_,_,_,h=>by omega
 | m+1,i,x,hx,h1,h2=>by
  simp only [P7,zh8]
  by_cases hi:i<l.length
  ·have g1:l.getD i zC=l[i]:=by simp [hi]
   have hc:=h.get i;rw [g1] at hc;simp only [C8 hi,A0 hi,Int.toNat_natCast,Bg hi hn];rw [show List.getD l i ((0:Int),(List.replicate 32 (0:Int)),false,(List.replicate 32 (0:Int)),())=l[i] from g1];rw [List.drop_eq_getElem_cons hi,zep];cases hb:l[i].2.2.1 with
   | true=>
    simp only;rw [F188_eq R (fun y hy=>by
     simp only [List.mem_cons,List.not_mem_nil,or_false] at hy;rcases hy with rfl | rfl
     ·exact hx
     ·exact hc.value) (by simp)]
    have e:zcb [x,l[i].2.2.2.1]=xorS x l[i].2.2.2.1:=by
     show xorS (xorS Hd x) _=_;rw [xor0 hx]
    rw [e];exact zak R h hn k0 m (i+1) _ (W2 hx hc.value) (by omega) (by omega)
   | false=>exact zak R h hn k0 m (i+1) _ hx (by omega) (by omega)
  ·have:i=l.length:=by omega
   subst this;simp only [Cp,List.drop_length];rfl
theorem zo0 (R:Type) {l:List Cm} (h:CsOK l) (hn:l.length≤1000) (k:List Int→Option R):F151 R l k=k (mixS l):=by
 simp only [F151,p151];exact zak R h hn (fun x2=>k x2) FUEL 0 Hd A5 (by omega) (by rw [Ak]; omega)
theorem ze3 {l:List Cm} {i:Nat} (hi:i<l.length):G8 (l.take (i+1))=G8 (l.take i)++G8 [l[i]]:=by
 unfold G8;rw [List.take_succ_eq_append_getElem hi,List.filter_append,List.map_append]
theorem zdc (l:List Cm):(G8 l).length≤l.length:=by
 unfold G8;rw [List.length_map];exact List.length_filter_le _ _
theorem zd8 (R:Type) {l:List Cm} (hn:l.length≤1000) (k0:List Int→Option R):∀(m i:Nat),i≤l.length→l.length - i<m→
  P4 m R l (l.length:Int) (i:Int) (G8 (l.take i)) k0=k0 (G8 l)
 | 0,i,_,h=>by omega
 | m+1,i,h1,h2=>by
  simp only [P4,zh1]
  by_cases hi:i<l.length
  ·have g1:l.getD i zC=l[i]:=by simp [hi]
   have ih:=zd8 R hn k0 m (i+1) (by omega) (by omega);simp only [C8 hi,A0 hi,Int.toNat_natCast,Bg hi hn];rw [show List.getD l i ((0:Int),(List.replicate 32 (0:Int)),false,(List.replicate 32 (0:Int)),())=l[i] from g1];rw [ze3 hi,ze4] at ih;have hle:=zdc (l.take i);have hc:decide ((G8 (l.take i)).length+1≤17592186044416)=true:=decide_eq_true (by simp at hle; omega);have e:G8 ([]:List Cm)=[]:=rfl;cases hb:l[i].2.2.1 with
   | true=>
    rw [hb] at ih;simp only [e,List.append_nil] at ih;exact ih
   | false=>
    rw [hb] at ih;simp only [List.length_cons,List.length_nil,Nat.zero_add,Bool.not_false,hc];exact ih
  ·have:i=l.length:=by omega
   subst this;simp only [Cp,List.take_length]
theorem zv3 (R:Type) {l:List Cm} (hn:l.length≤1000) (k:List Int→Option R):F191 R l k=k (G8 l):=by
 simp only [F191,p191];exact zd8 R hn (fun x2=>k x2) FUEL 0 (by omega) (by rw [Ak]; omega)
end Go.PG
namespace Go.PG
theorem newC_ok {w:Int} (hw:I64 w) {h:List Int} (hh:H32 h):CmOK (newC w h):=⟨hw,hh,A5⟩
theorem putL_ok {l:List Cm} (hl:CsOK l) {w:Int} (hw:I64 w) {h:List Int} (hh:H32 h):CsOK (putL l w h):=by
 intro c hc;unfold putL at hc;rcases List.mem_append.1 hc with h1 | h1
 ·rcases List.mem_append.1 h1 with h2 | h2
  ·exact hl c (List.mem_of_mem_take h2)
  ·simp only [List.mem_cons,List.not_mem_nil,or_false] at h2
   rw [h2]; exact newC_ok hw hh
 ·exact hl c (List.mem_of_mem_drop h1)
theorem zry (l:List Cm) (w:Int) (h:List Int):(putL l w h).length=l.length+1:=by
 have:=Ov l w;simp [putL]; omega
theorem Ur {l:List Cm} (hl:CsOK l) {w:Int} (hw:I64 w) {h:List Int} (hh:H32 h):CsOK (Ou l w h).1∧(Ou l w h).1.length≤l.length+1:=by
 unfold Ou;split
 ·exact ⟨fun c hc=>(by cases hc),by simp⟩
 ·split
  ·exact ⟨fun c hc=>(by cases hc),by simp⟩
  ·exact ⟨putL_ok hl hw hh,Nat.le_of_eq (zry l w h)⟩
theorem setL_ok {l:List Cm} (hl:CsOK l) (i:Nat) {v:List Int} (hv:H32 v):CsOK (setL l i v):=by
 intro c hc;rcases List.mem_or_eq_of_mem_set hc with h1 | h1
 ·exact hl c h1
 ·rw [h1]
  have:=hl.get i;exact ⟨this.who,this.hash,hv⟩
theorem zrp (l:List Cm) (i:Nat) (v:List Int):(setL l i v).length=l.length:=by unfold setL; exact List.length_set
theorem zgw {l:List Cm} (hl:CsOK l) (w:Int) {v:List Int} (hv:H32 v):CsOK (revS l w v).1∧(revS l w v).1.length≤l.length:=by
 have nil:CsOK []∧([]:List Cm).length≤l.length:=⟨fun c hc=>(by cases hc),by simp⟩
 unfold revS;split
 ·exact nil
 ·split
  ·exact nil
  ·split
   ·exact nil
   ·split
    ·exact ⟨setL_ok hl _ hv,Nat.le_of_eq (zrp _ _ _)⟩
    ·exact nil
end Go.PG
namespace Go.PG
end Go.PG
namespace Go.PG
end Go.PG
namespace Go.PG
theorem fit_i {x:Int} (h:Fit (.int .i64) x):I64 x:=by have:=fit_i64 h; unfold I64; omega
end Go.PG
namespace Go.PG
abbrev Bea:=Int×(List Int×(List Int×(List Cm×Unit)))
abbrev zB:Bea:=((0:Int),(List.replicate 32 (0:Int)),(List.replicate 32 (0:Int)),([]:List Cm),())
structure Ge (b:Bea):Prop where
 ep:0≤b.1∧b.1<18446744073709551616
 seed:H32 b.2.1
 mix:H32 b.2.2.1
 cs:CsOK b.2.2.2.1
theorem nilOK:CsOK []:=fun c hc=>(by cases hc)
theorem T0:Ge zB:=⟨by show (0:Int)≤0∧(0:Int)<18446744073709551616; omega,A5,A5,nilOK⟩
def Hv (b:Bea):Bool:=Iv b.2.2.2.1&&decide (mixS b.2.2.2.1=b.2.2.1)
theorem zo3 (R:Type) {b:Bea} (h:Ge b) (hn:b.2.2.2.1.length≤500) (k:Bool→Option R):F146 R b k=k (Hv b):=by
 simp only [F146,p146,Hv];rw [zb2 R h.cs (by omega)];cases Iv b.2.2.2.1 with
 | false=>simp only [Bool.false_and]
 | true=>
  simp only [Bool.true_and];rw [zo0 R h.cs (by omega),B7 (ziw h.cs).1 h.mix.1]
def Qn (b:Bea) (r:List Cm×Int):Bea×Int:=if r.2=0 then ((b.1,b.2.1,mixS r.1,r.1,()),0) else (zB,r.2)
def De (b:Bea) (ph w:Int) (h:List Int):Bea×Int:=
 if Hv b=false then (zB,1) else if ph=1 then Qn b (Ou b.2.2.2.1 w h) else (zB,7)
def Dd (b:Bea) (ph w:Int) (v:List Int):Bea×Int:=
 if Hv b=false then (zB,1) else if ph=2 then Qn b (revS b.2.2.2.1 w v) else (zB,7)
theorem zo9 (R:Type) (b:Bea) {l:List Cm} (h:CsOK l) (hn:l.length≤1000) (e:Int) (k:Bea→Int→Option R):F104 R b l e k=k (Qn b (l,e)).1 (Qn b (l,e)).2:=by
 simp only [F104,p104,Qn]
 by_cases he:e=0
 ·subst he
  simp only [show ((0:Int) !=0)=false from rfl,if_true];rw [zo0 R h hn]
 ·have:(e !=0)=true:=by simp [he]
  simp only [this,if_neg he]
theorem zpa (R:Type) {b:Bea} (h:Ge b) (hn:b.2.2.2.1.length≤500) (ph w:Int) (k:Int→Option R):F102 R b ph w k=k (if Hv b=false then 1 else if ph=w then 0 else 7):=by
 simp only [F102,p102];rw [zo3 R h hn];cases Hv b with
 | false=>simp only [Bool.not_false,if_true]
 | true=>
  simp only [Bool.not_true,Bool.true_eq_false,if_false]
  by_cases e:ph=w
  ·have:(ph !=w)=false:=by simp [e]
   simp only [this,if_pos e]
  ·have:(ph !=w)=true:=by simp [e]
   simp only [this,if_neg e]
theorem F56_eq (R:Type) {b:Bea} (h:Ge b) (hn:b.2.2.2.1.length≤400) (ph:Int) {w:Int} (hw:I64 w) {x:List Int} (hx:H32 x) (k:Bea→Int→Option R):F56 R b ph w x k=k (De b ph w x).1 (De b ph w x).2:=by
 simp only [F56,p56,De];rw [zpa R h (by omega)];cases Hv b with
 | false=>simp only [if_true,show ((1:Int) !=0)=true from rfl]
 | true=>
  simp only [Bool.true_eq_false,if_false]
  by_cases e:ph=1
  ·simp only [if_pos e,show ((0:Int) !=0)=false from rfl]
   obtain ⟨p1,p2⟩:=Ur h.cs hw hx;rw [F103_eq R h.cs (by omega),zo9 R b p1 (by omega)]
  ·simp only [if_neg e,show ((7:Int) !=0)=true from rfl]
theorem F58_eq (R:Type) {b:Bea} (h:Ge b) (hn:b.2.2.2.1.length≤400) (ph w:Int) {x:List Int} (hx:H32 x) (k:Bea→Int→Option R):F58 R b ph w x k=k (Dd b ph w x).1 (Dd b ph w x).2:=by
 simp only [F58,p58,Dd];rw [zpa R h (by omega)];cases Hv b with
 | false=>simp only [if_true,show ((1:Int) !=0)=true from rfl]
 | true=>
  simp only [Bool.true_eq_false,if_false]
  by_cases e:ph=2
  ·simp only [if_pos e,show ((0:Int) !=0)=false from rfl]
   obtain ⟨p1,p2⟩:=zgw h.cs w hx;rw [F105_eq R h.cs (by omega) _ hx,zo9 R b p1 (by omega)]
  ·simp only [if_neg e,show ((7:Int) !=0)=true from rfl]
abbrev Fol:=Int×(List Int×(List Int×(List Int×Unit)))
abbrev zF:Fol:=((0:Int),(List.replicate 32 (0:Int)),(List.replicate 32 (0:Int)),(List.replicate 32 (0:Int)),())
def bEnd (b:Bea):Bea×Fol×List Int×Int:=
 if Hv b=false then (zB,zF,[],1) else if b.1=18446744073709551615 then (zB,zF,[],3)
 else ((b.1+1,Xd b.2.1 b.1 b.2.2.1,Hd,[],()),(b.1,b.2.1,b.2.2.1,Xd b.2.1 b.1 b.2.2.1,()),G8 b.2.2.2.1,0)
theorem F153_eq (R:Type) {b:Bea} (h:Ge b) (hn:b.2.2.2.1.length≤400) (k:Bea→Fol→List Int→Int→Option R):F153 R b k=k (bEnd b).1 (bEnd b).2.1 (bEnd b).2.2.1 (bEnd b).2.2.2:=by
 simp only [F153,p153,bEnd];rw [zo3 R h (by omega)];cases Hv b with
 | false=>simp only [if_true,Bool.not_false]
 | true=>
  simp only [Bool.true_eq_false,if_false,Bool.not_true];have hep:=h.ep
  by_cases e:b.1=18446744073709551615
  ·have e1:(b.1==18446744073709551615)=true:=by simp [e]
   simp only [if_pos e,e1]
  ·have e1:(b.1==18446744073709551615)=false:=by simp [e]
   simp only [if_neg e,e1];rw [F190_eq R h.seed h.mix,zv3 R (by omega),Ae (by omega) (by omega)];rfl
def zfk (a b:Bea):Bool:=a.1==b.1&&(decide (a.2.1=b.2.1)&&(decide (a.2.2.1=b.2.2.1)&&decide (a.2.2.2.1=b.2.2.2.1)))
theorem zfj (a:Bea):zfk a a=true:=by simp [zfk]
theorem F40_eq (R:Type) {a b:Bea} (ha:Ge a) (hb:Ge b) (hn:a.2.2.2.1.length≤1000) (k:Bool→Option R):F40 R a b k=k (zfk a b):=by
 simp only [F40,p40,zfk];rw [ B7 ha.seed.1 hb.seed.1,B7 ha.mix.1 hb.mix.1];cases (a.1==b.1) with
 | false=>simp only [Bool.false_and]
 | true=>
  simp only [Bool.true_and];cases decide (a.2.1=b.2.1) with
  | false=>simp only [Bool.false_and]
  | true=>
   simp only [Bool.true_and];cases decide (a.2.2.1=b.2.2.1) with
   | false=>simp only [Bool.false_and]
   | true=>
    simp only [Bool.true_and];rw [F85_eq R ha.cs hb.cs hn]
theorem zcd {b:Bea} (h:Ge b) {r:List Cm×Int} (hr:CsOK r.1) {n:Nat} (hn:r.1.length≤n):Ge (Qn b r).1∧(Qn b r).1.2.2.2.1.length≤n:=by
 unfold Qn;split
 ·exact ⟨⟨h.ep,h.seed,ziw hr,hr⟩,hn⟩
 ·exact ⟨T0,Nat.zero_le _⟩
theorem zft {b:Bea} (h:Ge b) (ph:Int) {w:Int} (hw:I64 w) {x:List Int} (hx:H32 x):Ge (De b ph w x).1∧(De b ph w x).1.2.2.2.1.length≤b.2.2.2.1.length+1:=by
 obtain ⟨p1,p2⟩:=Ur h.cs hw hx;unfold De;split
 ·exact ⟨T0,Nat.zero_le _⟩
 ·split
  ·exact zcd h p1 p2
  ·exact ⟨T0,Nat.zero_le _⟩
theorem zfr {b:Bea} (h:Ge b) (ph w:Int) {x:List Int} (hx:H32 x):Ge (Dd b ph w x).1∧(Dd b ph w x).1.2.2.2.1.length≤b.2.2.2.1.length:=by
 obtain ⟨p1,p2⟩:=zgw h.cs w hx;unfold Dd;split
 ·exact ⟨T0,Nat.zero_le _⟩
 ·split
  ·exact zcd h p1 p2
  ·exact ⟨T0,Nat.zero_le _⟩
theorem zct (a:List Int) (e:Int) (b:List Int):H32 (Xd a e b):=Vz _
theorem bEnd_ok {b:Bea} (h:Ge b):Ge (bEnd b).1∧(bEnd b).1.2.2.2.1.length=0:=by
 unfold bEnd;split
 ·exact ⟨T0,rfl⟩
 ·split
  ·exact ⟨T0,rfl⟩
  ·have:=h.ep
   exact ⟨⟨⟨by show (0:Int)≤b.1+1; omega,by show b.1+1<(18446744073709551616:Int); omega⟩,zct _ _ _,A5,nilOK⟩,rfl⟩
end Go.PG
namespace Go.PG
abbrev bV:List Int:=List.set (List.replicate 32 (0:Int)) 0 (7:Int)
theorem zk8:H32 bV:=⟨rfl,by unfold AllU8 U8; decide⟩
theorem zla (b:Bea):(bEnd b).2.2.1.length≤b.2.2.2.1.length:=by
 unfold bEnd;split
 ·exact Nat.zero_le _
 ·split
  ·exact Nat.zero_le _
  ·exact zdc _
end Go.PG
namespace Go.PG
end Go.PG
namespace Go.PG
end Go.PG
namespace Go.PG
theorem zjv {x b:Int} (hx:U32 x) (hb:U32 b):ior .u64 (ishl .u64 x 32) b=x*4294967296+b:=by
 unfold U32 at hx hb;obtain ⟨n,rfl⟩:∃n:Nat,x=n:=⟨x.toNat,by omega⟩
 obtain ⟨c,rfl⟩:∃c:Nat,b=c:=⟨b.toNat,by omega⟩
 have e2:ishl .u64 (n:Int) 32=((n*4294967296:Nat):Int):=by
  unfold ishl;rw [show (2:Int)^(min (32:Int).toNat IntKind.u64.bits)=4294967296 by decide,Ae (by omega) (by omega)];simp
 rw [e2,Zj,BitVec.ofInt_natCast,BitVec.ofInt_natCast,BitVec.toNat_or,BitVec.toNat_ofNat,BitVec.toNat_ofNat,Nat.mod_eq_of_lt (by omega),Nat.mod_eq_of_lt (by omega)];have h6:=Nat.shiftLeft_add_eq_or_of_lt (i:=32) (b:=c) (by omega) n;rw [Nat.shiftLeft_eq] at h6;rw [show n*4294967296=n*2^32 by rfl,←h6];simp
theorem F197_eq (R:Type) {a b:Int} (ha:U32 a) (hb:U32 b) (k:Int→Option R):F197 R a b k=k (a*4294967296+b):=by
 have u:=ha; have v:=hb;unfold U32 at u v;simp only [F197,p197];rw [Ae (n:=a) (by omega) (by omega),Ae (n:=b) (by omega) (by omega),zjv ha hb]
theorem F133_eq (R:Type) {a b:Int} (ha:U32 a) (hb:U32 b) (k:Int→Option R):F133 R a b k=k (a*4294967296+b):=by
 have u:=ha; have v:=hb;unfold U32 at u v;simp only [F133,p133];rw [Ae (n:=a) (by omega) (by omega),Ae (n:=b) (by omega) (by omega),Ae (n:=a*4294967296) (by omega) (by omega),Ae (by omega) (by omega)]
end Go.PG
namespace Go.PG
abbrev Src:=Int×(List Int×(Int×(List Int×(Int×(Int×Unit)))))
abbrev Rdr:=Src×(List Int×(Int×(Bool×Unit)))
def atS (s:Src):Int:=s.2.2.2.2.2.1
def Bx (s:Src) (n:Int):Src:=(s.1,s.2.1,s.2.2.1,s.2.2.2.1,s.2.2.2.2.1,n,())
structure SOK (s:Src):Prop where
 tape:AllU8 s.2.1
 len:s.2.1.length≤1000000
 bits:U64 s.2.2.1
 seed:H32 s.2.2.2.1
 dom:U64 s.2.2.2.2.1
 at_:U64 s.2.2.2.2.2.1
theorem SOK.set {s:Src} (h:SOK s) {n:Int} (hn:U64 n):SOK (Bx s n):=⟨h.tape,h.len,h.bits,h.seed,h.dom,hn⟩
def A2 (s:Src):Bool:=if s.1=1 then decide (s.2.2.1≤8*(s.2.1.length:Int)∧s.2.2.2.2.2.1≤s.2.2.1) else decide (s.1=2∧s.2.2.2.2.2.1≤4611686018427387904)
def endS (s:Src):Int:=if s.1=1 then s.2.2.1 else 4611686018427387904
def Dh (s:Src):Int:=if A2 s=true then endS s - s.2.2.2.2.2.1 else 0
def Lk (s:Src) (n:Int):Int:=if s.1=1 then s.2.1.getD (n/8).toNat 0/2^(7 - n % 8).toNat % 2 else bitS s.2.2.2.1 s.2.2.2.2.1 n
theorem zon (R:Type) {s:Src} (h:SOK s) (k:Int→Bool→Option R):F281 R s k=(if s.1=1 then k s.2.2.1 (decide (s.2.2.1≤8*(s.2.1.length:Int))) else if s.1=2 then k 4611686018427387904 true else k 0 false):=by
 have hl:=h.len;simp only [F281,p281];rw [Ae (n:=(s.2.1.length:Int)) (by omega) (by omega),Ae (n:=(s.2.1.length:Int)*8) (by omega) (by omega),Int.mul_comm]
 by_cases h1:s.1=1
 ·simp [h1]
 ·by_cases h2:s.1=2
  ·simp [h2]
  ·simp only [beq_eq_false_iff_ne.2 h1,beq_eq_false_iff_ne.2 h2,if_neg h1,if_neg h2]
theorem Tu (R:Type) {s:Src} (h:SOK s) (k:Bool→Option R):F266 R s k=k (A2 s):=by
 simp only [F266,p266];rw [zon R h];unfold A2
 by_cases h1:s.1=1
 ·simp only [h1,if_true]
  by_cases h2:s.2.2.1≤8*(s.2.1.length:Int)
  ·simp [h2]
  ·simp [h2]
 ·simp only [h1,if_false]
  by_cases h2:s.1=2
  ·simp [h2]
  ·simp [h2]
theorem zbz (R:Type) {s:Src} (h:SOK s) (k:Bool→Option R):F172 R s k=k (A2 s):=by
 have hl:=h.len;simp only [F172,p172];rw [Ae (n:=(s.2.1.length:Int)) (by omega) (by omega),Ae (n:=8*(s.2.1.length:Int)) (by omega) (by omega)];unfold A2
 by_cases h1:s.1=1
 ·simp only [h1,if_true]
  by_cases h2:s.2.2.1≤8*(s.2.1.length:Int)
  ·simp [h2]
  ·simp [h2]
 ·simp only [h1,if_false]
  by_cases h2:s.1=2
  ·simp [h2]
  ·simp only [beq_eq_false_iff_ne.2 h1,beq_eq_false_iff_ne.2 h2]
   simp [h2]
theorem Em {s:Src} (h:A2 s=true):(s.1=1∧s.2.2.1≤8*(s.2.1.length:Int)∧s.2.2.2.2.2.1≤s.2.2.1∧endS s=s.2.2.1)∨(s.1=2∧s.2.2.2.2.2.1≤4611686018427387904∧endS s=4611686018427387904):=by
 unfold A2 at h;unfold endS
 by_cases h1:s.1=1
 ·rw [if_pos h1] at h ⊢
  have:=of_decide_eq_true h;exact .inl ⟨h1,this.1,this.2,rfl⟩
 ·rw [if_neg h1] at h ⊢
  have:=of_decide_eq_true h;exact .inr ⟨this.1,this.2,rfl⟩
theorem La {s:Src} (hs:SOK s):0≤Dh s∧Dh s≤4611686018427387904∧(A2 s=true→s.2.2.2.2.2.1+Dh s=endS s):=by
 have h1:=hs.at_; have h2:=hs.bits; have h3:=hs.len;unfold U64 at h1 h2;unfold Dh
 by_cases h:A2 s=true
 ·rw [if_pos h]
  rcases Em h with ⟨_,a2,a3,a4⟩ | ⟨_,a2,a3⟩
  ·rw [a4]; omega
  ·rw [a3]; omega
 ·rw [if_neg h]
  exact ⟨by omega,by omega,fun e=>absurd e h⟩
theorem F277_eq (R:Type) {s:Src} (h:SOK s) (k:Int→Option R):F277 R s k=k (Dh s):=by
 have hl:=La h;simp only [F277,p277];rw [Tu R h,zon R h];unfold Dh at*
 by_cases hr:A2 s=true
 ·have hr':=hr
  simp only [hr,Bool.not_true,if_true] at hl ⊢;rcases Em hr' with ⟨a1,a2,a3,a4⟩ | ⟨a1,a2,a3⟩
  ·rw [if_pos a1,a4,Ae (by rw [a4] at hl; omega) (by rw [a4] at hl; omega)]
  ·rw [if_neg (by omega),if_pos a1,a3,Ae (by rw [a3] at hl; omega) (by rw [a3] at hl; omega)]
 ·simp only [Bool.not_eq_true] at hr
  simp [hr]
theorem F213_eq (R:Type) {s:Src} (h:SOK s) (k:Int→Option R):F213 R s k=k (Dh s):=by
 have hl:=La h;simp only [F213,p213];rw [zbz R h];unfold Dh at*
 by_cases hr:A2 s=true
 ·have hr':=hr
  simp only [hr,Bool.not_true,if_true] at hl ⊢;rcases Em hr' with ⟨a1,a2,a3,a4⟩ | ⟨a1,a2,a3⟩
  ·have e1:(s.1==1)=true:=by simp [a1]
   rw [e1,a4,Ae (by rw [a4] at hl; omega) (by rw [a4] at hl; omega)]
  ·have e1:(s.1==1)=false:=by simp [a1]
   rw [e1,a3];simp only [];rw [Ae (n:=4611686018427387904 - s.2.2.2.2.2.1) (by rw [a3] at hl; omega) (by rw [a3] at hl; omega)]
 ·simp only [Bool.not_eq_true] at hr
  simp [hr]
theorem Pe (s:Src) (n:Int):0≤Lk s n∧Lk s n≤1:=by
 unfold Lk bitS;split<;>omega
theorem F214_eq (R:Type) {s:Src} (h:SOK s) {n:Int} (hn:U64 n) (hk:(s.1=1∧n<8*(s.2.1.length:Int))∨s.1=2) (k:Int→Option R):F214 R s n k=k (Lk s n):=by
 have hl:=h.len;have hn':=hn;unfold U64 at hn;simp only [F214,p214];unfold Lk;rcases hk with ⟨a1,a2⟩ | a1
 ·have e1:(s.1==2)=false:=by simp [a1]
  rw [e1,if_pos a1,Int.tdiv_eq_ediv_of_nonneg hn.1,Ae (n:=n/8) (by omega) (by omega)];have hb:bnd (n/8) (s.2.1.length:Int)=true:=by unfold bnd; simp; omega
  simp only [hb];have hu:U8 (s.2.1.getD (n/8).toNat 0):=Ar h.tape u8_0 _;generalize s.2.1.getD (n/8).toNat 0=x at*;unfold U8 at hu;rw [Cf (n:=x) (by omega) (by omega),Int.tmod_eq_emod_of_nonneg hn.1,wrap_i64 (n:=n % 8) (by omega) (by omega),wrap_i64 (n:=7 - n % 8) (by omega) (by omega),
   Tv R (x:=x) (by unfold U32; omega) (7 - n % 8).toNat (by omega) (by omega)]
  unfold shrS;have hq:0≤x/2^(7 - n % 8).toNat:=Int.ediv_nonneg hu.1 (Int.le_of_lt (Int.pow_pos (by decide)));rw [Int.tmod_eq_emod_of_nonneg hq,Ae (by omega) (by omega)]
 ·have e1:(s.1==2)=true:=by simp [a1]
  rw [e1,if_neg (by omega)];simp only [];rw [F246_eq R h.seed h.dom hn']
def RI (r:Rdr):Prop:=r.2.2.2.1=true→r.2.1=Ht r.1.2.2.2.1 r.1.2.2.2.2.1 r.2.2.1
theorem zjy {x:Int} (hx:U8 x):iand .u8 x 1=x % 2:=by
 unfold U8 at hx;obtain ⟨y,rfl⟩:∃y:Nat,x=y:=⟨x.toNat,by omega⟩
 have e:iand .u8 (y:Int) 1=((BitVec.ofInt 8 (y:Int)&&& BitVec.ofInt 8 ((1:Nat):Int)).toNat:Int):=zcc _;rw [e,BitVec.ofInt_natCast,BitVec.ofInt_natCast,BitVec.toNat_and,BitVec.toNat_ofNat,BitVec.toNat_ofNat,Nat.mod_eq_of_lt (by omega),Nat.mod_eq_of_lt (by omega),show (1:Nat)=2^1 - 1 by rfl,Nat.and_two_pow_sub_one_eq_mod];simp
theorem zgc (R:Type) (r:Rdr) {y:Int} (hy:U8 y) (hat:0≤atS r.1∧atS r.1<9000000000000000000) (q:List Int×(Int×(Bool×Unit))) (k:Int→Rdr→Option R):
  u278 R r y q k=k (y/2^(7 - atS r.1 % 8).toNat % 2) (Bx r.1 (atS r.1+1),q):=by
 unfold atS at*;simp only [u278];unfold Bx;generalize r.1.2.2.2.2.2.1=n at*;rw [Int.tmod_eq_emod_of_nonneg hat.1,Ae (n:=7 - n % 8) (by omega) (by omega),Ae (n:=n+1) (by omega) (by omega)];obtain ⟨m,hm⟩:∃m:Nat,7 - n % 8=m:=⟨(7 - n % 8).toNat,by omega⟩
 rw [hm,Int.toNat_natCast];have e8:ishr .u8 y (m:Int)=y/2^m:=by
  unfold ishr;rw [show IntKind.u8.bits=8 from rfl,Int.toNat_natCast,Nat.min_eq_left (by omega),Int.fdiv_eq_ediv_of_nonneg _ (by have:=two_pow_pos m; omega)]
 unfold U8 at hy;have hp:(0:Int)<2^m:=Int.pow_pos (by decide);have hq:0≤y/2^m∧y/2^m≤y:=⟨Int.ediv_nonneg hy.1 (by omega),Int.ediv_le_self _ hy.1⟩
 rw [e8,zjy (by unfold U8; omega),Ae (by omega) (by omega)]
theorem F278_eq (R:Type) {r:Rdr} (h:SOK r.1) (hi:RI r) (hk:(r.1.1=1∧atS r.1<8*(r.1.2.1.length:Int))∨r.1.1=2) (hat:atS r.1<9000000000000000000) (k:Int→Rdr→Option R):
  ∃q,RI (Bx r.1 (atS r.1+1),q)∧F278 R r k=k (Lk r.1 (atS r.1)) (Bx r.1 (atS r.1+1),q):=by
 have hl:=h.len;have ha:=h.at_;have hat':0≤atS r.1∧atS r.1<9000000000000000000:=⟨ha.1,hat⟩
 simp only [F278];show ∃q,RI (Bx r.1 (atS r.1+1),q)∧(F285 R r (IntKind.u64.wrap (Int.tdiv (atS r.1) 8)) fun y2 p3=>match decide (0≤IntKind.u64.wrap (7 - Int.tmod (atS r.1) 8)) with | true=>u278 R r y2 p3.2 k | false=>none)=_
 have hdc:decide (0≤IntKind.u64.wrap (7 - Int.tmod (atS r.1) 8))=true:=by
  rw [D2]; exact decide_eq_true (by omega)
 simp only [hdc];rw [Int.tdiv_eq_ediv_of_nonneg hat'.1,Ae (n:=atS r.1/8) (by omega) (by omega)];simp only [F285,p285];generalize hn:atS r.1=n at*;unfold Lk;rcases hk with ⟨a1,a2⟩ | a1
 ·have e1:(r.1.1==1)=true:=by simp [a1]
  have hb:bnd (n/8) (r.1.2.1.length:Int)=true:=by unfold bnd; simp; omega
  simp only [e1,hb];refine ⟨r.2,hi,?_⟩;rw [if_pos a1,zgc R r (Ar h.tape u8_0 _) (by rw [hn]; exact hat'),hn]
 ·have e1:(r.1.1==1)=false:=by simp [a1]
  simp only [e1];rw [if_neg (by omega),Int.tdiv_eq_ediv_of_nonneg (by omega),Ae (n:=n/8/32) (by omega) (by omega),Int.tmod_eq_emod_of_nonneg (by omega)];have hb:bnd (n/8 % 32) 32=true:=by unfold bnd; simp; omega
  have hbit:(Ht r.1.2.2.2.1 r.1.2.2.2.2.1 (n/8/32)).getD (n/8 % 32).toNat 0/2^(7 - n % 8).toNat % 2=bitS r.1.2.2.2.1 r.1.2.2.2.2.1 n:=by
   unfold bitS;rw [show n/8/32=n/256 by omega,show n/8 % 32=n % 256/8 by omega]
  have hu:=fun i=>Ar (Vl r.1.2.2.2.1 r.1.2.2.2.2.1 (n/8/32)).2 u8_0 i
  have go:∀q,u278 R r ((Ht r.1.2.2.2.1 r.1.2.2.2.2.1 (n/8/32)).getD (n/8 % 32).toNat 0) q k=k (bitS r.1.2.2.2.1 r.1.2.2.2.2.1 n) (Bx r.1 (n+1),q):=fun q=>by
   rw [zgc R r (hu _) (by rw [hn]; exact hat'),hn,hbit]
  have Hb:(F290 R r.1.2.2.2.1 r.1.2.2.2.2.1 (n/8/32) fun y5=>match bnd (n/8 % 32) 32 with
    | true=>u278 R r (y5.getD (n/8 % 32).toNat 0) (r.1,y5,n/8/32,true,r.2.2.2.2).2 k
    | false=>none)=k (bitS r.1.2.2.2.1 r.1.2.2.2.2.1 n) (Bx r.1 (n+1),(Ht r.1.2.2.2.1 r.1.2.2.2.2.1 (n/8/32),n/8/32,true,())):=by
   rw [F290_eq R h.seed];simp only [hb];exact go _
  cases hs:r.2.2.2.1 with
  | false=>
   simp only [Bool.not_false];exact ⟨_,fun _=>rfl,Hb⟩
  | true=>
   simp only [Bool.not_true]
   by_cases hne:n/8/32=r.2.2.1
   ·have e2:(n/8/32 !=r.2.2.1)=false:=by simp [hne]
    simp only [e2,hb];refine ⟨r.2,fun e=>hi e,?_⟩;have:=hi hs;rw [←hne] at this;rw [this];exact go _
   ·have e2:(n/8/32 !=r.2.2.1)=true:=by simp [hne]
    simp only [e2];exact ⟨_,fun _=>rfl,Hb⟩
end Go.PG
namespace Go.PG
def Hf (s:Src) (a:Int):Nat→Int
 | 0=>0
 | n+1=>2*Hf s a n+Lk s (a+n)
theorem Gi (s:Src) (a:Int):∀n:Nat,0≤Hf s a n∧Hf s a n<2^n
 | 0=>by simp [Hf]
 | n+1=>by
  have ih:=Gi s a n;have hb:=Pe s (a+n);simp only [Hf];rw [Int.pow_succ];omega
theorem zt5 {x b:Int} (hx:0≤x∧x<9223372036854775808) (hb:0≤b∧b≤1):ior .u64 (ishl .u64 x 1) b=2*x+b:=by
 obtain ⟨n,rfl⟩:∃n:Nat,x=n:=⟨x.toNat,by omega⟩
 obtain ⟨c,rfl⟩:∃c:Nat,b=c:=⟨b.toNat,by omega⟩
 have e2:ishl .u64 (n:Int) 1=((n*2:Nat):Int):=by
  unfold ishl;rw [show (2:Int)^(min (1:Int).toNat IntKind.u64.bits)=2 by decide,Ae (by omega) (by omega)];simp
 rw [e2,Zj,BitVec.ofInt_natCast,BitVec.ofInt_natCast,BitVec.toNat_or,BitVec.toNat_ofNat,BitVec.toNat_ofNat,Nat.mod_eq_of_lt (by omega),Nat.mod_eq_of_lt (by omega)];have h6:=Nat.shiftLeft_add_eq_or_of_lt (i:=1) (b:=c) (by omega) n;rw [Nat.shiftLeft_eq] at h6;rw [show n*2=n*2^1 by rfl,←h6];simp; omega
theorem Jy (s:Src) (x y:Int):Bx (Bx s x) y=Bx s y:=rfl
theorem atS_set (s:Src) (x:Int):atS (Bx s x)=x:=rfl
theorem zk6 (s:Src) (x n:Int):Lk (Bx s x) n=Lk s n:=rfl
theorem zmb (R:Type) {s:Src} (h:SOK s) {K:Nat} (hK:K≤64) (hk:(s.1=1∧atS s+K≤8*(s.2.1.length:Int))∨s.1=2) (hat:atS s+K<9000000000000000000) (x4:Src) (k0:Int→Src→Rdr→Option R):
  ∀(m i:Nat) (r:Rdr),i≤K→K - i<m→r.1=Bx s (atS s+i)→RI r→∃q,Nm m R (Hf s (atS s) i) (K:Int) (i:Int) x4 r k0=k0 (Hf s (atS s) K) x4 (Bx s (atS s+K),q)
 | 0,i,_,_,h,_,_=>by omega
 | m+1,i,r,h1,h2,hr,hi=>by
  simp only [Nm,zhn];have h0:=h.at_;unfold U64 at h0;have h0':0≤atS s:=h0.1
  by_cases hlt:i<K
  ·have hd:decide ((i:Int)<(K:Int))=true:=by simpa using hlt
   simp only [hd];have hra:atS r.1=atS s+i:=by rw [hr]; rfl
   have hlen:r.1.2.1=s.2.1:=by rw [hr]; rfl
   have hknd:r.1.1=s.1:=by rw [hr]; rfl
   obtain ⟨q,g1,g2⟩:=F278_eq R (r:=r) (by rw [hr]; exact h.set (by unfold U64; omega)) hi (by
    rw [hra,hlen,hknd];rcases hk with ⟨b1,b2⟩ | b1
    ·exact .inl ⟨b1,by omega⟩
    ·exact .inr b1) (by rw [hra]; omega) (fun y8 p9=>Nm m R (ior .u64 (ishl .u64 (Hf s (atS s) i) 1) y8) (K:Int) (IntKind.i64.wrap ((i:Int)+1)) x4 p9 k0)
   have hv:=Gi s (atS s) i;have hp:(2:Int)^i≤9223372036854775808:=by
    have:(2:Nat)^i≤2^63:=Nat.pow_le_pow_right (by omega) (by omega);have e:((2^i:Nat):Int)=(2:Int)^i:=by simp
    omega
   have hbt:Lk r.1 (atS r.1)=Lk s (atS s+i):=by rw [hra,hr]; rfl
   obtain ⟨q2,g3⟩:=zmb R h hK hk hat x4 k0 m (i+1) (Bx r.1 (atS r.1+1),q) (by omega) (by omega) (by
    show Bx r.1 (atS r.1+1)=_;rw [hra,hr,Jy]
    congr 1
    omega) g1
   refine ⟨q2,?_⟩;rw [g2,zt5 ⟨hv.1,by omega⟩ (Pe _ _),hbt,wrap_i64 (n:=(i:Int)+1) (by omega) (by omega)];exact g3
  ·have:i=K:=by omega
   subst this;have hd:decide ((i:Int)<(i:Int))=false:=by simp
   simp only [hd];refine ⟨r.2,?_⟩;rw [←hr]
def D8 (s:Src) (k:Int):Int×Src×Int:=
 if A2 s=true∧0≤k∧k≤64 then (if k≤Dh s then (Hf s (atS s) k.toNat,Bx s (atS s+k),0) else (0,s,8)) else (0,s,1)
theorem K5 {s:Src} (hs:SOK s) (hr:A2 s=true) {k:Nat} (hk:(k:Int)≤Dh s):((s.1=1∧atS s+k≤8*(s.2.1.length:Int))∨s.1=2)∧atS s+k<9000000000000000000:=by
 have hl:=La hs;have:=hl.2.2 hr;have hln:=hs.len;unfold atS;rcases Em hr with ⟨a1,a2,a3,a4⟩ | ⟨a1,a2,a3⟩
 ·rw [a4] at this
  exact ⟨.inl ⟨a1,by omega⟩,by omega⟩
 ·exact ⟨.inr a1,by omega⟩
theorem F263_eq (R:Type) {s:Src} (hs:SOK s) {n:Int} (k:Int→Src→Int→Option R):F263 R s n k=k (D8 s n).1 (D8 s n).2.1 (D8 s n).2.2:=by
 simp only [F263,p263];rw [Tu R hs];unfold D8
 by_cases hr:A2 s=true
 ·simp only [hr,Bool.not_true,true_and]
  by_cases h1:n<0
  ·rw [if_neg (by omega)]
   simp only [decide_eq_true h1]
  ·simp only [decide_eq_false h1]
   by_cases h2:n>64
   ·rw [if_neg (by omega)]
    simp only [decide_eq_true h2]
   ·rw [if_pos (by omega)]
    simp only [decide_eq_false h2];rw [Ae (n:=n) (by omega) (by omega),F277_eq R hs]
    by_cases h3:n>Dh s
    ·rw [if_neg (by omega)]
     simp only [decide_eq_true h3]
    ·rw [if_pos (by omega)]
     simp only [decide_eq_false h3];obtain ⟨m,rfl⟩:∃m:Nat,n=m:=⟨n.toNat,by omega⟩
     have hroom:=K5 hs hr (k:=m) (by omega);obtain ⟨q,g⟩:=zmb R hs (K:=m) (by omega) hroom.1 hroom.2 (0,[],0,List.replicate 32 0,0,0,()) (fun x7 x8 x9=>k x7 x9.1 0) FUEL 0 (s,List.replicate 32 0,0,false,()) (by omega) (by rw [Ak]; omega) (by simp only [Int.natCast_zero,Int.add_zero]; rfl) (fun e=>by cases e);refine g.trans ?_;rw [Int.toNat_natCast]
 ·simp only [Bool.not_eq_true] at hr
  simp [hr]
theorem zmo (R:Type) {s:Src} (h:SOK s) {K:Nat} (hK:K≤64) (hk:(s.1=1∧atS s+K≤8*(s.2.1.length:Int))∨s.1=2) (hat:atS s+K<9000000000000000000) (x5:Src) (k0:Int→Src→Src→Option R):
  ∀(m i:Nat),i≤K→K - i<m→Nu m R (K:Int) (Hf s (atS s) i) (i:Int) (Bx s (atS s+i)) x5 k0=k0 (Hf s (atS s) K) (Bx s (atS s+K)) x5
 | 0,i,_,h=>by omega
 | m+1,i,h1,h2=>by
  simp only [Nu,zh5];have h0:=h.at_;unfold U64 at h0;have h0':0≤atS s:=h0.1
  by_cases hlt:i<K
  ·have hd:decide ((i:Int)<(K:Int))=true:=by simpa using hlt
   have ih:=zmo R h hK hk hat x5 k0 m (i+1) (by omega) (by omega);simp only [hd];have hsi:SOK (Bx s (atS s+i)):=h.set (by unfold U64; omega);show (F214 R (Bx s (atS s+i)) (atS s+i) fun y8=>Nu m R (K:Int) (IntKind.u64.wrap (IntKind.u64.wrap (2*Hf s (atS s) i)+y8)) (IntKind.i64.wrap ((i:Int)+1)) (Bx (Bx s (atS s+i)) (IntKind.u64.wrap (atS s+i+1))) x5 k0)=_;rw [F214_eq R hsi (by unfold U64; omega) (by
    rcases hk with ⟨b1,b2⟩ | b1
    ·exact .inl ⟨b1,by
      show atS s+i<8*(s.2.1.length:Int);omega⟩
    ·exact .inr b1),zk6,Jy]
   have hv:=Gi s (atS s) i;have hp:(2:Int)^i≤9223372036854775808:=by
    have:(2:Nat)^i≤2^63:=Nat.pow_le_pow_right (by omega) (by omega);have e:((2^i:Nat):Int)=(2:Int)^i:=by simp
    omega
   have hb:=Pe s (atS s+i);rw [Ae (n:=2*Hf s (atS s) i) (by omega) (by omega),Ae (n:=2*Hf s (atS s) i+Lk s (atS s+i)) (by omega) (by omega),wrap_i64 (n:=(i:Int)+1) (by omega) (by omega),Ae (n:=atS s+i+1) (by omega) (by omega),show atS s+(i:Int)+1=atS s+((i+1:Nat):Int) by omega];exact ih
  ·have:i=K:=by omega
   subst this;have hd:decide ((i:Int)<(i:Int))=false:=by simp
   simp only [hd]
theorem F173_eq (R:Type) {s:Src} (hs:SOK s) {n:Int} (k:Int→Src→Int→Option R):F173 R s n k=k (D8 s n).1 (D8 s n).2.1 (D8 s n).2.2:=by
 simp only [F173,p173];rw [zbz R hs];unfold D8
 by_cases hr:A2 s=true
 ·simp only [hr,Bool.not_true,true_and]
  by_cases h1:n<0
  ·rw [if_neg (by omega)]
   simp only [decide_eq_true h1]
  ·simp only [decide_eq_false h1]
   by_cases h2:n>64
   ·rw [if_neg (by omega)]
    simp only [decide_eq_true h2]
   ·rw [if_pos (by omega)]
    simp only [decide_eq_false h2];rw [Ae (n:=n) (by omega) (by omega),F213_eq R hs]
    by_cases h3:n>Dh s
    ·rw [if_neg (by omega)]
     simp only [decide_eq_true h3]
    ·rw [if_pos (by omega)]
     simp only [decide_eq_false h3];obtain ⟨m,rfl⟩:∃m:Nat,n=m:=⟨n.toNat,by omega⟩
     have hroom:=K5 hs hr (k:=m) (by omega);have g:=zmo R hs (K:=m) (by omega) hroom.1 hroom.2 (0,[],0,List.replicate 32 0,0,0,()) (fun x7 x8 x9=>k x7 x8 0) FUEL 0 (by omega) (by rw [Ak]; omega);have e0:Bx s (atS s+((0:Nat):Int))=s:=by rw [Int.natCast_zero,Int.add_zero]; rfl
     rw [e0] at g;refine Eq.trans ?_ (g.trans ?_)
     ·rfl
     ·rw [Int.toNat_natCast]
 ·simp only [Bool.not_eq_true] at hr
  simp [hr]
end Go.PG
namespace Go.PG
def Ch (a:List Int) (d:Int):Src:=(2,[],0,a,d,0,())
theorem Ua {a:List Int} (ha:H32 a) {d:Int} (hd:U64 d):SOK (Ch a d):=⟨fun y hy=>by simp [Ch] at hy,by simp [Ch],by unfold U64 Ch; simp,ha,hd,by unfold U64 Ch; simp⟩
theorem F196_eq (R:Type) (a:List Int) (d:Int) (k:Src→Option R):F196 R a d k=k (Ch a d):=by
 simp only [F196,p196]; rfl
theorem zck {s:Src} {n:Nat} (hr:A2 s=true) (h1:n≤64) (h2:(n:Int)≤Dh s):D8 s n=(Hf s (atS s) n,Bx s (atS s+n),0):=by
 unfold D8;rw [if_pos ⟨hr,by omega,by omega⟩,if_pos h2,Int.toNat_natCast]
theorem zgv {s:Src} (hs:SOK s) (hr:A2 s=true) {k:Nat} (hk:(k:Int)≤Dh s):A2 (Bx s (atS s+k))=true∧Dh (Bx s (atS s+k))=Dh s - k:=by
 have hl:=(La hs).2.2 hr;have h0:0≤s.2.2.2.2.2.1:=hs.at_.1;have hR:A2 (Bx s (atS s+k))=true:=by
  unfold A2 atS;rcases Em hr with ⟨a1,a2,a3,a4⟩ | ⟨a1,a2,a3⟩
  ·rw [if_pos (show (Bx s (s.2.2.2.2.2.1+k)).1=1 from a1)]
   rw [a4] at hl;exact decide_eq_true ⟨a2,by show s.2.2.2.2.2.1+k≤s.2.2.1; omega⟩
  ·rw [if_neg (show ¬(Bx s (s.2.2.2.2.2.1+k)).1=1 by show ¬s.1=1; omega)]
   rw [a3] at hl;exact decide_eq_true ⟨a1,by show s.2.2.2.2.2.1+k≤_; omega⟩
 refine ⟨hR,?_⟩;have e:Dh (Bx s (atS s+k))=endS s - (s.2.2.2.2.2.1+k):=by
  unfold Dh;rw [if_pos hR];rfl
 rw [e];omega
end Go.PG
namespace Go.PG
def Fb:Nat→Nat→Nat
 | 0,_=>0
 | f+1,x=>if x=0 then 0 else Fb f (x/2)+1
theorem Rb:∀(f x:Nat),x<2^f→x<2^Fb f x∧(x≠0→2^(Fb f x - 1)≤x)∧Fb f x≤f
 | 0,x,h=>by simp at h; subst h; simp [Fb]
 | f+1,x,h=>by
  rw [Nat.pow_succ] at h;simp only [Fb]
  by_cases h0:x=0
  ·subst h0; simp
  ·rw [if_neg h0]
   obtain ⟨h1,h2,h3⟩:=Rb f (x/2) (by omega);refine ⟨?_,fun _=>?_,by omega⟩
   ·rw [Nat.pow_succ]; omega
   ·rw [Nat.add_sub_cancel]
    by_cases hx:x/2=0
    ·have e:Fb f (x/2)=0:=by
      rw [hx];cases f with
      | zero=>rfl
      | succ f=>simp [Fb]
     rw [e,Nat.pow_zero]; omega
    ·have:=h2 hx
     have hb:Fb f (x/2)≠0:=fun e=>by rw [e,Nat.pow_zero] at h1; omega
     obtain ⟨b,hb⟩:∃b,Fb f (x/2)=b+1:=⟨Fb f (x/2) - 1,by omega⟩
     rw [hb,Nat.add_sub_cancel] at this;rw [hb,Nat.pow_succ];omega
theorem zl8 (R:Type) (k0:Int→Option R):∀(f m x c:Nat),x<2^f→f≤64→f<m→c+f≤1000→Nk m R (x:Int) (c:Int) k0=k0 ((c+Fb f x:Nat):Int)
 | _,0,_,_,_,_,h,_=>by omega
 | 0,m+1,x,c,h,_,_,_=>by
  simp at h; subst h;simp only [Nk,zc0,Fb];rfl
 | f+1,m+1,x,c,h,hf,hm,hc=>by
  simp only [Nk,zc0,Fb];rw [Nat.pow_succ] at h
  by_cases h0:x=0
  ·subst h0
   simp
  ·have e:((x:Int) !=0)=true:=by simp [h0]
   have e2:ishr .u64 (x:Int) 1=((x/2:Nat):Int):=by
    have:=zz9 (x:=(x:Int)) 1 (by omega);refine this.trans ?_;omega
   simp only [e,if_neg h0];have ih:=zl8 R k0 f m (x/2) (c+1) (by omega) (by omega) (by omega) (by omega);rw [wrap_i64 (n:=(c:Int)+1) (by omega) (by omega),e2,show c+(Fb f (x/2)+1)=c+1+Fb f (x/2) by omega];exact ih
theorem zmk (R:Type) (k0:Int→Option R):∀(f m x c:Nat),x<2^f→f≤64→f<m→c+f≤1000→Nq m R (x:Int) (c:Int) k0=k0 ((c+Fb f x:Nat):Int)
 | _,0,_,_,_,_,h,_=>by omega
 | 0,m+1,x,c,h,_,_,_=>by
  simp at h; subst h;simp only [Nq,zc4,Fb];rfl
 | f+1,m+1,x,c,h,hf,hm,hc=>by
  simp only [Nq,zc4,Fb];have hx64:x<2^64:=Nat.lt_of_lt_of_le h (Nat.pow_le_pow_right (by omega) hf);rw [Nat.pow_succ] at h
  by_cases h0:x=0
  ·subst h0
   simp
  ·have e:decide ((x:Int)>0)=true:=decide_eq_true (by omega)
   have e2:IntKind.u64.wrap (Int.tdiv (x:Int) 2)=((x/2:Nat):Int):=by
    rw [Int.tdiv_eq_ediv_of_nonneg (by omega),Ae (by omega) (by omega)];omega
   simp only [e,if_neg h0,e2];have ih:=zmk R k0 f m (x/2) (c+1) (by omega) (by omega) (by omega) (by omega);rw [wrap_i64 (n:=(c:Int)+1) (by omega) (by omega),show c+(Fb f (x/2)+1)=c+1+Fb f (x/2) by omega];exact ih
def B0 (n:Int):Nat:=Fb 64 (n - 1).toNat
theorem ziv {n:Int} (hn:U64 n):B0 n≤64∧n≤2^B0 n∧(2≤n→1≤B0 n∧(2:Int)^(B0 n - 1)<n):=by
 unfold U64 at hn;obtain ⟨h1,h2,h3⟩:=Rb 64 (n - 1).toNat (by omega);unfold B0;generalize Fb 64 (n - 1).toNat=b at*;have e:∀j:Nat,((2^j:Nat):Int)=(2:Int)^j:=fun j=>by simp
 refine ⟨h3,?_,fun h=>⟨?_,?_⟩⟩
 ·rw [←e]; omega
 ·cases b with
  | zero=>rw [Nat.pow_zero] at h1; omega
  | succ b=>omega
 ·have:=h2 (by omega)
  rw [←e]; omega
theorem F264_eq (R:Type) {n:Int} (hn:U64 n) (k:Int→Option R):F264 R n k=k (B0 n:Int):=by
 have hn':=hn;unfold U64 at hn;simp only [F264,p264,F279,p279];have e:IntKind.u64.wrap ((if (1:Int)>n then (1:Int) else n) - 1)=((n - 1).toNat:Int):=by
  split
  ·rw [Ae (by omega) (by omega)]; omega
  ·rw [Ae (by omega) (by omega)]; omega
 rw [e];have:=zl8 R (fun x1=>k x1) 64 FUEL (n - 1).toNat 0 (by omega) (by omega) (by rw [Ak]; omega) (by omega);rw [Nat.zero_add] at this;exact this
theorem F174_eq (R:Type) {n:Int} (hn:U64 n) (k:Int→Option R):F174 R n k=k (B0 n:Int):=by
 have hn':=hn;unfold U64 at hn;simp only [F174,p174,F215,p215]
 by_cases h0:n=0
 ·subst h0; rfl
 ·have e0:(n==0)=false:=by simp [h0]
  simp only [e0];have e:IntKind.u64.wrap (n - 1)=((n - 1).toNat:Int):=by
   rw [Ae (by omega) (by omega)]; omega
  rw [e];have:=zmk R (fun x1=>k x1) 64 FUEL (n - 1).toNat 0 (by omega) (by omega) (by rw [Ak]; omega) (by omega);rw [Nat.zero_add] at this;exact this
def Cv (n:Int):Nat→Src→Int×Src×Int
 | 0,s=>(0,s,9)
 | m+1,s=>if (D8 s (B0 n)).2.2=0 then (if (D8 s (B0 n)).1<n then ((D8 s (B0 n)).1,(D8 s (B0 n)).2.1,0) else Cv n m (D8 s (B0 n)).2.1) else (0,s,(D8 s (B0 n)).2.2)
theorem Oh {s:Src} (hs:SOK s) (k:Int):SOK (D8 s k).2.1:=by
 unfold D8;split
 ·rename_i h
  split
  ·rename_i h2
   have hl:=La hs;have h0:0≤atS s:=hs.at_.1;have:=K5 hs h.1 (k:=k.toNat) (by omega);refine hs.set ?_;unfold U64;omega
  ·exact hs
 ·exact hs
theorem Qy {s:Src} {k:Nat} (h:(D8 s k).2.2=0):A2 s=true∧k≤64∧(k:Int)≤Dh s∧D8 s k=(Hf s (atS s) k,Bx s (atS s+k),0):=by
 unfold D8 at h;split at h
 ·rename_i h1
  split at h
  ·rename_i h2
   exact ⟨h1.1,by omega,h2,zck h1.1 (by omega) h2⟩
  ·simp at h
 ·simp at h
theorem zmh (R:Type) {n:Int} (hn:U64 n) (a:Nat) (ha:a≤64) (x5:Src) (k0:Int→Int→Src→Option R) (k1:Src→Src→Option R):
  ∀(m i:Nat) (s:Src),i≤a→a - i<m→SOK s→(∀y:Src,k1 y x5=k0 0 9 y)→P0 m R n (a:Int) (i:Int) s x5 k0 k1=k0 (Cv n (a - i) s).1 (Cv n (a - i) s).2.2 (Cv n (a - i) s).2.1
 | 0,i,_,_,h,_,_=>by omega
 | m+1,i,s,h1,h2,hs,hk=>by
  simp only [P0,zhv]
  by_cases hi:i<a
  ·have hd:decide ((i:Int)<(a:Int))=true:=by simpa using hi
   simp only [hd];rw [F264_eq R hn,F263_eq R hs,show a - i=(a - (i+1))+1 by omega];simp only [Cv];have ih:=zmh R hn a ha x5 k0 k1 m (i+1) (D8 s (B0 n)).2.1 (by omega) (by omega) (Oh hs _) hk;generalize D8 s (B0 n)=t at*
   by_cases he:t.2.2=0
   ·have e1:(t.2.2 !=0)=false:=by simp [he]
    simp only [e1,if_pos he]
    by_cases hx:t.1<n
    ·simp only [decide_eq_true hx,if_pos hx]
    ·simp only [decide_eq_false hx,if_neg hx]
     rw [wrap_i64 (n:=(i:Int)+1) (by omega) (by omega)];exact ih
   ·have e1:(t.2.2 !=0)=true:=by simp [he]
    simp only [e1,if_neg he]
  ·have:i=a:=by omega
   subst this;have hd:decide ((i:Int)<(i:Int))=false:=by simp
   simp only [hd,Nat.sub_self,Cv];exact hk s
theorem zmv (R:Type) {n:Int} (hn:U64 n) (a:Nat) (ha:a≤64) (x5:Src) (k0:Int→Int→Src→Option R) (k1:Src→Src→Option R):
  ∀(m i:Nat) (s:Src),i≤a→a - i<m→SOK s→(∀y:Src,k1 y x5=k0 0 9 y)→Qb m R n (a:Int) (i:Int) s x5 k0 k1=k0 (Cv n (a - i) s).1 (Cv n (a - i) s).2.2 (Cv n (a - i) s).2.1
 | 0,i,_,_,h,_,_=>by omega
 | m+1,i,s,h1,h2,hs,hk=>by
  simp only [Qb,zif]
  by_cases hi:i<a
  ·have hd:decide ((i:Int)<(a:Int))=true:=by simpa using hi
   simp only [hd];rw [F174_eq R hn,F173_eq R hs,show a - i=(a - (i+1))+1 by omega];simp only [Cv];have ih:=zmv R hn a ha x5 k0 k1 m (i+1) (D8 s (B0 n)).2.1 (by omega) (by omega) (Oh hs _) hk;generalize D8 s (B0 n)=t at*
   by_cases he:t.2.2=0
   ·have e1:(t.2.2 !=0)=false:=by simp [he]
    simp only [e1,if_pos he]
    by_cases hx:t.1<n
    ·simp only [decide_eq_true hx,if_pos hx]
    ·simp only [decide_eq_false hx,if_neg hx]
     rw [wrap_i64 (n:=(i:Int)+1) (by omega) (by omega)];exact ih
   ·have e1:(t.2.2 !=0)=true:=by simp [he]
    simp only [e1,if_neg he]
  ·have:i=a:=by omega
   subst this;have hd:decide ((i:Int)<(i:Int))=false:=by simp
   simp only [hd,Nat.sub_self,Cv];exact hk s
def Bq (s:Src) (n m:Int):Int×Src×Int:=if A2 s=true∧0<n∧n<9223372036854775808∧0<m∧m≤64 then Cv n m.toNat s else (0,s,1)
theorem zot (R:Type) {s:Src} (hs:SOK s) {n:Int} (hn:U64 n) (m:Int) (k:Int→Src→Int→Option R):F235 R s n m k=k (Bq s n m).1 (Bq s n m).2.1 (Bq s n m).2.2:=by
 simp only [F235,p235,F262,p262];rw [Tu R hs];unfold Bq
 by_cases hr:A2 s=true
 ·simp only [hr,true_and]
  by_cases h1:n>0
  ·simp only [decide_eq_true h1]
   by_cases h2:n<9223372036854775808
   ·simp only [decide_eq_true h2]
    by_cases h3:m>0
    ·simp only [decide_eq_true h3]
     by_cases h4:m≤64
     ·simp only [decide_eq_true h4,Bool.not_true]
      rw [if_pos ⟨h1,h2,h3,h4⟩];obtain ⟨a,rfl⟩:∃a:Nat,m=a:=⟨m.toNat,by omega⟩
      rw [Int.toNat_natCast];exact zmh R hn a (by omega) (0,[],0,List.replicate 32 0,0,0,()) (fun x2 x3 x4=>k x2 x4 x3) (fun x5 x6=>k 0 x5 9) FUEL 0 s (by omega) (by rw [Ak]; omega) hs (fun y=>rfl)
     ·rw [if_neg (fun h=>h4 h.2.2.2)]
      simp only [decide_eq_false h4,Bool.not_false]
    ·rw [if_neg (fun h=>h3 h.2.2.1)]
     simp only [decide_eq_false h3,Bool.not_false]
   ·rw [if_neg (fun h=>h2 h.2.1)]
    simp only [decide_eq_false h2,Bool.not_false]
  ·rw [if_neg (fun h=>h1 h.1)]
   simp only [decide_eq_false h1,Bool.not_false]
 ·simp only [Bool.not_eq_true] at hr
  simp [hr]
theorem F131_eq (R:Type) {s:Src} (hs:SOK s) {n:Int} (hn:U64 n) (m:Int) (k:Int→Src→Int→Option R):F131 R s n m k=k (Bq s n m).1 (Bq s n m).2.1 (Bq s n m).2.2:=by
 simp only [F131,p131];rw [zbz R hs];unfold Bq
 by_cases hr:A2 s=true
 ·simp only [hr,true_and,Bool.not_true]
  by_cases h1:n<1
  ·rw [if_neg (by omega)]
   simp only [decide_eq_true h1]
  ·simp only [decide_eq_false h1]
   by_cases h2:n≥9223372036854775808
   ·rw [if_neg (by omega)]
    simp only [decide_eq_true h2]
   ·simp only [decide_eq_false h2]
    by_cases h3:m<1
    ·rw [if_neg (by omega)]
     simp only [decide_eq_true h3]
    ·simp only [decide_eq_false h3]
     by_cases h4:m>64
     ·rw [if_neg (by omega)]
      simp only [decide_eq_true h4]
     ·rw [if_pos (by omega)]
      simp only [decide_eq_false h4];obtain ⟨a,rfl⟩:∃a:Nat,m=a:=⟨m.toNat,by omega⟩
      rw [Int.toNat_natCast];exact zmv R hn a (by omega) (0,[],0,List.replicate 32 0,0,0,()) (fun x2 x3 x4=>k x2 x4 x3) (fun x5 x6=>k 0 x5 9) FUEL 0 s (by omega) (by rw [Ak]; omega) hs (fun y=>rfl)
 ·simp only [Bool.not_eq_true] at hr
  simp [hr]
end Go.PG
namespace Go.PG
theorem Sz {n:Int}:∀(m:Nat) (s:Src),(Cv n m s).2.2=0→∃j,1≤j∧j≤m∧(Cv n m s).1<n∧(Cv n m s).2.1=Bx s (atS s+B0 n*j)∧(B0 n*j:Int)≤Dh s∧∀i<j,Cv n i s=(0,Bx s (atS s+B0 n*i),9)
 | 0,s,h=>by simp [Cv] at h
 | m+1,s,h=>by
  simp only [Cv] at h ⊢;split at h
  ·rename_i h1
   obtain ⟨g1,g2,g3,g4⟩:=Qy h1;rw [if_pos h1];split at h
   ·rename_i h2
    rw [if_pos h2];refine ⟨1,by omega,by omega,h2,?_,by omega,fun i hi=>?_⟩
    ·rw [g4]
     show Bx s (atS s+B0 n)=Bx s (atS s+B0 n*((1:Nat):Int));rw [Int.natCast_one,Int.mul_one]
    ·have:i=0:=by omega
     subst this;simp only [Cv,Int.natCast_zero,Int.mul_zero,Int.add_zero];rfl
   ·rename_i h2
    rw [if_neg h2];have hmul:∀i:Nat,((B0 n:Nat):Int)*((i+1:Nat):Int)=B0 n+B0 n*i:=fun i=>by
     rw [show ((i+1:Nat):Int)=(i:Int)+1 by omega,Int.mul_add,Int.mul_one,Int.add_comm]
    obtain ⟨j,j1,j2,j3,j4,j5,j6⟩:=Sz m _ h;refine ⟨j+1,by omega,by omega,j3,?_,?_,fun i hi=>?_⟩
    ·rw [j4,g4]
     show Bx (Bx s (atS s+B0 n)) (atS s+B0 n+B0 n*j)=_;rw [Jy,hmul,Int.add_assoc]
    ·rw [g4] at j5
     have hle:Dh (Bx s (atS s+B0 n))≤Dh s - B0 n:=by
      unfold Dh at g3 ⊢;rw [if_pos g1] at g3 ⊢;split
      ·show endS s - (atS s+B0 n)≤endS s - atS s - B0 n
       omega
      ·show 0≤endS s - atS s - B0 n
       have:endS s - s.2.2.2.2.2.1=endS s - atS s:=rfl;omega
     rw [hmul];have j5':(B0 n:Int)*j≤Dh (Bx s (atS s+B0 n)):=j5;omega
    ·cases i with
     | zero=>
      simp only [Cv,Int.natCast_zero,Int.mul_zero,Int.add_zero];rfl
     | succ i=>
      have:=j6 i (by omega);simp only [Cv];rw [if_pos h1,if_neg h2,this,g4];show (0,Bx (Bx s (atS s+B0 n)) (atS s+B0 n+B0 n*i),9)=_;rw [Jy,hmul,Int.add_assoc]
  ·rename_i h1
   exact absurd h h1
end Go.PG
namespace Go.PG
end Go.PG
namespace Go.PG
end Go.PG
namespace Go.PG
end Go.PG
namespace Go.PG
def sumS (l:List Int) (n:Nat):Int:=(l.take n).sum
theorem C5 (l:List Int):sumS l 0=0:=rfl
theorem Bf {l:List Int} {i:Nat} (h:i<l.length):sumS l (i+1)=sumS l i+l.getD i 0:=by
 unfold sumS;have et:l.take (i+1)=l.take i++[l[i]]:=by rw [List.take_succ_eq_append_getElem h]
 rw [et,List.sum_append];simp [h]
def AllU64 (l:List Int):Prop:=∀x∈l,U64 x
theorem Gh:U64 0:=by unfold U64; omega
theorem T7 {l:List Int} (h:AllU64 l) {a:Nat}:∀d:Nat,sumS l a≤sumS l (a+d)
 | 0=>Int.le_refl _
 | d+1=>by
  have ih:=T7 h (a:=a) d
  by_cases hd:a+d<l.length
  ·have:=(Ar h Gh (a+d)).1
   rw [←Nat.add_assoc,Bf hd];omega
  ·have e:sumS l (a+(d+1))=sumS l (a+d):=by
    unfold sumS;rw [List.take_of_length_le (by omega),List.take_of_length_le (by omega)]
   rw [e]; exact ih
theorem Cu {l:List Int} (h:AllU64 l) {a b:Nat} (hab:a≤b):sumS l a≤sumS l b:=by
 have:=T7 h (a:=a) (b - a)
 rwa [show a+(b - a)=b by omega] at this
theorem Av {l:List Int} (h:AllU64 l) (n:Nat):0≤sumS l n:=by
 have:=Cu h (Nat.zero_le n)
 rwa [C5] at this
def totS (l:List Int):Int:=sumS l l.length
theorem Cr {l:List Int} (h:AllU64 l) (n:Nat):sumS l n≤totS l:=by
 by_cases hn:n≤l.length
 ·exact Cu h hn
 ·unfold totS sumS
  rw [List.take_of_length_le (by omega),List.take_length];exact Int.le_refl _
def lowF:Nat→Nat→Nat
 | 0,_=>1
 | f+1,n=>if n % 2=0 then 2*lowF f (n/2) else 1
def lowN (n:Nat):Nat:=lowF 20 n
def ALLN:List Nat:=List.range' 1 1000
theorem zi1:(ALLN.all fun n=>decide (iand .i64 (n:Int) (IntKind.i64.wrap (0 - (n:Int)))=(lowN n:Int))&&decide (1≤lowN n∧lowN n≤n))=true:=by kernel_rfl
theorem J9 {n:Nat} (h1:1≤n) (h2:n≤1000):iand .i64 (n:Int) (IntKind.i64.wrap (0 - (n:Int)))=(lowN n:Int)∧1≤lowN n∧lowN n≤n:=by
 have:=List.all_eq_true.1 zi1 n (by unfold ALLN; rw [List.mem_range']; exact ⟨n - 1,by omega,by omega⟩);simp only [Bool.and_eq_true,decide_eq_true_eq] at this;exact ⟨this.1,this.2⟩
theorem Tx (R:Type) {n:Nat} (h1:1≤n) (h2:n≤1000) (k:Int→Option R):F229 R (n:Int) k=k (lowN n:Int):=by
 simp only [F229,p229];rw [(J9 h1 h2).1]
theorem zea (R:Type) (k0:Int→Option R):∀(f m n b:Nat),1≤n→n<2^f→f<m→n*b≤1000000→1≤b→Qc m R (n:Int) (b:Int) k0=k0 ((b*lowF f n:Nat):Int)
 | _,0,_,_,_,_,h,_,_=>by omega
 | 0,m+1,n,b,h1,h2,_,_,_=>by simp at h2; omega
 | f+1,m+1,n,b,h1,h2,h3,h4,h5=>by
  simp only [Qc,zig,lowF];rw [Nat.pow_succ] at h2;rw [Int.tmod_eq_emod_of_nonneg (by omega)];have hbn:b≤n*b:=Nat.le_mul_of_pos_left b (by omega);have hnn:n≤n*b:=Nat.le_mul_of_pos_right n (by omega)
  by_cases h0:n % 2=0
  ·have e:((n:Int) % 2==0)=true:=by
    have:(n:Int) % 2=0:=by omega
    simp [this]
   have hle:n/2*(2*b)≤1000000:=by
    have:n/2*(2*b)=n/2*2*b:=by rw [Nat.mul_assoc]
    rw [this,show n/2*2=n by omega]; exact h4
   have ih:=zea R k0 f m (n/2) (2*b) (by omega) (by omega) (by omega) hle (by omega);simp only [e,if_pos h0];rw [Int.tdiv_eq_ediv_of_nonneg (by omega),wrap_i64 (n:=(n:Int)/2) (by omega) (by omega),wrap_i64 (n:=2*(b:Int)) (by omega) (by omega),show (n:Int)/2=((n/2:Nat):Int) by omega,show 2*(b:Int)=((2*b:Nat):Int) by omega,ih]
   congr 2
   rw [←Nat.mul_assoc,Nat.mul_comm b 2]
  ·have e:((n:Int) % 2==0)=false:=beq_eq_false_iff_ne.2 (by omega)
   simp only [e,if_neg h0,Nat.mul_one]
theorem zv6 (R:Type) {n:Nat} (h1:1≤n) (h2:n≤1000) (k:Int→Option R):F130 R (n:Int) k=k (lowN n:Int):=by
 simp only [F130,p130];have:=zea R (fun x1=>k x1) 20 FUEL n 1 h1 (by omega) (by rw [Ak]; omega) (by omega) (Nat.le_refl _);rw [Nat.one_mul] at this;exact this
theorem zsj (m:Nat) (h1:1≤m) (h2:m≤500):lowN (2*m)=2*lowN m:=by
 have:(List.range' 1 500).all (fun m=>decide (lowN (2*m)=2*lowN m))=true:=by kernel_rfl
 have:=List.all_eq_true.1 this m (by rw [List.mem_range']; exact ⟨m - 1,by omega,by omega⟩);exact of_decide_eq_true this
theorem low_odd (m:Nat):lowN (2*m+1)=1:=by
 unfold lowN lowF;rw [if_neg (by omega)]
theorem zi0:∀(k q:Nat),(2*q+1)*2^k≤1000→lowN ((2*q+1)*2^k)=2^k
 | 0,q,_=>by rw [Nat.pow_zero,Nat.mul_one,low_odd]
 | k+1,q,h=>by
  rw [Nat.pow_succ,←Nat.mul_assoc] at h;have hp:0<(2*q+1)*2^k:=Nat.mul_pos (by omega) (Nat.pow_pos (by omega));rw [Nat.pow_succ,←Nat.mul_assoc,Nat.mul_comm _ 2,zsj _ hp (by omega),zi0 k q (by omega),Nat.mul_comm]
def C6 (l:List Int) (q:Nat):Int:=sumS l (q+1) - sumS l (q+1 - lowN (q+1))
def Cg (l:List Int):List Int:=(List.range l.length).map (C6 l)
theorem Ey (l:List Int):(Cg l).length=l.length:=by simp [Cg]
theorem T3 {l:List Int} {q:Nat} (h:q<l.length):(Cg l).getD q 0=C6 l q:=by
 simp [Cg,h]
theorem ze2 {l:List Int} (h:AllU64 l) (ht:totS l<9223372036854775808) (q:Nat):0≤C6 l q∧C6 l q<9223372036854775808:=by
 have h1:=Cu h (a:=q+1 - lowN (q+1)) (b:=q+1) (by omega);have h2:=Av h (q+1 - lowN (q+1));have h3:=Cr h (q+1);unfold C6;omega
theorem zeb (R:Type) {l:List Int} (h:AllU64 l) (ht:totS l<9223372036854775808) (hlen:l.length≤1000) (b a:Nat) (hb:b≤l.length) (k0:Int→Option R):∀(m i:Nat),a≤i→i≤b→b - i<m→Qd m R l (b:Int) (sumS l i - sumS l a) (i:Int) k0=k0 (sumS l b - sumS l a)
 | 0,i,_,_,h=>by omega
 | m+1,i,h0,h1,h2=>by
  simp only [Qd,zih]
  by_cases hi:i<b
  ·have hd:decide ((i:Int)<(b:Int))=true:=by simpa using hi
   have hbn:bnd (i:Int) (l.length:Int)=true:=by unfold bnd; simp; omega
   have q1:=Cu h h0;have q2:=Cr h (i+1);have q3:=Bf (l:=l) (i:=i) (by omega);have q4:=Av h a;have q5:=(Ar h Gh i).1;simp only [hd,hbn,Int.toNat_natCast];rw [Ae (n:=sumS l i - sumS l a+l.getD i 0) (by omega) (by omega),wrap_i64 (n:=(i:Int)+1) (by omega) (by omega),show sumS l i - sumS l a+l.getD i 0=sumS l (i+1) - sumS l a by omega];exact zeb R h ht hlen b a hb k0 m (i+1) (by omega) (by omega) (by omega)
  ·have:i=b:=by omega
   subst this;have hd:decide ((i:Int)<(i:Int))=false:=by simp
   simp only [hd]
theorem zv7 (R:Type) {l:List Int} (h:AllU64 l) (ht:totS l<9223372036854775808) (hlen:l.length≤1000) {a b:Nat} (hab:a≤b) (hb:b≤l.length) (k:Int→Option R):F129 R l (a:Int) (b:Int) k=k (sumS l b - sumS l a):=by
 simp only [F129,p129];have:=zeb R h ht hlen b a hb (fun x1=>k x1) FUEL a (Nat.le_refl _) hab (by rw [Ak]; omega);rw [Int.sub_self] at this;exact this
theorem zxa (R:Type) {l:List Int} (h:AllU64 l) (ht:totS l<9223372036854775808) (hlen:l.length≤500) (x3:List Int×Unit) (k0:(List Int×Unit)→List Int→Unit→Option R):∀(m i:Nat),i≤l.length→l.length - i<m→
  Z5 m R l (i:Int) x3 ((List.range i).map (C6 l)) () k0=k0 x3 (Cg l) ()
 | 0,i,_,h=>by omega
 | m+1,i,h1,h2=>by
  simp only [Z5,p87_3]
  by_cases hi:i<l.length
  ·have hd:decide ((i:Int)<(l.length:Int))=true:=by simpa using hi
   simp only [hd];have hl:=J9 (n:=i+1) (by omega) (by omega);rw [wrap_i64 (n:=(i:Int)+1) (by omega) (by omega),show (i:Int)+1=((i+1:Nat):Int) by omega,zv6 R (by omega) (by omega),wrap_i64 (n:=((i+1:Nat):Int) - (lowN (i+1):Int)) (by omega) (by omega),show ((i+1:Nat):Int) - (lowN (i+1):Int)=((i+1 - lowN (i+1):Nat):Int) by omega,zv7 R h ht (by omega) (by omega) (by omega)];have hc:∀y:Int,decide (List.length ((List.range i).map (C6 l))+List.length [y]≤17592186044416)=true:=fun y=>by simp; omega
   simp only [hc];have e:(List.range i).map (C6 l)++[sumS l (i+1) - sumS l (i+1 - lowN (i+1))]=(List.range (i+1)).map (C6 l):=by
    rw [List.range_succ,List.map_append]; rfl
   rw [e];exact zxa R h ht hlen x3 k0 m (i+1) (by omega) (by omega)
  ·have:i=l.length:=by omega
   subst this;have hd:decide ((l.length:Int)<(l.length:Int))=false:=by simp
   simp only [hd];rfl
theorem F87_eq (R:Type) {l:List Int} (h:AllU64 l) (ht:totS l<9223372036854775808) (hlen:l.length≤500) (k:(List Int×Unit)→Option R):F87 R l k=k (Cg l,()):=by
 simp only [F87,p87];exact zxa R h ht hlen ([],()) (fun x1 x2 x3=>k (x2,())) FUEL 0 (by omega) (by rw [Ak]; omega)
theorem zab (R:Type) {l:List Int} (h:AllU64 l) (ht:totS l<9223372036854775808) (hlen:l.length≤500) (k0:Int→Option R) (n0:Nat) (hn0:n0≤l.length):∀(m n:Nat),n≤n0→n<m→Ps m R (n:Int) (sumS l n0 - sumS l n) (Cg l,()) k0=k0 (sumS l n0)
 | 0,n,_,h=>by omega
 | m+1,n,h1,h2=>by
  simp only [Ps,zhg]
  by_cases hn:n=0
  ·subst hn
   have hd:decide (((0:Nat):Int)>0)=false:=by simp
   simp only [hd,C5,Int.sub_zero]
  ·have hd:decide ((n:Int)>0)=true:=decide_eq_true (by omega)
   have hl:=J9 (n:=n) (by omega) (by omega);rw [wrap_i64 (n:=(n:Int) - 1) (by omega) (by omega),show (n:Int) - 1=((n - 1:Nat):Int) by omega];have hbn:bnd ((n - 1:Nat):Int) ((Cg l).length:Int)=true:=by rw [Ey]; unfold bnd; simp; omega
   simp only [hd,hbn,Int.toNat_natCast];rw [T3 (by omega),Tx R (by omega) (by omega)];have e:C6 l (n - 1)=sumS l n - sumS l (n - lowN n):=by
    unfold C6;rw [show n - 1+1=n by omega]
   have q1:=Cu h (a:=n - lowN n) (b:=n) (by omega);have q2:=Av h (n - lowN n);have q3:=Cr h n0;have q4:=Cu h h1;rw [e,Ae (n:=sumS l n0 - sumS l n+(sumS l n - sumS l (n - lowN n))) (by omega) (by omega),wrap_i64 (n:=(n:Int) - (lowN n:Int)) (by omega) (by omega),show (n:Int) - (lowN n:Int)=((n - lowN n:Nat):Int) by omega,show sumS l n0 - sumS l n+(sumS l n - sumS l (n - lowN n))=sumS l n0 - sumS l (n - lowN n) by omega];exact zab R h ht hlen k0 n0 hn0 m (n - lowN n) (by omega) (by omega)
theorem zbw (R:Type) {l:List Int} (h:AllU64 l) (ht:totS l<9223372036854775808) (hlen:l.length≤500) (k:Int→Option R):F256 R (Cg l,()) k=k (totS l):=by
 simp only [F256,p256,F275,p275,F274,p274,Ey];have:=zab R h ht hlen (fun x1=>k x1) l.length (Nat.le_refl _) FUEL l.length (Nat.le_refl _) (by rw [Ak]; omega);rw [Int.sub_self] at this;exact this
def Owns (l:List Int) (x:Int) (i:Nat):Prop:=i<l.length∧sumS l i≤x∧x<sumS l (i+1)
theorem Owns.uniq {l:List Int} (h:AllU64 l) {x:Int} {i j:Nat} (hi:Owns l x i) (hj:Owns l x j):i=j:=by
 obtain ⟨a1,a2,a3⟩:=hi;obtain ⟨b1,b2,b3⟩:=hj;rcases Nat.lt_trichotomy i j with h1 | h1 | h1
 ·have:=Cu h (a:=i+1) (b:=j) (by omega); omega
 ·exact h1
 ·have:=Cu h (a:=j+1) (b:=i) (by omega); omega
theorem Wb (R:Type) {n:Nat} (hn:n≤500) (t:List Int×Unit) (htl:t.1.length=n) (x:Int) (k0:Int→Int→Int→(List Int×Unit)→Option R):∀(m k:Nat),2^k≤n∨k=0→n+2<m+2^k→∃j,n<2^(j+1)∧(2^j≤n∨j=0)∧Nn m R x 0 ((2^k:Nat):Int) t k0=k0 x 0 ((2^j:Nat):Int) t
 | 0,k,h1,h2=>by
  rcases h1 with h1 | rfl
  ·omega
  ·rw [Nat.pow_zero] at h2; omega
 | m+1,k,h1,h2=>by
  simp only [Nn,zho,F275,p275,htl];have hpp:0<2^k:=Nat.pow_pos (by omega);have hp:2^k≤500:=by
   rcases h1 with h1 | rfl
   ·omega
   ·rw [Nat.pow_zero]; omega
  have e:ishl .i64 ((2^k:Nat):Int) 1=((2^(k+1):Nat):Int):=by
   unfold ishl;rw [show (2:Int)^(min (1:Int).toNat IntKind.i64.bits)=2 by decide,Nat.pow_succ];generalize 2^k=p at*;rw [wrap_i64 (by omega) (by omega)]; omega
  rw [e]
  by_cases hk:2^(k+1)≤n
  ·have hd:decide (((2^(k+1):Nat):Int)≤(n:Int))=true:=decide_eq_true (by omega)
   simp only [hd];exact Wb R hn t htl x k0 m (k+1) (.inl hk) (by rw [Nat.pow_succ]; omega)
  ·have hd:decide (((2^(k+1):Nat):Int)≤(n:Int))=false:=decide_eq_false (by omega)
   simp only [hd];exact ⟨k,by omega,h1,rfl⟩
theorem Wa (R:Type) {l:List Int} (h:AllU64 l) (ht:totS l<9223372036854775808) (hlen:l.length≤400) {x:Int} (hx:0≤x∧x<totS l) (k0:Int→Option R):∀(m k q:Nat),2^(k+1)*q≤l.length→2^k≤500→sumS l (2^(k+1)*q)≤x→(l.length<2^(k+1)*q+2^(k+1)∨x<sumS l (2^(k+1)*q+2^(k+1)))→k+1<m→
  ∃i,Owns l x i∧H6 m R (x - sumS l (2^(k+1)*q)) ((2^(k+1)*q:Nat):Int) ((2^k:Nat):Int) (Cg l,()) k0=k0 (i:Int)
 | 0,_,_,_,_,_,_,h=>by omega
 | m+1,k,q,h1,h2,h3,h4,h5=>by
  have hpp:0<2^k:=Nat.pow_pos (by omega);have e1:2^(k+1)*q=2^k*(2*q):=by rw [Nat.pow_succ,Nat.mul_assoc]
  have hlow:2^(k+1)*q+2^k≤1000→lowN (2^(k+1)*q+2^k)=2^k:=fun hh=>by
   have e2:2^(k+1)*q+2^k=(2*q+1)*2^k:=by rw [e1,Nat.add_mul,Nat.one_mul,Nat.mul_comm (2*q)]
   rw [e2] at hh ⊢;exact zi0 k q hh
  simp only [H6,zc1,F275,p275,Ey];have hd:decide (((2^k:Nat):Int)>0)=true:=decide_eq_true (by omega);have eshr:ishr .i64 ((2^k:Nat):Int) 1=((2^k/2:Nat):Int):=by
   unfold ishr;rw [show (2:Int)^(min (1:Int).toNat IntKind.i64.bits)=2 by decide,Int.fdiv_eq_ediv_of_nonneg _ (by omega)];omega
  simp only [hd,eshr];rw [wrap_i64 (n:=((2^(k+1)*q:Nat):Int)+((2^k:Nat):Int)) (by omega) (by omega),show ((2^(k+1)*q:Nat):Int)+((2^k:Nat):Int)=((2^(k+1)*q+2^k:Nat):Int) by omega]
  -- what comes behind,for the next step
  have next:∀(q':Nat) (_:2^k*q'≤l.length) (_:sumS l (2^k*q')≤x) (_:l.length<2^k*q'+2^k∨x<sumS l (2^k*q'+2^k)),
    ∃i,Owns l x i∧H6 m R (x - sumS l (2^k*q')) ((2^k*q':Nat):Int) ((2^k/2:Nat):Int) (Cg l,()) k0=k0 (i:Int):=by
   intro q' g1 g2 g3;cases k with
   | zero=>
    rw [Nat.pow_zero,Nat.one_mul] at g1 g2 g3 ⊢;have hlt:q'<l.length:=by
     refine Classical.byContradiction fun hh=>?_
     have:sumS l q'=totS l:=by
      unfold totS sumS;rw [List.take_of_length_le (by omega),List.take_length]
     omega
    refine ⟨q',⟨hlt,g2,?_⟩,?_⟩
    ·rcases g3 with g3 | g3
     ·have:q'+1=l.length:=by omega
      rw [this]; exact hx.2
     ·exact g3
    ·cases m with
     | zero=>omega
     | succ m=>
      simp only [H6,zc1];rfl
   | succ k=>
    have e3:2^(k+1)/2=2^k:=by rw [Nat.pow_succ]; omega
    rw [e3];exact Wa R h ht hlen hx k0 m k q' g1 (by rw [Nat.pow_succ] at h2; omega) g2 g3 (by omega)
  by_cases hn:2^(k+1)*q+2^k≤l.length
  ·have hd2:decide (((2^(k+1)*q+2^k:Nat):Int)≤(l.length:Int))=true:=decide_eq_true (by omega)
   have hbn:bnd ((2^(k+1)*q+2^k - 1:Nat):Int) (l.length:Int)=true:=by unfold bnd; simp; omega
   rw [wrap_i64 (n:=((2^(k+1)*q+2^k:Nat):Int) - 1) (by omega) (by omega),show ((2^(k+1)*q+2^k:Nat):Int) - 1=((2^(k+1)*q+2^k - 1:Nat):Int) by omega];simp only [hd2,hbn,Int.toNat_natCast];have en:C6 l (2^(k+1)*q+2^k - 1)=sumS l (2^(k+1)*q+2^k) - sumS l (2^(k+1)*q):=by
    unfold C6;rw [show 2^(k+1)*q+2^k - 1+1=2^(k+1)*q+2^k by omega,hlow (by omega),Nat.add_sub_cancel]
   have eg:(Cg l).getD (2^(k+1)*q+2^k - 1) 0=sumS l (2^(k+1)*q+2^k) - sumS l (2^(k+1)*q):=by rw [T3 (by omega),en]
   simp only [eg];have q1:=Cu h (a:=2^(k+1)*q) (b:=2^(k+1)*q+2^k) (by omega);have q2:=Av h (2^(k+1)*q)
   by_cases hle:sumS l (2^(k+1)*q+2^k)≤x
   ·have hd3:decide (sumS l (2^(k+1)*q+2^k) - sumS l (2^(k+1)*q)≤x - sumS l (2^(k+1)*q))=true:=decide_eq_true (by omega)
    simp only [hd3];rw [Ae (n:=x - sumS l (2^(k+1)*q) - (sumS l (2^(k+1)*q+2^k) - sumS l (2^(k+1)*q))) (by omega) (by omega),show x - sumS l (2^(k+1)*q) - (sumS l (2^(k+1)*q+2^k) - sumS l (2^(k+1)*q))=x - sumS l (2^(k+1)*q+2^k) by omega];have e4:2^(k+1)*q+2^k=2^k*(2*q+1):=by rw [e1,Nat.mul_add,Nat.mul_one]
    have e5:2^(k+1)*q+2^(k+1)=2^k*(2*q+1)+2^k:=by
     rw [←e4,Nat.pow_succ]; omega
    rw [e4];rw [e4] at hle hn;rw [e5] at h4;exact next (2*q+1) hn hle h4
   ·have hd3:decide (sumS l (2^(k+1)*q+2^k) - sumS l (2^(k+1)*q)≤x - sumS l (2^(k+1)*q))=false:=decide_eq_false (by omega)
    simp only [hd3];rw [e1] at h1 h3 hle ⊢;exact next (2*q) h1 h3 (.inr (by omega))
  ·have hd2:decide (((2^(k+1)*q+2^k:Nat):Int)≤(l.length:Int))=false:=decide_eq_false (by omega)
   simp only [hd2];rw [e1] at h1 h3 hn ⊢;exact next (2*q) h1 h3 (.inl (by omega))
theorem zef (R:Type) {l:List Int} (h:AllU64 l) (ht:totS l<9223372036854775808) (hlen:l.length≤400) {x:Int} (hx:0≤x∧x<totS l) (k:Int→Int→Option R):∃i,Owns l x i∧F257 R (Cg l,()) x k=k (i:Int) 0:=by
 simp only [F257,p257];rw [zbw R h ht (by omega)];have hd:decide (x≥totS l)=false:=decide_eq_false (by omega);simp only [hd];obtain ⟨j,j1,j2,j3⟩:=Wb R (n:=l.length) (by omega) (Cg l,()) (Ey l) x (fun x3 x4 x5 x6=>H6 FUEL R x3 x4 x5 x6 (fun x7=>k x7 0)) FUEL 0 (.inr rfl) (by rw [Ak]; omega);have hj:2^j≤500:=by
  rcases j2 with j2 | rfl
  ·omega
  ·rw [Nat.pow_zero]; omega
 have hjm:j≤500:=by have:=Nat.lt_two_pow_self (n:=j); omega
 obtain ⟨i,hi,g⟩:=Wa R h ht hlen hx (fun x7=>k x7 0) FUEL j 0 (by simp) hj (by rw [Nat.mul_zero,C5]; exact hx.1) (.inl (by omega)) (by rw [Ak]; omega);refine ⟨i,hi,?_⟩;rw [Nat.mul_zero,C5,Int.sub_zero] at g;exact j3.trans g
end Go.PG
namespace Go.PG
def Gp (j:Nat):Nat→Nat
 | 0=>j - lowN j
 | m+1=>if (m+1)+lowN (m+1)=j then m+1 else Gp j m
theorem Zi:((List.range' 1 400).all fun c=>decide (Gp (c+lowN c) (c - 1)=c - lowN c))=true:=by kernel_rfl
theorem Zh:((List.range' 1 400).all fun j=>decide (Gp j (j - 1)=j - 1))=true:=by kernel_rfl
theorem lastA {c:Nat} (h1:1≤c) (h2:c≤400):Gp (c+lowN c) (c - 1)=c - lowN c:=
 of_decide_eq_true (List.all_eq_true.1 Zi c (by rw [List.mem_range']; exact ⟨c - 1,by omega,by omega⟩))
theorem lastB {j:Nat} (h1:1≤j) (h2:j≤400):Gp j (j - 1)=j - 1:=
 of_decide_eq_true (List.all_eq_true.1 Zh j (by rw [List.mem_range']; exact ⟨j - 1,by omega,by omega⟩))
theorem U1 {j:Nat} (h1:1≤j):∀(d:Nat),j+d≤1000→Gp j (j - 1+d)=Gp j (j - 1)
 | 0,_=>rfl
 | d+1,h=>by
  have ih:=U1 h1 d (by omega);rw [show j - 1+(d+1)=(j - 1+d)+1 by omega];simp only [Gp];have:=J9 (n:=j - 1+d+1) (by omega) (by omega);rw [if_neg (by omega),ih]
def Dq (l:List Int) (m q:Nat):Int:=sumS l (Gp (q+1) m) - sumS l (q+1 - lowN (q+1))+l.getD q 0
def Fg (l:List Int) (m:Nat):List Int:=(List.range l.length).map (Dq l m)
theorem Q2 (l:List Int):Fg l 0=l:=by
 unfold Fg Dq;apply List.ext_getElem?;intro i;rw [List.getElem?_map]
 by_cases h:i<l.length
 ·rw [List.getElem?_range h]
  simp [Gp,h]
 ·rw [List.getElem?_eq_none (by simp; omega),List.getElem?_eq_none (by omega)]
  rfl
theorem K7 {l:List Int} {q m:Nat} (hq:q<l.length) (hl:l.length≤400) (hm:q≤m) (hm2:m≤500):Dq l m q=C6 l q:=by
 unfold Dq C6;have h1:=lastB (j:=q+1) (by omega) (by omega);have h2:=U1 (j:=q+1) (by omega) (m - q) (by omega);rw [show q+1 - 1+(m - q)=m by omega] at h2;rw [h2,h1,Bf hq];show sumS l (q+1 - 1) - _+_=_;rw [Nat.add_sub_cancel];omega
theorem Q3 {l:List Int} (hl:l.length≤400):Fg l l.length=Cg l:=by
 unfold Fg Cg;refine List.map_congr_left (fun q hq=>?_);have hq':q<l.length:=by simpa using hq
 exact K7 hq' hl (by omega) (by omega)
theorem Uu (l:List Int) (m:Nat):(Fg l m).length=l.length:=by simp [Fg]
theorem J3 {l:List Int} {m q:Nat} (h:q<l.length):(Fg l m).getD q 0=Dq l m q:=by simp [Fg,h]
theorem zdd:∀(j m:Nat),Gp j m≤max m (j - lowN j)
 | j,0=>by simp [Gp]
 | j,m+1=>by
  have:=zdd j m;simp only [Gp];split<;>omega
theorem zah (R:Type) {l:List Int} (h:AllU64 l) (ht:totS l<9223372036854775808) (hlen:l.length≤200) (x2:List Int×Unit) (k0:(List Int×Unit)→List Int→Option R):∀(m i:Nat),i≤l.length→l.length - i<m→
  P3 m R ((i+1:Nat):Int) x2 (Fg l i) k0=k0 x2 (Cg l)
 | 0,i,_,h=>by omega
 | m+1,i,h1,h2=>by
  simp only [P3,zh0,Uu]
  by_cases hi:i<l.length
  ·have hd:decide (((i+1:Nat):Int)≤(l.length:Int))=true:=decide_eq_true (by omega)
   have hlo:=J9 (n:=i+1) (by omega) (by omega);simp only [hd];rw [Tx R (by omega) (by omega),wrap_i64 (n:=((i+1:Nat):Int)+(lowN (i+1):Int)) (by omega) (by omega),wrap_i64 (n:=((i+1:Nat):Int)+1) (by omega) (by omega),show ((i+1:Nat):Int)+1=((i+1+1:Nat):Int) by omega];have keep:∀q,q+1≠i+1+lowN (i+1)→Dq l (i+1) q=Dq l i q:=fun q hq=>by
    unfold Dq;simp only [Gp];rw [if_neg (by omega)]
   by_cases hup:i+1+lowN (i+1)≤l.length
   ·have hd2:decide (((i+1:Nat):Int)+(lowN (i+1):Int)≤(l.length:Int))=true:=decide_eq_true (by omega)
    rw [wrap_i64 (n:=((i+1:Nat):Int)+(lowN (i+1):Int) - 1) (by omega) (by omega),wrap_i64 (n:=((i+1:Nat):Int) - 1) (by omega) (by omega),show ((i+1:Nat):Int)+(lowN (i+1):Int) - 1=((i+lowN (i+1):Nat):Int) by omega,show ((i+1:Nat):Int) - 1=(i:Int) by omega];have hb1:bnd ((i+lowN (i+1):Nat):Int) (l.length:Int)=true:=by unfold bnd; simp; omega
    have hb2:bnd (i:Int) (l.length:Int)=true:=by unfold bnd; simp; omega
    simp only [hd2,hb1,hb2,Int.toNat_natCast];rw [J3 (by omega),J3 (by omega)];have q1:Dq l i i=C6 l i:=K7 hi (by omega) (Nat.le_refl _) (by omega);have qA:=lastA (c:=i+1) (by omega) (by omega);rw [Nat.add_sub_cancel] at qA;have q2:Dq l i (i+lowN (i+1))+C6 l i=Dq l (i+1) (i+lowN (i+1)):=by
     unfold Dq C6;rw [show i+lowN (i+1)+1=i+1+lowN (i+1) by omega,qA];simp only [Gp,if_true];omega
    have q3:0≤Dq l (i+1) (i+lowN (i+1))∧Dq l (i+1) (i+lowN (i+1))<18446744073709551616:=by
     unfold Dq;rw [show i+lowN (i+1)+1=i+1+lowN (i+1) by omega];simp only [Gp,if_true];have hlo2:=J9 (n:=i+1+lowN (i+1)) (by omega) (by omega);have a1:=Cr h (i+1);have a2:=Av h (i+1+lowN (i+1) - lowN (i+1+lowN (i+1)));have a3:=Ar h Gh (i+lowN (i+1));have a4:sumS l (i+1+lowN (i+1) - lowN (i+1+lowN (i+1)))≤sumS l (i+1):=by
      have:=zdd (i+1+lowN (i+1)) i;refine Cu h ?_;have hge:∀m,i+1+lowN (i+1) - lowN (i+1+lowN (i+1))≤Gp (i+1+lowN (i+1)) m∨True:=fun _=>.inr trivial
      have hchk:((List.range' 1 400).all fun c=>decide (c+lowN c - lowN (c+lowN c)≤c))=true:=by kernel_rfl
      exact of_decide_eq_true (List.all_eq_true.1 hchk (i+1) (by rw [List.mem_range']; exact ⟨i,by omega,by omega⟩))
     have a5:=Bf (l:=l) (i:=i+lowN (i+1)) (by omega);have a6:=Cr h (i+lowN (i+1)+1);have a7:=Cu h (a:=i+1) (b:=i+lowN (i+1)) (by omega);unfold U64 at a3;omega
    rw [q1,q2,Ae (by omega) (by omega)];have e:(Fg l i).set (i+lowN (i+1)) (Dq l (i+1) (i+lowN (i+1)))=Fg l (i+1):=by
     apply List.ext_getElem?;intro q;unfold Fg;rw [List.getElem?_set,List.getElem?_map,List.getElem?_map];simp only [List.length_map,List.length_range]
     by_cases hq:q<l.length
     ·rw [List.getElem?_range hq]
      by_cases eq:i+lowN (i+1)=q
      ·subst eq
       rw [if_pos rfl,if_pos hq]; rfl
      ·rw [if_neg eq]
       simp only [Option.map_some];rw [keep q (by omega)]
     ·rw [List.getElem?_eq_none (by simp; omega),if_neg (by omega)]
      rfl
    rw [e];exact zah R h ht hlen x2 k0 m (i+1) (by omega) (by omega)
   ·have hd2:decide (((i+1:Nat):Int)+(lowN (i+1):Int)≤(l.length:Int))=false:=decide_eq_false (by omega)
    simp only [hd2];have e:Fg l i=Fg l (i+1):=by
     unfold Fg;refine List.map_congr_left (fun q hq=>?_);have hq':q<l.length:=by simpa using hq
     rw [keep q (by omega)]
    rw [e];exact zah R h ht hlen x2 k0 m (i+1) (by omega) (by omega)
  ·have:i=l.length:=by omega
   subst this;have hd:decide (((l.length+1:Nat):Int)≤(l.length:Int))=false:=decide_eq_false (by omega);simp only [hd];rw [Q3 (by omega)]
theorem zb3 (R:Type) {a b:Int} (ha:0≤a∧a<9223372036854775808) (hb:U64 b) (k:Int→Bool→Option R):F141 R a b k=(if a+b<9223372036854775808 then k (a+b) true else k 0 false):=by
 unfold U64 at hb;simp only [F141,p141,F180,F179,p179,F222,p222];have hd:decide (0≤a∧0≤b∧(0:Int)≤0∧(0:Int)≤1)=true:=decide_eq_true (by omega);simp only [hd,Int.add_zero]
 by_cases h1:a+b<9223372036854775808
 ·have e1:(a+b)/18446744073709551616=0:=by omega
  have e2:(a+b) % 18446744073709551616=a+b:=by omega
  rw [if_pos h1,e1,e2];have n0:((0:Int) !=0)=false:=rfl;simp only [n0,decide_eq_true h1,Bool.not_true]
 ·rw [if_neg h1]
  by_cases h2:a+b<18446744073709551616
  ·have e1:(a+b)/18446744073709551616=0:=by omega
   have e2:(a+b) % 18446744073709551616=a+b:=by omega
   rw [e1,e2];have n0:((0:Int) !=0)=false:=rfl;simp only [n0,decide_eq_false h1,Bool.not_false]
  ·have e1:((a+b)/18446744073709551616 !=0)=true:=by
    have:¬(a+b)/18446744073709551616=0:=by omega
    simp [this]
   simp only [e1]
theorem F128_eq (R:Type) {a b:Int} (ha:0≤a∧a<9223372036854775808) (hb:U64 b) (k:Int→Bool→Option R):F128 R a b k=(if a+b<9223372036854775808 then k (a+b) true else k 0 false):=by
 unfold U64 at hb;simp only [F128,p128];have hd:decide (a≥9223372036854775808)=false:=decide_eq_false (by omega);simp only [hd];rw [Ae (n:=9223372036854775808 - a) (by omega) (by omega)]
 by_cases h1:a+b<9223372036854775808
 ·have hd2:decide (b≥9223372036854775808 - a)=false:=decide_eq_false (by omega)
  rw [if_pos h1];simp only [hd2];rw [Ae (n:=a+b) (by omega) (by omega)]
 ·have hd2:decide (b≥9223372036854775808 - a)=true:=decide_eq_true (by omega)
  rw [if_neg h1];simp only [hd2]
theorem zmt (R:Type) {l:List Int} (h:AllU64 l) (hlen:l.length≤1000000) (k0:Int→Bool→Option R) (k1:Int→Option R):∀(m i:Nat),i≤l.length→l.length - i<m→sumS l i<9223372036854775808→
  P9 m R (sumS l i) l (l.length:Int) (i:Int) k0 k1=(if totS l<9223372036854775808 then k1 (totS l) else k0 0 false)
 | 0,i,_,h,_=>by omega
 | m+1,i,h1,h2,h3=>by
  simp only [P9,zia]
  by_cases hi:i<l.length
  ·have hd:decide ((i:Int)<(l.length:Int))=true:=by simpa using hi
   have hbn:bnd (i:Int) (l.length:Int)=true:=by unfold bnd; simp; omega
   simp only [hd,hbn,Int.toNat_natCast];rw [zb3 R ⟨Av h i,h3⟩ (Ar h Gh i),←Bf hi]
   by_cases h4:sumS l (i+1)<9223372036854775808
   ·rw [if_pos h4]
    simp only [Bool.not_true];rw [wrap_i64 (n:=(i:Int)+1) (by omega) (by omega)];exact zmt R h hlen k0 k1 m (i+1) (by omega) (by omega) h4
   ·rw [if_neg h4,if_neg (by have:=Cr h (i+1); omega)]
    simp only [Bool.not_false]
  ·have:i=l.length:=by omega
   subst this;have hd:decide ((l.length:Int)<(l.length:Int))=false:=by simp
   simp only [hd];rw [if_pos (show totS l<_ from h3)];rfl
theorem M4 (R:Type) {l:List Int} (h:AllU64 l) (hlen:l.length≤1000000) (k:Int→Bool→Option R):F139 R l k=(if totS l<9223372036854775808 then k (totS l) true else k 0 false):=by
 simp only [F139,p139];exact zmt R h hlen (fun x2 x3=>k x2 x3) (fun x4=>k x4 true) FUEL 0 (by omega) (by rw [Ak]; omega) (by rw [C5]; decide)
theorem zl6 (R:Type) {l:List Int} (h:AllU64 l) (hlen:l.length≤1000000) (k0:Int→Bool→Option R) (k1:Int→Option R):∀(m i:Nat),i≤l.length→l.length - i<m→sumS l i<9223372036854775808→
  Z6 m R l (sumS l i) (i:Int) k0 k1=(if totS l<9223372036854775808 then k1 (totS l) else k0 0 false)
 | 0,i,_,h,_=>by omega
 | m+1,i,h1,h2,h3=>by
  simp only [Z6,p86_3]
  by_cases hi:i<l.length
  ·have hd:decide ((i:Int)<(l.length:Int))=true:=by simpa using hi
   have hbn:bnd (i:Int) (l.length:Int)=true:=by unfold bnd; simp; omega
   simp only [hd,hbn,Int.toNat_natCast];rw [F128_eq R ⟨Av h i,h3⟩ (Ar h Gh i),←Bf hi]
   by_cases h4:sumS l (i+1)<9223372036854775808
   ·rw [if_pos h4]
    simp only [Bool.not_true];rw [wrap_i64 (n:=(i:Int)+1) (by omega) (by omega)];exact zl6 R h hlen k0 k1 m (i+1) (by omega) (by omega) h4
   ·rw [if_neg h4,if_neg (by have:=Cr h (i+1); omega)]
    simp only [Bool.not_false]
  ·have:i=l.length:=by omega
   subst this;have hd:decide ((l.length:Int)<(l.length:Int))=false:=by simp
   simp only [hd];rw [if_pos (show totS l<_ from h3)];rfl
theorem zoi (R:Type) {l:List Int} (h:AllU64 l) (hlen:l.length≤1000000) (k:Int→Bool→Option R):F86 R l k=(if totS l<9223372036854775808 then k (totS l) true else k 0 false):=by
 simp only [F86,p86];exact zl6 R h hlen (fun x2 x3=>k x2 x3) (fun x4=>k x4 true) FUEL 0 (by omega) (by rw [Ak]; omega) (by rw [C5]; decide)
end Go.PG
namespace Go.PG
theorem zeh (R:Type) {l:List Int} (h:AllU64 l) (hlen:l.length≤200) (k:(List Int×Unit)→Int→Option R):F192 R l k=(if totS l<9223372036854775808 then k (Cg l,()) 0 else k ([],()) 11):=by
 simp only [F192,p192];have hd:decide ((l.length:Int)>1048576)=false:=decide_eq_false (by omega);simp only [hd];rw [M4 R h (by omega)]
 by_cases ht:totS l<9223372036854775808
 ·rw [if_pos ht,if_pos ht]
  simp only [Bool.not_true,F228];have hc:decide (List.length ([]:List Int)+l.length≤17592186044416)=true:=by simp; omega
  simp only [hc];have:=zah R h ht hlen ([],()) (fun x6 x7=>k (x7,()) 0) FUEL 0 (by omega) (by rw [Ak]; omega);rw [Q2] at this;exact this
 ·rw [if_neg ht,if_neg ht]
  simp only [Bool.not_false]
theorem zx0 (R:Type) {l:List Int} (h:AllU64 l) (hlen:l.length≤200) (k:(List Int×Unit)→Int→Option R):F43 R l k=(if totS l<9223372036854775808 then k (Cg l,()) 0 else k ([],()) 11):=by
 simp only [F43,p43];have hd:decide ((l.length:Int)>1048576)=false:=decide_eq_false (by omega);simp only [hd];rw [zoi R h (by omega)]
 by_cases ht:totS l<9223372036854775808
 ·rw [if_pos ht,if_pos ht]
  simp only [Bool.not_true];rw [F87_eq R h ht (by omega)]
 ·rw [if_neg ht,if_neg ht]
  simp only [Bool.not_false]
theorem zd9 (R:Type) {l:List Int} (h:AllU64 l) (hlen:l.length≤1000000) {x:Int} (hx:x<totS l) (htt:totS l<9223372036854775808) (k0:Int→Int→Option R) (k1:Option R):∀(m i:Nat),i≤l.length→l.length - i<m→sumS l i≤x→∃j,Owns l x j∧Qa m R l (x - sumS l i) (i:Int) k0 k1=k0 (j:Int) 0
 | 0,i,_,h,_=>by omega
 | m+1,i,h1,h2,h3=>by
  simp only [Qa,zie]
  by_cases hi:i<l.length
  ·have hd:decide ((i:Int)<(l.length:Int))=true:=by simpa using hi
   have hbn:bnd (i:Int) (l.length:Int)=true:=by unfold bnd; simp; omega
   have hs:=Bf hi;have hn:=Av h i;simp only [hd,hbn,Int.toNat_natCast]
   by_cases hlt:x - sumS l i<l.getD i 0
   ·simp only [decide_eq_true hlt]
    exact ⟨i,⟨hi,h3,by omega⟩,rfl⟩
   ·simp only [decide_eq_false hlt]
    have q:=(Ar h Gh i).1;rw [Ae (n:=x - sumS l i - l.getD i 0) (by omega) (by omega),wrap_i64 (n:=(i:Int)+1) (by omega) (by omega),show x - sumS l i - l.getD i 0=x - sumS l (i+1) by omega];exact zd9 R h hlen hx htt k0 k1 m (i+1) (by omega) (by omega) (by omega)
  ·have:i=l.length:=by omega
   subst this;have:sumS l l.length=totS l:=rfl;omega
theorem zv5 (R:Type) {l:List Int} (h:AllU64 l) (hlen:l.length≤1000000) {x:Int} (hx:0≤x∧x<totS l) (htt:totS l<9223372036854775808) (k:Int→Int→Option R):∃i,Owns l x i∧F132 R l x k=k (i:Int) 0:=by
 simp only [F132,p132];have:=zd9 R h hlen hx.2 htt (fun x1 x2=>k x1 x2) (k 0 3) FUEL 0 (by omega) (by rw [Ak]; omega) (by rw [C5]; exact hx.1);rw [C5,Int.sub_zero] at this;exact this
def ownN (l:List Int) (x:Int):Nat:=((List.range l.length).find? (fun i=>decide (sumS l i≤x∧x<sumS l (i+1)))).getD 0
theorem Sj {l:List Int} (h:AllU64 l) {x:Int} {i:Nat} (hi:Owns l x i):ownN l x=i:=by
 unfold ownN;cases hf:(List.range l.length).find? (fun i=>decide (sumS l i≤x∧x<sumS l (i+1))) with
 | none=>
  have:=List.find?_eq_none.1 hf i (by simpa using hi.1);simp only [decide_eq_true_eq] at this;exact absurd hi.2 this
 | some j=>
  have h1:=List.find?_some hf;have h2:=List.mem_of_find?_eq_some hf;simp only [decide_eq_true_eq] at h1;have hj:Owns l x j:=⟨by simpa using h2,h1⟩
  exact hj.uniq h hi
def B8 (l:List Int) (s:Src) (m:Int):Int×Src×Int:=
 if totS l<9223372036854775808 then (if totS l=0 then (0,s,10) else if (Bq s (totS l) m).2.2=0 then ((ownN l (Bq s (totS l) m).1:Int),(Bq s (totS l) m).2.1,0) else (0,(Bq s (totS l) m).2.1,(Bq s (totS l) m).2.2)) else (0,s,11)
theorem Hs {n:Int}:∀(m:Nat) (s:Src),0≤(Cv n m s).1
 | 0,s=>Int.le_refl _
 | m+1,s=>by
  simp only [Cv];split
  ·split
   ·rename_i h _
    obtain ⟨_,_,_,g⟩:=Qy h;rw [g];exact (Gi s (atS s) _).1
   ·exact Hs m _
  ·exact Int.le_refl _
theorem Im {s:Src} {n m:Int} (h:(Bq s n m).2.2=0):0≤(Bq s n m).1∧(Bq s n m).1<n:=by
 unfold Bq at h ⊢;split at h
 ·rename_i hc
  rw [if_pos hc];obtain ⟨j,_,_,h3,_⟩:=Sz _ _ h;exact ⟨Hs _ _,h3⟩
 ·simp at h
theorem zou (R:Type) {l:List Int} (h:AllU64 l) (hlen:l.length≤200) (ht:totS l<9223372036854775808) {s:Src} (hs:SOK s) (m:Int) (k:Int→Src→Int→Option R):F230 R (Cg l,()) s m k=k (B8 l s m).1 (B8 l s m).2.1 (B8 l s m).2.2:=by
 simp only [F230,p230];rw [zbw R h ht (by omega)];have hnn:=Av h l.length;unfold B8;rw [if_pos ht]
 by_cases h0:totS l=0
 ·have e:(totS l==0)=true:=by simp [h0]
  rw [if_pos h0];simp only [e]
 ·have e:(totS l==0)=false:=by simp [h0]
  rw [if_neg h0];simp only [e];rw [zot R hs (show U64 (totS l) from by unfold U64; exact ⟨hnn,by omega⟩)]
  by_cases he:(Bq s (totS l) m).2.2=0
  ·have e1:((Bq s (totS l) m).2.2 !=0)=false:=by simp [he]
   rw [if_pos he];simp only [e1];obtain ⟨i,hi,g⟩:=zef R h ht (by omega) (Im he) (fun y7 y8=>k y7 (Bq s (totS l) m).2.1 y8);rw [g,Sj h hi]
  ·have e1:((Bq s (totS l) m).2.2 !=0)=true:=by simp [he]
   rw [if_neg he];simp only [e1]
theorem F88_eq' (R:Type) {l:List Int} (h:AllU64 l) (hlen:l.length≤200) {s:Src} (hs:SOK s) (m:Int) (k:Int→Src→Int→Option R):F88 R l s m k=k (B8 l s m).1 (B8 l s m).2.1 (B8 l s m).2.2:=by
 simp only [F88,p88];rw [zoi R h (by omega)];have hnn:=Av h l.length;unfold B8
 by_cases ht:totS l<9223372036854775808
 ·rw [if_pos ht,if_pos ht]
  simp only [Bool.not_true]
  by_cases h0:totS l=0
  ·have e:(totS l==0)=true:=by simp [h0]
   rw [if_pos h0];simp only [e]
  ·have e:(totS l==0)=false:=by simp [h0]
   rw [if_neg h0];simp only [e];rw [F131_eq R hs (show U64 (totS l) from by unfold U64; exact ⟨hnn,by omega⟩)]
   by_cases he:(Bq s (totS l) m).2.2=0
   ·have e1:((Bq s (totS l) m).2.2 !=0)=false:=by simp [he]
    rw [if_pos he];simp only [e1];obtain ⟨i,hi,g⟩:=zv5 R h (by omega) (Im he) ht (fun y8 _=>k y8 (Bq s (totS l) m).2.1 0);rw [g,Sj h hi]
   ·have e1:((Bq s (totS l) m).2.2 !=0)=true:=by simp [he]
    rw [if_neg he];simp only [e1]
 ·rw [if_neg ht,if_neg ht]
  simp only [Bool.not_false]
end Go.PG
namespace Go.PG
theorem up_ok {c:Nat} (h1:1≤c) (h2:c≤400):c+lowN c - lowN (c+lowN c)≤c - lowN c:=by
 have hchk:((List.range' 1 400).all fun c=>decide (c+lowN c - lowN (c+lowN c)≤c - lowN c))=true:=by kernel_rfl
 exact of_decide_eq_true (List.all_eq_true.1 hchk c (by rw [List.mem_range']; exact ⟨c - 1,by omega,by omega⟩))
theorem zer:((List.range' 1 200).all fun c=>(List.range (lowN c - 1)).all fun d=>decide (c≤c+d+1 - lowN (c+d+1)))=true:=by kernel_rfl
theorem zz7 {c d:Nat} (h1:1≤c) (h2:c≤200) (hd:d+1<lowN c):c≤c+d+1 - lowN (c+d+1):=by
 have:=List.all_eq_true.1 zer c (by rw [List.mem_range']; exact ⟨c - 1,by omega,by omega⟩);exact of_decide_eq_true (List.all_eq_true.1 this d (by rw [List.mem_range]; omega))
theorem zad (R:Type) {l:List Int} (h:AllU64 l) (ht:totS l<9223372036854775808) (hlen:l.length≤200) (k0:List Int→Option R):∀(m i:Nat),i≤l.length→i<m→
  No m R (i:Int) (Fg l i) k0=k0 l
 | 0,i,_,h=>by omega
 | m+1,0,h1,h2=>by
  simp only [No,zc2];have hd:decide (((0:Nat):Int)>0)=false:=by simp
  simp only [hd];rw [Q2]
 | m+1,i+1,h1,h2=>by
  simp only [No,zc2,Uu];have hd:decide (((i+1:Nat):Int)>0)=true:=decide_eq_true (by omega);have hlo:=J9 (n:=i+1) (by omega) (by omega);simp only [hd];rw [Tx R (by omega) (by omega),wrap_i64 (n:=((i+1:Nat):Int)+(lowN (i+1):Int)) (by omega) (by omega),wrap_i64 (n:=((i+1:Nat):Int) - 1) (by omega) (by omega),show ((i+1:Nat):Int) - 1=(i:Int) by omega];have keep:∀q,q+1≠i+1+lowN (i+1)→Dq l (i+1) q=Dq l i q:=fun q hq=>by
   unfold Dq;simp only [Gp];rw [if_neg (by omega)]
  by_cases hup:i+1+lowN (i+1)≤l.length
  ·have hd2:decide (((i+1:Nat):Int)+(lowN (i+1):Int)≤(l.length:Int))=true:=decide_eq_true (by omega)
   rw [wrap_i64 (n:=((i+1:Nat):Int)+(lowN (i+1):Int) - 1) (by omega) (by omega),show ((i+1:Nat):Int)+(lowN (i+1):Int) - 1=((i+lowN (i+1):Nat):Int) by omega];have hb1:bnd ((i+lowN (i+1):Nat):Int) (l.length:Int)=true:=by unfold bnd; simp; omega
   have hb2:bnd (i:Int) (l.length:Int)=true:=by unfold bnd; simp; omega
   simp only [hd2,hb1,hb2,Int.toNat_natCast];rw [J3 (by omega),J3 (by omega)];have q1:Dq l (i+1) i=C6 l i:=K7 (by omega) (by omega) (by omega) (by omega);have qA:=lastA (c:=i+1) (by omega) (by omega);rw [Nat.add_sub_cancel] at qA;have q2:Dq l (i+1) (i+lowN (i+1)) - C6 l i=Dq l i (i+lowN (i+1)):=by
    unfold Dq C6;rw [show i+lowN (i+1)+1=i+1+lowN (i+1) by omega,qA];simp only [Gp,if_true];omega
   have q3:0≤Dq l i (i+lowN (i+1))∧Dq l i (i+lowN (i+1))<18446744073709551616:=by
    unfold Dq;rw [show i+lowN (i+1)+1=i+1+lowN (i+1) by omega,qA];have a1:=Cr h (i+1 - lowN (i+1));have a2:=Av h (i+1+lowN (i+1) - lowN (i+1+lowN (i+1)));have a3:=Ar h Gh (i+lowN (i+1));have a4:sumS l (i+1+lowN (i+1) - lowN (i+1+lowN (i+1)))≤sumS l (i+1 - lowN (i+1)):=Cu h (up_ok (by omega) (by omega));have a5:=Bf (l:=l) (i:=i+lowN (i+1)) (by omega);have a6:=Cr h (i+lowN (i+1)+1);have a7:=Cu h (a:=i+1 - lowN (i+1)) (b:=i+lowN (i+1)) (by omega);unfold U64 at a3;omega
   rw [q1,q2,Ae (by omega) (by omega)];have e:(Fg l (i+1)).set (i+lowN (i+1)) (Dq l i (i+lowN (i+1)))=Fg l i:=by
    apply List.ext_getElem?;intro q;unfold Fg;rw [List.getElem?_set,List.getElem?_map,List.getElem?_map];simp only [List.length_map,List.length_range]
    by_cases hq:q<l.length
    ·rw [List.getElem?_range hq]
     by_cases eq:i+lowN (i+1)=q
     ·subst eq
      rw [if_pos rfl,if_pos hq]; rfl
     ·rw [if_neg eq]
      simp only [Option.map_some];rw [keep q (by omega)]
    ·rw [List.getElem?_eq_none (by simp; omega),if_neg (by omega)]
     rfl
   rw [e];exact zad R h ht hlen k0 m i (by omega) (by omega)
  ·have hd2:decide (((i+1:Nat):Int)+(lowN (i+1):Int)≤(l.length:Int))=false:=decide_eq_false (by omega)
   simp only [hd2];have e:Fg l (i+1)=Fg l i:=by
    unfold Fg;refine List.map_congr_left (fun q hq=>?_);have hq':q<l.length:=by simpa using hq
    rw [keep q (by omega)]
   rw [e];exact zad R h ht hlen k0 m i (by omega) (by omega)
theorem F239_eq (R:Type) {l:List Int} (h:AllU64 l) (ht:totS l<9223372036854775808) (hlen:l.length≤200) (k:List Int→Option R):F239 R (Cg l,()) k=k l:=by
 simp only [F239,p239,F228];have hc:decide (List.length ([]:List Int)+l.length≤17592186044416)=true:=by simp; omega
 simp only [Ey,hc];have:=zad R h ht hlen (fun x3=>k x3) FUEL l.length (Nat.le_refl _) (by rw [Ak]; omega);rw [Q3 (by omega)] at this;exact this
theorem zoo (R:Type) {l:List Int} (h:AllU64 l) (ht:totS l<9223372036854775808) (hlen:l.length≤500) {n:Nat} (hn:n≤l.length) (k:Int→Option R):F274 R (Cg l,()) (n:Int) k=k (sumS l n):=by
 simp only [F274,p274];have:=zab R h ht hlen (fun x1=>k x1) n hn FUEL n (Nat.le_refl _) (by rw [Ak]; omega);rw [Int.sub_self] at this;exact this
theorem F267_eq (R:Type) {l:List Int} (h:AllU64 l) (ht:totS l<9223372036854775808) (hlen:l.length≤500) {i:Nat} (hi:i<l.length) (k:Int→Int→Option R):F267 R (Cg l,()) (i:Int) k=k (l.getD i 0) 0:=by
 simp only [F267,p267,F275,p275,Ey];have d1:decide ((i:Int)<0)=false:=decide_eq_false (by omega);have d2:decide ((i:Int)≥(l.length:Int))=false:=decide_eq_false (by omega);simp only [d1,d2];have hs:=Bf hi;have h0:=Ar h Gh i;unfold U64 at h0;rw [wrap_i64 (n:=(i:Int)+1) (by omega) (by omega),show (i:Int)+1=((i+1:Nat):Int) by omega,zoo R h ht hlen hi,zoo R h ht hlen (by omega),show sumS l (i+1) - sumS l i=l.getD i 0 by omega,Ae (by omega) (by omega)]
theorem R8 {l:List Int} {i:Nat} (hi:i<l.length) (v:Int):∀n:Nat,n≤l.length→sumS (l.set i v) n=sumS l n+(if i<n then v - l.getD i 0 else 0)
 | 0,_=>by simp [C5]
 | n+1,h=>by
  have ih:=R8 hi v n (by omega);rw [Bf (l:=l.set i v) (by rw [List.length_set]; omega),Bf (l:=l) (by omega),ih]
  by_cases e:i=n
  ·subst e
   have e1:(l.set i v).getD i 0=v:=by simp [List.getD_eq_getElem?_getD,hi]
   rw [e1,if_neg (by omega),if_pos (by omega)];omega
  ·have e1:(l.set i v).getD n 0=l.getD n 0:=by simp [List.getD_eq_getElem?_getD,List.getElem?_set,e]
   rw [e1]
   by_cases e2:i<n
   ·rw [if_pos e2,if_pos (by omega)]; omega
   ·rw [if_neg e2,if_neg (by omega)]; omega
theorem AllU64.set0 {l:List Int} (h:AllU64 l) (i:Nat):AllU64 (l.set i 0):=fun x hx=>by
 rcases List.mem_or_eq_of_mem_set hx with hx | hx
 ·exact h x hx
 ·rw [hx]; exact Gh
theorem zz4 {l:List Int} {i:Nat} (hi:i<l.length):totS (l.set i 0)=totS l - l.getD i 0:=by
 have:=R8 hi 0 l.length (Nat.le_refl _);rw [if_pos hi] at this;have e:totS (l.set i 0)=sumS (l.set i 0) l.length:=by unfold totS; rw [List.length_set]
 rw [e,this];show _=sumS l l.length - _
 omega
def setN (l:List Int) (i c q:Nat):Int:=C6 l q - (if q+1<c∧q+1 - lowN (q+1)≤i∧i<q+1 then l.getD i 0 else 0)
def Nx (l:List Int) (i c:Nat):List Int:=(List.range l.length).map (setN l i c)
theorem zrn (l:List Int) (i c:Nat):(Nx l i c).length=l.length:=by simp [Nx]
theorem zro {l:List Int} {i c q:Nat} (h:q<l.length):(Nx l i c).getD q 0=setN l i c q:=by simp [Nx,h]
theorem zes (l:List Int) (i:Nat):Nx l i (i+1)=Cg l:=by
 unfold Nx Cg setN;refine List.map_congr_left (fun q _=>?_);rw [if_neg (by omega)]; omega
theorem zgm {l:List Int} {i c:Nat} (hi:i<l.length) (hc:l.length<c):Nx l i c=Cg (l.set i 0):=by
 unfold Nx Cg;rw [List.length_set];refine List.map_congr_left (fun q hq=>?_);have hq':q<l.length:=by simpa using hq
 unfold setN C6;rw [R8 hi 0 (q+1) (by omega),R8 hi 0 (q+1 - lowN (q+1)) (by omega)]
 by_cases c1:q+1 - lowN (q+1)≤i∧i<q+1
 ·rw [if_pos ⟨by omega,c1⟩,if_pos c1.2,if_neg (by omega)]; omega
 ·rw [if_neg (fun hh=>c1 hh.2)]
  by_cases c2:i<q+1
  ·rw [if_pos c2,if_pos (by omega)]; omega
  ·rw [if_neg c2,if_neg (by omega)]; omega
theorem zmg (R:Type) {l:List Int} (h:AllU64 l) (ht:totS l<9223372036854775808) (hlen:l.length≤200) {i:Nat} (hi:i<l.length) (x4:List Int×Unit) (k0:(List Int×Unit)→List Int→Option R):∀(m c:Nat),1≤c→i<c→c - lowN c≤i→c≤400→401 - c<m→
  Pz m R 0 (l.getD i 0) (c:Int) x4 (Nx l i c) k0=k0 x4 (Cg (l.set i 0))
 | 0,_,_,_,_,_,hh=>by omega
 | m+1,c,h1,h2,h3,h4,h5=>by
  simp only [Pz,zhu,zrn]
  by_cases hc:c≤l.length
  ·have hd:decide ((c:Int)≤(l.length:Int))=true:=decide_eq_true (by omega)
   simp only [hd];have hlo:=J9 (n:=c) h1 (by omega);rw [wrap_i64 (n:=(c:Int) - 1) (by omega) (by omega),show (c:Int) - 1=((c - 1:Nat):Int) by omega];have hb2:bnd ((c - 1:Nat):Int) (l.length:Int)=true:=by unfold bnd; simp; omega
   simp only [hb2,Int.toNat_natCast];rw [zro (by omega)];have v:setN l i c (c - 1)=C6 l (c - 1):=by
    unfold setN;rw [if_neg (by omega)]; omega
   rw [v];have hn:=ze2 h ht (c - 1);have h0:=(Ar h Gh i).1;have hge:l.getD i 0≤C6 l (c - 1):=by
    unfold C6;rw [show c - 1+1=c by omega];have a1:=Cu h h3;have a2:=Bf hi;have a3:=Cu h (show i+1≤c by omega);omega
   rw [Ae (n:=C6 l (c - 1) - l.getD i 0) (by omega) (by omega),Int.add_zero,Ae (n:=C6 l (c - 1) - l.getD i 0) (by omega) (by omega),Tx R h1 (by omega),wrap_i64 (n:=(c:Int)+(lowN c:Int)) (by omega) (by omega),show (c:Int)+(lowN c:Int)=((c+lowN c:Nat):Int) by omega];have e:(Nx l i c).set (c - 1) (C6 l (c - 1) - l.getD i 0)=Nx l i (c+lowN c):=by
    apply List.ext_getElem?;intro q;unfold Nx;rw [List.getElem?_set,List.getElem?_map,List.getElem?_map];simp only [List.length_map,List.length_range]
    by_cases hq:q<l.length
    ·rw [List.getElem?_range hq]
     by_cases eq:c - 1=q
     ·subst eq
      rw [if_pos rfl,if_pos hq];simp only [Option.map_some];unfold setN;rw [show c - 1+1=c by omega,if_pos (by omega)]
     ·rw [if_neg eq]
      simp only [Option.map_some];unfold setN
      congr 2
      by_cases q1:q+1<c
      ·have a:q+1<c+lowN c:=by omega
       simp [q1,a]
      ·have n1:¬(q+1<c∧q+1 - lowN (q+1)≤i∧i<q+1):=fun hh=>q1 hh.1
       rw [if_neg n1]
       by_cases q2:q+1<c+lowN c
       ·have hsk:=zz7 (c:=c) (d:=q - c) h1 (by omega) (by omega)
        rw [show c+(q - c)+1=q+1 by omega] at hsk;rw [if_neg (by omega)]
       ·rw [if_neg (fun hh=>q2 hh.1)]
    ·rw [List.getElem?_eq_none (by simp; omega),if_neg (by omega)]
     rfl
   rw [e];have hup:=up_ok (c:=c) h1 (by omega);exact zmg R h ht hlen hi x4 k0 m (c+lowN c) (by omega) (by omega) (by omega) (by omega) (by omega)
  ·have hd:decide ((c:Int)≤(l.length:Int))=false:=decide_eq_false (by omega)
   simp only [hd];rw [zgm hi (by omega)]
theorem F240_eq (R:Type) {l:List Int} (h:AllU64 l) (ht:totS l<9223372036854775808) (hlen:l.length≤200) {i:Nat} (hi:i<l.length) (k:(List Int×Unit)→Int→Option R):F240 R (Cg l,()) (i:Int) 0 k=k (Cg (l.set i 0),()) 0:=by
 simp only [F240,p240,F228];rw [F267_eq R h ht (by omega) hi];have n0:((0:Int) !=0)=false:=rfl;simp only [n0];rw [zbw R h ht (by omega)];have h0:=(Ar h Gh i).1;have hs:=Bf hi;have ha:=Cr h (i+1);have hz:=Av h i;rw [Ae (n:=totS l - l.getD i 0) (by omega) (by omega),zb3 R (by omega) Gh,if_pos (by omega)];simp only [Bool.not_true];have hc:decide (List.length ([]:List Int)+(Cg l).length≤17592186044416)=true:=by rw [Ey]; simp; omega
 simp only [hc];rw [wrap_i64 (n:=(i:Int)+1) (by omega) (by omega),show (i:Int)+1=((i+1:Nat):Int) by omega];have hlo:=J9 (n:=i+1) (by omega) (by omega);have:=zmg R h ht hlen hi ([],()) (fun x10 x11=>k (x11,()) 0) FUEL (i+1) (by omega) (by omega) (by omega) (by omega) (by rw [Ak]; omega);rw [zes] at this;exact this
end Go.PG
namespace Go.PG
def posN (l:List Int) (i:Nat):Nat:=((l.take i).filter fun x=>decide (x>0)).length
def posS (l:List Int):Int:=(posN l l.length:Int)
theorem Us {l:List Int} {i:Nat} (h:i<l.length):posN l (i+1)=posN l i+(if l.getD i 0>0 then 1 else 0):=by
 unfold posN;rw [List.take_succ_eq_append_getElem h,List.filter_append,List.length_append];have:l.getD i 0=l[i]:=by simp [h]
 rw [this]
 by_cases e:l[i]>0
 ·rw [if_pos e]; simp [List.filter,e]
 ·rw [if_neg e]; simp [List.filter,e]
theorem posN_le (l:List Int) (i:Nat):posN l i≤l.length:=by
 unfold posN;have:=List.length_filter_le (fun x=>decide (x>0)) (l.take i);have:(l.take i).length≤l.length:=by simp; omega
 omega
theorem Tj (R:Type) {l:List Int} (hlen:l.length≤1000000) (k0:Int→Option R):∀(m i:Nat),i≤l.length→l.length - i<m→
  Qg m R (posN l i:Int) l (l.length:Int) (i:Int) k0=k0 (posS l)
 | 0,i,_,h=>by omega
 | m+1,i,h1,h2=>by
  simp only [Qg,zik]
  by_cases hi:i<l.length
  ·have hd:decide ((i:Int)<(l.length:Int))=true:=decide_eq_true (by omega)
   have hbn:bnd (i:Int) (l.length:Int)=true:=by unfold bnd; simp; omega
   simp only [hd,hbn,Int.toNat_natCast];have hs:=Us hi;have hle:=posN_le l i;have e:(i:Int)+1=((i+1:Nat):Int):=by omega
   by_cases hp:l.getD i 0>0
   ·simp only [decide_eq_true hp]
    rw [if_pos hp] at hs;rw [wrap_i64 (n:=(posN l i:Int)+1) (by omega) (by omega),wrap_i64 (n:=(i:Int)+1) (by omega) (by omega),e,show (posN l i:Int)+1=((posN l (i+1):Nat):Int) by omega];exact Tj R hlen k0 m (i+1) (by omega) (by omega)
   ·simp only [decide_eq_false hp]
    rw [if_neg hp] at hs;rw [wrap_i64 (n:=(i:Int)+1) (by omega) (by omega),e,show posN l i=posN l (i+1) by omega];exact Tj R hlen k0 m (i+1) (by omega) (by omega)
  ·have:i=l.length:=by omega
   subst this;have hd:decide ((l.length:Int)<(l.length:Int))=false:=by simp
   simp only [hd];rfl
theorem zej (R:Type) {l:List Int} (hlen:l.length≤1000000) (k:Int→Option R):F109 R l k=k (posS l):=by
 simp only [F109,p109];exact Tj R hlen (fun x1=>k x1) FUEL 0 (by omega) (by rw [Ak]; omega)
theorem zc9 {l:List Int} (h:AllU64 l) (hlen:l.length≤200) (ht:totS l<9223372036854775808) {x:Int} (hx:0≤x∧x<totS l):∃i,Owns l x i∧ownN l x=i:=by
 obtain ⟨i,hi,_⟩:=zef Unit h ht (by omega) hx (fun _ _=>none);exact ⟨i,hi,Sj h hi⟩
theorem zvg {s:Src} (hs:SOK s) {n m:Int} (h:(Bq s n m).2.2=0):SOK (Bq s n m).2.1∧atS s≤atS (Bq s n m).2.1∧∃a,(Bq s n m).2.1=Bx s a:=by
 unfold Bq at h ⊢;split at h
 ·rename_i hc
  rw [if_pos hc];obtain ⟨j,_,_,_,j4,j5,_⟩:=Sz _ _ h;rw [j4];obtain ⟨_,_,l3⟩:=La hs;have l4:=l3 hc.1;have hb:=hs.bits;have h5:(0:Int)≤(B0 n:Int)*j:=Int.mul_nonneg (by omega) (by omega);have h0:=hs.at_;have hend:endS s<18446744073709551616:=by
   rcases Em hc.1 with ⟨_,_,_,r⟩ | ⟨_,_,r⟩
   ·rw [r]; unfold U64 at hb; exact hb.2
   ·rw [r]; omega
  change U64 (atS s) at h0
  change atS s+Dh s=endS s at l4
  unfold U64 at h0;exact ⟨hs.set (by unfold U64; omega),by rw [atS_set]; omega,_,rfl⟩
 ·simp at h
theorem lead_ok {l:List Int} (h:AllU64 l) (hlen:l.length≤200) {s:Src} (hs:SOK s) {m:Int} (he:(B8 l s m).2.2=0):totS l<9223372036854775808∧totS l≠0∧(Bq s (totS l) m).2.2=0∧
  ∃i:Nat,i<l.length∧0<l.getD i 0∧(B8 l s m).1=(i:Int)∧ownN l (Bq s (totS l) m).1=i∧(B8 l s m).2.1=(Bq s (totS l) m).2.1∧SOK (B8 l s m).2.1∧atS s≤atS (B8 l s m).2.1:=by
 unfold B8 at he ⊢
 by_cases ht:totS l<9223372036854775808
 ·rw [if_pos ht] at he ⊢
  by_cases h0:totS l=0
  ·rw [if_pos h0] at he; exact absurd he (by show ¬((10:Int)=0); decide)
  ·rw [if_neg h0] at he ⊢
   by_cases hd:(Bq s (totS l) m).2.2=0
   ·rw [if_pos hd] at he ⊢
    obtain ⟨i,hi,e⟩:=zc9 h hlen ht (Im hd);have h1:=Bf hi.1;have h2:=hi.2;obtain ⟨s1,s2,_⟩:=zvg hs hd;exact ⟨ht,h0,hd,i,hi.1,by omega,by rw [e],e,rfl,s1,s2⟩
   ·rw [if_neg hd] at he; exact absurd he hd
 ·rw [if_neg ht] at he; exact absurd he (by show ¬((11:Int)=0); decide)
def comF (m:Int):Nat→List Int→Src→List Int→List Int×Src×Int
 | 0,_,s,mem=>(mem,s,0)
 | n+1,l,s,mem=>if (B8 l s m).2.2=0 then comF m n (l.set (B8 l s m).1.toNat 0) (B8 l s m).2.1 (mem++[(B8 l s m).1]) else ([],(B8 l s m).2.1,(B8 l s m).2.2)
theorem zri {l:List Int} (h:AllU64 l) {i:Nat} (hi:i<l.length):totS (l.set i 0)≤totS l:=by
 rw [zz4 hi];have:=(Ar h Gh i).1;omega
theorem zmn (R:Type) {c m:Int} (x6:Src) (k0:Int→Src→Option R) (k1:Src→List Int→Src→Option R) (K:List Int→Src→Int→Option R) (h0:∀e s,k0 e s=K [] s e) (h1:∀s l,k1 s l x6=K l s 0):
  ∀(n f:Nat) (l:List Int) (s:Src) (mem:List Int),AllU64 l→totS l<9223372036854775808→l.length≤200→SOK s→(mem.length:Int)+n=c→c≤1000→n<f→Nr f R c m (Cg l,()) s mem x6 k0 k1=K (comF m n l s mem).1 (comF m n l s mem).2.1 (comF m n l s mem).2.2
 | _,0,_,_,_,_,_,_,_,_,_,hf=>by omega
 | 0,f+1,l,s,mem,h,ht,hl,hs,hc,hc1,hf=>by
  simp only [Nr,zc5];have hd:decide ((mem.length:Int)<c)=false:=decide_eq_false (by omega);simp only [hd];rw [h1];rfl
 | n+1,f+1,l,s,mem,h,ht,hl,hs,hc,hc1,hf=>by
  simp only [Nr,zc5];have hd:decide ((mem.length:Int)<c)=true:=decide_eq_true (by omega);simp only [hd];rw [zou R h hl ht hs]
  by_cases he:(B8 l s m).2.2=0
  ·obtain ⟨_,_,_,i,i1,_,i3,_,_,i6,_⟩:=lead_ok h hl hs he
   have e1:((B8 l s m).2.2 !=0)=false:=by simp [he]
   have hcap:∀y:Int,decide (mem.length+List.length [y]≤17592186044416)=true:=fun y=>by simp; omega
   simp only [e1,hcap];simp only [comF];rw [if_pos he,i3,F240_eq R h ht hl i1,Int.toNat_natCast];have n0:((0:Int) !=0)=false:=rfl;simp only [n0];have hd:=zri h i1;exact zmn R x6 k0 k1 K h0 h1 n f (l.set i 0) (B8 l s m).2.1 (mem++[(i:Int)]) (h.set0 i) (by omega) (by simpa using hl) i6 (by simp; omega) hc1 (by omega)
  ·have e1:((B8 l s m).2.2 !=0)=true:=by simp [he]
   simp only [e1,comF];rw [if_neg he,h0]
def comR (l:List Int) (c:Int) (s:Src) (m:Int):List Int×Src×Int:=
 if 0≤c∧c≤256∧A2 s=true∧0<m∧m≤64 then (if posS l<c then ([],s,12) else comF m c.toNat l s []) else ([],s,1)
theorem F238_eq (R:Type) {c m:Int} {s:Src} (hs:SOK s) (k:Bool→Option R):F238 R c s m k=k (decide (0≤c∧c≤256∧A2 s=true∧0<m∧m≤64)):=by
 simp only [F238,p238];rw [Tu R hs]
 by_cases h1:c≥0
 ·simp only [decide_eq_true h1]
  by_cases h2:c≤256
  ·simp only [decide_eq_true h2]
   cases h3:A2 s with
   | true=>
    by_cases h4:m>0
    ·simp only [decide_eq_true h4]
     by_cases h5:m≤64
     ·simp [h1,h2,h4,h5]
     ·simp [h5]
    ·have h4':¬(0<m):=h4
     simp [h4']
   | false=>simp
  ·simp [h2]
 ·have h1':¬(0≤c):=h1
  simp [h1']
theorem F198_eq (R:Type) {l:List Int} (h:AllU64 l) (ht:totS l<9223372036854775808) (hl:l.length≤200) {s:Src} (hs:SOK s) (c m:Int) (k:List Int→Src→Int→Option R):F198 R (Cg l,()) c s m k=k (comR l c s m).1 (comR l c s m).2.1 (comR l c s m).2.2:=by
 simp only [F198,p198];rw [F238_eq R hs];unfold comR
 by_cases hm:0≤c∧c≤256∧A2 s=true∧0<m∧m≤64
 ·rw [if_pos hm]
  simp only [decide_eq_true hm,Bool.not_true];rw [F239_eq R h ht hl,zej R (by omega)]
  by_cases hp:posS l<c
  ·simp only [decide_eq_true hp,if_pos hp]
  ·simp only [decide_eq_false hp,if_neg hp]
   exact zmn R _ _ _ k (fun e s=>rfl) (fun s l=>rfl) c.toNat FUEL l s [] h ht hl hs (by simp; omega) (by omega) (by rw [Ak]; omega)
 ·rw [if_neg hm]
  simp only [decide_eq_false hm,Bool.not_false]
def comL (l:List Int) (c:Int) (s:Src) (m:Int):List Int×Src×Int:=if totS l<9223372036854775808 then comR l c s m else ([],s,11)
theorem F162_eq (R:Type) {l:List Int} (h:AllU64 l) (hl:l.length≤200) {s:Src} (hs:SOK s) (c m:Int) (k:List Int→Src→Int→Option R):F162 R c s m l k=k (comL l c s m).1 (comL l c s m).2.1 (comL l c s m).2.2:=by
 simp only [F162,p162];rw [zeh R h hl];unfold comL
 by_cases ht:totS l<9223372036854775808
 ·rw [if_pos ht,if_pos ht]
  have n0:((0:Int) !=0)=false:=rfl;simp only [n0];rw [F198_eq R h ht hl hs]
 ·rw [if_neg ht,if_neg ht]
  rfl
end Go.PG
namespace Go.PG
end Go.PG
namespace Go.PG
end Go.PG
namespace Go.PG
theorem and32 {x:Int} (hx:U64 x):iand .u64 x 4294967295=x % 4294967296:=by
 have:=zjz hx 32 (by omega);simpa using this
theorem shr32 (x:Int):ishr .u64 x 32=x/4294967296:=by
 unfold ishr;rw [show (2:Int)^(min (32:Int).toNat IntKind.u64.bits)=4294967296 by decide,Int.fdiv_eq_ediv_of_nonneg _ (by omega)]
theorem zcx {a b:Int} (ha:0≤a∧a<4294967296) (hb:0≤b∧b<4294967296):0≤a*b∧a*b≤18446744065119617025:=by
 refine ⟨Int.mul_nonneg ha.1 hb.1,?_⟩;have:a*b≤4294967295*4294967295:=Int.mul_le_mul (by omega) (by omega) hb.1 (by omega);omega
theorem zxz (R:Type) {a b:Int} (ha:U64 a) (hb:U64 b) (k:Int→Int→Option R):F96 R a b k=k (a*b/18446744073709551616) (IntKind.u64.wrap (a*b)):=by
 simp only [F96,p96];simp only [shr32];rw [and32 ha,and32 hb];unfold U64 at ha hb;have hx0:0≤a % 4294967296∧a % 4294967296<4294967296:=by omega
 have hx1:0≤a/4294967296∧a/4294967296<4294967296:=by omega
 have hy0:0≤b % 4294967296∧b % 4294967296<4294967296:=by omega
 have hy1:0≤b/4294967296∧b/4294967296<4294967296:=by omega
 have h00:=zcx hx0 hy0;have h10:=zcx hx1 hy0;have h01:=zcx hx0 hy1;have h11:=zcx hx1 hy1;have hab:a*b=(a/4294967296)*(b/4294967296)*18446744073709551616+((a/4294967296)*(b % 4294967296)+(a % 4294967296)*(b/4294967296))*4294967296+(a % 4294967296)*(b % 4294967296):=by
  have e1:a=a % 4294967296+4294967296*(a/4294967296):=(Int.emod_add_mul_ediv a 4294967296).symm;have e2:b=b % 4294967296+4294967296*(b/4294967296):=(Int.emod_add_mul_ediv b 4294967296).symm;generalize a % 4294967296=x0 at*;generalize a/4294967296=x1 at*;generalize b % 4294967296=y0 at*;generalize b/4294967296=y1 at*;subst e1 e2;rw [Int.mul_add,Int.add_mul,Int.add_mul,Int.mul_assoc 4294967296 x1 y0,Int.mul_left_comm x0 4294967296 y1,Int.mul_assoc 4294967296 x1,Int.mul_left_comm x1 4294967296 y1];omega
 generalize (a % 4294967296)*(b % 4294967296)=p00 at*;generalize (a/4294967296)*(b % 4294967296)=p10 at*;generalize (a % 4294967296)*(b/4294967296)=p01 at*;generalize (a/4294967296)*(b/4294967296)=p11 at*;rw [Ae (n:=p00) (by omega) (by omega),Ae (n:=p10) (by omega) (by omega),Ae (n:=p01) (by omega) (by omega),Ae (n:=p11) (by omega) (by omega)];rw [Ae (n:=p10+p00/4294967296) (by omega) (by omega),and32 (by unfold U64; omega)];rw [Ae (n:=(p10+p00/4294967296) % 4294967296+p01) (by omega) (by omega)];rw [Ae (n:=p11+(p10+p00/4294967296)/4294967296) (by omega) (by omega)]
 rw [Ae (n:=p11+(p10+p00/4294967296)/4294967296+((p10+p00/4294967296) % 4294967296+p01)/4294967296) (by omega) (by omega)]
 congr 1
 rw [hab];omega
theorem zop (R:Type) {a b:Int} (ha:U64 a) (hb:U64 b) (k:Int→Bool→Option R):F258 R a b k=(if a*b<9223372036854775808 then k (a*b) true else k 0 false):=by
 simp only [F258,p258];rw [zxz R ha hb];simp only [F179,p179,F222,p222];have h0:0≤a*b:=Int.mul_nonneg ha.1 hb.1;generalize a*b=p at*
 by_cases h1:p<9223372036854775808
 ·have e1:p/18446744073709551616=0:=by omega
  have n0:((0:Int) !=0)=false:=rfl;rw [if_pos h1,e1,Ae (by omega) (by omega)];simp only [n0,decide_eq_true h1,Bool.not_true]
 ·rw [if_neg h1]
  by_cases h2:p<18446744073709551616
  ·have e1:p/18446744073709551616=0:=by omega
   have n0:((0:Int) !=0)=false:=rfl;rw [e1,Ae (by omega) (by omega)];simp only [n0,decide_eq_false h1,Bool.not_false]
  ·have e1:(p/18446744073709551616 !=0)=true:=by
    have:¬p/18446744073709551616=0:=by omega
    simp [this]
   simp only [e1]
abbrev H7:=Int×(Int×Unit)
abbrev TabA:=Int×(List H7×Unit)
def badC (t:TabA) (c:H7):Bool:=decide (c.1>t.1)||(decide (c.2.1<0)||decide (c.2.1≥(t.2.1.length:Int)))
def Iu (t:TabA):Bool:=decide ((t.2.1.length:Int)*t.1<9223372036854775808)&&(!((t.2.1.length:Int)==0)&&(!(t.1==0)&& !(t.2.1.any (badC t))))
theorem F261_eq (R:Type) (c:H7) (t:TabA) (k:Bool→TabA→Option R):F261 R c t k=k (badC t c) t:=by
 simp only [F261,p261,badC];cases decide (c.1>t.1) with
 | true=>rfl
 | false=>
  cases decide (c.2.1<0) with
  | true=>rfl
  | false=>rfl
theorem Rt (R:Type) (t:TabA) (l:List H7) (hlen:l.length≤1000000) (k0:Int→TabA→Option R) (k1:TabA→Option R) (K:Bool→TabA→Option R) (h0:∀i:Int,0≤i→k0 i t=K true t) (h1:k1 t=K false t):
  ∀(m i:Nat),i≤l.length→l.length - i<m→A6 m R l (l.length:Int) (i:Int) t k0 k1=K ((l.drop i).any (badC t)) t
 | 0,i,_,h=>by omega
 | m+1,i,h2,h3=>by
  simp only [A6,J4]
  by_cases hi:i<l.length
  ·have hd:decide ((i:Int)<(l.length:Int))=true:=by simpa using hi
   have hbn:bnd (i:Int) (l.length:Int)=true:=by unfold bnd; simp; omega
   simp only [hd,hbn,Int.toNat_natCast];rw [F261_eq,List.drop_eq_getElem_cons hi,List.any_cons];have hg:l.getD i ((0:Int),(0:Int),())=l[i]:=by simp [hi]
   rw [hg];cases hb:badC t l[i] with
   | true=>simpa using h0 (i:Int) (by omega)
   | false=>
    simp only [Bool.false_or];rw [wrap_i64 (n:=(i:Int)+1) (by omega) (by omega)];exact Rt R t l hlen k0 k1 K h0 h1 m (i+1) (by omega) (by omega)
  ·have:i=l.length:=by omega
   subst this;have hd:decide ((l.length:Int)<(l.length:Int))=false:=by simp
   simp only [hd];rw [h1,List.drop_length];rfl
theorem Tw (R:Type) {t:TabA} (ht:U64 t.1) (hlen:t.2.1.length≤1000) (k:Bool→Option R):F234 R t k=k (Iu t):=by
 simp only [F234,p234];rw [Ae (n:=(t.2.1.length:Int)) (by omega) (by omega),zop R (by unfold U64; omega) ht];unfold Iu
 by_cases h1:(t.2.1.length:Int)*t.1<9223372036854775808
 ·rw [if_pos h1]
  simp only [decide_eq_true h1,Bool.not_true,Bool.true_and];cases e1:((t.2.1.length:Int)==0) with
  | true=>rfl
  | false=>
   cases e2:(t.1==0) with
   | true=>rfl
   | false=>
    simp only [Bool.not_false,Bool.true_and,Ds,Xl,Dg,Xj];have:=Rt R t t.2.1 (by omega) (fun x2 x3=>k !decide (x2≥0)) (fun x4=>k !decide ((-1:Int)≥0)) (fun b _=>k !b) (fun i hi=>by simp [hi]) (by rfl) FUEL 0 (by omega) (by rw [Ak]; omega);simpa using this
 ·rw [if_neg h1]
  simp only [decide_eq_false h1,Bool.not_false,Bool.false_and]
theorem Sc {t:TabA} (h:Iu t=true):(t.2.1.length:Int)*t.1<9223372036854775808∧t.2.1.length≠0∧t.1≠0∧∀c∈t.2.1,c.1≤t.1∧0≤c.2.1∧c.2.1<(t.2.1.length:Int):=by
 simp only [Iu,Bool.and_eq_true,Bool.not_eq_true',decide_eq_true_eq] at h;obtain ⟨h1,h2,h3,h4⟩:=h;refine ⟨h1,fun e=>by simp [e] at h2,fun e=>by simp [e] at h3,fun c hc=>?_⟩;have:=List.any_eq_false.1 h4 c hc;simp only [badC,Bool.not_eq_true,Bool.or_eq_false_iff,decide_eq_false_iff_not] at this;omega
theorem zos (R:Type) {t:TabA} (ht:U64 t.1) (hlen:t.2.1.length≤1000) (k:Int→Option R):F236 R t k=k (if Iu t=true then (t.2.1.length:Int)*t.1 else 0):=by
 simp only [F236,p236];rw [Tw R ht hlen];cases h:Iu t with
 | false=>rfl
 | true=>
  obtain ⟨h1,h2,h3,h4⟩:=Sc h;have h0:0≤(t.2.1.length:Int)*t.1:=Int.mul_nonneg (by omega) ht.1;simp only [Bool.not_true,if_true];rw [Ae (n:=(t.2.1.length:Int)) (by omega) (by omega),Ae h0 (by omega)]
def ownT (t:TabA) (u:Int):Int:=if u % t.1<(t.2.1.getD (u/t.1).toNat (0,0,())).1 then u/t.1 else (t.2.1.getD (u/t.1).toNat (0,0,())).2.1
theorem col_T {t:TabA} (ht:U64 t.1) (h:Iu t=true) {u:Int} (hu:0≤u∧u<(t.2.1.length:Int)*t.1):0≤u/t.1∧u/t.1<(t.2.1.length:Int)∧0≤u % t.1∧u % t.1<t.1:=by
 obtain ⟨h1,h2,h3,h4⟩:=Sc h;have hp:0<t.1:=by have:=ht.1; omega
 exact ⟨Int.ediv_nonneg hu.1 (by omega),Int.ediv_lt_of_lt_mul hp hu.2,Int.emod_nonneg _ h3,Int.emod_lt_of_pos _ hp⟩
theorem F237_eq (R:Type) {t:TabA} (ht:U64 t.1) (hlen:t.2.1.length≤1000) (h:Iu t=true) {u:Int} (hu:0≤u∧u<(t.2.1.length:Int)*t.1) (k:Int→Int→Option R):F237 R t u k=k (ownT t u) 0:=by
 simp only [F237,p237];rw [Tw R ht hlen];simp only [h,Bool.not_true];rw [zos R ht hlen];obtain ⟨h1,h2,h3,h4⟩:=Sc h;obtain ⟨c1,c2,c3,c4⟩:=col_T ht h hu;have e0:(t.1==0)=false:=by simp [h3]
 have ed:decide (u≥(t.2.1.length:Int)*t.1)=false:=decide_eq_false (by omega);simp only [h,if_true,ed,e0,Bool.not_false];rw [Int.tdiv_eq_ediv_of_nonneg hu.1,Int.tmod_eq_emod_of_nonneg hu.1,Ae (n:=u/t.1) c1 (by omega),wrap_i64 (n:=u/t.1) (by omega) (by omega)];simp only [F265,p265,F280,p280];rw [Tw R ht hlen];have d1:decide (u/t.1<0)=false:=decide_eq_false (by omega);have d2:decide (u/t.1≥(t.2.1.length:Int))=false:=decide_eq_false (by omega);have d3:decide (u % t.1≥t.1)=false:=decide_eq_false (by omega);have d4:bnd (u/t.1) (t.2.1.length:Int)=true:=by unfold bnd; simp; omega
 have n0:((0:Int) !=0)=false:=rfl;simp only [h,Bool.not_true,d1,d2,n0,d3,d4];unfold ownT
 by_cases hc:u % t.1<(t.2.1.getD (u/t.1).toNat (0,0,())).1
 ·rw [if_pos hc]
  simp only [decide_eq_false (show ¬(u % t.1≥(t.2.1.getD (u/t.1).toNat (0,0,())).1) by omega)]
 ·rw [if_neg hc]
  simp only [decide_eq_true (show (u % t.1≥(t.2.1.getD (u/t.1).toNat (0,0,())).1) by omega)]
def zhb (t:TabA) (s:Src) (m:Int):Int×Src×Int:=
 if Iu t=true then (if (Bq s ((t.2.1.length:Int)*t.1) m).2.2=0 then (ownT t (Bq s ((t.2.1.length:Int)*t.1) m).1,(Bq s ((t.2.1.length:Int)*t.1) m).2.1,0)
  else (0,(Bq s ((t.2.1.length:Int)*t.1) m).2.1,(Bq s ((t.2.1.length:Int)*t.1) m).2.2)) else (0,s,1)
theorem F195_eq (R:Type) {t:TabA} (ht:U64 t.1) (hlen:t.2.1.length≤1000) {s:Src} (hs:SOK s) (m:Int) (k:Int→Src→Int→Option R):F195 R t s m k=k (zhb t s m).1 (zhb t s m).2.1 (zhb t s m).2.2:=by
 simp only [F195,p195];rw [Tw R ht hlen];unfold zhb;cases h:Iu t with
 | false=>rfl
 | true=>
  obtain ⟨h1,h2,h3,h4⟩:=Sc h;have h0:0≤(t.2.1.length:Int)*t.1:=Int.mul_nonneg (by omega) ht.1;simp only [Bool.not_true,if_true];rw [zos R ht hlen];simp only [h,if_true];rw [zot R hs (show U64 ((t.2.1.length:Int)*t.1) from by unfold U64; omega)]
  by_cases he:(Bq s ((t.2.1.length:Int)*t.1) m).2.2=0
  ·have e1:((Bq s ((t.2.1.length:Int)*t.1) m).2.2 !=0)=false:=by simp [he]
   rw [if_pos he];simp only [e1];rw [F237_eq R ht hlen h (Im he)]
  ·have e1:((Bq s ((t.2.1.length:Int)*t.1) m).2.2 !=0)=true:=by simp [he]
   rw [if_neg he];simp only [e1]
end Go.PG
namespace Go.PG
def popI (l:List Int):Int:=l.getD (l.length - 1) 0
def cutL (l:List Int):List Int:=l.take (l.length - 1)
theorem zrz (a:List Int) (x:Int):popI (a++[x])=x:=by simp [popI]
theorem zvi (a:List Int) (x:Int):cutL (a++[x])=a:=by simp [cutL]
theorem R9 {l:List Int} (h:l.length≠0):∃a x,l=a++[x]:=by
 rcases List.eq_nil_or_concat l with rfl | ⟨a,x,rfl⟩
 ·simp at h
 ·exact ⟨a,x,by simp⟩
def Fz (T:Int) (h:List Int) (i k:Int):List Int:=h.set k.toNat (h.getD k.toNat 0 - (T - h.getD i.toNat 0))
def runA (T:Int):Nat→List Int→List H7→List Int→List Int→List Int×(List H7×(List Int×List Int))
 | 0,h,c,sm,la=>(h,c,sm,la)
 | f+1,h,c,sm,la=>if sm.length=0∨la.length=0 then (h,c,sm,la) else
   if (Fz T h (popI sm) (popI la)).getD (popI la).toNat 0<T then runA T f (Fz T h (popI sm) (popI la)) (c.set (popI sm).toNat (h.getD (popI sm).toNat 0,popI la,())) (cutL sm++[popI la]) (cutL la)
   else runA T f (Fz T h (popI sm) (popI la)) (c.set (popI sm).toNat (h.getD (popI sm).toNat 0,popI la,())) (cutL sm) (cutL la++[popI la])
structure IA (T:Int) (n:Nat) (h:List Int) (c:List H7) (sm la:List Int):Prop where
 hl:h.length=n
 cl:c.length=n
 ix:∀x∈sm++la,0≤x∧x<(n:Int)
 nd:(sm++la).Nodup
 sml:∀x∈sm,0≤h.getD x.toNat 0∧h.getD x.toNat 0<T
 lrg:∀x∈la,T≤h.getD x.toNat 0∧h.getD x.toNat 0<9223372036854775808
theorem U4 (h:List Int) {i j:Nat} (v:Int) (hij:i≠j):(h.set i v).getD j 0=h.getD j 0:=by
 simp [List.getD_eq_getElem?_getD,List.getElem?_set,hij]
theorem Na (h:List Int) {i:Nat} (v:Int) (hi:i<h.length):(h.set i v).getD i 0=v:=by
 simp [List.getD_eq_getElem?_getD,hi]
theorem perm1 (s0 l0:List Int) (i k:Int):((s0++[i])++(l0++[k])).Perm (i::((s0++[k])++l0)):=by
 rw [List.append_assoc,List.append_assoc];refine List.perm_middle.trans (.cons i (List.Perm.append_left s0 ?_));exact (List.perm_append_comm:(l0++[k]).Perm ([k]++l0))
theorem perm2 (s0 l0:List Int) (i k:Int):((s0++[i])++(l0++[k])).Perm (i::(s0++(l0++[k]))):=by
 rw [List.append_assoc];exact List.perm_middle
theorem IA.facts {T:Int} {n:Nat} {h:List Int} {c:List H7} {s0 l0:List Int} {i k:Int} (hI:IA T n h c (s0++[i]) (l0++[k])):
  (0≤i∧i<(n:Int))∧(0≤k∧k<(n:Int))∧i≠k∧(∀x∈s0,x≠i∧x≠k∧0≤x)∧(∀x∈l0,x≠i∧x≠k∧0≤x):=by
 have hn:=(perm1 s0 l0 i k).nodup_iff.1 hI.nd;rw [List.nodup_cons] at hn;obtain ⟨h1,h2⟩:=hn;have h3:(k::(s0++l0)).Nodup:=by
  rw [List.append_assoc] at h2;exact (List.perm_middle (l₁:=s0) (l₂:=l0) (a:=k)).nodup_iff.1 h2
 rw [List.nodup_cons] at h3;have hm:∀x,x∈s0∨x∈l0→x≠i∧x≠k∧0≤x:=fun x hx=>by
  refine ⟨fun e=>h1 ?_,fun e=>h3.1 ?_,(hI.ix x ?_).1⟩
  ·subst e; simp; rcases hx with hx | hx<;>simp [hx]
  ·subst e; simpa using hx
  ·simp; rcases hx with hx | hx<;>simp [hx]
 refine ⟨hI.ix i (by simp),hI.ix k (by simp),fun e=>h1 ?_,fun x hx=>hm x (.inl hx),fun x hx=>hm x (.inr hx)⟩;subst e; simp
theorem IA.step {T:Int} {n:Nat} {h:List Int} {c:List H7} {s0 l0:List Int} {i k:Int} (hI:IA T n h c (s0++[i]) (l0++[k])):
  (0≤(Fz T h i k).getD k.toNat 0∧(Fz T h i k).getD k.toNat 0<9223372036854775808∧(Fz T h i k).getD k.toNat 0=h.getD k.toNat 0 - (T - h.getD i.toNat 0))∧
  ((Fz T h i k).getD k.toNat 0<T→IA T n (Fz T h i k) (c.set i.toNat (h.getD i.toNat 0,k,())) (s0++[k]) l0)∧
  (¬(Fz T h i k).getD k.toNat 0<T→IA T n (Fz T h i k) (c.set i.toNat (h.getD i.toNat 0,k,())) s0 (l0++[k])):=by
 obtain ⟨hi,hk,hik,hs,hl⟩:=hI.facts;have hkl:k.toNat<h.length:=by rw [hI.hl]; omega
 have ek:(Fz T h i k).getD k.toNat 0=h.getD k.toNat 0 - (T - h.getD i.toNat 0):=Na h _ hkl;have b1:=hI.sml i (by simp);have b2:=hI.lrg k (by simp);have same:∀x:Int,0≤x→x≠k→(Fz T h i k).getD x.toNat 0=h.getD x.toNat 0:=fun x h0 hx=>U4 h _ (by omega)
 have hn1:=((perm1 s0 l0 i k).nodup_iff.1 hI.nd)
 have hn2:=((perm2 s0 l0 i k).nodup_iff.1 hI.nd)
 rw [List.nodup_cons] at hn1 hn2;refine ⟨⟨by omega,by omega,ek⟩,fun hlt=>⟨by simp [Fz,hI.hl],by simp [hI.cl],fun x hx=>hI.ix x ?_,hn1.2,fun x hx=>?_,fun x hx=>?_⟩,fun hge=>⟨by simp [Fz,hI.hl],by simp [hI.cl],fun x hx=>hI.ix x ?_,hn2.2,fun x hx=>?_,fun x hx=>?_⟩⟩
 ·simp at hx ⊢; rcases hx with hx | hx | hx<;>simp [hx]
 ·rcases List.mem_append.1 hx with hx | hx
  ·have:=hs x hx
   rw [same x this.2.2 this.2.1]; exact hI.sml x (by simp [hx])
  ·simp at hx; subst hx; omega
 ·have:=hl x hx
  rw [same x this.2.2 this.2.1]; exact hI.lrg x (by simp [hx])
 ·simp at hx ⊢; rcases hx with hx | hx | hx<;>simp [hx]
 ·have:=hs x hx
  rw [same x this.2.2 this.2.1]; exact hI.sml x (by simp [hx])
 ·rcases List.mem_append.1 hx with hx | hx
  ·have:=hl x hx
   rw [same x this.2.2 this.2.1]; exact hI.lrg x (by simp [hx])
  ·simp at hx; subst hx; omega
theorem Ue {T:Int} {f:Nat} {h:List Int} {c:List H7} {s0 l0:List Int} {i k:Int}:runA T (f+1) h c (s0++[i]) (l0++[k])=
  if (Fz T h i k).getD k.toNat 0<T then runA T f (Fz T h i k) (c.set i.toNat (h.getD i.toNat 0,k,())) (s0++[k]) l0 else runA T f (Fz T h i k) (c.set i.toNat (h.getD i.toNat 0,k,())) s0 (l0++[k]):=by
 simp only [runA,zrz,zvi];rw [if_neg (by simp)]
theorem Oo {T:Int} {f:Nat} {h:List Int} {c:List H7} {sm la:List Int} (hs:sm.length=0∨la.length=0):runA T f h c sm la=(h,c,sm,la):=by
 cases f with
 | zero=>rfl
 | succ f=>simp only [runA]; rw [if_pos hs]
theorem M0 (R:Type) {T:Int} {n:Nat} (hT:0<T∧T<9223372036854775808) (hn:n≤1000) (x1:TabA) (k0:TabA→List Int→List H7→List Int→List Int→(Int×Unit)→Option R):
  ∀(f m:Nat) (h:List Int) (c:List H7) (sm la:List Int),IA T n h c sm la→sm.length+la.length≤f→f≤10000→f<m→
   Fx m R x1 h c sm la (T,()) k0=k0 x1 (runA T f h c sm la).1 (runA T f h c sm la).2.1 (runA T f h c sm la).2.2.1 (runA T f h c sm la).2.2.2 (T,())
 | f,0,_,_,_,_,_,_,_,hm=>by omega
 | f,m+1,h,c,sm,la,hI,hf,hf2,hm=>by
  simp only [Fx,Xo]
  by_cases hs:sm.length=0
  ·have hd:decide ((sm.length:Int)>0)=false:=decide_eq_false (by omega)
   simp only [hd];rw [Oo (.inl hs)]
  ·have hd:decide ((sm.length:Int)>0)=true:=decide_eq_true (by omega)
   simp only [hd]
   by_cases hl:la.length=0
   ·have hd:decide ((la.length:Int)>0)=false:=decide_eq_false (by omega)
    simp only [hd];rw [Oo (.inr hl)]
   ·have hd:decide ((la.length:Int)>0)=true:=decide_eq_true (by omega)
    simp only [hd];obtain ⟨s0,i,rfl⟩:=R9 hs;obtain ⟨l0,k,rfl⟩:=R9 hl;obtain ⟨hi,hk,hik,hms,hml⟩:=hI.facts;obtain ⟨⟨e0,e1,e2⟩,st1,st2⟩:=hI.step;have b1:=hI.sml i (by simp);have b2:=hI.lrg k (by simp);have ls:((s0++[i]).length:Int)=(s0.length:Int)+1:=by simp
    have ll:((l0++[k]).length:Int)=(l0.length:Int)+1:=by simp
    simp only [List.length_append,List.length_cons,List.length_nil] at hf;rw [ls,ll,show (s0.length:Int)+1 - 1=(s0.length:Int) by omega,show (l0.length:Int)+1 - 1=(l0.length:Int) by omega,wrap_i64 (n:=(s0.length:Int)) (by omega) (by omega),wrap_i64 (n:=(l0.length:Int)) (by omega) (by omega)];have d1:bnd (s0.length:Int) ((s0.length:Int)+1)=true:=by unfold bnd; simp; omega
    have d2:bnd (l0.length:Int) ((l0.length:Int)+1)=true:=by unfold bnd; simp; omega
    have d3:decide (0≤(s0.length:Int)∧(s0.length:Int)≤(s0.length:Int)+1)=true:=decide_eq_true (by omega);have d4:decide (0≤(l0.length:Int)∧(l0.length:Int)≤(l0.length:Int)+1)=true:=decide_eq_true (by omega);have g1:(s0++[i]).getD s0.length 0=i:=by simp
    have g2:(l0++[k]).getD l0.length 0=k:=by simp
    have t1:(s0++[i]).take s0.length=s0:=by simp
    have t2:(l0++[k]).take l0.length=l0:=by simp
    have d5:bnd i (h.length:Int)=true:=by rw [hI.hl]; unfold bnd; simp; omega
    have d6:bnd i (c.length:Int)=true:=by rw [hI.cl]; unfold bnd; simp; omega
    have d7:bnd k (h.length:Int)=true:=by rw [hI.hl]; unfold bnd; simp; omega
    simp only [d1,d2,d3,d4,Int.toNat_natCast,g1,g2,t1,t2,d5,d6,d7,List.length_set];rw [Ae (n:=T - h.getD i.toNat 0) (by omega) (by omega),Ae (n:=h.getD k.toNat 0 - (T - h.getD i.toNat 0)) (by omega) (by omega)]
    change (match decide ((Fz T h i k).getD k.toNat 0<T) with
     | true=>_
     | false=>_)=_
    cases f with
    | zero=>omega
    | succ f=>
     rw [Ue]
     by_cases hlt:(Fz T h i k).getD k.toNat 0<T
     ·have dc:decide (s0.length+[k].length≤17592186044416)=true:=decide_eq_true (by simp; omega)
      rw [if_pos hlt];simp only [decide_eq_true hlt,dc];exact M0 R hT hn x1 k0 f m _ _ _ _ (st1 hlt) (by simp; omega) (by omega) (by omega)
     ·have dc:decide (l0.length+[k].length≤17592186044416)=true:=decide_eq_true (by simp; omega)
      rw [if_neg hlt];simp only [decide_eq_false hlt,dc];exact M0 R hT hn x1 k0 f m _ _ _ _ (st2 hlt) (by simp; omega) (by omega) (by omega)
end Go.PG
namespace Go.PG
theorem zgl {α:Type} (A:List α) (z v:α) (m:Nat) {i:Nat} (hi:A.length=i):(A++List.replicate (m+1) z).set i v=A++[v]++List.replicate m z:=by
 subst hi;rw [List.set_append_right _ _ (Nat.le_refl _),Nat.sub_self,List.replicate_succ,List.set_cons_zero];simp
def hasP (n:Int) (l:List Int) (i:Nat):List Int:=(l.take i).map (fun v=>n*v)++List.replicate (l.length - i) 0
def ceP (T:Int) (i:Nat):List H7:=(List.range i).map (fun j:Nat=>(T,(j:Int),()))
def smP (T n:Int) (l:List Int) (i:Nat):List Int:=((List.range i).filter (fun j=>decide (n*l.getD j 0<T))).map (fun j:Nat=>(j:Int))
def laP (T n:Int) (l:List Int) (i:Nat):List Int:=((List.range i).filter (fun j=> !decide (n*l.getD j 0<T))).map (fun j:Nat=>(j:Int))
theorem N8 {n:Int} {l:List Int} {i:Nat} (h:i≤l.length):(hasP n l i).length=l.length:=by simp [hasP]; omega
theorem zdf {n:Int} {l:List Int} {i:Nat} (h:i<l.length):(hasP n l i).set i (n*l.getD i 0)=hasP n l (i+1):=by
 unfold hasP;rw [show l.length - i=(l.length - (i+1))+1 by omega,zgl _ _ _ _ (by simp; omega),List.take_succ_eq_append_getElem h,List.map_append];simp only [List.getD_eq_getElem?_getD,List.getElem?_eq_getElem h,Option.getD_some,List.map_cons,List.map_nil]
theorem zvj (T:Int) (i:Nat):ceP T i++[(T,(i:Int),())]=ceP T (i+1):=by simp [ceP,List.range_succ]
theorem zv9 {T n:Int} {l:List Int} {i:Nat} (h:n*l.getD i 0<T):smP T n l i++[(i:Int)]=smP T n l (i+1)∧laP T n l i=laP T n l (i+1):=by
 unfold smP laP;rw [List.range_succ,List.filter_append,List.filter_append,List.map_append,List.map_append];have e1:[i].filter (fun j=>decide (n*l.getD j 0<T))=[i]:=by rw [List.filter_cons,if_pos (decide_eq_true h)]; rfl
 have e2:[i].filter (fun j=> !decide (n*l.getD j 0<T))=[]:=by rw [List.filter_cons,if_neg (by simp only [decide_eq_true h]; simp)]; rfl
 rw [e1,e2];simp
theorem zwa {T n:Int} {l:List Int} {i:Nat} (h:¬n*l.getD i 0<T):smP T n l i=smP T n l (i+1)∧laP T n l i++[(i:Int)]=laP T n l (i+1):=by
 unfold smP laP;rw [List.range_succ,List.filter_append,List.filter_append,List.map_append,List.map_append];have e1:[i].filter (fun j=>decide (n*l.getD j 0<T))=[]:=by rw [List.filter_cons,if_neg (by simp only [decide_eq_false h]; simp)]; rfl
 have e2:[i].filter (fun j=> !decide (n*l.getD j 0<T))=[i]:=by rw [List.filter_cons,if_pos (by simp only [decide_eq_false h]; simp)]; rfl
 rw [e1,e2];simp
theorem zgh (T n:Int) (l:List Int) (i:Nat):(smP T n l i).length+(laP T n l i).length≤i:=by
 induction i with
 | zero=>simp [smP,laP]
 | succ i ih=>
  by_cases h:n*l.getD i 0<T
  ·obtain ⟨h1,h2⟩:=zv9 h
   rw [←h1,←h2]; simp; omega
  ·obtain ⟨h1,h2⟩:=zwa h
   rw [←h1,←h2]; simp; omega
theorem zfg {l:List Int} (h:AllU64 l) (i:Nat):l.getD i 0≤totS l:=by
 by_cases hi:i<l.length
 ·have h1:=Bf hi
  have h2:=Av h i;have h3:=Cr h (i+1);omega
 ·have:l.getD i 0=0:=by simp [List.getD_eq_getElem?_getD,List.getElem?_eq_none (show l.length≤i by omega)]
  rw [this];exact Av h l.length
theorem Xi {l:List Int} (h:AllU64 l) (hb:(l.length:Int)*totS l<9223372036854775808) (i:Nat):0≤(l.length:Int)*l.getD i 0∧(l.length:Int)*l.getD i 0<9223372036854775808:=by
 have h1:=(Ar h Gh i).1;have h2:=zfg h i;have h3:(l.length:Int)*l.getD i 0≤(l.length:Int)*totS l:=Int.mul_le_mul_of_nonneg_left h2 (by omega);exact ⟨Int.mul_nonneg (by omega) h1,by omega⟩
theorem P2 (R:Type) {l:List Int} (h:AllU64 l) (hlen:l.length≤1000) {T:Int} (hb:(l.length:Int)*totS l<9223372036854775808) (x6:TabA) (k0:TabA→List Int→List H7→List Int→List Int→(Int×Unit)→Option R):
  ∀(m i:Nat),i≤l.length→l.length - i<m→Kp m R l T l (l.length:Int) (i:Int) x6 (hasP (l.length:Int) l i) (ceP T i) (smP T (l.length:Int) l i) (laP T (l.length:Int) l i) (T,()) k0=
   k0 x6 (hasP (l.length:Int) l l.length) (ceP T l.length) (smP T (l.length:Int) l l.length) (laP T (l.length:Int) l l.length) (T,())
 | 0,i,_,hm=>by omega
 | m+1,i,h1,h2=>by
  simp only [Kp,zhz]
  by_cases hi:i<l.length
  ·have hd:decide ((i:Int)<(l.length:Int))=true:=by simpa using hi
   have hbn:bnd (i:Int) (l.length:Int)=true:=by unfold bnd; simp; omega
   have hp:=Xi h hb i;have hsl:=zgh T (l.length:Int) l i;have cl:(ceP T i).length=i:=by simp [ceP]
   have dc:decide ((ceP T i).length+[(T,(i:Int),())].length≤8796093022208)=true:=decide_eq_true (by rw [cl]; simp; omega);have ew:IntKind.u64.wrap (l.getD i 0*IntKind.u64.wrap (l.length:Int))=(l.length:Int)*l.getD i 0:=by
    rw [Ae (n:=(l.length:Int)) (by omega) (by omega),Int.mul_comm (l.getD i 0),Ae (n:=(l.length:Int)*l.getD i 0) hp.1 (by omega)]
   simp only [hd,hbn,Int.toNat_natCast,N8 (n:=(l.length:Int)) h1,dc,ew,zdf hi,zvj,N8 (n:=(l.length:Int)) (show i+1≤l.length by omega)];have hg:(hasP (l.length:Int) l (i+1)).getD i 0=(l.length:Int)*l.getD i 0:=by
    rw [←zdf hi,Na _ _ (by rw [N8 h1]; exact hi)]
   simp only [hbn,hg]
   by_cases hlt:(l.length:Int)*l.getD i 0<T
   ·obtain ⟨q1,q2⟩:=zv9 hlt
    have dd:decide ((smP T (l.length:Int) l i).length+[(i:Int)].length≤17592186044416)=true:=decide_eq_true (by simp; omega);simp only [decide_eq_true hlt,dd];rw [q1,q2,wrap_i64 (n:=(i:Int)+1) (by omega) (by omega)];exact P2 R h hlen hb x6 k0 m (i+1) (by omega) (by omega)
   ·obtain ⟨q1,q2⟩:=zwa hlt
    have dd:decide ((laP T (l.length:Int) l i).length+[(i:Int)].length≤17592186044416)=true:=decide_eq_true (by simp; omega);simp only [decide_eq_false hlt,dd];rw [q1,q2,wrap_i64 (n:=(i:Int)+1) (by omega) (by omega)];exact P2 R h hlen hb x6 k0 m (i+1) (by omega) (by omega)
  ·have:i=l.length:=by omega
   subst this;have hd:decide ((l.length:Int)<(l.length:Int))=false:=by simp
   simp only [hd]
theorem zdg {n:Int} {l:List Int} {j:Nat} (hj:j<l.length):(hasP n l l.length).getD j 0=n*l.getD j 0:=by
 simp [hasP,hj]
theorem Xu {T n:Int} {l:List Int} {i:Nat} {x:Int} (h:x∈smP T n l i):∃j:Nat,x=(j:Int)∧j<i∧n*l.getD j 0<T:=by
 simp only [smP,List.mem_map,List.mem_filter,List.mem_range,decide_eq_true_eq] at h;obtain ⟨j,⟨h1,h2⟩,rfl⟩:=h;exact ⟨j,rfl,h1,h2⟩
theorem Xv {T n:Int} {l:List Int} {i:Nat} {x:Int} (h:x∈laP T n l i):∃j:Nat,x=(j:Int)∧j<i∧¬n*l.getD j 0<T:=by
 simp only [laP,List.mem_map,List.mem_filter,List.mem_range,Bool.not_eq_true',decide_eq_false_iff_not] at h;obtain ⟨j,⟨h1,h2⟩,rfl⟩:=h;exact ⟨j,rfl,h1,h2⟩
theorem Q5 {l:List Nat} (h:l.Nodup):(l.map fun j:Nat=>(j:Int)).Nodup:=by
 induction l with
 | nil=>simp
 | cons a l ih=>
  rw [List.nodup_cons] at h;rw [List.map_cons,List.nodup_cons];refine ⟨fun hm=>?_,ih h.2⟩;obtain ⟨b,hb,e⟩:=List.mem_map.1 hm;have:b=a:=by omega
  subst this;exact h.1 hb
theorem zd3 {l:List Int} (h:AllU64 l) {T:Int} (hb:(l.length:Int)*totS l<9223372036854775808):IA T l.length (hasP (l.length:Int) l l.length) (ceP T l.length) (smP T (l.length:Int) l l.length) (laP T (l.length:Int) l l.length):=by
 refine ⟨N8 (Nat.le_refl _),by simp [ceP],fun x hx=>?_,?_,fun x hx=>?_,fun x hx=>?_⟩
 ·rcases List.mem_append.1 hx with hx | hx
  ·obtain ⟨j,rfl,hj,_⟩:=Xu hx; omega
  ·obtain ⟨j,rfl,hj,_⟩:=Xv hx; omega
 ·rw [List.nodup_append]
  refine ⟨Q5 (List.nodup_range.sublist List.filter_sublist),Q5 (List.nodup_range.sublist List.filter_sublist),fun a ha b hb e=>?_⟩;obtain ⟨j,e1,_,h1⟩:=Xu ha;obtain ⟨j',e2,_,h2⟩:=Xv hb;have:j=j':=by omega
  subst this;exact h2 h1
 ·obtain ⟨j,rfl,hj,h1⟩:=Xu hx
  rw [Int.toNat_natCast,zdg hj];exact ⟨(Xi h hb j).1,h1⟩
 ·obtain ⟨j,rfl,hj,h1⟩:=Xv hx
  rw [Int.toNat_natCast,zdg hj];exact ⟨by omega,(Xi h hb j).2⟩
def tabC (l:List Int):List H7:=(runA (totS l) l.length (hasP (l.length:Int) l l.length) (ceP (totS l) l.length) (smP (totS l) (l.length:Int) l l.length) (laP (totS l) (l.length:Int) l l.length)).2.1
def tabR (l:List Int):TabA×Int:=
 if l.length=0 then ((0,[],()),10) else if ¬totS l<9223372036854775808 then ((0,[],()),11) else if totS l=0 then ((0,[],()),10)
 else if ¬(l.length:Int)*totS l<9223372036854775808 then ((0,[],()),11) else ((totS l,tabC l,()),0)
theorem zcm {l:List Int} (h0:l.length=0):tabR l=((0,[],()),10):=by unfold tabR; rw [if_pos h0]
theorem zcn {l:List Int} (h0:l.length≠0) (ht:¬totS l<9223372036854775808):tabR l=((0,[],()),11):=by unfold tabR; rw [if_neg h0,if_pos ht]
theorem T5 {l:List Int} (h0:l.length≠0) (hz:totS l=0):tabR l=((0,[],()),10):=by unfold tabR; rw [if_neg h0,if_neg (by simp [hz]),if_pos hz]
theorem T6 {l:List Int} (h0:l.length≠0) (ht:totS l<9223372036854775808) (hz:totS l≠0) (hb:¬(l.length:Int)*totS l<9223372036854775808):tabR l=((0,[],()),11):=by
 unfold tabR; rw [if_neg h0,if_neg (by simpa using ht),if_neg hz,if_pos hb]
theorem Xc {l:List Int} (h0:l.length≠0) (ht:totS l<9223372036854775808) (hz:totS l≠0) (hb:(l.length:Int)*totS l<9223372036854775808):tabR l=((totS l,tabC l,()),0):=by
 unfold tabR; rw [if_neg h0,if_neg (by simpa using ht),if_neg hz,if_neg (by simpa using hb)]
def zvp (l:List Int):Prop:=l.length≠0∧totS l<9223372036854775808∧totS l≠0∧(l.length:Int)*totS l<9223372036854775808
theorem zgg (l:List Int):(zvp l∧tabR l=((totS l,tabC l,()),0))∨(¬zvp l∧(tabR l=((0,[],()),10)∨tabR l=((0,[],()),11))):=by
 unfold zvp
 by_cases h0:l.length=0
 ·exact .inr ⟨fun h=>h.1 h0,.inl (zcm h0)⟩
 by_cases ht:totS l<9223372036854775808
 ·by_cases hz:totS l=0
  ·exact .inr ⟨fun h=>h.2.2.1 hz,.inl (T5 h0 hz)⟩
  ·by_cases hb:(l.length:Int)*totS l<9223372036854775808
   ·exact .inl ⟨⟨h0,ht,hz,hb⟩,Xc h0 ht hz hb⟩
   ·exact .inr ⟨fun h=>hb h.2.2.2,.inr (T6 h0 ht hz hb)⟩
 ·exact .inr ⟨fun h=>ht h.2.1,.inr (zcn h0 ht)⟩
theorem F231_eq (R:Type) {l:List Int} (h:AllU64 l) (hlen:l.length≤1000) (k:Int→Int→Option R) (K:TabA→Int→Option R) (h1:zvp l→k (totS l) 0=K (tabR l).1 0) (h2:∀e,e≠0→k 0 e=K (0,[],()) e):F231 R l k=K (tabR l).1 (tabR l).2:=by
 simp only [F231,p231];rw [Ae (n:=(l.length:Int)) (by omega) (by omega)]
 by_cases h0:l.length=0
 ·have e:((l.length:Int)==0)=true:=by simp [h0]
  simp only [e];rw [zcm h0];exact h2 10 (by omega)
 ·have e:((l.length:Int)==0)=false:=by simp [h0]
  simp only [e];rw [M4 R h (by omega)];have hnn:=Av h l.length
  by_cases ht:totS l<9223372036854775808
  ·rw [if_pos ht]
   simp only [Bool.not_true]
   by_cases hz:totS l=0
   ·have e:(totS l==0)=true:=by simp [hz]
    simp only [e];rw [T5 h0 hz];exact h2 10 (by omega)
   ·have e:(totS l==0)=false:=by simp [hz]
    simp only [e];rw [zop R (by unfold U64; omega) (show U64 (totS l) from by unfold U64; exact ⟨hnn,by omega⟩)]
    by_cases hb:(l.length:Int)*totS l<9223372036854775808
    ·rw [if_pos hb]
     simp only [Bool.not_true];rw [h1 ⟨h0,ht,hz,hb⟩,Xc h0 ht hz hb]
    ·rw [if_neg hb,T6 h0 ht hz hb]
     simp only [Bool.not_false];exact h2 11 (by omega)
  ·rw [if_neg ht,zcn h0 ht]
   simp only [Bool.not_false];exact h2 11 (by omega)
theorem F194_eq (R:Type) {l:List Int} (h:AllU64 l) (hlen:l.length≤1000) (k:TabA→Int→Option R):F194 R l k=k (tabR l).1 (tabR l).2:=by
 simp only [F194,p194];refine F231_eq R h hlen _ k (fun hc=>?_) (fun e he=>?_)
 ·have n0:((0:Int) !=0)=false:=rfl
  simp only [n0]
  ·obtain ⟨h0,ht,hz,hb⟩:=hc
   have hnn:=Av h l.length;have hpos:0<totS l:=by have:0≤totS l:=hnn; omega
   rw [Xc h0 ht hz hb];have dc:decide (0≤(l.length:Int)∧(l.length:Int)≤(l.length:Int)∧(l.length:Int)≤(17592186044416:Int))=true:=decide_eq_true (by omega);simp only [dc,Int.toNat_natCast];have g:=P2 R h hlen (T:=totS l) hb (0,[],()) (fun x7 x8 x9 x10 x11 x12=>Fx FUEL R x7 x8 x9 x10 x11 (x12.1,()) (fun x13 x14 x15 x16 x17 x18=>k (x18.1,x15,()) 0)) FUEL 0 (by omega) (by rw [Ak]; omega);have q0:hasP (l.length:Int) l 0=List.replicate l.length 0:=by simp [hasP]
   rw [q0] at g;refine g.trans ?_;rw [M0 R (n:=l.length) ⟨hpos,ht⟩ hlen _ _ l.length FUEL _ _ _ _ (zd3 h hb) (zgh _ _ _ _) (by omega) (by rw [Ak]; omega)];rfl
 ·have n1:(e !=0)=true:=by simp [he]
  simp only [n1]
end Go.PG
namespace Go.PG
theorem Xe {T:Int} {n:Nat}:∀(f:Nat) (h:List Int) (c:List H7) (sm la:List Int),IA T n h c sm la→IA T n (runA T f h c sm la).1 (runA T f h c sm la).2.1 (runA T f h c sm la).2.2.1 (runA T f h c sm la).2.2.2
 | 0,h,c,sm,la,hI=>hI
 | f+1,h,c,sm,la,hI=>by
  by_cases hs:sm.length=0∨la.length=0
  ·rw [Oo hs]; exact hI
  ·obtain ⟨s0,i,rfl⟩:=R9 (fun e=>hs (.inl e))
   obtain ⟨l0,k,rfl⟩:=R9 (fun e=>hs (.inr e));obtain ⟨_,st1,st2⟩:=hI.step;rw [Ue]
   by_cases hlt:(Fz T h i k).getD k.toNat 0<T
   ·rw [if_pos hlt]; exact Xe f _ _ _ _ (st1 hlt)
   ·rw [if_neg hlt]; exact Xe f _ _ _ _ (st2 hlt)
theorem zrk {l:List Int} (h:AllU64 l) (hb:(l.length:Int)*totS l<9223372036854775808):(tabC l).length=l.length:=(Xe l.length _ _ _ _ (zd3 h hb)).cl
theorem zz5 {l:List Int} (h:AllU64 l):U64 (tabR l).1.1∧(tabR l).1.2.1.length≤l.length:=by
 have hnn:=Av h l.length;rcases zgg l with ⟨⟨h0,ht,hz,hb⟩,e⟩ | ⟨hn,e | e⟩
 ·rw [e]
  exact ⟨by unfold U64; exact ⟨hnn,by have:totS l<9223372036854775808:=ht; show totS l<_; omega⟩,by show (tabC l).length≤_; rw [zrk h hb]; exact Nat.le_refl _⟩
 ·rw [e]; exact ⟨by unfold U64; simp,by simp⟩
 ·rw [e]; exact ⟨by unfold U64; simp,by simp⟩
def zez (l:List Int) (s:Src) (m:Int):Int×Src×Int:=if (tabR l).2=0 then zhb (tabR l).1 s m else (0,s,(tabR l).2)
theorem F160_eq (R:Type) {l:List Int} (h:AllU64 l) (hlen:l.length≤1000) {s:Src} (hs:SOK s) (m:Int) (k:Int→Src→Int→Option R):F160 R s m l k=k (zez l s m).1 (zez l s m).2.1 (zez l s m).2.2:=by
 simp only [F160,p160];rw [F194_eq R h hlen];obtain ⟨f1,f2⟩:=zz5 h;unfold zez
 by_cases he:(tabR l).2=0
 ·have e1:((tabR l).2 !=0)=false:=by simp [he]
  rw [if_pos he];simp only [e1];rw [F195_eq R f1 (by omega) hs]
 ·have e1:((tabR l).2 !=0)=true:=by simp [he]
  rw [if_neg he];simp only [e1]
end Go.PG
namespace Go.PG
def domS (k slot:Int):Int:=k*4294967296+slot
def mayS (m slot:Int):Bool:=decide (slot≥0)&&(decide (slot<1024)&&(decide (m>0)&&decide (m≤64)))
theorem zb1 (R:Type) (a:List Int) (m slot:Int) (k:Bool→Option R):F159 R (a,m,()) slot k=k (mayS m slot):=by
 simp only [F159,p159,mayS];cases decide (slot≥0)<;>cases decide (slot<1024)<;>cases decide (m>0)<;>rfl
theorem zx1 (R:Type) (m slot:Int) (k:Bool→Option R):F42 R slot m k=k (mayS m slot):=by
 simp only [F42,p42,mayS];have e:decide (m≥1)=decide (m>0):=by
  by_cases h:m>0
  ·rw [decide_eq_true h,decide_eq_true (by omega)]
  ·rw [decide_eq_false h,decide_eq_false (by omega)]
 rw [e];cases decide (slot≥0)<;>cases decide (slot<1024)<;>cases decide (m>0)<;>rfl
theorem Gn {m slot:Int} (h:mayS m slot=true):0≤slot∧slot<1024∧0<m∧m≤64:=by
 simp only [mayS,Bool.and_eq_true,decide_eq_true_eq] at h;exact ⟨h.1,h.2.1,h.2.2.1,h.2.2.2⟩
theorem zv8 {n:Int} (h1:0≤n) (h2:n<4294967296):IntKind.u32.wrap n=n:=by
 unfold IntKind.wrap;simp only [IntKind.bits,IntKind.signed];have e:n % (2^32)=n:=Int.emod_eq_of_lt h1 h2
 first
 | exact e
 | simp [e]
 | (simp; omega)
theorem F89_eq (R:Type) (a:List Int) {d slot:Int} (hd:0≤d∧d≤10) (hs:0≤slot∧slot<1024) (k:Src→Option R):F89 R a d slot k=k (Ch a (domS d slot)):=by
 simp only [F89,p89];rw [zv8 hs.1 (by omega),F133_eq R (by unfold U32; omega) (by unfold U32; omega)];rfl
theorem zb0 (R:Type) (a:List Int) (m:Int) {d slot:Int} (hd:0≤d∧d≤10) (hs:0≤slot∧slot<1024) (k:Src→Option R):F161 R (a,m,()) d slot k=k (Ch a (domS d slot)):=by
 simp only [F161,p161];rw [zv8 hs.1 (by omega),F197_eq R (by unfold U32; omega) (by unfold U32; omega),F196_eq];rfl
theorem dom_u64 {d slot:Int} (hd:0≤d∧d≤10) (hs:0≤slot∧slot<1024):U64 (domS d slot):=by unfold U64 domS; omega
def srcS (a:List Int) (d slot:Int):Src:=Ch a (domS d slot)
theorem Ol {a:List Int} (ha:H32 a) {d slot:Int} (hd:0≤d∧d≤10) (hs:0≤slot∧slot<1024):SOK (srcS a d slot):=Ua ha (dom_u64 hd hs)
def leaS (a:List Int) (slot m:Int) (l:List Int):Int×Int:=
 if mayS m slot=true then (if totS l<9223372036854775808 then ((B8 l (srcS a 1 slot) m).1,(B8 l (srcS a 1 slot) m).2.2) else (0,11)) else (0,1)
theorem F193_eq (R:Type) {a:List Int} (ha:H32 a) {m slot:Int} (hs:0≤slot∧slot<1024) {l:List Int} (h:AllU64 l) (ht:totS l<9223372036854775808) (hl:l.length≤200) (k:Int→Int→Option R):
  F193 R (a,m,()) (Cg l,()) slot k=k (B8 l (srcS a 1 slot) m).1 (B8 l (srcS a 1 slot) m).2.2:=by
 simp only [F193,p193];rw [zb0 R a m (by omega) hs];show F230 R (Cg l,()) (srcS a 1 slot) m _=_
 rw [zou R h hl ht (Ol ha (by omega) hs)]
theorem F44_eq (R:Type) {a:List Int} (ha:H32 a) (slot m:Int) {l:List Int} (h:AllU64 l) (hl:l.length≤200) (k:Int→Int→Option R):F44 R a slot m l k=k (leaS a slot m l).1 (leaS a slot m l).2:=by
 simp only [F44,p44];rw [zx1];unfold leaS;cases hm:mayS m slot with
 | false=>rfl
 | true=>
  obtain ⟨m1,m2,_⟩:=Gn hm;simp only [Bool.not_true,if_true];rw [zx0 R h hl]
  by_cases ht:totS l<9223372036854775808
  ·rw [if_pos ht,if_pos ht]
   have n0:((0:Int) !=0)=false:=rfl;simp only [n0];rw [F89_eq R a (by omega) ⟨m1,m2⟩];show F88 R l (srcS a 1 slot) m _=_;rw [F88_eq' R h hl (Ol ha (by omega) ⟨m1,m2⟩)]
  ·rw [if_neg ht,if_neg ht]; rfl
def aliS (a:List Int) (slot m:Int) (l:List Int):Int×Int:=
 if mayS m slot=true then ((zez l (srcS a 2 slot) m).1,(zez l (srcS a 2 slot) m).2.2) else (0,1)
theorem F111_eq (R:Type) {a:List Int} (ha:H32 a) (slot m:Int) {l:List Int} (h:AllU64 l) (hl:l.length≤200) (k:Int→Int→Option R):F111 R a slot m l k=k (aliS a slot m l).1 (aliS a slot m l).2:=by
 simp only [F111,p111];rw [zb1];unfold aliS;cases hm:mayS m slot with
 | false=>rfl
 | true=>
  obtain ⟨m1,m2,_⟩:=Gn hm;simp only [Bool.not_true,if_true];rw [zb0 R a m (by omega) ⟨m1,m2⟩];show F160 R (srcS a 2 slot) m l _=_;rw [F160_eq R h (by omega) (Ol ha (by omega) ⟨m1,m2⟩)]
def sitS (a:List Int) (slot c m:Int) (l:List Int):List Int×Int:=
 if mayS m slot=true then ((comL l c (srcS a 3 slot) m).1,(comL l c (srcS a 3 slot) m).2.2) else ([],1)
theorem F112_eq (R:Type) {a:List Int} (ha:H32 a) (slot c m:Int) {l:List Int} (h:AllU64 l) (hl:l.length≤200) (k:List Int→Int→Option R):F112 R a slot c m l k=k (sitS a slot c m l).1 (sitS a slot c m l).2:=by
 simp only [F112,p112];rw [zb1];unfold sitS;cases hm:mayS m slot with
 | false=>rfl
 | true=>
  obtain ⟨m1,m2,_⟩:=Gn hm;simp only [Bool.not_true,if_true];rw [zb0 R a m (by omega) ⟨m1,m2⟩];show F162 R c (srcS a 3 slot) m l _=_;rw [F162_eq R h hl (Ol ha (by omega) ⟨m1,m2⟩)]
theorem zml (R:Type) (l r:List Int) (hl:l.length≤1000000) (hr:l.length=r.length) (k0:Bool→Option R) (k1:Option R):∀(m i:Nat),i≤l.length→l.length - i<m→l.take i=r.take i→
  zag m R l r (i:Int) k0 k1=if l=r then k1 else k0 false
 | 0,i,_,h,_=>by omega
 | m+1,i,h1,h2,h3=>by
  simp only [zag,p20_4]
  by_cases hi:i<l.length
  ·have hd:decide ((i:Int)<(l.length:Int))=true:=decide_eq_true (by omega)
   have hbn:bnd (i:Int) (l.length:Int)=true:=by unfold bnd; simp; omega
   have hbr:bnd (i:Int) (r.length:Int)=true:=by unfold bnd; simp; omega
   simp only [hd,hbn,hbr,Int.toNat_natCast]
   by_cases he:l.getD i 0=r.getD i 0
   ·have e1:(l.getD i 0 !=r.getD i 0)=false:=by rw [he]; simp
    simp only [e1];rw [wrap_i64 (n:=(i:Int)+1) (by omega) (by omega)];refine zml R l r hl hr k0 k1 m (i+1) (by omega) (by omega) ?_;rw [List.take_succ_eq_append_getElem hi,List.take_succ_eq_append_getElem (by omega),h3]
    congr 2
    simpa [hi,show i<r.length by omega] using he
   ·have e1:(l.getD i 0 !=r.getD i 0)=true:=by simpa using he
    simp only [e1];rw [if_neg (fun e=>he (by rw [e]))]
  ·have:i=l.length:=by omega
   subst this;have hd:decide ((l.length:Int)<(l.length:Int))=false:=by simp
   simp only [hd];rw [List.take_length,hr,List.take_length] at h3;rw [if_pos h3]
theorem zow (R:Type) (l r:List Int) (hl:l.length≤1000000) (k:Bool→Option R):F20 R l r k=k (decide (l=r)):=by
 simp only [F20,p20]
 by_cases hr:l.length=r.length
 ·have e:((l.length:Int) !=(r.length:Int))=false:=by rw [hr]; simp
  simp only [e];have:=zml R l r hl hr (fun x4=>k x4) (k true) FUEL 0 (by omega) (by rw [Ak]; omega) (by simp);refine Eq.trans ?_ (this.trans ?_)
  ·rfl
  by_cases h:l=r
  ·rw [if_pos h,decide_eq_true h]
  ·rw [if_neg h,decide_eq_false h]
 ·have e:((l.length:Int) !=(r.length:Int))=true:=by
   have:¬(l.length:Int)=(r.length:Int):=by omega
   simpa using this
  simp only [e];rw [decide_eq_false (fun h=>hr (by rw [h]))]
end Go.PG
namespace Go.PG
def schV (a:List Int) (m:Int) (l:List Int) (i:Nat):Int:=if (leaS a (i:Int) m l).2=0 then (leaS a (i:Int) m l).1 else -1
def schP (a:List Int) (m:Int) (l:List Int) (n:Nat):List Int:=(List.range n).map (schV a m l)
theorem Gj (a:List Int) (m:Int) (l:List Int) (n:Nat):(schP a m l n).length=n:=by simp [schP]
theorem Jz (a:List Int) (m:Int) (l:List Int) (n:Nat):schP a m l n++[schV a m l n]=schP a m l (n+1):=by simp [schP,List.range_succ]
def schL (a:List Int) (n m:Int) (l:List Int):List Int×Int:=
 if n<1 then ([],1) else if mayS m (n - 1)=true then (if totS l<9223372036854775808 then (schP a m l n.toNat,0) else ([],11)) else ([],1)
theorem may_le {m:Int} {n i:Int} (h:mayS m n=true) (h0:0≤i) (h1:i≤n):mayS m i=true:=by
 obtain ⟨a,b,c,d⟩:=Gn h;unfold mayS;simp;omega
theorem zaj (R:Type) {a:List Int} (ha:H32 a) {m:Int} {l:List Int} (h:AllU64 l) (ht:totS l<9223372036854775808) (hl:l.length≤200) {N:Nat} (hN:N≤1024) (hm:∀i:Nat,i<N→mayS m (i:Int)=true) (k0:List Int→Option R):∀(f i:Nat),i≤N→N - i<f→
  P5 f R (N:Int) (i:Int) (a,m,()) (Cg l,()) (schP a m l i++List.replicate (N - i) 0) k0=k0 (schP a m l N)
 | 0,_,_,hh=>by omega
 | f+1,i,h1,h2=>by
  simp only [P5,zh6];have hlen:(schP a m l i++List.replicate (N - i) (0:Int)).length=N:=by simp [Gj]; omega
  by_cases hi:i<N
  ·have hd:decide ((i:Int)<(N:Int))=true:=decide_eq_true (by omega)
   simp only [hd];rw [F193_eq R ha (by omega) h ht hl];have hb:bnd (i:Int) ((schP a m l i++List.replicate (N - i) (0:Int)).length:Int)=true:=by rw [hlen]; unfold bnd; simp; omega
   have hle:leaS a (i:Int) m l=((B8 l (srcS a 1 (i:Int)) m).1,(B8 l (srcS a 1 (i:Int)) m).2.2):=by unfold leaS; rw [if_pos (hm i hi),if_pos ht]
   simp only [hb,Int.toNat_natCast];have hset:∀v:Int,(schP a m l i++List.replicate (N - i) (0:Int)).set i v=schP a m l i++[v]++List.replicate (N - (i+1)) 0:=fun v=>by
    rw [show N - i=N - (i+1)+1 by omega];exact zgl _ _ _ _ (Gj a m l i)
   rw [wrap_i64 (n:=(i:Int)+1) (by omega) (by omega),show (i:Int)+1=((i+1:Nat):Int) by omega]
   by_cases he:(B8 l (srcS a 1 (i:Int)) m).2.2=0
   ·have e1:((B8 l (srcS a 1 (i:Int)) m).2.2 !=0)=false:=by simp [he]
    simp only [e1,hset];have hv:(B8 l (srcS a 1 (i:Int)) m).1=schV a m l i:=by unfold schV; rw [hle]; rw [if_pos he]
    rw [hv,Jz];exact zaj R ha h ht hl hN hm k0 f (i+1) (by omega) (by omega)
   ·have e1:((B8 l (srcS a 1 (i:Int)) m).2.2 !=0)=true:=by simp [he]
    have hb2:bnd (i:Int) ((schP a m l i++[(B8 l (srcS a 1 (i:Int)) m).1]++List.replicate (N - (i+1)) (0:Int)).length:Int)=true:=by
     unfold bnd; simp [Gj]; omega
    simp only [e1,hset,hb2];have hv:(-1:Int)=schV a m l i:=by unfold schV; rw [hle]; rw [if_neg he]
    have hset2:(schP a m l i++[(B8 l (srcS a 1 (i:Int)) m).1]++List.replicate (N - (i+1)) (0:Int)).set i (-1)=schP a m l i++[(-1:Int)]++List.replicate (N - (i+1)) 0:=by
     rw [List.append_assoc,List.set_append_right _ _ (by rw [Gj]; exact Nat.le_refl _),Gj,Nat.sub_self];simp
    rw [hset2,hv,Jz];exact zaj R ha h ht hl hN hm k0 f (i+1) (by omega) (by omega)
  ·have:i=N:=by omega
   subst this;have hd:decide ((i:Int)<(i:Int))=false:=by simp
   simp only [hd];rw [Nat.sub_self,List.replicate_zero,List.append_nil]
theorem F156_eq (R:Type) {a:List Int} (ha:H32 a) {n:Int} (hn:n≤9223372036854775807) (m:Int) {l:List Int} (h:AllU64 l) (hl:l.length≤200) (k:List Int→Int→Option R):F156 R a n m l k=k (schL a n m l).1 (schL a n m l).2:=by
 simp only [F156,p156];unfold schL
 by_cases h1:n<1
 ·simp only [decide_eq_true h1,if_pos h1]
 ·simp only [decide_eq_false h1,if_neg h1]
  rw [wrap_i64 (n:=n - 1) (by omega) (by omega),zb1];cases hm:mayS m (n - 1) with
  | false=>rfl
  | true=>
   obtain ⟨m1,m2,_⟩:=Gn hm;simp only [Bool.not_true,if_true];rw [zeh R h hl]
   by_cases ht:totS l<9223372036854775808
   ·rw [if_pos ht,if_pos ht]
    have n0:((0:Int) !=0)=false:=rfl;have hc:decide (0≤n∧n≤n∧n≤(17592186044416:Int))=true:=decide_eq_true (by omega);simp only [n0,hc,List.length_replicate];have:=zaj R ha h ht hl (N:=n.toNat) (by omega) (fun i hi=>may_le hm (by omega) (by omega)) (fun x9=>k x9 0) FUEL 0 (by omega) (by rw [Ak]; omega);exact this
   ·rw [if_neg ht,if_neg ht]; rfl
theorem zmj (R:Type) {a:List Int} (ha:H32 a) {m:Int} {l:List Int} (h:AllU64 l) (hl:l.length≤200) {N:Nat} (hN:N≤1024) (k0:List Int→Option R):∀(f i:Nat),i≤N→N - i<f→
  zaf f R (N:Int) m l (i:Int) a (schP a m l i) k0=k0 (schP a m l N)
 | 0,_,_,hh=>by omega
 | f+1,i,h1,h2=>by
  simp only [zaf,p21_8]
  by_cases hi:i<N
  ·have hd:decide ((i:Int)<(N:Int))=true:=decide_eq_true (by omega)
   simp only [hd];rw [F44_eq R ha _ _ h hl];have hcap:∀y:Int,decide ((schP a m l i).length+List.length [y]≤17592186044416)=true:=fun y=>by rw [Gj]; simp; omega
   simp only [hcap];rw [wrap_i64 (n:=(i:Int)+1) (by omega) (by omega),show (i:Int)+1=((i+1:Nat):Int) by omega]
   by_cases he:(leaS a (i:Int) m l).2=0
   ·have e1:((leaS a (i:Int) m l).2 !=0)=false:=by simp [he]
    simp only [e1];have hv:(leaS a (i:Int) m l).1=schV a m l i:=by unfold schV; rw [if_pos he]
    rw [hv,Jz];exact zmj R ha h hl hN k0 f (i+1) (by omega) (by omega)
   ·have e1:((leaS a (i:Int) m l).2 !=0)=true:=by simp [he]
    simp only [e1];have hv:(-1:Int)=schV a m l i:=by unfold schV; rw [if_neg he]
    rw [hv,Jz];exact zmj R ha h hl hN k0 f (i+1) (by omega) (by omega)
  ·have:i=N:=by omega
   subst this;have hd:decide ((i:Int)<(i:Int))=false:=by simp
   simp only [hd]
theorem F21_eq (R:Type) {a:List Int} (ha:H32 a) {n:Int} (hn:n≤9223372036854775807) (m:Int) {l:List Int} (h:AllU64 l) (hl:l.length≤200) (k:List Int→Int→Option R):F21 R a n m l k=k (schL a n m l).1 (schL a n m l).2:=by
 simp only [F21,p21];unfold schL
 by_cases h1:n<1
 ·simp only [decide_eq_true h1,if_pos h1]
 ·simp only [decide_eq_false h1,if_neg h1]
  rw [wrap_i64 (n:=n - 1) (by omega) (by omega),zx1];cases hm:mayS m (n - 1) with
  | false=>rfl
  | true=>
   obtain ⟨m1,m2,_⟩:=Gn hm;simp only [Bool.not_true,if_true];rw [zx0 R h hl]
   by_cases ht:totS l<9223372036854775808
   ·rw [if_pos ht,if_pos ht]
    have n0:((0:Int) !=0)=false:=rfl;simp only [n0];have:=zmj R ha (m:=m) h hl (N:=n.toNat) (by omega) (fun x9=>k x9 0) FUEL 0 (by omega) (by rw [Ak]; omega);rw [show ((n.toNat:Nat):Int)=n by omega] at this;exact this
   ·rw [if_neg ht,if_neg ht]; rfl
end Go.PG
namespace Go.PG
open Go.Proofs
abbrev Cfg:=Int×Int×Int×Int×Int×Unit
def cfgS (c:Cfg):Bool:=decide (1≤c.1∧c.1≤1024∧0≤c.2.1∧c.2.1≤c.1∧0≤c.2.2.1∧c.2.2.1≤c.1 - c.2.1∧1≤c.2.2.2.1∧c.2.2.2.1≤64∧1≤c.2.2.2.2.1∧c.2.2.2.2.1≤1048576)
theorem Cj {c:Cfg} (h:cfgS c=true):1≤c.1∧c.1≤1024∧0≤c.2.1∧c.2.1≤c.1∧0≤c.2.2.1∧c.2.2.1≤c.1 - c.2.1∧1≤c.2.2.2.1∧c.2.2.2.1≤64∧1≤c.2.2.2.2.1∧c.2.2.2.2.1≤1048576:=of_decide_eq_true h
theorem F48_eq (R:Type) (x lo hi:Int) (k:Bool→Option R):F48 R x lo hi k=k (decide (lo≤x∧x≤hi)):=by
 simp only [F48,p48]
 by_cases h:x≥lo
 ·by_cases h2:x≤hi<;>simp [h,h2,show lo≤x from h]
 ·have h3:¬(lo≤x):=h
  simp [h3]
theorem zx3 (R:Type) (c:Cfg) (k:Bool→Option R):F25 R c k=k (cfgS c):=by
 obtain ⟨s,co,re,at_,mo,_⟩:=c;simp only [F25,p25,F48_eq,cfgS]
 by_cases h1:1≤s∧s≤1024
 ·by_cases h2:0≤co∧co≤s
  ·rw [wrap_i64 (by omega) (by omega)]
   by_cases h3:0≤re∧re≤s - co
   ·by_cases h4:1≤at_∧at_≤64
    ·simp [h1,h2,h3,h4]
    ·have:¬(1≤s∧s≤1024∧0≤co∧co≤s∧0≤re∧re≤s - co∧1≤at_∧at_≤64∧1≤mo∧mo≤1048576):=by omega
     rw [decide_eq_false this]; simp [h1,h2,h3,h4]
   ·have:¬(1≤s∧s≤1024∧0≤co∧co≤s∧0≤re∧re≤s - co∧1≤at_∧at_≤64∧1≤mo∧mo≤1048576):=by omega
    rw [decide_eq_false this]; simp [h1,h2,h3]
  ·have:¬(1≤s∧s≤1024∧0≤co∧co≤s∧0≤re∧re≤s - co∧1≤at_∧at_≤64∧1≤mo∧mo≤1048576):=by omega
   rw [decide_eq_false this]; simp [h1,h2]
 ·have:¬(1≤s∧s≤1024∧0≤co∧co≤s∧0≤re∧re≤s - co∧1≤at_∧at_≤64∧1≤mo∧mo≤1048576):=by omega
  rw [decide_eq_false this]; simp [h1]
def phS (c:Cfg) (i:Int):Int:=if cfgS c=true∧0≤i∧i<c.1 then (if i<c.2.1 then 1 else if i<c.2.1+c.2.2.1 then 2 else 3) else 0
theorem zo4 (R:Type) (c:Cfg) (i:Int) (k:Bool→Option R):F145 R c i k=k (decide (cfgS c=true∧0≤i∧i<c.1)):=by
 simp only [F145,p145,zx3];cases hr:cfgS c with
 | false=>simp
 | true=>
  by_cases h:0≤i
  ·simp [h]
  ·simp [h]
theorem zpb (R:Type) (c:Cfg) (i:Int) (k:Int→Option R):F101 R c i k=k (phS c i):=by
 simp only [F101,p101,zo4,phS]
 by_cases h:cfgS c=true∧0≤i∧i<c.1
 ·have hr:=Cj h.1
  rw [wrap_i64 (by omega) (by omega),if_pos h]
  by_cases h2:i<c.2.1
  ·simp [h,h2]
  ·by_cases h3:i<c.2.1+c.2.2.1<;>simp [h,h2,h3]
 ·simp [h]
def J8 (c:Cfg) (i:Int):Int:=if phS c i=0∨i=c.1 - 1 then 0 else i+1
def zkb (c:Cfg) (i:Int):Bool:=decide (phS c i≠0∧i=c.1 - 1)
theorem Si {c:Cfg} {i:Int}:phS c i=0↔¬(cfgS c=true∧0≤i∧i<c.1):=by
 unfold phS;constructor
 ·intro h hh; rw [if_pos hh] at h; split at h<;>omega
 ·intro h; rw [if_neg h]
theorem F106_eq (R:Type) (c:Cfg) (i:Int) (k:Int→Bool→Option R):F106 R c i k=k (J8 c i) (zkb c i):=by
 simp only [F106,p106,zo4,J8,zkb]
 by_cases h:cfgS c=true∧0≤i∧i<c.1
 ·have hr:=Cj h.1
  have hp:phS c i≠0:=fun e=>Si.1 e h
  have hz:(c.1==0)=false:=by simp; omega
  rw [wrap_i64 (by omega) (by omega)];simp only [h,hz,hp]
  by_cases h2:i=c.1 - 1
  ·have:i+1=c.1:=by omega
   rw [decide_eq_true (p:=phS c i≠0∧i=c.1 - 1) ⟨hp,h2⟩];simp [h2]
  ·rw [Int.tmod_eq_of_lt (by omega) (by omega)]
   have:(i+1==0)=false:=by simp; omega
   simp [h2,this]
 ·simp [h,Si.2 h]
end Go.PG
namespace Go.PG
abbrev Va:=List Int×(Int×(Int×Unit))
abbrev zV:Va:=(List.replicate 32 (0:Int),(0:Int),(0:Int),())
structure VaOK (v:Va):Prop where
 key:H32 v.1
 stake:U64 v.2.1
 next:U64 v.2.2.1
def VsOK (l:List Va):Prop:=∀v∈l,VaOK v
theorem zV_ok:VaOK zV:=⟨A5,Gh,Gh⟩
theorem VsOK.get {l:List Va} (h:VsOK l) (i:Nat):VaOK (l.getD i zV):=by
 rw [List.getD_eq_getElem?_getD];cases hi:l[i]? with
 | none=>exact zV_ok
 | some c=>exact h c (List.mem_of_getElem? hi)
theorem eqvV {a b:Va} (ha:VaOK a) (hb:VaOK b):Kd.eqv Kq5 a b=decide (a=b):=by
 obtain ⟨a1,a2,a3,⟨⟩⟩:=a;obtain ⟨b1,b2,b3,⟨⟩⟩:=b;have e1:Kd.eqv (.arr 32 (.int .u8)) a1 b1=decide (a1=b1):=B7 ha.key.1 hb.key.1;show ((Kd.eqv (.arr 32 (.int .u8)) a1 b1)&&((a2==b2)&&((a3==b3)&&true)))=_;rw [e1]
 by_cases h1:a1=b1
 ·by_cases h2:a2=b2
  ·by_cases h3:a3=b3
   ·simp [h1,h2,h3]
   ·simp [h3]
  ·simp [h2]
 ·simp [h1]
theorem Da {l:List Va} {i:Nat} (hi:i<l.length):l.getD i zV=l[i]:=by simp [hi]
theorem zxb (R:Type) {a b:List Va} (ha:VsOK a) (hb:VsOK b) (hl:a.length=b.length) (hn:a.length≤1000) (k0:Bool→Option R) (k1:Option R):∀(m i:Nat),i≤a.length→a.length - i<m→
  Z7 m R a b (a.length:Int) (i:Int) k0 k1=if a.drop i=b.drop i then k1 else k0 false
 | 0,i,_,h=>by omega
 | m+1,i,h1,h2=>by
  simp only [Z7,p84_4]
  by_cases hi:i<a.length
  ·have hib:i<b.length:=by omega
   have ih:=zxb R ha hb hl hn k0 k1 m (i+1) (by omega) (by omega);simp only [C8 hi,A0 hi,A0 hib,Int.toNat_natCast,Bg hi hn];rw [eqvV (ha.get i) (hb.get i),ih,List.drop_eq_getElem_cons hi,List.drop_eq_getElem_cons hib,Da hi,Da hib]
   by_cases e:a[i]=b[i]
   ·simp only [decide_eq_true e,Bool.not_true]
    simp only [e,List.cons.injEq,true_and]
   ·simp only [decide_eq_false e,Bool.not_false]
    simp only [List.cons.injEq,e,false_and,if_false]
  ·have:i=a.length:=by omega
   subst this;simp only [Cp];rw [List.drop_length,hl,List.drop_length,if_pos rfl]
theorem F39_eq (R:Type) {a b:List Va} (ha:VsOK a) (hb:VsOK b) (hn:a.length≤1000) (k:Bool→Option R):F39 R a b k=k (decide (a=b)):=by
 simp only [F39,p39,F84,p84]
 by_cases hl:a.length=b.length
 ·have e:((a.length:Int) !=(b.length:Int))=false:=by simp [hl]
  simp only [e];refine (zxb R ha hb hl hn (fun x4=>k x4) (k true) FUEL 0 (by omega) (by rw [Ak]; omega)).trans ?_;rw [List.drop_zero,List.drop_zero]
  by_cases h:a=b
  ·rw [if_pos h,decide_eq_true h]
  ·rw [if_neg h,decide_eq_false h]
 ·have e:((a.length:Int) !=(b.length:Int))=true:=by simp; omega
  have h:a≠b:=fun h=>hl (by rw [h])
  simp only [e,decide_eq_false h]
def Al (l:List Va):List Int:=l.map fun v=>v.2.1
def A1 (l:List Va):List Int:=l.map fun v=>v.2.2.1
theorem Cy {l:List Va} (h:VsOK l):AllU64 (Al l):=fun x hx=>by
 obtain ⟨v,hv,rfl⟩:=List.mem_map.1 hx;exact (h v hv).stake
theorem F4 {l:List Va} (h:VsOK l):AllU64 (A1 l):=fun x hx=>by
 obtain ⟨v,hv,rfl⟩:=List.mem_map.1 hx;exact (h v hv).next
theorem Bu (l:List Va):(Al l).length=l.length:=by simp [Al]
theorem En (l:List Va):(A1 l).length=l.length:=by simp [A1]
theorem M6 {l:List Va} {i:Nat} (hi:i<l.length):Al (l.take i)++[(l.getD i zV).2.1]=Al (l.take (i+1)):=by
 rw [List.take_succ_eq_append_getElem hi,Da hi]; simp only [Al,List.map_append,List.map_cons,List.map_nil]
theorem Xt {l:List Va} {i:Nat} (hi:i<l.length):A1 (l.take i)++[(l.getD i zV).2.2.1]=A1 (l.take (i+1)):=by
 rw [List.take_succ_eq_append_getElem hi,Da hi]; simp only [A1,List.map_append,List.map_cons,List.map_nil]
theorem zk3 {n m:Nat} (hn:n≤1000) (hm:m=1):decide (n+m≤17592186044416)=true:=by simp; omega
theorem Rz (R:Type) {l:List Va} (hn:l.length≤1000) (k0:List Int→Option R):∀(m i:Nat),i≤l.length→l.length - i<m→
  A9 m R l (l.length:Int) (i:Int) (Al (l.take i)) k0=k0 (Al l)
 | 0,i,_,h=>by omega
 | m+1,i,h1,h2=>by
  simp only [A9,J7,F158,p158]
  by_cases hi:i<l.length
  ·have ih:=Rz R hn k0 m (i+1) (by omega) (by omega)
   have hc:decide ((Al (l.take i)).length+[(l.getD i zV).2.1].length≤17592186044416)=true:=zk3 (by rw [Bu,List.length_take]; omega) rfl;simp only [C8 hi,A0 hi,Int.toNat_natCast,Bg hi hn,hc];rw [M6 hi,ih]
  ·have:i=l.length:=by omega
   subst this;simp only [Cp,List.take_length]
theorem Ql (R:Type) {l:List Va} (hn:l.length≤1000) (k:List Int→Option R):F110 R l k=k (Al l):=by
 simp only [F110,p110,Dx,Xr];have hc:decide ((0:Int)≤0∧(0:Int)≤(l.length:Int)∧(l.length:Int)≤17592186044416)=true:=by simp; omega
 simp only [hc];exact Rz R hn (fun x=>k x) FUEL 0 (by omega) (by rw [Ak]; omega)
theorem Ry (R:Type) {l:List Va} (hn:l.length≤1000) (k0:List Int→Option R):∀(m i:Nat),i≤l.length→l.length - i<m→
  A8 m R l (l.length:Int) (i:Int) (A1 (l.take i)) k0=k0 (A1 l)
 | 0,i,_,h=>by omega
 | m+1,i,h1,h2=>by
  simp only [A8,J6,F178,p178]
  by_cases hi:i<l.length
  ·have ih:=Ry R hn k0 m (i+1) (by omega) (by omega)
   have hc:decide ((A1 (l.take i)).length+[(l.getD i zV).2.2.1].length≤17592186044416)=true:=zk3 (by rw [En,List.length_take]; omega) rfl;simp only [C8 hi,A0 hi,Int.toNat_natCast,Bg hi hn,hc];rw [Xt hi,ih]
  ·have:i=l.length:=by omega
   subst this;simp only [Cp,List.take_length]
theorem zo6 (R:Type) {l:List Va} (hn:l.length≤1000) (k:List Int→Option R):F140 R l k=k (A1 l):=by
 simp only [F140,p140,Dw,Xq];have hc:decide ((0:Int)≤0∧(0:Int)≤(l.length:Int)∧(l.length:Int)≤17592186044416)=true:=by simp; omega
 simp only [hc];exact Ry R hn (fun x=>k x) FUEL 0 (by omega) (by rw [Ak]; omega)
theorem zxj (R:Type) {l:List Va} (hn:l.length≤1000) (k0:List Int→Option R):∀(m i:Nat),i≤l.length→l.length - i<m→
  zae m R l (i:Int) (Al (l.take i)) k0=k0 (Al l)
 | 0,i,_,h=>by omega
 | m+1,i,h1,h2=>by
  simp only [zae,p22_3]
  by_cases hi:i<l.length
  ·have ih:=zxj R hn k0 m (i+1) (by omega) (by omega)
   have hc:decide ((Al (l.take i)).length+[(l.getD i zV).2.1].length≤17592186044416)=true:=zk3 (by rw [Bu,List.length_take]; omega) rfl;simp only [C8 hi,A0 hi,Int.toNat_natCast,Bg hi hn,hc];rw [M6 hi,ih]
  ·have:i=l.length:=by omega
   subst this;simp only [Cp,List.take_length]
theorem F22_eq (R:Type) {l:List Va} (hn:l.length≤1000) (k:List Int→Option R):F22 R l k=k (Al l):=by
 simp only [F22,p22];exact zxj R hn (fun x=>k x) FUEL 0 (by omega) (by rw [Ak]; omega)
def actV (v:Va):Va:=(v.1,v.2.2.1,v.2.2.1,())
def actS (l:List Va):List Va:=l.map actV
theorem Ki (l:List Va):(actS l).length=l.length:=by simp [actS]
theorem zox (R:Type) {l:List Va} (hn:l.length≤1000) (k:List Va→Option R):F181 R l k=k l:=by
 simp only [F181];have hc:decide (([]:List Va).length+l.length≤2932031007402)=true:=by simp; omega
 rw [hc]
theorem zmr (R:Type) {l:List Va} (hn:l.length≤1000) (k0:List Va→Option R):∀(m i:Nat),i≤l.length→l.length - i<m→
  P6 m R (l.length:Int) (i:Int) (actS (l.take i)++l.drop i) k0=k0 (actS l)
 | 0,i,_,h=>by omega
 | m+1,i,h1,h2=>by
  simp only [P6,zh7]
  by_cases hi:i<l.length
  ·have ih:=zmr R hn k0 m (i+1) (by omega) (by omega)
   have hlen:(actS (l.take i)++l.drop i).length=l.length:=by simp [Ki]; omega
   have hat:(actS (l.take i)).length=i:=by rw [Ki,List.length_take]; omega
   have hg:(actS (l.take i)++l.drop i).getD i zV=l[i]:=by
    rw [List.getD_eq_getElem?_getD,List.getElem?_append_right (by omega),hat,Nat.sub_self,List.getElem?_drop];simp [hi]
   have hs:(actS (l.take i)++l.drop i).set i (l[i].1,l[i].2.2.1,l[i].2.2)=actS (l.take (i+1))++l.drop (i+1):=by
    rw [List.set_append_right _ _ (by omega),hat,Nat.sub_self,List.drop_eq_getElem_cons hi,List.set_cons_zero,List.take_succ_eq_append_getElem hi];simp only [actS,actV,List.map_append,List.map_cons,List.map_nil,List.append_assoc,List.cons_append,List.nil_append]
   rw [hlen];simp only [C8 hi,A0 hi,Int.toNat_natCast,Bg hi hn,hg,hs];rw [ih]
  ·have:i=l.length:=by omega
   subst this;simp only [Cp,List.take_length,List.drop_length,List.append_nil]
theorem F154_eq (R:Type) {l:List Va} (hn:l.length≤1000) (k:List Va→Option R):F154 R l k=k (actS l):=by
 simp only [F154,p154,zox R hn];exact zmr R hn (fun x=>k x) FUEL 0 (by omega) (by rw [Ak]; omega)
end Go.PG
namespace Go.PG
def fstK (l:List Va) (key:List Int):Option Nat:=l.findIdx? fun v=>decide (v.1=key)
def Ha (l:List Va):List (List Int):=l.map fun v=>v.1
def plA (l:List Va):Nat→List (List Int×Int)
 | 0=>[]
 | i+1=>match By (Kd.eqv (.arr 32 (.int .u8))) (plA l i) (l.getD i zV).1 with
  | some _=>plA l i
  | none=>plA l i++[((l.getD i zV).1,(i:Int))]
theorem ze5 {K V:Type} (eq:K→K→Bool) (m:List (K×V)) (x:K×V) (k:K):By eq (m++[x]) k=match By eq m k with | some v=>some v | none=>match eq k x.1 with | true=>some x.2 | false=>none:=by
 induction m with
 | nil=>simp only [List.nil_append,By]; cases eq k x.1<;>rfl
 | cons y m ih=>
  simp only [List.cons_append,By];cases eq k y.1
  ·exact ih
  ·rfl
theorem zj5 {l:List Va} {i:Nat} (hi:i<l.length) (key:List Int):fstK (l.take (i+1)) key=match fstK (l.take i) key with | some j=>some j | none=>if (l.getD i zV).1=key then some i else none:=by
 unfold fstK;rw [List.take_succ_eq_append_getElem hi,List.findIdx?_append,Da hi];cases List.findIdx? (fun v=>decide (v.1=key)) (l.take i) with
 | some j=>rfl
 | none=>
  have hl:(l.take i).length=i:=by rw [List.length_take]; omega
  by_cases e:l[i].1=key
  ·simp [List.findIdx?_cons,e,hl]
  ·simp [List.findIdx?_cons,e]
theorem Sh {l:List Va} (h:VsOK l):∀(i:Nat),i≤l.length→∀(key:List Int),key.length=32→By (Kd.eqv (.arr 32 (.int .u8))) (plA l i) key=Option.map (fun n:Nat=>(n:Int)) (fstK (l.take i) key)
 | 0,_,key,_=>by simp [plA,By,fstK]
 | i+1,hi,key,hk=>by
  have hi':i<l.length:=by omega
  have ih:=Sh h i (by omega);have hv:=(h.get i).key.1;rw [zj5 hi'];simp only [plA];have h1:=ih (l.getD i zV).1 hv;cases hf:By (Kd.eqv (.arr 32 (.int .u8))) (plA l i) (l.getD i zV).1 with
  | some z=>
   simp only [];rw [ih key hk];cases hq:fstK (l.take i) key with
   | some j=>rfl
   | none=>
    simp only [];rw [if_neg];intro e;rw [hf,e,hq] at h1;cases h1
  | none=>
   simp only [];rw [ze5,ih key hk];cases hq:fstK (l.take i) key with
   | some j=>rfl
   | none=>
    simp only [Option.map_none];have e1:Kd.eqv (.arr 32 (.int .u8)) key (l.getD i zV).1=decide (key=(l.getD i zV).1):=B7 hk hv;rw [e1]
    by_cases e:(l.getD i zV).1=key
    ·rw [decide_eq_true e.symm,if_pos e]; rfl
    ·rw [decide_eq_false (fun q=>e q.symm),if_neg e]; rfl
theorem U6 {l:List Va} {key:List Int}:fstK l key=none↔key∉Ha l:=by
 unfold fstK Ha;rw [List.findIdx?_eq_none_iff];constructor
 ·intro h hm
  obtain ⟨v,hv,e⟩:=List.mem_map.1 hm;have:=h v hv;simp [e] at this
 ·intro h v hv
  simp only [decide_eq_false_iff_not];intro e;exact h (List.mem_map.2 ⟨v,hv,e⟩)
theorem Zk {l:List Va} {key:List Int} {j:Nat} (h:fstK l key=some j):j<l.length∧(l.getD j zV).1=key:=by
 obtain ⟨h1,h2,_⟩:=List.findIdx?_eq_some_iff_getElem.1 h;exact ⟨h1,by rw [Da h1]; simpa using h2⟩
theorem ze9 {l:List Va} {i:Nat} (hi:i<l.length):Ha (l.take (i+1))=Ha (l.take i)++[(l.getD i zV).1]:=by
 rw [List.take_succ_eq_append_getElem hi,Da hi]; simp only [Ha,List.map_append,List.map_cons,List.map_nil]
theorem zha {l:List Va} (h:VsOK l):∀(i:Nat),i≤l.length→(plA l i).length≤i∧((plA l i).length=i↔(Ha (l.take i)).Nodup)
 | 0,_=>by simp [plA,Ha]
 | i+1,hi=>by
  have hi':i<l.length:=by omega
  obtain ⟨ih1,ih2⟩:=zha h i (by omega);have h1:=Sh h i (by omega) (l.getD i zV).1 (h.get i).key.1;rw [ze9 hi',List.nodup_append];simp only [plA];cases hf:By (Kd.eqv (.arr 32 (.int .u8))) (plA l i) (l.getD i zV).1 with
  | some z=>
   simp only [];refine ⟨by omega,⟨fun hh=>by omega,fun hh=>?_⟩⟩;exfalso;rw [hf] at h1;cases hq:fstK (l.take i) (l.getD i zV).1 with
   | none=>rw [hq] at h1; cases h1
   | some j=>
    have hm:(l.getD i zV).1∈Ha (l.take i):=by
     apply Classical.byContradiction;intro hn;rw [U6.2 hn] at hq;cases hq
    exact hh.2.2 _ hm _ (List.mem_singleton.2 rfl) rfl
  | none=>
   simp only [List.length_append,List.length_cons,List.length_nil];rw [hf] at h1;have hq:fstK (l.take i) (l.getD i zV).1=none:=by
    cases hq:fstK (l.take i) (l.getD i zV).1 with
    | none=>rfl
    | some j=>rw [hq] at h1; cases h1
   have hn:=U6.1 hq;refine ⟨by omega,⟨fun hh=>⟨ih2.1 (by omega),by simp,fun a ha b hb e=>?_⟩,fun hh=>by have:=ih2.2 hh.1; omega⟩⟩;rw [List.mem_singleton.1 hb] at e;exact hn (e ▸ ha)
theorem zmu (R:Type) {l:List Va} (hn:l.length≤1000) (k0:List (List Int×Int)→Option R):∀(m i:Nat),i≤l.length→l.length - i<m→
  Di m R l (l.length:Int) (i:Int) (plA l i) k0=k0 (plA l l.length)
 | 0,i,_,h=>by omega
 | m+1,i,h1,h2=>by
  simp only [Di,zc7]
  by_cases hi:i<l.length
  ·have ih:=zmu R hn k0 m (i+1) (by omega) (by omega)
   simp only [C8 hi,A0 hi,Int.toNat_natCast,Bg hi hn];simp only [plA] at ih;cases hf:By (Kd.eqv (.arr 32 (.int .u8))) (plA l i) (l.getD i zV).1 with
   | some z=>
    simp only [hf] at ih;simp only [Option.isSome_some,Bool.not_true];exact ih
   | none=>
    simp only [hf] at ih;simp only [Option.isSome_none,Bool.not_false,Option.isNone_none];exact ih
  ·have:i=l.length:=by omega
   subst this;simp only [Cp]
theorem zo7 (R:Type) {l:List Va} (hn:l.length≤1000) (k:List (List Int×Int)→Option R):F138 R l k=k (plA l l.length):=by
 simp only [F138,p138];exact zmu R hn (fun x=>k x) FUEL 0 (by omega) (by rw [Ak]; omega)
def F1 (l:List Va):Bool:=decide (totS (Al l)<9223372036854775808)&&(decide (totS (A1 l)<9223372036854775808)&&decide (Ha l).Nodup)
theorem zo8 (R:Type) {l:List Va} (h:VsOK l) (hn:l.length≤1000) (k:Bool→Option R):F137 R l k=k (F1 l):=by
 simp only [F137,p137,Ql R hn,zo6 R hn];rw [M4 R (Cy h) (by rw [Bu]; omega)];unfold F1
 by_cases h1:totS (Al l)<9223372036854775808
 ·rw [if_pos h1,M4 R (F4 h) (by rw [En]; omega)]
  by_cases h2:totS (A1 l)<9223372036854775808
  ·rw [if_pos h2]
   have hc:decide ((l.length:Int)≤1048576)=true:=by simp; omega
   simp only [hc,zo7 R hn];have hd:=(zha h l.length (Nat.le_refl _)).2;rw [List.take_length] at hd;rw [decide_eq_true h1,decide_eq_true h2,Bool.true_and,Bool.true_and]
   congr 1
   by_cases h3:(Ha l).Nodup
   ·rw [decide_eq_true h3]; simp [hd.2 h3]
   ·rw [decide_eq_false h3]
    have:(plA l l.length).length≠l.length:=fun e=>h3 (hd.1 e)
    simp; omega
  ·rw [if_neg h2,decide_eq_false h2,Bool.false_and,Bool.and_false]
 ·rw [if_neg h1,decide_eq_false h1,Bool.false_and,M4 R (F4 h) (by rw [En]; omega)]
  by_cases h2:totS (A1 l)<9223372036854775808
  ·rw [if_pos h2]
  ·rw [if_neg h2]
def neK (l:List Va) (i j:Nat):Bool:=decide ((l.getD i zV).1≠(l.getD j zV).1)
theorem nodup_iff {l:List Va}:Fu (fun i=>Fu (neK l i) i 0) l.length 0=decide (Ha l).Nodup:=by
 rw [Bool.eq_iff_iff,decide_eq_true_eq,Fc];unfold List.Nodup;rw [List.pairwise_iff_getElem];constructor
 ·intro h i j hi hj hij
  have hi':i<l.length:=by simpa [Ha] using hi
  have hj':j<l.length:=by simpa [Ha] using hj
  have h1:=Fc.1 (h j (by omega) (by omega)) i (by omega) (by omega);unfold neK at h1;simp only [decide_eq_true_eq] at h1;rw [Da hi',Da hj'] at h1;simp only [Ha,List.getElem_map];exact fun e=>h1 e.symm
 ·intro h j _ hj
  refine Fc.2 fun i _ hi=>?_
  have hi':i<l.length:=by omega
  have hj':j<l.length:=by omega
  have h1:=h i j (by simpa [Ha] using hi') (by simpa [Ha] using hj') (by omega);simp only [Ha,List.getElem_map] at h1;unfold neK;simp only [decide_eq_true_eq];rw [Da hi',Da hj'];exact fun e=>h1 e.symm
end Go.PG
namespace Go.PG
def Jv (l:List Va) (i:Nat) (n:Int):List Va:=l.set i ((l.getD i zV).1,(l.getD i zV).2.1,n,())
theorem Ty (R:Type) {l:List Va} (hn:l.length≤1000) {i:Nat} (hi:i<l.length) (n:Int) (k:List Va→Option R):F143 R l (i:Int) n k=k (Jv l i n):=by
 simp only [F143,p143,zox R hn,A0 hi,Int.toNat_natCast];rfl
theorem He (l:List Int) (a:Int):totS (l++[a])=totS l+a:=by
 unfold totS sumS;rw [List.take_length,List.take_length];simp
theorem zit {l:List Va} (h:VsOK l) {i:Nat} (hi:i<l.length):(l.getD i zV).2.2.1≤totS (A1 l):=by
 have h1:=Bf (l:=A1 l) (i:=i) (by rw [En]; exact hi);have h2:=Cr (F4 h) (i+1);have h3:=Av (F4 h) i;have h4:(A1 l).getD i 0=(l.getD i zV).2.2.1:=by
  rw [Da hi]; simp [A1,hi]
 rw [h4] at h1;omega
def depS (l:List Va) (key:List Int) (a most:Int):List Va×Int×Int:=
 if F1 l=true∧a≠0∧1≤most∧most≤1048576 then
  match fstK l key with
  | none=>if most≤(l.length:Int) then ([],0,4) else if totS (A1 l)+a<9223372036854775808 then (l++[(key,0,a,())],(l.length:Int),0) else ([],0,11)
  | some i=>if totS (A1 l)+a<9223372036854775808 then (Jv l i ((l.getD i zV).2.2.1+a),(i:Int),0) else ([],0,11)
 else ([],0,1)
theorem Xf {l:List Va} (h:F1 l=true):totS (Al l)<9223372036854775808∧totS (A1 l)<9223372036854775808∧(Ha l).Nodup:=by
 unfold F1 at h;rw [Bool.and_eq_true,Bool.and_eq_true] at h;exact ⟨of_decide_eq_true h.1,of_decide_eq_true h.2.1,of_decide_eq_true h.2.2⟩
theorem W9 {l:List Int} (h:AllU64 l):0≤totS l:=Av h _
theorem zch {x:Int} (h0:0≤x) (h1:x<9223372036854775808):IntKind.u64.wrap x=x:=by rw [D2]; omega
theorem F97_eq (R:Type) {l:List Va} (h:VsOK l) (hn:l.length≤900) {key:List Int} (hk:key.length=32) {a:Int} (ha:U64 a) (most:Int) (k:List Va→Int→Int→Option R):
  F97 R l key a most k=k (depS l key a most).1 (depS l key a most).2.1 (depS l key a most).2.2:=by
 simp only [F97,p97,zo8 R h (by omega),zo7 R (show l.length≤1000 by omega),zo6 R (show l.length≤1000 by omega)];unfold depS;cases hr:F1 l with
 | false=>simp
 | true=>
  obtain ⟨_,ht,_⟩:=Xf hr;have htn:=W9 (F4 h);unfold U64 at ha;simp only [Bool.not_true]
  by_cases h1:a=0
  ·rw [if_neg (by simp [h1])]; simp [h1]
  by_cases h2:most<1
  ·rw [if_neg (by omega)]
   have e1:(a==0)=false:=by simpa using h1
   simp only [e1,decide_eq_true h2]
  by_cases h3:most>1048576
  ·rw [if_neg (by omega)]
   have e1:(a==0)=false:=by simpa using h1
   simp only [e1,decide_eq_false h2,decide_eq_true h3]
  have e1:(a==0)=false:=by simpa using h1
  rw [if_pos ⟨trivial,h1,by omega,by omega⟩];have hf:=Sh h l.length (Nat.le_refl _) key hk;rw [List.take_length] at hf;have hT:=M4 R (F4 h) (show (A1 l).length≤1000000 by rw [En]; omega);have hA:=zb3 R (a:=totS (A1 l)) (b:=a) ⟨htn,ht⟩ ha;simp only [e1,decide_eq_false h2,decide_eq_false h3,hf];cases hq:fstK l key with
  | none=>
   simp only [Option.map_none,Option.isSome_none,Bool.not_false]
   by_cases h4:most≤(l.length:Int)
   ·rw [if_pos h4]
    simp only [decide_eq_true (show (l.length:Int)≥most from h4)]
   ·rw [if_neg h4]
    simp only [decide_eq_false (show ¬(l.length:Int)≥most from h4),hT,if_pos ht,hA]
    by_cases h5:totS (A1 l)+a<9223372036854775808
    ·rw [if_pos h5,if_pos h5]
     have hc:decide (0<[((key,0,0,()):Va)].length∧l.length+[((key,0,0,()):Va)].length≤2932031007402)=true:=by simp; omega
     have hl:l.length<(l++[((key,0,0,()):Va)]).length:=by simp
     have hg:(l++[((key,0,0,()):Va)]).getD l.length zV=(key,0,0,()):=by simp
     simp only [Bool.not_true,hc,A0 hl,Int.toNat_natCast,hg,Int.zero_add];rw [zch (by omega) (by omega),Ty R (by simp; omega) hl];have:Jv (l++[((key,0,0,()):Va)]) l.length a=l++[(key,0,a,())]:=by
      unfold Jv;rw [hg,List.set_append_right _ _ (Nat.le_refl _),Nat.sub_self];rfl
     rw [this]
    ·rw [if_neg h5,if_neg h5]; simp only [Bool.not_false]
  | some i=>
   obtain ⟨hi,_⟩:=Zk hq;have hnx:=zit h hi;have hx:=(h.get i).next;unfold U64 at hx;simp only [Option.map_some,Option.isSome_some,Bool.not_true,Option.getD_some,hT,if_pos ht,hA]
   by_cases h5:totS (A1 l)+a<9223372036854775808
   ·simp only [if_pos h5,Bool.not_true,A0 hi,Int.toNat_natCast]
    rw [show IntKind.u64.wrap ((l.getD i zV).2.2.1+a)=(l.getD i zV).2.2.1+a from zch (by omega) (by omega),Ty R (by omega) hi];cases decide ((i:Int)≥most)<;>rfl
   ·simp only [if_neg h5,Bool.not_false]
    cases decide ((i:Int)≥most)<;>rfl
def wdS (l:List Va) (who a:Int):List Va×Int×Int:=
 if F1 l=true∧a≠0 then
  if 0≤who∧who<(l.length:Int) then
   if a≤(l.getD who.toNat zV).2.2.1 then (Jv l who.toNat ((l.getD who.toNat zV).2.2.1 - a),(l.getD who.toNat zV).2.2.1 - a,0) else ([],0,12)
  else ([],0,5)
 else ([],0,1)
def slS (l:List Va) (who a:Int):List Va×Int×Int:=
 if F1 l=true then
  if 0≤who∧who<(l.length:Int) then
   (Jv l who.toNat ((l.getD who.toNat zV).2.2.1 - min a (l.getD who.toNat zV).2.2.1),min a (l.getD who.toNat zV).2.2.1,0)
  else ([],0,5)
 else ([],0,1)
def zcj (l:List Va) (who:Int):Int:=if F1 l=true then (if 0≤who∧who<(l.length:Int) then 0 else 5) else 1
theorem zo5 (R:Type) {l:List Va} (h:VsOK l) (hn:l.length≤1000) (who:Int) (k:Int→Option R):F144 R l who k=k (zcj l who):=by
 simp only [F144,p144,zo8 R h hn];unfold zcj;cases F1 l with
 | false=>simp
 | true=>
  simp only [Bool.not_true,if_true]
  by_cases h1:who<0
  ·rw [if_neg (by omega)]; simp only [decide_eq_true h1]
  ·by_cases h2:who≥(l.length:Int)
   ·rw [if_neg (by omega)]; simp only [decide_eq_false h1,decide_eq_true h2]
   ·rw [if_pos (by omega)]; simp only [decide_eq_false h1,decide_eq_false h2]
theorem F98_eq (R:Type) {l:List Va} (h:VsOK l) (hn:l.length≤1000) (who:Int) {a:Int} (ha:U64 a) (k:List Va→Int→Int→Option R):
  F98 R l who a k=k (wdS l who a).1 (wdS l who a).2.1 (wdS l who a).2.2:=by
 simp only [F98,p98,zo5 R h hn];unfold wdS zcj;unfold U64 at ha
 by_cases h1:a=0
 ·rw [if_neg (show ¬(F1 l=true∧a≠0) from fun q=>q.2 h1)]; simp [h1]
 have e1:(a==0)=false:=by simpa using h1
 simp only [e1];cases hr:F1 l with
 | false=>simp
 | true=>
  have q:(True∧a≠0):=⟨trivial,h1⟩
  simp only [if_pos q,if_true]
  by_cases h2:0≤who∧who<(l.length:Int)
  ·obtain ⟨i,rfl⟩:∃i:Nat,who=i:=⟨who.toNat,by omega⟩
   have hi:i<l.length:=by omega
   have hx:=(h.get i).next;unfold U64 at hx;rw [if_pos h2,if_pos h2];simp only [bne_self_eq_false,A0 hi,Int.toNat_natCast]
   by_cases h3:a≤(l.getD i zV).2.2.1
   ·rw [if_pos h3]
    have:¬a>(l.getD i zV).2.2.1:=by omega
    simp only [decide_eq_false this];rw [show IntKind.u64.wrap ((l.getD i zV).2.2.1 - a)=(l.getD i zV).2.2.1 - a by rw [D2]; omega,Ty R hn hi]
   ·rw [if_neg h3]
    have:a>(l.getD i zV).2.2.1:=by omega
    simp only [decide_eq_true this]
  ·rw [if_neg h2,if_neg h2]
   rfl
theorem F99_eq (R:Type) {l:List Va} (h:VsOK l) (hn:l.length≤1000) (who:Int) {a:Int} (ha:U64 a) (k:List Va→Int→Int→Option R):
  F99 R l who a k=k (slS l who a).1 (slS l who a).2.1 (slS l who a).2.2:=by
 simp only [F99,p99,zo5 R h hn];unfold slS zcj;unfold U64 at ha;cases hr:F1 l with
 | false=>simp
 | true=>
  simp only [if_true]
  by_cases h2:0≤who∧who<(l.length:Int)
  ·obtain ⟨i,rfl⟩:∃i:Nat,who=i:=⟨who.toNat,by omega⟩
   have hi:i<l.length:=by omega
   have hx:=(h.get i).next;unfold U64 at hx;rw [if_pos h2,if_pos h2];have em:(if (l.getD i zV).2.2.1<a then (l.getD i zV).2.2.1 else a)=min a (l.getD i zV).2.2.1:=by
    by_cases hh:(l.getD i zV).2.2.1<a
    ·rw [if_pos hh]; omega
    ·rw [if_neg hh]; omega
   simp only [bne_self_eq_false,A0 hi,Int.toNat_natCast,em];rw [show IntKind.u64.wrap ((l.getD i zV).2.2.1 - min a (l.getD i zV).2.2.1)=(l.getD i zV).2.2.1 - min a (l.getD i zV).2.2.1 by rw [D2]; omega,Ty R hn hi]
  ·rw [if_neg h2,if_neg h2]
   rfl
end Go.PG
end
