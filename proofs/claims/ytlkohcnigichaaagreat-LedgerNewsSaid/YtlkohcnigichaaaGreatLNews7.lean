/- A part of the proof over this seat (own work; the framework that reads a Go function as a pure one, or a use of it). No condition of its own. -/
import Derived.Test.YtlkohcnigichaaaGreatLNews6
import Derived.KernelRfl
set_option linter.unusedVariables false
set_option linter.unusedSimpArgs false
set_option linter.unusedSectionVars false
noncomputable section
namespace Go.PG
theorem za8:∀(l:List Int) (i:Nat) (x:Int),i<l.length→(l.set i x).sum=l.sum - l.getD i 0+x
 | [],i,_,h=>by simp at h
 | y::l,0,x,_=>by simp; omega
 | y::l,i+1,x,h=>by
  have:=za8 l i x (by simpa using h);simp only [List.set_cons_succ,List.sum_cons,List.getD_cons_succ];omega
theorem za2 (l:List Int):totS l=l.sum:=by unfold totS sumS; rw [List.take_length]
theorem Io {l:List Va} {i:Nat} (hi:i<l.length) (x:Int):Am (Jh l i x)=Am l:=by
 unfold Am Jh;rw [List.map_set];apply List.ext_getElem
 ·simp
 ·intro j h1 h2
  rw [List.getElem_set];split
  ·rename_i e; subst e; rw [Cn hi]; simp
  ·rfl
theorem Kk {l:List Va} {i:Nat} (hi:i<l.length) (x:Int):totS (A1 (Jh l i x))=totS (A1 l) - (l.getD i zV).2.2.1+x:=by
 have e:A1 (Jh l i x)=(A1 l).set i x:=by unfold A1 Jh; rw [List.map_set]
 rw [e,za2,za2,za8 _ _ _ (by rw [Ei]; exact hi)];have:(A1 l).getD i 0=(l.getD i zV).2.2.1:=by rw [Cn hi]; simp [A1,hi]
 rw [this]
theorem V7 {l:List Va} (h:VsOK l) (i:Nat) {x:Int} (hx:U64 x):VsOK (Jh l i x):=fun v hv=>by
 rcases List.mem_or_eq_of_mem_set hv with h1 | h1
 ·exact h v h1
 ·rw [h1]; exact ⟨(h.get i).key,(h.get i).stake,hx⟩
theorem Qy (l:List Va) (i:Nat) (x:Int):(Jh l i x).length=l.length:=by simp [Jh]
section
variable {c:Cfg} {n:Nat} {l:Led}
theorem LOK.mono (h:LOK c n l):LOK c (n+1) l:=⟨h.cfg,h.right,h.slot,h.vals,by have:=h.vlen; omega,h.next,h.stake,h.bea,by have:=h.blen; omega,h.llen,h.lead,h.miss⟩
structure MOK (l:Led) (n:Nat) (v:List Va):Prop where
 vals:VsOK v
 vlen:v.length≤n+1
 next:totS (A1 v)<9223372036854775808
 stake:Am v=Am l.2.2.1∨Am v=Am l.2.2.1++[0]
theorem Rh (h:LOK c n l) (hn:n≤100) {r:List Va×Int×Int} (hr:r.2.2=0→MOK l n r.1):LOK c (n+1) (Dz l r).1:=by
 unfold Dz;split
 ·rename_i h0
  have hm:=hr h0;have hA:=De h.vals;have hv:=h.vlen;refine ⟨h.cfg,h.right,h.slot,hm.vals,hm.vlen,hm.next,?_,h.bea,by have:=h.blen; exact Nat.le_succ_of_le this,h.llen,fun i hi hp=>?_,h.miss⟩
  ·rcases hm.stake with e | e
   ·simp only [e]; exact h.stake
   ·simp only [e,G5,Int.add_zero]; exact h.stake
  ·rcases hm.stake with e | e
   ·simp only [e] at hp ⊢; exact h.lead i hi hp
   ·simp only [e] at hp ⊢
    have hp':posS (Am l.2.2.1)≠0:=by
     rw [Rc hA];have hA2:AllU64 (Am l.2.2.1++[0]):=by rw [←e]; exact De hm.vals
     have:=(Rc hA2).1 hp
     rwa [G5,Int.add_zero] at this
    rw [h.lead i hi hp'];unfold schV;rw [zrl hA (by rw [Cs]; omega)]
 ·exact h.mono
theorem dep_ok (h:LOK c n l) (hn:n≤100) {o:OpT} (ho:OpOK o) (most:Int) (h0:(depS l.2.2.1 o.2.2.2.1 o.2.2.1 most).2.2=0):MOK l n (depS l.2.2.1 o.2.2.2.1 o.2.2.1 most).1:=by
 have hv:=h.vlen;have ha:=ho.amount;unfold U64 at ha;unfold depS at h0 ⊢;split
 ·rename_i hc
  rw [if_pos hc] at h0;cases hq:fstK l.2.2.1 o.2.2.2.1 with
  | none=>
   rw [hq] at h0;simp only [] at h0 ⊢;split
   ·rename_i h1; rw [if_pos h1] at h0; cases h0
   ·rename_i h1
    rw [if_neg h1] at h0;split
    ·rename_i h2
     refine ⟨fun v hvm=>?_,by simp; omega,?_,.inr ?_⟩
     ·rcases List.mem_append.1 hvm with h3 | h3
      ·exact h.vals v h3
      ·rw [List.mem_singleton.1 h3]; exact ⟨ho.hash,Ic,ho.amount⟩
     ·have:A1 (l.2.2.1++[(o.2.2.2.1,0,o.2.2.1,())])=A1 l.2.2.1++[o.2.2.1]:=by simp [A1]
      simp only [this,G5];exact h2
     ·simp [Am]
    ·rename_i h2; rw [if_neg h2] at h0; cases h0
  | some i=>
   rw [hq] at h0;obtain ⟨hi,_⟩:=Yf hq;have hx:=(h.vals.get i).next;have hnx:=zgv h.vals hi;unfold U64 at hx;simp only [] at h0 ⊢;split
   ·rename_i h2
    refine ⟨V7 h.vals i (by unfold U64; omega),by rw [Qy]; omega,?_,.inl (Io hi _)⟩;rw [Kk hi];omega
   ·rename_i h2; rw [if_neg h2] at h0; cases h0
 ·rename_i hc; rw [if_neg hc] at h0; cases h0
theorem wd_ok (h:LOK c n l) (w a:Int) (ha:U64 a) (h0:(wdS l.2.2.1 w a).2.2=0):MOK l n (wdS l.2.2.1 w a).1:=by
 have hv:=h.vlen;have ht:=h.next;unfold U64 at ha;unfold wdS at h0 ⊢;split
 ·rename_i hc
  rw [if_pos hc] at h0;split
  ·rename_i h1
   rw [if_pos h1] at h0;have hi:w.toNat<l.2.2.1.length:=by omega
   have hx:=(h.vals.get w.toNat).next;unfold U64 at hx;split
   ·rename_i h2
    refine ⟨V7 h.vals _ (by unfold U64; omega),by rw [Qy]; omega,?_,.inl (Io hi _)⟩;rw [Kk hi];omega
   ·rename_i h2; rw [if_neg h2] at h0; cases h0
  ·rename_i h1; rw [if_neg h1] at h0; cases h0
 ·rename_i hc; rw [if_neg hc] at h0; cases h0
theorem sl_ok (h:LOK c n l) (w a:Int) (ha:U64 a) (h0:(slS l.2.2.1 w a).2.2=0):MOK l n (slS l.2.2.1 w a).1:=by
 have hv:=h.vlen;have ht:=h.next;unfold U64 at ha;unfold slS at h0 ⊢;split
 ·rename_i hc
  rw [if_pos hc] at h0;split
  ·rename_i h1
   rw [if_pos h1] at h0;have hi:w.toNat<l.2.2.1.length:=by omega
   have hx:=(h.vals.get w.toNat).next;unfold U64 at hx;refine ⟨V7 h.vals _ (by unfold U64; omega),by rw [Qy]; omega,?_,.inl (Io hi _)⟩;rw [Kk hi];omega
  ·rename_i h1; rw [if_neg h1] at h0; cases h0
 ·rename_i hc; rw [if_neg hc] at h0; cases h0
theorem Uo {b:Bea} {ph w:Int} {x:List Int} (h0:(C7 b ph w x).2=0):(C7 b ph w x).1.1=b.1∧(C7 b ph w x).1.2.1=b.2.1:=by
 unfold C7 at h0 ⊢;split
 ·rename_i h1; rw [if_pos h1] at h0; cases h0
 ·rename_i h1
  rw [if_neg h1] at h0;split
  ·rename_i h2
   rw [if_pos h2] at h0;unfold Pn at h0 ⊢;split
   ·exact ⟨rfl,rfl⟩
   ·rename_i h3; rw [if_neg h3] at h0; exact absurd h0 h3
  ·rename_i h2; rw [if_neg h2] at h0; cases h0
theorem Un {b:Bea} {ph w:Int} {x:List Int} (h0:(C6 b ph w x).2=0):(C6 b ph w x).1.1=b.1∧(C6 b ph w x).1.2.1=b.2.1:=by
 unfold C6 at h0 ⊢;split
 ·rename_i h1; rw [if_pos h1] at h0; cases h0
 ·rename_i h1
  rw [if_neg h1] at h0;split
  ·rename_i h2
   rw [if_pos h2] at h0;unfold Pn at h0 ⊢;split
   ·exact ⟨rfl,rfl⟩
   ·rename_i h3; rw [if_neg h3] at h0; exact absurd h0 h3
  ·rename_i h2; rw [if_neg h2] at h0; cases h0
theorem zex (h:LOK c n l) {r:Bea×Int} (hr:Fa r.1∧r.1.2.2.2.1.length≤l.2.2.2.1.2.2.2.1.length+1) (hs:r.2=0→r.1.1=l.2.2.2.1.1∧r.1.2.1=l.2.2.2.1.2.1):LOK c (n+1) (Km l r).1:=by
 have hb:=h.blen;have hv:=h.vlen;unfold Km;split
 ·rename_i h0
  have:=(hs h0).2;exact ⟨h.cfg,h.right,h.slot,h.vals,by simp only []; omega,h.next,h.stake,hr.1,by have:=hr.2; simp only []; omega,h.llen,fun i hi hp=>by simp only [this]; exact h.lead i hi hp,h.miss⟩
 ·exact h.mono
theorem zpl (a:List Int) (m:Int) (l:List Int) {n i:Nat} (h:i<n):(schP a m l n).getD i 0=schV a m l i:=by
 unfold schP;simp [h]
theorem adv_ok (h:LOK c n l) (hn:n≤100):LOK c (n+1) (advS l).1:=by
 have hb:=h.blen;have hv:=h.vlen;have hx:=N1 h;have hc:=Ca h.right;unfold advS;split
 ·split
  ·obtain ⟨b1,b2⟩:=bEnd_ok h.bea
   have hm:=zi5 l.2.2.2.1;rw [(ztr h _).2];refine ⟨h.cfg,h.right,⟨hx.1,hx.2.1⟩,zjb h.vals,by simp only [J1]; omega,by simp only [zea]; exact h.next,by simp only [Ol]; exact h.next,b1,by simp only [b2]; omega,?_,fun i hi _=>?_,by simp only []; omega⟩
   ·simp only [Hv,h.cfg]; omega
   ·simp only [h.cfg]
    exact zpl _ _ _ (by omega)
  ·exact h.mono
 ·exact ⟨h.cfg,h.right,⟨hx.1,hx.2.1⟩,h.vals,by simp only []; omega,h.next,h.stake,h.bea,by simp only []; omega,h.llen,h.lead,h.miss⟩
theorem do_ok (h:LOK c n l) (hn:n≤100) {o:OpT} (ho:OpOK o):LOK c (n+1) (doS l o).1:=by
 unfold doS;split
 ·split
  ·exact Rh h hn (dep_ok h hn ho _)
  ·split
   ·exact Rh h hn (wd_ok h _ _ ho.amount)
   ·split
    ·exact Rh h hn (sl_ok h _ _ ho.amount)
    ·split
     ·split
      ·exact zex h (zd7 h.bea _ ho.who ho.hash) Uo
      ·exact h.mono
     ·split
      ·split
       ·have:=zd5 h.bea (phS l.1 l.2.1) o.2.1 ho.hash
        exact zex h ⟨this.1,by omega⟩ Un
       ·exact h.mono
      ·split
       ·exact adv_ok h hn
       ·exact h.mono
 ·exact h.mono
end
end Go.PG
namespace Go.PG
theorem ztz {l:List Int} {o:Nat} {d:List Int} (h:o+d.length≤l.length):lay l o d=l.take o++d++l.drop (o+d.length):=by
 simp [lay]
def repS (j n:Nat):List Int:=List.replicate j (-1)++List.replicate (n - j) 0
theorem zpp {j n:Nat} (h:j≤n):(repS j n).length=n:=by simp [repS]; omega
theorem Tp {j n i:Nat} (h:i≤j):(repS j n).take i=List.replicate i (-1):=by
 unfold repS;rw [List.take_append_of_le_length (by simpa using h),List.take_replicate,Nat.min_eq_left h]
theorem ze9 {j n d:Nat} (h:j+d≤n):(repS j n).take j++List.replicate d (-1)++(repS j n).drop (j+d)=repS (j+d) n:=by
 rw [Tp (Nat.le_refl j)];unfold repS;rw [List.drop_append,List.drop_eq_nil_of_le (by simp),List.nil_append,List.length_replicate,List.drop_replicate,List.replicate_append_replicate,show n - j - (j+d - j)=n - (j+d) by omega]
theorem zu1 (R:Type) {n:Nat} (hn:n≤1024) (k0:List Int→Option R):∀(m j:Nat),1≤j→j≤n→n - j<m→Y4 m R (j:Int) (repS j n) k0=k0 (List.replicate n (-1))
 | 0,j,_,_,h=>by omega
 | m+1,j,h0,h1,h2=>by
  simp only [Y4,zys];have hl:=zpp h1
  by_cases hj:j<n
  ·have hd:min j (n - j)≤n - j:=Nat.min_le_right _ _
   have hd1:1≤min j (n - j):=by omega
   have ih:=zu1 R hn k0 m (j+min j (n - j)) (by omega) (by omega) (by omega);have c1:decide ((j:Int)<((repS j n).length:Int))=true:=by rw [hl]; exact Da hj
   have c2:decide ((0:Int)≤(j:Int)∧(j:Int)≤((repS j n).length:Int)∧((repS j n).length:Int)≤((repS j n).length:Int)∧((repS j n).length:Int)≤((repS j n).length:Int))=true:=by rw [hl]; simp; omega
   have c3:decide ((0:Int)≤0∧(0:Int)≤(j:Int)∧(j:Int)≤(j:Int)∧(j:Int)≤((repS j n).length:Int))=true:=by rw [hl]; simp; omega
   simp only [c1,c2,c3];have t1:List.take (Int.toNat ((j:Int) - 0)) (List.drop 0 (repS j n))=List.replicate j (-1):=by
    rw [Int.sub_zero,Int.toNat_natCast,List.drop_zero,Tp (Nat.le_refl j)]
   have t2:Int.toNat (((repS j n).length:Int) - (j:Int))=n - j:=by rw [hl]; omega
   rw [t1,t2,List.take_replicate,List.length_replicate];have t3:lay (repS j n) (Int.toNat (j:Int)) (List.replicate (min (n - j) j) (-1))=repS (j+min j (n - j)) n:=by
    rw [Int.toNat_natCast,ztz (by rw [List.length_replicate,hl]; omega),List.length_replicate,Nat.min_comm (n - j) j,ze9 (by omega)]
   rw [t3,show IntKind.i64.wrap ((j:Int)+((min j (n - j):Nat):Int))=((j+min j (n - j):Nat):Int) by rw [wrap_i64 (by omega) (by omega)]; omega];exact ih
  ·have:j=n:=by omega
   subst this;have c1:decide ((j:Int)<((repS j j).length:Int))=false:=by rw [hl]; simp
   simp only [c1];unfold repS;rw [Nat.sub_self,List.replicate_zero,List.append_nil]
theorem F27_eq (R:Type) {n:Int} (h0:1≤n) (hn:n≤1024) (k:List Int→Option R):F27 R [-1] n k=k (List.replicate n.toNat (-1)):=by
 obtain ⟨j,rfl⟩:∃j:Nat,n=j:=⟨n.toNat,by omega⟩
 simp only [F27,p27,F49,p49];have e1:decide ((j:Int)<0)=false:=by simp
 have w1:IntKind.u64.wrap ((([-1]:List Int).length:Nat):Int)=1:=by decide
 have w2:IntKind.u64.wrap (j:Int)=(j:Int):=Ai (by omega) (by omega);simp only [e1,w1,w2];rw [zvr R (a:=1) (b:=(j:Int)) (by unfold U64; omega) (by unfold U64; omega)];rw [Int.one_mul,w2,show (j:Int)/18446744073709551616=0 by omega,wrap_i64 (n:=(j:Int)) (by omega) (by omega)];have e2:decide ((0:Int)>0)=false:=rfl;have e3:decide ((j:Int)>9223372036854775807)=false:=by simp; omega
 have e4:decide ((0:Int)≤(j:Int)∧(j:Int)≤(j:Int)∧(j:Int)≤17592186044416)=true:=by simp; omega
 simp only [e2,e3,e4,Int.toNat_natCast,List.length_replicate];have t1:lay (List.replicate j (0:Int)) 0 (List.take j [-1])=repS 1 j:=by
  rw [List.take_of_length_le (by simp; omega),ztz (by simp; omega)];simp [repS,List.replicate_succ']
 have t2:((min ([-1]:List Int).length j:Nat):Int)=((1:Nat):Int):=by
  rw [show min ([-1]:List Int).length j=1 by simp; omega]
 rw [t1,t2];exact zu1 R (by omega) (fun x=>k x) FUEL 1 (by omega) (by omega) (by rw [Al]; omega)
abbrev zLed:Led:=(((0:Int),(0:Int),(0:Int),(0:Int),(0:Int),()),(0:Int),([]:List Va),((0:Int),(List.replicate 32 (0:Int)),(List.replicate 32 (0:Int)),([]:List Cm),()),([]:List Int),([]:List Int),())
def newS (c:Cfg) (a:List Int):Led:=(c,(0:Int),[],((0:Int),a,(List.replicate 32 (0:Int)),[],()),List.replicate c.1.toNat (-1),[],())
theorem F9_eq (R:Type) (c:Cfg) (a:List Int) (k:Led→Int→Option R):F9 R c a k=if cfgS c=true then k (newS c a) 0 else k zLed 1:=by
 simp only [F9,p9,zvv,F26,p26];cases hc:cfgS c with
 | false=>rfl
 | true=>
  have hr:=Ca hc;simp only [Bool.not_true,if_true];rw [F27_eq R hr.1 hr.2.1];rfl
theorem zvq (R:Type) {c:Cfg} (hc:cfgS c=true) (z:Led) (v:List Va) (ms:List Int) (b:Bea) (s:Int)
  (k0:Led→List Va→List Int→List Int→Tq52→Option R):∀(m i:Nat),(i:Int)≤c.1→c.1 - (i:Int)<m→
  Zd m R (i:Int) c z v (List.replicate i (-1)) ms (c.1,c.2.1,c.2.2.1,c.2.2.2.1,c.2.2.2.2.1,s,b.1,b.2.1,b.2.2.1,b.2.2.2.1,()) k0=k0 z v (List.replicate c.1.toNat (-1)) ms (c.1,c.2.1,c.2.2.1,c.2.2.2.1,c.2.2.2.2.1,s,b.1,b.2.1,b.2.2.1,b.2.2.2.1,())
 | 0,i,_,h=>by omega
 | m+1,i,h1,h2=>by
  have hr:=Ca hc;simp only [Zd,zyz]
  by_cases hi:(i:Int)<c.1
  ·have ih:=zvq R hc z v ms b s k0 m (i+1) (by omega) (by omega)
   have c1:decide ((List.replicate i (-1:Int)).length+([-1]:List Int).length≤17592186044416)=true:=by simp; omega
   have e:List.replicate i (-1:Int)++[-1]=List.replicate (i+1) (-1):=by rw [List.replicate_succ']
   have w:IntKind.i64.wrap ((i:Int)+1)=((i+1:Nat):Int):=by rw [wrap_i64 (by omega) (by omega)]; omega
   simp only [decide_eq_true hi,c1,e,w];exact ih
  ·have:i=c.1.toNat:=by omega
   subst this;simp only [decide_eq_false hi]
theorem F10_eq (R:Type) (c:Cfg) (a:List Int) (k:Led→Int→Option R):F10 R c a k=if cfgS c=true then k (newS c a) 0 else k zLed 1:=by
 simp only [F10,p10,F28_eq];cases hc:cfgS c with
 | false=>rfl
 | true=>
  have hr:=Ca hc;simp only [Bool.not_true,if_true];have h:=zvq R hc zLed [] [] ((0:Int),a,(List.replicate 32 (0:Int)),[],()) 0 (fun x2 x3 x4 x5 x6=>k ((x6.1,x6.2.1,x6.2.2.1,x6.2.2.2.1,x6.2.2.2.2.1,()),x6.2.2.2.2.2.1,x3,(x6.2.2.2.2.2.2.1,x6.2.2.2.2.2.2.2.1,x6.2.2.2.2.2.2.2.2.1,x6.2.2.2.2.2.2.2.2.2.1,()),x4,x5,()) 0) FUEL 0 (by omega) (by rw [Al]; omega);exact h
theorem ztw {c:Cfg} (hc:cfgS c=true) {a:List Int} (ha:H32 a):LOK c 0 (newS c a):=by
 have hr:=Ca hc;refine ⟨rfl,hc,⟨by simp [newS],by simp only [newS]; omega⟩,fun v hv=>(by cases hv),by simp [newS],by simp [newS,A1,totS,sumS],by simp [newS,Am,totS,sumS],⟨by simp [newS],ha,A4,zzo⟩,by simp [newS],by simp [newS]; omega,fun i _ hp=>?_,by simp [newS]⟩;exact absurd rfl hp
end Go.PG
namespace Go.PG
structure LW (l:Led):Prop where
 vals:VsOK l.2.2.1
 vlen:l.2.2.1.length≤1000
 bea:Fa l.2.2.2.1
 blen:l.2.2.2.1.2.2.2.1.length≤1000
 llen:l.2.2.2.2.1.length≤2000
 mlen:l.2.2.2.2.2.1.length≤2000
theorem LOK.lw {c:Cfg} {n:Nat} {l:Led} (h:LOK c n l) (hn:n≤100):LW l:=by
 have h1:=h.vlen; have h2:=h.blen; have h3:=h.llen; have h4:=Ca h.right; have h5:=h.miss;exact ⟨h.vals,by omega,h.bea,by omega,by omega,by omega⟩
theorem V3:LW zLed:=⟨fun v hv=>(by cases hv),by simp,Ss,by simp,by simp,by simp⟩
def Wg (a b:Led):Bool:=Kd.eqv Kq21 a.1 b.1&&((a.2.1==b.2.1)&&(decide (a.2.2.1=b.2.2.1)&&(Rr a.2.2.2.1 b.2.2.2.1&&(decide (a.2.2.2.2.1=b.2.2.2.2.1)&&decide (a.2.2.2.2.2.1=b.2.2.2.2.2.1)))))
theorem eqv_cfg (c:Cfg):Kd.eqv Kq21 c c=true:=by
 show ((c.1==c.1)&&((c.2.1==c.2.1)&&((c.2.2.1==c.2.2.1)&&((c.2.2.2.1==c.2.2.2.1)&&((c.2.2.2.2.1==c.2.2.2.2.1)&&true)))))=true;simp
theorem Kn (l:Led):Wg l l=true:=by
 unfold Wg;rw [eqv_cfg,zdz];simp
theorem zvx (R:Type) {a b:Led} (ha:LW a) (hb:LW b) (k:Bool→Option R):F11 R a b k=k (Wg a b):=by
 have h1:=ha.llen; have h2:=ha.mlen;simp only [F11,p11,F29_eq R ha.vals hb.vals ha.vlen,F30_eq R ha.bea hb.bea ha.blen,zmp R a.2.2.2.2.1 b.2.2.2.2.1 (by omega),zmp R a.2.2.2.2.2.1 b.2.2.2.2.2.1 (by omega)];unfold Wg;cases Kd.eqv Kq21 a.1 b.1<;>cases (a.2.1==b.2.1)<;>cases decide (a.2.2.1=b.2.2.1)<;>cases Rr a.2.2.2.1 b.2.2.2.1<;>cases decide (a.2.2.2.2.1=b.2.2.2.2.1)<;>rfl
theorem zuz (R:Type) {a b:List Int} (hl:a.length=b.length) (hn:a.length≤2000) (k0:Bool→Option R) (k1:Option R):∀(m i:Nat),i≤a.length→a.length - i<m→
  Y2 m R a b (a.length:Int) (i:Int) k0 k1=if a.drop i=b.drop i then k1 else k0 false
 | 0,i,_,h=>by omega
 | m+1,i,h1,h2=>by
  simp only [Y2,zyq]
  by_cases hi:i<a.length
  ·have hib:i<b.length:=by omega
   have ih:=zuz R hl hn k0 k1 m (i+1) (by omega) (by omega);have w:IntKind.i64.wrap ((i:Int)+1)=((i+1:Nat):Int):=by rw [wrap_i64 (by omega) (by omega)]; omega
   simp only [Da hi,A0 hi,A0 hib,Int.toNat_natCast,w];rw [ih,List.drop_eq_getElem_cons hi,List.drop_eq_getElem_cons hib];have g1:a.getD i 0=a[i]:=by simp [hi]
   have g2:b.getD i 0=b[i]:=by simp [hib]
   rw [g1,g2]
   by_cases e:a[i]=b[i]
   ·have:(a[i] !=b[i])=false:=by simp [e]
    simp only [this];simp only [e,List.cons.injEq,true_and]
   ·have:(a[i] !=b[i])=true:=by simpa using e
    simp only [this];simp only [List.cons.injEq,e,false_and,if_false]
  ·have:i=a.length:=by omega
   subst this;simp only [Ct];rw [List.drop_length,hl,List.drop_length,if_pos rfl]
theorem zvu (R:Type) {a b:List Int} (hn:a.length≤2000) (k:Bool→Option R):F41 R a b k=k (decide (a=b)):=by
 simp only [F41,p41]
 by_cases hl:a.length=b.length
 ·have e:((a.length:Int) !=(b.length:Int))=false:=by simp [hl]
  simp only [e];refine (zuz R hl hn (fun x4=>k x4) (k true) FUEL 0 (by omega) (by rw [Al]; omega)).trans ?_;rw [List.drop_zero,List.drop_zero]
  by_cases h:a=b
  ·rw [if_pos h,decide_eq_true h]
  ·rw [if_neg h,decide_eq_false h]
 ·have e:((a.length:Int) !=(b.length:Int))=true:=by simp; omega
  have h:a≠b:=fun h=>hl (by rw [h])
  simp only [e,decide_eq_false h]
theorem zvw (R:Type) {a b:Led} (ha:LW a) (hb:LW b) (k:Bool→Option R):F16 R a b k=k (Wg a b):=by
 simp only [F16,p16,F39_eq R ha.vals hb.vals ha.vlen,F40_eq R ha.bea hb.bea ha.blen,zvu R ha.llen,zvu R ha.mlen];unfold Wg;cases Kd.eqv Kq21 a.1 b.1<;>cases (a.2.1==b.2.1)<;>cases decide (a.2.2.1=b.2.2.1)<;>cases Rr a.2.2.2.1 b.2.2.2.1<;>cases decide (a.2.2.2.2.1=b.2.2.2.2.1)<;>rfl
section
variable {c:Cfg} {n:Nat} {l:Led}
def Ko:Led→List OpT→Led×List An
 | l,[]=>(l,[])
 | l,o::r=>((Ko (doS l o).1 r).1,(doS l o).2::(Ko (doS l o).1 r).2)
theorem zfl:∀(r:List OpT) {l:Led} {n:Nat},LOK c n l→n+r.length≤100→(∀o∈r,OpOK o)→LOK c (n+r.length) (Ko l r).1
 | [],l,n,h,_,_=>h
 | o::r,l,n,h,hn,ho=>by
  have:=zfl r (do_ok h (by simp at hn; omega) (ho o (by simp))) (by simp at hn; omega) (fun x hx=>ho x (by simp [hx]));simp only [Ko,List.length_cons]
  rwa [show n+(r.length+1)=n+1+r.length by omega]
theorem getD_op {ops:List OpT} {i:Nat} (hi:i<ops.length):ops.getD i zO=ops[i]:=by simp [hi]
theorem zu8 (R:Type) {ops:List OpT} (ho:∀o∈ops,OpOK o) (x5:Led) (k0:Led→Led→List An→Option R):∀(m i:Nat) {n:Nat} (l:Led) (acc:List An),LOK c n l→n+(ops.length - i)≤100→acc.length+(ops.length - i)≤1000→i≤ops.length→ops.length≤1000→ops.length - i<m→
  Za m R ops (ops.length:Int) (i:Int) l x5 acc k0=k0 (Ko l (ops.drop i)).1 x5 (acc++(Ko l (ops.drop i)).2)
 | 0,i,n,l,acc,_,_,_,_,_,h=>by omega
 | m+1,i,n,l,acc,h,hn,ha,h1,hL,h2=>by
  simp only [Za,zyw]
  by_cases hi:i<ops.length
  ·have hoi:=ho _ (List.getElem_mem hi)
   have ih:=zu8 R ho x5 k0 m (i+1) (n:=n+1) (doS l ops[i]).1 (acc++[(doS l ops[i]).2]) (do_ok h (by omega) hoi) (by omega) (by simp; omega) (by omega) hL (by omega);have c1:decide (acc.length+[(doS l ops[i]).2].length≤1954687338268)=true:=by simp; omega
   rw [List.drop_eq_getElem_cons hi];simp only [Da hi,A0 hi,Int.toNat_natCast,B5 hi hL,getD_op hi,F13_eq R h (show n≤100 by omega) hoi,c1];rw [ih];simp only [Ko,List.append_assoc,List.cons_append,List.nil_append]
  ·have:i=ops.length:=by omega
   subst this;simp only [Ct,List.drop_length,Ko,List.append_nil]
theorem F17_eq (R:Type) (h:LOK c n l) {ops:List OpT} (ho:∀o∈ops,OpOK o) (hn:n+ops.length≤100) (k:Led→List An→Option R):F17 R l ops k=k (Ko l ops).1 (Ko l ops).2:=by
 simp only [F17,p17];have:=zu8 R ho zLed (fun x2 x3 x4=>k x2 x4) FUEL 0 l [] h (by omega) (by simp; omega) (by omega) (by omega) (by rw [Al]; omega);rw [List.drop_zero,List.nil_append] at this;exact this
end
end Go.PG
set_option maxRecDepth 100000
namespace Go.PG
abbrev lvC:Cfg:=((2:Int),(1:Int),(1:Int),(64:Int),(1:Int),())
abbrev lvZ:List Int:=List.replicate 32 (0:Int)
abbrev lvD:List Int:=Wf lvZ 0 bV
abbrev lo1:OpT:=((1:Int),(0:Int),(5:Int),bV,(0:Int),())
abbrev lo2:OpT:=((4:Int),(0:Int),(0:Int),SHA bV,(0:Int),())
abbrev lo3:OpT:=((5:Int),(0:Int),(0:Int),bV,(0:Int),())
abbrev lo4:OpT:=((7:Int),(0:Int),(0:Int),lvZ,(0:Int),())
abbrev lo5:OpT:=((6:Int),(0:Int),(0:Int),lvZ,(0:Int),())
abbrev lo8:OpT:=((7:Int),(0:Int),(0:Int),lvZ,(1:Int),())
abbrev lo9:OpT:=((10:Int),(0:Int),(0:Int),lvZ,(0:Int),())
abbrev loA:OpT:=((0:Int),(0:Int),(0:Int),lvZ,(99:Int),())
abbrev loB:OpT:=((7:Int),(0:Int),(0:Int),lvZ,(2:Int),())
abbrev lvO:List OpT:=[lo1,lo2,lo3,lo4,lo5,lo3,lo5,lo8,lo9,loA,loB]
abbrev lv0:Led:=newS lvC lvZ
abbrev lv1:Led:=(lvC,(0:Int),[(bV,(0:Int),(5:Int),())],((0:Int),lvZ,lvZ,[],()),[(-1:Int),(-1:Int)],[],())
abbrev lv2:Led:=(lvC,(0:Int),[(bV,(0:Int),(5:Int),())],((0:Int),lvZ,lvZ,[((0:Int),SHA bV,false,lvZ,())],()),[(-1:Int),(-1:Int)],[],())
abbrev lv3:Led:=(lvC,(1:Int),[(bV,(0:Int),(5:Int),())],((0:Int),lvZ,lvZ,[((0:Int),SHA bV,false,lvZ,())],()),[(-1:Int),(-1:Int)],[],())
abbrev lv4:Led:=(lvC,(1:Int),[(bV,(0:Int),(5:Int),())],((0:Int),lvZ,bV,[((0:Int),SHA bV,true,bV,())],()),[(-1:Int),(-1:Int)],[],())
abbrev lv5:Led:=(lvC,(0:Int),[(bV,(5:Int),(5:Int),())],((1:Int),lvD,lvZ,[],()),[(0:Int),(0:Int)],[],())
theorem lvs0:doS lv0 lo1=(lv1,okS 0):=by kernel_rfl
theorem lvs1:doS lv1 lo2=(lv2,okS 0):=by kernel_rfl
theorem lvs2:doS lv2 lo3=(lv2,badS 7):=by kernel_rfl
theorem lvs3:doS lv2 lo4=(lv2,badS 10):=by kernel_rfl
theorem lvs4:doS lv2 lo5=(lv3,okS 1):=by kernel_rfl
theorem lvs5:doS lv3 lo3=(lv4,okS 0):=by kernel_rfl
theorem lvs6:doS lv4 lo5=(lv5,((0:Int),(0:Int),[],lvD,())):=by kernel_rfl
theorem lvs7:doS lv5 lo8=(lv5,((0:Int),(0:Int),[(0:Int)],lvZ,())):=by kernel_rfl
theorem lvs8:doS lv5 lo9=(lv5,okS 5):=by kernel_rfl
theorem lvs9:doS lv5 loA=(lv5,badS 2):=by kernel_rfl
theorem lvs10:doS lv5 loB=(lv5,badS 3):=by kernel_rfl
abbrev lvA:List An:=[okS 0,okS 0,badS 7,badS 10,okS 1,okS 0,((0:Int),(0:Int),[],lvD,()),((0:Int),(0:Int),[(0:Int)],lvZ,()),okS 5,badS 2,badS 3]
theorem lvP:Ko lv0 lvO=(lv5,lvA):=by
 simp only [Ko,lvs0,lvs1,lvs2,lvs3,lvs4,lvs5,lvs6,lvs7,lvs8,lvs9,lvs10]
theorem lvW:Wg lv5 zLed=false:=by kernel_rfl
theorem zty:H32 lvD:=U0 _
theorem ztx:∀o∈lvO,OpOK o:=by
 have a:∀{k n x:Int} {h:List Int},0≤k∧k≤100→0≤n∧n≤100→0≤x∧x≤100→H32 h→OpOK (k,(0:Int),x,h,n,()):=fun h1 h2 h3 h4=>⟨by unfold I64; simp only; omega,by unfold I64; simp only; omega,by unfold U64; simp only; omega,h4,by unfold I64; simp only; omega⟩
 intro o ho;have z:=A4;simp only [lvO,List.mem_cons,List.not_mem_nil,or_false] at ho;rcases ho with h | h | h | h | h | h | h | h | h | h | h<;>rw [h]
 ·exact a (by omega) (by omega) (by omega) zi3
 ·exact a (by omega) (by omega) (by omega) (U0 _)
 ·exact a (by omega) (by omega) (by omega) zi3
 ·exact a (by omega) (by omega) (by omega) z
 ·exact a (by omega) (by omega) (by omega) z
 ·exact a (by omega) (by omega) (by omega) zi3
 ·exact a (by omega) (by omega) (by omega) z
 ·exact a (by omega) (by omega) (by omega) z
 ·exact a (by omega) (by omega) (by omega) z
 ·exact a (by omega) (by omega) (by omega) z
 ·exact a (by omega) (by omega) (by omega) z
end Go.PG
namespace Go.PG
section
variable {c:Cfg} {n:Nat} {l:Led}
end
end Go.PG
set_option maxRecDepth 100000
namespace Go.PG
theorem G8_ok (R:Type) (l:Led) (v:List Int) (k0:Bool→Option R) (k1:List An→Led→List Int→Option R):
  Yy FUEL R lvA [(0:Int),(0:Int),(7:Int),(10:Int),(0:Int),(0:Int),(0:Int),(0:Int),(0:Int),(2:Int),(3:Int)] 0 l v k0 k1=k1 lvA l v:=by
 obtain ⟨m,hm⟩:=Hq 12 (by omega);rw [hm]
 kernel_rfl
theorem F8_eq (R:Type) (k:Bool→Option R):F8 R k=k true:=by
 have hz:cfgS lvC=true:=by decide
 have hw:cfgS ((0:Int),(0:Int),(0:Int),(0:Int),(0:Int),())=false:=by decide
 have h0:LOK lvC 0 lv0:=ztw hz A4;have h5:LOK lvC 11 (Ko lv0 lvO).1:=zfl lvO h0 (by decide) ztx;rw [lvP] at h5;have hl:LW lv5:=h5.lw (by omega);have e1:F17 R lv0 lvO=fun k=>k lv5 lvA:=funext fun k=>by rw [F17_eq R h0 ztx (by decide),lvP]
 have e2:F24 R lvZ 0 bV=fun k=>k lvD:=funext fun k=>F24_eq R A4 zi3 (by omega) k
 have e3:F16 R lv5 lv5=fun k=>k true:=funext fun k=>by rw [zvw R hl hl,Kn]
 have e4:F16 R lv5 zLed=fun k=>k false:=funext fun k=>by rw [zvw R hl V3,lvW]
 have e5:F23 R bV=fun k=>k (SHA bV):=funext fun k=>F23_eq R zi3 k
 have e6:F9 R lvC lvZ=fun k=>k lv0 0:=funext fun k=>by rw [F9_eq,if_pos hz]
 have e7:F9 R ((0:Int),(0:Int),(0:Int),(0:Int),(0:Int),()) lvZ=fun k=>k zLed 1:=funext fun k=>by rw [F9_eq,if_neg (by rw [hw]; decide)]
 have e8:F20 R [(0:Int)] [(0:Int)]=fun k=>k true:=funext fun k=>by rw [zmp R _ _ (by decide)]; rfl
 have e9:Kd.eqv (.arr 32 (.int .u8)) lvD lvD=true:=(Bv zty.1 zty.1).trans (decide_eq_true rfl);unfold F8 p8;dsimp only;rw [e6,e7,e5];dsimp only;rw [e1];dsimp only;have:∀(k0:Bool→Option R) (k1:List An→Led→List Int→Option R),Yy FUEL R lvA [(0:Int),(0:Int),(7:Int),(10:Int),(0:Int),(0:Int),(0:Int),(0:Int),(0:Int),(2:Int),(3:Int)] 0 lv5 bV k0 k1=k1 lvA lv5 bV:=G8_ok R lv5 bV;rw [show ((0:Int) !=0)=false from rfl,show ((1:Int) !=1)=false from rfl,show ((lvA.length:Int) !=(lvO.length:Int))=false from rfl];dsimp only;rw [this];dsimp only;rw [show bnd (4:Int) (lvA.length:Int)=true from rfl];dsimp only
 rw [show ((List.getD lvA 4 ((0:Int),(0:Int),([]:(List Int)),(List.replicate 32 (0:Int)),())).2.1==(1:Int))=true from rfl];dsimp only;rw [show bnd (6:Int) (lvA.length:Int)=true from rfl];dsimp only;rw [show (List.getD lvA 6 ((0:Int),(0:Int),([]:(List Int)),(List.replicate 32 (0:Int)),()))=((0:Int),(0:Int),[],lvD,()) from rfl];dsimp only;rw [show ((0:Int)==0)=true from rfl];dsimp only;rw [e2];dsimp only;rw [e9];dsimp only;rw [show bnd (7:Int) (lvA.length:Int)=true from rfl];dsimp only
 rw [show (List.getD lvA 7 ((0:Int),(0:Int),([]:(List Int)),(List.replicate 32 (0:Int)),())).2.2.1=[(0:Int)] from rfl,e8];dsimp only;rw [show bnd (8:Int) (lvA.length:Int)=true from rfl];dsimp only;rw [show ((List.getD lvA 8 ((0:Int),(0:Int),([]:(List Int)),(List.replicate 32 (0:Int)),())).2.1==(5:Int))=true from rfl];dsimp only;rw [show ((1:Int)==1)=true from rfl,show ((([]:List Int).length:Int)==0)=true from rfl];dsimp only;rw [e3];dsimp only;rw [e4];rfl
end Go.PG
namespace Go.PG
theorem F3_eq' (R:Type) (c:Cfg) {a:List Int} (ha:H32 a) (k:Bool→Option R):F3 R c a k=k true:=by
 simp only [F3,p3,F8_eq,Bool.not_true,F9_eq,F10_eq];cases hc:cfgS c with
 | false=>
  simp only [Bool.false_eq_true,if_false];rw [zvx R V3 V3,Kn];rfl
 | true=>
  have h:=(ztw hc ha).lw (by omega);simp only [if_true];rw [zvx R h h,Kn];rfl
abbrev b1:List Int:=List.set (List.replicate 32 (0:Int)) 0 (1:Int)
end Go.PG
end
