/- A part of the proof over this seat (own work; the framework that reads a Go function as a pure one, or a use of it). No condition of its own. -/
import Derived.Test.YtlkohcnigichaaaGreatLAtOnce6
import Derived.KernelRfl
set_option linter.unusedVariables false
set_option linter.unusedSimpArgs false
set_option linter.unusedSectionVars false
noncomputable section
namespace Go.PG
theorem zbe:∀(l:List Int) (i:Nat) (x:Int),i<l.length→(l.set i x).sum=l.sum - l.getD i 0+x
 | [],i,_,h=>by simp at h
 | y::l,0,x,_=>by simp; omega
 | y::l,i+1,x,h=>by
  have:=zbe l i x (by simpa using h);simp only [List.set_cons_succ,List.sum_cons,List.getD_cons_succ];omega
theorem za8 (l:List Int):totS l=l.sum:=by unfold totS sumS; rw [List.take_length]
theorem Iq {l:List Va} {i:Nat} (hi:i<l.length) (x:Int):Am (Jk l i x)=Am l:=by
 unfold Am Jk;rw [List.map_set];apply List.ext_getElem
 ·simp
 ·intro j h1 h2
  rw [List.getElem_set];split
  ·rename_i e; subst e; rw [Cn hi]; simp
  ·rfl
theorem Ko {l:List Va} {i:Nat} (hi:i<l.length) (x:Int):totS (A1 (Jk l i x))=totS (A1 l) - (l.getD i zV).2.2.1+x:=by
 have e:A1 (Jk l i x)=(A1 l).set i x:=by unfold A1 Jk; rw [List.map_set]
 rw [e,za8,za8,zbe _ _ _ (by rw [Ek]; exact hi)];have:(A1 l).getD i 0=(l.getD i zV).2.2.1:=by rw [Cn hi]; simp [A1,hi]
 rw [this]
theorem Wc {l:List Va} (h:VsOK l) (i:Nat) {x:Int} (hx:U64 x):VsOK (Jk l i x):=fun v hv=>by
 rcases List.mem_or_eq_of_mem_set hv with h1 | h1
 ·exact h v h1
 ·rw [h1]; exact ⟨(h.get i).key,(h.get i).stake,hx⟩
theorem Q0 (l:List Va) (i:Nat) (x:Int):(Jk l i x).length=l.length:=by simp [Jk]
section
variable {c:Cfg} {n:Nat} {l:Led}
theorem LOK.mono (h:LOK c n l):LOK c (n+1) l:=⟨h.cfg,h.right,h.slot,h.vals,by have:=h.vlen; omega,h.next,h.stake,h.bea,by have:=h.blen; omega,h.llen,h.lead,h.miss⟩
structure MOK (l:Led) (n:Nat) (v:List Va):Prop where
 vals:VsOK v
 vlen:v.length≤n+1
 next:totS (A1 v)<9223372036854775808
 stake:Am v=Am l.2.2.1∨Am v=Am l.2.2.1++[0]
theorem Rk (h:LOK c n l) (hn:n≤100) {r:List Va×Int×Int} (hr:r.2.2=0→MOK l n r.1):LOK c (n+1) (C4 l r).1:=by
 unfold C4;split
 ·rename_i h0
  have hm:=hr h0;have hA:=Dg h.vals;have hv:=h.vlen;refine ⟨h.cfg,h.right,h.slot,hm.vals,hm.vlen,hm.next,?_,h.bea,by have:=h.blen; exact Nat.le_succ_of_le this,h.llen,fun i hi hp=>?_,h.miss⟩
  ·rcases hm.stake with e | e
   ·simp only [e]; exact h.stake
   ·simp only [e,G7,Int.add_zero]; exact h.stake
  ·rcases hm.stake with e | e
   ·simp only [e] at hp ⊢; exact h.lead i hi hp
   ·simp only [e] at hp ⊢
    have hp':posS (Am l.2.2.1)≠0:=by
     rw [Rf hA];have hA2:AllU64 (Am l.2.2.1++[0]):=by rw [←e]; exact Dg hm.vals
     have:=(Rf hA2).1 hp
     rwa [G7,Int.add_zero] at this
    rw [h.lead i hi hp'];unfold schV;rw [zrv hA (by rw [Ct]; omega)]
 ·exact h.mono
theorem dep_ok (h:LOK c n l) (hn:n≤100) {o:OpT} (ho:OpOK o) (most:Int) (h0:(depS l.2.2.1 o.2.2.2.1 o.2.2.1 most).2.2=0):MOK l n (depS l.2.2.1 o.2.2.2.1 o.2.2.1 most).1:=by
 have hv:=h.vlen;have ha:=ho.amount;unfold U64 at ha;unfold depS at h0 ⊢;split
 ·rename_i hc
  rw [if_pos hc] at h0;cases hq:fstK l.2.2.1 o.2.2.2.1 with
  | none=>
   rw [hq] at h0;simp only [] at h0 ⊢;split
   ·rename_i h1; rw [if_pos h1] at h0; cases h0
   ·rename_i h1
    rw [if_neg h1] at h0;split
    ·rename_i h2
     refine ⟨fun v hvm=>?_,by simp; omega,?_,.inr ?_⟩
     ·rcases List.mem_append.1 hvm with h3 | h3
      ·exact h.vals v h3
      ·rw [List.mem_singleton.1 h3]; exact ⟨ho.hash,Ig,ho.amount⟩
     ·have:A1 (l.2.2.1++[(o.2.2.2.1,0,o.2.2.1,())])=A1 l.2.2.1++[o.2.2.1]:=by simp [A1]
      simp only [this,G7];exact h2
     ·simp [Am]
    ·rename_i h2; rw [if_neg h2] at h0; cases h0
  | some i=>
   rw [hq] at h0;obtain ⟨hi,_⟩:=Yk hq;have hx:=(h.vals.get i).next;have hnx:=zg7 h.vals hi;unfold U64 at hx;simp only [] at h0 ⊢;split
   ·rename_i h2
    refine ⟨Wc h.vals i (by unfold U64; omega),by rw [Q0]; omega,?_,.inl (Iq hi _)⟩;rw [Ko hi];omega
   ·rename_i h2; rw [if_neg h2] at h0; cases h0
 ·rename_i hc; rw [if_neg hc] at h0; cases h0
theorem wd_ok (h:LOK c n l) (w a:Int) (ha:U64 a) (h0:(wdS l.2.2.1 w a).2.2=0):MOK l n (wdS l.2.2.1 w a).1:=by
 have hv:=h.vlen;have ht:=h.next;unfold U64 at ha;unfold wdS at h0 ⊢;split
 ·rename_i hc
  rw [if_pos hc] at h0;split
  ·rename_i h1
   rw [if_pos h1] at h0;have hi:w.toNat<l.2.2.1.length:=by omega
   have hx:=(h.vals.get w.toNat).next;unfold U64 at hx;split
   ·rename_i h2
    refine ⟨Wc h.vals _ (by unfold U64; omega),by rw [Q0]; omega,?_,.inl (Iq hi _)⟩;rw [Ko hi];omega
   ·rename_i h2; rw [if_neg h2] at h0; cases h0
  ·rename_i h1; rw [if_neg h1] at h0; cases h0
 ·rename_i hc; rw [if_neg hc] at h0; cases h0
theorem sl_ok (h:LOK c n l) (w a:Int) (ha:U64 a) (h0:(slS l.2.2.1 w a).2.2=0):MOK l n (slS l.2.2.1 w a).1:=by
 have hv:=h.vlen;have ht:=h.next;unfold U64 at ha;unfold slS at h0 ⊢;split
 ·rename_i hc
  rw [if_pos hc] at h0;split
  ·rename_i h1
   rw [if_pos h1] at h0;have hi:w.toNat<l.2.2.1.length:=by omega
   have hx:=(h.vals.get w.toNat).next;unfold U64 at hx;refine ⟨Wc h.vals _ (by unfold U64; omega),by rw [Q0]; omega,?_,.inl (Iq hi _)⟩;rw [Ko hi];omega
  ·rename_i h1; rw [if_neg h1] at h0; cases h0
 ·rename_i hc; rw [if_neg hc] at h0; cases h0
theorem Uu {b:Bea} {ph w:Int} {x:List Int} (h0:(Da b ph w x).2=0):(Da b ph w x).1.1=b.1∧(Da b ph w x).1.2.1=b.2.1:=by
 unfold Da at h0 ⊢;split
 ·rename_i h1; rw [if_pos h1] at h0; cases h0
 ·rename_i h1
  rw [if_neg h1] at h0;split
  ·rename_i h2
   rw [if_pos h2] at h0;unfold Po at h0 ⊢;split
   ·exact ⟨rfl,rfl⟩
   ·rename_i h3; rw [if_neg h3] at h0; exact absurd h0 h3
  ·rename_i h2; rw [if_neg h2] at h0; cases h0
theorem Ur {b:Bea} {ph w:Int} {x:List Int} (h0:(C9 b ph w x).2=0):(C9 b ph w x).1.1=b.1∧(C9 b ph w x).1.2.1=b.2.1:=by
 unfold C9 at h0 ⊢;split
 ·rename_i h1; rw [if_pos h1] at h0; cases h0
 ·rename_i h1
  rw [if_neg h1] at h0;split
  ·rename_i h2
   rw [if_pos h2] at h0;unfold Po at h0 ⊢;split
   ·exact ⟨rfl,rfl⟩
   ·rename_i h3; rw [if_neg h3] at h0; exact absurd h0 h3
  ·rename_i h2; rw [if_neg h2] at h0; cases h0
theorem ze9 (h:LOK c n l) {r:Bea×Int} (hr:Fc r.1∧r.1.2.2.2.1.length≤l.2.2.2.1.2.2.2.1.length+1) (hs:r.2=0→r.1.1=l.2.2.2.1.1∧r.1.2.1=l.2.2.2.1.2.1):LOK c (n+1) (Is l r).1:=by
 have hb:=h.blen;have hv:=h.vlen;unfold Is;split
 ·rename_i h0
  have:=(hs h0).2;exact ⟨h.cfg,h.right,h.slot,h.vals,by simp only []; omega,h.next,h.stake,hr.1,by have:=hr.2; simp only []; omega,h.llen,fun i hi hp=>by simp only [this]; exact h.lead i hi hp,h.miss⟩
 ·exact h.mono
theorem zpv (a:List Int) (m:Int) (l:List Int) {n i:Nat} (h:i<n):(schP a m l n).getD i 0=schV a m l i:=by
 unfold schP;simp [h]
theorem adv_ok (h:LOK c n l) (hn:n≤100):LOK c (n+1) (advS l).1:=by
 have hb:=h.blen;have hv:=h.vlen;have hx:=N2 h;have hc:=Cq h.right;unfold advS;split
 ·split
  ·obtain ⟨b1,b2⟩:=bEnd_ok h.bea
   have hm:=Ut l.2.2.2.1;rw [(zt5 h _).2];refine ⟨h.cfg,h.right,⟨hx.1,hx.2.1⟩,zjl h.vals,by simp only [J5]; omega,by simp only [zem]; exact h.next,by simp only [Om]; exact h.next,b1,by simp only [b2]; omega,?_,fun i hi _=>?_,by simp only []; omega⟩
   ·simp only [Hx,h.cfg]; omega
   ·simp only [h.cfg]
    exact zpv _ _ _ (by omega)
  ·exact h.mono
 ·exact ⟨h.cfg,h.right,⟨hx.1,hx.2.1⟩,h.vals,by simp only []; omega,h.next,h.stake,h.bea,by simp only []; omega,h.llen,h.lead,h.miss⟩
theorem do_ok (h:LOK c n l) (hn:n≤100) {o:OpT} (ho:OpOK o):LOK c (n+1) (doS l o).1:=by
 unfold doS;split
 ·split
  ·exact Rk h hn (dep_ok h hn ho _)
  ·split
   ·exact Rk h hn (wd_ok h _ _ ho.amount)
   ·split
    ·exact Rk h hn (sl_ok h _ _ ho.amount)
    ·split
     ·split
      ·exact ze9 h (zej h.bea _ ho.who ho.hash) Uu
      ·exact h.mono
     ·split
      ·split
       ·have:=zeh h.bea (phS l.1 l.2.1) o.2.1 ho.hash
        exact ze9 h ⟨this.1,by omega⟩ Ur
       ·exact h.mono
      ·split
       ·exact adv_ok h hn
       ·exact h.mono
 ·exact h.mono
end
end Go.PG
namespace Go.PG
theorem zud {l:List Int} {o:Nat} {d:List Int} (h:o+d.length≤l.length):lay l o d=l.take o++d++l.drop (o+d.length):=by
 simp [lay]
def repS (j n:Nat):List Int:=List.replicate j (-1)++List.replicate (n - j) 0
theorem zpz {j n:Nat} (h:j≤n):(repS j n).length=n:=by simp [repS]; omega
theorem Ts {j n i:Nat} (h:i≤j):(repS j n).take i=List.replicate i (-1):=by
 unfold repS;rw [List.take_append_of_le_length (by simpa using h),List.take_replicate,Nat.min_eq_left h]
theorem zfl {j n d:Nat} (h:j+d≤n):(repS j n).take j++List.replicate d (-1)++(repS j n).drop (j+d)=repS (j+d) n:=by
 rw [Ts (Nat.le_refl j)];unfold repS;rw [List.drop_append,List.drop_eq_nil_of_le (by simp),List.nil_append,List.length_replicate,List.drop_replicate,List.replicate_append_replicate,show n - j - (j+d - j)=n - (j+d) by omega]
theorem zvf (R:Type) {n:Nat} (hn:n≤1024) (k0:List Int→Option R):∀(m j:Nat),1≤j→j≤n→n - j<m→Za m R (j:Int) (repS j n) k0=k0 (List.replicate n (-1))
 | 0,j,_,_,h=>by omega
 | m+1,j,h0,h1,h2=>by
  simp only [Za,zy5];have hl:=zpz h1
  by_cases hj:j<n
  ·have hd:min j (n - j)≤n - j:=Nat.min_le_right _ _
   have hd1:1≤min j (n - j):=by omega
   have ih:=zvf R hn k0 m (j+min j (n - j)) (by omega) (by omega) (by omega);have c1:decide ((j:Int)<((repS j n).length:Int))=true:=by rw [hl]; exact C5 hj
   have c2:decide ((0:Int)≤(j:Int)∧(j:Int)≤((repS j n).length:Int)∧((repS j n).length:Int)≤((repS j n).length:Int)∧((repS j n).length:Int)≤((repS j n).length:Int))=true:=by rw [hl]; simp; omega
   have c3:decide ((0:Int)≤0∧(0:Int)≤(j:Int)∧(j:Int)≤(j:Int)∧(j:Int)≤((repS j n).length:Int))=true:=by rw [hl]; simp; omega
   simp only [c1,c2,c3];have t1:List.take (Int.toNat ((j:Int) - 0)) (List.drop 0 (repS j n))=List.replicate j (-1):=by
    rw [Int.sub_zero,Int.toNat_natCast,List.drop_zero,Ts (Nat.le_refl j)]
   have t2:Int.toNat (((repS j n).length:Int) - (j:Int))=n - j:=by rw [hl]; omega
   rw [t1,t2,List.take_replicate,List.length_replicate];have t3:lay (repS j n) (Int.toNat (j:Int)) (List.replicate (min (n - j) j) (-1))=repS (j+min j (n - j)) n:=by
    rw [Int.toNat_natCast,zud (by rw [List.length_replicate,hl]; omega),List.length_replicate,Nat.min_comm (n - j) j,zfl (by omega)]
   rw [t3,show IntKind.i64.wrap ((j:Int)+((min j (n - j):Nat):Int))=((j+min j (n - j):Nat):Int) by rw [wrap_i64 (by omega) (by omega)]; omega];exact ih
  ·have:j=n:=by omega
   subst this;have c1:decide ((j:Int)<((repS j j).length:Int))=false:=by rw [hl]; simp
   simp only [c1];unfold repS;rw [Nat.sub_self,List.replicate_zero,List.append_nil]
theorem F27_eq (R:Type) {n:Int} (h0:1≤n) (hn:n≤1024) (k:List Int→Option R):F27 R [-1] n k=k (List.replicate n.toNat (-1)):=by
 obtain ⟨j,rfl⟩:∃j:Nat,n=j:=⟨n.toNat,by omega⟩
 simp only [F27,p27,F49,p49];have e1:decide ((j:Int)<0)=false:=by simp
 have w1:IntKind.u64.wrap ((([-1]:List Int).length:Nat):Int)=1:=by decide
 have w2:IntKind.u64.wrap (j:Int)=(j:Int):=Ai (by omega) (by omega);simp only [e1,w1,w2];rw [zv4 R (a:=1) (b:=(j:Int)) (by unfold U64; omega) (by unfold U64; omega)];rw [Int.one_mul,w2,show (j:Int)/18446744073709551616=0 by omega,wrap_i64 (n:=(j:Int)) (by omega) (by omega)];have e2:decide ((0:Int)>0)=false:=rfl;have e3:decide ((j:Int)>9223372036854775807)=false:=by simp; omega
 have e4:decide ((0:Int)≤(j:Int)∧(j:Int)≤(j:Int)∧(j:Int)≤17592186044416)=true:=by simp; omega
 simp only [e2,e3,e4,Int.toNat_natCast,List.length_replicate];have t1:lay (List.replicate j (0:Int)) 0 (List.take j [-1])=repS 1 j:=by
  rw [List.take_of_length_le (by simp; omega),zud (by simp; omega)];simp [repS,List.replicate_succ']
 have t2:((min ([-1]:List Int).length j:Nat):Int)=((1:Nat):Int):=by
  rw [show min ([-1]:List Int).length j=1 by simp; omega]
 rw [t1,t2];exact zvf R (by omega) (fun x=>k x) FUEL 1 (by omega) (by omega) (by rw [Al]; omega)
abbrev zLed:Led:=(((0:Int),(0:Int),(0:Int),(0:Int),(0:Int),()),(0:Int),([]:List Va),((0:Int),(List.replicate 32 (0:Int)),(List.replicate 32 (0:Int)),([]:List Cm),()),([]:List Int),([]:List Int),())
def newS (c:Cfg) (a:List Int):Led:=(c,(0:Int),[],((0:Int),a,(List.replicate 32 (0:Int)),[],()),List.replicate c.1.toNat (-1),[],())
theorem F9_eq (R:Type) (c:Cfg) (a:List Int) (k:Led→Int→Option R):F9 R c a k=if cfgS c=true then k (newS c a) 0 else k zLed 1:=by
 simp only [F9,p9,zv8,F26,p26];cases hc:cfgS c with
 | false=>rfl
 | true=>
  have hr:=Cq hc;simp only [Bool.not_true,if_true];rw [F27_eq R hr.1 hr.2.1];rfl
def Ys (a:List Int):Cfg:=(1+a.getD 0 0 % 6,a.getD 1 0 % (1+a.getD 0 0 % 6+1),a.getD 2 0 % (1+a.getD 0 0 % 6 - a.getD 1 0 % (1+a.getD 0 0 % 6+1)+1),1+a.getD 3 0 % 64,1+a.getD 4 0 % 6,())
theorem conf_ok {x y z u v:Int} (h1:1≤x∧x≤6) (h2:0≤y∧y≤x) (h3:0≤z∧z≤x - y) (h4:1≤u∧u≤64) (h5:1≤v∧v≤6):cfgS (x,y,z,u,v,())=true:=by
 unfold cfgS;simp only [decide_eq_true_eq];omega
theorem zcl (a:List Int):cfgS (Ys a)=true∧(Ys a).1≤6∧(Ys a).2.2.2.2.1≤6:=by
 unfold Ys;generalize a.getD 0 0=a0;generalize a.getD 1 0=a1;generalize a.getD 2 0=a2;generalize a.getD 3 0=a3;generalize a.getD 4 0=a4;have h0:0≤a0 % 6∧a0 % 6<6:=by omega
 generalize a0 % 6=x at h0;have m1:=Int.emod_nonneg a1 (show (1+x+1)≠0 by omega);have m2:=Int.emod_lt_of_pos a1 (show 0<(1+x+1) by omega);generalize a1 % (1+x+1)=y at m1 m2;have m3:=Int.emod_nonneg a2 (show (1+x - y+1)≠0 by omega);have m4:=Int.emod_lt_of_pos a2 (show 0<(1+x - y+1) by omega);generalize a2 % (1+x - y+1)=z at m3 m4;have h3:0≤a3 % 64∧a3 % 64<64:=by omega
 generalize a3 % 64=u at h3;have h4:0≤a4 % 6∧a4 % 6<6:=by omega
 generalize a4 % 6=v at h4;exact ⟨conf_ok (by omega) (by omega) (by omega) (by omega) (by omega),(show 1+x≤6 by omega),(show 1+v≤6 by omega)⟩
theorem w64 {x:Int} (h0:0≤x) (h1:x≤100000):IntKind.i64.wrap x=x:=wrap_i64 (by omega) (by omega)
theorem F12_eq (R:Type) {a:List Int} (h:AllU8 a) (k:Cfg→Option R):F12 R a k=k (Ys a):=by
 have u:∀i,0≤a.getD i 0∧a.getD i 0<256:=fun i=>Au (p:=U8) h (by unfold U8; omega) i
 have u0:=u 0; have u1:=u 1; have u2:=u 2; have u3:=u 3; have u4:=u 4;unfold F12 p12;dsimp only;unfold Ys;generalize a.getD 0 0=a0 at u0;generalize a.getD 1 0=a1 at u1;generalize a.getD 2 0=a2 at u2;generalize a.getD 3 0=a3 at u3;generalize a.getD 4 0=a4 at u4;rw [Int.tmod_eq_emod_of_nonneg u0.1,Int.tmod_eq_emod_of_nonneg u3.1,Int.tmod_eq_emod_of_nonneg u4.1];have h0:0≤a0 % 6∧a0 % 6<6:=by omega
 generalize a0 % 6=x at h0;have h3:0≤a3 % 64∧a3 % 64<64:=by omega
 generalize a3 % 64=v at h3;have h4:0≤a4 % 6∧a4 % 6<6:=by omega
 generalize a4 % 6=w at h4;rw [w64 (x:=x) (by omega) (by omega),w64 (x:=1+x) (by omega) (by omega),w64 (x:=v) (by omega) (by omega),w64 (x:=1+v) (by omega) (by omega),w64 (x:=w) (by omega) (by omega),w64 (x:=1+w) (by omega) (by omega),w64 (x:=a1) (by omega) (by omega),w64 (x:=1+x+1) (by omega) (by omega)];have z1:(!(1+x+1==0))=true:=by rw [Bx (by omega)]; rfl
 simp only [z1];have m0:Int.tmod a1 (1+x+1)=a1 % (1+x+1):=Int.tmod_eq_emod_of_nonneg u1.1;have m1:=Int.emod_nonneg a1 (show (1+x+1)≠0 by omega);have m2:=Int.emod_lt_of_pos a1 (show 0<(1+x+1) by omega);rw [m0];generalize a1 % (1+x+1)=y at m1 m2;rw [w64 (x:=a2) (by omega) (by omega),w64 (x:=1+x - y) (by omega) (by omega),w64 (x:=1+x - y+1) (by omega) (by omega)];have z2:(!(1+x - y+1==0))=true:=by rw [Bx (by omega)]; rfl
 simp only [z2];have m3:Int.tmod a2 (1+x - y+1)=a2 % (1+x - y+1):=Int.tmod_eq_emod_of_nonneg u2.1;rw [m3]
theorem zua {c:Cfg} (hc:cfgS c=true) {a:List Int} (ha:H32 a):LOK c 0 (newS c a):=by
 have hr:=Cq hc;refine ⟨rfl,hc,⟨by simp [newS],by simp only [newS]; omega⟩,fun v hv=>(by cases hv),by simp [newS],by simp [newS,A1,totS,sumS],by simp [newS,Am,totS,sumS],⟨by simp [newS],ha,A4,zz1⟩,by simp [newS],by simp [newS]; omega,fun i _ hp=>?_,by simp [newS]⟩;exact absurd rfl hp
end Go.PG
namespace Go.PG
structure LW (l:Led):Prop where
 vals:VsOK l.2.2.1
 vlen:l.2.2.1.length≤1000
 bea:Fc l.2.2.2.1
 blen:l.2.2.2.1.2.2.2.1.length≤1000
 llen:l.2.2.2.2.1.length≤2000
 mlen:l.2.2.2.2.2.1.length≤2000
theorem LOK.lw {c:Cfg} {n:Nat} {l:Led} (h:LOK c n l) (hn:n≤100):LW l:=by
 have h1:=h.vlen; have h2:=h.blen; have h3:=h.llen; have h4:=Cq h.right; have h5:=h.miss;exact ⟨h.vals,by omega,h.bea,by omega,by omega,by omega⟩
theorem zx2:LW zLed:=⟨fun v hv=>(by cases hv),by simp,Sw,by simp,by simp,by simp⟩
def Wl (a b:Led):Bool:=Kd.eqv Kq21 a.1 b.1&&((a.2.1==b.2.1)&&(decide (a.2.2.1=b.2.2.1)&&(Ru a.2.2.2.1 b.2.2.2.1&&(decide (a.2.2.2.2.1=b.2.2.2.2.1)&&decide (a.2.2.2.2.2.1=b.2.2.2.2.2.1)))))
theorem eqv_cfg (c:Cfg):Kd.eqv Kq21 c c=true:=by
 show ((c.1==c.1)&&((c.2.1==c.2.1)&&((c.2.2.1==c.2.2.1)&&((c.2.2.2.1==c.2.2.2.1)&&((c.2.2.2.2.1==c.2.2.2.2.1)&&true)))))=true;simp
theorem P1 (l:Led):Wl l l=true:=by
 unfold Wl;rw [eqv_cfg,zeb];simp
theorem F11_eq (R:Type) {a b:Led} (ha:LW a) (hb:LW b) (k:Bool→Option R):F11 R a b k=k (Wl a b):=by
 have h1:=ha.llen; have h2:=ha.mlen;simp only [F11,p11,F29_eq R ha.vals hb.vals ha.vlen,F30_eq R ha.bea hb.bea ha.blen,zc8 R a.2.2.2.2.1 b.2.2.2.2.1 (by omega),zc8 R a.2.2.2.2.2.1 b.2.2.2.2.2.1 (by omega)];unfold Wl;cases Kd.eqv Kq21 a.1 b.1<;>cases (a.2.1==b.2.1)<;>cases decide (a.2.2.1=b.2.2.1)<;>cases Ru a.2.2.2.1 b.2.2.2.1<;>cases decide (a.2.2.2.2.1=b.2.2.2.2.1)<;>rfl
theorem zvd (R:Type) {a b:List Int} (hl:a.length=b.length) (hn:a.length≤2000) (k0:Bool→Option R) (k1:Option R):∀(m i:Nat),i≤a.length→a.length - i<m→
  Y8 m R a b (a.length:Int) (i:Int) k0 k1=if a.drop i=b.drop i then k1 else k0 false
 | 0,i,_,h=>by omega
 | m+1,i,h1,h2=>by
  simp only [Y8,zy3]
  by_cases hi:i<a.length
  ·have hib:i<b.length:=by omega
   have ih:=zvd R hl hn k0 k1 m (i+1) (by omega) (by omega);have w:IntKind.i64.wrap ((i:Int)+1)=((i+1:Nat):Int):=by rw [wrap_i64 (by omega) (by omega)]; omega
   simp only [C5 hi,Ay hi,Ay hib,Int.toNat_natCast,w];rw [ih,List.drop_eq_getElem_cons hi,List.drop_eq_getElem_cons hib];have g1:a.getD i 0=a[i]:=by simp [hi]
   have g2:b.getD i 0=b[i]:=by simp [hib]
   rw [g1,g2]
   by_cases e:a[i]=b[i]
   ·have:(a[i] !=b[i])=false:=by simp [e]
    simp only [this];simp only [e,List.cons.injEq,true_and]
   ·have:(a[i] !=b[i])=true:=by simpa using e
    simp only [this];simp only [List.cons.injEq,e,false_and,if_false]
  ·have:i=a.length:=by omega
   subst this;simp only [Cl];rw [List.drop_length,hl,List.drop_length,if_pos rfl]
theorem zv7 (R:Type) {a b:List Int} (hn:a.length≤2000) (k:Bool→Option R):F41 R a b k=k (decide (a=b)):=by
 simp only [F41,p41]
 by_cases hl:a.length=b.length
 ·have e:((a.length:Int) !=(b.length:Int))=false:=by simp [hl]
  simp only [e];refine (zvd R hl hn (fun x4=>k x4) (k true) FUEL 0 (by omega) (by rw [Al]; omega)).trans ?_;rw [List.drop_zero,List.drop_zero]
  by_cases h:a=b
  ·rw [if_pos h,decide_eq_true h]
  ·rw [if_neg h,decide_eq_false h]
 ·have e:((a.length:Int) !=(b.length:Int))=true:=by simp; omega
  have h:a≠b:=fun h=>hl (by rw [h])
  simp only [e,decide_eq_false h]
theorem zv9 (R:Type) {a b:Led} (ha:LW a) (hb:LW b) (k:Bool→Option R):F16 R a b k=k (Wl a b):=by
 simp only [F16,p16,F39_eq R ha.vals hb.vals ha.vlen,F40_eq R ha.bea hb.bea ha.blen,zv7 R ha.llen,zv7 R ha.mlen];unfold Wl;cases Kd.eqv Kq21 a.1 b.1<;>cases (a.2.1==b.2.1)<;>cases decide (a.2.2.1=b.2.2.1)<;>cases Ru a.2.2.2.1 b.2.2.2.1<;>cases decide (a.2.2.2.2.1=b.2.2.2.2.1)<;>rfl
def AnOK (a:An):Prop:=a.2.2.1.length≤1000∧a.2.2.2.1.length=32
theorem zt1 (R:Type) {a:An} (h:AnOK a) (k:Bool→Option R):F15 R a a k=k true:=by
 have e1:Kd.eqv (.arr 32 (.int .u8)) a.2.2.2.1 a.2.2.2.1=true:=(Bs h.2 h.2).trans (decide_eq_true rfl);have h1:=h.1;simp only [F15,p15,beq_self_eq_true,zc8 R a.2.2.1 a.2.2.1 (by omega),decide_true,e1]
theorem D9 (e:Int):AnOK (badS e):=⟨by simp [badS],rfl⟩
theorem zb2 (e:Int):AnOK (okS e):=⟨by simp [okS],rfl⟩
section
variable {c:Cfg} {n:Nat} {l:Led}
theorem zpo (a:List Int) (slot c m:Int) (l:List Int):(sitS a slot c m l).1.length≤1000:=by
 unfold sitS;split
 ·have:=zte l c (srcS a 3 slot) m
  show (comL _ _ _ _).1.length≤1000;omega
 ·simp
theorem ask_an (h:LOK c n l) (o:OpT):AnOK (askS l o):=by
 unfold askS;split
 ·split
  ·exact zb2 _
  ·exact D9 _
 ·split
  ·exact ⟨by simp,h.bea.seed.1⟩
  ·split
   ·exact D9 _
   ·split
    ·split
     ·exact D9 _
     ·split
      ·exact ⟨by simp,rfl⟩
      ·exact D9 _
    ·split
     ·split
      ·exact ⟨by simp,rfl⟩
      ·exact D9 _
     ·split
      ·exact ⟨zpo _ _ _ _ _,rfl⟩
      ·exact D9 _
theorem do_an (h:LOK c n l) (hn:n≤100) (o:OpT):AnOK (doS l o).2:=by
 have hm:∀r,AnOK (C4 l r).2:=fun r=>by
  unfold C4;split
  ·exact zb2 _
  ·exact D9 _
 have hs:∀r,AnOK (Is l r).2:=fun r=>by
  unfold Is;split
  ·exact zb2 _
  ·exact D9 _
 unfold doS;split
 ·split
  ·exact hm _
  ·split
   ·exact hm _
   ·split
    ·exact hm _
    ·split
     ·split
      ·exact hs _
      ·exact D9 _
     ·split
      ·split
       ·exact hs _
       ·exact D9 _
      ·split
       ·unfold advS
        split
        ·split
         ·have:=Ut l.2.2.2.1
          have hb:=h.blen;exact ⟨by simp only []; omega,(Us h.bea).1.1⟩
         ·exact D9 _
        ·exact zb2 _
       ·exact ask_an h o
 ·exact D9 _
def Cu:Led→List OpT→Led×List An
 | l,[]=>(l,[])
 | l,o::r=>((Cu (doS l o).1 r).1,(doS l o).2::(Cu (doS l o).1 r).2)
theorem Jr:∀(r:List OpT) (l:Led),(Cu l r).2.length=r.length
 | [],l=>rfl
 | o::r,l=>by simp only [Cu,List.length_cons,Jr r]
theorem Tv:∀(a b:List OpT) (l:Led),Cu l (a++b)=((Cu (Cu l a).1 b).1,(Cu l a).2++(Cu (Cu l a).1 b).2)
 | [],b,l=>rfl
 | o::a,b,l=>by simp only [List.cons_append,Cu,Tv a b]
theorem Rg:∀(r:List OpT) {l:Led} {n:Nat},LOK c n l→n+r.length≤100→(∀o∈r,OpOK o)→LOK c (n+r.length) (Cu l r).1
 | [],l,n,h,_,_=>h
 | o::r,l,n,h,hn,ho=>by
  have:=Rg r (do_ok h (by simp at hn; omega) (ho o (by simp))) (by simp at hn; omega) (fun x hx=>ho x (by simp [hx]));simp only [Cu,List.length_cons]
  rwa [show n+(r.length+1)=n+1+r.length by omega]
theorem zfx:∀(r:List OpT) {l:Led} {n:Nat},LOK c n l→n+r.length≤100→(∀o∈r,OpOK o)→∀a∈(Cu l r).2,AnOK a
 | [],l,n,h,_,_,a,ha=>by cases ha
 | o::r,l,n,h,hn,ho,a,ha=>by
  simp only [Cu] at ha;rcases List.mem_cons.1 ha with e | ha
  ·rw [e]; exact do_an h (by simp at hn; omega) o
  ·exact zfx r (do_ok h (by simp at hn; omega) (ho o (by simp))) (by simp at hn; omega) (fun x hx=>ho x (by simp [hx])) a ha
theorem getD_op {ops:List OpT} {i:Nat} (hi:i<ops.length):ops.getD i zO=ops[i]:=by simp [hi]
theorem zvm (R:Type) {ops:List OpT} (ho:∀o∈ops,OpOK o) (x5:Led) (k0:Led→Led→List An→Option R):∀(m i:Nat) {n:Nat} (l:Led) (acc:List An),LOK c n l→n+(ops.length - i)≤100→acc.length+(ops.length - i)≤1000→i≤ops.length→ops.length≤1000→ops.length - i<m→
  Zh m R ops (ops.length:Int) (i:Int) l x5 acc k0=k0 (Cu l (ops.drop i)).1 x5 (acc++(Cu l (ops.drop i)).2)
 | 0,i,n,l,acc,_,_,_,_,_,h=>by omega
 | m+1,i,n,l,acc,h,hn,ha,h1,hL,h2=>by
  simp only [Zh,zza]
  by_cases hi:i<ops.length
  ·have hoi:=ho _ (List.getElem_mem hi)
   have ih:=zvm R ho x5 k0 m (i+1) (n:=n+1) (doS l ops[i]).1 (acc++[(doS l ops[i]).2]) (do_ok h (by omega) hoi) (by omega) (by simp; omega) (by omega) hL (by omega);have c1:decide (acc.length+[(doS l ops[i]).2].length≤1954687338268)=true:=by simp; omega
   rw [List.drop_eq_getElem_cons hi];simp only [C5 hi,Ay hi,Int.toNat_natCast,B0 hi hL,getD_op hi,F13_eq R h (show n≤100 by omega) hoi,c1];rw [ih];simp only [Cu,List.append_assoc,List.cons_append,List.nil_append]
  ·have:i=ops.length:=by omega
   subst this;simp only [Cl,List.drop_length,Cu,List.append_nil]
theorem zdb (R:Type) (h:LOK c n l) {ops:List OpT} (ho:∀o∈ops,OpOK o) (hn:n+ops.length≤100) (k:Led→List An→Option R):F17 R l ops k=k (Cu l ops).1 (Cu l ops).2:=by
 simp only [F17,p17];have:=zvm R ho zLed (fun x2 x3 x4=>k x2 x4) FUEL 0 l [] h (by omega) (by simp; omega) (by omega) (by omega) (by rw [Al]; omega);rw [List.drop_zero,List.nil_append] at this;exact this
theorem zc2 (R:Type) {a:List An} (h:∀x∈a,AnOK x) (hn:a.length≤1000) (k0:Bool→Option R) (k1:Option R):∀(m i:Nat),i≤a.length→a.length - i<m→Zg m R a a (i:Int) k0 k1=k1
 | 0,i,_,hh=>by omega
 | m+1,i,h1,h2=>by
  simp only [Zg,zy9]
  by_cases hi:i<a.length
  ·have ih:=zc2 R h hn k0 k1 m (i+1) (by omega) (by omega)
   have hg:a.getD i ((0:Int),(0:Int),([]:List Int),(List.replicate 32 (0:Int)),())=a[i]:=by simp [hi]
   simp only [C5 hi,Ay hi,Int.toNat_natCast,B0 hi hn,hg,zt1 R (h _ (List.getElem_mem hi)),Bool.not_true];exact ih
  ·have:i=a.length:=by omega
   subst this;simp only [Cl]
theorem zt0 (R:Type) {a:List An} (h:∀x∈a,AnOK x) (hn:a.length≤1000) (k:Bool→Option R):F18 R a a k=k true:=by
 simp only [F18,p18,bne_self_eq_false];exact zc2 R h hn (fun x=>k x) (k true) FUEL 0 (by omega) (by rw [Al]; omega)
end
end Go.PG
set_option maxRecDepth 100000
namespace Go.PG
abbrev lvC:Cfg:=((2:Int),(1:Int),(1:Int),(64:Int),(1:Int),())
abbrev lvZ:List Int:=List.replicate 32 (0:Int)
abbrev lvD:List Int:=Wk lvZ 0 bV
abbrev lo1:OpT:=((1:Int),(0:Int),(5:Int),bV,(0:Int),())
abbrev lo2:OpT:=((4:Int),(0:Int),(0:Int),SHA bV,(0:Int),())
abbrev lo3:OpT:=((5:Int),(0:Int),(0:Int),bV,(0:Int),())
abbrev lo4:OpT:=((7:Int),(0:Int),(0:Int),lvZ,(0:Int),())
abbrev lo5:OpT:=((6:Int),(0:Int),(0:Int),lvZ,(0:Int),())
abbrev lo8:OpT:=((7:Int),(0:Int),(0:Int),lvZ,(1:Int),())
abbrev lo9:OpT:=((10:Int),(0:Int),(0:Int),lvZ,(0:Int),())
abbrev loA:OpT:=((0:Int),(0:Int),(0:Int),lvZ,(99:Int),())
abbrev loB:OpT:=((7:Int),(0:Int),(0:Int),lvZ,(2:Int),())
abbrev lvO:List OpT:=[lo1,lo2,lo3,lo4,lo5,lo3,lo5,lo8,lo9,loA,loB]
abbrev lv0:Led:=newS lvC lvZ
abbrev lv1:Led:=(lvC,(0:Int),[(bV,(0:Int),(5:Int),())],((0:Int),lvZ,lvZ,[],()),[(-1:Int),(-1:Int)],[],())
abbrev lv2:Led:=(lvC,(0:Int),[(bV,(0:Int),(5:Int),())],((0:Int),lvZ,lvZ,[((0:Int),SHA bV,false,lvZ,())],()),[(-1:Int),(-1:Int)],[],())
abbrev lv3:Led:=(lvC,(1:Int),[(bV,(0:Int),(5:Int),())],((0:Int),lvZ,lvZ,[((0:Int),SHA bV,false,lvZ,())],()),[(-1:Int),(-1:Int)],[],())
abbrev lv4:Led:=(lvC,(1:Int),[(bV,(0:Int),(5:Int),())],((0:Int),lvZ,bV,[((0:Int),SHA bV,true,bV,())],()),[(-1:Int),(-1:Int)],[],())
abbrev lv5:Led:=(lvC,(0:Int),[(bV,(5:Int),(5:Int),())],((1:Int),lvD,lvZ,[],()),[(0:Int),(0:Int)],[],())
theorem lvs0:doS lv0 lo1=(lv1,okS 0):=by kernel_rfl
theorem lvs1:doS lv1 lo2=(lv2,okS 0):=by kernel_rfl
theorem lvs2:doS lv2 lo3=(lv2,badS 7):=by kernel_rfl
theorem lvs3:doS lv2 lo4=(lv2,badS 10):=by kernel_rfl
theorem lvs4:doS lv2 lo5=(lv3,okS 1):=by kernel_rfl
theorem lvs5:doS lv3 lo3=(lv4,okS 0):=by kernel_rfl
theorem lvs6:doS lv4 lo5=(lv5,((0:Int),(0:Int),[],lvD,())):=by kernel_rfl
theorem lvs7:doS lv5 lo8=(lv5,((0:Int),(0:Int),[(0:Int)],lvZ,())):=by kernel_rfl
theorem lvs8:doS lv5 lo9=(lv5,okS 5):=by kernel_rfl
theorem lvs9:doS lv5 loA=(lv5,badS 2):=by kernel_rfl
theorem lvs10:doS lv5 loB=(lv5,badS 3):=by kernel_rfl
abbrev lvA:List An:=[okS 0,okS 0,badS 7,badS 10,okS 1,okS 0,((0:Int),(0:Int),[],lvD,()),((0:Int),(0:Int),[(0:Int)],lvZ,()),okS 5,badS 2,badS 3]
theorem lvP:Cu lv0 lvO=(lv5,lvA):=by
 simp only [Cu,lvs0,lvs1,lvs2,lvs3,lvs4,lvs5,lvs6,lvs7,lvs8,lvs9,lvs10]
theorem lvW:Wl lv5 zLed=false:=by kernel_rfl
theorem zuc:H32 lvD:=U6 _
theorem zub:∀o∈lvO,OpOK o:=by
 have a:∀{k n x:Int} {h:List Int},0≤k∧k≤100→0≤n∧n≤100→0≤x∧x≤100→H32 h→OpOK (k,(0:Int),x,h,n,()):=fun h1 h2 h3 h4=>⟨by unfold I64; simp only; omega,by unfold I64; simp only; omega,by unfold U64; simp only; omega,h4,by unfold I64; simp only; omega⟩
 intro o ho;have z:=A4;simp only [lvO,List.mem_cons,List.not_mem_nil,or_false] at ho;rcases ho with h | h | h | h | h | h | h | h | h | h | h<;>rw [h]
 ·exact a (by omega) (by omega) (by omega) zjf
 ·exact a (by omega) (by omega) (by omega) (U6 _)
 ·exact a (by omega) (by omega) (by omega) zjf
 ·exact a (by omega) (by omega) (by omega) z
 ·exact a (by omega) (by omega) (by omega) z
 ·exact a (by omega) (by omega) (by omega) zjf
 ·exact a (by omega) (by omega) (by omega) z
 ·exact a (by omega) (by omega) (by omega) z
 ·exact a (by omega) (by omega) (by omega) z
 ·exact a (by omega) (by omega) (by omega) z
 ·exact a (by omega) (by omega) (by omega) z
end Go.PG
namespace Go.PG
section
variable {c:Cfg} {n:Nat} {l:Led}
end
end Go.PG
set_option maxRecDepth 100000
namespace Go.PG
theorem G8_ok (R:Type) (l:Led) (v:List Int) (k0:Bool→Option R) (k1:List An→Led→List Int→Option R):
  Y4 FUEL R lvA [(0:Int),(0:Int),(7:Int),(10:Int),(0:Int),(0:Int),(0:Int),(0:Int),(0:Int),(2:Int),(3:Int)] 0 l v k0 k1=k1 lvA l v:=by
 obtain ⟨m,hm⟩:=Hs 12 (by omega);rw [hm]
 kernel_rfl
theorem F8_eq (R:Type) (k:Bool→Option R):F8 R k=k true:=by
 have hz:cfgS lvC=true:=by decide
 have hw:cfgS ((0:Int),(0:Int),(0:Int),(0:Int),(0:Int),())=false:=by decide
 have h0:LOK lvC 0 lv0:=zua hz A4;have h5:LOK lvC 11 (Cu lv0 lvO).1:=Rg lvO h0 (by decide) zub;rw [lvP] at h5;have hl:LW lv5:=h5.lw (by omega);have e1:F17 R lv0 lvO=fun k=>k lv5 lvA:=funext fun k=>by rw [zdb R h0 zub (by decide),lvP]
 have e2:F24 R lvZ 0 bV=fun k=>k lvD:=funext fun k=>F24_eq R A4 zjf (by omega) k
 have e3:F16 R lv5 lv5=fun k=>k true:=funext fun k=>by rw [zv9 R hl hl,P1]
 have e4:F16 R lv5 zLed=fun k=>k false:=funext fun k=>by rw [zv9 R hl zx2,lvW]
 have e5:F23 R bV=fun k=>k (SHA bV):=funext fun k=>F23_eq R zjf k
 have e6:F9 R lvC lvZ=fun k=>k lv0 0:=funext fun k=>by rw [F9_eq,if_pos hz]
 have e7:F9 R ((0:Int),(0:Int),(0:Int),(0:Int),(0:Int),()) lvZ=fun k=>k zLed 1:=funext fun k=>by rw [F9_eq,if_neg (by rw [hw]; decide)]
 have e8:F20 R [(0:Int)] [(0:Int)]=fun k=>k true:=funext fun k=>by rw [zc8 R _ _ (by decide)]; rfl
 have e9:Kd.eqv (.arr 32 (.int .u8)) lvD lvD=true:=(Bs zuc.1 zuc.1).trans (decide_eq_true rfl);unfold F8 p8;dsimp only;rw [e6,e7,e5];dsimp only;rw [e1];dsimp only;have:∀(k0:Bool→Option R) (k1:List An→Led→List Int→Option R),Y4 FUEL R lvA [(0:Int),(0:Int),(7:Int),(10:Int),(0:Int),(0:Int),(0:Int),(0:Int),(0:Int),(2:Int),(3:Int)] 0 lv5 bV k0 k1=k1 lvA lv5 bV:=G8_ok R lv5 bV;rw [show ((0:Int) !=0)=false from rfl,show ((1:Int) !=1)=false from rfl,show ((lvA.length:Int) !=(lvO.length:Int))=false from rfl];dsimp only;rw [this];dsimp only;rw [show bnd (4:Int) (lvA.length:Int)=true from rfl];dsimp only
 rw [show ((List.getD lvA 4 ((0:Int),(0:Int),([]:(List Int)),(List.replicate 32 (0:Int)),())).2.1==(1:Int))=true from rfl];dsimp only;rw [show bnd (6:Int) (lvA.length:Int)=true from rfl];dsimp only;rw [show (List.getD lvA 6 ((0:Int),(0:Int),([]:(List Int)),(List.replicate 32 (0:Int)),()))=((0:Int),(0:Int),[],lvD,()) from rfl];dsimp only;rw [show ((0:Int)==0)=true from rfl];dsimp only;rw [e2];dsimp only;rw [e9];dsimp only;rw [show bnd (7:Int) (lvA.length:Int)=true from rfl];dsimp only
 rw [show (List.getD lvA 7 ((0:Int),(0:Int),([]:(List Int)),(List.replicate 32 (0:Int)),())).2.2.1=[(0:Int)] from rfl,e8];dsimp only;rw [show bnd (8:Int) (lvA.length:Int)=true from rfl];dsimp only;rw [show ((List.getD lvA 8 ((0:Int),(0:Int),([]:(List Int)),(List.replicate 32 (0:Int)),())).2.1==(5:Int))=true from rfl];dsimp only;rw [show ((1:Int)==1)=true from rfl,show ((([]:List Int).length:Int)==0)=true from rfl];dsimp only;rw [e3];dsimp only;rw [e4];rfl
end Go.PG
namespace Go.PG
theorem fit_op {o:OpT} (h:Fit Kq13 o):OpOK o:=⟨fit_i h.1,fit_i h.2.1,(by have:=fit_u64 h.2.2.1; unfold U64; omega),fit_h32 h.2.2.2.1,fit_i h.2.2.2.2.1⟩
abbrev b1:List Int:=List.set (List.replicate 32 (0:Int)) 0 (1:Int)
theorem b1_ok:H32 b1:=⟨rfl,by unfold AllU8 U8; decide⟩
theorem F5_eq' (R:Type) {a:List Int} (ha:AllU8 a) {ops:List OpT} (ho:∀o∈ops,OpOK o) {cut:Int} (hc:0≤cut∧cut≤255) (k:Bool→Option R):F5 R a ops cut k=k true:=by
 simp only [F5,p5,F8_eq,Bool.not_true]
 by_cases hL:(ops.length:Int)>50
 ·simp only [decide_eq_true hL]
 ·simp only [decide_eq_false hL,F12_eq R ha,F9_eq,(zcl a).1,if_true]
  have h0:=zua (zcl a).1 b1_ok;generalize newS (Ys a) b1=l at h0;have w1:IntKind.i64.wrap cut=cut:=wrap_i64 (by omega) (by omega);have w2:IntKind.i64.wrap ((ops.length:Int)+1)=(ops.length:Int)+1:=wrap_i64 (by omega) (by omega);have z1:(!((ops.length:Int)+1==0))=true:=by rw [Bx (by omega)]; rfl
  have m0:Int.tmod cut ((ops.length:Int)+1)=cut % ((ops.length:Int)+1):=Int.tmod_eq_emod_of_nonneg hc.1;have m1:=Int.emod_nonneg cut (show ((ops.length:Int)+1)≠0 by omega);have m2:=Int.emod_lt_of_pos cut (show 0<((ops.length:Int)+1) by omega);simp only [w1,w2,z1,m0];generalize cut % ((ops.length:Int)+1)=y at m1 m2;obtain ⟨j,rfl⟩:∃j:Nat,y=j:=⟨y.toNat,by omega⟩
  have hj:j≤ops.length:=by omega
  have c1:decide ((0:Int)≤0∧(0:Int)≤(j:Int)∧(j:Int)≤(j:Int)∧(j:Int)≤(ops.length:Int))=true:=by simp; omega
  have c2:decide ((0:Int)≤(j:Int)∧(j:Int)≤(ops.length:Int)∧(ops.length:Int)≤(ops.length:Int)∧(ops.length:Int)≤(ops.length:Int))=true:=by simp; omega
  have t1:List.take (Int.toNat ((j:Int) - 0)) (List.drop 0 ops)=ops.take j:=by rw [Int.sub_zero,Int.toNat_natCast,List.drop_zero]
  have t2:List.take (Int.toNat ((ops.length:Int) - (j:Int))) (List.drop (Int.toNat (j:Int)) ops)=ops.drop j:=by
   rw [Int.toNat_natCast,List.take_of_length_le (by rw [List.length_drop]; omega)]
  rw [zdb R h0 ho (by omega)];simp only [c1,c2,t1,t2];have ho1:∀o∈ops.take j,OpOK o:=fun o hh=>ho o (List.mem_of_mem_take hh)
  have ho2:∀o∈ops.drop j,OpOK o:=fun o hh=>ho o (List.mem_of_mem_drop hh)
  have l1:(ops.take j).length=j:=by rw [List.length_take]; omega
  have l2:(ops.drop j).length=ops.length - j:=List.length_drop;have h1:=Rg (ops.take j) h0 (by omega) ho1;have hP:=Tv (ops.take j) (ops.drop j) l;rw [List.take_append_drop] at hP;rw [zdb R h0 ho1 (by omega)]
  skip
  rw [zdb R h1 ho2 (by omega)]
  skip
  have hx:=(Rg ops h0 (by omega) ho).lw (by omega);have hA:=zfx ops h0 (by omega) ho;have g1:(Cu l ops).2.length=ops.length:=Jr _ _;rw [hP] at hx hA g1;rw [hP];dsimp only at hx hA g1 ⊢;rw [F11_eq R hx hx,P1];have a1:(Cu l (ops.take j)).2.length=j:=by rw [Jr,l1]
  have a2:(Cu (Cu l (ops.take j)).1 (ops.drop j)).2.length=ops.length - j:=by rw [Jr,l2]
  generalize (Cu l (ops.take j)).2=p at*;generalize (Cu (Cu l (ops.take j)).1 (ops.drop j)).2=q at*;have c3:decide (List.length ([]:List An)+p.length≤1954687338268)=true:=by simp; omega
  have c4:decide (p.length+q.length≤1954687338268)=true:=by simp; omega
  simp only [c3,List.nil_append,c4];rw [zt0 R hA (by omega),g1];simp only [beq_self_eq_true]
end Go.PG
end
