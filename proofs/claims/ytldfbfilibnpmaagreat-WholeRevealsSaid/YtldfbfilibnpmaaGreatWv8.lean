/- A part of the proof over this seat (own work; the framework that reads a Go function as a pure one, or a use of it). No condition of its own. -/
import Derived.Test.YtldfbfilibnpmaaGreatWv7
import Derived.KernelRfl
set_option linter.unusedVariables false
set_option linter.unusedSimpArgs false
set_option linter.unusedSectionVars false
noncomputable section
namespace Go.PG
theorem zc7:∀(l:List Int) (i:Nat) (x:Int),i<l.length→(l.set i x).sum=l.sum - l.getD i 0+x
 | [],i,_,h=>by simp at h
 | y::l,0,x,_=>by simp; omega
 | y::l,i+1,x,h=>by
  have:=zc7 l i x (by simpa using h);simp only [List.set_cons_succ,List.sum_cons,List.getD_cons_succ];omega
theorem zc1 (l:List Int):totS l=l.sum:=by unfold totS sumS; rw [List.take_length]
theorem Jp {l:List Va} {i:Nat} (hi:i<l.length) (x:Int):Ao (Kj l i x)=Ao l:=by
 unfold Ao Kj;rw [List.map_set];apply List.ext_getElem
 ·simp
 ·intro j h1 h2
  rw [List.getElem_set];split
  ·rename_i e; subst e; rw [E5 hi]; simp
  ·rfl
theorem Gn {l:List Va} {i:Nat} (hi:i<l.length) (x:Int):totS (A3 (Kj l i x))=totS (A3 l) - (l.getD i zV).2.2.1+x:=by
 have e:A3 (Kj l i x)=(A3 l).set i x:=by unfold A3 Kj; rw [List.map_set]
 rw [e,zc1,zc1,zc7 _ _ _ (by rw [Fg]; exact hi)];have:(A3 l).getD i 0=(l.getD i zV).2.2.1:=by rw [E5 hi]; simp [A3,hi]
 rw [this]
theorem Yg {l:List Va} (h:VsOK l) (i:Nat) {x:Int} (hx:U64 x):VsOK (Kj l i x):=fun v hv=>by
 rcases List.mem_or_eq_of_mem_set hv with h1 | h1
 ·exact h v h1
 ·rw [h1]; exact ⟨(h.get i).key,(h.get i).stake,hx⟩
theorem Ir (l:List Va) (i:Nat) (x:Int):(Kj l i x).length=l.length:=by simp [Kj]
section
variable {c:Cfg} {n:Nat} {l:Led}
theorem LOK.mono (h:LOK c n l):LOK c (n+1) l:=⟨h.cfg,h.right,h.slot,h.vals,by have:=h.vlen; omega,h.next,h.stake,h.bea,by have:=h.blen; omega,h.llen,h.lead,h.miss⟩
structure MOK (l:Led) (n:Nat) (v:List Va):Prop where
 vals:VsOK v
 vlen:v.length≤n+1
 next:totS (A3 v)<9223372036854775808
 stake:Ao v=Ao l.2.2.1∨Ao v=Ao l.2.2.1++[0]
theorem Tc (h:LOK c n l) (hn:n≤100) {r:List Va×Int×Int} (hr:r.2.2=0→MOK l n r.1):LOK c (n+1) (Cb l r).1:=by
 unfold Cb;split
 ·rename_i h0
  have hm:=hr h0;have hA:=Dz h.vals;have hv:=h.vlen;refine ⟨h.cfg,h.right,h.slot,hm.vals,hm.vlen,hm.next,?_,h.bea,by have:=h.blen; exact Nat.le_succ_of_le this,h.llen,fun i hi hp=>?_,h.miss⟩
  ·rcases hm.stake with e | e
   ·simp only [e]; exact h.stake
   ·simp only [e,H3,Int.add_zero]; exact h.stake
  ·rcases hm.stake with e | e
   ·simp only [e] at hp ⊢; exact h.lead i hi hp
   ·simp only [e] at hp ⊢
    have hp':posS (Ao l.2.2.1)≠0:=by
     rw [S5 hA];have hA2:AllU64 (Ao l.2.2.1++[0]):=by rw [←e]; exact Dz hm.vals
     have:=(S5 hA2).1 hp
     rwa [H3,Int.add_zero] at this
    rw [h.lead i hi hp'];unfold schV;rw [zs1 hA (by rw [Dc]; omega)]
 ·exact h.mono
theorem dep_ok (h:LOK c n l) (hn:n≤100) {o:OpT} (ho:OpOK o) (most:Int) (h0:(depS l.2.2.1 o.2.2.2.1 o.2.2.1 most).2.2=0):MOK l n (depS l.2.2.1 o.2.2.2.1 o.2.2.1 most).1:=by
 have hv:=h.vlen;have ha:=ho.amount;unfold U64 at ha;unfold depS at h0 ⊢;split
 ·rename_i hc
  rw [if_pos hc] at h0;cases hq:fstK l.2.2.1 o.2.2.2.1 with
  | none=>
   rw [hq] at h0;simp only [] at h0 ⊢;split
   ·rename_i h1; rw [if_pos h1] at h0; cases h0
   ·rename_i h1
    rw [if_neg h1] at h0;split
    ·rename_i h2
     refine ⟨fun v hvm=>?_,by simp; omega,?_,.inr ?_⟩
     ·rcases List.mem_append.1 hvm with h3 | h3
      ·exact h.vals v h3
      ·rw [List.mem_singleton.1 h3]; exact ⟨ho.hash,Jd,ho.amount⟩
     ·have:A3 (l.2.2.1++[(o.2.2.2.1,0,o.2.2.1,())])=A3 l.2.2.1++[o.2.2.1]:=by simp [A3]
      simp only [this,H3];exact h2
     ·simp [Ao]
    ·rename_i h2; rw [if_neg h2] at h0; cases h0
  | some i=>
   rw [hq] at h0;obtain ⟨hi,_⟩:=zal hq;have hx:=(h.vals.get i).next;have hnx:=zi6 h.vals hi;unfold U64 at hx;simp only [] at h0 ⊢;split
   ·rename_i h2
    refine ⟨Yg h.vals i (by unfold U64; omega),by rw [Ir]; omega,?_,.inl (Jp hi _)⟩;rw [Gn hi];omega
   ·rename_i h2; rw [if_neg h2] at h0; cases h0
 ·rename_i hc; rw [if_neg hc] at h0; cases h0
theorem wd_ok (h:LOK c n l) (w a:Int) (ha:U64 a) (h0:(wdS l.2.2.1 w a).2.2=0):MOK l n (wdS l.2.2.1 w a).1:=by
 have hv:=h.vlen;have ht:=h.next;unfold U64 at ha;unfold wdS at h0 ⊢;split
 ·rename_i hc
  rw [if_pos hc] at h0;split
  ·rename_i h1
   rw [if_pos h1] at h0;have hi:w.toNat<l.2.2.1.length:=by omega
   have hx:=(h.vals.get w.toNat).next;unfold U64 at hx;split
   ·rename_i h2
    refine ⟨Yg h.vals _ (by unfold U64; omega),by rw [Ir]; omega,?_,.inl (Jp hi _)⟩;rw [Gn hi];omega
   ·rename_i h2; rw [if_neg h2] at h0; cases h0
  ·rename_i h1; rw [if_neg h1] at h0; cases h0
 ·rename_i hc; rw [if_neg hc] at h0; cases h0
theorem sl_ok (h:LOK c n l) (w a:Int) (ha:U64 a) (h0:(slS l.2.2.1 w a).2.2=0):MOK l n (slS l.2.2.1 w a).1:=by
 have hv:=h.vlen;have ht:=h.next;unfold U64 at ha;unfold slS at h0 ⊢;split
 ·rename_i hc
  rw [if_pos hc] at h0;split
  ·rename_i h1
   rw [if_pos h1] at h0;have hi:w.toNat<l.2.2.1.length:=by omega
   have hx:=(h.vals.get w.toNat).next;unfold U64 at hx;refine ⟨Yg h.vals _ (by unfold U64; omega),by rw [Ir]; omega,?_,.inl (Jp hi _)⟩;rw [Gn hi];omega
  ·rename_i h1; rw [if_neg h1] at h0; cases h0
 ·rename_i hc; rw [if_neg hc] at h0; cases h0
theorem Wv {b:Bea} {ph w:Int} {x:List Int} (h0:(Cj b ph w x).2=0):(Cj b ph w x).1.1=b.1∧(Cj b ph w x).1.2.1=b.2.1:=by
 unfold Cj at h0 ⊢;split
 ·rename_i h1; rw [if_pos h1] at h0; cases h0
 ·rename_i h1
  rw [if_neg h1] at h0;split
  ·rename_i h2
   rw [if_pos h2] at h0;unfold Kk at h0 ⊢;split
   ·exact ⟨rfl,rfl⟩
   ·rename_i h3; rw [if_neg h3] at h0; exact absurd h0 h3
  ·rename_i h2; rw [if_neg h2] at h0; cases h0
theorem Wu {b:Bea} {ph w:Int} {x:List Int} (h0:(Ch b ph w x).2=0):(Ch b ph w x).1.1=b.1∧(Ch b ph w x).1.2.1=b.2.1:=by
 unfold Ch at h0 ⊢;split
 ·rename_i h1; rw [if_pos h1] at h0; cases h0
 ·rename_i h1
  rw [if_neg h1] at h0;split
  ·rename_i h2
   rw [if_pos h2] at h0;unfold Kk at h0 ⊢;split
   ·exact ⟨rfl,rfl⟩
   ·rename_i h3; rw [if_neg h3] at h0; exact absurd h0 h3
  ·rename_i h2; rw [if_neg h2] at h0; cases h0
theorem zhc (h:LOK c n l) {r:Bea×Int} (hr:Hr r.1∧r.1.2.2.2.1.length≤l.2.2.2.1.2.2.2.1.length+1) (hs:r.2=0→r.1.1=l.2.2.2.1.1∧r.1.2.1=l.2.2.2.1.2.1):LOK c (n+1) (Eu l r).1:=by
 have hb:=h.blen;have hv:=h.vlen;unfold Eu;split
 ·rename_i h0
  have:=(hs h0).2;exact ⟨h.cfg,h.right,h.slot,h.vals,by simp only []; omega,h.next,h.stake,hr.1,by have:=hr.2; simp only []; omega,h.llen,fun i hi hp=>by simp only [this]; exact h.lead i hi hp,h.miss⟩
 ·exact h.mono
theorem zqz (a:List Int) (m:Int) (l:List Int) {n i:Nat} (h:i<n):(schP a m l n).getD i 0=schV a m l i:=by
 unfold schP;simp [h]
theorem adv_ok (h:LOK c n l) (hn:n≤100):LOK c (n+1) (advS l).1:=by
 have hb:=h.blen;have hv:=h.vlen;have hx:=Pc h;have hc:=C6 h.right;unfold advS;split
 ·split
  ·obtain ⟨b1,b2⟩:=bEnd_ok h.bea
   have hm:=zlx l.2.2.2.1;rw [(zva h _).2];refine ⟨h.cfg,h.right,⟨hx.1,hx.2.1⟩,zl3 h.vals,by simp only [Jb]; omega,by simp only [zgm]; exact h.next,by simp only [Px]; exact h.next,b1,by simp only [b2]; omega,?_,fun i hi _=>?_,by simp only []; omega⟩
   ·simp only [Iv,h.cfg]; omega
   ·simp only [h.cfg]
    exact zqz _ _ _ (by omega)
  ·exact h.mono
 ·exact ⟨h.cfg,h.right,⟨hx.1,hx.2.1⟩,h.vals,by simp only []; omega,h.next,h.stake,h.bea,by simp only []; omega,h.llen,h.lead,h.miss⟩
theorem do_ok (h:LOK c n l) (hn:n≤100) {o:OpT} (ho:OpOK o):LOK c (n+1) (doS l o).1:=by
 unfold doS;split
 ·split
  ·exact Tc h hn (dep_ok h hn ho _)
  ·split
   ·exact Tc h hn (wd_ok h _ _ ho.amount)
   ·split
    ·exact Tc h hn (sl_ok h _ _ ho.amount)
    ·split
     ·split
      ·exact zhc h (zgi h.bea _ ho.who ho.hash) Wv
      ·exact h.mono
     ·split
      ·split
       ·have:=zgf h.bea (phS l.1 l.2.1) o.2.1 ho.hash
        exact zhc h ⟨this.1,by omega⟩ Wu
       ·exact h.mono
      ·split
       ·exact adv_ok h hn
       ·exact h.mono
 ·exact h.mono
end
end Go.PG
namespace Go.PG
theorem zvh {l:List Int} {o:Nat} {d:List Int} (h:o+d.length≤l.length):lay l o d=l.take o++d++l.drop (o+d.length):=by
 simp [lay]
def repS (j n:Nat):List Int:=List.replicate j (-1)++List.replicate (n - j) 0
theorem zq4 {j n:Nat} (h:j≤n):(repS j n).length=n:=by simp [repS]; omega
theorem Vk {j n i:Nat} (h:i≤j):(repS j n).take i=List.replicate i (-1):=by
 unfold repS;rw [List.take_append_of_le_length (by simpa using h),List.take_replicate,Nat.min_eq_left h]
theorem zhp {j n d:Nat} (h:j+d≤n):(repS j n).take j++List.replicate d (-1)++(repS j n).drop (j+d)=repS (j+d) n:=by
 rw [Vk (Nat.le_refl j)];unfold repS;rw [List.drop_append,List.drop_eq_nil_of_le (by simp),List.nil_append,List.length_replicate,List.drop_replicate,List.replicate_append_replicate,show n - j - (j+d - j)=n - (j+d) by omega]
theorem zwf (R:Type) {n:Nat} (hn:n≤1024) (k0:List Int→Option R):∀(m j:Nat),1≤j→j≤n→n - j<m→zba m R (j:Int) (repS j n) k0=k0 (List.replicate n (-1))
 | 0,j,_,_,h=>by omega
 | m+1,j,h0,h1,h2=>by
  simp only [zba,zy7];have hl:=zq4 h1
  by_cases hj:j<n
  ·have hd:min j (n - j)≤n - j:=Nat.min_le_right _ _
   have hd1:1≤min j (n - j):=by omega
   have ih:=zwf R hn k0 m (j+min j (n - j)) (by omega) (by omega) (by omega);have c1:decide ((j:Int)<((repS j n).length:Int))=true:=by rw [hl]; exact C4 hj
   have c2:decide ((0:Int)≤(j:Int)∧(j:Int)≤((repS j n).length:Int)∧((repS j n).length:Int)≤((repS j n).length:Int)∧((repS j n).length:Int)≤((repS j n).length:Int))=true:=by rw [hl]; simp; omega
   have c3:decide ((0:Int)≤0∧(0:Int)≤(j:Int)∧(j:Int)≤(j:Int)∧(j:Int)≤((repS j n).length:Int))=true:=by rw [hl]; simp; omega
   simp only [c1,c2,c3];have t1:List.take (Int.toNat ((j:Int) - 0)) (List.drop 0 (repS j n))=List.replicate j (-1):=by
    rw [Int.sub_zero,Int.toNat_natCast,List.drop_zero,Vk (Nat.le_refl j)]
   have t2:Int.toNat (((repS j n).length:Int) - (j:Int))=n - j:=by rw [hl]; omega
   rw [t1,t2,List.take_replicate,List.length_replicate];have t3:lay (repS j n) (Int.toNat (j:Int)) (List.replicate (min (n - j) j) (-1))=repS (j+min j (n - j)) n:=by
    rw [Int.toNat_natCast,zvh (by rw [List.length_replicate,hl]; omega),List.length_replicate,Nat.min_comm (n - j) j,zhp (by omega)]
   rw [t3,show IntKind.i64.wrap ((j:Int)+((min j (n - j):Nat):Int))=((j+min j (n - j):Nat):Int) by rw [wrap_i64 (by omega) (by omega)]; omega];exact ih
  ·have:j=n:=by omega
   subst this;have c1:decide ((j:Int)<((repS j j).length:Int))=false:=by rw [hl]; simp
   simp only [c1];unfold repS;rw [Nat.sub_self,List.replicate_zero,List.append_nil]
theorem F36_eq (R:Type) {n:Int} (h0:1≤n) (hn:n≤1024) (k:List Int→Option R):F36 R [-1] n k=k (List.replicate n.toNat (-1)):=by
 obtain ⟨j,rfl⟩:∃j:Nat,n=j:=⟨n.toNat,by omega⟩
 simp only [F36,p36,F66,p66];have e1:decide ((j:Int)<0)=false:=by simp
 have w1:IntKind.u64.wrap ((([-1]:List Int).length:Nat):Int)=1:=by decide
 have w2:IntKind.u64.wrap (j:Int)=(j:Int):=Aj (by omega) (by omega);simp only [e1,w1,w2];rw [zpa R (a:=1) (b:=(j:Int)) (by unfold U64; omega) (by unfold U64; omega)];rw [Int.one_mul,w2,show (j:Int)/18446744073709551616=0 by omega,wrap_i64 (n:=(j:Int)) (by omega) (by omega)];have e2:decide ((0:Int)>0)=false:=rfl;have e3:decide ((j:Int)>9223372036854775807)=false:=by simp; omega
 have e4:decide ((0:Int)≤(j:Int)∧(j:Int)≤(j:Int)∧(j:Int)≤17592186044416)=true:=by simp; omega
 simp only [e2,e3,e4,Int.toNat_natCast,List.length_replicate];have t1:lay (List.replicate j (0:Int)) 0 (List.take j [-1])=repS 1 j:=by
  rw [List.take_of_length_le (by simp; omega),zvh (by simp; omega)];simp [repS,List.replicate_succ']
 have t2:((min ([-1]:List Int).length j:Nat):Int)=((1:Nat):Int):=by
  rw [show min ([-1]:List Int).length j=1 by simp; omega]
 rw [t1,t2];exact zwf R (by omega) (fun x=>k x) FUEL 1 (by omega) (by omega) (by rw [Al]; omega)
abbrev zLed:Led:=(((0:Int),(0:Int),(0:Int),(0:Int),(0:Int),()),(0:Int),([]:List Va),((0:Int),(List.replicate 32 (0:Int)),(List.replicate 32 (0:Int)),([]:List Cm),()),([]:List Int),([]:List Int),())
def newS (c:Cfg) (a:List Int):Led:=(c,(0:Int),[],((0:Int),a,(List.replicate 32 (0:Int)),[],()),List.replicate c.1.toNat (-1),[],())
theorem zwu (R:Type) (c:Cfg) (a:List Int) (k:Led→Int→Option R):F11 R c a k=if cfgS c=true then k (newS c a) 0 else k zLed 1:=by
 simp only [F11,p11,zoi,F35,p35];cases hc:cfgS c with
 | false=>rfl
 | true=>
  have hr:=C6 hc;simp only [Bool.not_true,if_true];rw [F36_eq R hr.1 hr.2.1];rfl
def zas (a:List Int):Cfg:=(1+a.getD 0 0 % 6,a.getD 1 0 % (1+a.getD 0 0 % 6+1),a.getD 2 0 % (1+a.getD 0 0 % 6 - a.getD 1 0 % (1+a.getD 0 0 % 6+1)+1),1+a.getD 3 0 % 64,1+a.getD 4 0 % 6,())
theorem conf_ok {x y z u v:Int} (h1:1≤x∧x≤6) (h2:0≤y∧y≤x) (h3:0≤z∧z≤x - y) (h4:1≤u∧u≤64) (h5:1≤v∧v≤6):cfgS (x,y,z,u,v,())=true:=by
 unfold cfgS;simp only [decide_eq_true_eq];omega
theorem zun (a:List Int):cfgS (zas a)=true∧(zas a).1≤6∧(zas a).2.2.2.2.1≤6:=by
 unfold zas;generalize a.getD 0 0=a0;generalize a.getD 1 0=a1;generalize a.getD 2 0=a2;generalize a.getD 3 0=a3;generalize a.getD 4 0=a4;have h0:0≤a0 % 6∧a0 % 6<6:=by omega
 generalize a0 % 6=x at h0;have m1:=Int.emod_nonneg a1 (show (1+x+1)≠0 by omega);have m2:=Int.emod_lt_of_pos a1 (show 0<(1+x+1) by omega);generalize a1 % (1+x+1)=y at m1 m2;have m3:=Int.emod_nonneg a2 (show (1+x - y+1)≠0 by omega);have m4:=Int.emod_lt_of_pos a2 (show 0<(1+x - y+1) by omega);generalize a2 % (1+x - y+1)=z at m3 m4;have h3:0≤a3 % 64∧a3 % 64<64:=by omega
 generalize a3 % 64=u at h3;have h4:0≤a4 % 6∧a4 % 6<6:=by omega
 generalize a4 % 6=v at h4;exact ⟨conf_ok (by omega) (by omega) (by omega) (by omega) (by omega),(show 1+x≤6 by omega),(show 1+v≤6 by omega)⟩
theorem w64 {x:Int} (h0:0≤x) (h1:x≤100000):IntKind.i64.wrap x=x:=wrap_i64 (by omega) (by omega)
theorem F12_eq (R:Type) {a:List Int} (h:AllU8 a) (k:Cfg→Option R):F12 R a k=k (zas a):=by
 have u:∀i,0≤a.getD i 0∧a.getD i 0<256:=fun i=>Av (p:=U8) h (by unfold U8; omega) i
 have u0:=u 0; have u1:=u 1; have u2:=u 2; have u3:=u 3; have u4:=u 4;unfold F12 p12;dsimp only;unfold zas;generalize a.getD 0 0=a0 at u0;generalize a.getD 1 0=a1 at u1;generalize a.getD 2 0=a2 at u2;generalize a.getD 3 0=a3 at u3;generalize a.getD 4 0=a4 at u4;rw [Int.tmod_eq_emod_of_nonneg u0.1,Int.tmod_eq_emod_of_nonneg u3.1,Int.tmod_eq_emod_of_nonneg u4.1];have h0:0≤a0 % 6∧a0 % 6<6:=by omega
 generalize a0 % 6=x at h0;have h3:0≤a3 % 64∧a3 % 64<64:=by omega
 generalize a3 % 64=v at h3;have h4:0≤a4 % 6∧a4 % 6<6:=by omega
 generalize a4 % 6=w at h4;rw [w64 (x:=x) (by omega) (by omega),w64 (x:=1+x) (by omega) (by omega),w64 (x:=v) (by omega) (by omega),w64 (x:=1+v) (by omega) (by omega),w64 (x:=w) (by omega) (by omega),w64 (x:=1+w) (by omega) (by omega),w64 (x:=a1) (by omega) (by omega),w64 (x:=1+x+1) (by omega) (by omega)];have z1:(!(1+x+1==0))=true:=by rw [Ar (by omega)]; rfl
 simp only [z1];have m0:Int.tmod a1 (1+x+1)=a1 % (1+x+1):=Int.tmod_eq_emod_of_nonneg u1.1;have m1:=Int.emod_nonneg a1 (show (1+x+1)≠0 by omega);have m2:=Int.emod_lt_of_pos a1 (show 0<(1+x+1) by omega);rw [m0];generalize a1 % (1+x+1)=y at m1 m2;rw [w64 (x:=a2) (by omega) (by omega),w64 (x:=1+x - y) (by omega) (by omega),w64 (x:=1+x - y+1) (by omega) (by omega)];have z2:(!(1+x - y+1==0))=true:=by rw [Ar (by omega)]; rfl
 simp only [z2];have m3:Int.tmod a2 (1+x - y+1)=a2 % (1+x - y+1):=Int.tmod_eq_emod_of_nonneg u2.1;rw [m3]
theorem zvf {c:Cfg} (hc:cfgS c=true) {a:List Int} (ha:H32 a):LOK c 0 (newS c a):=by
 have hr:=C6 hc;refine ⟨rfl,hc,⟨by simp [newS],by simp only [newS]; omega⟩,fun v hv=>(by cases hv),by simp [newS],by simp [newS,A3,totS,sumS],by simp [newS,Ao,totS,sumS],⟨by simp [newS],ha,A1,zzx⟩,by simp [newS],by simp [newS]; omega,fun i _ hp=>?_,by simp [newS]⟩;exact absurd rfl hp
end Go.PG
namespace Go.PG
section
variable {c:Cfg} {n:Nat} {l:Led}
def Lu:Led→List OpT→Led×List An
 | l,[]=>(l,[])
 | l,o::r=>((Lu (doS l o).1 r).1,(doS l o).2::(Lu (doS l o).1 r).2)
theorem zak {ops:List OpT} {i:Nat} (hi:i<ops.length):ops.getD i zO=ops[i]:=by simp [hi]
theorem zwd (R:Type) {ops:List OpT} (ho:∀o∈ops,OpOK o) (x5:Led) (k0:Led→Led→List An→Option R):∀(m i:Nat) {n:Nat} (l:Led) (acc:List An),LOK c n l→n+(ops.length - i)≤100→acc.length+(ops.length - i)≤1000→i≤ops.length→ops.length≤1000→ops.length - i<m→
  za9 m R ops (ops.length:Int) (i:Int) l x5 acc k0=k0 (Lu l (ops.drop i)).1 x5 (acc++(Lu l (ops.drop i)).2)
 | 0,i,n,l,acc,_,_,_,_,_,h=>by omega
 | m+1,i,n,l,acc,h,hn,ha,h1,hL,h2=>by
  simp only [za9,zy6]
  by_cases hi:i<ops.length
  ·have hoi:=ho _ (List.getElem_mem hi)
   have ih:=zwd R ho x5 k0 m (i+1) (n:=n+1) (doS l ops[i]).1 (acc++[(doS l ops[i]).2]) (do_ok h (by omega) hoi) (by omega) (by simp; omega) (by omega) hL (by omega);have c1:decide (acc.length+[(doS l ops[i]).2].length≤1954687338268)=true:=by simp; omega
   rw [List.drop_eq_getElem_cons hi];simp only [C4 hi,A5 hi,Int.toNat_natCast,Bv hi hL,zak hi,zwt R h (show n≤100 by omega) hoi,c1];rw [ih];simp only [Lu,List.append_assoc,List.cons_append,List.nil_append]
  ·have:i=ops.length:=by omega
   subst this;simp only [Co,List.drop_length,Lu,List.append_nil]
theorem F42_eq (R:Type) (h:LOK c n l) {ops:List OpT} (ho:∀o∈ops,OpOK o) (hn:n+ops.length≤100) (k:Led→List An→Option R):F42 R l ops k=k (Lu l ops).1 (Lu l ops).2:=by
 simp only [F42,p42];have:=zwd R ho zLed (fun x2 x3 x4=>k x2 x4) FUEL 0 l [] h (by omega) (by simp; omega) (by omega) (by omega) (by rw [Al]; omega);rw [List.drop_zero,List.nil_append] at this;exact this
end
end Go.PG
namespace Go.PG
def beN (l:List Int):Int:=l.foldl (fun a x=>a*256+x) 0
theorem be4 {l:List Int} (hl:l.length=4) (h:AllU8 l):U32 (beN l)∧Bu (beN l)=l:=by
 match l,hl with
 | [a,b,c,d],_=>
  have ha:=h a (by simp); have hb:=h b (by simp); have hc:=h c (by simp); have hd:=h d (by simp);unfold U8 at ha hb hc hd;have e:beN [a,b,c,d]=((a*256+b)*256+c)*256+d:=by simp [beN]
  rw [e];unfold U32 Bu;refine ⟨by omega,?_⟩;simp only [List.cons.injEq,and_true];omega
theorem be8 {l:List Int} (hl:l.length=8) (h:AllU8 l):U64 (beN l)∧putS (beN l)=l:=by
 match l,hl with
 | [a,b,c,d,e,f,g,i],_=>
  have ha:=h a (by simp); have hb:=h b (by simp); have hc:=h c (by simp); have hd:=h d (by simp);have he:=h e (by simp); have hf:=h f (by simp); have hg:=h g (by simp); have hi:=h i (by simp);unfold U8 at ha hb hc hd he hf hg hi;have q:beN [a,b,c,d,e,f,g,i]=((((((a*256+b)*256+c)*256+d)*256+e)*256+f)*256+g)*256+i:=by simp [beN]
  rw [q];unfold U64 putS;refine ⟨by omega,?_⟩;simp only [List.cons.injEq,and_true];omega
theorem zu7 (R:Type) {l:List Int} (hl:l.length=8) (h:AllU8 l) (k:Int→Option R):F148 R l k=k (beN l):=by
 obtain ⟨q1,q2⟩:=be8 hl h;have:=zo5 R q1 k
 rwa [q2] at this
theorem ze0 (R:Type) {l:List Int} (hl:l.length=4) (h:AllU8 l) (k:Int→Option R):F194 R l k=k (beN l):=by
 obtain ⟨q1,q2⟩:=be4 hl h;have:=Ui R q1 k
 rwa [q2] at this
theorem Gz {l:List Int} (h:AllU8 l) (n:Nat):AllU8 (l.take n):=fun x hx=>h x (List.mem_of_mem_take hx)
theorem Fk {l:List Int} (h:AllU8 l) (n:Nat):AllU8 (l.drop n):=fun x hx=>h x (List.mem_of_mem_drop hx)
def Lq (b:List Int) (c:OpT):Fd→OpT
 | .H=>(c.1,c.2.1,c.2.2.1,b.take 32,c.2.2.2.2)
 | .A=>(c.1,c.2.1,beN (b.take 8),c.2.2.2)
 | .W=>(c.1,beN (b.take 4),c.2.2)
 | .N=>(c.1,c.2.1,c.2.2.1,c.2.2.2.1,beN (b.take 4),c.2.2.2.2.2)
def Jx:List Fd→List Int→OpT→OpT
 | [],_,c=>c
 | f::l,b,c=>Jx l (b.drop (A0 f)) (Lq b c f)
theorem zmi (R:Type) {l:List Fd} (hl:l.length≤2) (x5:OpT) (k0:List Int→OpT→OpT→Option R):∀(m i:Nat) (b:List Int) (c:OpT),i≤l.length→l.length - i<m→AllU8 b→((l.drop i).map A0).sum≤b.length→
  In m R b (l.map enc) (l.length:Int) (i:Int) x5 c k0=k0 (b.drop ((l.drop i).map A0).sum) x5 (Jx (l.drop i) b c)
 | 0,i,b,c,_,hh,_,_=>by omega
 | m+1,i,b,c,h1,h2,hb8,hs=>by
  simp only [In,Vq]
  by_cases hi:i<l.length
  ·rw [List.drop_eq_getElem_cons hi] at hs ⊢
   simp only [List.map_cons,List.sum_cons] at hs ⊢;have ih:=fun c'=>zmi R hl x5 k0 m (i+1) (b.drop (A0 l[i])) c' (by omega) (by omega) (Fk hb8 _) (by rw [List.length_drop]; omega)
   have hb:bnd (i:Int) ((l.map enc).length:Int)=true:=by rw [List.length_map]; exact A5 hi
   have c1:decide ((0:Int)≤0∧(0:Int)≤(A0 l[i]:Int)∧(A0 l[i]:Int)≤(A0 l[i]:Int)∧(A0 l[i]:Int)≤(b.length:Int))=true:=by simp; omega
   have c2:decide ((0:Int)≤(A0 l[i]:Int)∧(A0 l[i]:Int)≤(b.length:Int)∧(b.length:Int)≤(b.length:Int)∧(b.length:Int)≤(b.length:Int))=true:=by simp; omega
   have t1:List.take (Int.toNat ((A0 l[i]:Int) - 0)) (List.drop 0 b)=b.take (A0 l[i]):=by rw [Int.sub_zero,Int.toNat_natCast,List.drop_zero]
   have t2:List.take (Int.toNat ((b.length:Int) - (A0 l[i]:Int))) (List.drop (A0 l[i]) b)=b.drop (A0 l[i]):=by
    rw [List.take_of_length_le];rw [List.length_drop];omega
   have tl:(b.take (A0 l[i])).length=A0 l[i]:=by rw [List.length_take]; omega
   simp only [C4 hi,hb,Int.toNat_natCast,Bv hi (show l.length≤1000 by omega),Ol hi,Tn,c1,c2];rw [t1,t2,Jx,←List.drop_drop];generalize hf:l[i]=f at*;have hu:=Gz hb8 (A0 f);cases f with
   | H=>
    have e1:FnV.same (enc .H).2.2.1 (FnV.fn 145)=true:=rfl;have e3:decide ((32:Int)≤((b.take (A0 .H)).length:Int))=true:=by rw [tl]; rfl
    have e4:List.take 32 (b.take (A0 .H))=b.take 32:=by rw [List.take_take]; rfl
    simp only [e1,e3,e4];exact ih _
   | A=>
    have e1:FnV.same (enc .A).2.2.1 (FnV.fn 145)=false:=rfl;have e2:FnV.same (enc .A).2.2.1 (FnV.fn 147)=true:=rfl;have e3:decide ((8:Int)≤((b.take (A0 .A)).length:Int))=true:=by rw [tl]; rfl
    have e4:List.take 8 (b.take (A0 .A))=b.take 8:=by rw [List.take_take]; rfl
    obtain ⟨q1,q2⟩:=be8 (l:=b.take 8) tl hu;simp only [e1,e2,e3,e4];rw [zu7 R (l:=b.take 8) tl hu];exact ih _
   | W=>
    have e1:FnV.same (enc .W).2.2.1 (FnV.fn 145)=false:=rfl;have e2:FnV.same (enc .W).2.2.1 (FnV.fn 147)=false:=rfl;have e2':FnV.same (enc .W).2.2.1 (FnV.clo 193 (FnV.fn 150))=true:=rfl;have e3:decide ((4:Int)≤((b.take (A0 .W)).length:Int))=true:=by rw [tl]; rfl
    have e4:List.take 4 (b.take (A0 .W))=b.take 4:=by rw [List.take_take]; rfl
    obtain ⟨q1,q2⟩:=be4 (l:=b.take 4) tl hu;have w1:IntKind.i64.wrap (beN (b.take 4))=beN (b.take 4):=by unfold U32 at q1; exact wrap_i64 (by omega) (by omega)
    simp only [e1,e2,e2',e3,e4];rw [ze0 R (l:=b.take 4) tl hu];simp only [w1];exact ih _
   | N=>
    have e1:FnV.same (enc .N).2.2.1 (FnV.fn 145)=false:=rfl;have e2:FnV.same (enc .N).2.2.1 (FnV.fn 147)=false:=rfl;have e2':FnV.same (enc .N).2.2.1 (FnV.clo 193 (FnV.fn 150))=false:=rfl;have e2'':FnV.same (enc .N).2.2.1 (FnV.clo 193 (FnV.fn 151))=true:=rfl;have e3:decide ((4:Int)≤((b.take (A0 .N)).length:Int))=true:=by rw [tl]; rfl
    have e4:List.take 4 (b.take (A0 .N))=b.take 4:=by rw [List.take_take]; rfl
    obtain ⟨q1,q2⟩:=be4 (l:=b.take 4) tl hu;have w1:IntKind.i64.wrap (beN (b.take 4))=beN (b.take 4):=by unfold U32 at q1; exact wrap_i64 (by omega) (by omega)
    simp only [e1,e2,e2',e2'',e3,e4];rw [ze0 R (l:=b.take 4) tl hu];simp only [w1];exact ih _
  ·have:i=l.length:=by omega
   subst this;simp only [Co,List.drop_length];rfl
def opB (x:Int):OpT:=((0:Int),(0:Int),(0:Int),(List.replicate 32 (0:Int)),x,())
def opK (x:Int):OpT:=(x,(0:Int),(0:Int),(List.replicate 32 (0:Int)),(0:Int),())
def oneS (x:Int) (b:List Int):OpT×List Int:=
 if (fsOf x).2=true then (if ((fsOf x).1.map A0).sum≤b.length then (Jx (fsOf x).1 b (opK x),b.drop ((fsOf x).1.map A0).sum) else (opB x,[])) else (opB x,b)
theorem F37_any (R:Type) {x:Int} {b:List Int} (h:AllU8 (x::b)) (k:OpT→List Int→Option R):F37 R (x::b) k=k (oneS x b).1 (oneS x b).2:=by
 have hx:=h x (by simp);have hb8:AllU8 b:=fun y hy=>h y (by simp [hy])
 unfold U8 at hx;simp only [F37,p37];have hwr:IntKind.i64.wrap x=x:=wrap_i64 (by omega) (by omega);have hb:bnd 0 (((x::b).length:Nat):Int)=true:=by unfold bnd; simp<;>omega
 have hc:decide ((0:Int)≤1∧(1:Int)≤((x::b).length:Int)∧((x::b).length:Int)≤((x::b).length:Int)∧((x::b).length:Int)≤((x::b).length:Int))=true:=by simp<;>omega
 simp only [hb,List.getD_cons_zero,hwr,X8,X9 R x (by omega),hc,drop1,List.length_map];unfold oneS;cases hv:(fsOf x).2 with
 | false=>simp only [Bool.not_false,Bool.false_eq_true,if_false]; rfl
 | true=>
  simp only [Bool.not_true,if_true]
  by_cases hs:((fsOf x).1.map A0).sum≤b.length
  ·rw [if_pos hs]
   have hd:decide (szF (fsOf x).1≤((x::b).length:Int))=true:=by unfold szF; simp; omega
   simp only [hd,Bool.not_true];have:=zmi R (Cy x) ((0:Int),(0:Int),(0:Int),(List.replicate 32 (0:Int)),(0:Int),()) (fun x9 x10 x11=>k x11 x9) FUEL 0 b (opK x) (by omega) (by rw [Al]; have:=Cy x; omega) hb8 (by rw [List.drop_zero]; exact hs);rw [List.drop_zero] at this;exact this
  ·rw [if_neg hs]
   have hd:decide (szF (fsOf x).1≤((x::b).length:Int))=false:=by unfold szF; simp; omega
   simp only [hd,Bool.not_false];rfl
end Go.PG
namespace Go.PG
theorem Of (x:Int) (b:List Int):(oneS x b).2.length≤b.length:=by
 unfold oneS;split
 ·split
  ·rw [List.length_drop]; omega
  ·simp
 ·exact Nat.le_refl _
theorem S9 {x:Int} {b:List Int} (h:AllU8 b):AllU8 (oneS x b).2:=by
 unfold oneS;split
 ·split
  ·exact Fk h _
  ·intro y hy; cases hy
 ·exact h
theorem zd1:∀(l:List Fd) (b:List Int) (c:OpT),AllU8 b→(l.map A0).sum≤b.length→OpOK c→OpOK (Jx l b c)
 | [],_,_,_,_,h=>h
 | f::l,b,c,hb,hs,h=>by
  simp only [List.map_cons,List.sum_cons] at hs;refine zd1 l _ _ (Fk hb _) (by rw [List.length_drop]; omega) ?_;have hu:=Gz hb (A0 f);have tl:(b.take (A0 f)).length=A0 f:=by rw [List.length_take]; omega
  cases f with
  | H=>exact ⟨h.kind,h.who,h.amount,⟨tl,hu⟩,h.n⟩
  | A=>exact ⟨h.kind,h.who,(be8 (l:=b.take 8) tl hu).1,h.hash,h.n⟩
  | W=>exact ⟨h.kind,by have:=(be4 (l:=b.take 4) tl hu).1; unfold U32 at this; unfold I64; simp only [Lq]; omega,h.amount,h.hash,h.n⟩
  | N=>exact ⟨h.kind,h.who,h.amount,h.hash,by have:=(be4 (l:=b.take 4) tl hu).1; unfold U32 at this; unfold I64; simp only [Lq]; omega⟩
theorem zvd {x:Int} (hx:U8 x):OpOK (opB x):=by
 unfold U8 at hx;exact ⟨by unfold I64; simp only [opB]; omega,by unfold I64; simp only [opB]; omega,by unfold U64; simp only [opB]; omega,A1,by unfold I64; simp only [opB]; omega⟩
theorem opK_ok {x:Int} (hx:U8 x):OpOK (opK x):=by
 unfold U8 at hx;exact ⟨by unfold I64; simp only [opK]; omega,by unfold I64; simp only [opK]; omega,by unfold U64; simp only [opK]; omega,A1,by unfold I64; simp only [opK]; omega⟩
theorem zzc {x:Int} {b:List Int} (hx:U8 x) (h:AllU8 b):OpOK (oneS x b).1:=by
 unfold oneS;split
 ·split
  ·rename_i hs; exact zd1 _ _ _ h hs (opK_ok hx)
  ·exact zvd hx
 ·exact zvd hx
def decN:Nat→List Int→List OpT
 | 0,_=>[]
 | _+1,[]=>[]
 | n+1,x::b=>(oneS x b).1::decN n (oneS x b).2
def decS (b:List Int):List OpT:=decN b.length b
theorem zln:∀(n m:Nat) (b:List Int),b.length≤n→b.length≤m→decN n b=decN m b
 | 0,m,b,h,_=>by
  have:b=[]:=List.eq_nil_of_length_eq_zero (by omega);subst this;cases m<;>rfl
 | n+1,0,b,_,h=>by
  have:b=[]:=List.eq_nil_of_length_eq_zero (by omega);subst this;rfl
 | n+1,m+1,[],_,_=>rfl
 | n+1,m+1,x::b,h1,h2=>by
  have:=Of x b;simp only [decN];rw [zln n m _ (by simp at h1; omega) (by simp at h2; omega)]
theorem Pp (x:Int) (b:List Int):decS (x::b)=(oneS x b).1::decS (oneS x b).2:=by
 have:=Of x b;show decN (b.length+1) (x::b)=_;simp only [decN];rw [zln b.length (oneS x b).2.length _ this (Nat.le_refl _)];rfl
theorem zlm:∀(n:Nat) (b:List Int),AllU8 b→∀o∈decN n b,OpOK o
 | 0,_,_,o,ho=>by cases ho
 | n+1,[],_,o,ho=>by cases ho
 | n+1,x::b,h,o,ho=>by
  have hb:AllU8 b:=fun y hy=>h y (by simp [hy])
  simp only [decN] at ho;rcases List.mem_cons.1 ho with e | ho
  ·rw [e]; exact zzc (h x (by simp)) hb
  ·exact zlm n _ (S9 hb) o ho
theorem zlk {b:List Int} (h:AllU8 b):∀o∈decS b,OpOK o:=zlm _ _ h
theorem zwj (R:Type) (k0:List OpT→Option R):∀(m:Nat) (b:List Int) (acc:List OpT),AllU8 b→b.length<m→acc.length+b.length≤200000→Xm m R b acc k0=k0 (acc++decS b)
 | 0,b,acc,_,h,_=>by omega
 | m+1,[],acc,_,_,_=>by
  simp only [Xm,zrf];have:decS []=[]:=rfl;rw [this,List.append_nil];rfl
 | m+1,x::b,acc,h,h1,h2=>by
  have hb:AllU8 b:=fun y hy=>h y (by simp [hy])
  have hl:=Of x b;simp only [List.length_cons] at h1 h2;have ih:=zwj R k0 m (oneS x b).2 (acc++[(oneS x b).1]) (S9 hb) (by omega) (by rw [List.length_append,List.length_singleton]; omega);simp only [Xm,zrf];have e1:decide ((((x::b).length:Nat):Int)>0)=true:=by simp<;>omega
  have c1:decide (acc.length+[(oneS x b).1].length≤2199023255552)=true:=by simp; omega
  simp only [e1,F37_any R h,c1];rw [ih,Pp,List.append_assoc];rfl
theorem zcr (R:Type) {b:List Int} (h:AllU8 b) (hn:b.length≤100000) (k:List OpT→Option R):F13 R b k=k (decS b):=by
 simp only [F13,p13];have:=zwj R (fun x=>k x) FUEL b [] h (by rw [Al]; omega) (by simp; omega);rw [List.nil_append] at this;exact this
end Go.PG
namespace Go.PG
theorem zob (R:Type) {l:List Int} (hl:l.length=4) (h:AllU8 l) (k:Int→Option R):F89 R l k=k (beN l):=by
 obtain ⟨a,b,c,d,rfl⟩:=list4 hl;rw [zwk R (h a (by simp)) (h b (by simp)) (h c (by simp)) (h d (by simp))];simp [beN,Jm]
theorem F90_any (R:Type) {l:List Int} (hl:l.length=8) (h:AllU8 l) (k:Int→Option R):F90 R l k=k (beN l):=by
 obtain ⟨a,b,c,d,e,f,g,i,rfl⟩:=list8 hl;have ha:=h a (by simp); have hb:=h b (by simp); have hc:=h c (by simp); have hd:=h d (by simp);have he:=h e (by simp); have hf:=h f (by simp); have hg:=h g (by simp); have hi:=h i (by simp);obtain ⟨m,hm⟩:=E0 9 (by omega);unfold U8 at*;simp only [F90,p90,hm,zgt,zyq];simp [bnd,Eo,De,beN]
 congr 1
 omega
theorem zhg {h b:List Int} {i:Nat} (hh:h.length=32) (hb:32≤b.length) (hi:i<32):((b.take i++h.drop i).set i (b.getD i 0))=b.take (i+1)++h.drop (i+1):=by
 have hl:(b.take i).length=i:=by rw [List.length_take]; omega
 rw [List.set_append_right _ _ (by omega),hl,Nat.sub_self,List.drop_eq_getElem_cons (by omega:i<h.length),List.set_cons_zero,List.take_succ_eq_append_getElem (by omega:i<b.length)];have:b.getD i 0=b[i]:=by simp [show i<b.length by omega]
 rw [this,List.append_assoc];rfl
theorem zv9 (R:Type) {b:List Int} (hb:32≤b.length) (hn:b.length≤200000) {h:List Int} (hh:h.length=32) (o z:OpT) (k0:OpT→OpT→Option R):∀(m i:Nat),i≤32→32 - i<m→
  Qb m R b (i:Int) (o.1,o.2.1,o.2.2.1,b.take i++h.drop i,o.2.2.2.2) z k0=k0 (o.1,o.2.1,o.2.2.1,b.take 32,o.2.2.2.2) z
 | 0,i,_,q=>by omega
 | m+1,i,h1,h2=>by
  simp only [Qb,zh4]
  by_cases hi:i<32
  ·have ih:=zv9 R hb hn hh o z k0 m (i+1) (by omega) (by omega)
   have e1:decide ((i:Int)<32)=true:=decide_eq_true (by omega);have e2:bnd (i:Int) 32=true:=A5 (n:=32) hi;have w:IntKind.i64.wrap ((i:Int)+1)=((i+1:Nat):Int):=by rw [wrap_i64 (by omega) (by omega)]; omega
   simp only [e1,e2,A5 (show i<b.length by omega),Int.toNat_natCast,w,zhg hh hb hi];exact ih
  ·have:i=32:=by omega
   subst this;have e1:decide (((32:Nat):Int)<32)=false:=rfl;have e2:h.drop 32=[]:=List.drop_eq_nil_of_le (by omega);simp only [e1,e2,List.append_nil]
def letF (c:Int):Option Fd:=if c=119 then some .W else if c=110 then some .N else if c=97 then some .A else if c=104 then some .H else none
theorem lit4 {b:List Int} (h:4≤b.length):[b.getD 0 0,b.getD 1 0,b.getD 2 0,b.getD 3 0]=b.take 4:=by
 match b,h with
 | a::b::c::d::r,_=>rfl
theorem lit8 {b:List Int} (h:8≤b.length):[b.getD 0 0,b.getD 1 0,b.getD 2 0,b.getD 3 0,b.getD 4 0,b.getD 5 0,b.getD 6 0,b.getD 7 0]=b.take 8:=by
 match b,h with
 | a::b::c::d::e::f::g::i::r,_=>rfl
theorem F51_eq (R:Type) {o:OpT} (ho:o.2.2.2.1.length=32) {f:Fd} {c:Int} (hf:letF c=some f) {b:List Int} (hb:AllU8 b) (hs:A0 f≤b.length) (hn:b.length≤200000) (k:OpT→Option R):F51 R o c b k=k (Lq b o f):=by
 have B:∀i:Nat,i<A0 f→bnd (i:Int) (b.length:Int)=true:=fun i hi=>A5 (by omega)
 have h4:=Gz hb 4;have h8:=Gz hb 8;unfold letF at hf
 by_cases c1:c=119
 ·rw [if_pos c1] at hf; cases hf; subst c1
  have hs:4≤b.length:=hs;have b0:=B 0 (by decide); have b1:=B 1 (by decide); have b2:=B 2 (by decide); have b3:=B 3 (by decide);simp only [F51,p51];have e:List.set (List.set (List.set (List.set (List.replicate 4 (0:Int)) 0 (b.getD 0 0)) 1 (b.getD 1 0)) 2 (b.getD 2 0)) 3 (b.getD 3 0)=b.take 4:=(by rfl:_=[b.getD 0 0,b.getD 1 0,b.getD 2 0,b.getD 3 0]).trans (lit4 hs);have tl:(b.take 4).length=4:=by rw [List.length_take]; omega
  have q:=(be4 tl h4).1;have w1:IntKind.i64.wrap (beN (b.take 4))=beN (b.take 4):=by unfold U32 at q; exact wrap_i64 (by omega) (by omega)
  have z:((119:Int)==119)=true:=rfl;simp only [z];simp only [show bnd 0 (b.length:Int)=true from b0,show bnd 1 (b.length:Int)=true from b1,show bnd 2 (b.length:Int)=true from b2,show bnd 3 (b.length:Int)=true from b3,e];rw [zob R tl h4,w1];rfl
 ·rw [if_neg c1] at hf
  by_cases c2:c=110
  ·rw [if_pos c2] at hf; cases hf; subst c2
   have hs:4≤b.length:=hs;have b0:=B 0 (by decide); have b1:=B 1 (by decide); have b2:=B 2 (by decide); have b3:=B 3 (by decide);simp only [F51,p51];have e:List.set (List.set (List.set (List.set (List.replicate 4 (0:Int)) 0 (b.getD 0 0)) 1 (b.getD 1 0)) 2 (b.getD 2 0)) 3 (b.getD 3 0)=b.take 4:=(by rfl:_=[b.getD 0 0,b.getD 1 0,b.getD 2 0,b.getD 3 0]).trans (lit4 hs);have tl:(b.take 4).length=4:=by rw [List.length_take]; omega
   have q:=(be4 tl h4).1;have w1:IntKind.i64.wrap (beN (b.take 4))=beN (b.take 4):=by unfold U32 at q; exact wrap_i64 (by omega) (by omega)
   have z:((110:Int)==119)=false:=rfl;have z2:((110:Int)==110)=true:=rfl;simp only [z,z2];simp only [show bnd 0 (b.length:Int)=true from b0,show bnd 1 (b.length:Int)=true from b1,show bnd 2 (b.length:Int)=true from b2,show bnd 3 (b.length:Int)=true from b3,e];rw [zob R tl h4,w1];rfl
  ·rw [if_neg c2] at hf
   by_cases c3:c=97
   ·rw [if_pos c3] at hf; cases hf; subst c3
    have hs:8≤b.length:=hs;have b0:=B 0 (by decide); have b1:=B 1 (by decide); have b2:=B 2 (by decide); have b3:=B 3 (by decide);have b4:=B 4 (by decide); have b5:=B 5 (by decide); have b6:=B 6 (by decide); have b7:=B 7 (by decide);simp only [F51,p51];have e:List.set (List.set (List.set (List.set (List.set (List.set (List.set (List.set (List.replicate 8 (0:Int)) 0 (b.getD 0 0)) 1 (b.getD 1 0)) 2 (b.getD 2 0)) 3 (b.getD 3 0)) 4 (b.getD 4 0)) 5 (b.getD 5 0)) 6 (b.getD 6 0)) 7 (b.getD 7 0)=b.take 8:=
     (by rfl:_=[b.getD 0 0,b.getD 1 0,b.getD 2 0,b.getD 3 0,b.getD 4 0,b.getD 5 0,b.getD 6 0,b.getD 7 0]).trans (lit8 hs)
    have tl:(b.take 8).length=8:=by rw [List.length_take]; omega
    have z:((97:Int)==119)=false:=rfl;have z2:((97:Int)==110)=false:=rfl;have z3:((97:Int)==97)=true:=rfl;simp only [z,z2,z3];simp only [show bnd 0 (b.length:Int)=true from b0,show bnd 1 (b.length:Int)=true from b1,show bnd 2 (b.length:Int)=true from b2,show bnd 3 (b.length:Int)=true from b3,show bnd 4 (b.length:Int)=true from b4,show bnd 5 (b.length:Int)=true from b5,show bnd 6 (b.length:Int)=true from b6,show bnd 7 (b.length:Int)=true from b7,e];rw [F90_any R tl h8];rfl
   ·rw [if_neg c3] at hf
    by_cases c4:c=104
    ·rw [if_pos c4] at hf; cases hf; subst c4
     have hs:32≤b.length:=hs;simp only [F51,p51];have z:((104:Int)==119)=false:=rfl;have z2:((104:Int)==110)=false:=rfl;have z3:((104:Int)==97)=false:=rfl;have z4:((104:Int)==104)=true:=rfl;simp only [z,z2,z3,z4];have:=zv9 R hs hn ho o ((0:Int),(0:Int),(0:Int),(List.replicate 32 (0:Int)),(0:Int),()) (fun x29 _=>k x29) FUEL 0 (by omega) (by rw [Al]; omega);rw [List.take_zero,List.drop_zero,List.nil_append] at this;exact this
    ·rw [if_neg c4] at hf; cases hf
end Go.PG
namespace Go.PG
def zme (s:ByteArray) (l:List Fd):Prop:=s.size=l.length∧∀(i:Nat) (h:i<l.length),letF (((List.getD s.data.toList i 0).toNat:Nat):Int)=some l[i]
theorem V0 {c:Int} {f:Fd} (h:letF c=some f):zrv c=(A0 f:Int):=by
 unfold letF at h;unfold zrv
 by_cases c1:c=119
 ·rw [if_pos c1] at h ⊢; cases h; rfl
 rw [if_neg c1] at h ⊢
 by_cases c2:c=110
 ·rw [if_pos c2] at h ⊢; cases h; rfl
 rw [if_neg c2] at h ⊢
 by_cases c3:c=97
 ·rw [if_pos c3] at h ⊢; cases h; rfl
 rw [if_neg c3] at h ⊢
 by_cases c4:c=104
 ·rw [if_pos c4] at h ⊢; cases h; rfl
 rw [if_neg c4] at h; cases h
theorem V9 (x:Int) (hv:(fsOf x).2=true):(fldS x=⟨#[45]⟩∧(fsOf x).1=[])∨zme (fldS x) (fsOf x).1:=by
 have two:∀{s:ByteArray} {a b:Fd},s.size=2→letF (((List.getD s.data.toList 0 0).toNat:Nat):Int)=some a→letF (((List.getD s.data.toList 1 0).toNat:Nat):Int)=some b→zme s [a,b]:=by
  intro s a b h h0 h1;refine ⟨h,fun i hi=>?_⟩
  match i,hi with
  | 0,_=>exact h0
  | 1,_=>exact h1
 have one:∀{s:ByteArray} {a:Fd},s.size=1→letF (((List.getD s.data.toList 0 0).toNat:Nat):Int)=some a→zme s [a]:=by
  intro s a h h0;refine ⟨h,fun i hi=>?_⟩
  match i,hi with
  | 0,_=>exact h0
 rcases zah x with h | h | h | h | h | h | h | h | h | h | h | h
 ·subst h; exact Or.inr (two rfl rfl rfl)
 ·subst h; exact Or.inr (two rfl rfl rfl)
 ·subst h; exact Or.inr (two rfl rfl rfl)
 ·subst h; exact Or.inr (two rfl rfl rfl)
 ·subst h; exact Or.inr (two rfl rfl rfl)
 ·subst h; exact Or.inl ⟨rfl,rfl⟩
 ·subst h; exact Or.inr (one rfl rfl)
 ·subst h; exact Or.inr (one rfl rfl)
 ·subst h; exact Or.inr (two rfl rfl rfl)
 ·subst h; exact Or.inr (two rfl rfl rfl)
 ·subst h; exact Or.inl ⟨rfl,rfl⟩
 ·obtain ⟨h1,h2,h3,h4,h5,h6,h7,h8,h9,h10,h11⟩:=h
  simp [fsOf,h1,h2,h3,h4,h5,h6,h7,h8,h9,h10,h11] at hv
theorem zmh (R:Type) {s:ByteArray} {l:List Fd} (hl:zme s l) (h2:l.length≤2) (k0:Int→Option R):∀(m i:Nat),i≤l.length→l.length - i<m→
  za7 m R s (szF (l.take i)) (i:Int) k0=k0 (szF l)
 | 0,i,_,hh=>by omega
 | m+1,i,h1,h3=>by
  simp only [za7,zy3];rw [hl.1]
  by_cases hi:i<l.length
  ·have ih:=zmh R hl h2 k0 m (i+1) (by omega) (by omega)
   have e:szF (l.take (i+1))=szF (l.take i)+(A0 l[i]:Int):=by
    unfold szF;rw [List.take_succ_eq_append_getElem hi,List.map_append,List.sum_append];simp;omega
   have hb:IntKind.i64.wrap (szF (l.take i)+(A0 l[i]:Int))=szF (l.take i)+(A0 l[i]:Int):=by
    have q:∀f:Fd,A0 f≤32:=fun f=>by cases f<;>decide
    have q1:=q l[i];have q2:((l.take i).map A0).sum≤32*(l.take i).length:=by
     generalize l.take i=t
     induction t with
     | nil=>simp
     | cons f t ih=>simp only [List.map_cons,List.sum_cons,List.length_cons]; have:=q f; omega
    have q3:(l.take i).length≤2:=by rw [List.length_take]; omega
    unfold szF;exact wrap_i64 (by omega) (by omega)
   simp only [C4 hi,A5 hi,Int.toNat_natCast,Bv hi (show l.length≤1000 by omega),zoe,V0 (hl.2 i hi),hb];rw [←e];exact ih
  ·have:i=l.length:=by omega
   subst this;simp only [Co,List.take_length]
theorem F49_eqV (R:Type) {x:Int} (hv:(fsOf x).2=true) (k:Int→Bool→Option R):F49 R x k=k (szF (fsOf x).1) true:=by
 simp only [F49,p49,zof,Rm,hv,Bool.not_true];rcases V9 x hv with ⟨h1,h2⟩ | h
 ·rw [h1,h2]
  obtain ⟨m,hm⟩:=E0 9 (by omega);rw [hm];rfl
 ·have:=zmh R h (Cy x) (fun x3=>k x3 true) FUEL 0 (by omega) (by rw [Al]; have:=Cy x; omega)
  rw [List.take_zero] at this;exact this
theorem F49_inv (R:Type) {x:Int} (hv:(fsOf x).2=false) (k:Int→Bool→Option R):F49 R x k=k 0 false:=by
 simp only [F49,p49,zof,Rm,hv,Bool.not_false]
theorem ze9 {b:List Int} {o:OpT} (ho:o.2.2.2.1.length=32) {f:Fd} (hs:A0 f≤b.length):(Lq b o f).2.2.2.1.length=32:=by
 cases f with
 | H=>simp only [Lq]; rw [List.length_take]; have:32≤b.length:=hs; omega
 | A=>exact ho
 | W=>exact ho
 | N=>exact ho
theorem zmj (R:Type) {s:ByteArray} {l:List Fd} (hl:zme s l) (h2:l.length≤2) {b:List Int} (hb:AllU8 b) (hn:b.length≤200000) (n:Int) (acc:List OpT) (k0:List Int→Int→List OpT→OpT→Option R):∀(m i t:Nat) (o:OpT),i≤l.length→l.length - i<m→o.2.2.2.1.length=32→t+((l.drop i).map A0).sum≤b.length→
  G1 m R b n (t:Int) s (i:Int) acc o k0=k0 b n acc (Jx (l.drop i) (b.drop t) o)
 | 0,i,t,o,_,hh,_,_=>by omega
 | m+1,i,t,o,h1,h3,ho,hs=>by
  simp only [G1,zdj];rw [hl.1]
  by_cases hi:i<l.length
  ·rw [List.drop_eq_getElem_cons hi] at hs ⊢
   simp only [List.map_cons,List.sum_cons] at hs;have hsz:A0 l[i]≤(b.drop t).length:=by rw [List.length_drop]; omega
   have ih:=zmj R hl h2 hb hn n acc k0 m (i+1) (t+A0 l[i]) (Lq (b.drop t) o l[i]) (by omega) (by omega) (ze9 ho hsz) (by omega);have c1:decide (0≤(t:Int)∧(t:Int)≤(List.length b:Int)∧(List.length b:Int)≤(List.length b:Int)∧(List.length b:Int)≤(List.length b:Int))=true:=by simp; omega
   have t1:List.take (Int.toNat ((b.length:Int) - (t:Int))) (List.drop t b)=b.drop t:=by
    rw [List.take_of_length_le];rw [List.length_drop];omega
   have hw:IntKind.i64.wrap ((t:Int)+(A0 l[i]:Int))=((t+A0 l[i]:Nat):Int):=by rw [wrap_i64 (by omega) (by omega)]; omega
   simp only [C4 hi,A5 hi,Int.toNat_natCast,Bv hi (show l.length≤1000 by omega),c1,t1];rw [F51_eq R ho (hl.2 i hi) (Fk hb t) hsz (by rw [List.length_drop]; omega)];simp only [zoe,V0 (hl.2 i hi),hw];rw [ih,Jx,List.drop_drop]
  ·have:i=l.length:=by omega
   subst this;simp only [Co,List.drop_length];rfl
theorem zuz (R:Type) {b:List Int} (hb:1≤b.length) (n:Int) (acc:List OpT) (o:OpT) (k0:List Int→Int→List OpT→OpT→Option R):G1 FUEL R b n 1 ⟨#[45]⟩ 0 acc o k0=k0 b n acc o:=by
 obtain ⟨m,hm⟩:=E0 9 (by omega);rw [hm];have c1:decide (0≤(1:Int)∧(1:Int)≤(List.length b:Int)∧(List.length b:Int)≤(List.length b:Int)∧(List.length b:Int)≤(List.length b:Int))=true:=by simp; omega
 have e:∀m',G1 (m'+1) R b n 1 ⟨#[45]⟩ 0 acc o k0=F51 R o 45 (List.take (Int.toNat ((List.length b:Int) - 1)) (List.drop 1 b)) (fun y12=>F52 R 45 fun y14=>G1 m' R b n (IntKind.i64.wrap (1+y14)) ⟨#[45]⟩ 1 acc y12 k0):=by
  intro m';simp only [G1,zdj];have s1:decide ((0:Int)<(ByteArray.size ⟨#[45]⟩:Int))=true:=rfl;have s2:bnd (0:Int) (ByteArray.size ⟨#[45]⟩:Int)=true:=rfl;simp only [s1,s2];simp only [c1];rfl
 rw [e];have z:∀k:OpT→Option R,F51 R o 45 (List.take (Int.toNat ((List.length b:Int) - 1)) (List.drop 1 b)) k=k o:=by
  intro k;simp only [F51,p51];rfl
 rw [z,zoe];rfl
theorem zwg (R:Type) (k:List OpT→Option R):∀(m:Nat) (b:List Int) (acc:List OpT),AllU8 b→b.length<m→acc.length+b.length≤200000→T8 m R b acc (fun x=>k x) (fun x=>k x)=k (acc++decS b)
 | 0,b,acc,_,h,_=>by omega
 | m+1,[],acc,_,_,_=>by
  simp only [T8,zre];have:decS []=[]:=rfl;rw [this,List.append_nil];rfl
 | m+1,x::b,acc,h,h1,h2=>by
  have hb:AllU8 b:=fun y hy=>h y (by simp [hy])
  have hx:=h x (by simp);unfold U8 at hx;have hwr:IntKind.i64.wrap x=x:=wrap_i64 (by omega) (by omega);have hl:=Of x b;simp only [List.length_cons] at h1 h2;have ih:=zwg R k m (oneS x b).2 (acc++[(oneS x b).1]) (S9 hb) (by omega) (by rw [List.length_append,List.length_singleton]; omega);have e1:decide ((((x::b).length:Nat):Int)>0)=true:=by simp<;>omega
  have e2:bnd 0 (((x::b).length:Nat):Int)=true:=by unfold bnd; simp<;>omega
  have c1:∀o:OpT,decide (acc.length+[o].length≤2199023255552)=true:=fun o=>by simp; omega
  have hc:decide ((0:Int)≤1∧(1:Int)≤((x::b).length:Int)∧((x::b).length:Int)≤((x::b).length:Int)∧((x::b).length:Int)≤((x::b).length:Int))=true:=by simp<;>omega
  simp only [T8,zre,e1,e2,List.getD_cons_zero,hwr];rw [Pp];cases hv:(fsOf x).2 with
  | false=>
   have eo:oneS x b=(opB x,b):=by unfold oneS; simp [hv]
   rw [eo] at ih ⊢;rw [F49_inv R hv];simp only [Bool.not_false,c1,hc];have d1:List.take (Int.toNat ((List.length (x::b):Int) - 1)) (List.drop 1 (x::b))=b:=by
    rw [List.drop_succ_cons,List.drop_zero,List.take_of_length_le];simp
   rw [d1];refine ih.trans ?_;rw [List.append_assoc];rfl
  | true=>
   rw [F49_eqV R hv];simp only [Bool.not_true]
   by_cases hs:((fsOf x).1.map A0).sum≤b.length
   ·have eo:oneS x b=(Jx (fsOf x).1 b (opK x),b.drop ((fsOf x).1.map A0).sum):=by unfold oneS; rw [if_pos hv,if_pos hs]
    rw [eo] at ih ⊢;have hd:decide ((((x::b).length:Nat):Int)<szF (fsOf x).1)=false:=by unfold szF; simp; omega
    simp only [hd,zof];have L:∀K:List Int→Int→List OpT→OpT→Option R,G1 FUEL R (x::b) (szF (fsOf x).1) 1 (fldS x) 0 acc (opK x) K=K (x::b) (szF (fsOf x).1) acc (Jx (fsOf x).1 b (opK x)):=by
     intro K;rcases V9 x hv with ⟨q1,q2⟩ | q
     ·rw [q1,q2,zuz R (by simp)]
      rfl
     ·have:=zmj R q (Cy x) h (by simp; omega) (szF (fsOf x).1) acc K FUEL 0 1 (opK x) (by omega) (by rw [Al]; have:=Cy x; omega) (by simp [opK]) (by rw [List.drop_zero]; simp only [List.length_cons]; omega)
      rw [List.drop_zero,List.drop_succ_cons,List.drop_zero] at this;exact this
    rw [show (x,(0:Int),(0:Int),(List.replicate 32 (0:Int)),(0:Int),())=opK x from rfl,L];have hz:(szF (fsOf x).1).toNat=1+((fsOf x).1.map A0).sum:=by unfold szF; omega
    have d2:decide ((0:Int)≤szF (fsOf x).1∧szF (fsOf x).1≤((x::b).length:Int)∧((x::b).length:Int)≤((x::b).length:Int)∧((x::b).length:Int)≤((x::b).length:Int))=true:=by unfold szF; simp; omega
    have d3:List.take (Int.toNat (((x::b).length:Int) - szF (fsOf x).1)) (List.drop (Int.toNat (szF (fsOf x).1)) (x::b))=b.drop ((fsOf x).1.map A0).sum:=by
     rw [hz,Nat.add_comm,List.drop_succ_cons,List.take_of_length_le];rw [List.length_drop];unfold szF;simp only [List.length_cons];omega
    simp only [c1,d2,d3];refine ih.trans ?_;rw [List.append_assoc];rfl
   ·have eo:oneS x b=(opB x,[]):=by unfold oneS; rw [if_pos hv,if_neg hs]
    rw [eo];have hd:decide ((((x::b).length:Nat):Int)<szF (fsOf x).1)=true:=by unfold szF; simp; omega
    simp only [hd,c1];rfl
theorem F28_eq (R:Type) {b:List Int} (h:AllU8 b) (hn:b.length≤100000) (k:List OpT→Option R):F28 R b k=k (decS b):=by
 simp only [F28,p28];have:=zwg R k FUEL b [] h (by rw [Al]; omega) (by simp; omega);rw [List.nil_append] at this;exact this
theorem F10_eq (R:Type) {b:List Int} (h:AllU8 b) (k:Bool→Option R):F10 R b k=k (decide (b.length≤1500)&&decide ((decS b).length≤60)):=by
 simp only [F10,p10]
 by_cases hn:b.length≤1500
 ·have e1:decide (((b.length:Nat):Int)≤1500)=true:=decide_eq_true (by omega)
  simp only [e1,F28_eq R h (by omega)];rw [decide_eq_true hn,Bool.true_and]
  congr 1
  rw [Bool.eq_iff_iff];simp only [decide_eq_true_eq];omega
 ·have e1:decide (((b.length:Nat):Int)≤1500)=false:=decide_eq_false (by omega)
  simp only [e1];rw [decide_eq_false hn];rfl
end Go.PG
namespace Go.PG
theorem zuq {a:Int} (h:U64 a):beN (putS a)=a:=by
 unfold U64 at h;simp [beN,putS];omega
theorem Rq {a:Int} (h:U32 a):beN (Bu a)=a:=by
 unfold U32 at h;simp [beN,Bu];omega
theorem zfa {o:OpT} (h:OpOK o) (hw:U32 o.2.1) (hn:U32 o.2.2.2.2.1) (c:OpT) (f:Fd) (r:List Int):Lq (C7 o f++r) c f=Qy o c f:=by
 cases f with
 | H=>
  simp only [Lq,C7,Qy];rw [←h.hash.1,List.take_left]
 | A=>
  simp only [Lq,C7,Qy];rw [show (8:Nat)=(putS o.2.2.1).length from rfl,List.take_left,zuq h.amount]
 | W=>
  simp only [Lq,C7,Qy];rw [show (4:Nat)=(Bu o.2.1).length from rfl,List.take_left,Rq hw]
 | N=>
  simp only [Lq,C7,Qy];rw [show (4:Nat)=(Bu o.2.2.2.2.1).length from rfl,List.take_left,Rq hn]
theorem Rl {o:OpT} (h:OpOK o) (hw:U32 o.2.1) (hn:U32 o.2.2.2.2.1) (r:List Int):∀(l:List Fd) (c:OpT),Jx l (Dl o l++r) c=Pu o l c
 | [],c=>rfl
 | f::l,c=>by
  rw [I7,List.append_assoc,Jx,zfa h hw hn,←Ie h f,List.drop_left,Rl h hw hn r l];rfl
theorem O5 {o:OpT} (h:A6 o=true):U32 o.2.1∧U32 o.2.2.2.2.1:=by
 unfold A6 Kq at h;rw [Bool.and_eq_true,decide_eq_true_eq] at h;unfold U32;omega
theorem zi0 {o:OpT} (h:OpOK o) (hr:A6 o=true) (r:List Int):∃x t,Dj o=x::t∧oneS x (t++r)=(o,r):=by
 obtain ⟨hw,hn⟩:=O5 hr;unfold A6 at hr;rw [Bool.and_eq_true] at hr;have hr:=hr.2;unfold Dj;cases hv:(fsOf o.1).2 with
 | true=>
  rw [if_pos hv,decide_eq_true_eq] at hr;have hk:=I4 hv;have em:o.1 % 256=o.1:=by omega
  rw [if_pos rfl,em];refine ⟨_,_,rfl,?_⟩;unfold oneS;rw [if_pos hv,if_pos (by rw [List.length_append,Gx h]; omega),Rl h hw hn,←Gx h,List.drop_left];exact Prod.ext hr rfl
 | false=>
  rw [hv,if_neg (by decide),decide_eq_true_eq] at hr;obtain ⟨h1,h2,h3⟩:=hr;have em:o.2.2.2.2.1 % 256=o.2.2.2.2.1:=by unfold U32 at hn; omega
  rw [if_neg (by decide),em];refine ⟨_,_,rfl,?_⟩;unfold oneS;rw [if_neg (by rw [h2]; decide)];exact Prod.ext h3.symm rfl
def encS (l:List OpT):List Int:=l.flatMap Dj
theorem zlj:∀(l:List OpT),(∀o∈l,OpOK o)→(∀o∈l,A6 o=true)→decS (encS l)=l
 | [],_,_=>rfl
 | o::l,h,hr=>by
  obtain ⟨x,t,e,q⟩:=zi0 (h o (by simp)) (hr o (by simp)) (encS l);have:encS (o::l)=x::(t++encS l):=by
   show Dj o++encS l=_;rw [e];rfl
  rw [this,Pp,q,zlj l (fun o ho=>h o (by simp [ho])) (fun o ho=>hr o (by simp [ho]))]
theorem zgd {o:OpT} (h:OpOK o):(Dj o).length≤65:=by
 unfold Dj;split
 ·have:=Gx h (fsOf o.1).1
  have h2:=Su (fsOf o.1).1;have h3:=Cy o.1;rw [List.length_cons];omega
 ·simp
theorem To:∀(l:List OpT),(∀o∈l,OpOK o)→(encS l).length≤65*l.length
 | [],_=>by simp [encS]
 | o::l,h=>by
  have:=To l (fun o ho=>h o (by simp [ho]));have h2:=zgd (h o (by simp));show (Dj o++encS l).length≤_;rw [List.length_append,List.length_cons];omega
theorem zup {o:OpT} (h:OpOK o) (f:Fd):AllU8 (C7 o f):=by
 have u:∀x:Int,U8 (x % 256):=fun x=>by unfold U8; omega
 cases f with
 | H=>exact h.hash.2
 | A=>intro x hx; simp only [C7,putS,List.mem_cons,List.not_mem_nil,or_false] at hx; rcases hx with e | e | e | e | e | e | e | e<;>rw [e]<;>exact u _
 | W=>intro x hx; simp only [C7,Bu,List.mem_cons,List.not_mem_nil,or_false] at hx; rcases hx with e | e | e | e<;>rw [e]<;>exact u _
 | N=>intro x hx; simp only [C7,Bu,List.mem_cons,List.not_mem_nil,or_false] at hx; rcases hx with e | e | e | e<;>rw [e]<;>exact u _
theorem zls {o:OpT} (h:OpOK o):AllU8 (Dj o):=by
 have u:∀x:Int,U8 (x % 256):=fun x=>by unfold U8; omega
 unfold Dj;split
 ·intro x hx
  rcases List.mem_cons.1 hx with e | hx
  ·rw [e]; exact u _
  ·obtain ⟨f,_,hf⟩:=List.mem_flatMap.1 hx
   exact zup h f x hf
 ·intro x hx
  rw [List.mem_singleton.1 hx]; exact u _
theorem zkz {l:List OpT} (h:∀o∈l,OpOK o):AllU8 (encS l):=by
 intro x hx;obtain ⟨o,ho,hf⟩:=List.mem_flatMap.1 hx;exact zls (h o ho) x hf
theorem zwi (R:Type) {l:List OpT} (h:∀o∈l,OpOK o) (hr:∀o∈l,A6 o=true) (hL:l.length≤1000) (k0:Int→Option R) (k1:List Int→Option R):∀(m i:Nat) (acc:List Int),i≤l.length→l.length - i<m→acc.length+(encS (l.drop i)).length≤100000→
  zbd m R l (l.length:Int) (i:Int) acc k0 k1=k1 (acc++encS (l.drop i))
 | 0,i,acc,_,hh,_=>by omega
 | m+1,i,acc,h1,h2,h3=>by
  simp only [zbd,zza]
  by_cases hi:i<l.length
  ·have hoi:=h _ (List.getElem_mem hi)
   have hri:=hr _ (List.getElem_mem hi);obtain ⟨hw,hn⟩:=O5 hri;rw [List.drop_eq_getElem_cons hi] at h3 ⊢;have e:encS (l[i]::l.drop (i+1))=Dj l[i]++encS (l.drop (i+1)):=rfl;rw [e,List.length_append] at h3;have ih:=zwi R h hr hL k0 k1 m (i+1) (acc++Dj l[i]) (by omega) (by omega) (by rw [List.length_append]; omega);have c1:decide (acc.length+(Dj l[i]).length≤140737488355328)=true:=by simp; omega
   simp only [C4 hi,A5 hi,Int.toNat_natCast,Bv hi hL,zak hi,zws R hoi,hri,Bool.not_true,zwp R hoi hw hn,c1];rw [ih,e,List.append_assoc]
  ·have:i=l.length:=by omega
   subst this;have e:encS []=[]:=rfl;simp only [Co,List.drop_length,e,List.append_nil]
theorem F22_eq (R:Type) {l:List OpT} (h:∀o∈l,OpOK o) (hr:∀o∈l,A6 o=true) (hL:l.length≤1000) (k:List Int→Int→Option R):F22 R l k=k (encS l) 0:=by
 have hl:=To l h;simp only [F22,p22];have:=zwi R h hr hL (fun x2=>k [] x2) (fun x3=>k x3 0) FUEL 0 [] (by omega) (by rw [Al]; omega) (by rw [List.drop_zero]; simp; omega);rw [List.drop_zero,List.nil_append] at this;exact this
theorem F19_eq (R:Type) {c:Cfg} (hc:cfgS c=true) {a b:List Int} (ha:H32 a) (hb:AllU8 b) (hn:b.length≤100000) (hd:(decS b).length≤100) (k:Led→List An→Int→Option R):F19 R c a b k=k (Lu (newS c a) (decS b)).1 (Lu (newS c a) (decS b)).2 0:=by
 simp only [F19,p19,zwu,hc,if_true];have e1:((0:Int) !=0)=false:=rfl;have e2:decide (((b.length:Nat):Int)>100000)=false:=decide_eq_false (by omega);have e3:decide ((((decS b).length:Nat):Int)>2000)=false:=decide_eq_false (by omega);simp only [e1,e2,zcr R hb hn,e3];rw [F42_eq R (zvf hc ha) (zlk hb) (by omega)]
theorem ziz {x:Int} {b:List Int} (hx:U8 x) (hb:AllU8 b):A6 (oneS x b).1=true∨((oneS x b).2=[]∧(oneS x b).1.1=0):=by
 unfold oneS;cases hv:(fsOf x).2 with
 | false=>
  rw [if_neg (by decide)];left;unfold U8 at hx;have e0:(fsOf 0).2=false:=rfl;unfold A6 Kq;rw [Bool.and_eq_true];refine ⟨decide_eq_true (by show (0:Int)≤0∧(0:Int)<4294967296∧0≤x∧x<4294967296; omega),?_⟩;show (if (fsOf 0).2=true then _ else _)=true;rw [e0,if_neg (by decide)];exact decide_eq_true ⟨by show x≤255; omega,hv,rfl⟩
 | true=>
  rw [if_pos rfl]
  by_cases hs:((fsOf x).1.map A0).sum≤b.length
  ·rw [if_pos hs]
   left;have four:∀d:List Int,AllU8 d→4≤d.length→U32 (beN (d.take 4)):=fun d hd hl=>(be4 (by rw [List.length_take]; omega) (Gz hd 4)).1
   have hW:∀d:List Int,AllU8 d→4≤d.length→0≤beN (d.take 4)∧beN (d.take 4)<4294967296:=four;unfold A6 Kq;have hk:(Jx (fsOf x).1 b (opK x)).1=x:=by
    have:∀(l:List Fd) (d:List Int) (c:OpT),(Jx l d c).1=c.1:=by
     intro l
     induction l with
     | nil=>intro d c; rfl
     | cons f l ih=>intro d c; rw [Jx,ih]; cases f<;>rfl
    rw [this]; rfl
   rw [hk,if_pos hv];rcases classes hv with q | q | q | q | q | q | q<;>rw [q] at hs ⊢<;>simp only [List.map_cons,List.map_nil,List.sum_cons,List.sum_nil,A0] at hs<;>simp only [Jx,Lq,opK,Pu,List.foldl_cons,List.foldl_nil,Qy,decide_true,Bool.and_true,A0]<;>refine decide_eq_true ?_
   ·omega
   ·have:=hW b hb (by omega); omega
   ·have:=hW b hb (by omega); omega
   ·omega
   ·have:=hW b hb (by omega); omega
   ·have h1:=hW b hb (by omega)
    have h2:=hW (b.drop 4) (Fk hb 4) (by rw [List.length_drop]; omega);omega
   ·have h1:=hW b hb (by omega)
    have h2:=hW (b.drop 4) (Fk hb 4) (by rw [List.length_drop]; omega);omega
  ·rw [if_neg hs]
   exact Or.inr ⟨rfl,rfl⟩
theorem Wm:∀(n:Nat) (b:List Int),AllU8 b→∀o∈decN n b,o.1≠0→A6 o=true
 | 0,_,_,o,h,_=>by simp [decN] at h
 | n+1,[],_,o,h,_=>by simp [decN] at h
 | n+1,x::b,hb,o,h,h0=>by
  have hb':AllU8 b:=fun y hy=>hb y (by simp [hy])
  simp only [decN] at h;rcases List.mem_cons.1 h with e | h
  ·subst e
   rcases ziz (hb x (by simp)) hb' with q | ⟨_,q⟩
   ·exact q
   ·exact absurd q h0
  ·exact Wm n _ (S9 hb') o h h0
theorem zll {b:List Int} (hb:AllU8 b):∀o∈decS b,o.1≠0→A6 o=true:=Wm _ _ hb
end Go.PG
set_option maxRecDepth 100000
namespace Go.PG
abbrev lvC:Cfg:=((2:Int),(1:Int),(1:Int),(64:Int),(1:Int),())
abbrev lvZ:List Int:=List.replicate 32 (0:Int)
abbrev lvD:List Int:=Sw lvZ 0 bV
abbrev lo1:OpT:=((1:Int),(0:Int),(5:Int),bV,(0:Int),())
abbrev lo2:OpT:=((4:Int),(0:Int),(0:Int),SHA bV,(0:Int),())
abbrev lo3:OpT:=((5:Int),(0:Int),(0:Int),bV,(0:Int),())
abbrev lo4:OpT:=((7:Int),(0:Int),(0:Int),lvZ,(0:Int),())
abbrev lo5:OpT:=((6:Int),(0:Int),(0:Int),lvZ,(0:Int),())
abbrev lvO:List OpT:=[lo1,lo2,lo5,lo3,lo5,lo4]
abbrev lv0:Led:=newS lvC lvZ
abbrev lv1:Led:=(lvC,(0:Int),[(bV,(0:Int),(5:Int),())],((0:Int),lvZ,lvZ,[],()),[(-1:Int),(-1:Int)],[],())
abbrev lv2:Led:=(lvC,(0:Int),[(bV,(0:Int),(5:Int),())],((0:Int),lvZ,lvZ,[((0:Int),SHA bV,false,lvZ,())],()),[(-1:Int),(-1:Int)],[],())
abbrev lv3:Led:=(lvC,(1:Int),[(bV,(0:Int),(5:Int),())],((0:Int),lvZ,lvZ,[((0:Int),SHA bV,false,lvZ,())],()),[(-1:Int),(-1:Int)],[],())
abbrev lv4:Led:=(lvC,(1:Int),[(bV,(0:Int),(5:Int),())],((0:Int),lvZ,bV,[((0:Int),SHA bV,true,bV,())],()),[(-1:Int),(-1:Int)],[],())
abbrev lv5:Led:=(lvC,(0:Int),[(bV,(5:Int),(5:Int),())],((1:Int),lvD,lvZ,[],()),[(0:Int),(0:Int)],[],())
theorem lvs0:doS lv0 lo1=(lv1,okS 0):=by kernel_rfl
theorem lvs1:doS lv1 lo2=(lv2,okS 0):=by kernel_rfl
theorem lvs4:doS lv2 lo5=(lv3,okS 1):=by kernel_rfl
theorem lvs5:doS lv3 lo3=(lv4,okS 0):=by kernel_rfl
theorem lvs6:doS lv4 lo5=(lv5,((0:Int),(0:Int),[],lvD,())):=by kernel_rfl
theorem lvs7:doS lv5 lo4=(lv5,((0:Int),(0:Int),[(0:Int)],lvZ,())):=by kernel_rfl
abbrev lvA:List An:=[okS 0,okS 0,okS 1,okS 0,((0:Int),(0:Int),[],lvD,()),((0:Int),(0:Int),[(0:Int)],lvZ,())]
theorem lvP:Lu lv0 lvO=(lv5,lvA):=by
 simp only [Lu,lvs0,lvs1,lvs4,lvs5,lvs6,lvs7]
theorem zvg:H32 lvD:=W8 _
theorem Vz:∀o∈lvO,OpOK o:=by
 have a:∀{k n x:Int} {h:List Int},0≤k∧k≤100→0≤n∧n≤100→0≤x∧x≤100→H32 h→OpOK (k,(0:Int),x,h,n,()):=fun h1 h2 h3 h4=>⟨by unfold I64; simp only; omega,by unfold I64; simp only; omega,by unfold U64; simp only; omega,h4,by unfold I64; simp only; omega⟩
 intro o ho;have z:=A1;simp only [lvO,List.mem_cons,List.not_mem_nil,or_false] at ho;rcases ho with h | h | h | h | h | h<;>rw [h]
 ·exact a (by omega) (by omega) (by omega) zge
 ·exact a (by omega) (by omega) (by omega) (W8 _)
 ·exact a (by omega) (by omega) (by omega) z
 ·exact a (by omega) (by omega) (by omega) zge
 ·exact a (by omega) (by omega) (by omega) z
 ·exact a (by omega) (by omega) (by omega) z
end Go.PG
set_option maxRecDepth 100000
namespace Go.PG
theorem zq3 {o:OpT} (h1:Kq o=true) (h2:(fsOf o.1).2=true) (h3:Pu o (fsOf o.1).1 (o.1,(0:Int),(0:Int),(List.replicate 32 (0:Int)),(0:Int),())=o):A6 o=true:=by
 unfold A6;rw [h1,if_pos h2,decide_eq_true h3];rfl
theorem Vy:∀o∈lvO,A6 o=true:=by
 intro o ho;simp only [lvO,List.mem_cons,List.not_mem_nil,or_false] at ho;rcases ho with h | h | h | h | h | h<;>rw [h]<;>exact zq3 rfl rfl rfl
theorem zmg (f54:FT54) (f55:FT55) (R:Type) (k0:List Bool→List Tq37→Unit→Tq37→Option R):
  G91 f54 f55 FUEL R 0 6 0 [] 2 lvO lvA [] () ((0:Int),lvZ,lvZ,lvZ,()) k0=f54 R [lvZ,bV] fun m=>f55 R lvZ 0 m fun nx=>k0 [] [((0:Int),lvZ,m,nx,())] () ((1:Int),nx,lvZ,lvZ,()):=by
 obtain ⟨m,hm⟩:=E0 12 (by omega);rw [hm]
 kernel_rfl
theorem lvX:En [lvZ,bV]=bV:=by kernel_rfl
theorem zoj (R:Type) (k:List Tq37→Option R):F29 R lvC lvZ lvO lvA k=k [((0:Int),lvZ,bV,lvD,())]:=by
 have hz:cfgS lvC=true:=by decide
 have e:∀x∈[lvZ,bV],H32 x:=fun x hx=>by
  simp only [List.mem_cons,List.not_mem_nil,or_false] at hx;rcases hx with h | h<;>rw [h]
  ·exact A1
  ·exact zge
 simp only [F29,p29];rw [zoi,hz];show (if ((lvA.length:Nat):Int)<((lvO.length:Nat):Int) then ((lvA.length:Nat):Int) else ((lvO.length:Nat):Int)) |> fun lim=>G91 F54 F55 FUEL R 0 lim 0 [] 2 lvO lvA [] () ((0:Int),lvZ,lvZ,lvZ,()) (fun _ folds _ _=>k folds)=_
 have:(if ((lvA.length:Nat):Int)<((lvO.length:Nat):Int) then ((lvA.length:Nat):Int) else ((lvO.length:Nat):Int))=6:=rfl;rw [this];show G91 F54 F55 FUEL R 0 6 0 [] 2 lvO lvA [] () ((0:Int),lvZ,lvZ,lvZ,()) (fun _ folds _ _=>k folds)=_;rw [zmg,zwm R e (by decide),lvX,zwl R (show H32 lvZ from A1) zge]
theorem F9_eq (R:Type) (k:Bool→Option R):F9 R k=k true:=by
 have hz:cfgS lvC=true:=by decide
 have hd:decS (encS lvO)=lvO:=zlj lvO Vz Vy;have hl:(encS lvO).length≤100000:=by have:=To lvO Vz; have:lvO.length=6:=rfl; omega
 have e1:F26 R bV=fun k=>k (SHA bV):=funext fun k=>zwr R zge k
 have e2:F22 R lvO=fun k=>k (encS lvO) 0:=funext fun k=>F22_eq R Vz Vy (by decide) k
 have e3:F19 R lvC lvZ (encS lvO)=fun k=>k lv5 lvA 0:=funext fun k=>by
  rw [F19_eq R hz (show H32 lvZ from A1) (zkz Vz) hl (by rw [hd]; decide),hd];rw [show Lu (newS lvC lvZ) lvO=(lv5,lvA) from lvP]
 have e4:F13 R (encS lvO)=fun k=>k lvO:=funext fun k=>by rw [zcr R (zkz Vz) hl,hd]
 have e5:F29 R lvC lvZ lvO lvA=fun k=>k [((0:Int),lvZ,bV,lvD,())]:=funext fun k=>zoj R k
 have e6:F24 R lvZ 0 bV=fun k=>k lvD:=funext fun k=>F24_eq R A1 zge (by omega) k
 have e8:F27 R [(0:Int)] [(0:Int)]=fun k=>k true:=funext fun k=>by rw [zwq R _ _ (by decide)]; rfl
 have e9:Kd.eqv (.arr 32 (.int .u8)) lvD lvD=true:=(Ew zvg.1 zvg.1).trans (decide_eq_true rfl);unfold F9 p9;dsimp only;rw [e1];dsimp only;rw [e2];dsimp only;rw [e3];dsimp only;rw [e4];dsimp only;rw [e5];dsimp only;rw [show ((0:Int)==0)=true from rfl,show ((lvA.length:Int)==6)=true from rfl];dsimp only;rw [show bnd (4:Int) (lvA.length:Int)=true from rfl];dsimp only;rw [e6];dsimp only;rw [show (List.getD lvA 4 ((0:Int),(0:Int),([]:(List Int)),(List.replicate 32 (0:Int)),())).2.2.2.1=lvD from rfl,e9];dsimp only;rw [show bnd (5:Int) (lvA.length:Int)=true from rfl];dsimp only
 rw [show (List.getD lvA 5 ((0:Int),(0:Int),([]:(List Int)),(List.replicate 32 (0:Int)),())).2.2.1=[(0:Int)] from rfl,e8];dsimp only;rw [show ((([((0:Int),lvZ,bV,lvD,())]:List Tq37).length:Int)==1)=true from rfl];dsimp only;rw [show bnd (0:Int) (([((0:Int),lvZ,bV,lvD,())]:List Tq37).length:Int)=true from rfl];dsimp only;rw [show (List.getD ([((0:Int),lvZ,bV,lvD,())]:List Tq37) 0 ((0:Int),(List.replicate 32 (0:Int)),(List.replicate 32 (0:Int)),(List.replicate 32 (0:Int)),())).2.2.2.1=lvD from rfl,show Kd.eqv (.arr 32 (.int .u8)) lvD lv5.2.2.2.1.2.1=true from e9];rfl
end Go.PG
namespace Go.PG
theorem do_err (l:Led) (o:OpT):(doS l o).2.1=0∨((doS l o).1=l∧(doS l o).2=badS (doS l o).2.1):=by
 have hb:∀e:Int,(badS e).1=e:=fun _=>rfl
 have hm:∀r,(Cb l r).2.1=0∨((Cb l r).1=l∧(Cb l r).2=badS (Cb l r).2.1):=fun r=>by
  unfold Cb;split
  ·exact .inl rfl
  ·exact .inr ⟨rfl,rfl⟩
 have hs:∀r,(Eu l r).2.1=0∨((Eu l r).1=l∧(Eu l r).2=badS (Eu l r).2.1):=fun r=>by
  unfold Eu;split
  ·exact .inl rfl
  ·exact .inr ⟨rfl,rfl⟩
 have ha:(askS l o).1=0∨askS l o=badS (askS l o).1:=by
  unfold askS;split
  ·split
   ·exact .inl rfl
   ·exact .inr rfl
  ·split
   ·exact .inl rfl
   ·split
    ·exact .inr rfl
    ·split
     ·split
      ·exact .inr rfl
      ·split
       ·exact .inl rfl
       ·exact .inr rfl
     ·split
      ·split
       ·exact .inl rfl
       ·exact .inr rfl
      ·split
       ·exact .inl rfl
       ·exact .inr rfl
 unfold doS;split
 ·split
  ·exact hm _
  ·split
   ·exact hm _
   ·split
    ·exact hm _
    ·split
     ·split
      ·exact hs _
      ·exact .inr ⟨rfl,rfl⟩
     ·split
      ·split
       ·exact hs _
       ·exact .inr ⟨rfl,rfl⟩
      ·split
       ·unfold advS
        split
        ·split
         ·exact .inl rfl
         ·exact .inr ⟨rfl,rfl⟩
        ·exact .inl rfl
       ·rcases ha with ha | ha
        ·exact .inl ha
        ·exact .inr ⟨rfl,ha⟩
 ·exact .inr ⟨rfl,rfl⟩
section
variable {c:Cfg} {n:Nat} {l:Led}
end
end Go.PG
namespace Go.PG
theorem zga {o:OpT} (l:Led) (h:¬(doS l o).2.1=0):(doS l o).1=l:=((do_err l o).resolve_left h).1
end Go.PG
namespace Go.PG
section
variable {c:Cfg} {n:Nat} {l:Led}
theorem wd_tot {v:List Va} {w a:Int} (h0:(wdS v w a).2.2=0):totS (A3 (wdS v w a).1)=totS (A3 v) - a∧(wdS v w a).1.length=v.length:=by
 unfold wdS at h0 ⊢;split
 ·rename_i hc
  rw [if_pos hc] at h0;split
  ·rename_i h1
   rw [if_pos h1] at h0;have hi:w.toNat<v.length:=by omega
   split
   ·rename_i h2
    refine ⟨?_,Ir _ _ _⟩;rw [Gn hi];omega
   ·rename_i h2; rw [if_neg h2] at h0; cases h0
  ·rename_i h1; rw [if_neg h1] at h0; cases h0
 ·rename_i hc; rw [if_neg hc] at h0; cases h0
theorem sl_tot {v:List Va} {w a:Int} (h0:(slS v w a).2.2=0):totS (A3 (slS v w a).1)=totS (A3 v) - (slS v w a).2.1∧(slS v w a).1.length=v.length:=by
 unfold slS at h0 ⊢;split
 ·rename_i hc
  rw [if_pos hc] at h0;split
  ·rename_i h1
   have hi:w.toNat<v.length:=by omega
   refine ⟨?_,Ir _ _ _⟩;simp only [];rw [Gn hi];omega
  ·rename_i h1; rw [if_neg h1] at h0; cases h0
 ·rename_i hc; rw [if_neg hc] at h0; cases h0
end
end Go.PG
namespace Go.PG
section
variable {c:Cfg} {n:Nat} {l:Led}
theorem I8 {b:Bea} (h:B4 b=true):mixS b.2.2.2.1=b.2.2.1:=by
 unfold B4 at h;rw [Bool.and_eq_true] at h;exact of_decide_eq_true h.2
theorem zgj {b:Bea} {ph w:Int} {x:List Int} (h0:(Cj b ph w x).2=0):B4 b=true∧ph=1∧¬(w<0)∧Dq b.2.2.2.1=true∧Ck b.2.2.2.1 w=false∧(Cj b ph w x).1=(b.1,b.2.1,b.2.2.1,putL b.2.2.2.1 w x,()):=by
 unfold Cj at h0 ⊢;cases hb:B4 b with
 | false=>rw [hb,if_pos rfl] at h0; cases h0
 | true=>
  rw [hb,if_neg (by decide)] at h0;rw [if_neg (by decide)]
  by_cases h2:ph=1
  ·rw [if_pos h2] at h0 ⊢
   unfold Kk at h0 ⊢
   by_cases h3:(Ji b.2.2.2.1 w x).2=0
   ·rw [if_pos h3]
    unfold Ji at h3 ⊢
    by_cases h4:w<0∨Dq b.2.2.2.1=false
    ·rw [if_pos h4] at h3; cases h3
    ·rw [if_neg h4] at h3 ⊢
     cases h5:Ck b.2.2.2.1 w with
     | true=>rw [h5,if_pos rfl] at h3; cases h3
     | false=>
      rw [if_neg (by decide)];have hr:Dq b.2.2.2.1=true:=by
       cases hq:Dq b.2.2.2.1 with
       | true=>rfl
       | false=>exact absurd (.inr hq) h4
      refine ⟨rfl,h2,fun hh=>h4 (.inl hh),hr,rfl,?_⟩;have:mixS (putL b.2.2.2.1 w x)=b.2.2.1:=by unfold mixS; rw [Vm]; exact I8 hb
      simp only [this]
   ·rw [if_neg h3] at h0; exact absurd h0 h3
  ·rw [if_neg h2] at h0; cases h0
theorem zgg {b:Bea} (hB:Hr b) {ph w:Int} {v:List Int} (hv:H32 v) (h0:(Ch b ph w v).2=0):B4 b=true∧ph=2∧Ck b.2.2.2.1 w=true∧(b.2.2.2.1.getD (Aw b.2.2.2.1 w) zC).2.2.1=false∧SHA v=(b.2.2.2.1.getD (Aw b.2.2.2.1 w) zC).2.1∧
  (Ch b ph w v).1=(b.1,b.2.1,En [b.2.2.1,v],setL b.2.2.2.1 (Aw b.2.2.2.1 w) v,()):=by
 unfold Ch at h0 ⊢;cases hb:B4 b with
 | false=>rw [hb,if_pos rfl] at h0; cases h0
 | true=>
  rw [hb,if_neg (by decide)] at h0;rw [if_neg (by decide)]
  by_cases h2:ph=2
  ·rw [if_pos h2] at h0 ⊢
   unfold Kk at h0 ⊢
   by_cases h3:(revS b.2.2.2.1 w v).2=0
   ·rw [if_pos h3]
    unfold revS at h3 ⊢;cases h4:Dq b.2.2.2.1 with
    | false=>rw [h4,if_pos rfl] at h3; cases h3
    | true=>
     rw [h4,if_neg (by decide)] at h3;rw [if_neg (by decide)];cases h5:Ck b.2.2.2.1 w with
     | false=>rw [h5,if_pos rfl] at h3; cases h3
     | true=>
      rw [h5,if_neg (by decide)] at h3;rw [if_neg (by decide)];cases h6:(b.2.2.2.1.getD (Aw b.2.2.2.1 w) zC).2.2.1 with
      | true=>rw [h6,if_pos rfl] at h3; cases h3
      | false=>
       rw [h6,if_neg (by decide)] at h3;rw [if_neg (by decide)]
       by_cases h7:SHA v=(b.2.2.2.1.getD (Aw b.2.2.2.1 w) zC).2.1
       ·rw [if_pos h7]
        refine ⟨rfl,h2,rfl,rfl,h7,?_⟩;have:=zdb hB.cs (Od h5).1 h6 hv;rw [I8 hb] at this;simp only [this]
       ·rw [if_neg h7] at h3; cases h3
   ·rw [if_neg h3] at h0; exact absurd h0 h3
  ·rw [if_neg h2] at h0; cases h0
theorem bEnd_is {b:Bea} (h0:(bEnd b).2.2.2=0):B4 b=true∧b.1≠18446744073709551615∧(bEnd b).1=(b.1+1,Sw b.2.1 b.1 b.2.2.1,Ce,[],())∧(bEnd b).2.2.1=Cp b.2.2.2.1:=by
 unfold bEnd at h0 ⊢;cases hb:B4 b with
 | false=>rw [hb,if_pos rfl] at h0; cases h0
 | true=>
  rw [hb,if_neg (by decide)] at h0;rw [if_neg (by decide)]
  by_cases h1:b.1=18446744073709551615
  ·rw [if_pos h1] at h0; cases h0
  ·rw [if_neg h1]
   exact ⟨rfl,h1,rfl,rfl⟩
theorem Oe (l:Led) (r:Bea×Int):(Eu l r).2.1=r.2:=by
 unfold Eu;split
 ·rename_i h; rw [h]; rfl
 ·rfl
theorem zlh {l:Led} {o:OpT} (he:(doS l o).2.1=0):A6 o=true∧o.1≠0:=by
 by_cases hh:A6 o=true∧o.1≠0
 ·exact hh
 ·unfold doS at he; rw [if_neg hh] at he; cases he
theorem do_4 {l:Led} {o:OpT} (hm:A6 o=true∧o.1≠0) (h:o.1=4):doS l o=(if Cq l o.2.1=true then Eu l (Cj l.2.2.2.1 (phS l.1 l.2.1) o.2.1 o.2.2.2.1) else (l,badS 5)):=by
 unfold doS; rw [if_pos hm,if_neg (by omega),if_neg (by omega),if_neg (by omega),if_pos h]
theorem do_5 {l:Led} {o:OpT} (hm:A6 o=true∧o.1≠0) (h:o.1=5):doS l o=(if Cq l o.2.1=true then Eu l (Ch l.2.2.2.1 (phS l.1 l.2.1) o.2.1 o.2.2.2.1) else (l,badS 5)):=by
 unfold doS; rw [if_pos hm,if_neg (by omega),if_neg (by omega),if_neg (by omega),if_neg (by omega),if_pos h]
theorem do_6 {l:Led} {o:OpT} (hm:A6 o=true∧o.1≠0) (h:o.1=6):doS l o=advS l:=by
 unfold doS; rw [if_pos hm,if_neg (by omega),if_neg (by omega),if_neg (by omega),if_neg (by omega),if_neg (by omega),if_pos h]
theorem Wl {o:OpT} (h4:o.1=4) (he:(doS l o).2.1=0):Cq l o.2.1=true∧B4 l.2.2.2.1=true∧phS l.1 l.2.1=1∧Dq l.2.2.2.1.2.2.2.1=true∧Ck l.2.2.2.1.2.2.2.1 o.2.1=false∧
  (doS l o).1=(l.1,l.2.1,l.2.2.1,(l.2.2.2.1.1,l.2.2.2.1.2.1,l.2.2.2.1.2.2.1,putL l.2.2.2.1.2.2.2.1 o.2.1 o.2.2.2.1,()),l.2.2.2.2):=by
 have hm:=zlh he;rw [do_4 hm h4] at he ⊢;cases ht:Cq l o.2.1 with
 | false=>rw [ht,if_neg (by decide)] at he; cases he
 | true=>
  rw [ht,if_pos rfl,Oe] at he;rw [if_pos rfl];obtain ⟨q1,q2,_,q3,q4,q5⟩:=zgj he;refine ⟨rfl,q1,q2,q3,q4,?_⟩;unfold Eu;rw [if_pos he,q5]
theorem Wk (h:LOK c n l) {o:OpT} (ho:OpOK o) (h5:o.1=5) (he:(doS l o).2.1=0):Cq l o.2.1=true∧B4 l.2.2.2.1=true∧phS l.1 l.2.1=2∧Ck l.2.2.2.1.2.2.2.1 o.2.1=true∧(l.2.2.2.1.2.2.2.1.getD (Aw l.2.2.2.1.2.2.2.1 o.2.1) zC).2.2.1=false∧SHA o.2.2.2.1=(l.2.2.2.1.2.2.2.1.getD (Aw l.2.2.2.1.2.2.2.1 o.2.1) zC).2.1∧
  (doS l o).1=(l.1,l.2.1,l.2.2.1,(l.2.2.2.1.1,l.2.2.2.1.2.1,En [l.2.2.2.1.2.2.1,o.2.2.2.1],setL l.2.2.2.1.2.2.2.1 (Aw l.2.2.2.1.2.2.2.1 o.2.1) o.2.2.2.1,()),l.2.2.2.2):=by
 have hm:=zlh he;rw [do_5 hm h5] at he ⊢;cases ht:Cq l o.2.1 with
 | false=>rw [ht,if_neg (by decide)] at he; cases he
 | true=>
  rw [ht,if_pos rfl,Oe] at he;rw [if_pos rfl];obtain ⟨q1,q2,q3,q4,q5,q6⟩:=zgg h.bea ho.hash he;refine ⟨rfl,q1,q2,q3,q4,q5,?_⟩;unfold Eu;rw [if_pos he,q6]
theorem do_adv (h:LOK c n l) {o:OpT} (h6:o.1=6) (he:(doS l o).2.1=0):
  (l.2.1+1=c.1∧B4 l.2.2.2.1=true∧l.2.2.2.1.1≠18446744073709551615∧(doS l o).1.2.1=0∧(doS l o).1.2.2.1=actS l.2.2.1∧(doS l o).1.2.2.2.1=(l.2.2.2.1.1+1,Sw l.2.2.2.1.2.1 l.2.2.2.1.1 l.2.2.2.1.2.2.1,Ce,[],())∧(doS l o).1.2.2.2.2.2.1=Cp l.2.2.2.1.2.2.2.1∧(doS l o).2.2.2.1=Cp l.2.2.2.1.2.2.2.1)∨
  (l.2.1+1≠c.1∧(doS l o).1=(l.1,l.2.1+1,l.2.2)):=by
 have hm:=zlh he;rw [do_6 hm h6] at he ⊢;have hs:=h.slot;have hp:phS l.1 l.2.1≠0:=fun e=>S8.1 e ⟨by rw [h.cfg]; exact h.right,by rw [h.cfg]; exact hs⟩
 have hcf:l.1.1=c.1:=by rw [h.cfg]
 unfold advS at he ⊢
 by_cases h1:zky l.1 l.2.1=true
 ·rw [if_pos h1] at he ⊢
  have hl:=(of_decide_eq_true h1).2
  by_cases h2:(bEnd l.2.2.2.1).2.2.2=0
  ·rw [if_pos h2]
   obtain ⟨q1,q2,q3,q4⟩:=bEnd_is h2;have hn:Ky l.1 l.2.1=0:=by unfold Ky; rw [if_pos (.inr hl)]
   exact .inl ⟨by omega,q1,q2,hn,rfl,q3,q4,q4⟩
  ·rw [if_neg h2] at he; exact absurd he h2
 ·rw [if_neg h1]
  have hn:¬l.2.1=l.1.1 - 1:=fun e=>h1 (decide_eq_true ⟨hp,e⟩)
  have hx:Ky l.1 l.2.1=l.2.1+1:=by
   unfold Ky;rw [if_neg (fun hh=>hh.elim hp hn)]
  exact .inr ⟨by omega,by rw [hx]⟩
theorem do_else {o:OpT} (h4:o.1≠4) (h5:o.1≠5) (h6:o.1≠6):(doS l o).1.2.1=l.2.1∧(doS l o).1.2.2.2=l.2.2.2:=by
 have hmo:∀r,(Cb l r).1.2.1=l.2.1∧(Cb l r).1.2.2.2=l.2.2.2:=fun r=>by unfold Cb; split<;>exact ⟨rfl,rfl⟩
 unfold doS;split
 ·split
  ·exact hmo _
  ·split
   ·exact hmo _
   ·split
    ·exact hmo _
    ·exact ⟨rfl,rfl⟩
 ·exact ⟨rfl,rfl⟩
end
end Go.PG
namespace Go.PG
theorem Lt {l:List Cm}:G0 l↔(∀c∈l,Jg c=true)∧l.Pairwise (fun a b=>a.1<b.1):=by
 constructor
 ·intro h
  refine ⟨h.each,List.pairwise_iff_getElem.2 fun i j hi hj hij=>?_⟩;have:=h.ord i j hij hj;simpa [hi,hj] using this
 ·rintro ⟨h1,h2⟩
  refine ⟨h1,fun i j hij hj=>?_⟩;have hi:i<l.length:=by omega
  have:=List.pairwise_iff_getElem.1 h2 i j hi hj hij;simpa [hi,hj] using this
theorem zfk {l:List Cm} (h:G0 l) {w:Int} (hw:0≤w) (ht:Ck l w=false) (x:List Int):G0 (putL l w x):=by
 have hp:=Lt.1 h;have hlo:∀c∈l.take (Aw l w),c.1<w:=fun c hc=>by
  obtain ⟨i,hi,e⟩:=List.getElem_of_mem hc;rw [List.getElem_take] at e;rw [List.length_take] at hi;have h1:=S6 l w i (by omega);rw [←e];simpa [show i<l.length by omega] using h1
 have hhi:∀c∈l.drop (Aw l w),w<c.1:=fun c hc=>by
  obtain ⟨i,hi,e⟩:=List.getElem_of_mem hc;rw [List.getElem_drop] at e;rw [List.length_drop] at hi;have hlt:Aw l w+i<l.length:=by omega
  have h1:=O9 h w (i:=Aw l w+i) (by omega) hlt;have h0:(l.getD (Aw l w) zC).1≠w:=fun q=>by
   unfold Ck at ht;rw [decide_eq_true (show Aw l w<l.length by omega),decide_eq_true q] at ht;cases ht
  have h2:=O9 h w (i:=Aw l w) (by omega) (by omega);have h3:(l.getD (Aw l w) zC).1≤(l.getD (Aw l w+i) zC).1:=by
   by_cases e0:i=0
   ·subst e0; exact Int.le_refl _
   ·exact Int.le_of_lt (h.ord _ _ (by omega) hlt)
  rw [←e];have h4:(l.getD (Aw l w+i) zC)=l[Aw l w+i]:=by simp [hlt]
  rw [←h4];omega
 refine Lt.2 ⟨fun c hc=>?_,?_⟩
 ·unfold putL at hc
  rw [List.mem_append,List.mem_append,List.mem_singleton] at hc;rcases hc with (hc | hc) | hc
  ·exact h.each c (List.mem_of_mem_take hc)
  ·rw [hc]; exact zfi (by omega) x
  ·exact h.each c (List.mem_of_mem_drop hc)
 ·unfold putL
  rw [List.append_assoc,List.singleton_append,List.pairwise_append,List.pairwise_cons];refine ⟨hp.2.sublist (List.take_sublist _ _),⟨fun c hc=>hhi c hc,hp.2.sublist (List.drop_sublist _ _)⟩,fun a ha b hb=>?_⟩;rcases List.mem_cons.1 hb with e | hb
  ·rw [e]; exact hlo a ha
  ·have:=hlo a ha; have:=hhi b hb; omega
def keyC (c:Cm):Int×List Int×Bool:=(c.1,c.2.1,c.2.2.1)
structure Rv (l:Led) (n:Nat) (q:List Cm):Prop where
 br:B4 l.2.2.2.1=true
 ep:l.2.2.2.1.1≤n
 kn:(q.map keyC).Perm (l.2.2.2.1.2.2.2.1.map keyC)
 wh:∀x∈q,x.1<(l.2.2.1.length:Int)
theorem Ez {b:Bea} (h:B4 b=true):G0 b.2.2.2.1:=by
 unfold B4 at h;rw [Bool.and_eq_true] at h;exact D4.1 h.1
section
variable {c:Cfg} {n:Nat} {l:Led} {q:List Cm}
theorem Us {cs:List Cm} (h:G0 cs) (w:Int):Ck cs w=true↔∃y∈cs,y.1=w:=by
 constructor
 ·intro ht
  obtain ⟨h1,h2⟩:=Od ht;exact ⟨_,I3 h1,h2⟩
 ·rintro ⟨y,hy,e⟩
  obtain ⟨i,hi,e2⟩:=Og hy;have h0:Aw cs w≤i:=by
   rcases Nat.lt_or_ge i (Aw cs w) with hlt | hge
   ·have:=S6 cs w i hlt
    rw [e2,e] at this;omega
   ·exact hge
  have h1:=O9 h w (i:=Aw cs w) (Nat.le_refl _) (by omega);have h2:(cs.getD (Aw cs w) zC).1≤(cs.getD i zC).1:=by
   by_cases e0:Aw cs w=i
   ·rw [e0]; exact Int.le_refl _
   ·exact Int.le_of_lt (h.ord _ _ (by omega) hi)
  rw [e2,e] at h2;unfold Ck;rw [decide_eq_true (show Aw cs w<cs.length by omega),decide_eq_true (show (cs.getD (Aw cs w) zC).1=w by omega)];rfl
theorem one_at {cs:List Cm} (h:G0 cs) {y:Cm} (hy:y∈cs):cs.getD (Aw cs y.1) zC=y:=by
 have ht:=(Us h y.1).2 ⟨y,hy,rfl⟩;obtain ⟨h1,h2⟩:=Od ht;obtain ⟨i,hi,e2⟩:=Og hy;rcases Nat.lt_trichotomy (Aw cs y.1) i with hlt | heq | hgt
 ·have:=h.ord _ _ hlt hi
  rw [e2,h2] at this;omega
 ·rw [heq]; exact e2
 ·have:=h.ord _ _ hgt h1
  rw [e2,h2] at this;omega
theorem Rv.mem (h:Rv l n q) {k:Int×List Int×Bool}:(∃x∈q,keyC x=k)↔∃y∈l.2.2.2.1.2.2.2.1,keyC y=k:=by
 have:=h.kn.mem_iff (a:=k);simpa [List.mem_map] using this
theorem Rv.there (h:Rv l n q) (w:Int):Ck l.2.2.2.1.2.2.2.1 w=true↔∃x∈q,x.1=w:=by
 rw [Us (Ez h.br)];constructor
 ·rintro ⟨y,hy,e⟩
  obtain ⟨x,hx,e2⟩:=h.mem.2 ⟨y,hy,rfl⟩;exact ⟨x,hx,by have:=congrArg (fun k:Int×List Int×Bool=>k.1) e2; exact this.trans e⟩
 ·rintro ⟨x,hx,e⟩
  obtain ⟨y,hy,e2⟩:=h.mem.1 ⟨x,hx,rfl⟩;exact ⟨y,hy,by have:=congrArg (fun k:Int×List Int×Bool=>k.1) e2; exact this.trans e⟩
theorem Rv.key (h:Rv l n q) {x:Cm} (hx:x∈q):Ck l.2.2.2.1.2.2.2.1 x.1=true∧keyC (l.2.2.2.1.2.2.2.1.getD (Aw l.2.2.2.1.2.2.2.1 x.1) zC)=keyC x:=by
 refine ⟨(h.there x.1).2 ⟨x,hx,rfl⟩,?_⟩;obtain ⟨y,hy,e2⟩:=h.mem.1 ⟨x,hx,rfl⟩;have e3:y.1=x.1:=congrArg (fun k:Int×List Int×Bool=>k.1) e2;rw [←e3,one_at (Ez h.br) hy,e2]
theorem Rv.len (h:Rv l n q):q.length=l.2.2.2.1.2.2.2.1.length:=by
 have:=h.kn.length_eq;simpa using this
theorem Rv.ok (h:Rv l n q) (hb:Hr l.2.2.2.1) {x:Cm} (hx:x∈q):x.2.1.length=32:=by
 obtain ⟨y,hy,e2⟩:=h.mem.1 ⟨x,hx,rfl⟩;have e3:y.2.1=x.2.1:=congrArg (fun k:Int×List Int×Bool=>k.2.1) e2;rw [←e3];exact (hb.cs y hy).hash.1
theorem Up (b:Bea) (r:List Cm×Int):(Kk b r).2=r.2:=by
 unfold Kk;split
 ·rename_i h; exact h.symm
 ·rfl
theorem zgc (h:Rv l n q) {o:OpT} (hr:A6 o=true) (h4:o.1=4):(doS l o).2.1=0↔(o.2.1<(l.2.2.1.length:Int)∧phS l.1 l.2.1=1∧Ck l.2.2.2.1.2.2.2.1 o.2.1=false):=by
 have hw:0≤o.2.1:=by
  unfold A6 Kq at hr;rw [Bool.and_eq_true] at hr;exact (of_decide_eq_true hr.1).1
 constructor
 ·intro he
  obtain ⟨h1,_,h2,_,h3,_⟩:=Wl h4 he;exact ⟨(of_decide_eq_true h1).2,h2,h3⟩
 ·rintro ⟨h1,h2,h3⟩
  have ht:Cq l o.2.1=true:=decide_eq_true ⟨hw,h1⟩;have hs:Dq l.2.2.2.1.2.2.2.1=true:=D4.2 (Ez h.br);rw [do_4 ⟨hr,by omega⟩ h4,if_pos ht,Oe];unfold Cj;rw [h.br,if_neg (by decide),if_pos h2,Up];unfold Ji;have hno:¬(o.2.1<0∨Dq l.2.2.2.1.2.2.2.1=false):=fun hh=>hh.elim (fun q=>by omega) (fun q=>by rw [hs] at q; cases q)
  rw [if_neg hno,h3,if_neg (by decide)]
theorem zfj (h:Rv l n q) {o:OpT} (hr:A6 o=true) (ho:OpOK o) (hL:LOK c n l) (h5:o.1=5):(doS l o).2.1=0↔(o.2.1<(l.2.2.1.length:Int)∧phS l.1 l.2.1=2∧Ck l.2.2.2.1.2.2.2.1 o.2.1=true∧(l.2.2.2.1.2.2.2.1.getD (Aw l.2.2.2.1.2.2.2.1 o.2.1) zC).2.2.1=false∧
  SHA o.2.2.2.1=(l.2.2.2.1.2.2.2.1.getD (Aw l.2.2.2.1.2.2.2.1 o.2.1) zC).2.1):=by
 have hw:0≤o.2.1:=by
  unfold A6 Kq at hr;rw [Bool.and_eq_true] at hr;exact (of_decide_eq_true hr.1).1
 constructor
 ·intro he
  obtain ⟨h1,_,h2,h3,h4,h6,_⟩:=Wk hL ho h5 he;exact ⟨(of_decide_eq_true h1).2,h2,h3,h4,h6⟩
 ·rintro ⟨h1,h2,h3,h4,h6⟩
  have ht:Cq l o.2.1=true:=decide_eq_true ⟨hw,h1⟩;have hs:Dq l.2.2.2.1.2.2.2.1=true:=D4.2 (Ez h.br);rw [do_5 ⟨hr,by omega⟩ h5,if_pos ht,Oe];unfold Ch;rw [h.br,if_neg (by decide),if_pos h2,Up];unfold revS;rw [hs,if_neg (by decide),h3,if_neg (by decide),h4,if_neg (by decide),if_pos h6]
theorem adv_acc (h:Rv l n q) (hn:n≤100) {o:OpT} (hr:A6 o=true) (h6:o.1=6):(doS l o).2.1=0:=by
 rw [do_6 ⟨hr,by omega⟩ h6];unfold advS;split
 ·have he:(bEnd l.2.2.2.1).2.2.2=0:=by
   have:=h.ep;unfold bEnd;rw [h.br,if_neg (by decide),if_neg (by omega)]
  rw [if_pos he]
 ·rfl
theorem do_vlen (l:Led) (o:OpT):l.2.2.1.length≤(doS l o).1.2.2.1.length:=by
 have hm:∀r:List Va×Int×Int,(r.2.2=0→l.2.2.1.length≤r.1.length)→l.2.2.1.length≤(Cb l r).1.2.2.1.length:=fun r hr=>by
  unfold Cb;split
  ·rename_i h0; exact hr h0
  ·exact Nat.le_refl _
 have hs:∀r,l.2.2.1.length≤(Eu l r).1.2.2.1.length:=fun r=>by
  unfold Eu;split<;>exact Nat.le_refl _
 unfold doS;split
 ·split
  ·refine hm _ fun h0=>?_
   revert h0
   unfold depS;split
   ·split
    ·split
     ·intro h0; cases h0
     ·split
      ·intro _; simp
      ·intro h0; cases h0
    ·split
     ·intro _; rw [Ir]; exact Nat.le_refl _
     ·intro h0; cases h0
   ·intro h0; cases h0
  ·split
   ·exact hm _ fun h0=>by rw [(wd_tot h0).2]; exact Nat.le_refl _
   ·split
    ·exact hm _ fun h0=>by rw [(sl_tot h0).2]; exact Nat.le_refl _
    ·split
     ·split
      ·exact hs _
      ·exact Nat.le_refl _
     ·split
      ·split
       ·exact hs _
       ·exact Nat.le_refl _
      ·split
       ·unfold advS
        split
        ·split
         ·show l.2.2.1.length≤(actS l.2.2.1).length
          rw [Jb]; exact Nat.le_refl _
         ·exact Nat.le_refl _
        ·exact Nat.le_refl _
       ·exact Nat.le_refl _
 ·exact Nat.le_refl _
theorem Rv.same (h:Rv l n q) {m:Led} (hb:m.2.2.2.1=l.2.2.2.1) (hv:l.2.2.1.length≤m.2.2.1.length):Rv m (n+1) q:=by
 refine ⟨by rw [hb]; exact h.br,by rw [hb]; have:=h.ep; omega,by rw [hb]; exact h.kn,fun x hx=>?_⟩;have:=h.wh x hx;omega
theorem Rv.commit (h:Rv l n q) {o:OpT} (hr:A6 o=true) (h4:o.1=4) (he:(doS l o).2.1=0):Rv (doS l o).1 (n+1) (q++[newC o.2.1 o.2.2.2.1]):=by
 have hw:0≤o.2.1:=by
  unfold A6 Kq at hr;rw [Bool.and_eq_true] at hr;exact (of_decide_eq_true hr.1).1
 obtain ⟨h1,_,_,_,h3,e⟩:=Wl h4 he;have hlt:=(of_decide_eq_true h1).2;rw [e];refine ⟨?_,?_,?_,fun x hx=>?_⟩
 ·unfold B4
  rw [Bool.and_eq_true];exact ⟨D4.2 (zfk (Ez h.br) hw h3 _),decide_eq_true (by show mixS (putL _ _ _)=_; rw [zq7]; exact I8 h.br)⟩
 ·have:=h.ep
  show l.2.2.2.1.1≤((n+1:Nat):Int);omega
 ·show ((q++[newC o.2.1 o.2.2.2.1]).map keyC).Perm ((putL l.2.2.2.1.2.2.2.1 o.2.1 o.2.2.2.1).map keyC)
  unfold putL;rw [List.map_append,List.map_append,List.map_append,List.append_assoc];have h5:(l.2.2.2.1.2.2.2.1.map keyC)=(l.2.2.2.1.2.2.2.1.take (Aw l.2.2.2.1.2.2.2.1 o.2.1)).map keyC++(l.2.2.2.1.2.2.2.1.drop (Aw l.2.2.2.1.2.2.2.1 o.2.1)).map keyC:=by
   rw [←List.map_append,List.take_append_drop]
  have h6:=h.kn;rw [h5] at h6;exact (List.perm_append_comm.trans ((h6.append_left _))).trans (by
   rw [←List.append_assoc,←List.append_assoc];exact List.perm_append_comm.append_right _)
 ·rcases List.mem_append.1 hx with hx | hx
  ·exact h.wh x hx
  ·rw [List.mem_singleton] at hx
   rw [hx];exact hlt
theorem Rv.reveal (h:Rv l n q) (hL:LOK c n l) {o:OpT} (ho:OpOK o) (h5:o.1=5) (he:(doS l o).2.1=0) {j:Nat} (hj:j<q.length) (hjw:(q.getD j zC).1=o.2.1) (y:List Int):
  Rv (doS l o).1 (n+1) (q.set j ((q.getD j zC).1,(q.getD j zC).2.1,true,y,())):=by
 obtain ⟨h1,_,_,h3,h4,h6,e⟩:=Wk hL ho h5 he;obtain ⟨hp,hpw⟩:=Od h3;have hx:q.getD j zC∈q:=I3 hj;have hk:=(h.key hx).2;rw [hjw] at hk;rw [e];refine ⟨?_,?_,?_,fun x hx'=>?_⟩
 ·unfold B4
  rw [Bool.and_eq_true];refine ⟨D4.2 (zfd (Ez h.br) hp h6),decide_eq_true ?_⟩;show mixS (setL _ _ _)=_
  rw [zdb hL.bea.cs hp h4 ho.hash,I8 h.br]
 ·have:=h.ep
  show l.2.2.2.1.1≤((n+1:Nat):Int);omega
 ·show ((q.set j _).map keyC).Perm ((setL l.2.2.2.1.2.2.2.1 (Aw l.2.2.2.1.2.2.2.1 o.2.1) o.2.2.2.1).map keyC)
  have e1:q=q.take j++q.getD j zC::q.drop (j+1):=Sr hj;have e2:=Sr hp;have h7:=h.kn;rw [show q.map keyC=(q.take j).map keyC++keyC (q.getD j zC)::(q.drop (j+1)).map keyC by rw [←List.map_cons,←List.map_append,←e1]] at h7;rw [show l.2.2.2.1.2.2.2.1.map keyC=(l.2.2.2.1.2.2.2.1.take (Aw l.2.2.2.1.2.2.2.1 o.2.1)).map keyC++keyC (l.2.2.2.1.2.2.2.1.getD (Aw l.2.2.2.1.2.2.2.1 o.2.1) zC)::(l.2.2.2.1.2.2.2.1.drop (Aw l.2.2.2.1.2.2.2.1 o.2.1+1)).map keyC by rw [←List.map_cons,←List.map_append,←e2],hk] at h7;have h8:=(List.perm_middle.symm.trans (h7.trans List.perm_middle)).cons_inv
  have h9:q.set j ((q.getD j zC).1,(q.getD j zC).2.1,true,y,())=q.take j++((q.getD j zC).1,(q.getD j zC).2.1,true,y,())::q.drop (j+1):=by
   rw [List.set_eq_take_append_cons_drop,if_pos hj]
  rw [h9,Q9 hp,List.map_append,List.map_append,List.map_cons,List.map_cons];have k1:keyC ((q.getD j zC).1,(q.getD j zC).2.1,true,y,())=keyC ((l.2.2.2.1.2.2.2.1.getD (Aw l.2.2.2.1.2.2.2.1 o.2.1) zC).1,(l.2.2.2.1.2.2.2.1.getD (Aw l.2.2.2.1.2.2.2.1 o.2.1) zC).2.1,true,o.2.2.2.1,()):=by
   have q1:(q.getD j zC).1=(l.2.2.2.1.2.2.2.1.getD (Aw l.2.2.2.1.2.2.2.1 o.2.1) zC).1:=(congrArg (fun k:Int×List Int×Bool=>k.1) hk).symm;have q2:(q.getD j zC).2.1=(l.2.2.2.1.2.2.2.1.getD (Aw l.2.2.2.1.2.2.2.1 o.2.1) zC).2.1:=(congrArg (fun k:Int×List Int×Bool=>k.2.1) hk).symm;unfold keyC;rw [q1,q2]
  rw [k1];exact List.perm_middle.trans ((h8.cons _).trans List.perm_middle.symm)
 ·rcases List.mem_or_eq_of_mem_set hx' with hx' | hx'
  ·exact h.wh x hx'
  ·rw [hx']
   show (q.getD j zC).1<_;exact h.wh _ hx
theorem Rv.end (h:Rv l n q) {m:Led} {s:List Int} (e:m.2.2.2.1=(l.2.2.2.1.1+1,s,Ce,[],())):Rv m (n+1) []:=by
 have:=h.ep;refine ⟨?_,?_,?_,fun x hx=>by cases hx⟩
 ·rw [e]; unfold B4; rw [Bool.and_eq_true]; exact ⟨rfl,decide_eq_true (by rfl)⟩
 ·rw [e]; show l.2.2.2.1.1+1≤((n+1:Nat):Int); omega
 ·rw [e]
theorem Jn:∀{L:List Int},L.Pairwise (·<·)→∀k:Int,L.filter (fun x=>decide (x<k+1))=L.filter (fun x=>decide (x<k))++L.filter (fun x=>decide (x=k))
 | [],_,k=>rfl
 | x::L,h,k=>by
  rw [List.pairwise_cons] at h;have ih:=Jn h.2 k;rw [List.filter_cons,List.filter_cons,List.filter_cons]
  by_cases h1:x<k
  ·rw [decide_eq_true (show x<k+1 by omega),decide_eq_true h1,decide_eq_false (show ¬x=k by omega),ih]
   rfl
  ·have e0:L.filter (fun x=>decide (x<k))=[]:=List.filter_eq_nil_iff.2 fun y hy=>by
    have:=h.1 y hy;rw [decide_eq_false (by omega)];exact Bool.false_ne_true
   rw [e0] at ih ⊢;rw [decide_eq_false h1]
   by_cases h2:x=k
   ·rw [decide_eq_true h2,decide_eq_true (show x<k+1 by omega),ih]
    rfl
   ·rw [decide_eq_false h2,decide_eq_false (show ¬x<k+1 by omega),ih]
    rfl
theorem zi9 {cs:List Cm} (h:G0 cs):(Cp cs).Pairwise (·<·):=by
 unfold Cp;exact List.pairwise_map.2 ((Lt.1 h).2.sublist List.filter_sublist)
theorem zdv (cs:List Cm):Cp cs=((cs.map keyC).filter (fun k=> !k.2.2)).map (fun k=>k.1):=by
 unfold Cp;rw [List.filter_map,List.map_map];rfl
theorem zrq (h:Rv l n q) (k:Int):(Cp q).filter (fun x=>decide (x=k))=(Cp l.2.2.2.1.2.2.2.1).filter (fun x=>decide (x=k)):=by
 have hp:(Cp q).Perm (Cp l.2.2.2.1.2.2.2.1):=by
  rw [zdv,zdv];exact (h.kn.filter _).map _
 have e:(fun x:Int=>decide (x=k))=fun x=>x==k:=funext fun x=>by
  by_cases hx:x=k
  ·subst hx; simp
  ·simp [hx]
 rw [e,List.filter_beq,List.filter_beq,hp.count_eq]
theorem zrr (h:Rv l n q):(Cp l.2.2.2.1.2.2.2.1).filter (fun x=>decide (x<(l.2.2.1.length:Int)))=Cp l.2.2.2.1.2.2.2.1:=by
 refine List.filter_eq_self.2 fun x hx=>?_
 obtain ⟨y,hy,e⟩:=List.mem_map.1 hx;obtain ⟨z,hz,e2⟩:=h.mem.2 ⟨y,(List.mem_filter.1 hy).1,rfl⟩;have e3:z.1=y.1:=congrArg (fun k:Int×List Int×Bool=>k.1) e2;have:=h.wh z hz;exact decide_eq_true (by omega)
theorem zja (h:Rv l n q):(Cp l.2.2.2.1.2.2.2.1).filter (fun x=>decide (x<0))=[]:=by
 refine List.filter_eq_nil_iff.2 fun x hx=>?_
 obtain ⟨y,hy,e⟩:=List.mem_map.1 hx;have:=(Ez h.br).each y (List.mem_filter.1 hy).1;unfold Jg at this;rw [Bool.and_eq_true] at this;have h0:=of_decide_eq_true this.1;rw [decide_eq_false (by omega)];exact Bool.false_ne_true
end
end Go.PG
namespace Go.PG
def atQ (q:List Cm) (w:Int):Nat→Int
 | 0=> -1
 | i+1=>if (q.getD i zC).1=w then (i:Int) else atQ q w i
theorem Tu (q:List Cm) (w:Int):∀i:Nat,(atQ q w i= -1∧∀j:Nat,j<i→(q.getD j zC).1≠w)∨(∃j:Nat,j<i∧atQ q w i=(j:Int)∧(q.getD j zC).1=w)
 | 0=>.inl ⟨rfl,fun j hj=>by omega⟩
 | i+1=>by
  by_cases e:(q.getD i zC).1=w
  ·exact .inr ⟨i,by omega,by simp only [atQ,if_pos e],e⟩
  ·rcases Tu q w i with ⟨h1,h2⟩ | ⟨j,h1,h2,h3⟩
   ·refine .inl ⟨by simp only [atQ,if_neg e,h1],fun j hj=>?_⟩
    by_cases e2:j=i
    ·rw [e2]; exact e
    ·exact h2 j (by omega)
   ·exact .inr ⟨j,by omega,by simp only [atQ,if_neg e,h2],h3⟩
theorem E7 {a b:Int} (h:a=b):(a==b)=true:=by rw [h]; exact beq_self_eq_true b
theorem zet (R:Type) {q:List Cm} (hn:q.length≤1000) (x1:List OpT) (x2 x3 x4:Int) (x7:Cfg) (x8:Led) (o:OpT) (x11:Led) (x12:An) (k0:List OpT→Int→Int→Int→Int→Cfg→Led→List Cm→OpT→Led→An→Option R):∀(f i:Nat),i≤q.length→q.length - i<f→
  Q3 f R x1 x2 x3 x4 (atQ q o.2.1 i) (i:Int) x7 x8 q o x11 x12 k0=k0 x1 x2 x3 x4 (atQ q o.2.1 q.length) x7 x8 q o x11 x12
 | 0,i,_,h=>by omega
 | f+1,i,h1,h2=>by
  simp only [Q3,zy0]
  by_cases hi:i<q.length
  ·have ih:=zet R hn x1 x2 x3 x4 x7 x8 o x11 x12 k0 f (i+1) (by omega) (by omega)
   simp only [C4 hi,A5 hi,Int.toNat_natCast,Bv hi hn]
   by_cases e:(q.getD i zC).1=o.2.1
   ·simp only [atQ,if_pos e] at ih
    simp only [E7 e];exact ih
   ·simp only [atQ,if_neg e] at ih
    simp only [Ar e];exact ih
  ·have:i=q.length:=by omega
   subst this;simp only [Co]
theorem Om (R:Type) {q:List Cm} (hn:q.length≤1000) (x1:List OpT) (x2 x3 w:Int) (x6:Cfg) (x7:Led) (x9:Led) (x10:An) (k0:List OpT→Int→Int→Int→Cfg→Led→List Cm→Led→An→List Int→Option R):∀(f i:Nat) (acc:List Int),i≤q.length→q.length - i<f→acc.length+(q.length - i)≤1000000→
  Q2 f R x1 x2 x3 w (i:Int) x6 x7 q x9 x10 acc k0=k0 x1 x2 x3 w x6 x7 q x9 x10 (acc++(Cp (q.drop i)).filter (fun x=>decide (x=w)))
 | 0,i,acc,_,h,_=>by omega
 | f+1,i,acc,h1,h2,ha=>by
  simp only [Q2,zyy]
  by_cases hi:i<q.length
  ·have e0:q.getD i zC=q[i]:=by simp [hi]
   have e1:q.drop i=q.getD i zC::q.drop (i+1):=by rw [e0]; exact List.drop_eq_getElem_cons hi
   rw [e1,Ri];simp only [C4 hi,A5 hi,Int.toNat_natCast,Bv hi hn]
   by_cases e:(q.getD i zC).1=w
   ·simp only [E7 e]
    cases hd:(q.getD i zC).2.2.1 with
    | true=>
     have ih:=Om R hn x1 x2 x3 w x6 x7 x9 x10 k0 f (i+1) acc (by omega) (by omega) (by omega);simp only [Bool.not_true];exact ih
    | false=>
     have ih:=Om R hn x1 x2 x3 w x6 x7 x9 x10 k0 f (i+1) (acc++[w]) (by omega) (by omega) (by rw [List.length_append]; show acc.length+1+_≤_; omega);have c1:decide (acc.length+[w].length≤17592186044416)=true:=decide_eq_true (by show acc.length+1≤_; omega);simp only [Bool.not_false,c1,List.filter_cons,decide_eq_true e];rw [ih,List.append_assoc,e];rfl
   ·have ih:=Om R hn x1 x2 x3 w x6 x7 x9 x10 k0 f (i+1) acc (by omega) (by omega) (by omega)
    simp only [Ar e];cases hd:(q.getD i zC).2.2.1 with
    | true=>exact ih
    | false=>
     simp only [List.filter_cons,decide_eq_false e];exact ih
  ·have:i=q.length:=by omega
   subst this;have e:Cp ([]:List Cm)=[]:=rfl;simp only [Co,List.drop_length,e,List.filter_nil,List.append_nil]
theorem zth {L:List Int} {p:Int→Bool} {n:Nat} (h:L.length≤n):(L.filter p).length≤n:=Nat.le_trans (List.length_filter_le _ _) h
theorem zes (R:Type) {q:List Cm} (hn:q.length≤1000) {L:List Int} (hL:L.Pairwise (·<·)) (hl:L.length≤1000) (hone:∀k:Int,(Cp q).filter (fun x=>decide (x=k))=L.filter (fun x=>decide (x=k))) {vals:Nat} (hv:vals≤1000)
  (x1:List OpT) (x2:Int) (x5:Cfg) (x6:Led) (x8:Led) (x9:An) (k0:List OpT→Int→Cfg→Led→Led→An→List Int→Option R):∀(f w:Nat),w≤vals→vals - w<f→
  P9 f R x1 x2 (vals:Int) (w:Int) x5 x6 q x8 x9 (L.filter (fun x=>decide (x<(w:Int)))) k0=k0 x1 x2 x5 x6 x8 x9 (L.filter (fun x=>decide (x<(vals:Int))))
 | 0,w,_,h=>by omega
 | f+1,w,h1,h2=>by
  simp only [P9,zyz]
  by_cases hi:w<vals
  ·have ih:=zes R hn hL hl hone hv x1 x2 x5 x6 x8 x9 k0 f (w+1) (by omega) (by omega)
   have h39:=Om R hn x1 x2 (vals:Int) (w:Int) x5 x6 x8 x9 (fun x12 x13 x14 x15 x16 x17 x18 x19 x20 x21=>P9 f R x12 x13 x14 (IntKind.i64.wrap (x15+1)) x16 x17 x18 x19 x20 x21 k0) FUEL 0 (L.filter (fun x=>decide (x<(w:Int)))) (by omega) (by rw [Al]; omega) (by have:=zth (p:=fun x=>decide (x<(w:Int))) hl; omega);simp only [C4 hi];refine h39.trans ?_;rw [List.drop_zero,hone,←Jn hL,Bv hi hv];exact ih
  ·have:w=vals:=by omega
   subst this;simp only [Co]
section
variable {c:Cfg} {n:Nat} {l:Led} {q:List Cm}
theorem Rv.at_lt (h:Rv l n q) (w:Int):atQ q w q.length<0↔Ck l.2.2.2.1.2.2.2.1 w=false:=by
 rcases Tu q w q.length with ⟨h1,h2⟩ | ⟨j,h1,h2,h3⟩
 ·refine ⟨fun _=>?_,fun _=>by omega⟩
  cases ht:Ck l.2.2.2.1.2.2.2.1 w with
  | false=>rfl
  | true=>
   obtain ⟨x,hx,e⟩:=(h.there w).1 ht;obtain ⟨i,hi,e2⟩:=Og hx;exact absurd (by rw [e2]; exact e) (h2 i hi)
 ·refine ⟨fun hh=>by omega,fun hh=>?_⟩
  rw [(h.there w).2 ⟨_,I3 h1,h3⟩] at hh;cases hh
theorem G7_eq (R:Type) {ops:List OpT} (ho:∀o∈ops,OpOK o) (hk:∀o∈ops,o.1≠0→A6 o=true) (hL:ops.length≤60) (k0:Bool→Option R) (k1:Option R):∀(f i:Nat) {n:Nat} (l:Led) (q:List Cm),LOK c n l→Rv l n q→n+(ops.length - i)≤99→i≤ops.length→ops.length - i<f→
  Qa f R ops (i:Int) c l q k0 k1=k1
 | 0,i,n,l,q,_,_,_,_,h=>by omega
 | f+1,i,n,l,q,h,hq,hn,h1,h2=>by
  simp only [Qa,zy1]
  by_cases hi:i<ops.length
  ·have hoi:=ho _ (List.getElem_mem hi)
   have hki:=hk _ (List.getElem_mem hi);have h':=do_ok h (by omega) hoi;have ihs:∀q',Rv (doS l ops[i]).1 (n+1) q'→Qa f R ops ((i+1:Nat):Int) c (doS l ops[i]).1 q' k0 k1=k1:=fun q' hq'=>G7_eq R ho hk hL k0 k1 f (i+1) (n:=n+1) (doS l ops[i]).1 q' h' hq' (by omega) (by omega) (by omega)
   have hql:q.length≤1000:=by have:=hq.len; have:=h.blen; omega
   have hph:phS c l.2.1=phS l.1 l.2.1:=by rw [h.cfg]
   have hst:IntKind.i64.wrap ((i:Int)+1)=((i+1:Nat):Int):=Bv hi (show ops.length≤1000 by omega);have c1:∀x:Cm,decide (q.length+[x].length≤1759218604441)=true:=fun x=>decide_eq_true (by show q.length+1≤_; omega)
   have e18:=fun (o:OpT) (x11:Led) (x12:An) k=>zet R hql ops (i:Int) (phS l.1 l.2.1) (l.2.2.1.length:Int) c l o x11 x12 k FUEL 0 (by omega) (by rw [Al]; omega)
   simp only [atQ,Int.ofNat_zero] at e18;have e18':=e18 ops[i] (doS l ops[i]).1 (doS l ops[i]).2;have hat:=hq.at_lt ops[i].2.1;have hsp:=Tu q ops[i].2.1 q.length;simp only [C4 hi,A5 hi,Int.toNat_natCast,zak hi,F25_eq,hph,zwt R h (show n≤100 by omega) hoi];refine (e18' _).trans ?_;clear e18 e18';generalize hA:atQ q ops[i].2.1 q.length=at' at hat hsp ⊢;generalize hO:ops[i]=o at hoi hki h' ihs hat hsp ⊢
   by_cases k4:o.1=4
   ·have hr:=hki (by omega)
    have hci:=zgc hq hr k4;simp only [E7 k4,Ar (show o.1≠5 by omega),Ar (show o.1≠6 by omega)]
    by_cases he:(doS l o).2.1=0
    ·obtain ⟨a1,a2,a3⟩:=hci.1 he
     simp only [E7 he,decide_eq_true a1,E7 a2,decide_eq_true (hat.2 a3),beq_self_eq_true,Bool.not_true,c1,hst];exact ihs _ (hq.commit hr k4 he)
    ·have hid:=ihs q (by rw [zga l he]; exact hq.same rfl (Nat.le_refl _))
     by_cases a1:o.2.1<(l.2.2.1.length:Int)
     ·by_cases a2:phS l.1 l.2.1=1
      ·have a3:¬at'<0:=fun hh=>he (hci.2 ⟨a1,a2,hat.1 hh⟩)
       simp only [Ar he,decide_eq_true a1,E7 a2,decide_eq_false a3,beq_self_eq_true,Bool.not_true,hst];exact hid
      ·simp only [Ar he,decide_eq_true a1,Ar a2,beq_self_eq_true,Bool.not_true,hst]
       exact hid
     ·simp only [Ar he,decide_eq_false a1,beq_self_eq_true,Bool.not_true,hst]
      exact hid
   ·by_cases k5:o.1=5
    ·have hr:=hki (by omega)
     have hci:=zfj hq hr hoi h k5;simp only [Ar k4,E7 k5,Ar (show o.1≠6 by omega),zwr R hoi.hash]
     by_cases a1:o.2.1<(l.2.2.1.length:Int)
     ·by_cases a2:phS l.1 l.2.1=2
      ·rcases hsp with ⟨b1,_⟩ | ⟨j,hj,b2,b3⟩
       ·have he:(doS l o).2.1≠0:=fun hh=>by
         have:=(hci.1 hh).2.2.1;rw [hat.1 (by omega)] at this;cases this
        have hid:=ihs q (by rw [zga l he]; exact hq.same rfl (Nat.le_refl _));simp only [Ar he,decide_eq_true a1,E7 a2,decide_eq_false (show ¬at'≥0 by omega),beq_self_eq_true,Bool.not_true,hst];exact hid
       ·have hge:(j:Int)≥0:=by omega
        have hmx:(if (0:Int)>(j:Int) then (0:Int) else (j:Int))=(j:Int):=by rw [if_neg (by omega)]
        have hx:=I3 hj;obtain ⟨t1,t2⟩:=hq.key hx;rw [b3] at t1 t2;have d1:(l.2.2.2.1.2.2.2.1.getD (Aw l.2.2.2.1.2.2.2.1 o.2.1) zC).2.2.1=(q.getD j zC).2.2.1:=congrArg (fun k:Int×List Int×Bool=>k.2.2) t2;have d2:(l.2.2.2.1.2.2.2.1.getD (Aw l.2.2.2.1.2.2.2.1 o.2.1) zC).2.1=(q.getD j zC).2.1:=congrArg (fun k:Int×List Int×Bool=>k.2.1) t2;rw [d1,d2] at hci;simp only [decide_eq_true a1,E7 a2,decide_eq_true hge,hmx,b2,A5 hj,Int.toNat_natCast];cases hd:(q.getD j zC).2.2.1 with
        | true=>
         have he:(doS l o).2.1≠0:=fun hh=>by
          have:=(hci.1 hh).2.2.2.1;rw [hd] at this;cases this
         have hid:=ihs q (by rw [zga l he]; exact hq.same rfl (Nat.le_refl _));simp only [Ar he,beq_self_eq_true,Bool.not_true,hst];exact hid
        | false=>
         have e32:Kd.eqv (.arr 32 (.int .u8)) (SHA o.2.2.2.1) (q.getD j zC).2.1=decide (SHA o.2.2.2.1=(q.getD j zC).2.1):=Ew (Yn _) (hq.ok h.bea hx)
         by_cases a6:SHA o.2.2.2.1=(q.getD j zC).2.1
         ·have he:(doS l o).2.1=0:=hci.2 ⟨a1,a2,t1,hd,a6⟩
          simp only [E7 he,e32,decide_eq_true a6,beq_self_eq_true,Bool.not_true,Bool.not_false,hst];exact ihs _ (hq.reveal h hoi k5 he hj b3 _)
         ·have he:(doS l o).2.1≠0:=fun hh=>a6 (hci.1 hh).2.2.2.2
          have hid:=ihs q (by rw [zga l he]; exact hq.same rfl (Nat.le_refl _));simp only [Ar he,e32,decide_eq_false a6,beq_self_eq_true,Bool.not_true,Bool.not_false,hst];exact hid
      ·have he:(doS l o).2.1≠0:=fun hh=>a2 (hci.1 hh).2.1
       have hid:=ihs q (by rw [zga l he]; exact hq.same rfl (Nat.le_refl _));simp only [Ar he,decide_eq_true a1,Ar a2,beq_self_eq_true,Bool.not_true,hst];exact hid
     ·have he:(doS l o).2.1≠0:=fun hh=>a1 (hci.1 hh).1
      have hid:=ihs q (by rw [zga l he]; exact hq.same rfl (Nat.le_refl _));simp only [Ar he,decide_eq_false a1,beq_self_eq_true,Bool.not_true,hst];exact hid
    ·by_cases k6:o.1=6
     ·have hr:=hki (by omega)
      have he:=adv_acc hq (by omega) hr k6;simp only [Ar k4,Ar k5,E7 k6];have hs:=h.slot;rcases do_adv h k6 he with ⟨_,_,_,q3,_,q6,q7,q8⟩ | ⟨_,q2⟩
      ·have hvl:=h.vlen
       have hbl:=h.blen;have hml:(Cp l.2.2.2.1.2.2.2.1).length≤1000:=by have:=Td l.2.2.2.1.2.2.2.1; omega
       have e36:=fun k=>zes R hql (zi9 (Ez hq.br)) hml (zrq hq) (vals:=l.2.2.1.length) (by omega) ops (i:Int) c l (doS l o).1 (doS l o).2 k FUEL 0 (by omega) (by rw [Al]; omega)
       simp only [Int.ofNat_zero,zja hq,zrr hq] at e36;simp only [E7 q3];refine (e36 _).trans ?_;simp only [q7,q8,zwq R _ _ (show (Cp l.2.2.2.1.2.2.2.1).length≤1000000 by omega),decide_true,Bool.not_true,hst];exact ihs [] (Rv.end hq q6)
      ·have e1:(doS l o).1.2.1≠0:=by rw [q2]; show l.2.1+1≠0; omega
       simp only [Ar e1,hst];refine ihs q ?_;rw [q2];exact hq.same rfl (Nat.le_refl _)
     ·simp only [Ar k4,Ar k5,Ar k6,hst]
      obtain ⟨_,q2⟩:=do_else (l:=l) k4 k5 k6;exact ihs q (hq.same (congrArg Prod.fst q2) (do_vlen l o))
  ·have:i=ops.length:=by omega
   subst this;simp only [Co]
end
theorem F7_eq' (R:Type) {a:List Int} (ha:AllU8 a) {s:List Int} (hs:H32 s) {b:List Int} (hb:AllU8 b) (k:Bool→Option R):F7 R a s b k=k true:=by
 simp only [F7,p7,F9_eq,Bool.not_true,F10_eq R hb]
 by_cases h1:b.length≤1500
 ·by_cases h2:(decS b).length≤60
  ·rw [decide_eq_true h1,decide_eq_true h2]
   have hc:=zun a;simp only [Bool.true_and,Bool.not_true,F12_eq R ha,zwu,hc.1,if_true,zcr R hb (show b.length≤100000 by omega)];have hq:Rv (newS (zas a) s) 0 []:=⟨by unfold B4; rw [Bool.and_eq_true]; exact ⟨rfl,decide_eq_true (by rfl)⟩,Int.le_refl _,List.Perm.refl _,fun x hx=>by cases hx⟩
   exact G7_eq R (zlk hb) (zll hb) h2 (fun x8=>k x8) (k true) FUEL 0 (n:=0) _ [] (zvf hc.1 hs) hq (by omega) (by omega) (by rw [Al]; omega)
  ·rw [decide_eq_false h2,Bool.and_false]
   rfl
 ·rw [decide_eq_false h1]
  rfl
end Go.PG
end
