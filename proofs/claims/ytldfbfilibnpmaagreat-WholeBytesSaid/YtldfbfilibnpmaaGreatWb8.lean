/- A part of the proof over this seat (own work; the framework that reads a Go function as a pure one, or a use of it). No condition of its own. -/
import Derived.Test.YtldfbfilibnpmaaGreatWb7
import Derived.KernelRfl
set_option linter.unusedVariables false
set_option linter.unusedSimpArgs false
set_option linter.unusedSectionVars false
noncomputable section
namespace Go.PG
def zlc (s:ByteArray) (l:List Fd):Prop:=s.size=l.length∧∀(i:Nat) (h:i<l.length),letF (((List.getD s.data.toList i 0).toNat:Nat):Int)=some l[i]
theorem U2 {c:Int} {f:Fd} (h:letF c=some f):zqw c=(Ay f:Int):=by
 unfold letF at h;unfold zqw
 by_cases c1:c=119
 ·rw [if_pos c1] at h ⊢; cases h; rfl
 rw [if_neg c1] at h ⊢
 by_cases c2:c=110
 ·rw [if_pos c2] at h ⊢; cases h; rfl
 rw [if_neg c2] at h ⊢
 by_cases c3:c=97
 ·rw [if_pos c3] at h ⊢; cases h; rfl
 rw [if_neg c3] at h ⊢
 by_cases c4:c=104
 ·rw [if_pos c4] at h ⊢; cases h; rfl
 rw [if_neg c4] at h; cases h
theorem Vd (x:Int) (hv:(fsOf x).2=true):(fldS x=⟨#[45]⟩∧(fsOf x).1=[])∨zlc (fldS x) (fsOf x).1:=by
 have two:∀{s:ByteArray} {a b:Fd},s.size=2→letF (((List.getD s.data.toList 0 0).toNat:Nat):Int)=some a→letF (((List.getD s.data.toList 1 0).toNat:Nat):Int)=some b→zlc s [a,b]:=by
  intro s a b h h0 h1;refine ⟨h,fun i hi=>?_⟩
  match i,hi with
  | 0,_=>exact h0
  | 1,_=>exact h1
 have one:∀{s:ByteArray} {a:Fd},s.size=1→letF (((List.getD s.data.toList 0 0).toNat:Nat):Int)=some a→zlc s [a]:=by
  intro s a h h0;refine ⟨h,fun i hi=>?_⟩
  match i,hi with
  | 0,_=>exact h0
 rcases Zk x with h | h | h | h | h | h | h | h | h | h | h | h
 ·subst h; exact Or.inr (two rfl rfl rfl)
 ·subst h; exact Or.inr (two rfl rfl rfl)
 ·subst h; exact Or.inr (two rfl rfl rfl)
 ·subst h; exact Or.inr (two rfl rfl rfl)
 ·subst h; exact Or.inr (two rfl rfl rfl)
 ·subst h; exact Or.inl ⟨rfl,rfl⟩
 ·subst h; exact Or.inr (one rfl rfl)
 ·subst h; exact Or.inr (one rfl rfl)
 ·subst h; exact Or.inr (two rfl rfl rfl)
 ·subst h; exact Or.inr (two rfl rfl rfl)
 ·subst h; exact Or.inl ⟨rfl,rfl⟩
 ·obtain ⟨h1,h2,h3,h4,h5,h6,h7,h8,h9,h10,h11⟩:=h
  simp [fsOf,h1,h2,h3,h4,h5,h6,h7,h8,h9,h10,h11] at hv
theorem zlf (R:Type) {s:ByteArray} {l:List Fd} (hl:zlc s l) (h2:l.length≤2) (k0:Int→Option R):∀(m i:Nat),i≤l.length→l.length - i<m→
  zab m R s (szF (l.take i)) (i:Int) k0=k0 (szF l)
 | 0,i,_,hh=>by omega
 | m+1,i,h1,h3=>by
  simp only [zab,zx5];rw [hl.1]
  by_cases hi:i<l.length
  ·have ih:=zlf R hl h2 k0 m (i+1) (by omega) (by omega)
   have e:szF (l.take (i+1))=szF (l.take i)+(Ay l[i]:Int):=by
    unfold szF;rw [List.take_succ_eq_append_getElem hi,List.map_append,List.sum_append];simp;omega
   have hb:IntKind.i64.wrap (szF (l.take i)+(Ay l[i]:Int))=szF (l.take i)+(Ay l[i]:Int):=by
    have q:∀f:Fd,Ay f≤32:=fun f=>by cases f<;>decide
    have q1:=q l[i];have q2:((l.take i).map Ay).sum≤32*(l.take i).length:=by
     generalize l.take i=t
     induction t with
     | nil=>simp
     | cons f t ih=>simp only [List.map_cons,List.sum_cons,List.length_cons]; have:=q f; omega
    have q3:(l.take i).length≤2:=by rw [List.length_take]; omega
    unfold szF;exact wrap_i64 (by omega) (by omega)
   simp only [Db hi,Az hi,Int.toNat_natCast,By hi (show l.length≤1000 by omega),znc,U2 (hl.2 i hi),hb];rw [←e];exact ih
  ·have:i=l.length:=by omega
   subst this;simp only [Cn,List.take_length]
theorem F49_eqV (R:Type) {x:Int} (hv:(fsOf x).2=true) (k:Int→Bool→Option R):F49 R x k=k (szF (fsOf x).1) true:=by
 simp only [F49,p49,znd,Qx,hv,Bool.not_true];rcases Vd x hv with ⟨h1,h2⟩ | h
 ·rw [h1,h2]
  obtain ⟨m,hm⟩:=Eo 9 (by omega);rw [hm];rfl
 ·have:=zlf R h (Cs x) (fun x3=>k x3 true) FUEL 0 (by omega) (by rw [Am]; have:=Cs x; omega)
  rw [List.take_zero] at this;exact this
theorem F49_inv (R:Type) {x:Int} (hv:(fsOf x).2=false) (k:Int→Bool→Option R):F49 R x k=k 0 false:=by
 simp only [F49,p49,znd,Qx,hv,Bool.not_false]
theorem zef {b:List Int} {o:OpT} (ho:o.2.2.2.1.length=32) {f:Fd} (hs:Ay f≤b.length):(K5 b o f).2.2.2.1.length=32:=by
 cases f with
 | H=>simp only [K5]; rw [List.length_take]; have:32≤b.length:=hs; omega
 | A=>exact ho
 | W=>exact ho
 | N=>exact ho
theorem zlh (R:Type) {s:ByteArray} {l:List Fd} (hl:zlc s l) (h2:l.length≤2) {b:List Int} (hb:AllU8 b) (hn:b.length≤200000) (n:Int) (acc:List OpT) (k0:List Int→Int→List OpT→OpT→Option R):∀(m i t:Nat) (o:OpT),i≤l.length→l.length - i<m→o.2.2.2.1.length=32→t+((l.drop i).map Ay).sum≤b.length→
  Gp m R b n (t:Int) s (i:Int) acc o k0=k0 b n acc (Jh (l.drop i) (b.drop t) o)
 | 0,i,t,o,_,hh,_,_=>by omega
 | m+1,i,t,o,h1,h3,ho,hs=>by
  simp only [Gp,zco];rw [hl.1]
  by_cases hi:i<l.length
  ·rw [List.drop_eq_getElem_cons hi] at hs ⊢
   simp only [List.map_cons,List.sum_cons] at hs;have hsz:Ay l[i]≤(b.drop t).length:=by rw [List.length_drop]; omega
   have ih:=zlh R hl h2 hb hn n acc k0 m (i+1) (t+Ay l[i]) (K5 (b.drop t) o l[i]) (by omega) (by omega) (zef ho hsz) (by omega);have c1:decide (0≤(t:Int)∧(t:Int)≤(List.length b:Int)∧(List.length b:Int)≤(List.length b:Int)∧(List.length b:Int)≤(List.length b:Int))=true:=by simp; omega
   have t1:List.take (Int.toNat ((b.length:Int) - (t:Int))) (List.drop t b)=b.drop t:=by
    rw [List.take_of_length_le];rw [List.length_drop];omega
   have hw:IntKind.i64.wrap ((t:Int)+(Ay l[i]:Int))=((t+Ay l[i]:Nat):Int):=by rw [wrap_i64 (by omega) (by omega)]; omega
   simp only [Db hi,Az hi,Int.toNat_natCast,By hi (show l.length≤1000 by omega),c1,t1];rw [F51_eq R ho (hl.2 i hi) (E9 hb t) hsz (by rw [List.length_drop]; omega)];simp only [znc,U2 (hl.2 i hi),hw];rw [ih,Jh,List.drop_drop]
  ·have:i=l.length:=by omega
   subst this;simp only [Cn,List.drop_length];rfl
theorem zt2 (R:Type) {b:List Int} (hb:1≤b.length) (n:Int) (acc:List OpT) (o:OpT) (k0:List Int→Int→List OpT→OpT→Option R):Gp FUEL R b n 1 ⟨#[45]⟩ 0 acc o k0=k0 b n acc o:=by
 obtain ⟨m,hm⟩:=Eo 9 (by omega);rw [hm];have c1:decide (0≤(1:Int)∧(1:Int)≤(List.length b:Int)∧(List.length b:Int)≤(List.length b:Int)∧(List.length b:Int)≤(List.length b:Int))=true:=by simp; omega
 have e:∀m',Gp (m'+1) R b n 1 ⟨#[45]⟩ 0 acc o k0=F51 R o 45 (List.take (Int.toNat ((List.length b:Int) - 1)) (List.drop 1 b)) (fun y12=>F52 R 45 fun y14=>Gp m' R b n (IntKind.i64.wrap (1+y14)) ⟨#[45]⟩ 1 acc y12 k0):=by
  intro m';simp only [Gp,zco];have s1:decide ((0:Int)<(ByteArray.size ⟨#[45]⟩:Int))=true:=rfl;have s2:bnd (0:Int) (ByteArray.size ⟨#[45]⟩:Int)=true:=rfl;simp only [s1,s2];simp only [c1];rfl
 rw [e];have z:∀k:OpT→Option R,F51 R o 45 (List.take (Int.toNat ((List.length b:Int) - 1)) (List.drop 1 b)) k=k o:=by
  intro k;simp only [F51,p51];rfl
 rw [z,znc];rfl
theorem zvl (R:Type) (k:List OpT→Option R):∀(m:Nat) (b:List Int) (acc:List OpT),AllU8 b→b.length<m→acc.length+b.length≤200000→Td m R b acc (fun x=>k x) (fun x=>k x)=k (acc++decS b)
 | 0,b,acc,_,h,_=>by omega
 | m+1,[],acc,_,_,_=>by
  simp only [Td,zqg];have:decS []=[]:=rfl;rw [this,List.append_nil];rfl
 | m+1,x::b,acc,h,h1,h2=>by
  have hb:AllU8 b:=fun y hy=>h y (by simp [hy])
  have hx:=h x (by simp);unfold U8 at hx;have hwr:IntKind.i64.wrap x=x:=wrap_i64 (by omega) (by omega);have hl:=Nq x b;simp only [List.length_cons] at h1 h2;have ih:=zvl R k m (oneS x b).2 (acc++[(oneS x b).1]) (Sd hb) (by omega) (by rw [List.length_append,List.length_singleton]; omega);have e1:decide ((((x::b).length:Nat):Int)>0)=true:=by simp<;>omega
  have e2:bnd 0 (((x::b).length:Nat):Int)=true:=by unfold bnd; simp<;>omega
  have c1:∀o:OpT,decide (acc.length+[o].length≤2199023255552)=true:=fun o=>by simp; omega
  have hc:decide ((0:Int)≤1∧(1:Int)≤((x::b).length:Int)∧((x::b).length:Int)≤((x::b).length:Int)∧((x::b).length:Int)≤((x::b).length:Int))=true:=by simp<;>omega
  simp only [Td,zqg,e1,e2,List.getD_cons_zero,hwr];rw [O0];cases hv:(fsOf x).2 with
  | false=>
   have eo:oneS x b=(opB x,b):=by unfold oneS; simp [hv]
   rw [eo] at ih ⊢;rw [F49_inv R hv];simp only [Bool.not_false,c1,hc];have d1:List.take (Int.toNat ((List.length (x::b):Int) - 1)) (List.drop 1 (x::b))=b:=by
    rw [List.drop_succ_cons,List.drop_zero,List.take_of_length_le];simp
   rw [d1];refine ih.trans ?_;rw [List.append_assoc];rfl
  | true=>
   rw [F49_eqV R hv];simp only [Bool.not_true]
   by_cases hs:((fsOf x).1.map Ay).sum≤b.length
   ·have eo:oneS x b=(Jh (fsOf x).1 b (opK x),b.drop ((fsOf x).1.map Ay).sum):=by unfold oneS; rw [if_pos hv,if_pos hs]
    rw [eo] at ih ⊢;have hd:decide ((((x::b).length:Nat):Int)<szF (fsOf x).1)=false:=by unfold szF; simp; omega
    simp only [hd,znd];have L:∀K:List Int→Int→List OpT→OpT→Option R,Gp FUEL R (x::b) (szF (fsOf x).1) 1 (fldS x) 0 acc (opK x) K=K (x::b) (szF (fsOf x).1) acc (Jh (fsOf x).1 b (opK x)):=by
     intro K;rcases Vd x hv with ⟨q1,q2⟩ | q
     ·rw [q1,q2,zt2 R (by simp)]
      rfl
     ·have:=zlh R q (Cs x) h (by simp; omega) (szF (fsOf x).1) acc K FUEL 0 1 (opK x) (by omega) (by rw [Am]; have:=Cs x; omega) (by simp [opK]) (by rw [List.drop_zero]; simp only [List.length_cons]; omega)
      rw [List.drop_zero,List.drop_succ_cons,List.drop_zero] at this;exact this
    rw [show (x,(0:Int),(0:Int),(List.replicate 32 (0:Int)),(0:Int),())=opK x from rfl,L];have hz:(szF (fsOf x).1).toNat=1+((fsOf x).1.map Ay).sum:=by unfold szF; omega
    have d2:decide ((0:Int)≤szF (fsOf x).1∧szF (fsOf x).1≤((x::b).length:Int)∧((x::b).length:Int)≤((x::b).length:Int)∧((x::b).length:Int)≤((x::b).length:Int))=true:=by unfold szF; simp; omega
    have d3:List.take (Int.toNat (((x::b).length:Int) - szF (fsOf x).1)) (List.drop (Int.toNat (szF (fsOf x).1)) (x::b))=b.drop ((fsOf x).1.map Ay).sum:=by
     rw [hz,Nat.add_comm,List.drop_succ_cons,List.take_of_length_le];rw [List.length_drop];unfold szF;simp only [List.length_cons];omega
    simp only [c1,d2,d3];refine ih.trans ?_;rw [List.append_assoc];rfl
   ·have eo:oneS x b=(opB x,[]):=by unfold oneS; rw [if_pos hv,if_neg hs]
    rw [eo];have hd:decide ((((x::b).length:Nat):Int)<szF (fsOf x).1)=true:=by unfold szF; simp; omega
    simp only [hd,c1];rfl
theorem F28_eq (R:Type) {b:List Int} (h:AllU8 b) (hn:b.length≤100000) (k:List OpT→Option R):F28 R b k=k (decS b):=by
 simp only [F28,p28];have:=zvl R k FUEL b [] h (by rw [Am]; omega) (by simp; omega);rw [List.nil_append] at this;exact this
theorem F10_eq (R:Type) {b:List Int} (h:AllU8 b) (k:Bool→Option R):F10 R b k=k (decide (b.length≤1500)&&decide ((decS b).length≤60)):=by
 simp only [F10,p10]
 by_cases hn:b.length≤1500
 ·have e1:decide (((b.length:Nat):Int)≤1500)=true:=decide_eq_true (by omega)
  simp only [e1,F28_eq R h (by omega)];rw [decide_eq_true hn,Bool.true_and]
  congr 1
  rw [Bool.eq_iff_iff];simp only [decide_eq_true_eq];omega
 ·have e1:decide (((b.length:Nat):Int)≤1500)=false:=decide_eq_false (by omega)
  simp only [e1];rw [decide_eq_false hn];rfl
end Go.PG
namespace Go.PG
theorem ztt {a:Int} (h:U64 a):beN (putS a)=a:=by
 unfold U64 at h;simp [beN,putS];omega
theorem Q2 {a:Int} (h:U32 a):beN (Bt a)=a:=by
 unfold U32 at h;simp [beN,Bt];omega
theorem zeg {o:OpT} (h:OpOK o) (hw:U32 o.2.1) (hn:U32 o.2.2.2.2.1) (c:OpT) (f:Fd) (r:List Int):K5 (C0 o f++r) c f=P9 o c f:=by
 cases f with
 | H=>
  simp only [K5,C0,P9];rw [←h.hash.1,List.take_left]
 | A=>
  simp only [K5,C0,P9];rw [show (8:Nat)=(putS o.2.2.1).length from rfl,List.take_left,ztt h.amount]
 | W=>
  simp only [K5,C0,P9];rw [show (4:Nat)=(Bt o.2.1).length from rfl,List.take_left,Q2 hw]
 | N=>
  simp only [K5,C0,P9];rw [show (4:Nat)=(Bt o.2.2.2.2.1).length from rfl,List.take_left,Q2 hn]
theorem Qw {o:OpT} (h:OpOK o) (hw:U32 o.2.1) (hn:U32 o.2.2.2.2.1) (r:List Int):∀(l:List Fd) (c:OpT),Jh l (Df o l++r) c=O6 o l c
 | [],c=>rfl
 | f::l,c=>by
  rw [Iu,List.append_assoc,Jh,zeg h hw hn,←H3 h f,List.drop_left,Qw h hw hn r l];rfl
theorem Od {o:OpT} (h:Bj o=true):U32 o.2.1∧U32 o.2.2.2.2.1:=by
 unfold Bj Qn at h;rw [Bool.and_eq_true,decide_eq_true_eq] at h;unfold U32;omega
theorem zh6 {o:OpT} (h:OpOK o) (hr:Bj o=true) (r:List Int):∃x t,Dd o=x::t∧oneS x (t++r)=(o,r):=by
 obtain ⟨hw,hn⟩:=Od hr;unfold Bj at hr;rw [Bool.and_eq_true] at hr;have hr:=hr.2;unfold Dd;cases hv:(fsOf o.1).2 with
 | true=>
  rw [if_pos hv,decide_eq_true_eq] at hr;have hk:=Ir hv;have em:o.1 % 256=o.1:=by omega
  rw [if_pos rfl,em];refine ⟨_,_,rfl,?_⟩;unfold oneS;rw [if_pos hv,if_pos (by rw [List.length_append,Gl h]; omega),Qw h hw hn,←Gl h,List.drop_left];exact Prod.ext hr rfl
 | false=>
  rw [hv,if_neg (by decide),decide_eq_true_eq] at hr;obtain ⟨h1,h2,h3⟩:=hr;have em:o.2.2.2.2.1 % 256=o.2.2.2.2.1:=by unfold U32 at hn; omega
  rw [if_neg (by decide),em];refine ⟨_,_,rfl,?_⟩;unfold oneS;rw [if_neg (by rw [h2]; decide)];exact Prod.ext h3.symm rfl
def encS (l:List OpT):List Int:=l.flatMap Dd
theorem Zu:∀(l:List OpT),(∀o∈l,OpOK o)→(∀o∈l,Bj o=true)→decS (encS l)=l
 | [],_,_=>rfl
 | o::l,h,hr=>by
  obtain ⟨x,t,e,q⟩:=zh6 (h o (by simp)) (hr o (by simp)) (encS l);have:encS (o::l)=x::(t++encS l):=by
   show Dd o++encS l=_;rw [e];rfl
  rw [this,O0,q,Zu l (fun o ho=>h o (by simp [ho])) (fun o ho=>hr o (by simp [ho]))]
theorem zfh {o:OpT} (h:OpOK o):(Dd o).length≤65:=by
 unfold Dd;split
 ·have:=Gl h (fsOf o.1).1
  have h2:=R4 (fsOf o.1).1;have h3:=Cs o.1;rw [List.length_cons];omega
 ·simp
theorem Nw:∀(l:List OpT),(∀o∈l,OpOK o)→(encS l).length≤65*l.length
 | [],_=>by simp [encS]
 | o::l,h=>by
  have:=Nw l (fun o ho=>h o (by simp [ho]));have h2:=zfh (h o (by simp));show (Dd o++encS l).length≤_;rw [List.length_append,List.length_cons];omega
theorem zts {o:OpT} (h:OpOK o) (f:Fd):AllU8 (C0 o f):=by
 have u:∀x:Int,U8 (x % 256):=fun x=>by unfold U8; omega
 cases f with
 | H=>exact h.hash.2
 | A=>intro x hx; simp only [C0,putS,List.mem_cons,List.not_mem_nil,or_false] at hx; rcases hx with e | e | e | e | e | e | e | e<;>rw [e]<;>exact u _
 | W=>intro x hx; simp only [C0,Bt,List.mem_cons,List.not_mem_nil,or_false] at hx; rcases hx with e | e | e | e<;>rw [e]<;>exact u _
 | N=>intro x hx; simp only [C0,Bt,List.mem_cons,List.not_mem_nil,or_false] at hx; rcases hx with e | e | e | e<;>rw [e]<;>exact u _
theorem zks {o:OpT} (h:OpOK o):AllU8 (Dd o):=by
 have u:∀x:Int,U8 (x % 256):=fun x=>by unfold U8; omega
 unfold Dd;split
 ·intro x hx
  rcases List.mem_cons.1 hx with e | hx
  ·rw [e]; exact u _
  ·obtain ⟨f,_,hf⟩:=List.mem_flatMap.1 hx
   exact zts h f x hf
 ·intro x hx
  rw [List.mem_singleton.1 hx]; exact u _
theorem Zp {l:List OpT} (h:∀o∈l,OpOK o):AllU8 (encS l):=by
 intro x hx;obtain ⟨o,ho,hf⟩:=List.mem_flatMap.1 hx;exact zks (h o ho) x hf
theorem zvn (R:Type) {l:List OpT} (h:∀o∈l,OpOK o) (hr:∀o∈l,Bj o=true) (hL:l.length≤1000) (k0:Int→Option R) (k1:List Int→Option R):∀(m i:Nat) (acc:List Int),i≤l.length→l.length - i<m→acc.length+(encS (l.drop i)).length≤100000→
  zai m R l (l.length:Int) (i:Int) acc k0 k1=k1 (acc++encS (l.drop i))
 | 0,i,acc,_,hh,_=>by omega
 | m+1,i,acc,h1,h2,h3=>by
  simp only [zai,zyd]
  by_cases hi:i<l.length
  ·have hoi:=h _ (List.getElem_mem hi)
   have hri:=hr _ (List.getElem_mem hi);obtain ⟨hw,hn⟩:=Od hri;rw [List.drop_eq_getElem_cons hi] at h3 ⊢;have e:encS (l[i]::l.drop (i+1))=Dd l[i]++encS (l.drop (i+1)):=rfl;rw [e,List.length_append] at h3;have ih:=zvn R h hr hL k0 k1 m (i+1) (acc++Dd l[i]) (by omega) (by omega) (by rw [List.length_append]; omega);have c1:decide (acc.length+(Dd l[i]).length≤140737488355328)=true:=by simp; omega
   simp only [Db hi,Az hi,Int.toNat_natCast,By hi hL,So hi,znn R hoi,hri,Bool.not_true,zvu R hoi hw hn,c1];rw [ih,e,List.append_assoc]
  ·have:i=l.length:=by omega
   subst this;have e:encS []=[]:=rfl;simp only [Cn,List.drop_length,e,List.append_nil]
theorem zvv (R:Type) {l:List OpT} (h:∀o∈l,OpOK o) (hr:∀o∈l,Bj o=true) (hL:l.length≤1000) (k:List Int→Int→Option R):F22 R l k=k (encS l) 0:=by
 have hl:=Nw l h;simp only [F22,p22];have:=zvn R h hr hL (fun x2=>k [] x2) (fun x3=>k x3 0) FUEL 0 [] (by omega) (by rw [Am]; omega) (by rw [List.drop_zero]; simp; omega);rw [List.drop_zero,List.nil_append] at this;exact this
theorem znp (R:Type) {c:Cfg} (hc:cfgS c=true) {a b:List Int} (ha:H32 a) (hb:AllU8 b) (hn:b.length≤100000) (hd:(decS b).length≤100) (k:Led→List An→Int→Option R):F19 R c a b k=k (Ck (newS c a) (decS b)).1 (Ck (newS c a) (decS b)).2 0:=by
 simp only [F19,p19,zvy,hc,if_true];have e1:((0:Int) !=0)=false:=rfl;have e2:decide (((b.length:Nat):Int)>100000)=false:=decide_eq_false (by omega);have e3:decide ((((decS b).length:Nat):Int)>2000)=false:=decide_eq_false (by omega);simp only [e1,e2,zbw R hb hn,e3];rw [F42_eq R (zuj hc ha) (zkl hb) (by omega)]
theorem zh5 {x:Int} {b:List Int} (hx:U8 x) (hb:AllU8 b):Bj (oneS x b).1=true∨((oneS x b).2=[]∧(oneS x b).1.1=0):=by
 unfold oneS;cases hv:(fsOf x).2 with
 | false=>
  rw [if_neg (by decide)];left;unfold U8 at hx;have e0:(fsOf 0).2=false:=rfl;unfold Bj Qn;rw [Bool.and_eq_true];refine ⟨decide_eq_true (by show (0:Int)≤0∧(0:Int)<4294967296∧0≤x∧x<4294967296; omega),?_⟩;show (if (fsOf 0).2=true then _ else _)=true;rw [e0,if_neg (by decide)];exact decide_eq_true ⟨by show x≤255; omega,hv,rfl⟩
 | true=>
  rw [if_pos rfl]
  by_cases hs:((fsOf x).1.map Ay).sum≤b.length
  ·rw [if_pos hs]
   left;have four:∀d:List Int,AllU8 d→4≤d.length→U32 (beN (d.take 4)):=fun d hd hl=>(be4 (by rw [List.length_take]; omega) (Gn hd 4)).1
   have hW:∀d:List Int,AllU8 d→4≤d.length→0≤beN (d.take 4)∧beN (d.take 4)<4294967296:=four;unfold Bj Qn;have hk:(Jh (fsOf x).1 b (opK x)).1=x:=by
    have:∀(l:List Fd) (d:List Int) (c:OpT),(Jh l d c).1=c.1:=by
     intro l
     induction l with
     | nil=>intro d c; rfl
     | cons f l ih=>intro d c; rw [Jh,ih]; cases f<;>rfl
    rw [this]; rfl
   rw [hk,if_pos hv];rcases classes hv with q | q | q | q | q | q | q<;>rw [q] at hs ⊢<;>simp only [List.map_cons,List.map_nil,List.sum_cons,List.sum_nil,Ay] at hs<;>simp only [Jh,K5,opK,O6,List.foldl_cons,List.foldl_nil,P9,decide_true,Bool.and_true,Ay]<;>refine decide_eq_true ?_
   ·omega
   ·have:=hW b hb (by omega); omega
   ·have:=hW b hb (by omega); omega
   ·omega
   ·have:=hW b hb (by omega); omega
   ·have h1:=hW b hb (by omega)
    have h2:=hW (b.drop 4) (E9 hb 4) (by rw [List.length_drop]; omega);omega
   ·have h1:=hW b hb (by omega)
    have h2:=hW (b.drop 4) (E9 hb 4) (by rw [List.length_drop]; omega);omega
  ·rw [if_neg hs]
   exact Or.inr ⟨rfl,rfl⟩
theorem Qz:∀(n:Nat) (b:List Int),AllU8 b→∀(i:Nat) (h:i+1<(decN n b).length),Bj ((decN n b)[i]'(by omega))=true
 | 0,_,_,i,h=>by simp [decN] at h
 | n+1,[],_,i,h=>by simp [decN] at h
 | n+1,x::b,hb,i,h=>by
  have hb':AllU8 b:=fun y hy=>hb y (by simp [hy])
  simp only [decN,List.length_cons] at h
  match i,h with
  | 0,h=>
   simp only [decN,List.getElem_cons_zero];rcases zh5 (hb x (by simp)) hb' with q | ⟨q,_⟩
   ·exact q
   ·rw [q] at h
    cases n<;>simp [decN] at h
  | i+1,h=>
   simp only [decN,List.getElem_cons_succ];exact Qz n _ (Sd hb') i (by omega)
theorem zfg {b:List Int} (hb:AllU8 b) (i:Nat) (h:i+1<(decS b).length):Bj ((decS b)[i]'(by omega))=true:=Qz _ _ hb i h
end Go.PG
set_option maxRecDepth 100000
namespace Go.PG
abbrev lvC:Cfg:=((2:Int),(1:Int),(1:Int),(64:Int),(1:Int),())
abbrev lvZ:List Int:=List.replicate 32 (0:Int)
abbrev lvD:List Int:=Xq lvZ 0 bV
abbrev lo1:OpT:=((1:Int),(0:Int),(5:Int),bV,(0:Int),())
abbrev lo2:OpT:=((4:Int),(0:Int),(0:Int),SHA bV,(0:Int),())
abbrev lo3:OpT:=((5:Int),(0:Int),(0:Int),bV,(0:Int),())
abbrev lo4:OpT:=((7:Int),(0:Int),(0:Int),lvZ,(0:Int),())
abbrev lo5:OpT:=((6:Int),(0:Int),(0:Int),lvZ,(0:Int),())
abbrev lvO:List OpT:=[lo1,lo2,lo5,lo3,lo5,lo4]
abbrev lv0:Led:=newS lvC lvZ
abbrev lv1:Led:=(lvC,(0:Int),[(bV,(0:Int),(5:Int),())],((0:Int),lvZ,lvZ,[],()),[(-1:Int),(-1:Int)],[],())
abbrev lv2:Led:=(lvC,(0:Int),[(bV,(0:Int),(5:Int),())],((0:Int),lvZ,lvZ,[((0:Int),SHA bV,false,lvZ,())],()),[(-1:Int),(-1:Int)],[],())
abbrev lv3:Led:=(lvC,(1:Int),[(bV,(0:Int),(5:Int),())],((0:Int),lvZ,lvZ,[((0:Int),SHA bV,false,lvZ,())],()),[(-1:Int),(-1:Int)],[],())
abbrev lv4:Led:=(lvC,(1:Int),[(bV,(0:Int),(5:Int),())],((0:Int),lvZ,bV,[((0:Int),SHA bV,true,bV,())],()),[(-1:Int),(-1:Int)],[],())
abbrev lv5:Led:=(lvC,(0:Int),[(bV,(5:Int),(5:Int),())],((1:Int),lvD,lvZ,[],()),[(0:Int),(0:Int)],[],())
theorem lvs0:doS lv0 lo1=(lv1,okS 0):=by kernel_rfl
theorem lvs1:doS lv1 lo2=(lv2,okS 0):=by kernel_rfl
theorem lvs4:doS lv2 lo5=(lv3,okS 1):=by kernel_rfl
theorem lvs5:doS lv3 lo3=(lv4,okS 0):=by kernel_rfl
theorem lvs6:doS lv4 lo5=(lv5,((0:Int),(0:Int),[],lvD,())):=by kernel_rfl
theorem lvs7:doS lv5 lo4=(lv5,((0:Int),(0:Int),[(0:Int)],lvZ,())):=by kernel_rfl
abbrev lvA:List An:=[okS 0,okS 0,okS 1,okS 0,((0:Int),(0:Int),[],lvD,()),((0:Int),(0:Int),[(0:Int)],lvZ,())]
theorem lvP:Ck lv0 lvO=(lv5,lvA):=by
 simp only [Ck,lvs0,lvs1,lvs4,lvs5,lvs6,lvs7]
theorem zuk:H32 lvD:=V9 _
theorem U1:∀o∈lvO,OpOK o:=by
 have a:∀{k n x:Int} {h:List Int},0≤k∧k≤100→0≤n∧n≤100→0≤x∧x≤100→H32 h→OpOK (k,(0:Int),x,h,n,()):=fun h1 h2 h3 h4=>⟨by unfold I64; simp only; omega,by unfold I64; simp only; omega,by unfold U64; simp only; omega,h4,by unfold I64; simp only; omega⟩
 intro o ho;have z:=A1;simp only [lvO,List.mem_cons,List.not_mem_nil,or_false] at ho;rcases ho with h | h | h | h | h | h<;>rw [h]
 ·exact a (by omega) (by omega) (by omega) zfi
 ·exact a (by omega) (by omega) (by omega) (V9 _)
 ·exact a (by omega) (by omega) (by omega) z
 ·exact a (by omega) (by omega) (by omega) zfi
 ·exact a (by omega) (by omega) (by omega) z
 ·exact a (by omega) (by omega) (by omega) z
end Go.PG
set_option maxRecDepth 100000
namespace Go.PG
theorem zp6 {o:OpT} (h1:Qn o=true) (h2:(fsOf o.1).2=true) (h3:O6 o (fsOf o.1).1 (o.1,(0:Int),(0:Int),(List.replicate 32 (0:Int)),(0:Int),())=o):Bj o=true:=by
 unfold Bj;rw [h1,if_pos h2,decide_eq_true h3];rfl
theorem U0:∀o∈lvO,Bj o=true:=by
 intro o ho;simp only [lvO,List.mem_cons,List.not_mem_nil,or_false] at ho;rcases ho with h | h | h | h | h | h<;>rw [h]<;>exact zp6 rfl rfl rfl
theorem zle (f54:FT54) (f55:FT55) (R:Type) (k0:List Bool→List Tq37→Unit→Tq37→Option R):
  G91 f54 f55 FUEL R 0 6 0 [] 2 lvO lvA [] () ((0:Int),lvZ,lvZ,lvZ,()) k0=f54 R [lvZ,bV] fun m=>f55 R lvZ 0 m fun nx=>k0 [] [((0:Int),lvZ,m,nx,())] () ((1:Int),nx,lvZ,lvZ,()):=by
 obtain ⟨m,hm⟩:=Eo 12 (by omega);rw [hm]
 kernel_rfl
theorem lvX:Tr [lvZ,bV]=bV:=by kernel_rfl
theorem znh (R:Type) (k:List Tq37→Option R):F29 R lvC lvZ lvO lvA k=k [((0:Int),lvZ,bV,lvD,())]:=by
 have hz:cfgS lvC=true:=by decide
 have e:∀x∈[lvZ,bV],H32 x:=fun x hx=>by
  simp only [List.mem_cons,List.not_mem_nil,or_false] at hx;rcases hx with h | h<;>rw [h]
  ·exact A1
  ·exact zfi
 simp only [F29,p29];rw [zng,hz];show (if ((lvA.length:Nat):Int)<((lvO.length:Nat):Int) then ((lvA.length:Nat):Int) else ((lvO.length:Nat):Int)) |> fun lim=>G91 F54 F55 FUEL R 0 lim 0 [] 2 lvO lvA [] () ((0:Int),lvZ,lvZ,lvZ,()) (fun _ folds _ _=>k folds)=_
 have:(if ((lvA.length:Nat):Int)<((lvO.length:Nat):Int) then ((lvA.length:Nat):Int) else ((lvO.length:Nat):Int))=6:=rfl;rw [this];show G91 F54 F55 FUEL R 0 6 0 [] 2 lvO lvA [] () ((0:Int),lvZ,lvZ,lvZ,()) (fun _ folds _ _=>k folds)=_;rw [zle,zvr R e (by decide),lvX,zvq R (show H32 lvZ from A1) zfi]
theorem F9_eq (R:Type) (k:Bool→Option R):F9 R k=k true:=by
 have hz:cfgS lvC=true:=by decide
 have hd:decS (encS lvO)=lvO:=Zu lvO U1 U0;have hl:(encS lvO).length≤100000:=by have:=Nw lvO U1; have:lvO.length=6:=rfl; omega
 have e1:F26 R bV=fun k=>k (SHA bV):=funext fun k=>F26_eq R zfi k
 have e2:F22 R lvO=fun k=>k (encS lvO) 0:=funext fun k=>zvv R U1 U0 (by decide) k
 have e3:F19 R lvC lvZ (encS lvO)=fun k=>k lv5 lvA 0:=funext fun k=>by
  rw [znp R hz (show H32 lvZ from A1) (Zp U1) hl (by rw [hd]; decide),hd];rw [show Ck (newS lvC lvZ) lvO=(lv5,lvA) from lvP]
 have e4:F13 R (encS lvO)=fun k=>k lvO:=funext fun k=>by rw [zbw R (Zp U1) hl,hd]
 have e5:F29 R lvC lvZ lvO lvA=fun k=>k [((0:Int),lvZ,bV,lvD,())]:=funext fun k=>znh R k
 have e6:F24 R lvZ 0 bV=fun k=>k lvD:=funext fun k=>F24_eq R A1 zfi (by omega) k
 have e8:F27 R [(0:Int)] [(0:Int)]=fun k=>k true:=funext fun k=>by rw [zd1 R _ _ (by decide)]; rfl
 have e9:Kd.eqv (.arr 32 (.int .u8)) lvD lvD=true:=(B9 zuk.1 zuk.1).trans (decide_eq_true rfl);unfold F9 p9;dsimp only;rw [e1];dsimp only;rw [e2];dsimp only;rw [e3];dsimp only;rw [e4];dsimp only;rw [e5];dsimp only;rw [show ((0:Int)==0)=true from rfl,show ((lvA.length:Int)==6)=true from rfl];dsimp only;rw [show bnd (4:Int) (lvA.length:Int)=true from rfl];dsimp only;rw [e6];dsimp only;rw [show (List.getD lvA 4 ((0:Int),(0:Int),([]:(List Int)),(List.replicate 32 (0:Int)),())).2.2.2.1=lvD from rfl,e9];dsimp only;rw [show bnd (5:Int) (lvA.length:Int)=true from rfl];dsimp only
 rw [show (List.getD lvA 5 ((0:Int),(0:Int),([]:(List Int)),(List.replicate 32 (0:Int)),())).2.2.1=[(0:Int)] from rfl,e8];dsimp only;rw [show ((([((0:Int),lvZ,bV,lvD,())]:List Tq37).length:Int)==1)=true from rfl];dsimp only;rw [show bnd (0:Int) (([((0:Int),lvZ,bV,lvD,())]:List Tq37).length:Int)=true from rfl];dsimp only;rw [show (List.getD ([((0:Int),lvZ,bV,lvD,())]:List Tq37) 0 ((0:Int),(List.replicate 32 (0:Int)),(List.replicate 32 (0:Int)),(List.replicate 32 (0:Int)),())).2.2.2.1=lvD from rfl,show Kd.eqv (.arr 32 (.int .u8)) lvD lv5.2.2.2.1.2.1=true from e9];rfl
end Go.PG
namespace Go.PG
section
variable {c:Cfg} {n:Nat} {l:Led}
end
end Go.PG
namespace Go.PG
theorem ztm {o:OpT} (l:Led) (h:Bj o=false):doS l o=(l,badS 2):=by
 unfold doS;rw [if_neg (fun hh=>by rw [h] at hh; cases hh.1)]
theorem G5_eq (R:Type) {c:Cfg} {ops:List OpT} (ho:∀o∈ops,OpOK o) (hL:ops.length≤60) (x4:List Int) (x5:Cfg) (x6:Led) (k0:Bool→Option R) (k1:List OpT→List Int→Cfg→Led→Led→Option R):∀(m i:Nat) {n:Nat} (l:Led) (pre:List An),LOK c n l→n+(ops.length - i)≤99→i≤ops.length→ops.length - i<m→pre.length=i→
  zaa m R (pre++(Ck l (ops.drop i)).2) ops (i:Int) x4 x5 x6 l k0 k1=k1 ops x4 x5 x6 (Ck l (ops.drop i)).1
 | 0,i,n,l,_,_,_,_,h,_=>by omega
 | m+1,i,n,l,pre,h,hn,h1,h2,hp=>by
  simp only [zaa,zx3]
  by_cases hi:i<ops.length
  ·have hoi:=ho _ (List.getElem_mem hi)
   have h':=do_ok h (by omega) hoi;have ih:=G5_eq R ho hL x4 x5 x6 k0 k1 m (i+1) (n:=n+1) (doS l ops[i]).1 (pre++[(doS l ops[i]).2]) h' (by omega) (by omega) (by omega) (by simp [hp]);rw [List.drop_eq_getElem_cons hi];simp only [Ck];rw [List.append_assoc,List.cons_append,List.nil_append] at ih;have hg:(pre++(doS l ops[i]).2::(Ck (doS l ops[i]).1 (ops.drop (i+1))).2).getD i ((0:Int),(0:Int),([]:(List Int)),(List.replicate 32 (0:Int)),())=(doS l ops[i]).2:=by
    subst hp;simp
   have hbn:bnd (i:Int) ((pre++(doS l ops[i]).2::(Ck (doS l ops[i]).1 (ops.drop (i+1))).2).length:Int)=true:=Az (by rw [List.length_append,List.length_cons]; omega);simp only [Db hi,Az hi,hbn,Int.toNat_natCast,By hi (show ops.length≤1000 by omega),So hi,zvx R h (show n≤100 by omega) hoi,hg,zt8 R (do_an h (show n≤100 by omega) ops[i]),Bool.not_true];exact ih
  ·have:i=ops.length:=by omega
   subst this;simp only [Cn,List.drop_length];rfl
theorem zg5 (l:Led) {ops:List OpT} {o:OpT} (h:Bj o=false):(Ck l (ops++[o])).1=(Ck l ops).1:=by
 rw [Up];simp only [Ck,ztm _ h]
theorem F5_eq' (R:Type) {a:List Int} (ha:AllU8 a) {s:List Int} (hs:H32 s) {b:List Int} (hb:AllU8 b) (k:Bool→Option R):F5 R a s b k=k true:=by
 simp only [F5,p5,F9_eq,Bool.not_true,F10_eq R hb]
 by_cases h1:b.length≤1500
 ·by_cases h2:(decS b).length≤60
  ·rw [decide_eq_true h1,decide_eq_true h2]
   have ho:=zkl hb;have hN:=zuj (Nx a).1 hs;have hr:=zfg hb;have e0:((0:Int) !=0)=false:=rfl;have eL:((((Ck (newS (O2 a) s) (decS b)).2.length:Nat):Int) !=(((decS b).length:Nat):Int))=false:=by rw [Uo]; simp
   simp only [Bool.true_and,Bool.not_true,F12_eq R ha,znp R (Nx a).1 hs hb (show b.length≤100000 by omega) (show (decS b).length≤100 by omega),zvy,(Nx a).1,if_true,zbw R hb (show b.length≤100000 by omega),e0,eL];have q1:=fun k1=>G5_eq R ho h2 s (O2 a) (Ck (newS (O2 a) s) (decS b)).1 (fun x15=>k x15) k1 FUEL 0 (n:=0) _ [] hN (by omega) (by omega) (by rw [Am]; omega) rfl
   rw [List.drop_zero,List.nil_append] at q1;refine (q1 _).trans ?_;have hP:=zg4 (decS b) hN (by omega) ho;have w:=hP.lw (by omega);simp only [zvw R w w,Qj]
   by_cases hz:(decS b).length=0
   ·rw [decide_eq_false (by omega)]
   ·rw [decide_eq_true (by omega)]
    have wr:IntKind.i64.wrap (((decS b).length:Int) - 1)=(((decS b).length - 1:Nat):Int):=by rw [wrap_i64 (by omega) (by omega)]; omega
    have hl:(decS b).length - 1<(decS b).length:=by omega
    have hx:(decS b)=(decS b).take ((decS b).length - 1)++[(decS b)[(decS b).length - 1]]:=by
     rw [←List.take_succ_eq_append_getElem hl,List.take_of_length_le (by omega)]
    have hol:=ho _ (List.getElem_mem hl);simp only [wr,Az hl,Int.toNat_natCast,So hl,znn R hol];cases hq:Bj (decS b)[(decS b).length - 1] with
    | true=>rfl
    | false=>
     have c1:decide ((0:Int)≤0∧(0:Int)≤(((decS b).length - 1:Nat):Int)∧(((decS b).length - 1:Nat):Int)≤(((decS b).length - 1:Nat):Int)∧(((decS b).length - 1:Nat):Int)≤((decS b).length:Int))=true:=decide_eq_true (by omega);have t1:List.take (Int.toNat ((((decS b).length - 1:Nat):Int) - 0)) (List.drop 0 (decS b))=(decS b).take ((decS b).length - 1):=by rw [Int.sub_zero,Int.toNat_natCast,List.drop_zero]
     simp only [Bool.not_false,c1,t1];have ho':∀o∈(decS b).take ((decS b).length - 1),OpOK o:=fun o hh=>ho o (List.mem_of_mem_take hh)
     have hl':((decS b).take ((decS b).length - 1)).length=(decS b).length - 1:=by rw [List.length_take]; omega
     have hr':∀o∈(decS b).take ((decS b).length - 1),Bj o=true:=fun o hh=>by
      obtain ⟨i,hi,rfl⟩:=List.mem_iff_getElem.1 hh;rw [List.getElem_take];exact hr i (by omega)
     have hd:decS (encS ((decS b).take ((decS b).length - 1)))=(decS b).take ((decS b).length - 1):=Zu _ ho' hr';have hn:(encS ((decS b).take ((decS b).length - 1))).length≤100000:=by have:=Nw _ ho'; omega
     simp only [zvv R ho' hr' (show ((decS b).take ((decS b).length - 1)).length≤1000 by omega),znp R (Nx a).1 hs (Zp ho') hn (show (decS (encS ((decS b).take ((decS b).length - 1)))).length≤100 by rw [hd]; omega),e0,hd];have hE:(Ck (newS (O2 a) s) ((decS b).take ((decS b).length - 1))).1=(Ck (newS (O2 a) s) (decS b)).1:=by
      conv=>rhs; rw [hx]
      rw [zg5 _ hq]
     simp only [hE,zvw R w w,Qj,Bool.not_true]
  ·rw [decide_eq_false h2,Bool.and_false]
   rfl
 ·rw [decide_eq_false h1]
  rfl
end Go.PG
end
