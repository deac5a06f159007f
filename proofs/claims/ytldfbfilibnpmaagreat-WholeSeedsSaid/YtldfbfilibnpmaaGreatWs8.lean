/- A part of the proof over this seat (own work; the framework that reads a Go function as a pure one, or a use of it). No condition of its own. -/
import Derived.Test.YtldfbfilibnpmaaGreatWs7
import Derived.KernelRfl
set_option linter.unusedVariables false
set_option linter.unusedSimpArgs false
set_option linter.unusedSectionVars false
noncomputable section
namespace Go.PG
theorem ztz {a:Int} (h:U64 a):beN (putS a)=a:=by
 unfold U64 at h;simp [beN,putS];omega
theorem Q7 {a:Int} (h:U32 a):beN (Bt a)=a:=by
 unfold U32 at h;simp [beN,Bt];omega
theorem zei {o:OpT} (h:OpOK o) (hw:U32 o.2.1) (hn:U32 o.2.2.2.2.1) (c:OpT) (f:Fd) (r:List Int):No (C3 o f++r) c f=Se o c f:=by
 cases f with
 | H=>
  simp only [No,C3,Se];rw [←h.hash.1,List.take_left]
 | A=>
  simp only [No,C3,Se];rw [show (8:Nat)=(putS o.2.2.1).length from rfl,List.take_left,ztz h.amount]
 | W=>
  simp only [No,C3,Se];rw [show (4:Nat)=(Bt o.2.1).length from rfl,List.take_left,Q7 hw]
 | N=>
  simp only [No,C3,Se];rw [show (4:Nat)=(Bt o.2.2.2.2.1).length from rfl,List.take_left,Q7 hn]
theorem Q2 {o:OpT} (h:OpOK o) (hw:U32 o.2.1) (hn:U32 o.2.2.2.2.1) (r:List Int):∀(l:List Fd) (c:OpT),O1 l (Di o l++r) c=Qj o l c
 | [],c=>rfl
 | f::l,c=>by
  rw [Iz,List.append_assoc,O1,zei h hw hn,←H6 h f,List.drop_left,Q2 h hw hn r l];rfl
theorem Om {o:OpT} (h:Bx o=true):U32 o.2.1∧U32 o.2.2.2.2.1:=by
 unfold Bx zcr at h;rw [Bool.and_eq_true,decide_eq_true_eq] at h;unfold U32;omega
theorem zh9 {o:OpT} (h:OpOK o) (hr:Bx o=true) (r:List Int):∃x t,Dg o=x::t∧oneS x (t++r)=(o,r):=by
 obtain ⟨hw,hn⟩:=Om hr;unfold Bx at hr;rw [Bool.and_eq_true] at hr;have hr:=hr.2;unfold Dg;cases hv:(fsOf o.1).2 with
 | true=>
  rw [if_pos hv,decide_eq_true_eq] at hr;have hk:=Iv hv;have em:o.1 % 256=o.1:=by omega
  rw [if_pos rfl,em];refine ⟨_,_,rfl,?_⟩;unfold oneS;rw [if_pos hv,if_pos (by rw [List.length_append,Gs h]; omega),Q2 h hw hn,←Gs h,List.drop_left];exact Prod.ext hr rfl
 | false=>
  rw [hv,if_neg (by decide),decide_eq_true_eq] at hr;obtain ⟨h1,h2,h3⟩:=hr;have em:o.2.2.2.2.1 % 256=o.2.2.2.2.1:=by unfold U32 at hn; omega
  rw [if_neg (by decide),em];refine ⟨_,_,rfl,?_⟩;unfold oneS;rw [if_neg (by rw [h2]; decide)];exact Prod.ext h3.symm rfl
def encS (l:List OpT):List Int:=l.flatMap Dg
theorem zks:∀(l:List OpT),(∀o∈l,OpOK o)→(∀o∈l,Bx o=true)→decS (encS l)=l
 | [],_,_=>rfl
 | o::l,h,hr=>by
  obtain ⟨x,t,e,q⟩:=zh9 (h o (by simp)) (hr o (by simp)) (encS l);have:encS (o::l)=x::(t++encS l):=by
   show Dg o++encS l=_;rw [e];rfl
  rw [this,O9,q,zks l (fun o ho=>h o (by simp [ho])) (fun o ho=>hr o (by simp [ho]))]
theorem zfj {o:OpT} (h:OpOK o):(Dg o).length≤65:=by
 unfold Dg;split
 ·have:=Gs h (fsOf o.1).1
  have h2:=Sc (fsOf o.1).1;have h3:=Cu o.1;rw [List.length_cons];omega
 ·simp
theorem S4:∀(l:List OpT),(∀o∈l,OpOK o)→(encS l).length≤65*l.length
 | [],_=>by simp [encS]
 | o::l,h=>by
  have:=S4 l (fun o ho=>h o (by simp [ho]));have h2:=zfj (h o (by simp));show (Dg o++encS l).length≤_;rw [List.length_append,List.length_cons];omega
theorem zty {o:OpT} (h:OpOK o) (f:Fd):AllU8 (C3 o f):=by
 have u:∀x:Int,U8 (x % 256):=fun x=>by unfold U8; omega
 cases f with
 | H=>exact h.hash.2
 | A=>intro x hx; simp only [C3,putS,List.mem_cons,List.not_mem_nil,or_false] at hx; rcases hx with e | e | e | e | e | e | e | e<;>rw [e]<;>exact u _
 | W=>intro x hx; simp only [C3,Bt,List.mem_cons,List.not_mem_nil,or_false] at hx; rcases hx with e | e | e | e<;>rw [e]<;>exact u _
 | N=>intro x hx; simp only [C3,Bt,List.mem_cons,List.not_mem_nil,or_false] at hx; rcases hx with e | e | e | e<;>rw [e]<;>exact u _
theorem zk0 {o:OpT} (h:OpOK o):AllU8 (Dg o):=by
 have u:∀x:Int,U8 (x % 256):=fun x=>by unfold U8; omega
 unfold Dg;split
 ·intro x hx
  rcases List.mem_cons.1 hx with e | hx
  ·rw [e]; exact u _
  ·obtain ⟨f,_,hf⟩:=List.mem_flatMap.1 hx
   exact zty h f x hf
 ·intro x hx
  rw [List.mem_singleton.1 hx]; exact u _
theorem zj6 {l:List OpT} (h:∀o∈l,OpOK o):AllU8 (encS l):=by
 intro x hx;obtain ⟨o,ho,hf⟩:=List.mem_flatMap.1 hx;exact zk0 (h o ho) x hf
theorem zvq (R:Type) {l:List OpT} (h:∀o∈l,OpOK o) (hr:∀o∈l,Bx o=true) (hL:l.length≤1000) (k0:Int→Option R) (k1:List Int→Option R):∀(m i:Nat) (acc:List Int),i≤l.length→l.length - i<m→acc.length+(encS (l.drop i)).length≤100000→
  zao m R l (l.length:Int) (i:Int) acc k0 k1=k1 (acc++encS (l.drop i))
 | 0,i,acc,_,hh,_=>by omega
 | m+1,i,acc,h1,h2,h3=>by
  simp only [zao,zye]
  by_cases hi:i<l.length
  ·have hoi:=h _ (List.getElem_mem hi)
   have hri:=hr _ (List.getElem_mem hi);obtain ⟨hw,hn⟩:=Om hri;rw [List.drop_eq_getElem_cons hi] at h3 ⊢;have e:encS (l[i]::l.drop (i+1))=Dg l[i]++encS (l.drop (i+1)):=rfl;rw [e,List.length_append] at h3;have ih:=zvq R h hr hL k0 k1 m (i+1) (acc++Dg l[i]) (by omega) (by omega) (by rw [List.length_append]; omega);have c1:decide (acc.length+(Dg l[i]).length≤140737488355328)=true:=by simp; omega
   simp only [Du hi,A7 hi,Int.toNat_natCast,B5 hi hL,Zu hi,zvz R hoi,hri,Bool.not_true,zvx R hoi hw hn,c1];rw [ih,e,List.append_assoc]
  ·have:i=l.length:=by omega
   subst this;have e:encS []=[]:=rfl;simp only [Da,List.drop_length,e,List.append_nil]
theorem F22_eq (R:Type) {l:List OpT} (h:∀o∈l,OpOK o) (hr:∀o∈l,Bx o=true) (hL:l.length≤1000) (k:List Int→Int→Option R):F22 R l k=k (encS l) 0:=by
 have hl:=S4 l h;simp only [F22,p22];have:=zvq R h hr hL (fun x2=>k [] x2) (fun x3=>k x3 0) FUEL 0 [] (by omega) (by rw [Am]; omega) (by rw [List.drop_zero]; simp; omega);rw [List.drop_zero,List.nil_append] at this;exact this
theorem F19_eq (R:Type) {c:Cfg} (hc:cfgS c=true) {a b:List Int} (ha:H32 a) (hb:AllU8 b) (hn:b.length≤100000) (hd:(decS b).length≤100) (k:Led→List An→Int→Option R):F19 R c a b k=k (Ld (newS c a) (decS b)).1 (Ld (newS c a) (decS b)).2 0:=by
 simp only [F19,p19,zv1,hc,if_true];have e1:((0:Int) !=0)=false:=rfl;have e2:decide (((b.length:Nat):Int)>100000)=false:=decide_eq_false (by omega);have e3:decide ((((decS b).length:Nat):Int)>2000)=false:=decide_eq_false (by omega);simp only [e1,e2,zb2 R hb hn,e3];rw [F42_eq R (zuo hc ha) (zkt hb) (by omega)]
end Go.PG
set_option maxRecDepth 100000
namespace Go.PG
abbrev lvC:Cfg:=((2:Int),(1:Int),(1:Int),(64:Int),(1:Int),())
abbrev lvZ:List Int:=List.replicate 32 (0:Int)
abbrev lvD:List Int:=Qh lvZ 0 bV
abbrev lo1:OpT:=((1:Int),(0:Int),(5:Int),bV,(0:Int),())
abbrev lo2:OpT:=((4:Int),(0:Int),(0:Int),SHA bV,(0:Int),())
abbrev lo3:OpT:=((5:Int),(0:Int),(0:Int),bV,(0:Int),())
abbrev lo4:OpT:=((7:Int),(0:Int),(0:Int),lvZ,(0:Int),())
abbrev lo5:OpT:=((6:Int),(0:Int),(0:Int),lvZ,(0:Int),())
abbrev lvO:List OpT:=[lo1,lo2,lo5,lo3,lo5,lo4]
abbrev lv0:Led:=newS lvC lvZ
abbrev lv1:Led:=(lvC,(0:Int),[(bV,(0:Int),(5:Int),())],((0:Int),lvZ,lvZ,[],()),[(-1:Int),(-1:Int)],[],())
abbrev lv2:Led:=(lvC,(0:Int),[(bV,(0:Int),(5:Int),())],((0:Int),lvZ,lvZ,[((0:Int),SHA bV,false,lvZ,())],()),[(-1:Int),(-1:Int)],[],())
abbrev lv3:Led:=(lvC,(1:Int),[(bV,(0:Int),(5:Int),())],((0:Int),lvZ,lvZ,[((0:Int),SHA bV,false,lvZ,())],()),[(-1:Int),(-1:Int)],[],())
abbrev lv4:Led:=(lvC,(1:Int),[(bV,(0:Int),(5:Int),())],((0:Int),lvZ,bV,[((0:Int),SHA bV,true,bV,())],()),[(-1:Int),(-1:Int)],[],())
abbrev lv5:Led:=(lvC,(0:Int),[(bV,(5:Int),(5:Int),())],((1:Int),lvD,lvZ,[],()),[(0:Int),(0:Int)],[],())
theorem lvs0:doS lv0 lo1=(lv1,okS 0):=by kernel_rfl
theorem lvs1:doS lv1 lo2=(lv2,okS 0):=by kernel_rfl
theorem lvs4:doS lv2 lo5=(lv3,okS 1):=by kernel_rfl
theorem lvs5:doS lv3 lo3=(lv4,okS 0):=by kernel_rfl
theorem lvs6:doS lv4 lo5=(lv5,((0:Int),(0:Int),[],lvD,())):=by kernel_rfl
theorem lvs7:doS lv5 lo4=(lv5,((0:Int),(0:Int),[(0:Int)],lvZ,())):=by kernel_rfl
abbrev lvA:List An:=[okS 0,okS 0,okS 1,okS 0,((0:Int),(0:Int),[],lvD,()),((0:Int),(0:Int),[(0:Int)],lvZ,())]
theorem lvP:Ld lv0 lvO=(lv5,lvA):=by
 simp only [Ld,lvs0,lvs1,lvs4,lvs5,lvs6,lvs7]
theorem zup:H32 lvD:=Rb _
theorem Vd:∀o∈lvO,OpOK o:=by
 have a:∀{k n x:Int} {h:List Int},0≤k∧k≤100→0≤n∧n≤100→0≤x∧x≤100→H32 h→OpOK (k,(0:Int),x,h,n,()):=fun h1 h2 h3 h4=>⟨by unfold I64; simp only; omega,by unfold I64; simp only; omega,by unfold U64; simp only; omega,h4,by unfold I64; simp only; omega⟩
 intro o ho;have z:=Ay;simp only [lvO,List.mem_cons,List.not_mem_nil,or_false] at ho;rcases ho with h | h | h | h | h | h<;>rw [h]
 ·exact a (by omega) (by omega) (by omega) zfk
 ·exact a (by omega) (by omega) (by omega) (Rb _)
 ·exact a (by omega) (by omega) (by omega) z
 ·exact a (by omega) (by omega) (by omega) zfk
 ·exact a (by omega) (by omega) (by omega) z
 ·exact a (by omega) (by omega) (by omega) z
end Go.PG
set_option maxRecDepth 100000
namespace Go.PG
theorem zqd {o:OpT} (h1:zcr o=true) (h2:(fsOf o.1).2=true) (h3:Qj o (fsOf o.1).1 (o.1,(0:Int),(0:Int),(List.replicate 32 (0:Int)),(0:Int),())=o):Bx o=true:=by
 unfold Bx;rw [h1,if_pos h2,decide_eq_true h3];rfl
theorem Vc:∀o∈lvO,Bx o=true:=by
 intro o ho;simp only [lvO,List.mem_cons,List.not_mem_nil,or_false] at ho;rcases ho with h | h | h | h | h | h<;>rw [h]<;>exact zqd rfl rfl rfl
theorem zln (f54:FT54) (f55:FT55) (R:Type) (k0:List Bool→List Tq37→Unit→Tq37→Option R):
  G91 f54 f55 FUEL R 0 6 0 [] 2 lvO lvA [] () ((0:Int),lvZ,lvZ,lvZ,()) k0=f54 R [lvZ,bV] fun m=>f55 R lvZ 0 m fun nx=>k0 [] [((0:Int),lvZ,m,nx,())] () ((1:Int),nx,lvZ,lvZ,()):=by
 obtain ⟨m,hm⟩:=Eu 12 (by omega);rw [hm]
 kernel_rfl
theorem lvX:Dt [lvZ,bV]=bV:=by kernel_rfl
theorem znq (R:Type) (k:List Tq37→Option R):F29 R lvC lvZ lvO lvA k=k [((0:Int),lvZ,bV,lvD,())]:=by
 have hz:cfgS lvC=true:=by decide
 have e:∀x∈[lvZ,bV],H32 x:=fun x hx=>by
  simp only [List.mem_cons,List.not_mem_nil,or_false] at hx;rcases hx with h | h<;>rw [h]
  ·exact Ay
  ·exact zfk
 simp only [F29,p29];rw [znp,hz];show (if ((lvA.length:Nat):Int)<((lvO.length:Nat):Int) then ((lvA.length:Nat):Int) else ((lvO.length:Nat):Int)) |> fun lim=>G91 F54 F55 FUEL R 0 lim 0 [] 2 lvO lvA [] () ((0:Int),lvZ,lvZ,lvZ,()) (fun _ folds _ _=>k folds)=_
 have:(if ((lvA.length:Nat):Int)<((lvO.length:Nat):Int) then ((lvA.length:Nat):Int) else ((lvO.length:Nat):Int))=6:=rfl;rw [this];show G91 F54 F55 FUEL R 0 6 0 [] 2 lvO lvA [] () ((0:Int),lvZ,lvZ,lvZ,()) (fun _ folds _ _=>k folds)=_;rw [zln,zvu R e (by decide),lvX,zvt R (show H32 lvZ from Ay) zfk]
theorem F9_eq (R:Type) (k:Bool→Option R):F9 R k=k true:=by
 have hz:cfgS lvC=true:=by decide
 have hd:decS (encS lvO)=lvO:=zks lvO Vd Vc;have hl:(encS lvO).length≤100000:=by have:=S4 lvO Vd; have:lvO.length=6:=rfl; omega
 have e1:F26 R bV=fun k=>k (SHA bV):=funext fun k=>F26_eq R zfk k
 have e2:F22 R lvO=fun k=>k (encS lvO) 0:=funext fun k=>F22_eq R Vd Vc (by decide) k
 have e3:F19 R lvC lvZ (encS lvO)=fun k=>k lv5 lvA 0:=funext fun k=>by
  rw [F19_eq R hz (show H32 lvZ from Ay) (zj6 Vd) hl (by rw [hd]; decide),hd];rw [show Ld (newS lvC lvZ) lvO=(lv5,lvA) from lvP]
 have e4:F13 R (encS lvO)=fun k=>k lvO:=funext fun k=>by rw [zb2 R (zj6 Vd) hl,hd]
 have e5:F29 R lvC lvZ lvO lvA=fun k=>k [((0:Int),lvZ,bV,lvD,())]:=funext fun k=>znq R k
 have e6:F24 R lvZ 0 bV=fun k=>k lvD:=funext fun k=>zvy R Ay zfk (by omega) k
 have e8:F27 R [(0:Int)] [(0:Int)]=fun k=>k true:=funext fun k=>by rw [F27_eq R _ _ (by decide)]; rfl
 have e9:Kd.eqv (.arr 32 (.int .u8)) lvD lvD=true:=(Ep zup.1 zup.1).trans (decide_eq_true rfl);unfold F9 p9;dsimp only;rw [e1];dsimp only;rw [e2];dsimp only;rw [e3];dsimp only;rw [e4];dsimp only;rw [e5];dsimp only;rw [show ((0:Int)==0)=true from rfl,show ((lvA.length:Int)==6)=true from rfl];dsimp only;rw [show bnd (4:Int) (lvA.length:Int)=true from rfl];dsimp only;rw [e6];dsimp only;rw [show (List.getD lvA 4 ((0:Int),(0:Int),([]:(List Int)),(List.replicate 32 (0:Int)),())).2.2.2.1=lvD from rfl,e9];dsimp only;rw [show bnd (5:Int) (lvA.length:Int)=true from rfl];dsimp only
 rw [show (List.getD lvA 5 ((0:Int),(0:Int),([]:(List Int)),(List.replicate 32 (0:Int)),())).2.2.1=[(0:Int)] from rfl,e8];dsimp only;rw [show ((([((0:Int),lvZ,bV,lvD,())]:List Tq37).length:Int)==1)=true from rfl];dsimp only;rw [show bnd (0:Int) (([((0:Int),lvZ,bV,lvD,())]:List Tq37).length:Int)=true from rfl];dsimp only;rw [show (List.getD ([((0:Int),lvZ,bV,lvD,())]:List Tq37) 0 ((0:Int),(List.replicate 32 (0:Int)),(List.replicate 32 (0:Int)),(List.replicate 32 (0:Int)),())).2.2.2.1=lvD from rfl,show Kd.eqv (.arr 32 (.int .u8)) lvD lv5.2.2.2.1.2.1=true from e9];rfl
end Go.PG
namespace Go.PG
theorem do_err (l:Led) (o:OpT):(doS l o).2.1=0∨((doS l o).1=l∧(doS l o).2=badS (doS l o).2.1):=by
 have hb:∀e:Int,(badS e).1=e:=fun _=>rfl
 have hm:∀r,(Cf l r).2.1=0∨((Cf l r).1=l∧(Cf l r).2=badS (Cf l r).2.1):=fun r=>by
  unfold Cf;split
  ·exact .inl rfl
  ·exact .inr ⟨rfl,rfl⟩
 have hs:∀r,(E2 l r).2.1=0∨((E2 l r).1=l∧(E2 l r).2=badS (E2 l r).2.1):=fun r=>by
  unfold E2;split
  ·exact .inl rfl
  ·exact .inr ⟨rfl,rfl⟩
 have ha:(askS l o).1=0∨askS l o=badS (askS l o).1:=by
  unfold askS;split
  ·split
   ·exact .inl rfl
   ·exact .inr rfl
  ·split
   ·exact .inl rfl
   ·split
    ·exact .inr rfl
    ·split
     ·split
      ·exact .inr rfl
      ·split
       ·exact .inl rfl
       ·exact .inr rfl
     ·split
      ·split
       ·exact .inl rfl
       ·exact .inr rfl
      ·split
       ·exact .inl rfl
       ·exact .inr rfl
 unfold doS;split
 ·split
  ·exact hm _
  ·split
   ·exact hm _
   ·split
    ·exact hm _
    ·split
     ·split
      ·exact hs _
      ·exact .inr ⟨rfl,rfl⟩
     ·split
      ·split
       ·exact hs _
       ·exact .inr ⟨rfl,rfl⟩
      ·split
       ·unfold advS
        split
        ·split
         ·exact .inl rfl
         ·exact .inr ⟨rfl,rfl⟩
        ·exact .inl rfl
       ·rcases ha with ha | ha
        ·exact .inl ha
        ·exact .inr ⟨rfl,ha⟩
 ·exact .inr ⟨rfl,rfl⟩
section
variable {c:Cfg} {n:Nat} {l:Led}
end
end Go.PG
namespace Go.PG
theorem do_id {o:OpT} (l:Led) (h:¬(doS l o).2.1=0):(doS l o).1=l:=((do_err l o).resolve_left h).1
end Go.PG
namespace Go.PG
section
variable {c:Cfg} {n:Nat} {l:Led}
end
end Go.PG
namespace Go.PG
section
variable {c:Cfg} {n:Nat} {l:Led}
theorem Q8 {b:Bea} (h:C4 b=true):mixS b.2.2.2.1=b.2.2.1:=by
 unfold C4 at h;rw [Bool.and_eq_true] at h;exact of_decide_eq_true h.2
theorem zfp {b:Bea} {ph w:Int} {x:List Int} (h0:(Ck b ph w x).2=0):C4 b=true∧ph=1∧¬(w<0)∧E1 b.2.2.2.1=true∧Fo b.2.2.2.1 w=false∧(Ck b ph w x).1=(b.1,b.2.1,b.2.2.1,putL b.2.2.2.1 w x,()):=by
 unfold Ck at h0 ⊢;cases hb:C4 b with
 | false=>rw [hb,if_pos rfl] at h0; cases h0
 | true=>
  rw [hb,if_neg (by decide)] at h0;rw [if_neg (by decide)]
  by_cases h2:ph=1
  ·rw [if_pos h2] at h0 ⊢
   unfold Nm at h0 ⊢
   by_cases h3:(Ke b.2.2.2.1 w x).2=0
   ·rw [if_pos h3]
    unfold Ke at h3 ⊢
    by_cases h4:w<0∨E1 b.2.2.2.1=false
    ·rw [if_pos h4] at h3; cases h3
    ·rw [if_neg h4] at h3 ⊢
     cases h5:Fo b.2.2.2.1 w with
     | true=>rw [h5,if_pos rfl] at h3; cases h3
     | false=>
      rw [if_neg (by decide)];have hr:E1 b.2.2.2.1=true:=by
       cases hq:E1 b.2.2.2.1 with
       | true=>rfl
       | false=>exact absurd (.inr hq) h4
      refine ⟨rfl,h2,fun hh=>h4 (.inl hh),hr,rfl,?_⟩;have:mixS (putL b.2.2.2.1 w x)=b.2.2.1:=by unfold mixS; rw [zg5]; exact Q8 hb
      simp only [this]
   ·rw [if_neg h3] at h0; exact absurd h0 h3
  ·rw [if_neg h2] at h0; cases h0
theorem zfm {b:Bea} (hB:Ht b) {ph w:Int} {v:List Int} (hv:H32 v) (h0:(Cj b ph w v).2=0):C4 b=true∧ph=2∧Fo b.2.2.2.1 w=true∧(b.2.2.2.1.getD (Bs b.2.2.2.1 w) zC).2.2.1=false∧SHA v=(b.2.2.2.1.getD (Bs b.2.2.2.1 w) zC).2.1∧
  (Cj b ph w v).1=(b.1,b.2.1,Dt [b.2.2.1,v],setL b.2.2.2.1 (Bs b.2.2.2.1 w) v,()):=by
 unfold Cj at h0 ⊢;cases hb:C4 b with
 | false=>rw [hb,if_pos rfl] at h0; cases h0
 | true=>
  rw [hb,if_neg (by decide)] at h0;rw [if_neg (by decide)]
  by_cases h2:ph=2
  ·rw [if_pos h2] at h0 ⊢
   unfold Nm at h0 ⊢
   by_cases h3:(revS b.2.2.2.1 w v).2=0
   ·rw [if_pos h3]
    unfold revS at h3 ⊢;cases h4:E1 b.2.2.2.1 with
    | false=>rw [h4,if_pos rfl] at h3; cases h3
    | true=>
     rw [h4,if_neg (by decide)] at h3;rw [if_neg (by decide)];cases h5:Fo b.2.2.2.1 w with
     | false=>rw [h5,if_pos rfl] at h3; cases h3
     | true=>
      rw [h5,if_neg (by decide)] at h3;rw [if_neg (by decide)];cases h6:(b.2.2.2.1.getD (Bs b.2.2.2.1 w) zC).2.2.1 with
      | true=>rw [h6,if_pos rfl] at h3; cases h3
      | false=>
       rw [h6,if_neg (by decide)] at h3;rw [if_neg (by decide)]
       by_cases h7:SHA v=(b.2.2.2.1.getD (Bs b.2.2.2.1 w) zC).2.1
       ·rw [if_pos h7]
        refine ⟨rfl,h2,rfl,rfl,h7,?_⟩;have:=zp6 hB.cs (zpy h5).1 h6 hv;rw [Q8 hb] at this;simp only [this]
       ·rw [if_neg h7] at h3; cases h3
   ·rw [if_neg h3] at h0; exact absurd h0 h3
  ·rw [if_neg h2] at h0; cases h0
theorem bEnd_is {b:Bea} (h0:(bEnd b).2.2.2=0):C4 b=true∧b.1≠18446744073709551615∧(bEnd b).1=(b.1+1,Qh b.2.1 b.1 b.2.2.1,Ce,[],())∧(bEnd b).2.2.1=Gd b.2.2.2.1:=by
 unfold bEnd at h0 ⊢;cases hb:C4 b with
 | false=>rw [hb,if_pos rfl] at h0; cases h0
 | true=>
  rw [hb,if_neg (by decide)] at h0;rw [if_neg (by decide)]
  by_cases h1:b.1=18446744073709551615
  ·rw [if_pos h1] at h0; cases h0
  ·rw [if_neg h1]
   exact ⟨rfl,h1,rfl,rfl⟩
theorem zcm (l:Led) (r:Bea×Int):(E2 l r).2.1=r.2:=by
 unfold E2;split
 ·rename_i h; rw [h]; rfl
 ·rfl
theorem zkp {l:Led} {o:OpT} (he:(doS l o).2.1=0):Bx o=true∧o.1≠0:=by
 by_cases hh:Bx o=true∧o.1≠0
 ·exact hh
 ·unfold doS at he; rw [if_neg hh] at he; cases he
theorem do_4 {l:Led} {o:OpT} (hm:Bx o=true∧o.1≠0) (h:o.1=4):doS l o=(if Cy l o.2.1=true then E2 l (Ck l.2.2.2.1 (phS l.1 l.2.1) o.2.1 o.2.2.2.1) else (l,badS 5)):=by
 unfold doS; rw [if_pos hm,if_neg (by omega),if_neg (by omega),if_neg (by omega),if_pos h]
theorem do_5 {l:Led} {o:OpT} (hm:Bx o=true∧o.1≠0) (h:o.1=5):doS l o=(if Cy l o.2.1=true then E2 l (Cj l.2.2.2.1 (phS l.1 l.2.1) o.2.1 o.2.2.2.1) else (l,badS 5)):=by
 unfold doS; rw [if_pos hm,if_neg (by omega),if_neg (by omega),if_neg (by omega),if_neg (by omega),if_pos h]
theorem do_6 {l:Led} {o:OpT} (hm:Bx o=true∧o.1≠0) (h:o.1=6):doS l o=advS l:=by
 unfold doS; rw [if_pos hm,if_neg (by omega),if_neg (by omega),if_neg (by omega),if_neg (by omega),if_neg (by omega),if_pos h]
theorem zkq {o:OpT} (h4:o.1=4) (he:(doS l o).2.1=0):Cy l o.2.1=true∧C4 l.2.2.2.1=true∧phS l.1 l.2.1=1∧E1 l.2.2.2.1.2.2.2.1=true∧Fo l.2.2.2.1.2.2.2.1 o.2.1=false∧
  (doS l o).1=(l.1,l.2.1,l.2.2.1,(l.2.2.2.1.1,l.2.2.2.1.2.1,l.2.2.2.1.2.2.1,putL l.2.2.2.1.2.2.2.1 o.2.1 o.2.2.2.1,()),l.2.2.2.2):=by
 have hm:=zkp he;rw [do_4 hm h4] at he ⊢;cases ht:Cy l o.2.1 with
 | false=>rw [ht,if_neg (by decide)] at he; cases he
 | true=>
  rw [ht,if_pos rfl,zcm] at he;rw [if_pos rfl];obtain ⟨q1,q2,_,q3,q4,q5⟩:=zfp he;refine ⟨rfl,q1,q2,q3,q4,?_⟩;unfold E2;rw [if_pos he,q5]
theorem zko (h:LOK c n l) {o:OpT} (ho:OpOK o) (h5:o.1=5) (he:(doS l o).2.1=0):Cy l o.2.1=true∧C4 l.2.2.2.1=true∧phS l.1 l.2.1=2∧Fo l.2.2.2.1.2.2.2.1 o.2.1=true∧(l.2.2.2.1.2.2.2.1.getD (Bs l.2.2.2.1.2.2.2.1 o.2.1) zC).2.2.1=false∧SHA o.2.2.2.1=(l.2.2.2.1.2.2.2.1.getD (Bs l.2.2.2.1.2.2.2.1 o.2.1) zC).2.1∧
  (doS l o).1=(l.1,l.2.1,l.2.2.1,(l.2.2.2.1.1,l.2.2.2.1.2.1,Dt [l.2.2.2.1.2.2.1,o.2.2.2.1],setL l.2.2.2.1.2.2.2.1 (Bs l.2.2.2.1.2.2.2.1 o.2.1) o.2.2.2.1,()),l.2.2.2.2):=by
 have hm:=zkp he;rw [do_5 hm h5] at he ⊢;cases ht:Cy l o.2.1 with
 | false=>rw [ht,if_neg (by decide)] at he; cases he
 | true=>
  rw [ht,if_pos rfl,zcm] at he;rw [if_pos rfl];obtain ⟨q1,q2,q3,q4,q5,q6⟩:=zfm h.bea ho.hash he;refine ⟨rfl,q1,q2,q3,q4,q5,?_⟩;unfold E2;rw [if_pos he,q6]
theorem do_adv (h:LOK c n l) {o:OpT} (h6:o.1=6) (he:(doS l o).2.1=0):
  (l.2.1+1=c.1∧C4 l.2.2.2.1=true∧l.2.2.2.1.1≠18446744073709551615∧(doS l o).1.2.1=0∧(doS l o).1.2.2.1=actS l.2.2.1∧(doS l o).1.2.2.2.1=(l.2.2.2.1.1+1,Qh l.2.2.2.1.2.1 l.2.2.2.1.1 l.2.2.2.1.2.2.1,Ce,[],())∧(doS l o).1.2.2.2.2.2.1=Gd l.2.2.2.1.2.2.2.1∧(doS l o).2.2.2.1=Gd l.2.2.2.1.2.2.2.1)∨
  (l.2.1+1≠c.1∧(doS l o).1=(l.1,l.2.1+1,l.2.2)):=by
 have hm:=zkp he;rw [do_6 hm h6] at he ⊢;have hs:=h.slot;have hp:phS l.1 l.2.1≠0:=fun e=>Sm.1 e ⟨by rw [h.cfg]; exact h.right,by rw [h.cfg]; exact hs⟩
 have hcf:l.1.1=c.1:=by rw [h.cfg]
 unfold advS at he ⊢
 by_cases h1:zj5 l.1 l.2.1=true
 ·rw [if_pos h1] at he ⊢
  have hl:=(of_decide_eq_true h1).2
  by_cases h2:(bEnd l.2.2.2.1).2.2.2=0
  ·rw [if_pos h2]
   obtain ⟨q1,q2,q3,q4⟩:=bEnd_is h2;have hn:Kl l.1 l.2.1=0:=by unfold Kl; rw [if_pos (.inr hl)]
   exact .inl ⟨by omega,q1,q2,hn,rfl,q3,q4,q4⟩
  ·rw [if_neg h2] at he; exact absurd he h2
 ·rw [if_neg h1]
  have hn:¬l.2.1=l.1.1 - 1:=fun e=>h1 (decide_eq_true ⟨hp,e⟩)
  have hx:Kl l.1 l.2.1=l.2.1+1:=by
   unfold Kl;rw [if_neg (fun hh=>hh.elim hp hn)]
  exact .inr ⟨by omega,by rw [hx]⟩
theorem do_else {o:OpT} (h4:o.1≠4) (h5:o.1≠5) (h6:o.1≠6):(doS l o).1.2.1=l.2.1∧(doS l o).1.2.2.2=l.2.2.2:=by
 have hmo:∀r,(Cf l r).1.2.1=l.2.1∧(Cf l r).1.2.2.2=l.2.2.2:=fun r=>by unfold Cf; split<;>exact ⟨rfl,rfl⟩
 unfold doS;split
 ·split
  ·exact hmo _
  ·split
   ·exact hmo _
   ·split
    ·exact hmo _
    ·exact ⟨rfl,rfl⟩
 ·exact ⟨rfl,rfl⟩
theorem Iw {a:List Int} (h:H32 a):Kd.eqv (.arr 32 (.int .u8)) a a=true:=(Ep h.1 h.1).trans (decide_eq_true rfl)
theorem N5 {a:Int}:(a !=a)=false:=by simp
theorem G6_eq (R:Type) {ops:List OpT} (ho:∀o∈ops,OpOK o) (hL:ops.length≤60) (k0:Bool→Option R) (k1:Option R):∀(m i:Nat) {n:Nat} (l:Led),LOK c n l→n+(ops.length - i)≤99→i≤ops.length→ops.length - i<m→
  zah m R ops l.2.2.2.1.1 l.2.1 (i:Int) c l l.2.2.2.1.2.1 l.2.2.2.1.2.2.1 k0 k1=k1
 | 0,i,n,l,_,_,_,h=>by omega
 | m+1,i,n,l,h,hn,h1,h2=>by
  simp only [zah,zx4]
  by_cases hi:i<ops.length
  ·have hoi:=ho _ (List.getElem_mem hi)
   have h':=do_ok h (by omega) hoi;have ih:=G6_eq R ho hL k0 k1 m (i+1) (n:=n+1) (doS l ops[i]).1 h' (by omega) (by omega) (by omega);have hb:=h.bea;have hep:=hb.ep;have hsl:=h.slot;have hc1:=C2 h.right;have w1:IntKind.i64.wrap (l.2.1+1)=l.2.1+1:=wrap_i64 (by omega) (by omega);simp only [Du hi,A7 hi,Int.toNat_natCast,B5 hi (show ops.length≤1000 by omega),Zu hi,zv0 R h (show n≤100 by omega) hoi]
   by_cases he:(doS l ops[i]).2.1=0
   ·simp only [Ta he]
    by_cases k5:ops[i].1=5
    ·obtain ⟨_,_,_,_,_,_,q⟩:=zko h hoi k5 he
     have b5:(ops[i].1==5)=true:=by rw [k5]; rfl
     have b6:(ops[i].1==6)=false:=by rw [k5]; rfl
     have hx:∀x∈[l.2.2.2.1.2.2.1,ops[i].2.2.2.1],H32 x:=fun x hx=>by
      simp only [List.mem_cons,List.not_mem_nil,or_false] at hx;rcases hx with e | e<;>rw [e]
      ·exact hb.mix
      ·exact hoi.hash
     simp only [b5,b6,F23_eq R hx (show _≤1000000000 by simp)];rw [q] at ih ⊢;simp only [Iw hb.seed,Bool.not_true,N5];exact ih
    ·simp only [A1 k5]
     by_cases k6:ops[i].1=6
     ·have b6:(ops[i].1==6)=true:=by rw [k6]; rfl
      simp only [b6,w1];rcases do_adv h k6 he with ⟨q1,_,q3,q4,_,q6,_⟩ | ⟨q1,q2⟩
      ·have e1:(l.2.1+1==c.1)=true:=by rw [q1]; simp
       have w2:IntKind.u64.wrap (l.2.2.2.1.1+1)=l.2.2.2.1.1+1:=by rw [Co]; omega
       simp only [e1,zvy R hb.seed hb.mix (show 0≤l.2.2.2.1.1∧l.2.2.2.1.1<18446744073709551616 from hep)];rw [q4,q6] at ih ⊢;simp only [Iw (show H32 (Qh l.2.2.2.1.2.1 l.2.2.2.1.1 l.2.2.2.1.2.2.1) from Rb _),w2,Bool.not_true,N5];exact ih
      ·have e1:(l.2.1+1==c.1)=false:=A1 q1
       simp only [e1];rw [q2] at ih ⊢;simp only [Iw hb.seed,Bool.not_true,N5];exact ih
     ·simp only [A1 k6]
      have q:(doS l ops[i]).1.2.1=l.2.1∧(doS l ops[i]).1.2.2.2.1.1=l.2.2.2.1.1∧(doS l ops[i]).1.2.2.2.1.2.1=l.2.2.2.1.2.1∧(doS l ops[i]).1.2.2.2.1.2.2.1=l.2.2.2.1.2.2.1:=by
       by_cases k4:ops[i].1=4
       ·obtain ⟨_,_,_,_,_,q⟩:=zkq k4 he
        rw [q];exact ⟨rfl,rfl,rfl,rfl⟩
       ·obtain ⟨q1,q2⟩:=do_else (l:=l) k4 k5 k6
        rw [q1,q2];exact ⟨rfl,rfl,rfl,rfl⟩
      obtain ⟨q1,q2,q3,q4⟩:=q;rw [q1,q2,q3,q4] at ih;simp only [q1,q2,q3,Iw hb.seed,Bool.not_true,N5];exact ih
   ·simp only [Z3 he]
    rw [do_id l he] at ih ⊢;exact ih
  ·have:i=ops.length:=by omega
   subst this;simp only [Da]
theorem F6_eq' (R:Type) {a:List Int} (ha:AllU8 a) {s:List Int} (hs:H32 s) {b:List Int} (hb:AllU8 b) (k:Bool→Option R):F6 R a s b k=k true:=by
 simp only [F6,p6,F9_eq,Bool.not_true,F10_eq R hb]
 by_cases h1:b.length≤1500
 ·by_cases h2:(decS b).length≤60
  ·rw [decide_eq_true h1,decide_eq_true h2]
   have hc:=ztw a;simp only [Bool.true_and,Bool.not_true,F12_eq R ha,zv1,hc.1,if_true,zb2 R hb (show b.length≤100000 by omega)];exact G6_eq R (zkt hb) h2 (fun x8=>k x8) (k true) FUEL 0 (n:=0) _ (zuo hc.1 hs) (by omega) (by omega) (by rw [Am]; omega)
  ·rw [decide_eq_false h2,Bool.and_false]
   rfl
 ·rw [decide_eq_false h1]
  rfl
end
end Go.PG
end
