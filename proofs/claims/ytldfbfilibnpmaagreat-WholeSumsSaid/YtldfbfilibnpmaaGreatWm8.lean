/- A part of the proof over this seat (own work; the framework that reads a Go function as a pure one, or a use of it). No condition of its own. -/
import Derived.Test.YtldfbfilibnpmaaGreatWm7
import Derived.KernelRfl
set_option linter.unusedVariables false
set_option linter.unusedSimpArgs false
set_option linter.unusedSectionVars false
noncomputable section
namespace Go.PG
theorem zth {a:Int} (h:U64 a):beN (putS a)=a:=by
 unfold U64 at h;simp [beN,putS];omega
theorem Q0 {a:Int} (h:U32 a):beN (Bs a)=a:=by
 unfold U32 at h;simp [beN,Bs];omega
theorem zd6 {o:OpT} (h:OpOK o) (hw:U32 o.2.1) (hn:U32 o.2.2.2.2.1) (c:OpT) (f:Fd) (r:List Int):Ng (C1 o f++r) c f=R6 o c f:=by
 cases f with
 | H=>
  simp only [Ng,C1,R6];rw [←h.hash.1,List.take_left]
 | A=>
  simp only [Ng,C1,R6];rw [show (8:Nat)=(putS o.2.2.1).length from rfl,List.take_left,zth h.amount]
 | W=>
  simp only [Ng,C1,R6];rw [show (4:Nat)=(Bs o.2.1).length from rfl,List.take_left,Q0 hw]
 | N=>
  simp only [Ng,C1,R6];rw [show (4:Nat)=(Bs o.2.2.2.2.1).length from rfl,List.take_left,Q0 hn]
theorem Qv {o:OpT} (h:OpOK o) (hw:U32 o.2.1) (hn:U32 o.2.2.2.2.1) (r:List Int):∀(l:List Fd) (c:OpT),Ou l (Dg o l++r) c=Qc o l c
 | [],c=>rfl
 | f::l,c=>by
  rw [Iu,List.append_assoc,Ou,zd6 h hw hn,←H1 h f,List.drop_left,Qv h hw hn r l];rfl
theorem Oc {o:OpT} (h:B3 o=true):U32 o.2.1∧U32 o.2.2.2.2.1:=by
 unfold B3 zcd at h;rw [Bool.and_eq_true,decide_eq_true_eq] at h;unfold U32;omega
theorem zhs {o:OpT} (h:OpOK o) (hr:B3 o=true) (r:List Int):∃x t,De o=x::t∧oneS x (t++r)=(o,r):=by
 obtain ⟨hw,hn⟩:=Oc hr;unfold B3 at hr;rw [Bool.and_eq_true] at hr;have hr:=hr.2;unfold De;cases hv:(fsOf o.1).2 with
 | true=>
  rw [if_pos hv,decide_eq_true_eq] at hr;have hk:=Ir hv;have em:o.1 % 256=o.1:=by omega
  rw [if_pos rfl,em];refine ⟨_,_,rfl,?_⟩;unfold oneS;rw [if_pos hv,if_pos (by rw [List.length_append,Gl h]; omega),Qv h hw hn,←Gl h,List.drop_left];exact Prod.ext hr rfl
 | false=>
  rw [hv,if_neg (by decide),decide_eq_true_eq] at hr;obtain ⟨h1,h2,h3⟩:=hr;have em:o.2.2.2.2.1 % 256=o.2.2.2.2.1:=by unfold U32 at hn; omega
  rw [if_neg (by decide),em];refine ⟨_,_,rfl,?_⟩;unfold oneS;rw [if_neg (by rw [h2]; decide)];exact Prod.ext h3.symm rfl
def encS (l:List OpT):List Int:=l.flatMap De
theorem zj9:∀(l:List OpT),(∀o∈l,OpOK o)→(∀o∈l,B3 o=true)→decS (encS l)=l
 | [],_,_=>rfl
 | o::l,h,hr=>by
  obtain ⟨x,t,e,q⟩:=zhs (h o (by simp)) (hr o (by simp)) (encS l);have:encS (o::l)=x::(t++encS l):=by
   show De o++encS l=_;rw [e];rfl
  rw [this,O2,q,zj9 l (fun o ho=>h o (by simp [ho])) (fun o ho=>hr o (by simp [ho]))]
theorem ze6 {o:OpT} (h:OpOK o):(De o).length≤65:=by
 unfold De;split
 ·have:=Gl h (fsOf o.1).1
  have h2:=R4 (fsOf o.1).1;have h3:=Ct o.1;rw [List.length_cons];omega
 ·simp
theorem Sr:∀(l:List OpT),(∀o∈l,OpOK o)→(encS l).length≤65*l.length
 | [],_=>by simp [encS]
 | o::l,h=>by
  have:=Sr l (fun o ho=>h o (by simp [ho]));have h2:=ze6 (h o (by simp));show (De o++encS l).length≤_;rw [List.length_append,List.length_cons];omega
theorem ztg {o:OpT} (h:OpOK o) (f:Fd):AllU8 (C1 o f):=by
 have u:∀x:Int,U8 (x % 256):=fun x=>by unfold U8; omega
 cases f with
 | H=>exact h.hash.2
 | A=>intro x hx; simp only [C1,putS,List.mem_cons,List.not_mem_nil,or_false] at hx; rcases hx with e | e | e | e | e | e | e | e<;>rw [e]<;>exact u _
 | W=>intro x hx; simp only [C1,Bs,List.mem_cons,List.not_mem_nil,or_false] at hx; rcases hx with e | e | e | e<;>rw [e]<;>exact u _
 | N=>intro x hx; simp only [C1,Bs,List.mem_cons,List.not_mem_nil,or_false] at hx; rcases hx with e | e | e | e<;>rw [e]<;>exact u _
theorem zkh {o:OpT} (h:OpOK o):AllU8 (De o):=by
 have u:∀x:Int,U8 (x % 256):=fun x=>by unfold U8; omega
 unfold De;split
 ·intro x hx
  rcases List.mem_cons.1 hx with e | hx
  ·rw [e]; exact u _
  ·obtain ⟨f,_,hf⟩:=List.mem_flatMap.1 hx
   exact ztg h f x hf
 ·intro x hx
  rw [List.mem_singleton.1 hx]; exact u _
theorem zjq {l:List OpT} (h:∀o∈l,OpOK o):AllU8 (encS l):=by
 intro x hx;obtain ⟨o,ho,hf⟩:=List.mem_flatMap.1 hx;exact zkh (h o ho) x hf
theorem zu7 (R:Type) {l:List OpT} (h:∀o∈l,OpOK o) (hr:∀o∈l,B3 o=true) (hL:l.length≤1000) (k0:Int→Option R) (k1:List Int→Option R):∀(m i:Nat) (acc:List Int),i≤l.length→l.length - i<m→acc.length+(encS (l.drop i)).length≤100000→
  Z8 m R l (l.length:Int) (i:Int) acc k0 k1=k1 (acc++encS (l.drop i))
 | 0,i,acc,_,hh,_=>by omega
 | m+1,i,acc,h1,h2,h3=>by
  simp only [Z8,zxw]
  by_cases hi:i<l.length
  ·have hoi:=h _ (List.getElem_mem hi)
   have hri:=hr _ (List.getElem_mem hi);obtain ⟨hw,hn⟩:=Oc hri;rw [List.drop_eq_getElem_cons hi] at h3 ⊢;have e:encS (l[i]::l.drop (i+1))=De l[i]++encS (l.drop (i+1)):=rfl;rw [e,List.length_append] at h3;have ih:=zu7 R h hr hL k0 k1 m (i+1) (acc++De l[i]) (by omega) (by omega) (by rw [List.length_append]; omega);have c1:decide (acc.length+(De l[i]).length≤140737488355328)=true:=by simp; omega
   simp only [Dc hi,A5 hi,Int.toNat_natCast,By hi hL,Zg hi,zvh R hoi,hri,Bool.not_true,zvg R hoi hw hn,c1];rw [ih,e,List.append_assoc]
  ·have:i=l.length:=by omega
   subst this;have e:encS []=[]:=rfl;simp only [Co,List.drop_length,e,List.append_nil]
theorem F22_eq (R:Type) {l:List OpT} (h:∀o∈l,OpOK o) (hr:∀o∈l,B3 o=true) (hL:l.length≤1000) (k:List Int→Int→Option R):F22 R l k=k (encS l) 0:=by
 have hl:=Sr l h;simp only [F22,p22];have:=zu7 R h hr hL (fun x2=>k [] x2) (fun x3=>k x3 0) FUEL 0 [] (by omega) (by rw [Am]; omega) (by rw [List.drop_zero]; simp; omega);rw [List.drop_zero,List.nil_append] at this;exact this
theorem F19_eq (R:Type) {c:Cfg} (hc:cfgS c=true) {a b:List Int} (ha:H32 a) (hb:AllU8 b) (hn:b.length≤100000) (hd:(decS b).length≤100) (k:Led→List An→Int→Option R):F19 R c a b k=k (K5 (newS c a) (decS b)).1 (K5 (newS c a) (decS b)).2 0:=by
 simp only [F19,p19,zvj,hc,if_true];have e1:((0:Int) !=0)=false:=rfl;have e2:decide (((b.length:Nat):Int)>100000)=false:=decide_eq_false (by omega);have e3:decide ((((decS b).length:Nat):Int)>2000)=false:=decide_eq_false (by omega);simp only [e1,e2,zbp R hb hn,e3];rw [F42_eq R (zt6 hc ha) (zka hb) (by omega)]
end Go.PG
set_option maxRecDepth 100000
namespace Go.PG
abbrev lvC:Cfg:=((2:Int),(1:Int),(1:Int),(64:Int),(1:Int),())
abbrev lvZ:List Int:=List.replicate 32 (0:Int)
abbrev lvD:List Int:=Xl lvZ 0 bV
abbrev lo1:OpT:=((1:Int),(0:Int),(5:Int),bV,(0:Int),())
abbrev lo2:OpT:=((4:Int),(0:Int),(0:Int),SHA bV,(0:Int),())
abbrev lo3:OpT:=((5:Int),(0:Int),(0:Int),bV,(0:Int),())
abbrev lo4:OpT:=((7:Int),(0:Int),(0:Int),lvZ,(0:Int),())
abbrev lo5:OpT:=((6:Int),(0:Int),(0:Int),lvZ,(0:Int),())
abbrev lvO:List OpT:=[lo1,lo2,lo5,lo3,lo5,lo4]
abbrev lv0:Led:=newS lvC lvZ
abbrev lv1:Led:=(lvC,(0:Int),[(bV,(0:Int),(5:Int),())],((0:Int),lvZ,lvZ,[],()),[(-1:Int),(-1:Int)],[],())
abbrev lv2:Led:=(lvC,(0:Int),[(bV,(0:Int),(5:Int),())],((0:Int),lvZ,lvZ,[((0:Int),SHA bV,false,lvZ,())],()),[(-1:Int),(-1:Int)],[],())
abbrev lv3:Led:=(lvC,(1:Int),[(bV,(0:Int),(5:Int),())],((0:Int),lvZ,lvZ,[((0:Int),SHA bV,false,lvZ,())],()),[(-1:Int),(-1:Int)],[],())
abbrev lv4:Led:=(lvC,(1:Int),[(bV,(0:Int),(5:Int),())],((0:Int),lvZ,bV,[((0:Int),SHA bV,true,bV,())],()),[(-1:Int),(-1:Int)],[],())
abbrev lv5:Led:=(lvC,(0:Int),[(bV,(5:Int),(5:Int),())],((1:Int),lvD,lvZ,[],()),[(0:Int),(0:Int)],[],())
theorem lvs0:doS lv0 lo1=(lv1,okS 0):=by kernel_rfl
theorem lvs1:doS lv1 lo2=(lv2,okS 0):=by kernel_rfl
theorem lvs4:doS lv2 lo5=(lv3,okS 1):=by kernel_rfl
theorem lvs5:doS lv3 lo3=(lv4,okS 0):=by kernel_rfl
theorem lvs6:doS lv4 lo5=(lv5,((0:Int),(0:Int),[],lvD,())):=by kernel_rfl
theorem lvs7:doS lv5 lo4=(lv5,((0:Int),(0:Int),[(0:Int)],lvZ,())):=by kernel_rfl
abbrev lvA:List An:=[okS 0,okS 0,okS 1,okS 0,((0:Int),(0:Int),[],lvD,()),((0:Int),(0:Int),[(0:Int)],lvZ,())]
theorem lvP:K5 lv0 lvO=(lv5,lvA):=by
 simp only [K5,lvs0,lvs1,lvs4,lvs5,lvs6,lvs7]
theorem zt7:H32 lvD:=V5 _
theorem Uz:∀o∈lvO,OpOK o:=by
 have a:∀{k n x:Int} {h:List Int},0≤k∧k≤100→0≤n∧n≤100→0≤x∧x≤100→H32 h→OpOK (k,(0:Int),x,h,n,()):=fun h1 h2 h3 h4=>⟨by unfold I64; simp only; omega,by unfold I64; simp only; omega,by unfold U64; simp only; omega,h4,by unfold I64; simp only; omega⟩
 intro o ho;have z:=A3;simp only [lvO,List.mem_cons,List.not_mem_nil,or_false] at ho;rcases ho with h | h | h | h | h | h<;>rw [h]
 ·exact a (by omega) (by omega) (by omega) ze7
 ·exact a (by omega) (by omega) (by omega) (V5 _)
 ·exact a (by omega) (by omega) (by omega) z
 ·exact a (by omega) (by omega) (by omega) ze7
 ·exact a (by omega) (by omega) (by omega) z
 ·exact a (by omega) (by omega) (by omega) z
end Go.PG
set_option maxRecDepth 100000
namespace Go.PG
theorem zpw {o:OpT} (h1:zcd o=true) (h2:(fsOf o.1).2=true) (h3:Qc o (fsOf o.1).1 (o.1,(0:Int),(0:Int),(List.replicate 32 (0:Int)),(0:Int),())=o):B3 o=true:=by
 unfold B3;rw [h1,if_pos h2,decide_eq_true h3];rfl
theorem Uy:∀o∈lvO,B3 o=true:=by
 intro o ho;simp only [lvO,List.mem_cons,List.not_mem_nil,or_false] at ho;rcases ho with h | h | h | h | h | h<;>rw [h]<;>exact zpw rfl rfl rfl
theorem zk5 (f54:FT54) (f55:FT55) (R:Type) (k0:List Bool→List Tq37→Unit→Tq37→Option R):
  G91 f54 f55 FUEL R 0 6 0 [] 2 lvO lvA [] () ((0:Int),lvZ,lvZ,lvZ,()) k0=f54 R [lvZ,bV] fun m=>f55 R lvZ 0 m fun nx=>k0 [] [((0:Int),lvZ,m,nx,())] () ((1:Int),nx,lvZ,lvZ,()):=by
 obtain ⟨m,hm⟩:=En 12 (by omega);rw [hm]
 kernel_rfl
theorem lvX:Ts [lvZ,bV]=bV:=by kernel_rfl
theorem zm9 (R:Type) (k:List Tq37→Option R):F29 R lvC lvZ lvO lvA k=k [((0:Int),lvZ,bV,lvD,())]:=by
 have hz:cfgS lvC=true:=by decide
 have e:∀x∈[lvZ,bV],H32 x:=fun x hx=>by
  simp only [List.mem_cons,List.not_mem_nil,or_false] at hx;rcases hx with h | h<;>rw [h]
  ·exact A3
  ·exact ze7
 simp only [F29,p29];rw [zm8,hz];show (if ((lvA.length:Nat):Int)<((lvO.length:Nat):Int) then ((lvA.length:Nat):Int) else ((lvO.length:Nat):Int)) |> fun lim=>G91 F54 F55 FUEL R 0 lim 0 [] 2 lvO lvA [] () ((0:Int),lvZ,lvZ,lvZ,()) (fun _ folds _ _=>k folds)=_
 have:(if ((lvA.length:Nat):Int)<((lvO.length:Nat):Int) then ((lvA.length:Nat):Int) else ((lvO.length:Nat):Int))=6:=rfl;rw [this];show G91 F54 F55 FUEL R 0 6 0 [] 2 lvO lvA [] () ((0:Int),lvZ,lvZ,lvZ,()) (fun _ folds _ _=>k folds)=_;rw [zk5,zvd R e (by decide),lvX,zvc R (show H32 lvZ from A3) ze7]
theorem F9_eq (R:Type) (k:Bool→Option R):F9 R k=k true:=by
 have hz:cfgS lvC=true:=by decide
 have hd:decS (encS lvO)=lvO:=zj9 lvO Uz Uy;have hl:(encS lvO).length≤100000:=by have:=Sr lvO Uz; have:lvO.length=6:=rfl; omega
 have e1:F26 R bV=fun k=>k (SHA bV):=funext fun k=>F26_eq R ze7 k
 have e2:F22 R lvO=fun k=>k (encS lvO) 0:=funext fun k=>F22_eq R Uz Uy (by decide) k
 have e3:F19 R lvC lvZ (encS lvO)=fun k=>k lv5 lvA 0:=funext fun k=>by
  rw [F19_eq R hz (show H32 lvZ from A3) (zjq Uz) hl (by rw [hd]; decide),hd];rw [show K5 (newS lvC lvZ) lvO=(lv5,lvA) from lvP]
 have e4:F13 R (encS lvO)=fun k=>k lvO:=funext fun k=>by rw [zbp R (zjq Uz) hl,hd]
 have e5:F29 R lvC lvZ lvO lvA=fun k=>k [((0:Int),lvZ,bV,lvD,())]:=funext fun k=>zm9 R k
 have e6:F24 R lvZ 0 bV=fun k=>k lvD:=funext fun k=>F24_eq R A3 ze7 (by omega) k
 have e8:F27 R [(0:Int)] [(0:Int)]=fun k=>k true:=funext fun k=>by rw [F27_eq R _ _ (by decide)]; rfl
 have e9:Kd.eqv (.arr 32 (.int .u8)) lvD lvD=true:=(Fr zt7.1 zt7.1).trans (decide_eq_true rfl);unfold F9 p9;dsimp only;rw [e1];dsimp only;rw [e2];dsimp only;rw [e3];dsimp only;rw [e4];dsimp only;rw [e5];dsimp only;rw [show ((0:Int)==0)=true from rfl,show ((lvA.length:Int)==6)=true from rfl];dsimp only;rw [show bnd (4:Int) (lvA.length:Int)=true from rfl];dsimp only;rw [e6];dsimp only;rw [show (List.getD lvA 4 ((0:Int),(0:Int),([]:(List Int)),(List.replicate 32 (0:Int)),())).2.2.2.1=lvD from rfl,e9];dsimp only;rw [show bnd (5:Int) (lvA.length:Int)=true from rfl];dsimp only
 rw [show (List.getD lvA 5 ((0:Int),(0:Int),([]:(List Int)),(List.replicate 32 (0:Int)),())).2.2.1=[(0:Int)] from rfl,e8];dsimp only;rw [show ((([((0:Int),lvZ,bV,lvD,())]:List Tq37).length:Int)==1)=true from rfl];dsimp only;rw [show bnd (0:Int) (([((0:Int),lvZ,bV,lvD,())]:List Tq37).length:Int)=true from rfl];dsimp only;rw [show (List.getD ([((0:Int),lvZ,bV,lvD,())]:List Tq37) 0 ((0:Int),(List.replicate 32 (0:Int)),(List.replicate 32 (0:Int)),(List.replicate 32 (0:Int)),())).2.2.2.1=lvD from rfl,show Kd.eqv (.arr 32 (.int .u8)) lvD lv5.2.2.2.1.2.1=true from e9];rfl
end Go.PG
namespace Go.PG
theorem do_err (l:Led) (o:OpT):(doS l o).2.1=0∨((doS l o).1=l∧(doS l o).2=badS (doS l o).2.1):=by
 have hb:∀e:Int,(badS e).1=e:=fun _=>rfl
 have hm:∀r,(Bz l r).2.1=0∨((Bz l r).1=l∧(Bz l r).2=badS (Bz l r).2.1):=fun r=>by
  unfold Bz;split
  ·exact .inl rfl
  ·exact .inr ⟨rfl,rfl⟩
 have hs:∀r,(Gf l r).2.1=0∨((Gf l r).1=l∧(Gf l r).2=badS (Gf l r).2.1):=fun r=>by
  unfold Gf;split
  ·exact .inl rfl
  ·exact .inr ⟨rfl,rfl⟩
 have ha:(askS l o).1=0∨askS l o=badS (askS l o).1:=by
  unfold askS;split
  ·split
   ·exact .inl rfl
   ·exact .inr rfl
  ·split
   ·exact .inl rfl
   ·split
    ·exact .inr rfl
    ·split
     ·split
      ·exact .inr rfl
      ·split
       ·exact .inl rfl
       ·exact .inr rfl
     ·split
      ·split
       ·exact .inl rfl
       ·exact .inr rfl
      ·split
       ·exact .inl rfl
       ·exact .inr rfl
 unfold doS;split
 ·split
  ·exact hm _
  ·split
   ·exact hm _
   ·split
    ·exact hm _
    ·split
     ·split
      ·exact hs _
      ·exact .inr ⟨rfl,rfl⟩
     ·split
      ·split
       ·exact hs _
       ·exact .inr ⟨rfl,rfl⟩
      ·split
       ·unfold advS
        split
        ·split
         ·exact .inl rfl
         ·exact .inr ⟨rfl,rfl⟩
        ·exact .inl rfl
       ·rcases ha with ha | ha
        ·exact .inl ha
        ·exact .inr ⟨rfl,ha⟩
 ·exact .inr ⟨rfl,rfl⟩
section
variable {c:Cfg} {n:Nat} {l:Led}
end
end Go.PG
namespace Go.PG
theorem do_id {o:OpT} (l:Led) (h:¬(doS l o).2.1=0):(doS l o).1=l:=((do_err l o).resolve_left h).1
end Go.PG
namespace Go.PG
section
variable {c:Cfg} {n:Nat} {l:Led}
theorem Ol (l:Led) (r:List Va×Int×Int):(Bz l r).2.1=r.2.2:=by
 unfold Bz;split
 ·rename_i h; rw [h]; rfl
 ·rfl
theorem dep_tot {v:List Va} (hv:VsOK v) {key:List Int} {a most:Int} (h0:(depS v key a most).2.2=0):totS (Ap (depS v key a most).1)=totS (Ap v)+a∧((v.length:Int)≤most→((depS v key a most).1.length:Int)≤most):=by
 unfold depS at h0 ⊢;split
 ·rename_i hc
  rw [if_pos hc] at h0;cases hq:fstK v key with
  | none=>
   rw [hq] at h0;simp only [] at h0 ⊢;split
   ·rename_i h1; rw [if_pos h1] at h0; cases h0
   ·rename_i h1
    rw [if_neg h1] at h0;split
    ·rename_i h2
     refine ⟨?_,fun _=>by simp; omega⟩;have:Ap (v++[(key,0,a,())])=Ap v++[a]:=by simp [Ap]
     simp only [this,Gd]
    ·rename_i h2; rw [if_neg h2] at h0; cases h0
  | some i=>
   rw [hq] at h0;obtain ⟨hi,_⟩:=So hq;simp only [] at h0 ⊢;split
   ·rename_i h2
    refine ⟨?_,fun h=>by rw [Ig]; exact h⟩;rw [E2 hi];omega
   ·rename_i h2; rw [if_neg h2] at h0; cases h0
 ·rename_i hc; rw [if_neg hc] at h0; cases h0
theorem wd_tot {v:List Va} {w a:Int} (h0:(wdS v w a).2.2=0):totS (Ap (wdS v w a).1)=totS (Ap v) - a∧(wdS v w a).1.length=v.length:=by
 unfold wdS at h0 ⊢;split
 ·rename_i hc
  rw [if_pos hc] at h0;split
  ·rename_i h1
   rw [if_pos h1] at h0;have hi:w.toNat<v.length:=by omega
   split
   ·rename_i h2
    refine ⟨?_,Ig _ _ _⟩;rw [E2 hi];omega
   ·rename_i h2; rw [if_neg h2] at h0; cases h0
  ·rename_i h1; rw [if_neg h1] at h0; cases h0
 ·rename_i hc; rw [if_neg hc] at h0; cases h0
theorem sl_tot {v:List Va} {w a:Int} (h0:(slS v w a).2.2=0):totS (Ap (slS v w a).1)=totS (Ap v) - (slS v w a).2.1∧(slS v w a).1.length=v.length:=by
 unfold slS at h0 ⊢;split
 ·rename_i hc
  rw [if_pos hc] at h0;split
  ·rename_i h1
   have hi:w.toNat<v.length:=by omega
   refine ⟨?_,Ig _ _ _⟩;simp only [];rw [E2 hi];omega
  ·rename_i h1; rw [if_neg h1] at h0; cases h0
 ·rename_i hc; rw [if_neg hc] at h0; cases h0
def Qb (o:OpT) (a:An):Int:=if a.1=0 then (if o.1=1 then o.2.2.1 else if o.1=2 then - o.2.2.1 else if o.1=3 then - a.2.1 else 0) else 0
theorem do_tot (h:LOK c n l) (o:OpT):totS (Ap (doS l o).1.2.2.1)=totS (Ap l.2.2.1)+Qb o (doS l o).2∧((l.2.2.1.length:Int)≤c.2.2.2.2.1→((doS l o).1.2.2.1.length:Int)≤c.2.2.2.2.1):=by
 by_cases he:(doS l o).2.1=0
 ·have hne:B3 o=true∧o.1≠0:=by
   by_cases hh:B3 o=true∧o.1≠0
   ·exact hh
   ·unfold doS at he; rw [if_neg hh] at he; cases he
  unfold Qb;rw [if_pos he]
  by_cases k1:o.1=1
  ·rw [if_pos k1]
   have e:doS l o=Bz l (depS l.2.2.1 o.2.2.2.1 o.2.2.1 l.1.2.2.2.2.1):=by unfold doS; rw [if_pos hne,if_pos k1]
   rw [e] at he ⊢;rw [Ol] at he;have q:=dep_tot h.vals he;unfold Bz;rw [if_pos he];rw [h.cfg] at q ⊢;exact q
  rw [if_neg k1]
  by_cases k2:o.1=2
  ·rw [if_pos k2]
   have e:doS l o=Bz l (wdS l.2.2.1 o.2.1 o.2.2.1):=by unfold doS; rw [if_pos hne,if_neg k1,if_pos k2]
   rw [e] at he ⊢;rw [Ol] at he;have q:=wd_tot he;unfold Bz;rw [if_pos he];exact ⟨by simp only []; omega,fun hh=>by simp only []; rw [q.2]; exact hh⟩
  rw [if_neg k2]
  by_cases k3:o.1=3
  ·rw [if_pos k3]
   have e:doS l o=Bz l (slS l.2.2.1 o.2.1 o.2.2.1):=by unfold doS; rw [if_pos hne,if_neg k1,if_neg k2,if_pos k3]
   rw [e] at he ⊢;rw [Ol] at he;have q:=sl_tot he;unfold Bz;rw [if_pos he];exact ⟨by simp only [okS]; omega,fun hh=>by simp only []; rw [q.2]; exact hh⟩
  rw [if_neg k3,Int.add_zero];have stay:∀m:Led,Ap m.2.2.1=Ap l.2.2.1→totS (Ap m.2.2.1)=totS (Ap l.2.2.1)∧((l.2.2.1.length:Int)≤c.2.2.2.2.1→(m.2.2.1.length:Int)≤c.2.2.2.2.1):=fun m hm=>by
   have:m.2.2.1.length=l.2.2.1.length:=by rw [←Cj,←Cj,hm]
   rw [hm,this];exact ⟨rfl,id⟩
  refine stay _ ?_;unfold doS;rw [if_pos hne,if_neg k1,if_neg k2,if_neg k3];have hs:∀r,(Gf l r).1.2.2.1=l.2.2.1:=fun r=>by unfold Gf; split<;>rfl
  split
  ·split
   ·rw [hs]
   ·rfl
  ·split
   ·split
    ·rw [hs]
    ·rfl
   ·split
    ·unfold advS
     split
     ·split
      ·exact Q2 _
      ·rfl
     ·rfl
    ·rfl
 ·unfold Qb
  rw [if_neg he,do_id l he,Int.add_zero];exact ⟨rfl,id⟩
theorem znl (R:Type) (h:LOK c n l) (hn:n≤100) (k:Int→Bool→Option R):F16 R (Ap l.2.2.1) k=k (totS (Ap l.2.2.1)) true:=by
 have:=h.vlen;rw [znm R (Ej h.vals) (by rw [Cj]; omega),if_pos h.next]
theorem zfm (R:Type) (h:LOK c n l) (hn:n≤100) (k:Int→Bool→Option R):F16 R (Al l.2.2.1) k=k (totS (Al l.2.2.1)) true:=by
 have:=h.vlen;rw [znm R (Da h.vals) (by rw [Ce]; omega),if_pos h.stake]
theorem G4_eq (R:Type) {ops:List OpT} (ho:∀o∈ops,OpOK o) (hL:ops.length≤60) (k0:Bool→Option R) (k1:Option R):∀(m i:Nat) {n:Nat} (l:Led),LOK c n l→n+(ops.length - i)≤99→i≤ops.length→ops.length - i<m→(l.2.2.1.length:Int)≤c.2.2.2.2.1→
  Z1 m R ops (totS (Ap l.2.2.1)) (i:Int) c l k0 k1=k1
 | 0,i,n,l,_,_,_,h,_=>by omega
 | m+1,i,n,l,h,hn,h1,h2,hm=>by
  simp only [Z1,zxo]
  by_cases hi:i<ops.length
  ·have hoi:=ho _ (List.getElem_mem hi)
   have h':=do_ok h (by omega) hoi;obtain ⟨d1,d2⟩:=do_tot h ops[i];have ih:=G4_eq R ho hL k0 k1 m (i+1) (n:=n+1) (doS l ops[i]).1 h' (by omega) (by omega) (by omega) (d2 hm);have hv:=h'.vlen;have d3:=d2 hm;have t0:=N0 (Ej h'.vals);have t1:=h'.next;have hT:∀x,IntKind.u64.wrap (totS (Ap l.2.2.1)+x)=totS (Ap (doS l ops[i]).1.2.2.1)∨Qb ops[i] (doS l ops[i]).2≠x:=fun x=>by
    by_cases hx:Qb ops[i] (doS l ops[i]).2=x
    ·left; rw [←hx,←d1]; exact Rt t0 t1
    ·exact .inr hx
   have hn17:=fun k=>F17_eq R (l:=(doS l ops[i]).1.2.2.1) (by omega) k
   have hn18:=fun k=>F18_eq R (l:=(doS l ops[i]).1.2.2.1) (by omega) k
   have hlen:decide (((doS l ops[i]).1.2.2.1.length:Int)>c.2.2.2.2.1)=false:=decide_eq_false (by omega);have hnn:(totS (Ap (doS l ops[i]).1.2.2.1) !=totS (Ap (doS l ops[i]).1.2.2.1))=false:=by simp
   simp only [Dc hi,A5 hi,Int.toNat_natCast,By hi (show ops.length≤1000 by omega),Zg hi,zvi R h (show n≤100 by omega) hoi,hn17,hn18,znl R h' (show n+1≤100 by omega),zfm R h' (show n+1≤100 by omega),Bool.not_true,hlen]
   by_cases he:(doS l ops[i]).2.1=0
   ·have b0:((doS l ops[i]).2.1==0)=true:=by rw [he]; rfl
    simp only [b0]
    by_cases k1':ops[i].1=1
    ·have b1:(ops[i].1==1)=true:=by rw [k1']; rfl
     have e:IntKind.u64.wrap (totS (Ap l.2.2.1)+ops[i].2.2.1)=totS (Ap (doS l ops[i]).1.2.2.1):=(hT _).resolve_right (fun hh=>hh (by unfold Qb; rw [if_pos he,if_pos k1']));simp only [b1,e,hnn];exact ih
    by_cases k2':ops[i].1=2
    ·have b2:(ops[i].1==2)=true:=by rw [k2']; rfl
     have e:IntKind.u64.wrap (totS (Ap l.2.2.1) - ops[i].2.2.1)=totS (Ap (doS l ops[i]).1.2.2.1):=by
      rw [Int.sub_eq_add_neg];exact (hT _).resolve_right (fun hh=>hh (by unfold Qb; rw [if_pos he,if_neg k1',if_pos k2']))
     simp only [Az k1',b2,e,hnn];exact ih
    by_cases k3':ops[i].1=3
    ·have b3:(ops[i].1==3)=true:=by rw [k3']; rfl
     have e:IntKind.u64.wrap (totS (Ap l.2.2.1) - (doS l ops[i]).2.2.1)=totS (Ap (doS l ops[i]).1.2.2.1):=by
      rw [Int.sub_eq_add_neg];exact (hT _).resolve_right (fun hh=>hh (by unfold Qb; rw [if_pos he,if_neg k1',if_neg k2',if_pos k3']))
     simp only [Az k1',Az k2',b3,e,hnn];exact ih
    have e:totS (Ap (doS l ops[i]).1.2.2.1)=totS (Ap l.2.2.1):=by
     rw [d1]; unfold Qb; rw [if_pos he,if_neg k1',if_neg k2',if_neg k3',Int.add_zero]
    simp only [Az k1',Az k2',Az k3'];rw [e] at ih hnn ⊢;simp only [hnn];exact ih
   ·have e:totS (Ap (doS l ops[i]).1.2.2.1)=totS (Ap l.2.2.1):=by
     rw [d1]; unfold Qb; rw [if_neg he,Int.add_zero]
    simp only [Az he];rw [e] at ih hnn ⊢;simp only [hnn];exact ih
  ·have:i=ops.length:=by omega
   subst this;simp only [Co]
theorem F4_eq' (R:Type) {a:List Int} (ha:AllU8 a) {s:List Int} (hs:H32 s) {b:List Int} (hb:AllU8 b) (k:Bool→Option R):F4 R a s b k=k true:=by
 simp only [F4,p4,F9_eq,Bool.not_true,F10_eq R hb]
 by_cases h1:b.length≤1500
 ·by_cases h2:(decS b).length≤60
  ·rw [decide_eq_true h1,decide_eq_true h2]
   have hc:=zte a;simp only [Bool.true_and,Bool.not_true,F12_eq R ha,zvj,hc.1,if_true,zbp R hb (show b.length≤100000 by omega)];have hm:=(C0 hc.1)
   exact G4_eq R (zka hb) h2 (fun x7=>k x7) (k true) FUEL 0 (n:=0) _ (zt6 hc.1 hs) (by omega) (by omega) (by rw [Am]; omega) (by show (0:Int)≤_; omega)
  ·rw [decide_eq_false h2,Bool.and_false]
   rfl
 ·rw [decide_eq_false h1]
  rfl
end
end Go.PG
end
