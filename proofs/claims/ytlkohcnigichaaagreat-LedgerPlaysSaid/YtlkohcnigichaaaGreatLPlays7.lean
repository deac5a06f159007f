/- A part of the proof over this seat (own work; the framework that reads a Go function as a pure one, or a use of it). No condition of its own. -/
import Derived.Test.YtlkohcnigichaaaGreatLPlays6
import Derived.KernelRfl
set_option linter.unusedVariables false
set_option linter.unusedSimpArgs false
set_option linter.unusedSectionVars false
noncomputable section
namespace Go.PG
def popI (l:List Int):Int:=l.getD (l.length - 1) 0
def cutL (l:List Int):List Int:=l.take (l.length - 1)
theorem zv5 (a:List Int) (x:Int):popI (a++[x])=x:=by simp [popI]
theorem zz7 (a:List Int) (x:Int):cutL (a++[x])=a:=by simp [cutL]
theorem Lw {l:List Int} (h:l.length≠0):∃a x,l=a++[x]:=by
 rcases List.eq_nil_or_concat l with rfl | ⟨a,x,rfl⟩
 ·simp at h
 ·exact ⟨a,x,by simp⟩
def Fv (T:Int) (h:List Int) (i k:Int):List Int:=h.set k.toNat (h.getD k.toNat 0 - (T - h.getD i.toNat 0))
def runA (T:Int):Nat→List Int→List Gj→List Int→List Int→List Int×(List Gj×(List Int×List Int))
 | 0,h,c,sm,la=>(h,c,sm,la)
 | f+1,h,c,sm,la=>if sm.length=0∨la.length=0 then (h,c,sm,la) else
   if (Fv T h (popI sm) (popI la)).getD (popI la).toNat 0<T then runA T f (Fv T h (popI sm) (popI la)) (c.set (popI sm).toNat (h.getD (popI sm).toNat 0,popI la,())) (cutL sm++[popI la]) (cutL la)
   else runA T f (Fv T h (popI sm) (popI la)) (c.set (popI sm).toNat (h.getD (popI sm).toNat 0,popI la,())) (cutL sm) (cutL la++[popI la])
structure IA (T:Int) (n:Nat) (h:List Int) (c:List Gj) (sm la:List Int):Prop where
 hl:h.length=n
 cl:c.length=n
 ix:∀x∈sm++la,0≤x∧x<(n:Int)
 nd:(sm++la).Nodup
 sml:∀x∈sm,0≤h.getD x.toNat 0∧h.getD x.toNat 0<T
 lrg:∀x∈la,T≤h.getD x.toNat 0∧h.getD x.toNat 0<9223372036854775808
theorem Xj (h:List Int) {i j:Nat} (v:Int) (hij:i≠j):(h.set i v).getD j 0=h.getD j 0:=by
 simp [List.getD_eq_getElem?_getD,List.getElem?_set,hij]
theorem H9 (h:List Int) {i:Nat} (v:Int) (hi:i<h.length):(h.set i v).getD i 0=v:=by
 simp [List.getD_eq_getElem?_getD,hi]
theorem perm1 (s0 l0:List Int) (i k:Int):((s0++[i])++(l0++[k])).Perm (i::((s0++[k])++l0)):=by
 rw [List.append_assoc,List.append_assoc];refine List.perm_middle.trans (.cons i (List.Perm.append_left s0 ?_));exact (List.perm_append_comm:(l0++[k]).Perm ([k]++l0))
theorem perm2 (s0 l0:List Int) (i k:Int):((s0++[i])++(l0++[k])).Perm (i::(s0++(l0++[k]))):=by
 rw [List.append_assoc];exact List.perm_middle
theorem IA.facts {T:Int} {n:Nat} {h:List Int} {c:List Gj} {s0 l0:List Int} {i k:Int} (hI:IA T n h c (s0++[i]) (l0++[k])):
  (0≤i∧i<(n:Int))∧(0≤k∧k<(n:Int))∧i≠k∧(∀x∈s0,x≠i∧x≠k∧0≤x)∧(∀x∈l0,x≠i∧x≠k∧0≤x):=by
 have hn:=(perm1 s0 l0 i k).nodup_iff.1 hI.nd;rw [List.nodup_cons] at hn;obtain ⟨h1,h2⟩:=hn;have h3:(k::(s0++l0)).Nodup:=by
  rw [List.append_assoc] at h2;exact (List.perm_middle (l₁:=s0) (l₂:=l0) (a:=k)).nodup_iff.1 h2
 rw [List.nodup_cons] at h3;have hm:∀x,x∈s0∨x∈l0→x≠i∧x≠k∧0≤x:=fun x hx=>by
  refine ⟨fun e=>h1 ?_,fun e=>h3.1 ?_,(hI.ix x ?_).1⟩
  ·subst e; simp; rcases hx with hx | hx<;>simp [hx]
  ·subst e; simpa using hx
  ·simp; rcases hx with hx | hx<;>simp [hx]
 refine ⟨hI.ix i (by simp),hI.ix k (by simp),fun e=>h1 ?_,fun x hx=>hm x (.inl hx),fun x hx=>hm x (.inr hx)⟩;subst e; simp
theorem IA.step {T:Int} {n:Nat} {h:List Int} {c:List Gj} {s0 l0:List Int} {i k:Int} (hI:IA T n h c (s0++[i]) (l0++[k])):
  (0≤(Fv T h i k).getD k.toNat 0∧(Fv T h i k).getD k.toNat 0<9223372036854775808∧(Fv T h i k).getD k.toNat 0=h.getD k.toNat 0 - (T - h.getD i.toNat 0))∧
  ((Fv T h i k).getD k.toNat 0<T→IA T n (Fv T h i k) (c.set i.toNat (h.getD i.toNat 0,k,())) (s0++[k]) l0)∧
  (¬(Fv T h i k).getD k.toNat 0<T→IA T n (Fv T h i k) (c.set i.toNat (h.getD i.toNat 0,k,())) s0 (l0++[k])):=by
 obtain ⟨hi,hk,hik,hs,hl⟩:=hI.facts;have hkl:k.toNat<h.length:=by rw [hI.hl]; omega
 have ek:(Fv T h i k).getD k.toNat 0=h.getD k.toNat 0 - (T - h.getD i.toNat 0):=H9 h _ hkl;have b1:=hI.sml i (by simp);have b2:=hI.lrg k (by simp);have same:∀x:Int,0≤x→x≠k→(Fv T h i k).getD x.toNat 0=h.getD x.toNat 0:=fun x h0 hx=>Xj h _ (by omega)
 have hn1:=((perm1 s0 l0 i k).nodup_iff.1 hI.nd)
 have hn2:=((perm2 s0 l0 i k).nodup_iff.1 hI.nd)
 rw [List.nodup_cons] at hn1 hn2;refine ⟨⟨by omega,by omega,ek⟩,fun hlt=>⟨by simp [Fv,hI.hl],by simp [hI.cl],fun x hx=>hI.ix x ?_,hn1.2,fun x hx=>?_,fun x hx=>?_⟩,fun hge=>⟨by simp [Fv,hI.hl],by simp [hI.cl],fun x hx=>hI.ix x ?_,hn2.2,fun x hx=>?_,fun x hx=>?_⟩⟩
 ·simp at hx ⊢; rcases hx with hx | hx | hx<;>simp [hx]
 ·rcases List.mem_append.1 hx with hx | hx
  ·have:=hs x hx
   rw [same x this.2.2 this.2.1]; exact hI.sml x (by simp [hx])
  ·simp at hx; subst hx; omega
 ·have:=hl x hx
  rw [same x this.2.2 this.2.1]; exact hI.lrg x (by simp [hx])
 ·simp at hx ⊢; rcases hx with hx | hx | hx<;>simp [hx]
 ·have:=hs x hx
  rw [same x this.2.2 this.2.1]; exact hI.sml x (by simp [hx])
 ·rcases List.mem_append.1 hx with hx | hx
  ·have:=hl x hx
   rw [same x this.2.2 this.2.1]; exact hI.lrg x (by simp [hx])
  ·simp at hx; subst hx; omega
theorem P0 {T:Int} {f:Nat} {h:List Int} {c:List Gj} {s0 l0:List Int} {i k:Int}:runA T (f+1) h c (s0++[i]) (l0++[k])=
  if (Fv T h i k).getD k.toNat 0<T then runA T f (Fv T h i k) (c.set i.toNat (h.getD i.toNat 0,k,())) (s0++[k]) l0 else runA T f (Fv T h i k) (c.set i.toNat (h.getD i.toNat 0,k,())) s0 (l0++[k]):=by
 simp only [runA,zv5,zz7];rw [if_neg (by simp)]
theorem H6 {T:Int} {f:Nat} {h:List Int} {c:List Gj} {sm la:List Int} (hs:sm.length=0∨la.length=0):runA T f h c sm la=(h,c,sm,la):=by
 cases f with
 | zero=>rfl
 | succ f=>simp only [runA]; rw [if_pos hs]
theorem N4 (R:Type) {T:Int} {n:Nat} (hT:0<T∧T<9223372036854775808) (hn:n≤1000) (x1:TabA) (k0:TabA→List Int→List Gj→List Int→List Int→(Int×Unit)→Option R):
  ∀(f m:Nat) (h:List Int) (c:List Gj) (sm la:List Int),IA T n h c sm la→sm.length+la.length≤f→f≤10000→f<m→
   Gi m R x1 h c sm la (T,()) k0=k0 x1 (runA T f h c sm la).1 (runA T f h c sm la).2.1 (runA T f h c sm la).2.2.1 (runA T f h c sm la).2.2.2 (T,())
 | f,0,_,_,_,_,_,_,_,hm=>by omega
 | f,m+1,h,c,sm,la,hI,hf,hf2,hm=>by
  simp only [Gi,Z7]
  by_cases hs:sm.length=0
  ·have hd:decide ((sm.length:Int)>0)=false:=decide_eq_false (by omega)
   simp only [hd];rw [H6 (.inl hs)]
  ·have hd:decide ((sm.length:Int)>0)=true:=decide_eq_true (by omega)
   simp only [hd]
   by_cases hl:la.length=0
   ·have hd:decide ((la.length:Int)>0)=false:=decide_eq_false (by omega)
    simp only [hd];rw [H6 (.inr hl)]
   ·have hd:decide ((la.length:Int)>0)=true:=decide_eq_true (by omega)
    simp only [hd];obtain ⟨s0,i,rfl⟩:=Lw hs;obtain ⟨l0,k,rfl⟩:=Lw hl;obtain ⟨hi,hk,hik,hms,hml⟩:=hI.facts;obtain ⟨⟨e0,e1,e2⟩,st1,st2⟩:=hI.step;have b1:=hI.sml i (by simp);have b2:=hI.lrg k (by simp);have ls:((s0++[i]).length:Int)=(s0.length:Int)+1:=by simp
    have ll:((l0++[k]).length:Int)=(l0.length:Int)+1:=by simp
    simp only [List.length_append,List.length_cons,List.length_nil] at hf;rw [ls,ll,show (s0.length:Int)+1 - 1=(s0.length:Int) by omega,show (l0.length:Int)+1 - 1=(l0.length:Int) by omega,wrap_i64 (n:=(s0.length:Int)) (by omega) (by omega),wrap_i64 (n:=(l0.length:Int)) (by omega) (by omega)];have d1:bnd (s0.length:Int) ((s0.length:Int)+1)=true:=by unfold bnd; simp; omega
    have d2:bnd (l0.length:Int) ((l0.length:Int)+1)=true:=by unfold bnd; simp; omega
    have d3:decide (0≤(s0.length:Int)∧(s0.length:Int)≤(s0.length:Int)+1)=true:=decide_eq_true (by omega);have d4:decide (0≤(l0.length:Int)∧(l0.length:Int)≤(l0.length:Int)+1)=true:=decide_eq_true (by omega);have g1:(s0++[i]).getD s0.length 0=i:=by simp
    have g2:(l0++[k]).getD l0.length 0=k:=by simp
    have t1:(s0++[i]).take s0.length=s0:=by simp
    have t2:(l0++[k]).take l0.length=l0:=by simp
    have d5:bnd i (h.length:Int)=true:=by rw [hI.hl]; unfold bnd; simp; omega
    have d6:bnd i (c.length:Int)=true:=by rw [hI.cl]; unfold bnd; simp; omega
    have d7:bnd k (h.length:Int)=true:=by rw [hI.hl]; unfold bnd; simp; omega
    simp only [d1,d2,d3,d4,Int.toNat_natCast,g1,g2,t1,t2,d5,d6,d7,List.length_set];rw [Ad (n:=T - h.getD i.toNat 0) (by omega) (by omega),Ad (n:=h.getD k.toNat 0 - (T - h.getD i.toNat 0)) (by omega) (by omega)]
    change (match decide ((Fv T h i k).getD k.toNat 0<T) with
     | true=>_
     | false=>_)=_
    cases f with
    | zero=>omega
    | succ f=>
     rw [P0]
     by_cases hlt:(Fv T h i k).getD k.toNat 0<T
     ·have dc:decide (s0.length+[k].length≤17592186044416)=true:=decide_eq_true (by simp; omega)
      rw [if_pos hlt];simp only [decide_eq_true hlt,dc];exact N4 R hT hn x1 k0 f m _ _ _ _ (st1 hlt) (by simp; omega) (by omega) (by omega)
     ·have dc:decide (l0.length+[k].length≤17592186044416)=true:=decide_eq_true (by simp; omega)
      rw [if_neg hlt];simp only [decide_eq_false hlt,dc];exact N4 R hT hn x1 k0 f m _ _ _ _ (st2 hlt) (by simp; omega) (by omega) (by omega)
theorem N6 (R:Type) {T:Int} {n:Nat} (hT:0<T∧T<9223372036854775808) (hn:n≤1000) (x2:TabA) (k0:Int→TabA→List Gj→Option R):
  ∀(f m:Nat) (h:List Int) (c:List Gj) (sm la:List Int),IA T n h c sm la→sm.length+la.length≤f→f≤10000→f<m→
   Hc m R T x2 h c sm la k0=k0 T x2 (runA T f h c sm la).2.1
 | f,0,_,_,_,_,_,_,_,hm=>by omega
 | f,m+1,h,c,sm,la,hI,hf,hf2,hm=>by
  simp only [Hc,Z9]
  by_cases hs:sm.length=0
  ·have hd:decide ((sm.length:Int)>0)=false:=decide_eq_false (by omega)
   simp only [hd];rw [H6 (.inl hs)]
  ·have hd:decide ((sm.length:Int)>0)=true:=decide_eq_true (by omega)
   simp only [hd]
   by_cases hl:la.length=0
   ·have hd:decide ((la.length:Int)>0)=false:=decide_eq_false (by omega)
    simp only [hd];rw [H6 (.inr hl)]
   ·have hd:decide ((la.length:Int)>0)=true:=decide_eq_true (by omega)
    simp only [hd];obtain ⟨s0,i,rfl⟩:=Lw hs;obtain ⟨l0,k,rfl⟩:=Lw hl;obtain ⟨hi,hk,hik,hms,hml⟩:=hI.facts;obtain ⟨⟨e0,e1,e2⟩,st1,st2⟩:=hI.step;have b1:=hI.sml i (by simp);have b2:=hI.lrg k (by simp);have ls:((s0++[i]).length:Int)=(s0.length:Int)+1:=by simp
    have ll:((l0++[k]).length:Int)=(l0.length:Int)+1:=by simp
    simp only [List.length_append,List.length_cons,List.length_nil] at hf;rw [ls,ll,show (s0.length:Int)+1 - 1=(s0.length:Int) by omega,show (l0.length:Int)+1 - 1=(l0.length:Int) by omega,wrap_i64 (n:=(s0.length:Int)) (by omega) (by omega),wrap_i64 (n:=(l0.length:Int)) (by omega) (by omega)];have d1:bnd (s0.length:Int) ((s0.length:Int)+1)=true:=by unfold bnd; simp; omega
    have d2:bnd (l0.length:Int) ((l0.length:Int)+1)=true:=by unfold bnd; simp; omega
    have d3:decide (0≤(s0.length:Int)∧(s0.length:Int)≤(s0.length:Int)+1)=true:=decide_eq_true (by omega);have d4:decide (0≤(l0.length:Int)∧(l0.length:Int)≤(l0.length:Int)+1)=true:=decide_eq_true (by omega);have g1:(s0++[i]).getD s0.length 0=i:=by simp
    have g2:(l0++[k]).getD l0.length 0=k:=by simp
    have t1:(s0++[i]).take s0.length=s0:=by simp
    have t2:(l0++[k]).take l0.length=l0:=by simp
    have d5:bnd i (h.length:Int)=true:=by rw [hI.hl]; unfold bnd; simp; omega
    have d6:bnd i (c.length:Int)=true:=by rw [hI.cl]; unfold bnd; simp; omega
    have d7:bnd k (h.length:Int)=true:=by rw [hI.hl]; unfold bnd; simp; omega
    simp only [d1,d2,d3,d4,Int.toNat_natCast,g1,g2,t1,t2,d5,d6,d7,List.length_set];rw [Ad (n:=T - h.getD i.toNat 0) (by omega) (by omega),Ad (n:=h.getD k.toNat 0 - (T - h.getD i.toNat 0)) (by omega) (by omega)]
    change (match decide ((Fv T h i k).getD k.toNat 0<T) with
     | true=>_
     | false=>_)=_
    cases f with
    | zero=>omega
    | succ f=>
     rw [P0]
     by_cases hlt:(Fv T h i k).getD k.toNat 0<T
     ·have dc:decide (s0.length+[k].length≤17592186044416)=true:=decide_eq_true (by simp; omega)
      rw [if_pos hlt];simp only [decide_eq_true hlt,dc];exact N6 R hT hn x2 k0 f m _ _ _ _ (st1 hlt) (by simp; omega) (by omega) (by omega)
     ·have dc:decide (l0.length+[k].length≤17592186044416)=true:=decide_eq_true (by simp; omega)
      rw [if_neg hlt];simp only [decide_eq_false hlt,dc];exact N6 R hT hn x2 k0 f m _ _ _ _ (st2 hlt) (by simp; omega) (by omega) (by omega)
end Go.PG
namespace Go.PG
theorem Zu {α:Type} (A:List α) (z v:α) (m:Nat) {i:Nat} (hi:A.length=i):(A++List.replicate (m+1) z).set i v=A++[v]++List.replicate m z:=by
 subst hi;rw [List.set_append_right _ _ (Nat.le_refl _),Nat.sub_self,List.replicate_succ,List.set_cons_zero];simp
def hasP (n:Int) (l:List Int) (i:Nat):List Int:=(l.take i).map (fun v=>n*v)++List.replicate (l.length - i) 0
def ceP (T:Int) (i:Nat):List Gj:=(List.range i).map (fun j:Nat=>(T,(j:Int),()))
def ceQ (T:Int) (N i:Nat):List Gj:=ceP T i++List.replicate (N - i) (0,0,())
def smP (T n:Int) (l:List Int) (i:Nat):List Int:=((List.range i).filter (fun j=>decide (n*l.getD j 0<T))).map (fun j:Nat=>(j:Int))
def laP (T n:Int) (l:List Int) (i:Nat):List Int:=((List.range i).filter (fun j=> !decide (n*l.getD j 0<T))).map (fun j:Nat=>(j:Int))
theorem G5 {n:Int} {l:List Int} {i:Nat} (h:i≤l.length):(hasP n l i).length=l.length:=by simp [hasP]; omega
theorem Pj {n:Int} {l:List Int} {i:Nat} (h:i<l.length):(hasP n l i).set i (n*l.getD i 0)=hasP n l (i+1):=by
 unfold hasP;rw [show l.length - i=(l.length - (i+1))+1 by omega,Zu _ _ _ _ (by simp; omega),List.take_succ_eq_append_getElem h,List.map_append];simp only [List.getD_eq_getElem?_getD,List.getElem?_eq_getElem h,Option.getD_some,List.map_cons,List.map_nil]
theorem zhd (T:Int) (i:Nat):ceP T i++[(T,(i:Int),())]=ceP T (i+1):=by simp [ceP,List.range_succ]
theorem ceQ_set {T:Int} {N i:Nat} (h:i<N):(ceQ T N i).set i (T,(i:Int),())=ceQ T N (i+1):=by
 unfold ceQ;rw [show N - i=(N - (i+1))+1 by omega,Zu _ _ _ _ (by simp [ceP]),zhd]
theorem zjz {T n:Int} {l:List Int} {i:Nat} (h:n*l.getD i 0<T):smP T n l i++[(i:Int)]=smP T n l (i+1)∧laP T n l i=laP T n l (i+1):=by
 unfold smP laP;rw [List.range_succ,List.filter_append,List.filter_append,List.map_append,List.map_append];have e1:[i].filter (fun j=>decide (n*l.getD j 0<T))=[i]:=by rw [List.filter_cons,if_pos (decide_eq_true h)]; rfl
 have e2:[i].filter (fun j=> !decide (n*l.getD j 0<T))=[]:=by rw [List.filter_cons,if_neg (by simp only [decide_eq_true h]; simp)]; rfl
 rw [e1,e2];simp
theorem zj0 {T n:Int} {l:List Int} {i:Nat} (h:¬n*l.getD i 0<T):smP T n l i=smP T n l (i+1)∧laP T n l i++[(i:Int)]=laP T n l (i+1):=by
 unfold smP laP;rw [List.range_succ,List.filter_append,List.filter_append,List.map_append,List.map_append];have e1:[i].filter (fun j=>decide (n*l.getD j 0<T))=[]:=by rw [List.filter_cons,if_neg (by simp only [decide_eq_false h]; simp)]; rfl
 have e2:[i].filter (fun j=> !decide (n*l.getD j 0<T))=[i]:=by rw [List.filter_cons,if_pos (by simp only [decide_eq_false h]; simp)]; rfl
 rw [e1,e2];simp
theorem Ub (T n:Int) (l:List Int) (i:Nat):(smP T n l i).length+(laP T n l i).length≤i:=by
 induction i with
 | zero=>simp [smP,laP]
 | succ i ih=>
  by_cases h:n*l.getD i 0<T
  ·obtain ⟨h1,h2⟩:=zjz h
   rw [←h1,←h2]; simp; omega
  ·obtain ⟨h1,h2⟩:=zj0 h
   rw [←h1,←h2]; simp; omega
theorem ziv {l:List Int} (h:AllU64 l) (i:Nat):l.getD i 0≤totS l:=by
 by_cases hi:i<l.length
 ·have h1:=Bl hi
  have h2:=Au h i;have h3:=C4 h (i+1);omega
 ·have:l.getD i 0=0:=by simp [List.getD_eq_getElem?_getD,List.getElem?_eq_none (show l.length≤i by omega)]
  rw [this];exact Au h l.length
theorem Uh {l:List Int} (h:AllU64 l) (hb:(l.length:Int)*totS l<9223372036854775808) (i:Nat):0≤(l.length:Int)*l.getD i 0∧(l.length:Int)*l.getD i 0<9223372036854775808:=by
 have h1:=(As h Gx i).1;have h2:=ziv h i;have h3:(l.length:Int)*l.getD i 0≤(l.length:Int)*totS l:=Int.mul_le_mul_of_nonneg_left h2 (by omega);exact ⟨Int.mul_nonneg (by omega) h1,by omega⟩
theorem Rf (R:Type) {l:List Int} (h:AllU64 l) (hlen:l.length≤1000) {T:Int} (hb:(l.length:Int)*totS l<9223372036854775808) (x6:TabA) (k0:TabA→List Int→List Gj→List Int→List Int→(Int×Unit)→Option R):
  ∀(m i:Nat),i≤l.length→l.length - i<m→Le m R l T l (l.length:Int) (i:Int) x6 (hasP (l.length:Int) l i) (ceP T i) (smP T (l.length:Int) l i) (laP T (l.length:Int) l i) (T,()) k0=
   k0 x6 (hasP (l.length:Int) l l.length) (ceP T l.length) (smP T (l.length:Int) l l.length) (laP T (l.length:Int) l l.length) (T,())
 | 0,i,_,hm=>by omega
 | m+1,i,h1,h2=>by
  simp only [Le,zlf]
  by_cases hi:i<l.length
  ·have hd:decide ((i:Int)<(l.length:Int))=true:=by simpa using hi
   have hbn:bnd (i:Int) (l.length:Int)=true:=by unfold bnd; simp; omega
   have hp:=Uh h hb i;have hsl:=Ub T (l.length:Int) l i;have cl:(ceP T i).length=i:=by simp [ceP]
   have dc:decide ((ceP T i).length+[(T,(i:Int),())].length≤8796093022208)=true:=decide_eq_true (by rw [cl]; simp; omega);have ew:IntKind.u64.wrap (l.getD i 0*IntKind.u64.wrap (l.length:Int))=(l.length:Int)*l.getD i 0:=by
    rw [Ad (n:=(l.length:Int)) (by omega) (by omega),Int.mul_comm (l.getD i 0),Ad (n:=(l.length:Int)*l.getD i 0) hp.1 (by omega)]
   simp only [hd,hbn,Int.toNat_natCast,G5 (n:=(l.length:Int)) h1,dc,ew,Pj hi,zhd,G5 (n:=(l.length:Int)) (show i+1≤l.length by omega)];have hg:(hasP (l.length:Int) l (i+1)).getD i 0=(l.length:Int)*l.getD i 0:=by
    rw [←Pj hi,H9 _ _ (by rw [G5 h1]; exact hi)]
   simp only [hbn,hg]
   by_cases hlt:(l.length:Int)*l.getD i 0<T
   ·obtain ⟨q1,q2⟩:=zjz hlt
    have dd:decide ((smP T (l.length:Int) l i).length+[(i:Int)].length≤17592186044416)=true:=decide_eq_true (by simp; omega);simp only [decide_eq_true hlt,dd];rw [q1,q2,wrap_i64 (n:=(i:Int)+1) (by omega) (by omega)];exact Rf R h hlen hb x6 k0 m (i+1) (by omega) (by omega)
   ·obtain ⟨q1,q2⟩:=zj0 hlt
    have dd:decide ((laP T (l.length:Int) l i).length+[(i:Int)].length≤17592186044416)=true:=decide_eq_true (by simp; omega);simp only [decide_eq_false hlt,dd];rw [q1,q2,wrap_i64 (n:=(i:Int)+1) (by omega) (by omega)];exact Rf R h hlen hb x6 k0 m (i+1) (by omega) (by omega)
  ·have:i=l.length:=by omega
   subst this;have hd:decide ((l.length:Int)<(l.length:Int))=false:=by simp
   simp only [hd]
theorem N7 (R:Type) {l:List Int} (h:AllU64 l) (hlen:l.length≤1000) {T:Int} (hb:(l.length:Int)*totS l<9223372036854775808) (x5:TabA) (k0:Int→TabA→List Int→List Gj→List Int→List Int→Option R):
  ∀(m i:Nat),i≤l.length→l.length - i<m→Is m R l T (l.length:Int) (i:Int) x5 (hasP (l.length:Int) l i) (ceQ T l.length i) (smP T (l.length:Int) l i) (laP T (l.length:Int) l i) k0=
   k0 T x5 (hasP (l.length:Int) l l.length) (ceP T l.length) (smP T (l.length:Int) l l.length) (laP T (l.length:Int) l l.length)
 | 0,i,_,hm=>by omega
 | m+1,i,h1,h2=>by
  simp only [Is,zaa]
  by_cases hi:i<l.length
  ·have hd:decide ((i:Int)<(l.length:Int))=true:=by simpa using hi
   have hbn:bnd (i:Int) (l.length:Int)=true:=by unfold bnd; simp; omega
   have hp:=Uh h hb i;have hsl:=Ub T (l.length:Int) l i;have cl:(ceQ T l.length i).length=l.length:=by simp [ceQ,ceP]; omega
   have ew:IntKind.u64.wrap ((l.length:Int)*l.getD i 0)=(l.length:Int)*l.getD i 0:=Ad hp.1 (by omega);simp only [hd,hbn,Int.toNat_natCast,G5 (n:=(l.length:Int)) h1,cl,ew,Pj hi,ceQ_set hi,G5 (n:=(l.length:Int)) (show i+1≤l.length by omega)];have hg:(hasP (l.length:Int) l (i+1)).getD i 0=(l.length:Int)*l.getD i 0:=by
    rw [←Pj hi,H9 _ _ (by rw [G5 h1]; exact hi)]
   simp only [hbn,hg]
   by_cases hlt:(l.length:Int)*l.getD i 0<T
   ·obtain ⟨q1,q2⟩:=zjz hlt
    have dd:decide ((smP T (l.length:Int) l i).length+[(i:Int)].length≤17592186044416)=true:=decide_eq_true (by simp; omega);simp only [decide_eq_true hlt,dd];rw [q1,q2,wrap_i64 (n:=(i:Int)+1) (by omega) (by omega)];exact N7 R h hlen hb x5 k0 m (i+1) (by omega) (by omega)
   ·obtain ⟨q1,q2⟩:=zj0 hlt
    have dd:decide ((laP T (l.length:Int) l i).length+[(i:Int)].length≤17592186044416)=true:=decide_eq_true (by simp; omega);simp only [decide_eq_false hlt,dd];rw [q1,q2,wrap_i64 (n:=(i:Int)+1) (by omega) (by omega)];exact N7 R h hlen hb x5 k0 m (i+1) (by omega) (by omega)
  ·have:i=l.length:=by omega
   subst this;have hd:decide ((l.length:Int)<(l.length:Int))=false:=by simp
   simp only [hd];have:ceQ T l.length l.length=ceP T l.length:=by simp [ceQ]
   rw [this]
theorem zgw {n:Int} {l:List Int} {j:Nat} (hj:j<l.length):(hasP n l l.length).getD j 0=n*l.getD j 0:=by
 simp [hasP,hj]
theorem zag {T n:Int} {l:List Int} {i:Nat} {x:Int} (h:x∈smP T n l i):∃j:Nat,x=(j:Int)∧j<i∧n*l.getD j 0<T:=by
 simp only [smP,List.mem_map,List.mem_filter,List.mem_range,decide_eq_true_eq] at h;obtain ⟨j,⟨h1,h2⟩,rfl⟩:=h;exact ⟨j,rfl,h1,h2⟩
theorem zah {T n:Int} {l:List Int} {i:Nat} {x:Int} (h:x∈laP T n l i):∃j:Nat,x=(j:Int)∧j<i∧¬n*l.getD j 0<T:=by
 simp only [laP,List.mem_map,List.mem_filter,List.mem_range,Bool.not_eq_true',decide_eq_false_iff_not] at h;obtain ⟨j,⟨h1,h2⟩,rfl⟩:=h;exact ⟨j,rfl,h1,h2⟩
theorem Su {l:List Nat} (h:l.Nodup):(l.map fun j:Nat=>(j:Int)).Nodup:=by
 induction l with
 | nil=>simp
 | cons a l ih=>
  rw [List.nodup_cons] at h;rw [List.map_cons,List.nodup_cons];refine ⟨fun hm=>?_,ih h.2⟩;obtain ⟨b,hb,e⟩:=List.mem_map.1 hm;have:b=a:=by omega
  subst this;exact h.1 hb
theorem Vq {l:List Int} (h:AllU64 l) {T:Int} (hb:(l.length:Int)*totS l<9223372036854775808):IA T l.length (hasP (l.length:Int) l l.length) (ceP T l.length) (smP T (l.length:Int) l l.length) (laP T (l.length:Int) l l.length):=by
 refine ⟨G5 (Nat.le_refl _),by simp [ceP],fun x hx=>?_,?_,fun x hx=>?_,fun x hx=>?_⟩
 ·rcases List.mem_append.1 hx with hx | hx
  ·obtain ⟨j,rfl,hj,_⟩:=zag hx; omega
  ·obtain ⟨j,rfl,hj,_⟩:=zah hx; omega
 ·rw [List.nodup_append]
  refine ⟨Su (List.nodup_range.sublist List.filter_sublist),Su (List.nodup_range.sublist List.filter_sublist),fun a ha b hb e=>?_⟩;obtain ⟨j,e1,_,h1⟩:=zag ha;obtain ⟨j',e2,_,h2⟩:=zah hb;have:j=j':=by omega
  subst this;exact h2 h1
 ·obtain ⟨j,rfl,hj,h1⟩:=zag hx
  rw [Int.toNat_natCast,zgw hj];exact ⟨(Uh h hb j).1,h1⟩
 ·obtain ⟨j,rfl,hj,h1⟩:=zah hx
  rw [Int.toNat_natCast,zgw hj];exact ⟨by omega,(Uh h hb j).2⟩
def tabC (l:List Int):List Gj:=(runA (totS l) l.length (hasP (l.length:Int) l l.length) (ceP (totS l) l.length) (smP (totS l) (l.length:Int) l l.length) (laP (totS l) (l.length:Int) l l.length)).2.1
def tabR (l:List Int):TabA×Int:=
 if l.length=0 then ((0,[],()),10) else if ¬totS l<9223372036854775808 then ((0,[],()),11) else if totS l=0 then ((0,[],()),10)
 else if ¬(l.length:Int)*totS l<9223372036854775808 then ((0,[],()),11) else ((totS l,tabC l,()),0)
theorem T8 {l:List Int} (h0:l.length=0):tabR l=((0,[],()),10):=by unfold tabR; rw [if_pos h0]
theorem T9 {l:List Int} (h0:l.length≠0) (ht:¬totS l<9223372036854775808):tabR l=((0,[],()),11):=by unfold tabR; rw [if_neg h0,if_pos ht]
theorem Pu {l:List Int} (h0:l.length≠0) (hz:totS l=0):tabR l=((0,[],()),10):=by unfold tabR; rw [if_neg h0,if_neg (by simp [hz]),if_pos hz]
theorem Pv {l:List Int} (h0:l.length≠0) (ht:totS l<9223372036854775808) (hz:totS l≠0) (hb:¬(l.length:Int)*totS l<9223372036854775808):tabR l=((0,[],()),11):=by
 unfold tabR; rw [if_neg h0,if_neg (by simpa using ht),if_neg hz,if_pos hb]
theorem T7 {l:List Int} (h0:l.length≠0) (ht:totS l<9223372036854775808) (hz:totS l≠0) (hb:(l.length:Int)*totS l<9223372036854775808):tabR l=((totS l,tabC l,()),0):=by
 unfold tabR; rw [if_neg h0,if_neg (by simpa using ht),if_neg hz,if_neg (by simpa using hb)]
def TabOk (l:List Int):Prop:=l.length≠0∧totS l<9223372036854775808∧totS l≠0∧(l.length:Int)*totS l<9223372036854775808
theorem zjy (l:List Int):(TabOk l∧tabR l=((totS l,tabC l,()),0))∨(¬TabOk l∧(tabR l=((0,[],()),10)∨tabR l=((0,[],()),11))):=by
 unfold TabOk
 by_cases h0:l.length=0
 ·exact .inr ⟨fun h=>h.1 h0,.inl (T8 h0)⟩
 by_cases ht:totS l<9223372036854775808
 ·by_cases hz:totS l=0
  ·exact .inr ⟨fun h=>h.2.2.1 hz,.inl (Pu h0 hz)⟩
  ·by_cases hb:(l.length:Int)*totS l<9223372036854775808
   ·exact .inl ⟨⟨h0,ht,hz,hb⟩,T7 h0 ht hz hb⟩
   ·exact .inr ⟨fun h=>hb h.2.2.2,.inr (Pv h0 ht hz hb)⟩
 ·exact .inr ⟨fun h=>ht h.2.1,.inr (T9 h0 ht)⟩
theorem F231_eq (R:Type) {l:List Int} (h:AllU64 l) (hlen:l.length≤1000) (k:Int→Int→Option R) (K:TabA→Int→Option R) (h1:TabOk l→k (totS l) 0=K (tabR l).1 0) (h2:∀e,e≠0→k 0 e=K (0,[],()) e):F231 R l k=K (tabR l).1 (tabR l).2:=by
 simp only [F231,p231];rw [Ad (n:=(l.length:Int)) (by omega) (by omega)]
 by_cases h0:l.length=0
 ·have e:((l.length:Int)==0)=true:=by simp [h0]
  simp only [e];rw [T8 h0];exact h2 10 (by omega)
 ·have e:((l.length:Int)==0)=false:=by simp [h0]
  simp only [e];rw [Oa R h (by omega)];have hnn:=Au h l.length
  by_cases ht:totS l<9223372036854775808
  ·rw [if_pos ht]
   simp only [Bool.not_true]
   by_cases hz:totS l=0
   ·have e:(totS l==0)=true:=by simp [hz]
    simp only [e];rw [Pu h0 hz];exact h2 10 (by omega)
   ·have e:(totS l==0)=false:=by simp [hz]
    simp only [e];rw [zsq R (by unfold U64; omega) (show U64 (totS l) from by unfold U64; exact ⟨hnn,by omega⟩)]
    by_cases hb:(l.length:Int)*totS l<9223372036854775808
    ·rw [if_pos hb]
     simp only [Bool.not_true];rw [h1 ⟨h0,ht,hz,hb⟩,T7 h0 ht hz hb]
    ·rw [if_neg hb,Pv h0 ht hz hb]
     simp only [Bool.not_false];exact h2 11 (by omega)
  ·rw [if_neg ht,T9 h0 ht]
   simp only [Bool.not_false];exact h2 11 (by omega)
theorem F194_eq (R:Type) {l:List Int} (h:AllU64 l) (hlen:l.length≤1000) (k:TabA→Int→Option R):F194 R l k=k (tabR l).1 (tabR l).2:=by
 simp only [F194,p194];refine F231_eq R h hlen _ k (fun hc=>?_) (fun e he=>?_)
 ·have n0:((0:Int) !=0)=false:=rfl
  simp only [n0]
  ·obtain ⟨h0,ht,hz,hb⟩:=hc
   have hnn:=Au h l.length;have hpos:0<totS l:=by have:0≤totS l:=hnn; omega
   rw [T7 h0 ht hz hb];have dc:decide (0≤(l.length:Int)∧(l.length:Int)≤(l.length:Int)∧(l.length:Int)≤(17592186044416:Int))=true:=decide_eq_true (by omega);simp only [dc,Int.toNat_natCast];have g:=Rf R h hlen (T:=totS l) hb (0,[],()) (fun x7 x8 x9 x10 x11 x12=>Gi FUEL R x7 x8 x9 x10 x11 (x12.1,()) (fun x13 x14 x15 x16 x17 x18=>k (x18.1,x15,()) 0)) FUEL 0 (by omega) (by rw [Ai]; omega);have q0:hasP (l.length:Int) l 0=List.replicate l.length 0:=by simp [hasP]
   rw [q0] at g;refine g.trans ?_;rw [N4 R (n:=l.length) ⟨hpos,ht⟩ hlen _ _ l.length FUEL _ _ _ _ (Vq h hb) (Ub _ _ _ _) (by omega) (by rw [Ai]; omega)];rfl
 ·have n1:(e !=0)=true:=by simp [he]
  simp only [n1]
theorem F170_eq (R:Type) {l:List Int} (h:AllU64 l) (hlen:l.length≤1000) (k:TabA→Int→Option R):F170 R l k=k (tabR l).1 (tabR l).2:=by
 simp only [F170,p170]
 by_cases h0:l.length=0
 ·have e:((l.length:Int)==0)=true:=by simp [h0]
  rw [T8 h0];simp only [e]
 ·have e:((l.length:Int)==0)=false:=by simp [h0]
  simp only [e];rw [Iv R h (by omega)];have hnn:=Au h l.length
  by_cases ht:totS l<9223372036854775808
  ·rw [if_pos ht]
   simp only [Bool.not_true]
   by_cases hz:totS l=0
   ·have e:(totS l==0)=true:=by simp [hz]
    rw [Pu h0 hz];simp only [e]
   ·have e:(totS l==0)=false:=by simp [hz]
    have hpos:0<totS l:=by have:0≤totS l:=hnn; omega
    simp only [e];rw [Ad (n:=(l.length:Int)) (by omega) (by omega),zs0 R (by unfold U64; omega) (show U64 (totS l) from by unfold U64; exact ⟨hnn,by omega⟩)]
    by_cases hb:(l.length:Int)*totS l<9223372036854775808
    ·rw [if_pos hb,T7 h0 ht hz hb]
     have dc:decide (0≤(l.length:Int)∧(l.length:Int)≤(l.length:Int)∧(l.length:Int)≤(17592186044416:Int))=true:=decide_eq_true (by omega);have dc2:decide (0≤(l.length:Int)∧(l.length:Int)≤(l.length:Int)∧(l.length:Int)≤(8796093022208:Int))=true:=decide_eq_true (by omega);simp only [Bool.not_true,dc,dc2,Int.toNat_natCast];have g:=N7 R h hlen (T:=totS l) hb (0,[],()) (fun x14 x15 x16 x17 x18 x19=>Hc FUEL R x14 x15 x16 x17 x18 x19 (fun x20 x21 x22=>k (x20,x22,()) 0)) FUEL 0 (by omega) (by rw [Ai]; omega);have q0:hasP (l.length:Int) l 0=List.replicate l.length 0:=by simp [hasP]
     have q1:ceQ (totS l) l.length 0=List.replicate l.length (0,0,()):=by simp [ceQ,ceP]
     rw [q0,q1] at g;refine g.trans ?_;rw [N6 R (n:=l.length) ⟨hpos,ht⟩ hlen _ _ l.length FUEL _ _ _ _ (Vq h hb) (Ub _ _ _ _) (by omega) (by rw [Ai]; omega)];rfl
    ·rw [if_neg hb,Pv h0 ht hz hb]
     simp only [Bool.not_false]
  ·rw [if_neg ht,T9 h0 ht]
   simp only [Bool.not_false]
end Go.PG
namespace Go.PG
theorem Zx {T:Int} {n:Nat}:∀(f:Nat) (h:List Int) (c:List Gj) (sm la:List Int),IA T n h c sm la→IA T n (runA T f h c sm la).1 (runA T f h c sm la).2.1 (runA T f h c sm la).2.2.1 (runA T f h c sm la).2.2.2
 | 0,h,c,sm,la,hI=>hI
 | f+1,h,c,sm,la,hI=>by
  by_cases hs:sm.length=0∨la.length=0
  ·rw [H6 hs]; exact hI
  ·obtain ⟨s0,i,rfl⟩:=Lw (fun e=>hs (.inl e))
   obtain ⟨l0,k,rfl⟩:=Lw (fun e=>hs (.inr e));obtain ⟨_,st1,st2⟩:=hI.step;rw [P0]
   by_cases hlt:(Fv T h i k).getD k.toNat 0<T
   ·rw [if_pos hlt]; exact Zx f _ _ _ _ (st1 hlt)
   ·rw [if_neg hlt]; exact Zx f _ _ _ _ (st2 hlt)
theorem zvq {l:List Int} (h:AllU64 l) (hb:(l.length:Int)*totS l<9223372036854775808):(tabC l).length=l.length:=(Zx l.length _ _ _ _ (Vq h hb)).cl
theorem zjx {l:List Int} (h:AllU64 l):U64 (tabR l).1.1∧(tabR l).1.2.1.length≤l.length:=by
 have hnn:=Au h l.length;rcases zjy l with ⟨⟨h0,ht,hz,hb⟩,e⟩ | ⟨hn,e | e⟩
 ·rw [e]
  exact ⟨by unfold U64; exact ⟨hnn,by have:totS l<9223372036854775808:=ht; show totS l<_; omega⟩,by show (tabC l).length≤_; rw [zvq h hb]; exact Nat.le_refl _⟩
 ·rw [e]; exact ⟨by unfold U64; simp,by simp⟩
 ·rw [e]; exact ⟨by unfold U64; simp,by simp⟩
def Sd (l:List Int) (s:Src) (m:Int):Int×Src×Int:=if (tabR l).2=0 then Um (tabR l).1 s m else (0,s,(tabR l).2)
theorem F160_eq (R:Type) {l:List Int} (h:AllU64 l) (hlen:l.length≤1000) {s:Src} (hs:SOK s) (m:Int) (k:Int→Src→Int→Option R):F160 R s m l k=k (Sd l s m).1 (Sd l s m).2.1 (Sd l s m).2.2:=by
 simp only [F160,p160];rw [F194_eq R h hlen];obtain ⟨f1,f2⟩:=zjx h;unfold Sd
 by_cases he:(tabR l).2=0
 ·have e1:((tabR l).2 !=0)=false:=by simp [he]
  rw [if_pos he];simp only [e1];rw [F195_eq R f1 (by omega) hs]
 ·have e1:((tabR l).2 !=0)=true:=by simp [he]
  rw [if_neg he];simp only [e1]
theorem F125_eq (R:Type) {l:List Int} (h:AllU64 l) (hlen:l.length≤1000) {s:Src} (hs:SOK s) (m:Int) (k:Int→Src→Int→Option R):F125 R l s m k=k (Sd l s m).1 (Sd l s m).2.1 (Sd l s m).2.2:=by
 simp only [F125,p125];rw [F170_eq R h hlen];obtain ⟨f1,f2⟩:=zjx h;unfold Sd
 by_cases he:(tabR l).2=0
 ·have e1:((tabR l).2 !=0)=false:=by simp [he]
  rw [if_pos he];simp only [e1];rw [F171_eq R f1 (by omega) hs]
 ·have e1:((tabR l).2 !=0)=true:=by simp [he]
  rw [if_neg he];simp only [e1]
end Go.PG
namespace Go.PG
def domS (k slot:Int):Int:=k*4294967296+slot
def mayS (m slot:Int):Bool:=decide (slot≥0)&&(decide (slot<1024)&&(decide (m>0)&&decide (m≤64)))
theorem zfd (R:Type) (a:List Int) (m slot:Int) (k:Bool→Option R):F159 R (a,m,()) slot k=k (mayS m slot):=by
 simp only [F159,p159,mayS];cases decide (slot≥0)<;>cases decide (slot<1024)<;>cases decide (m>0)<;>rfl
theorem zhs (R:Type) (m slot:Int) (k:Bool→Option R):F42 R slot m k=k (mayS m slot):=by
 simp only [F42,p42,mayS];have e:decide (m≥1)=decide (m>0):=by
  by_cases h:m>0
  ·rw [decide_eq_true h,decide_eq_true (by omega)]
  ·rw [decide_eq_false h,decide_eq_false (by omega)]
 rw [e];cases decide (slot≥0)<;>cases decide (slot<1024)<;>cases decide (m>0)<;>rfl
theorem Er {m slot:Int} (h:mayS m slot=true):0≤slot∧slot<1024∧0<m∧m≤64:=by
 simp only [mayS,Bool.and_eq_true,decide_eq_true_eq] at h;exact ⟨h.1,h.2.1,h.2.2.1,h.2.2.2⟩
theorem wrap32 {n:Int} (h1:0≤n) (h2:n<4294967296):IntKind.u32.wrap n=n:=by
 unfold IntKind.wrap;simp only [IntKind.bits,IntKind.signed];have e:n % (2^32)=n:=Int.emod_eq_of_lt h1 h2
 first
 | exact e
 | simp [e]
 | (simp; omega)
theorem zsd (R:Type) (a:List Int) {d slot:Int} (hd:0≤d∧d≤10) (hs:0≤slot∧slot<1024) (k:Src→Option R):F89 R a d slot k=k (Cu a (domS d slot)):=by
 simp only [F89,p89];rw [wrap32 hs.1 (by omega),F133_eq R (by unfold U32; omega) (by unfold U32; omega)];rfl
theorem zfc (R:Type) (a:List Int) (m:Int) {d slot:Int} (hd:0≤d∧d≤10) (hs:0≤slot∧slot<1024) (k:Src→Option R):F161 R (a,m,()) d slot k=k (Cu a (domS d slot)):=by
 simp only [F161,p161];rw [wrap32 hs.1 (by omega),F197_eq R (by unfold U32; omega) (by unfold U32; omega),F196_eq];rfl
theorem dom_u64 {d slot:Int} (hd:0≤d∧d≤10) (hs:0≤slot∧slot<1024):U64 (domS d slot):=by unfold U64 domS; omega
def srcS (a:List Int) (d slot:Int):Src:=Cu a (domS d slot)
theorem Jn {a:List Int} (ha:H32 a) {d slot:Int} (hd:0≤d∧d≤10) (hs:0≤slot∧slot<1024):SOK (srcS a d slot):=Wp ha (dom_u64 hd hs)
def leaS (a:List Int) (slot m:Int) (l:List Int):Int×Int:=
 if mayS m slot=true then (if totS l<9223372036854775808 then ((Bw l (srcS a 1 slot) m).1,(Bw l (srcS a 1 slot) m).2.2) else (0,11)) else (0,1)
theorem F193_eq (R:Type) {a:List Int} (ha:H32 a) {m slot:Int} (hs:0≤slot∧slot<1024) {l:List Int} (h:AllU64 l) (ht:totS l<9223372036854775808) (hl:l.length≤200) (k:Int→Int→Option R):
  F193 R (a,m,()) (Ct l,()) slot k=k (Bw l (srcS a 1 slot) m).1 (Bw l (srcS a 1 slot) m).2.2:=by
 simp only [F193,p193];rw [zfc R a m (by omega) hs];show F230 R (Ct l,()) (srcS a 1 slot) m _=_
 rw [zsw R h hl ht (Jn ha (by omega) hs)]
theorem F44_eq (R:Type) {a:List Int} (ha:H32 a) (slot m:Int) {l:List Int} (h:AllU64 l) (hl:l.length≤200) (k:Int→Int→Option R):F44 R a slot m l k=k (leaS a slot m l).1 (leaS a slot m l).2:=by
 simp only [F44,p44];rw [zhs];unfold leaS;cases hm:mayS m slot with
 | false=>rfl
 | true=>
  obtain ⟨m1,m2,_⟩:=Er hm;simp only [Bool.not_true,if_true];rw [zsl R h hl]
  by_cases ht:totS l<9223372036854775808
  ·rw [if_pos ht,if_pos ht]
   have n0:((0:Int) !=0)=false:=rfl;simp only [n0];rw [zsd R a (by omega) ⟨m1,m2⟩];show F88 R l (srcS a 1 slot) m _=_;rw [F88_eq' R h hl (Jn ha (by omega) ⟨m1,m2⟩)]
  ·rw [if_neg ht,if_neg ht]; rfl
def aliS (a:List Int) (slot m:Int) (l:List Int):Int×Int:=
 if mayS m slot=true then ((Sd l (srcS a 2 slot) m).1,(Sd l (srcS a 2 slot) m).2.2) else (0,1)
theorem F111_eq (R:Type) {a:List Int} (ha:H32 a) (slot m:Int) {l:List Int} (h:AllU64 l) (hl:l.length≤200) (k:Int→Int→Option R):F111 R a slot m l k=k (aliS a slot m l).1 (aliS a slot m l).2:=by
 simp only [F111,p111];rw [zfd];unfold aliS;cases hm:mayS m slot with
 | false=>rfl
 | true=>
  obtain ⟨m1,m2,_⟩:=Er hm;simp only [Bool.not_true,if_true];rw [zfc R a m (by omega) ⟨m1,m2⟩];show F160 R (srcS a 2 slot) m l _=_;rw [F160_eq R h (by omega) (Jn ha (by omega) ⟨m1,m2⟩)]
theorem F82_eq (R:Type) {a:List Int} (ha:H32 a) (slot m:Int) {l:List Int} (h:AllU64 l) (hl:l.length≤200) (k:Int→Int→Option R):F82 R a slot m l k=k (aliS a slot m l).1 (aliS a slot m l).2:=by
 simp only [F82,p82];rw [zhs];unfold aliS;cases hm:mayS m slot with
 | false=>rfl
 | true=>
  obtain ⟨m1,m2,_⟩:=Er hm;simp only [Bool.not_true,if_true];rw [zsd R a (by omega) ⟨m1,m2⟩];show F125 R l (srcS a 2 slot) m _=_;rw [F125_eq R h (by omega) (Jn ha (by omega) ⟨m1,m2⟩)]
def sitS (a:List Int) (slot c m:Int) (l:List Int):List Int×Int:=
 if mayS m slot=true then ((comL l c (srcS a 3 slot) m).1,(comL l c (srcS a 3 slot) m).2.2) else ([],1)
theorem F112_eq (R:Type) {a:List Int} (ha:H32 a) (slot c m:Int) {l:List Int} (h:AllU64 l) (hl:l.length≤200) (k:List Int→Int→Option R):F112 R a slot c m l k=k (sitS a slot c m l).1 (sitS a slot c m l).2:=by
 simp only [F112,p112];rw [zfd];unfold sitS;cases hm:mayS m slot with
 | false=>rfl
 | true=>
  obtain ⟨m1,m2,_⟩:=Er hm;simp only [Bool.not_true,if_true];rw [zfc R a m (by omega) ⟨m1,m2⟩];show F162 R c (srcS a 3 slot) m l _=_;rw [F162_eq R h hl (Jn ha (by omega) ⟨m1,m2⟩)]
theorem F83_eq (R:Type) {a:List Int} (ha:H32 a) (slot c m:Int) {l:List Int} (h:AllU64 l) (hl:l.length≤200) (k:List Int→Int→Option R):F83 R a slot c m l k=k (sitS a slot c m l).1 (sitS a slot c m l).2:=by
 simp only [F83,p83];rw [zhs];unfold sitS;cases hm:mayS m slot with
 | false=>rfl
 | true=>
  obtain ⟨m1,m2,_⟩:=Er hm;simp only [Bool.not_true,if_true];rw [zsl R h hl];unfold comL
  by_cases ht:totS l<9223372036854775808
  ·rw [if_pos ht,if_pos ht]
   have n0:((0:Int) !=0)=false:=rfl;simp only [n0];rw [zsd R a (by omega) ⟨m1,m2⟩];show F126 R l c (srcS a 3 slot) m _=_;rw [F126_eq R h ht hl (Jn ha (by omega) ⟨m1,m2⟩)]
  ·rw [if_neg ht,if_neg ht]; rfl
theorem zp4 (R:Type) (l r:List Int) (hl:l.length≤1000000) (hr:l.length=r.length) (k0:Bool→Option R) (k1:Option R):∀(m i:Nat),i≤l.length→l.length - i<m→l.take i=r.take i→
  zdo m R l r (i:Int) k0 k1=if l=r then k1 else k0 false
 | 0,i,_,h,_=>by omega
 | m+1,i,h1,h2,h3=>by
  simp only [zdo,p20_4]
  by_cases hi:i<l.length
  ·have hd:decide ((i:Int)<(l.length:Int))=true:=decide_eq_true (by omega)
   have hbn:bnd (i:Int) (l.length:Int)=true:=by unfold bnd; simp; omega
   have hbr:bnd (i:Int) (r.length:Int)=true:=by unfold bnd; simp; omega
   simp only [hd,hbn,hbr,Int.toNat_natCast]
   by_cases he:l.getD i 0=r.getD i 0
   ·have e1:(l.getD i 0 !=r.getD i 0)=false:=by rw [he]; simp
    simp only [e1];rw [wrap_i64 (n:=(i:Int)+1) (by omega) (by omega)];refine zp4 R l r hl hr k0 k1 m (i+1) (by omega) (by omega) ?_;rw [List.take_succ_eq_append_getElem hi,List.take_succ_eq_append_getElem (by omega),h3]
    congr 2
    simpa [hi,show i<r.length by omega] using he
   ·have e1:(l.getD i 0 !=r.getD i 0)=true:=by simpa using he
    simp only [e1];rw [if_neg (fun e=>he (by rw [e]))]
  ·have:i=l.length:=by omega
   subst this;have hd:decide ((l.length:Int)<(l.length:Int))=false:=by simp
   simp only [hd];rw [List.take_length,hr,List.take_length] at h3;rw [if_pos h3]
theorem zhw (R:Type) (l r:List Int) (hl:l.length≤1000000) (k:Bool→Option R):F20 R l r k=k (decide (l=r)):=by
 simp only [F20,p20]
 by_cases hr:l.length=r.length
 ·have e:((l.length:Int) !=(r.length:Int))=false:=by rw [hr]; simp
  simp only [e];have:=zp4 R l r hl hr (fun x4=>k x4) (k true) FUEL 0 (by omega) (by rw [Ai]; omega) (by simp);refine Eq.trans ?_ (this.trans ?_)
  ·rfl
  by_cases h:l=r
  ·rw [if_pos h,decide_eq_true h]
  ·rw [if_neg h,decide_eq_false h]
 ·have e:((l.length:Int) !=(r.length:Int))=true:=by
   have:¬(l.length:Int)=(r.length:Int):=by omega
   simpa using this
  simp only [e];rw [decide_eq_false (fun h=>hr (by rw [h]))]
end Go.PG
namespace Go.PG
def schV (a:List Int) (m:Int) (l:List Int) (i:Nat):Int:=if (leaS a (i:Int) m l).2=0 then (leaS a (i:Int) m l).1 else -1
def schP (a:List Int) (m:Int) (l:List Int) (n:Nat):List Int:=(List.range n).map (schV a m l)
theorem Gz (a:List Int) (m:Int) (l:List Int) (n:Nat):(schP a m l n).length=n:=by simp [schP]
theorem Kr (a:List Int) (m:Int) (l:List Int) (n:Nat):schP a m l n++[schV a m l n]=schP a m l (n+1):=by simp [schP,List.range_succ]
def schL (a:List Int) (n m:Int) (l:List Int):List Int×Int:=
 if n<1 then ([],1) else if mayS m (n - 1)=true then (if totS l<9223372036854775808 then (schP a m l n.toNat,0) else ([],11)) else ([],1)
theorem may_le {m:Int} {n i:Int} (h:mayS m n=true) (h0:0≤i) (h1:i≤n):mayS m i=true:=by
 obtain ⟨a,b,c,d⟩:=Er h;unfold mayS;simp;omega
theorem zdr (R:Type) {a:List Int} (ha:H32 a) {m:Int} {l:List Int} (h:AllU64 l) (ht:totS l<9223372036854775808) (hl:l.length≤200) {N:Nat} (hN:N≤1024) (hm:∀i:Nat,i<N→mayS m (i:Int)=true) (k0:List Int→Option R):∀(f i:Nat),i≤N→N - i<f→
  Rj f R (N:Int) (i:Int) (a,m,()) (Ct l,()) (schP a m l i++List.replicate (N - i) 0) k0=k0 (schP a m l N)
 | 0,_,_,hh=>by omega
 | f+1,i,h1,h2=>by
  simp only [Rj,zlp];have hlen:(schP a m l i++List.replicate (N - i) (0:Int)).length=N:=by simp [Gz]; omega
  by_cases hi:i<N
  ·have hd:decide ((i:Int)<(N:Int))=true:=decide_eq_true (by omega)
   simp only [hd];rw [F193_eq R ha (by omega) h ht hl];have hb:bnd (i:Int) ((schP a m l i++List.replicate (N - i) (0:Int)).length:Int)=true:=by rw [hlen]; unfold bnd; simp; omega
   have hle:leaS a (i:Int) m l=((Bw l (srcS a 1 (i:Int)) m).1,(Bw l (srcS a 1 (i:Int)) m).2.2):=by unfold leaS; rw [if_pos (hm i hi),if_pos ht]
   simp only [hb,Int.toNat_natCast];have hset:∀v:Int,(schP a m l i++List.replicate (N - i) (0:Int)).set i v=schP a m l i++[v]++List.replicate (N - (i+1)) 0:=fun v=>by
    rw [show N - i=N - (i+1)+1 by omega];exact Zu _ _ _ _ (Gz a m l i)
   rw [wrap_i64 (n:=(i:Int)+1) (by omega) (by omega),show (i:Int)+1=((i+1:Nat):Int) by omega]
   by_cases he:(Bw l (srcS a 1 (i:Int)) m).2.2=0
   ·have e1:((Bw l (srcS a 1 (i:Int)) m).2.2 !=0)=false:=by simp [he]
    simp only [e1,hset];have hv:(Bw l (srcS a 1 (i:Int)) m).1=schV a m l i:=by unfold schV; rw [hle]; rw [if_pos he]
    rw [hv,Kr];exact zdr R ha h ht hl hN hm k0 f (i+1) (by omega) (by omega)
   ·have e1:((Bw l (srcS a 1 (i:Int)) m).2.2 !=0)=true:=by simp [he]
    have hb2:bnd (i:Int) ((schP a m l i++[(Bw l (srcS a 1 (i:Int)) m).1]++List.replicate (N - (i+1)) (0:Int)).length:Int)=true:=by
     unfold bnd; simp [Gz]; omega
    simp only [e1,hset,hb2];have hv:(-1:Int)=schV a m l i:=by unfold schV; rw [hle]; rw [if_neg he]
    have hset2:(schP a m l i++[(Bw l (srcS a 1 (i:Int)) m).1]++List.replicate (N - (i+1)) (0:Int)).set i (-1)=schP a m l i++[(-1:Int)]++List.replicate (N - (i+1)) 0:=by
     rw [List.append_assoc,List.set_append_right _ _ (by rw [Gz]; exact Nat.le_refl _),Gz,Nat.sub_self];simp
    rw [hset2,hv,Kr];exact zdr R ha h ht hl hN hm k0 f (i+1) (by omega) (by omega)
  ·have:i=N:=by omega
   subst this;have hd:decide ((i:Int)<(i:Int))=false:=by simp
   simp only [hd];rw [Nat.sub_self,List.replicate_zero,List.append_nil]
theorem F156_eq (R:Type) {a:List Int} (ha:H32 a) {n:Int} (hn:n≤9223372036854775807) (m:Int) {l:List Int} (h:AllU64 l) (hl:l.length≤200) (k:List Int→Int→Option R):F156 R a n m l k=k (schL a n m l).1 (schL a n m l).2:=by
 simp only [F156,p156];unfold schL
 by_cases h1:n<1
 ·simp only [decide_eq_true h1,if_pos h1]
 ·simp only [decide_eq_false h1,if_neg h1]
  rw [wrap_i64 (n:=n - 1) (by omega) (by omega),zfd];cases hm:mayS m (n - 1) with
  | false=>rfl
  | true=>
   obtain ⟨m1,m2,_⟩:=Er hm;simp only [Bool.not_true,if_true];rw [zhx R h hl]
   by_cases ht:totS l<9223372036854775808
   ·rw [if_pos ht,if_pos ht]
    have n0:((0:Int) !=0)=false:=rfl;have hc:decide (0≤n∧n≤n∧n≤(17592186044416:Int))=true:=decide_eq_true (by omega);simp only [n0,hc,List.length_replicate];have:=zdr R ha h ht hl (N:=n.toNat) (by omega) (fun i hi=>may_le hm (by omega) (by omega)) (fun x9=>k x9 0) FUEL 0 (by omega) (by rw [Ai]; omega);exact this
   ·rw [if_neg ht,if_neg ht]; rfl
theorem zp1 (R:Type) {a:List Int} (ha:H32 a) {m:Int} {l:List Int} (h:AllU64 l) (hl:l.length≤200) {N:Nat} (hN:N≤1024) (k0:List Int→Option R):∀(f i:Nat),i≤N→N - i<f→
  zdn f R (N:Int) m l (i:Int) a (schP a m l i) k0=k0 (schP a m l N)
 | 0,_,_,hh=>by omega
 | f+1,i,h1,h2=>by
  simp only [zdn,p21_8]
  by_cases hi:i<N
  ·have hd:decide ((i:Int)<(N:Int))=true:=decide_eq_true (by omega)
   simp only [hd];rw [F44_eq R ha _ _ h hl];have hcap:∀y:Int,decide ((schP a m l i).length+List.length [y]≤17592186044416)=true:=fun y=>by rw [Gz]; simp; omega
   simp only [hcap];rw [wrap_i64 (n:=(i:Int)+1) (by omega) (by omega),show (i:Int)+1=((i+1:Nat):Int) by omega]
   by_cases he:(leaS a (i:Int) m l).2=0
   ·have e1:((leaS a (i:Int) m l).2 !=0)=false:=by simp [he]
    simp only [e1];have hv:(leaS a (i:Int) m l).1=schV a m l i:=by unfold schV; rw [if_pos he]
    rw [hv,Kr];exact zp1 R ha h hl hN k0 f (i+1) (by omega) (by omega)
   ·have e1:((leaS a (i:Int) m l).2 !=0)=true:=by simp [he]
    simp only [e1];have hv:(-1:Int)=schV a m l i:=by unfold schV; rw [if_neg he]
    rw [hv,Kr];exact zp1 R ha h hl hN k0 f (i+1) (by omega) (by omega)
  ·have:i=N:=by omega
   subst this;have hd:decide ((i:Int)<(i:Int))=false:=by simp
   simp only [hd]
theorem F21_eq (R:Type) {a:List Int} (ha:H32 a) {n:Int} (hn:n≤9223372036854775807) (m:Int) {l:List Int} (h:AllU64 l) (hl:l.length≤200) (k:List Int→Int→Option R):F21 R a n m l k=k (schL a n m l).1 (schL a n m l).2:=by
 simp only [F21,p21];unfold schL
 by_cases h1:n<1
 ·simp only [decide_eq_true h1,if_pos h1]
 ·simp only [decide_eq_false h1,if_neg h1]
  rw [wrap_i64 (n:=n - 1) (by omega) (by omega),zhs];cases hm:mayS m (n - 1) with
  | false=>rfl
  | true=>
   obtain ⟨m1,m2,_⟩:=Er hm;simp only [Bool.not_true,if_true];rw [zsl R h hl]
   by_cases ht:totS l<9223372036854775808
   ·rw [if_pos ht,if_pos ht]
    have n0:((0:Int) !=0)=false:=rfl;simp only [n0];have:=zp1 R ha (m:=m) h hl (N:=n.toNat) (by omega) (fun x9=>k x9 0) FUEL 0 (by omega) (by rw [Ai]; omega);rw [show ((n.toNat:Nat):Int)=n by omega] at this;exact this
   ·rw [if_neg ht,if_neg ht]; rfl
theorem zhc (m:Int):∀(n:Nat) (l:List Int) (s:Src) (mem:List Int),(comF m n l s mem).1.length≤mem.length+n
 | 0,_,_,_=>by simp [comF]
 | n+1,l,s,mem=>by
  simp only [comF];split
  ·have:=zhc m n (l.set (Bw l s m).1.toNat 0) (Bw l s m).2.1 (mem++[(Bw l s m).1])
   simp at this;omega
  ·simp
theorem zz9 (l:List Int) (c:Int) (s:Src) (m:Int):(comR l c s m).1.length≤256:=by
 unfold comR;split
 ·split
  ·simp
  ·have:=zhc m c.toNat l s []
   simp at this;omega
 ·simp
theorem comL_len (l:List Int) (c:Int) (s:Src) (m:Int):(comL l c s m).1.length≤256:=by
 unfold comL;split
 ·exact zz9 l c s m
 ·simp
end Go.PG
namespace Go.PG
open Go.Proofs
abbrev Cfg:=Int×Int×Int×Int×Int×Unit
def cfgS (c:Cfg):Bool:=decide (1≤c.1∧c.1≤1024∧0≤c.2.1∧c.2.1≤c.1∧0≤c.2.2.1∧c.2.2.1≤c.1 - c.2.1∧1≤c.2.2.2.1∧c.2.2.2.1≤64∧1≤c.2.2.2.2.1∧c.2.2.2.2.1≤1048576)
theorem B3 {c:Cfg} (h:cfgS c=true):1≤c.1∧c.1≤1024∧0≤c.2.1∧c.2.1≤c.1∧0≤c.2.2.1∧c.2.2.1≤c.1 - c.2.1∧1≤c.2.2.2.1∧c.2.2.2.1≤64∧1≤c.2.2.2.2.1∧c.2.2.2.2.1≤1048576:=of_decide_eq_true h
theorem F48_eq (R:Type) (x lo hi:Int) (k:Bool→Option R):F48 R x lo hi k=k (decide (lo≤x∧x≤hi)):=by
 simp only [F48,p48]
 by_cases h:x≥lo
 ·by_cases h2:x≤hi<;>simp [h,h2,show lo≤x from h]
 ·have h3:¬(lo≤x):=h
  simp [h3]
theorem F25_eq (R:Type) (c:Cfg) (k:Bool→Option R):F25 R c k=k (cfgS c):=by
 obtain ⟨s,co,re,at_,mo,_⟩:=c;simp only [F25,p25,F48_eq,cfgS]
 by_cases h1:1≤s∧s≤1024
 ·by_cases h2:0≤co∧co≤s
  ·rw [wrap_i64 (by omega) (by omega)]
   by_cases h3:0≤re∧re≤s - co
   ·by_cases h4:1≤at_∧at_≤64
    ·simp [h1,h2,h3,h4]
    ·have:¬(1≤s∧s≤1024∧0≤co∧co≤s∧0≤re∧re≤s - co∧1≤at_∧at_≤64∧1≤mo∧mo≤1048576):=by omega
     rw [decide_eq_false this]; simp [h1,h2,h3,h4]
   ·have:¬(1≤s∧s≤1024∧0≤co∧co≤s∧0≤re∧re≤s - co∧1≤at_∧at_≤64∧1≤mo∧mo≤1048576):=by omega
    rw [decide_eq_false this]; simp [h1,h2,h3]
  ·have:¬(1≤s∧s≤1024∧0≤co∧co≤s∧0≤re∧re≤s - co∧1≤at_∧at_≤64∧1≤mo∧mo≤1048576):=by omega
   rw [decide_eq_false this]; simp [h1,h2]
 ·have:¬(1≤s∧s≤1024∧0≤co∧co≤s∧0≤re∧re≤s - co∧1≤at_∧at_≤64∧1≤mo∧mo≤1048576):=by omega
  rw [decide_eq_false this]; simp [h1]
theorem F28_eq (R:Type) (c:Cfg) (k:Bool→Option R):F28 R c k=k (cfgS c):=by
 obtain ⟨s,co,re,at_,mo,_⟩:=c;simp only [F28,p28,cfgS]
 by_cases h:1≤s∧s≤1024∧0≤co∧co≤s∧0≤re∧re≤s - co∧1≤at_∧at_≤64∧1≤mo∧mo≤1048576
 ·obtain ⟨a1,a2,a3,a4,a5,a6,a7,a8,a9,a10⟩:=h
  rw [wrap_i64 (n:=s - co) (by omega) (by omega)];simp [a1,a2,a3,a4,a5,a6,a7,a8,a9,a10]
 ·rw [decide_eq_false h]
  repeat' split
  all_goals first | rfl | skip
  all_goals (simp only [decide_eq_true_eq] at*)
  rw [wrap_i64 (n:=s - co) (by omega) (by omega)] at*
  congr 1
  rw [decide_eq_false];omega
def phS (c:Cfg) (i:Int):Int:=if cfgS c=true∧0≤i∧i<c.1 then (if i<c.2.1 then 1 else if i<c.2.1+c.2.2.1 then 2 else 3) else 0
theorem zta (R:Type) (c:Cfg) (i:Int) (k:Bool→Option R):F145 R c i k=k (decide (cfgS c=true∧0≤i∧i<c.1)):=by
 simp only [F145,p145,F25_eq];cases hr:cfgS c with
 | false=>simp
 | true=>
  by_cases h:0≤i
  ·simp [h]
  ·simp [h]
theorem ztj (R:Type) (c:Cfg) (i:Int) (k:Int→Option R):F101 R c i k=k (phS c i):=by
 simp only [F101,p101,zta,phS]
 by_cases h:cfgS c=true∧0≤i∧i<c.1
 ·have hr:=B3 h.1
  rw [wrap_i64 (by omega) (by omega),if_pos h]
  by_cases h2:i<c.2.1
  ·simp [h,h2]
  ·by_cases h3:i<c.2.1+c.2.2.1<;>simp [h,h2,h3]
 ·simp [h]
theorem zsf (R:Type) (c:Cfg) (i:Int) (k:Int→Option R):F75 R c i k=k (phS c i):=by
 simp only [F75,p75,F28_eq,phS];cases hr:cfgS c with
 | false=>simp
 | true=>
  have hs:=B3 hr
  by_cases h1:i<0
  ·have:¬(0≤i):=by omega
   simp [h1,this]
  ·by_cases h2:i≥c.1
   ·have:¬(i<c.1):=by omega
    simp [h1,h2,this]
   ·have h1':0≤i:=by omega
    have h2':i<c.1:=by omega
    have h2'':¬(c.1≤i):=by omega
    rw [wrap_i64 (by omega) (by omega)]
    by_cases h3:i<c.2.1
    ·simp [h1,h2'',h1',h2',h3]
    ·by_cases h4:i<c.2.1+c.2.2.1<;>simp [h1,h2'',h1',h2',h3,h4]
def L0 (c:Cfg) (i:Int):Int:=if phS c i=0∨i=c.1 - 1 then 0 else i+1
def zcm (c:Cfg) (i:Int):Bool:=decide (phS c i≠0∧i=c.1 - 1)
theorem Un {c:Cfg} {i:Int}:phS c i=0↔¬(cfgS c=true∧0≤i∧i<c.1):=by
 unfold phS;constructor
 ·intro h hh; rw [if_pos hh] at h; split at h<;>omega
 ·intro h; rw [if_neg h]
theorem F106_eq (R:Type) (c:Cfg) (i:Int) (k:Int→Bool→Option R):F106 R c i k=k (L0 c i) (zcm c i):=by
 simp only [F106,p106,zta,L0,zcm]
 by_cases h:cfgS c=true∧0≤i∧i<c.1
 ·have hr:=B3 h.1
  have hp:phS c i≠0:=fun e=>Un.1 e h
  have hz:(c.1==0)=false:=by simp; omega
  rw [wrap_i64 (by omega) (by omega)];simp only [h,hz,hp]
  by_cases h2:i=c.1 - 1
  ·have:i+1=c.1:=by omega
   rw [decide_eq_true (p:=phS c i≠0∧i=c.1 - 1) ⟨hp,h2⟩];simp [h2]
  ·rw [Int.tmod_eq_of_lt (by omega) (by omega)]
   have:(i+1==0)=false:=by simp; omega
   simp [h2,this]
 ·simp [h,Un.2 h]
theorem F78_eq (R:Type) (c:Cfg) (i:Int) (k:Int→Bool→Option R):F78 R c i k=k (L0 c i) (zcm c i):=by
 simp only [F78,p78,zsf,L0,zcm]
 by_cases h:phS c i=0
 ·simp [h]
 ·have hh:=Classical.not_not.1 (fun hn=>h (Un.2 hn))
  have hr:=B3 hh.1;have h':(phS c i==0)=false:=by simpa using h
  rw [wrap_i64 (n:=c.1 - 1) (by omega) (by omega)];rw [wrap_i64 (n:=i+1) (by omega) (by omega)]
  by_cases h2:i=c.1 - 1
  ·have hb:(i==c.1 - 1)=true:=by simpa using h2
   rw [decide_eq_true (p:=phS c i≠0∧i=c.1 - 1) ⟨h,h2⟩];simp only [h',hb];simp [h2]
  ·have hb:(i==c.1 - 1)=false:=by simpa using h2
   simp [h,h2,h',hb]
end Go.PG
namespace Go.PG
abbrev Va:=List Int×(Int×(Int×Unit))
abbrev zV:Va:=(List.replicate 32 (0:Int),(0:Int),(0:Int),())
structure VaOK (v:Va):Prop where
 key:H32 v.1
 stake:U64 v.2.1
 next:U64 v.2.2.1
def VsOK (l:List Va):Prop:=∀v∈l,VaOK v
theorem zV_ok:VaOK zV:=⟨A7,Gx,Gx⟩
theorem VsOK.get {l:List Va} (h:VsOK l) (i:Nat):VaOK (l.getD i zV):=by
 rw [List.getD_eq_getElem?_getD];cases hi:l[i]? with
 | none=>exact zV_ok
 | some c=>exact h c (List.mem_of_getElem? hi)
theorem eqvV {a b:Va} (ha:VaOK a) (hb:VaOK b):Kd.eqv Kq5 a b=decide (a=b):=by
 obtain ⟨a1,a2,a3,⟨⟩⟩:=a;obtain ⟨b1,b2,b3,⟨⟩⟩:=b;have e1:Kd.eqv (.arr 32 (.int .u8)) a1 b1=decide (a1=b1):=A3 ha.key.1 hb.key.1;show ((Kd.eqv (.arr 32 (.int .u8)) a1 b1)&&((a2==b2)&&((a3==b3)&&true)))=_;rw [e1]
 by_cases h1:a1=b1
 ·by_cases h2:a2=b2
  ·by_cases h3:a3=b3
   ·simp [h1,h2,h3]
   ·simp [h3]
  ·simp [h2]
 ·simp [h1]
theorem Cr {l:List Va} {i:Nat} (hi:i<l.length):l.getD i zV=l[i]:=by simp [hi]
theorem G29_eq (R:Type) {a b:List Va} (ha:VsOK a) (hb:VsOK b) (hl:a.length=b.length) (hn:a.length≤1000) (k0:Bool→Option R) (k1:Option R):∀(m i:Nat),i≤a.length→a.length - i<m→
  zdh m R a b (i:Int) k0 k1=if a.drop i=b.drop i then k1 else k0 false
 | 0,i,_,h=>by omega
 | m+1,i,h1,h2=>by
  simp only [zdh,p29_4]
  by_cases hi:i<a.length
  ·have hib:i<b.length:=by omega
   have ih:=G29_eq R ha hb hl hn k0 k1 m (i+1) (by omega) (by omega);simp only [By hi,Ap hi,Ap hib,Int.toNat_natCast,A2 hi hn];rw [eqvV (ha.get i) (hb.get i),ih,List.drop_eq_getElem_cons hi,List.drop_eq_getElem_cons hib,Cr hi,Cr hib]
   by_cases e:a[i]=b[i]
   ·simp only [decide_eq_true e,Bool.not_true]
    simp only [e,List.cons.injEq,true_and]
   ·simp only [decide_eq_false e,Bool.not_false]
    simp only [List.cons.injEq,e,false_and,if_false]
  ·have:i=a.length:=by omega
   subst this;simp only [Bd];rw [List.drop_length,hl,List.drop_length,if_pos rfl]
theorem F29_eq (R:Type) {a b:List Va} (ha:VsOK a) (hb:VsOK b) (hn:a.length≤1000) (k:Bool→Option R):F29 R a b k=k (decide (a=b)):=by
 simp only [F29,p29]
 by_cases hl:a.length=b.length
 ·have e:((a.length:Int) !=(b.length:Int))=false:=by simp [hl]
  simp only [e];refine (G29_eq R ha hb hl hn (fun x4=>k x4) (k true) FUEL 0 (by omega) (by rw [Ai]; omega)).trans ?_;rw [List.drop_zero,List.drop_zero]
  by_cases h:a=b
  ·rw [if_pos h,decide_eq_true h]
  ·rw [if_neg h,decide_eq_false h]
 ·have e:((a.length:Int) !=(b.length:Int))=true:=by simp; omega
  have h:a≠b:=fun h=>hl (by rw [h])
  simp only [e,decide_eq_false h]
theorem G84_eq (R:Type) {a b:List Va} (ha:VsOK a) (hb:VsOK b) (hl:a.length=b.length) (hn:a.length≤1000) (k0:Bool→Option R) (k1:Option R):∀(m i:Nat),i≤a.length→a.length - i<m→
  zc8 m R a b (a.length:Int) (i:Int) k0 k1=if a.drop i=b.drop i then k1 else k0 false
 | 0,i,_,h=>by omega
 | m+1,i,h1,h2=>by
  simp only [zc8,p84_4]
  by_cases hi:i<a.length
  ·have hib:i<b.length:=by omega
   have ih:=G84_eq R ha hb hl hn k0 k1 m (i+1) (by omega) (by omega);simp only [By hi,Ap hi,Ap hib,Int.toNat_natCast,A2 hi hn];rw [eqvV (ha.get i) (hb.get i),ih,List.drop_eq_getElem_cons hi,List.drop_eq_getElem_cons hib,Cr hi,Cr hib]
   by_cases e:a[i]=b[i]
   ·simp only [decide_eq_true e,Bool.not_true]
    simp only [e,List.cons.injEq,true_and]
   ·simp only [decide_eq_false e,Bool.not_false]
    simp only [List.cons.injEq,e,false_and,if_false]
  ·have:i=a.length:=by omega
   subst this;simp only [Bd];rw [List.drop_length,hl,List.drop_length,if_pos rfl]
theorem F39_eq (R:Type) {a b:List Va} (ha:VsOK a) (hb:VsOK b) (hn:a.length≤1000) (k:Bool→Option R):F39 R a b k=k (decide (a=b)):=by
 simp only [F39,p39,F84,p84]
 by_cases hl:a.length=b.length
 ·have e:((a.length:Int) !=(b.length:Int))=false:=by simp [hl]
  simp only [e];refine (G84_eq R ha hb hl hn (fun x4=>k x4) (k true) FUEL 0 (by omega) (by rw [Ai]; omega)).trans ?_;rw [List.drop_zero,List.drop_zero]
  by_cases h:a=b
  ·rw [if_pos h,decide_eq_true h]
  ·rw [if_neg h,decide_eq_false h]
 ·have e:((a.length:Int) !=(b.length:Int))=true:=by simp; omega
  have h:a≠b:=fun h=>hl (by rw [h])
  simp only [e,decide_eq_false h]
def Am (l:List Va):List Int:=l.map fun v=>v.2.1
def Az (l:List Va):List Int:=l.map fun v=>v.2.2.1
theorem Cp {l:List Va} (h:VsOK l):AllU64 (Am l):=fun x hx=>by
 obtain ⟨v,hv,rfl⟩:=List.mem_map.1 hx;exact (h v hv).stake
theorem C2 {l:List Va} (h:VsOK l):AllU64 (Az l):=fun x hx=>by
 obtain ⟨v,hv,rfl⟩:=List.mem_map.1 hx;exact (h v hv).next
theorem B1 (l:List Va):(Am l).length=l.length:=by simp [Am]
theorem Ce (l:List Va):(Az l).length=l.length:=by simp [Az]
theorem Oc {l:List Va} {i:Nat} (hi:i<l.length):Am (l.take i)++[(l.getD i zV).2.1]=Am (l.take (i+1)):=by
 rw [List.take_succ_eq_append_getElem hi,Cr hi]; simp only [Am,List.map_append,List.map_cons,List.map_nil]
theorem P9 {l:List Va} {i:Nat} (hi:i<l.length):Az (l.take i)++[(l.getD i zV).2.2.1]=Az (l.take (i+1)):=by
 rw [List.take_succ_eq_append_getElem hi,Cr hi]; simp only [Az,List.map_append,List.map_cons,List.map_nil]
theorem Xz {n m:Nat} (hn:n≤1000) (hm:m=1):decide (n+m≤17592186044416)=true:=by simp; omega
theorem Tz (R:Type) {l:List Va} (hn:l.length≤1000) (k0:List Int→Option R):∀(m i:Nat),i≤l.length→l.length - i<m→
  Bi m R l (l.length:Int) (i:Int) (Am (l.take i)) k0=k0 (Am l)
 | 0,i,_,h=>by omega
 | m+1,i,h1,h2=>by
  simp only [Bi,Kz,F158,p158]
  by_cases hi:i<l.length
  ·have ih:=Tz R hn k0 m (i+1) (by omega) (by omega)
   have hc:decide ((Am (l.take i)).length+[(l.getD i zV).2.1].length≤17592186044416)=true:=Xz (by rw [B1,List.length_take]; omega) rfl;simp only [By hi,Ap hi,Int.toNat_natCast,A2 hi hn,hc];rw [Oc hi,ih]
  ·have:i=l.length:=by omega
   subst this;simp only [Bd,List.take_length]
theorem R9 (R:Type) {l:List Va} (hn:l.length≤1000) (k:List Int→Option R):F110 R l k=k (Am l):=by
 simp only [F110,p110,D5,zac];have hc:decide ((0:Int)≤0∧(0:Int)≤(l.length:Int)∧(l.length:Int)≤17592186044416)=true:=by simp; omega
 simp only [hc];exact Tz R hn (fun x=>k x) FUEL 0 (by omega) (by rw [Ai]; omega)
theorem Ty (R:Type) {l:List Va} (hn:l.length≤1000) (k0:List Int→Option R):∀(m i:Nat),i≤l.length→l.length - i<m→
  Bh m R l (l.length:Int) (i:Int) (Az (l.take i)) k0=k0 (Az l)
 | 0,i,_,h=>by omega
 | m+1,i,h1,h2=>by
  simp only [Bh,Ky,F178,p178]
  by_cases hi:i<l.length
  ·have ih:=Ty R hn k0 m (i+1) (by omega) (by omega)
   have hc:decide ((Az (l.take i)).length+[(l.getD i zV).2.2.1].length≤17592186044416)=true:=Xz (by rw [Ce,List.length_take]; omega) rfl;simp only [By hi,Ap hi,Int.toNat_natCast,A2 hi hn,hc];rw [P9 hi,ih]
  ·have:i=l.length:=by omega
   subst this;simp only [Bd,List.take_length]
theorem ztc (R:Type) {l:List Va} (hn:l.length≤1000) (k:List Int→Option R):F140 R l k=k (Az l):=by
 simp only [F140,p140,D4,zab];have hc:decide ((0:Int)≤0∧(0:Int)≤(l.length:Int)∧(l.length:Int)≤17592186044416)=true:=by simp; omega
 simp only [hc];exact Ty R hn (fun x=>k x) FUEL 0 (by omega) (by rw [Ai]; omega)
theorem G22_eq (R:Type) {l:List Va} (hn:l.length≤1000) (k0:List Int→Option R):∀(m i:Nat),i≤l.length→l.length - i<m→
  zdm m R l (i:Int) (Am (l.take i)) k0=k0 (Am l)
 | 0,i,_,h=>by omega
 | m+1,i,h1,h2=>by
  simp only [zdm,p22_3]
  by_cases hi:i<l.length
  ·have ih:=G22_eq R hn k0 m (i+1) (by omega) (by omega)
   have hc:decide ((Am (l.take i)).length+[(l.getD i zV).2.1].length≤17592186044416)=true:=Xz (by rw [B1,List.length_take]; omega) rfl;simp only [By hi,Ap hi,Int.toNat_natCast,A2 hi hn,hc];rw [Oc hi,ih]
  ·have:i=l.length:=by omega
   subst this;simp only [Bd,List.take_length]
theorem zsx (R:Type) {l:List Va} (hn:l.length≤1000) (k:List Int→Option R):F22 R l k=k (Am l):=by
 simp only [F22,p22];exact G22_eq R hn (fun x=>k x) FUEL 0 (by omega) (by rw [Ai]; omega)
theorem zqk (R:Type) {l:List Va} (hn:l.length≤1000) (k0:List Int→Option R):∀(m i:Nat),i≤l.length→l.length - i<m→
  Rw m R l (i:Int) (Az (l.take i)) k0=k0 (Az l)
 | 0,i,_,h=>by omega
 | m+1,i,h1,h2=>by
  simp only [Rw,zl5]
  by_cases hi:i<l.length
  ·have ih:=zqk R hn k0 m (i+1) (by omega) (by omega)
   have hc:decide ((Az (l.take i)).length+[(l.getD i zV).2.2.1].length≤17592186044416)=true:=Xz (by rw [Ce,List.length_take]; omega) rfl;simp only [By hi,Ap hi,Int.toNat_natCast,A2 hi hn,hc];rw [P9 hi,ih]
  ·have:i=l.length:=by omega
   subst this;simp only [Bd,List.take_length]
theorem ztg (R:Type) {l:List Va} (hn:l.length≤1000) (k:List Int→Option R):F118 R l k=k (Az l):=by
 simp only [F118,p118];exact zqk R hn (fun x=>k x) FUEL 0 (by omega) (by rw [Ai]; omega)
def actV (v:Va):Va:=(v.1,v.2.2.1,v.2.2.1,())
def actS (l:List Va):List Va:=l.map actV
theorem F6 (l:List Va):(actS l).length=l.length:=by simp [actS]
theorem G80_eq (R:Type) {l:List Va} (hn:l.length≤1000) (k0:List Va→Option R):∀(m i:Nat),i≤l.length→l.length - i<m→
  zdb m R l (i:Int) (actS (l.take i)) k0=k0 (actS l)
 | 0,i,_,h=>by omega
 | m+1,i,h1,h2=>by
  simp only [zdb,p80_3]
  by_cases hi:i<l.length
  ·have ih:=G80_eq R hn k0 m (i+1) (by omega) (by omega)
   have hc:∀v:Va,decide ((actS (l.take i)).length+[v].length≤2932031007402)=true:=fun v=>by
    have:(actS (l.take i)).length≤1000:=by rw [F6,List.length_take]; omega
    simp; omega
   have es:actS (l.take i)++[((l.getD i zV).1,(l.getD i zV).2.2.1,(l.getD i zV).2.2.1,())]=actS (l.take (i+1)):=by
    rw [List.take_succ_eq_append_getElem hi,Cr hi]; simp only [actS,actV,List.map_append,List.map_cons,List.map_nil]
   simp only [By hi,Ap hi,Int.toNat_natCast,A2 hi hn,hc];rw [es,ih]
  ·have:i=l.length:=by omega
   subst this;simp only [Bd,List.take_length]
theorem F80_eq (R:Type) {l:List Va} (hn:l.length≤1000) (k:List Va→Option R):F80 R l k=k (actS l):=by
 simp only [F80,p80];exact G80_eq R hn (fun x=>k x) FUEL 0 (by omega) (by rw [Ai]; omega)
theorem zs1 (R:Type) {l:List Va} (hn:l.length≤1000) (k:List Va→Option R):F181 R l k=k l:=by
 simp only [F181];have hc:decide (([]:List Va).length+l.length≤2932031007402)=true:=by simp; omega
 rw [hc]
theorem zqa (R:Type) {l:List Va} (hn:l.length≤1000) (k0:List Va→Option R):∀(m i:Nat),i≤l.length→l.length - i<m→
  Rk m R (l.length:Int) (i:Int) (actS (l.take i)++l.drop i) k0=k0 (actS l)
 | 0,i,_,h=>by omega
 | m+1,i,h1,h2=>by
  simp only [Rk,zlq]
  by_cases hi:i<l.length
  ·have ih:=zqa R hn k0 m (i+1) (by omega) (by omega)
   have hlen:(actS (l.take i)++l.drop i).length=l.length:=by simp [F6]; omega
   have hat:(actS (l.take i)).length=i:=by rw [F6,List.length_take]; omega
   have hg:(actS (l.take i)++l.drop i).getD i zV=l[i]:=by
    rw [List.getD_eq_getElem?_getD,List.getElem?_append_right (by omega),hat,Nat.sub_self,List.getElem?_drop];simp [hi]
   have hs:(actS (l.take i)++l.drop i).set i (l[i].1,l[i].2.2.1,l[i].2.2)=actS (l.take (i+1))++l.drop (i+1):=by
    rw [List.set_append_right _ _ (by omega),hat,Nat.sub_self,List.drop_eq_getElem_cons hi,List.set_cons_zero,List.take_succ_eq_append_getElem hi];simp only [actS,actV,List.map_append,List.map_cons,List.map_nil,List.append_assoc,List.cons_append,List.nil_append]
   rw [hlen];simp only [By hi,Ap hi,Int.toNat_natCast,A2 hi hn,hg,hs];rw [ih]
  ·have:i=l.length:=by omega
   subst this;simp only [Bd,List.take_length,List.drop_length,List.append_nil]
theorem F154_eq (R:Type) {l:List Va} (hn:l.length≤1000) (k:List Va→Option R):F154 R l k=k (actS l):=by
 simp only [F154,p154,zs1 R hn];exact zqa R hn (fun x=>k x) FUEL 0 (by omega) (by rw [Ai]; omega)
end Go.PG
namespace Go.PG
def fstK (l:List Va) (key:List Int):Option Nat:=l.findIdx? fun v=>decide (v.1=key)
def G4 (l:List Va):List (List Int):=l.map fun v=>v.1
def plA (l:List Va):Nat→List (List Int×Int)
 | 0=>[]
 | i+1=>match B6 (Kd.eqv (.arr 32 (.int .u8))) (plA l i) (l.getD i zV).1 with
  | some _=>plA l i
  | none=>plA l i++[((l.getD i zV).1,(i:Int))]
theorem zii {K V:Type} (eq:K→K→Bool) (m:List (K×V)) (x:K×V) (k:K):B6 eq (m++[x]) k=match B6 eq m k with | some v=>some v | none=>match eq k x.1 with | true=>some x.2 | false=>none:=by
 induction m with
 | nil=>simp only [List.nil_append,B6]; cases eq k x.1<;>rfl
 | cons y m ih=>
  simp only [List.cons_append,B6];cases eq k y.1
  ·exact ih
  ·rfl
theorem zn1 {l:List Va} {i:Nat} (hi:i<l.length) (key:List Int):fstK (l.take (i+1)) key=match fstK (l.take i) key with | some j=>some j | none=>if (l.getD i zV).1=key then some i else none:=by
 unfold fstK;rw [List.take_succ_eq_append_getElem hi,List.findIdx?_append,Cr hi];cases List.findIdx? (fun v=>decide (v.1=key)) (l.take i) with
 | some j=>rfl
 | none=>
  have hl:(l.take i).length=i:=by rw [List.length_take]; omega
  by_cases e:l[i].1=key
  ·simp [List.findIdx?_cons,e,hl]
  ·simp [List.findIdx?_cons,e]
theorem Ul {l:List Va} (h:VsOK l):∀(i:Nat),i≤l.length→∀(key:List Int),key.length=32→B6 (Kd.eqv (.arr 32 (.int .u8))) (plA l i) key=Option.map (fun n:Nat=>(n:Int)) (fstK (l.take i) key)
 | 0,_,key,_=>by simp [plA,B6,fstK]
 | i+1,hi,key,hk=>by
  have hi':i<l.length:=by omega
  have ih:=Ul h i (by omega);have hv:=(h.get i).key.1;rw [zn1 hi'];simp only [plA];have h1:=ih (l.getD i zV).1 hv;cases hf:B6 (Kd.eqv (.arr 32 (.int .u8))) (plA l i) (l.getD i zV).1 with
  | some z=>
   simp only [];rw [ih key hk];cases hq:fstK (l.take i) key with
   | some j=>rfl
   | none=>
    simp only [];rw [if_neg];intro e;rw [hf,e,hq] at h1;cases h1
  | none=>
   simp only [];rw [zii,ih key hk];cases hq:fstK (l.take i) key with
   | some j=>rfl
   | none=>
    simp only [Option.map_none];have e1:Kd.eqv (.arr 32 (.int .u8)) key (l.getD i zV).1=decide (key=(l.getD i zV).1):=A3 hk hv;rw [e1]
    by_cases e:(l.getD i zV).1=key
    ·rw [decide_eq_true e.symm,if_pos e]; rfl
    ·rw [decide_eq_false (fun q=>e q.symm),if_neg e]; rfl
theorem Xl {l:List Va} {key:List Int}:fstK l key=none↔key∉G4 l:=by
 unfold fstK G4;rw [List.findIdx?_eq_none_iff];constructor
 ·intro h hm
  obtain ⟨v,hv,e⟩:=List.mem_map.1 hm;have:=h v hv;simp [e] at this
 ·intro h v hv
  simp only [decide_eq_false_iff_not];intro e;exact h (List.mem_map.2 ⟨v,hv,e⟩)
theorem U3 {l:List Va} {key:List Int} {j:Nat} (h:fstK l key=some j):j<l.length∧(l.getD j zV).1=key:=by
 obtain ⟨h1,h2,_⟩:=List.findIdx?_eq_some_iff_getElem.1 h;exact ⟨h1,by rw [Cr h1]; simpa using h2⟩
theorem zin {l:List Va} {i:Nat} (hi:i<l.length):G4 (l.take (i+1))=G4 (l.take i)++[(l.getD i zV).1]:=by
 rw [List.take_succ_eq_append_getElem hi,Cr hi]; simp only [G4,List.map_append,List.map_cons,List.map_nil]
theorem zkq {l:List Va} (h:VsOK l):∀(i:Nat),i≤l.length→(plA l i).length≤i∧((plA l i).length=i↔(G4 (l.take i)).Nodup)
 | 0,_=>by simp [plA,G4]
 | i+1,hi=>by
  have hi':i<l.length:=by omega
  obtain ⟨ih1,ih2⟩:=zkq h i (by omega);have h1:=Ul h i (by omega) (l.getD i zV).1 (h.get i).key.1;rw [zin hi',List.nodup_append];simp only [plA];cases hf:B6 (Kd.eqv (.arr 32 (.int .u8))) (plA l i) (l.getD i zV).1 with
  | some z=>
   simp only [];refine ⟨by omega,⟨fun hh=>by omega,fun hh=>?_⟩⟩;exfalso;rw [hf] at h1;cases hq:fstK (l.take i) (l.getD i zV).1 with
   | none=>rw [hq] at h1; cases h1
   | some j=>
    have hm:(l.getD i zV).1∈G4 (l.take i):=by
     apply Classical.byContradiction;intro hn;rw [Xl.2 hn] at hq;cases hq
    exact hh.2.2 _ hm _ (List.mem_singleton.2 rfl) rfl
  | none=>
   simp only [List.length_append,List.length_cons,List.length_nil];rw [hf] at h1;have hq:fstK (l.take i) (l.getD i zV).1=none:=by
    cases hq:fstK (l.take i) (l.getD i zV).1 with
    | none=>rfl
    | some j=>rw [hq] at h1; cases h1
   have hn:=Xl.1 hq;refine ⟨by omega,⟨fun hh=>⟨ih2.1 (by omega),by simp,fun a ha b hb e=>?_⟩,fun hh=>by have:=ih2.2 hh.1; omega⟩⟩;rw [List.mem_singleton.1 hb] at e;exact hn (e ▸ ha)
theorem zqd (R:Type) {l:List Va} (hn:l.length≤1000) (k0:List (List Int×Int)→Option R):∀(m i:Nat),i≤l.length→l.length - i<m→
  Dr m R l (l.length:Int) (i:Int) (plA l i) k0=k0 (plA l l.length)
 | 0,i,_,h=>by omega
 | m+1,i,h1,h2=>by
  simp only [Dr,zgm]
  by_cases hi:i<l.length
  ·have ih:=zqd R hn k0 m (i+1) (by omega) (by omega)
   simp only [By hi,Ap hi,Int.toNat_natCast,A2 hi hn];simp only [plA] at ih;cases hf:B6 (Kd.eqv (.arr 32 (.int .u8))) (plA l i) (l.getD i zV).1 with
   | some z=>
    simp only [hf] at ih;simp only [Option.isSome_some,Bool.not_true];exact ih
   | none=>
    simp only [hf] at ih;simp only [Option.isSome_none,Bool.not_false,Option.isNone_none];exact ih
  ·have:i=l.length:=by omega
   subst this;simp only [Bd]
theorem ztd (R:Type) {l:List Va} (hn:l.length≤1000) (k:List (List Int×Int)→Option R):F138 R l k=k (plA l l.length):=by
 simp only [F138,p138];exact zqd R hn (fun x=>k x) FUEL 0 (by omega) (by rw [Ai]; omega)
def Dq (l:List Va):Bool:=decide (totS (Am l)<9223372036854775808)&&(decide (totS (Az l)<9223372036854775808)&&decide (G4 l).Nodup)
theorem zte (R:Type) {l:List Va} (h:VsOK l) (hn:l.length≤1000) (k:Bool→Option R):F137 R l k=k (Dq l):=by
 simp only [F137,p137,R9 R hn,ztc R hn];rw [Oa R (Cp h) (by rw [B1]; omega)];unfold Dq
 by_cases h1:totS (Am l)<9223372036854775808
 ·rw [if_pos h1,Oa R (C2 h) (by rw [Ce]; omega)]
  by_cases h2:totS (Az l)<9223372036854775808
  ·rw [if_pos h2]
   have hc:decide ((l.length:Int)≤1048576)=true:=by simp; omega
   simp only [hc,ztd R hn];have hd:=(zkq h l.length (Nat.le_refl _)).2;rw [List.take_length] at hd;rw [decide_eq_true h1,decide_eq_true h2,Bool.true_and,Bool.true_and]
   congr 1
   by_cases h3:(G4 l).Nodup
   ·rw [decide_eq_true h3]; simp [hd.2 h3]
   ·rw [decide_eq_false h3]
    have:(plA l l.length).length≠l.length:=fun e=>h3 (hd.1 e)
    simp; omega
  ·rw [if_neg h2,decide_eq_false h2,Bool.false_and,Bool.and_false]
 ·rw [if_neg h1,decide_eq_false h1,Bool.false_and,Oa R (C2 h) (by rw [Ce]; omega)]
  by_cases h2:totS (Az l)<9223372036854775808
  ·rw [if_pos h2]
  ·rw [if_neg h2]
def neK (l:List Va) (i j:Nat):Bool:=decide ((l.getD i zV).1≠(l.getD j zV).1)
theorem Y4 (R:Type) {l:List Va} (h:VsOK l) (hn:l.length≤1000) {i:Nat} (hi:i<l.length) (k0:Bool→Option R) (k1:List Va→Int→Option R):∀(m j:Nat),j≤i→i - j<m→
  O2 m R l (i:Int) (j:Int) k0 k1=match B4 (neK l i) (i - j) j with | true=>k1 l i | false=>k0 false
 | 0,j,_,hh=>by omega
 | m+1,j,h1,h2=>by
  simp only [O2,zl7]
  by_cases hj:j<i
  ·have ih:=Y4 R h hn hi k0 k1 m (j+1) (by omega) (by omega)
   have e1:Kd.eqv (.arr 32 (.int .u8)) (l.getD i zV).1 (l.getD j zV).1=decide ((l.getD i zV).1=(l.getD j zV).1):=A3 (h.get i).key.1 (h.get j).key.1;simp only [By hj,Ap hi,Ap (Nat.lt_trans hj hi),Int.toNat_natCast,A2 (Nat.lt_trans hj hi) hn,e1];rw [show i - j=(i - (j+1))+1 by omega];simp only [B4]
   by_cases e:(l.getD i zV).1=(l.getD j zV).1
   ·have e2:neK l i j=false:=by unfold neK; rw [decide_eq_false_iff_not]; exact fun hh=>hh e
    simp only [decide_eq_true e,e2,Bool.false_and]
   ·have e2:neK l i j=true:=by unfold neK; simp only [decide_eq_true_eq]; exact e
    simp only [decide_eq_false e,e2,Bool.true_and];exact ih
  ·have:j=i:=by omega
   subst this;simp only [Bd,Nat.sub_self,B4]
theorem Y5 (R:Type) {l:List Va} (h:VsOK l) (hn:l.length≤1000) (k0:Bool→Option R) (k1:Option R):∀(m i:Nat),i≤l.length→l.length - i<m→
  Ll m R l (i:Int) k0 k1=match B4 (fun i=>B4 (neK l i) i 0) (l.length - i) i with | true=>k1 | false=>k0 false
 | 0,i,_,hh=>by omega
 | m+1,i,h1,h2=>by
  simp only [Ll,zl8]
  by_cases hi:i<l.length
  ·have ih:=Y5 R h hn k0 k1 m (i+1) (by omega) (by omega)
   simp only [By hi];have hin:=Y4 R h hn hi (fun x5=>k0 x5) (fun x6 x7=>Ll m R x6 (IntKind.i64.wrap (x7+1)) k0 k1) FUEL 0 (by omega) (by rw [Ai]; omega);refine hin.trans ?_;rw [show l.length - i=(l.length - (i+1))+1 by omega,Nat.sub_zero];simp only [B4];cases B4 (neK l i) i 0 with
   | true=>simp only [Bool.true_and,A2 hi hn]; exact ih
   | false=>simp only [Bool.false_and]
  ·have:i=l.length:=by omega
   subst this;simp only [Bd,Nat.sub_self,B4]
theorem nodup_iff {l:List Va}:B4 (fun i=>B4 (neK l i) i 0) l.length 0=decide (G4 l).Nodup:=by
 rw [Bool.eq_iff_iff,decide_eq_true_eq,Fs];unfold List.Nodup;rw [List.pairwise_iff_getElem];constructor
 ·intro h i j hi hj hij
  have hi':i<l.length:=by simpa [G4] using hi
  have hj':j<l.length:=by simpa [G4] using hj
  have h1:=Fs.1 (h j (by omega) (by omega)) i (by omega) (by omega);unfold neK at h1;simp only [decide_eq_true_eq] at h1;rw [Cr hi',Cr hj'] at h1;simp only [G4,List.getElem_map];exact fun e=>h1 e.symm
 ·intro h j _ hj
  refine Fs.2 fun i _ hi=>?_
  have hi':i<l.length:=by omega
  have hj':j<l.length:=by omega
  have h1:=h i j (by simpa [G4] using hi') (by simpa [G4] using hj') (by omega);simp only [G4,List.getElem_map] at h1;unfold neK;simp only [decide_eq_true_eq];rw [Cr hi',Cr hj'];exact fun e=>h1 e.symm
theorem zfi (R:Type) {l:List Va} (h:VsOK l) (hn:l.length≤1000) (k:Bool→Option R):F116 R l k=k (Dq l):=by
 simp only [F116,p116,zsx R hn,ztg R hn];rw [Iv R (Cp h) (by rw [B1]; omega)];have hc:decide ((l.length:Int)>1048576)=false:=by simp; omega
 have hG:=Y5 R h hn (fun x9=>k x9) (k true) FUEL 0 (by omega) (by rw [Ai]; omega);rw [Nat.sub_zero,nodup_iff] at hG;unfold Dq
 by_cases h1:totS (Am l)<9223372036854775808
 ·rw [if_pos h1,Iv R (C2 h) (by rw [Ce]; omega)]
  by_cases h2:totS (Az l)<9223372036854775808
  ·rw [if_pos h2]
   simp only [hc,Bool.not_true];rw [decide_eq_true h1,decide_eq_true h2,Bool.true_and,Bool.true_and];refine hG.trans ?_;cases decide (G4 l).Nodup<;>rfl
  ·rw [if_neg h2,decide_eq_false h2,Bool.false_and,Bool.and_false]
   simp only [hc,Bool.not_true,Bool.not_false]
 ·rw [if_neg h1,decide_eq_false h1,Bool.false_and,Iv R (C2 h) (by rw [Ce]; omega)]
  by_cases h2:totS (Az l)<9223372036854775808
  ·rw [if_pos h2]; simp only [hc,Bool.not_false]
  ·rw [if_neg h2]; simp only [hc,Bool.not_false]
end Go.PG
namespace Go.PG
def Jm (l:List Va) (i:Nat) (n:Int):List Va:=l.set i ((l.getD i zV).1,(l.getD i zV).2.1,n,())
theorem We (R:Type) {l:List Va} (hn:l.length≤1000) {i:Nat} (hi:i<l.length) (n:Int) (k:List Va→Option R):F119 R l (i:Int) n k=k (Jm l i n):=by
 simp only [F119,p119];have hc:decide (([]:List Va).length+l.length≤2932031007402)=true:=by simp; omega
 simp only [hc,List.nil_append,Ap hi,Int.toNat_natCast];rfl
theorem Wd (R:Type) {l:List Va} (hn:l.length≤1000) {i:Nat} (hi:i<l.length) (n:Int) (k:List Va→Option R):F143 R l (i:Int) n k=k (Jm l i n):=by
 simp only [F143,p143,zs1 R hn,Ap hi,Int.toNat_natCast];rfl
theorem Gk (l:List Int) (a:Int):totS (l++[a])=totS l+a:=by
 unfold totS sumS;rw [List.take_length,List.take_length];simp
theorem zae {l:List Va} (h:VsOK l) {i:Nat} (hi:i<l.length):(l.getD i zV).2.2.1≤totS (Az l):=by
 have h1:=Bl (l:=Az l) (i:=i) (by rw [Ce]; exact hi);have h2:=C4 (C2 h) (i+1);have h3:=Au (C2 h) i;have h4:(Az l).getD i 0=(l.getD i zV).2.2.1:=by
  rw [Cr hi]; simp [Az,hi]
 rw [h4] at h1;omega
def depS (l:List Va) (key:List Int) (a most:Int):List Va×Int×Int:=
 if Dq l=true∧a≠0∧1≤most∧most≤1048576 then
  match fstK l key with
  | none=>if most≤(l.length:Int) then ([],0,4) else if totS (Az l)+a<9223372036854775808 then (l++[(key,0,a,())],(l.length:Int),0) else ([],0,11)
  | some i=>if totS (Az l)+a<9223372036854775808 then (Jm l i ((l.getD i zV).2.2.1+a),(i:Int),0) else ([],0,11)
 else ([],0,1)
theorem P2 {l:List Va} (h:Dq l=true):totS (Am l)<9223372036854775808∧totS (Az l)<9223372036854775808∧(G4 l).Nodup:=by
 unfold Dq at h;rw [Bool.and_eq_true,Bool.and_eq_true] at h;exact ⟨of_decide_eq_true h.1,of_decide_eq_true h.2.1,of_decide_eq_true h.2.2⟩
theorem Pp {l:List Int} (h:AllU64 l):0≤totS l:=Au h _
theorem T2 {x:Int} (h0:0≤x) (h1:x<9223372036854775808):IntKind.u64.wrap x=x:=by rw [Ch]; omega
theorem F97_eq (R:Type) {l:List Va} (h:VsOK l) (hn:l.length≤900) {key:List Int} (hk:key.length=32) {a:Int} (ha:U64 a) (most:Int) (k:List Va→Int→Int→Option R):
  F97 R l key a most k=k (depS l key a most).1 (depS l key a most).2.1 (depS l key a most).2.2:=by
 simp only [F97,p97,zte R h (by omega),ztd R (show l.length≤1000 by omega),ztc R (show l.length≤1000 by omega)];unfold depS;cases hr:Dq l with
 | false=>simp
 | true=>
  obtain ⟨_,ht,_⟩:=P2 hr;have htn:=Pp (C2 h);unfold U64 at ha;simp only [Bool.not_true]
  by_cases h1:a=0
  ·rw [if_neg (by simp [h1])]; simp [h1]
  by_cases h2:most<1
  ·rw [if_neg (by omega)]
   have e1:(a==0)=false:=by simpa using h1
   simp only [e1,decide_eq_true h2]
  by_cases h3:most>1048576
  ·rw [if_neg (by omega)]
   have e1:(a==0)=false:=by simpa using h1
   simp only [e1,decide_eq_false h2,decide_eq_true h3]
  have e1:(a==0)=false:=by simpa using h1
  rw [if_pos ⟨trivial,h1,by omega,by omega⟩];have hf:=Ul h l.length (Nat.le_refl _) key hk;rw [List.take_length] at hf;have hT:=Oa R (C2 h) (show (Az l).length≤1000000 by rw [Ce]; omega);have hA:=zff R (a:=totS (Az l)) (b:=a) ⟨htn,ht⟩ ha;simp only [e1,decide_eq_false h2,decide_eq_false h3,hf];cases hq:fstK l key with
  | none=>
   simp only [Option.map_none,Option.isSome_none,Bool.not_false]
   by_cases h4:most≤(l.length:Int)
   ·rw [if_pos h4]
    simp only [decide_eq_true (show (l.length:Int)≥most from h4)]
   ·rw [if_neg h4]
    simp only [decide_eq_false (show ¬(l.length:Int)≥most from h4),hT,if_pos ht,hA]
    by_cases h5:totS (Az l)+a<9223372036854775808
    ·rw [if_pos h5,if_pos h5]
     have hc:decide (0<[((key,0,0,()):Va)].length∧l.length+[((key,0,0,()):Va)].length≤2932031007402)=true:=by simp; omega
     have hl:l.length<(l++[((key,0,0,()):Va)]).length:=by simp
     have hg:(l++[((key,0,0,()):Va)]).getD l.length zV=(key,0,0,()):=by simp
     simp only [Bool.not_true,hc,Ap hl,Int.toNat_natCast,hg,Int.zero_add];rw [T2 (by omega) (by omega),Wd R (by simp; omega) hl];have:Jm (l++[((key,0,0,()):Va)]) l.length a=l++[(key,0,a,())]:=by
      unfold Jm;rw [hg,List.set_append_right _ _ (Nat.le_refl _),Nat.sub_self];rfl
     rw [this]
    ·rw [if_neg h5,if_neg h5]; simp only [Bool.not_false]
  | some i=>
   obtain ⟨hi,_⟩:=U3 hq;have hnx:=zae h hi;have hx:=(h.get i).next;unfold U64 at hx;simp only [Option.map_some,Option.isSome_some,Bool.not_true,Option.getD_some,hT,if_pos ht,hA]
   by_cases h5:totS (Az l)+a<9223372036854775808
   ·simp only [if_pos h5,Bool.not_true,Ap hi,Int.toNat_natCast]
    rw [show IntKind.u64.wrap ((l.getD i zV).2.2.1+a)=(l.getD i zV).2.2.1+a from T2 (by omega) (by omega),Wd R (by omega) hi];cases decide ((i:Int)≥most)<;>rfl
   ·simp only [if_neg h5,Bool.not_false]
    cases decide ((i:Int)≥most)<;>rfl
theorem zql (R:Type) {l:List Va} (h:VsOK l) (hn:l.length≤1000) {key:List Int} (hk:key.length=32) (k0:Int→Bool→Option R) (k1:Option R):∀(m i:Nat),i≤l.length→l.length - i<m→
  Rx m R l (i:Int) key k0 k1=match fstK (l.drop i) key with | some j=>k0 ((i+j:Nat):Int) true | none=>k1
 | 0,i,_,hh=>by omega
 | m+1,i,h1,h2=>by
  simp only [Rx,zl6]
  by_cases hi:i<l.length
  ·have ih:=zql R h hn hk k0 k1 m (i+1) (by omega) (by omega)
   have e1:Kd.eqv (.arr 32 (.int .u8)) (l.getD i zV).1 key=decide ((l.getD i zV).1=key):=A3 (h.get i).key.1 hk;simp only [By hi,Ap hi,Int.toNat_natCast,A2 hi hn,e1];rw [List.drop_eq_getElem_cons hi];unfold fstK at ih ⊢;rw [List.findIdx?_cons,Cr hi]
   by_cases e:l[i].1=key
   ·simp only [decide_eq_true e,if_true,Nat.add_zero]
   ·simp only [decide_eq_false e,ih]
    cases hq:List.findIdx? (fun v=>decide (v.1=key)) (l.drop (i+1)) with
    | none=>simp
    | some j=>
     simp only [Bool.false_eq_true,if_false,Option.map_some];rw [show i+1+j=i+(j+1) by omega]
  ·have:i=l.length:=by omega
   subst this;simp only [Bd,List.drop_length];rfl
theorem F117_eq (R:Type) {l:List Va} (h:VsOK l) (hn:l.length≤1000) {key:List Int} (hk:key.length=32) (k:Int→Bool→Option R):F117 R l key k=match fstK l key with | some j=>k (j:Int) true | none=>k 0 false:=by
 simp only [F117,p117];refine (zql R h hn hk (fun x1 x2=>k x1 x2) (k 0 false) FUEL 0 (by omega) (by rw [Ai]; omega)).trans ?_;rw [List.drop_zero];cases fstK l key with
 | none=>rfl
 | some j=>simp only [Nat.zero_add]
theorem F71_eq (R:Type) {l:List Va} (h:VsOK l) (hn:l.length≤900) {key:List Int} (hk:key.length=32) {a:Int} (ha:U64 a) (most:Int) (k:List Va→Int→Int→Option R):
  F71 R l key a most k=k (depS l key a most).1 (depS l key a most).2.1 (depS l key a most).2.2:=by
 simp only [F71,p71,zfi R h (by omega),F117_eq R h (show l.length≤1000 by omega) hk,ztg R (show l.length≤1000 by omega)];unfold depS;cases hr:Dq l with
 | false=>simp
 | true=>
  obtain ⟨_,ht,_⟩:=P2 hr;have htn:=Pp (C2 h);have hau:=ha;unfold U64 at ha;simp only [Bool.not_true]
  by_cases h1:a=0
  ·rw [if_neg (by simp [h1])]; simp [h1]
  have e1:(a==0)=false:=by simpa using h1
  by_cases h2:most<1
  ·rw [if_neg (by omega)]
   simp only [e1,decide_eq_true h2]
  by_cases h3:most>1048576
  ·rw [if_neg (by omega)]
   simp only [e1,decide_eq_false h2,decide_eq_true h3]
  rw [if_pos ⟨trivial,h1,by omega,by omega⟩];have hA:AllU64 (Az l++[a]):=fun x hx=>by
   rcases List.mem_append.1 hx with hx | hx
   ·exact C2 h x hx
   ·rw [List.mem_singleton.1 hx]; exact hau
  have hT:=Iv R hA (show (Az l++[a]).length≤1000000 by rw [List.length_append,Ce]; simp; omega);rw [Gk] at hT;have hc:decide ((Az l).length+[a].length≤17592186044416)=true:=Xz (by rw [Ce]; omega) rfl;simp only [e1,decide_eq_false h2,decide_eq_false h3];cases hq:fstK l key with
  | none=>
   simp only [Bool.not_false]
   by_cases h4:most≤(l.length:Int)
   ·rw [if_pos h4]
    simp only [decide_eq_true (show (l.length:Int)≥most from h4)]
   ·rw [if_neg h4]
    simp only [decide_eq_false (show ¬(l.length:Int)≥most from h4),hc,hT]
    by_cases h5:totS (Az l)+a<9223372036854775808
    ·rw [if_pos h5,if_pos h5]
     have c1:decide (([]:List Va).length+l.length≤2932031007402)=true:=by simp; omega
     have c2:decide (l.length+[((key,0,a,()):Va)].length≤2932031007402)=true:=by simp; omega
     simp only [Bool.not_true,c1,List.nil_append,c2]
    ·rw [if_neg h5,if_neg h5]; simp only [Bool.not_false]
  | some i=>
   obtain ⟨hi,_⟩:=U3 hq;have hnx:=zae h hi;have hx:=(h.get i).next;unfold U64 at hx;simp only [Bool.not_true,hc,hT]
   by_cases h5:totS (Az l)+a<9223372036854775808
   ·simp only [if_pos h5,Bool.not_true,Ap hi,Int.toNat_natCast]
    rw [show IntKind.u64.wrap ((l.getD i zV).2.2.1+a)=(l.getD i zV).2.2.1+a from T2 (by omega) (by omega),We R (by omega) hi]
   ·simp only [if_neg h5,Bool.not_false]
def wdS (l:List Va) (who a:Int):List Va×Int×Int:=
 if Dq l=true∧a≠0 then
  if 0≤who∧who<(l.length:Int) then
   if a≤(l.getD who.toNat zV).2.2.1 then (Jm l who.toNat ((l.getD who.toNat zV).2.2.1 - a),(l.getD who.toNat zV).2.2.1 - a,0) else ([],0,12)
  else ([],0,5)
 else ([],0,1)
def slS (l:List Va) (who a:Int):List Va×Int×Int:=
 if Dq l=true then
  if 0≤who∧who<(l.length:Int) then
   (Jm l who.toNat ((l.getD who.toNat zV).2.2.1 - min a (l.getD who.toNat zV).2.2.1),min a (l.getD who.toNat zV).2.2.1,0)
  else ([],0,5)
 else ([],0,1)
def zfy (l:List Va) (who:Int):Int:=if Dq l=true then (if 0≤who∧who<(l.length:Int) then 0 else 5) else 1
theorem ztb (R:Type) {l:List Va} (h:VsOK l) (hn:l.length≤1000) (who:Int) (k:Int→Option R):F144 R l who k=k (zfy l who):=by
 simp only [F144,p144,zte R h hn];unfold zfy;cases Dq l with
 | false=>simp
 | true=>
  simp only [Bool.not_true,if_true]
  by_cases h1:who<0
  ·rw [if_neg (by omega)]; simp only [decide_eq_true h1]
  ·by_cases h2:who≥(l.length:Int)
   ·rw [if_neg (by omega)]; simp only [decide_eq_false h1,decide_eq_true h2]
   ·rw [if_pos (by omega)]; simp only [decide_eq_false h1,decide_eq_false h2]
theorem F98_eq (R:Type) {l:List Va} (h:VsOK l) (hn:l.length≤1000) (who:Int) {a:Int} (ha:U64 a) (k:List Va→Int→Int→Option R):
  F98 R l who a k=k (wdS l who a).1 (wdS l who a).2.1 (wdS l who a).2.2:=by
 simp only [F98,p98,ztb R h hn];unfold wdS zfy;unfold U64 at ha
 by_cases h1:a=0
 ·rw [if_neg (show ¬(Dq l=true∧a≠0) from fun q=>q.2 h1)]; simp [h1]
 have e1:(a==0)=false:=by simpa using h1
 simp only [e1];cases hr:Dq l with
 | false=>simp
 | true=>
  have q:(True∧a≠0):=⟨trivial,h1⟩
  simp only [if_pos q,if_true]
  by_cases h2:0≤who∧who<(l.length:Int)
  ·obtain ⟨i,rfl⟩:∃i:Nat,who=i:=⟨who.toNat,by omega⟩
   have hi:i<l.length:=by omega
   have hx:=(h.get i).next;unfold U64 at hx;rw [if_pos h2,if_pos h2];simp only [bne_self_eq_false,Ap hi,Int.toNat_natCast]
   by_cases h3:a≤(l.getD i zV).2.2.1
   ·rw [if_pos h3]
    have:¬a>(l.getD i zV).2.2.1:=by omega
    simp only [decide_eq_false this];rw [show IntKind.u64.wrap ((l.getD i zV).2.2.1 - a)=(l.getD i zV).2.2.1 - a by rw [Ch]; omega,Wd R hn hi]
   ·rw [if_neg h3]
    have:a>(l.getD i zV).2.2.1:=by omega
    simp only [decide_eq_true this]
  ·rw [if_neg h2,if_neg h2]
   rfl
theorem F99_eq (R:Type) {l:List Va} (h:VsOK l) (hn:l.length≤1000) (who:Int) {a:Int} (ha:U64 a) (k:List Va→Int→Int→Option R):
  F99 R l who a k=k (slS l who a).1 (slS l who a).2.1 (slS l who a).2.2:=by
 simp only [F99,p99,ztb R h hn];unfold slS zfy;unfold U64 at ha;cases hr:Dq l with
 | false=>simp
 | true=>
  simp only [if_true]
  by_cases h2:0≤who∧who<(l.length:Int)
  ·obtain ⟨i,rfl⟩:∃i:Nat,who=i:=⟨who.toNat,by omega⟩
   have hi:i<l.length:=by omega
   have hx:=(h.get i).next;unfold U64 at hx;rw [if_pos h2,if_pos h2];have em:(if (l.getD i zV).2.2.1<a then (l.getD i zV).2.2.1 else a)=min a (l.getD i zV).2.2.1:=by
    by_cases hh:(l.getD i zV).2.2.1<a
    ·rw [if_pos hh]; omega
    ·rw [if_neg hh]; omega
   simp only [bne_self_eq_false,Ap hi,Int.toNat_natCast,em];rw [show IntKind.u64.wrap ((l.getD i zV).2.2.1 - min a (l.getD i zV).2.2.1)=(l.getD i zV).2.2.1 - min a (l.getD i zV).2.2.1 by rw [Ch]; omega,Wd R hn hi]
  ·rw [if_neg h2,if_neg h2]
   rfl
theorem F72_eq (R:Type) {l:List Va} (h:VsOK l) (hn:l.length≤1000) (who:Int) {a:Int} (ha:U64 a) (k:List Va→Int→Int→Option R):
  F72 R l who a k=k (wdS l who a).1 (wdS l who a).2.1 (wdS l who a).2.2:=by
 simp only [F72,p72,zfi R h hn];unfold wdS;unfold U64 at ha;cases hr:Dq l with
 | false=>simp
 | true=>
  simp only [Bool.not_true]
  by_cases h1:a=0
  ·rw [if_neg (by simp [h1])]; simp [h1]
  have e1:(a==0)=false:=by simpa using h1
  rw [if_pos ⟨trivial,h1⟩];simp only [e1]
  by_cases h2:0≤who∧who<(l.length:Int)
  ·obtain ⟨i,rfl⟩:∃i:Nat,who=i:=⟨who.toNat,by omega⟩
   have hi:i<l.length:=by omega
   have hx:=(h.get i).next;unfold U64 at hx;rw [if_pos h2];simp only [decide_eq_false (show ¬(i:Int)<0 by omega),decide_eq_false (show ¬(i:Int)≥(l.length:Int) by omega),Ap hi,Int.toNat_natCast]
   by_cases h3:a≤(l.getD i zV).2.2.1
   ·rw [if_pos h3]
    have:¬a>(l.getD i zV).2.2.1:=by omega
    simp only [decide_eq_false this];rw [show IntKind.u64.wrap ((l.getD i zV).2.2.1 - a)=(l.getD i zV).2.2.1 - a by rw [Ch]; omega,We R hn hi]
   ·rw [if_neg h3]
    have:a>(l.getD i zV).2.2.1:=by omega
    simp only [decide_eq_true this]
  ·rw [if_neg h2]
   by_cases h3:who<0
   ·simp only [decide_eq_true h3]
   ·simp only [decide_eq_false h3,decide_eq_true (show who≥(l.length:Int) by omega)]
theorem F73_eq (R:Type) {l:List Va} (h:VsOK l) (hn:l.length≤1000) (who:Int) {a:Int} (ha:U64 a) (k:List Va→Int→Int→Option R):
  F73 R l who a k=k (slS l who a).1 (slS l who a).2.1 (slS l who a).2.2:=by
 simp only [F73,p73,zfi R h hn];unfold slS;unfold U64 at ha;cases hr:Dq l with
 | false=>simp
 | true=>
  simp only [Bool.not_true,if_true]
  by_cases h2:0≤who∧who<(l.length:Int)
  ·obtain ⟨i,rfl⟩:∃i:Nat,who=i:=⟨who.toNat,by omega⟩
   have hi:i<l.length:=by omega
   have hx:=(h.get i).next;unfold U64 at hx;rw [if_pos h2];simp only [decide_eq_false (show ¬(i:Int)<0 by omega),decide_eq_false (show ¬(i:Int)≥(l.length:Int) by omega),Ap hi,Int.toNat_natCast]
   by_cases h3:a>(l.getD i zV).2.2.1
   ·rw [show min a (l.getD i zV).2.2.1=(l.getD i zV).2.2.1 by omega]
    simp only [decide_eq_true h3];rw [show IntKind.u64.wrap ((l.getD i zV).2.2.1 - (l.getD i zV).2.2.1)=(l.getD i zV).2.2.1 - (l.getD i zV).2.2.1 by rw [Ch]; omega,We R hn hi]
   ·rw [show min a (l.getD i zV).2.2.1=a by omega]
    simp only [decide_eq_false h3];rw [show IntKind.u64.wrap ((l.getD i zV).2.2.1 - a)=(l.getD i zV).2.2.1 - a by rw [Ch]; omega,We R hn hi]
  ·rw [if_neg h2]
   by_cases h3:who<0
   ·simp only [decide_eq_true h3]
   ·simp only [decide_eq_false h3,decide_eq_true (show who≥(l.length:Int) by omega)]
end Go.PG
namespace Go.PG
abbrev OpT:=Int×(Int×(Int×(List Int×(Int×Unit))))
abbrev zO:OpT:=((0:Int),(0:Int),(0:Int),(List.replicate 32 (0:Int)),(0:Int),())
structure OpOK (o:OpT):Prop where
 kind:I64 o.1
 who:I64 o.2.1
 amount:U64 o.2.2.1
 hash:H32 o.2.2.2.1
 n:I64 o.2.2.2.2.1
theorem znq {x b:Int} (hx:0≤x∧x<72057594037927936) (hb:0≤b∧b<256):ior .u64 (ishl .u64 x 8) b=x*256+b:=by
 obtain ⟨n,rfl⟩:∃n:Nat,x=n:=⟨x.toNat,by omega⟩
 obtain ⟨c,rfl⟩:∃c:Nat,b=c:=⟨b.toNat,by omega⟩
 have e2:ishl .u64 (n:Int) 8=((n*256:Nat):Int):=by
  unfold ishl;rw [show (2:Int)^(min (8:Int).toNat IntKind.u64.bits)=256 by decide,Ad (by omega) (by omega)];simp
 rw [e2,zck,BitVec.ofInt_natCast,BitVec.ofInt_natCast,BitVec.toNat_or,BitVec.toNat_ofNat,BitVec.toNat_ofNat,Nat.mod_eq_of_lt (by omega),Nat.mod_eq_of_lt (by omega)];have h6:=Nat.shiftLeft_add_eq_or_of_lt (i:=8) (b:=c) (by omega) n;rw [Nat.shiftLeft_eq] at h6;rw [show n*256=n*2^8 by rfl,←h6];simp
theorem Ec {y z:Int} (hy:0≤y∧y<18446744073709551616) (hz:y/256=z):ior .u64 (ishl .u64 z 8) (y % 256)=y:=by
 rw [←hz,znq (by omega) (by omega)]; omega
theorem F205_eq (R:Type) {a:Int} (ha:U64 a) (k:Int→Option R):F205 R (putS a) k=k a:=by
 unfold U64 at ha;have s1:ior .u64 (ishl .u64 0 8) (a/72057594037927936 % 256)=a/72057594037927936:=Ec (by omega) (by omega);have s2:ior .u64 (ishl .u64 (a/72057594037927936) 8) (a/281474976710656 % 256)=a/281474976710656:=Ec (by omega) (by omega);have s3:ior .u64 (ishl .u64 (a/281474976710656) 8) (a/1099511627776 % 256)=a/1099511627776:=Ec (by omega) (by omega);have s4:ior .u64 (ishl .u64 (a/1099511627776) 8) (a/4294967296 % 256)=a/4294967296:=Ec (by omega) (by omega);have s5:ior .u64 (ishl .u64 (a/4294967296) 8) (a/16777216 % 256)=a/16777216:=Ec (by omega) (by omega)
 have s6:ior .u64 (ishl .u64 (a/16777216) 8) (a/65536 % 256)=a/65536:=Ec (by omega) (by omega);have s7:ior .u64 (ishl .u64 (a/65536) 8) (a/256 % 256)=a/256:=Ec (by omega) (by omega);have s8:ior .u64 (ishl .u64 (a/256) 8) (a % 256)=a:=Ec (by omega) (by omega);have w:∀y:Int,IntKind.u64.wrap (y % 256)=y % 256:=fun y=>Ad (by omega) (by omega)
 obtain ⟨m,hm⟩:=It 9 (by omega);simp only [F205,p205,hm,Tx,zld,putS];simp [bnd,Fx,w,s1,s2,s3,s4,s5,s6,s7,s8]
inductive Fd where | H | A | W | N
deriving DecidableEq
def enc:Fd→Tq9
 | .H=>((32:Int),(FnV.fn 199),(FnV.fn 201),())
 | .A=>((8:Int),(FnV.fn 202),(FnV.fn 204),())
 | .W=>((4:Int),(FnV.clo 241 (FnV.fn 207)),(FnV.clo 243 (FnV.fn 207)),())
 | .N=>((4:Int),(FnV.clo 241 (FnV.fn 208)),(FnV.clo 243 (FnV.fn 208)),())
def fsOf (k:Int):List Fd×Bool:=
 if k=1 then ([.H,.A],true) else if k=2 then ([.W,.A],true) else if k=3 then ([.W,.A],true) else if k=4 then ([.W,.H],true) else if k=5 then ([.W,.H],true) else
 if k=6 then ([],true) else if k=11 then ([],true) else if k=7 then ([.N],true) else if k=8 then ([.N],true) else if k=9 then ([.N,.W],true) else if k=10 then ([.W,.N],true) else ([],false)
theorem zcj (k:Int):k=1∨k=2∨k=3∨k=4∨k=5∨k=6∨k=7∨k=8∨k=9∨k=10∨k=11∨(k≠1∧k≠2∧k≠3∧k≠4∧k≠5∧k≠6∧k≠7∧k≠8∧k≠9∧k≠10∧k≠11):=by omega
theorem Ax {a b:Int} (h:a≠b):(a==b)=false:=by simpa using h
theorem Wf (R:Type) (x:Int) (k:List Tq9→Bool→Option R):F113 R x k=k ((fsOf x).1.map enc) (fsOf x).2:=by
 simp only [F113,p113,F163,p163,F164,p164,F165,p165,F166,p166,D2,Z6,D1,Z5];rcases zcj x with h | h | h | h | h | h | h | h | h | h | h | h
 ·subst h; rfl
 ·subst h; rfl
 ·subst h; rfl
 ·subst h; rfl
 ·subst h; rfl
 ·subst h; rfl
 ·subst h; rfl
 ·subst h; rfl
 ·subst h; rfl
 ·subst h; rfl
 ·subst h; rfl
 ·obtain ⟨h1,h2,h3,h4,h5,h6,h7,h8,h9,h10,h11⟩:=h
  simp only [Ax h1,Ax h2,Ax h3,Ax h4,Ax h5,Ax h6,Ax h7,Ax h8,Ax h9,Ax h10,Ax h11];simp [fsOf,h1,h2,h3,h4,h5,h6,h7,h8,h9,h10,h11]
def Fp (o:OpT):Fd→List Int
 | .H=>o.2.2.2.1
 | .A=>putS o.2.2.1
 | .W=>Cn o.2.1
 | .N=>Cn o.2.2.2.2.1
def Gm:Fd→Nat
 | .H=>32
 | .A=>8
 | .W=>4
 | .N=>4
def zj5 (o c:OpT):Fd→OpT
 | .H=>(c.1,c.2.1,c.2.2.1,o.2.2.2.1,c.2.2.2.2)
 | .A=>(c.1,c.2.1,o.2.2.1,c.2.2.2)
 | .W=>(c.1,o.2.1,c.2.2)
 | .N=>(c.1,c.2.1,c.2.2.1,c.2.2.2.1,o.2.2.2.2.1,c.2.2.2.2.2)
theorem K6 {o:OpT} (h:OpOK o) (f:Fd):(Fp o f).length=Gm f:=by
 cases f
 ·exact h.hash.1
 ·rfl
 ·rfl
 ·rfl
def Dk (o:OpT) (l:List Fd):List Int:=l.flatMap (Fp o)
theorem Ml (o:OpT) (f:Fd) (l:List Fd):Dk o (f::l)=Fp o f++Dk o l:=by simp [Dk]
theorem Qo {o:OpT} (h:OpOK o):∀(l:List Fd),(Dk o l).length=(l.map Gm).sum
 | []=>rfl
 | f::l=>by rw [Ml,List.length_append,K6 h,Qo h l]; simp
theorem zg8 (f:Fd):(enc f).1=(Gm f:Int):=by cases f<;>rfl
theorem Uc (f:Fd):Gm f≤32:=by cases f<;>decide
theorem zf4:∀(l:List Fd),(l.map Gm).sum≤32*l.length
 | []=>by simp
 | f::l=>by have:=zf4 l; have:=Uc f; simp; omega
theorem U2 {l:List Fd} {i:Nat} (hi:i<l.length):List.getD (l.map enc) i ((0:Int),FnV.nil,FnV.nil,())=enc l[i]:=by simp [hi]
theorem G65_eq (R:Type) {o:OpT} (h:OpOK o) (hw:U32 o.2.1) (hn:U32 o.2.2.2.2.1) {l:List Fd} (hl:l.length≤2) (k0:List Int→Option R):∀(m i:Nat) (acc:List Int),i≤l.length→l.length - i<m→acc.length≤1+32*i→
  Ym m R (l.map enc) (l.length:Int) (i:Int) o acc k0=k0 (acc++Dk o (l.drop i))
 | 0,i,acc,_,hh,_=>by omega
 | m+1,i,acc,h1,h2,h3=>by
  simp only [Ym,p65_6]
  by_cases hi:i<l.length
  ·have ih:=G65_eq R h hw hn hl k0 m (i+1) (acc++Fp o l[i]) (by omega) (by omega) (by rw [List.length_append,K6 h]; have:=Uc l[i]; omega)
   have hb:bnd (i:Int) ((l.map enc).length:Int)=true:=by rw [List.length_map]; exact Ap hi
   rw [List.drop_eq_getElem_cons hi,Ml,←List.append_assoc,←ih];simp only [By hi,hb,Int.toNat_natCast,A2 hi (show l.length≤1000 by omega),U2 hi];have hc:∀y:List Int,y.length≤32→decide (acc.length+y.length≤140737488355328)=true:=fun y hy=>by simp; omega
   have w1:IntKind.u32.wrap o.2.1=o.2.1:=by unfold U32 at hw; exact Cs hw.1 (by omega)
   have w2:IntKind.u32.wrap o.2.2.2.2.1=o.2.2.2.2.1:=by unfold U32 at hn; exact Cs hn.1 (by omega)
   cases l[i] with
   | H=>
    have e1:FnV.same (enc .H).2.1 (FnV.fn 199)=true:=rfl;have e2:List.take 32 (List.drop 0 o.2.2.2.1)=o.2.2.2.1:=by rw [List.drop_zero,List.take_of_length_le (by rw [h.hash.1]; omega)]
    have e3:decide (([]:List Int).length+o.2.2.2.1.length≤140737488355328)=true:=by rw [h.hash.1]; rfl
    simp only [e1,e2,F200,e3,hc _ (show o.2.2.2.1.length≤32 by rw [h.hash.1]; omega)];rfl
   | A=>
    have e1:FnV.same (enc .A).2.1 (FnV.fn 199)=false:=rfl;have e2:FnV.same (enc .A).2.1 (FnV.fn 202)=true:=rfl;have e3:List.take 8 (List.drop 0 (putS o.2.2.1))=putS o.2.2.1:=rfl;simp only [e1,e2,R8,e3,hc _ (show (putS o.2.2.1).length≤32 from Nat.le_of_ble_eq_true rfl)];rfl
   | W=>
    have e1:FnV.same (enc .W).2.1 (FnV.fn 199)=false:=rfl;have e2:FnV.same (enc .W).2.1 (FnV.fn 202)=false:=rfl;have e3:FnV.same (enc .W).2.1 (FnV.clo 241 (FnV.fn 207))=true:=rfl;have e4:List.take 4 (List.drop 0 (Cn o.2.1))=Cn o.2.1:=rfl;simp only [e1,e2,e3,w1,ze9 R hw,e4,hc _ (show (Cn o.2.1).length≤32 from Nat.le_of_ble_eq_true rfl)];rfl
   | N=>
    have e1:FnV.same (enc .N).2.1 (FnV.fn 199)=false:=rfl;have e2:FnV.same (enc .N).2.1 (FnV.fn 202)=false:=rfl;have e3:FnV.same (enc .N).2.1 (FnV.clo 241 (FnV.fn 207))=false:=rfl;have e3':FnV.same (enc .N).2.1 (FnV.clo 241 (FnV.fn 208))=true:=rfl;have e4:List.take 4 (List.drop 0 (Cn o.2.2.2.2.1))=Cn o.2.2.2.2.1:=rfl;simp only [e1,e2,e3,e3',w2,ze9 R hn,e4,hc _ (show (Cn o.2.2.2.2.1).length≤32 from Nat.le_of_ble_eq_true rfl)];rfl
  ·have:i=l.length:=by omega
   subst this;simp only [Bd,List.drop_length,Dk,List.flatMap_nil,List.append_nil]
theorem I8 (k:Int):(fsOf k).1.length≤2:=by
 unfold fsOf
 repeat' split
 all_goals decide
def Oi (o:OpT):List Int:=if (fsOf o.1).2=true then (o.1 % 256)::Dk o (fsOf o.1).1 else [o.2.2.2.2.1 % 256]
theorem F65_eq (R:Type) {o:OpT} (h:OpOK o) (hw:U32 o.2.1) (hn:U32 o.2.2.2.2.1) (k:List Int→Option R):F65 R o k=k (Oi o):=by
 simp only [F65,p65,Wf,E7];unfold Oi;cases (fsOf o.1).2 with
 | false=>simp
 | true=>
  simp only [Bool.not_true,if_true,List.length_map];exact G65_eq R h hw hn (I8 _) (fun x=>k x) FUEL 0 _ (by omega) (by rw [Ai]; have:=I8 o.1; omega) (by simp)
def szF (l:List Fd):Int:=1+((l.map Gm).sum:Nat)
theorem zqm (R:Type) {l:List Fd} (hl:l.length≤2) (k0:Int→Option R):∀(m i:Nat),i≤l.length→l.length - i<m→
  Ry m R (szF (l.take i)) (l.map enc) (l.length:Int) (i:Int) k0=k0 (szF l)
 | 0,i,_,hh=>by omega
 | m+1,i,h1,h2=>by
  simp only [Ry,zl9]
  by_cases hi:i<l.length
  ·have ih:=zqm R hl k0 m (i+1) (by omega) (by omega)
   have hb:bnd (i:Int) ((l.map enc).length:Int)=true:=by rw [List.length_map]; exact Ap hi
   simp only [By hi,hb,Int.toNat_natCast,A2 hi (show l.length≤1000 by omega),U2 hi,zg8];have e:IntKind.i64.wrap (szF (l.take i)+(Gm l[i]:Int))=szF (l.take (i+1)):=by
    have h3:=zf4 (l.take i);have h4:=Uc l[i];have h5:(l.take i).length≤2:=by rw [List.length_take]; omega
    have h6:szF (l.take (i+1))=szF (l.take i)+(Gm l[i]:Int):=by
     unfold szF;rw [List.take_succ_eq_append_getElem hi,List.map_append,List.sum_append];simp;omega
    rw [h6];unfold szF;exact wrap_i64 (by omega) (by omega)
   rw [e,ih]
  ·have:i=l.length:=by omega
   subst this;simp only [Bd,List.take_length]
theorem F114_eq (R:Type) (x:Int) (k:Int→Bool→Option R):F114 R x k=if (fsOf x).2=true then k (szF (fsOf x).1) true else k 0 false:=by
 simp only [F114,p114,Wf];cases (fsOf x).2 with
 | false=>simp
 | true=>
  simp only [Bool.not_true,if_true,List.length_map];have:=zqm R (I8 x) (fun x4=>k x4 true) FUEL 0 (by omega) (by rw [Ai]; have:=I8 x; omega);simpa [szF] using this
end Go.PG
namespace Go.PG
theorem eqvO {a b:OpT} (ha:a.2.2.2.1.length=32) (hb:b.2.2.2.1.length=32):Kd.eqv Kq13 a b=decide (a=b):=by
 obtain ⟨a1,a2,a3,a4,a5,⟨⟩⟩:=a;obtain ⟨b1,b2,b3,b4,b5,⟨⟩⟩:=b;have e1:Kd.eqv (.arr 32 (.int .u8)) a4 b4=decide (a4=b4):=A3 ha hb;show ((a1==b1)&&((a2==b2)&&((a3==b3)&&((Kd.eqv (.arr 32 (.int .u8)) a4 b4)&&((a5==b5)&&true)))))=_;rw [e1]
 by_cases h1:a1=b1
 ·by_cases h2:a2=b2
  ·by_cases h3:a3=b3
   ·by_cases h4:a4=b4
    ·by_cases h5:a5=b5
     ·simp [h1,h2,h3,h4,h5]
     ·simp [h5]
    ·simp [h4]
   ·simp [h3]
  ·simp [h2]
 ·simp [h1]
theorem znx {a:Int} (ha:U32 a):K1 (a/16777216 % 256) (a/65536 % 256) (a/256 % 256) (a % 256)=a:=by
 unfold U32 at ha; unfold K1; omega
theorem zhv (R:Type) {a:Int} (ha:U32 a) (k:Int→Option R):F244 R (Cn a) k=k a:=by
 have u:∀x:Int,U8 (x % 256):=fun x=>by unfold U8; omega
 unfold Cn;rw [zss R (u _) (u _) (u _) (u _),znx ha]
def Vd (o:OpT) (l:List Fd) (c:OpT):OpT:=l.foldl (zj5 o) c
theorem G66_eq (R:Type) {o:OpT} (h:OpOK o) (hw:U32 o.2.1) (hn:U32 o.2.2.2.2.1) {l:List Fd} (hl:l.length≤2) (x5:OpT) (k0:List Int→OpT→OpT→Option R):∀(m i:Nat) (c:OpT),i≤l.length→l.length - i<m→
  La m R (Dk o (l.drop i)) (l.map enc) (l.length:Int) (i:Int) x5 c k0=k0 [] x5 (Vd o (l.drop i) c)
 | 0,i,c,_,hh=>by omega
 | m+1,i,c,h1,h2=>by
  simp only [La,zgd]
  by_cases hi:i<l.length
  ·have ih:=G66_eq R h hw hn hl x5 k0 m (i+1) (zj5 o c l[i]) (by omega) (by omega)
   have hb:bnd (i:Int) ((l.map enc).length:Int)=true:=by rw [List.length_map]; exact Ap hi
   have hbl:=K6 h l[i];rw [List.drop_eq_getElem_cons hi,Ml];have hlen:(Fp o l[i]++Dk o (l.drop (i+1))).length=Gm l[i]+(Dk o (l.drop (i+1))).length:=by rw [List.length_append,hbl]
   have c1:decide ((0:Int)≤0∧(0:Int)≤(Gm l[i]:Int)∧(Gm l[i]:Int)≤(Gm l[i]:Int)∧(Gm l[i]:Int)≤((Fp o l[i]++Dk o (l.drop (i+1))).length:Int))=true:=by
    rw [hlen]; simp; omega
   have c2:decide ((0:Int)≤(Gm l[i]:Int)∧(Gm l[i]:Int)≤((Fp o l[i]++Dk o (l.drop (i+1))).length:Int)∧((Fp o l[i]++Dk o (l.drop (i+1))).length:Int)≤((Fp o l[i]++Dk o (l.drop (i+1))).length:Int)∧((Fp o l[i]++Dk o (l.drop (i+1))).length:Int)≤((Fp o l[i]++Dk o (l.drop (i+1))).length:Int))=true:=by
    rw [hlen]; simp; omega
   have t1:List.take (Int.toNat ((Gm l[i]:Int) - 0)) (List.drop 0 (Fp o l[i]++Dk o (l.drop (i+1))))=Fp o l[i]:=by
    rw [Int.sub_zero,Int.toNat_natCast,List.drop_zero,←hbl,List.take_left]
   have t2:List.take (Int.toNat (((Fp o l[i]++Dk o (l.drop (i+1))).length:Int) - (Gm l[i]:Int))) (List.drop (Gm l[i]) (Fp o l[i]++Dk o (l.drop (i+1))))=Dk o (l.drop (i+1)):=by
    rw [←hbl,List.drop_left,List.take_of_length_le];rw [List.length_append];omega
   have hbk:Vd o (l[i]::l.drop (i+1)) c=Vd o (l.drop (i+1)) (zj5 o c l[i]):=rfl;rw [hbk,←ih];simp only [By hi,hb,Int.toNat_natCast,A2 hi (show l.length≤1000 by omega),U2 hi,zg8,c1,c2];rw [t1,t2];have hw':=hw;have hn':=hn;unfold U32 at hw' hn';have w1:IntKind.i64.wrap o.2.1=o.2.1:=wrap_i64 (by omega) (by omega);have w2:IntKind.i64.wrap o.2.2.2.2.1=o.2.2.2.2.1:=wrap_i64 (by omega) (by omega);cases l[i] with
   | H=>
    have e1:FnV.same (enc .H).2.2.1 (FnV.fn 201)=true:=rfl;have e2:List.take 32 o.2.2.2.1=o.2.2.2.1:=by rw [List.take_of_length_le (by rw [h.hash.1]; omega)]
    have e3:decide ((32:Int)≤((Fp o .H).length:Int))=true:=by rw [K6 h]; rfl
    simp only [e1,e3];simp only [Fp,e2];rfl
   | A=>
    have e1:FnV.same (enc .A).2.2.1 (FnV.fn 201)=false:=rfl;have e2:FnV.same (enc .A).2.2.1 (FnV.fn 204)=true:=rfl;have e3:decide ((8:Int)≤((Fp o .A).length:Int))=true:=rfl;have e4:List.take 8 (putS o.2.2.1)=putS o.2.2.1:=rfl;simp only [e1,e2,e3];simp only [Fp,e4,F205_eq R h.amount];rfl
   | W=>
    have e1:FnV.same (enc .W).2.2.1 (FnV.fn 201)=false:=rfl;have e2:FnV.same (enc .W).2.2.1 (FnV.fn 204)=false:=rfl;have e2':FnV.same (enc .W).2.2.1 (FnV.clo 243 (FnV.fn 207))=true:=rfl;have e3:decide ((4:Int)≤((Fp o .W).length:Int))=true:=rfl;have e4:List.take 4 (Cn o.2.1)=Cn o.2.1:=rfl;simp only [e1,e2,e2',e3];simp only [Fp,e4,zhv R hw,w1];rfl
   | N=>
    have e1:FnV.same (enc .N).2.2.1 (FnV.fn 201)=false:=rfl;have e2:FnV.same (enc .N).2.2.1 (FnV.fn 204)=false:=rfl;have e2':FnV.same (enc .N).2.2.1 (FnV.clo 243 (FnV.fn 207))=false:=rfl;have e2'':FnV.same (enc .N).2.2.1 (FnV.clo 243 (FnV.fn 208))=true:=rfl;have e3:decide ((4:Int)≤((Fp o .N).length:Int))=true:=rfl;have e4:List.take 4 (Cn o.2.2.2.2.1)=Cn o.2.2.2.2.1:=rfl;simp only [e1,e2,e2',e2'',e3];simp only [Fp,e4,zhv R hn,w2];rfl
  ·have:i=l.length:=by omega
   subst this;simp only [Bd,List.drop_length];rfl
theorem zhq (R:Type) (x:Int) (hx:0≤x∧x<256) (b:List Int) (k:Bool→Option R):F67 R (x::b) k=k (if (fsOf x).2=true then decide (szF (fsOf x).1≤((x::b).length:Int)) else true):=by
 simp only [F67,p67];have hb:bnd 0 (((x::b).length:Nat):Int)=true:=by unfold bnd; simp<;>omega
 have hw:IntKind.i64.wrap x=x:=wrap_i64 (by omega) (by omega);simp only [hb,List.getD_cons_zero,hw,F114_eq];cases (fsOf x).2 with
 | false=>simp
 | true=>simp
theorem Mf {k:Int} (h:(fsOf k).2=true):1≤k∧k≤11:=by
 rcases zcj k with q | q | q | q | q | q | q | q | q | q | q | q
 all_goals try omega
 obtain ⟨h1,h2,h3,h4,h5,h6,h7,h8,h9,h10,h11⟩:=q;simp [fsOf,h1,h2,h3,h4,h5,h6,h7,h8,h9,h10,h11] at h
theorem drop1 (x:Int) (b:List Int):List.take (Int.toNat (((x::b).length:Int) - 1)) (List.drop 1 (x::b))=b:=by
 rw [List.drop_one,List.tail_cons,List.take_of_length_le];rw [List.length_cons];omega
theorem zsi (R:Type) {o:OpT} (h:OpOK o) (hw:U32 o.2.1) (hn:U32 o.2.2.2.2.1) (hv:(fsOf o.1).2=true) (k:OpT→List Int→Option R):
  F66 R (Oi o) k=k (Vd o (fsOf o.1).1 (o.1,(0:Int),(0:Int),(List.replicate 32 (0:Int)),(0:Int),())) []:=by
 have hr:=Mf hv;have em:o.1 % 256=o.1:=by omega
 unfold Oi;rw [if_pos hv,em];simp only [F66,p66];have hb:bnd 0 (((o.1::Dk o (fsOf o.1).1).length:Nat):Int)=true:=by unfold bnd; simp<;>omega
 have hwr:IntKind.i64.wrap o.1=o.1:=wrap_i64 (by omega) (by omega);have hc:decide ((0:Int)≤1∧(1:Int)≤((o.1::Dk o (fsOf o.1).1).length:Int)∧((o.1::Dk o (fsOf o.1).1).length:Int)≤((o.1::Dk o (fsOf o.1).1).length:Int)∧((o.1::Dk o (fsOf o.1).1).length:Int)≤((o.1::Dk o (fsOf o.1).1).length:Int))=true:=by
  simp<;>omega
 have hs:decide (szF (fsOf o.1).1≤((o.1::Dk o (fsOf o.1).1).length:Int))=true:=by
  unfold szF;rw [List.length_cons,Qo h];simp; omega
 simp only [hb,List.getD_cons_zero,hwr,Wf,hv,Bool.not_true,zhq R o.1 (by omega),if_true,hs,hc,drop1,List.length_map];have:=G66_eq R h hw hn (I8 o.1) ((0:Int),(0:Int),(0:Int),(List.replicate 32 (0:Int)),(0:Int),()) (fun x9 x10 x11=>k x11 x9) FUEL 0 (o.1,(0:Int),(0:Int),(List.replicate 32 (0:Int)),(0:Int),()) (by omega) (by rw [Ai]; have:=I8 o.1; omega);rw [List.drop_zero] at this;exact this
theorem F66_byte (R:Type) (x:Int) (hx:0≤x∧x<256) (k:OpT→List Int→Option R):
  F66 R [x] k=if (fsOf x).2=true∧(fsOf x).1=[] then k (x,(0:Int),(0:Int),(List.replicate 32 (0:Int)),(0:Int),()) [] else k ((0:Int),(0:Int),(0:Int),(List.replicate 32 (0:Int)),x,()) []:=by
 simp only [F66,p66];have hwr:IntKind.i64.wrap x=x:=wrap_i64 (by omega) (by omega);have hb:bnd 0 ((([x]:List Int).length:Nat):Int)=true:=rfl;have hc:decide ((0:Int)≤1∧(1:Int)≤(([x]:List Int).length:Int)∧(([x]:List Int).length:Int)≤(([x]:List Int).length:Int)∧(([x]:List Int).length:Int)≤(([x]:List Int).length:Int))=true:=rfl;simp only [hb,List.getD_cons_zero,hwr,Wf,zhq R x hx,hc,drop1,List.length_map];cases hv:(fsOf x).2 with
 | false=>simp
 | true=>
  simp only [Bool.not_true,if_true,true_and]
  by_cases he:(fsOf x).1=[]
  ·rw [if_pos he]
   have hs:decide (szF (fsOf x).1≤(([x]:List Int).length:Int))=true:=by rw [he]; rfl
   simp only [hs,he,List.map_nil];obtain ⟨m,hm⟩:=It 1 (by omega);rw [hm];simp only [La,zgd];rfl
  ·rw [if_neg he]
   have hs:decide (szF (fsOf x).1≤(([x]:List Int).length:Int))=false:=by
    cases hq:(fsOf x).1 with
    | nil=>exact absurd hq he
    | cons f l=>
     unfold szF;have:4≤Gm f:=by cases f<;>decide
     simp;omega
   simp only [hs,Bool.not_false]
def P4 (o:OpT):Bool:=decide (0≤o.2.1∧o.2.1<4294967296∧0≤o.2.2.2.2.1∧o.2.2.2.2.1<4294967296)
def C0 (o:OpT):Bool:=P4 o&&(if (fsOf o.1).2=true then decide (Vd o (fsOf o.1).1 (o.1,(0:Int),(0:Int),(List.replicate 32 (0:Int)),(0:Int),())=o)
 else decide (o.2.2.2.2.1≤255∧(fsOf o.2.2.2.2.1).2=false∧o=((0:Int),(0:Int),(0:Int),(List.replicate 32 (0:Int)),o.2.2.2.2.1,())))
theorem X1 {o:OpT} (h:o.2.2.2.1.length=32):∀(l:List Fd) (c:OpT),c.2.2.2.1.length=32→(Vd o l c).2.2.2.1.length=32
 | [],_,hc=>hc
 | f::l,c,hc=>by
  show (Vd o l (zj5 o c f)).2.2.2.1.length=32;refine X1 h l _ ?_;cases f
  ·exact h
  ·exact hc
  ·exact hc
  ·exact hc
theorem F32_eq (R:Type) {o:OpT} (h:OpOK o) (k:Bool→Option R):F32 R o k=k (C0 o):=by
 simp only [F32,p32];unfold C0 P4
 by_cases r1:o.2.1<0
 ·simp only [decide_eq_true r1]; rw [decide_eq_false (by omega)]; simp
 by_cases r2:o.2.1>4294967295
 ·simp only [decide_eq_false r1,decide_eq_true r2]; rw [decide_eq_false (by omega)]; simp
 by_cases r3:o.2.2.2.2.1<0
 ·simp only [decide_eq_false r1,decide_eq_false r2,decide_eq_true r3]; rw [decide_eq_false (by omega)]; simp
 by_cases r4:o.2.2.2.2.1>4294967295
 ·simp only [decide_eq_false r1,decide_eq_false r2,decide_eq_false r3,decide_eq_true r4]; rw [decide_eq_false (by omega)]; simp
 have hw:U32 o.2.1:=by unfold U32; omega
 have hn:U32 o.2.2.2.2.1:=by unfold U32; omega
 simp only [decide_eq_false r1,decide_eq_false r2,decide_eq_false r3,decide_eq_false r4,F65_eq R h hw hn];rw [decide_eq_true (by omega),Bool.true_and];cases hv:(fsOf o.1).2 with
 | true=>
  rw [zsi R h hw hn hv,eqvO (X1 h.hash.1 _ _ rfl) h.hash.1,if_pos rfl];have e0:((([]:List Int).length:Int)==0)=true:=rfl;simp only [e0];have hbo:Oi o=(o.1 % 256)::Dk o (fsOf o.1).1:=by unfold Oi; rw [if_pos hv]
  have hr:=Mf hv;have em:o.1 % 256=o.1:=by omega
  have hs:decide (szF (fsOf o.1).1≤((o.1::Dk o (fsOf o.1).1).length:Int))=true:=by
   unfold szF;rw [List.length_cons,Qo h];simp; omega
  rw [hbo,em,zhq R o.1 (by omega),if_pos hv,hs];cases decide (Vd o (fsOf o.1).1 (o.1,(0:Int),(0:Int),(List.replicate 32 (0:Int)),(0:Int),())=o)<;>rfl
 | false=>
  have hbo:Oi o=[o.2.2.2.2.1 % 256]:=by unfold Oi; rw [hv]; rfl
  have hx:0≤o.2.2.2.2.1 % 256∧o.2.2.2.2.1 % 256<256:=by omega
  rw [hbo,F66_byte R _ hx];simp only [Bool.false_eq_true,if_false];have e0:((([]:List Int).length:Int)==0)=true:=rfl
  by_cases he:(fsOf (o.2.2.2.2.1 % 256)).2=true∧(fsOf (o.2.2.2.2.1 % 256)).1=[]
  ·rw [if_pos he,eqvO (by rfl) h.hash.1]
   have hne:((o.2.2.2.2.1 % 256,(0:Int),(0:Int),(List.replicate 32 (0:Int)),(0:Int),()):OpT)≠o:=fun e=>by
    have:o.1=o.2.2.2.2.1 % 256:=by conv=>lhs; rw [←e]
    rw [←this,hv] at he;cases he.1
   rw [decide_eq_false hne,decide_eq_false]
   rintro ⟨q1,q2,_⟩
   rw [show o.2.2.2.2.1 % 256=o.2.2.2.2.1 by omega,q2] at he;cases he.1
  ·rw [if_neg he,eqvO (by rfl) h.hash.1]
   by_cases e:((0:Int),(0:Int),(0:Int),(List.replicate 32 (0:Int)),o.2.2.2.2.1 % 256,())=o
   ·have en:o.2.2.2.2.1=o.2.2.2.2.1 % 256:=by conv=>lhs; rw [←e]
    simp only [decide_eq_true e,e0,zhq R _ hx];cases hq:(fsOf (o.2.2.2.2.1 % 256)).2 with
    | true=>
     have hs:decide (szF (fsOf (o.2.2.2.2.1 % 256)).1≤(([o.2.2.2.2.1 % 256]:List Int).length:Int))=false:=by
      cases hf:(fsOf (o.2.2.2.2.1 % 256)).1 with
      | nil=>exact absurd ⟨hq,hf⟩ he
      | cons f l=>
       unfold szF;have:4≤Gm f:=by cases f<;>decide
       simp;omega
     rw [if_pos rfl,hs,decide_eq_false]
     rintro ⟨_,q2,_⟩
     rw [en,hq] at q2;cases q2
    | false=>
     rw [if_neg (by decide),decide_eq_true];exact ⟨by omega,by rw [en]; exact hq,by rw [←en] at e; exact e.symm⟩
   ·simp only [decide_eq_false e]
    rw [decide_eq_false]
    rintro ⟨q1,_,q3⟩
    rw [show o.2.2.2.2.1 % 256=o.2.2.2.2.1 by omega] at e;exact e q3.symm
end Go.PG
namespace Go.PG
def fldS (x:Int):ByteArray:=
 if x=1 then ⟨#[104,97]⟩ else if x=2 then ⟨#[119,97]⟩ else if x=3 then ⟨#[119,97]⟩ else if x=4 then ⟨#[119,104]⟩ else if x=5 then ⟨#[119,104]⟩ else
 if x=6 then ⟨#[45]⟩ else if x=11 then ⟨#[45]⟩ else if x=7 then ⟨#[110]⟩ else if x=8 then ⟨#[110]⟩ else if x=9 then ⟨#[110,119]⟩ else if x=10 then ⟨#[119,110]⟩ else ⟨#[]⟩
theorem zsh (R:Type) (x:Int) (k:ByteArray→Option R):F68 R x k=k (fldS x):=by
 simp only [F68,p68];rcases zcj x with h | h | h | h | h | h | h | h | h | h | h | h
 ·subst h; rfl
 ·subst h; rfl
 ·subst h; rfl
 ·subst h; rfl
 ·subst h; rfl
 ·subst h; rfl
 ·subst h; rfl
 ·subst h; rfl
 ·subst h; rfl
 ·subst h; rfl
 ·subst h; rfl
 ·obtain ⟨h1,h2,h3,h4,h5,h6,h7,h8,h9,h10,h11⟩:=h
  simp only [Ax h1,Ax h2,Ax h3,Ax h4,Ax h5,Ax h6,Ax h7,Ax h8,Ax h9,Ax h10,Ax h11];simp [fldS,h1,h2,h3,h4,h5,h6,h7,h8,h9,h10,h11]
theorem Mg (x:Int):(ByteArray.toList (fldS x)==ByteArray.toList (⟨#[]⟩:ByteArray))= !(fsOf x).2:=by
 rcases zcj x with h | h | h | h | h | h | h | h | h | h | h | h
 ·subst h; simp [fldS,fsOf,ByteArray.toList,ByteArray.toList.loop,ByteArray.size]
 ·subst h; simp [fldS,fsOf,ByteArray.toList,ByteArray.toList.loop,ByteArray.size]
 ·subst h; simp [fldS,fsOf,ByteArray.toList,ByteArray.toList.loop,ByteArray.size]
 ·subst h; simp [fldS,fsOf,ByteArray.toList,ByteArray.toList.loop,ByteArray.size]
 ·subst h; simp [fldS,fsOf,ByteArray.toList,ByteArray.toList.loop,ByteArray.size]
 ·subst h; simp [fldS,fsOf,ByteArray.toList,ByteArray.toList.loop,ByteArray.size]
 ·subst h; simp [fldS,fsOf,ByteArray.toList,ByteArray.toList.loop,ByteArray.size]
 ·subst h; simp [fldS,fsOf,ByteArray.toList,ByteArray.toList.loop,ByteArray.size]
 ·subst h; simp [fldS,fsOf,ByteArray.toList,ByteArray.toList.loop,ByteArray.size]
 ·subst h; simp [fldS,fsOf,ByteArray.toList,ByteArray.toList.loop,ByteArray.size]
 ·subst h; simp [fldS,fsOf,ByteArray.toList,ByteArray.toList.loop,ByteArray.size]
 ·obtain ⟨h1,h2,h3,h4,h5,h6,h7,h8,h9,h10,h11⟩:=h
  simp [fldS,fsOf,h1,h2,h3,h4,h5,h6,h7,h8,h9,h10,h11]
def hasF (s:ByteArray) (c:Int) (i:Nat):Bool:=(s.data.toList.drop i).any fun b=>((b.toNat:Nat):Int)==c
theorem Ws (s:ByteArray):s.size=s.data.toList.length:=Array.length_toList.symm
theorem G70_eq (R:Type) {s:ByteArray} (hn:s.size≤1000) (c:Int) (k0:Bool→Option R) (k1:Option R):∀(m i:Nat),i≤s.size→s.size - i<m→
  zdc m R s c (i:Int) k0 k1=match hasF s c i with | true=>k0 true | false=>k1
 | 0,i,_,hh=>by omega
 | m+1,i,h1,h2=>by
  simp only [zdc,p70_2]
  by_cases hi:i<s.size
  ·have ih:=G70_eq R hn c k0 k1 m (i+1) (by omega) (by omega)
   have hi':i<s.data.toList.length:=by rw [←Ws]; exact hi
   simp only [By hi,Ap hi,Int.toNat_natCast,A2 hi hn];have hg:s.data.toList.getD i 0=s.data.toList[i]:=by rw [List.getD_eq_getElem?_getD,List.getElem?_eq_getElem hi']; rfl
   unfold hasF at ih ⊢;rw [List.drop_eq_getElem_cons hi',List.any_cons,hg];cases hq:(((s.data.toList[i].toNat:Nat):Int)==c) with
   | true=>simp only [Bool.true_or]
   | false=>simp only [Bool.false_or]; exact ih
  ·have:i=s.size:=by omega
   subst this;simp only [Bd];unfold hasF;rw [Ws,List.drop_length];rfl
theorem F70_eq (R:Type) {s:ByteArray} (hn:s.size≤1000) (c:Int) (k:Bool→Option R):F70 R s c k=k (hasF s c 0):=by
 simp only [F70,p70];refine (G70_eq R hn c (fun x=>k x) (k false) FUEL 0 (by omega) (by rw [Ai]; omega)).trans ?_;cases hasF s c 0<;>rfl
def zij (c:Int):Int:=if c=119 then 4 else if c=110 then 4 else if c=97 then 8 else if c=104 then 32 else 0
theorem F115_eq (R:Type) (c:Int) (k:Int→Option R):F115 R c k=k (zij c):=by
 simp only [F115,p115];unfold zij
 by_cases h1:c=119
 ·subst h1; rfl
 by_cases h2:c=110
 ·subst h2; rfl
 by_cases h3:c=97
 ·subst h3; rfl
 by_cases h4:c=104
 ·subst h4; rfl
 simp only [Ax h1,Ax h2,Ax h3,Ax h4];simp [h1,h2,h3,h4]
theorem zak (c:Int):0≤zij c∧zij c≤32:=by
 unfold zij
 repeat' split
 all_goals omega
theorem zpo (R:Type) {s:ByteArray} (hn:s.size≤1000) (k0:Int→Option R):∀(m i:Nat) (a:Int),i≤s.size→s.size - i<m→0≤a∧a≤1+32*(i:Int)→∃z,zdd m R s a (i:Int) k0=k0 z
 | 0,i,a,_,hh,_=>by omega
 | m+1,i,a,h1,h2,h3=>by
  simp only [zdd,p69_6]
  by_cases hi:i<s.size
  ·simp only [By hi,Ap hi,Int.toNat_natCast,A2 hi hn,F115_eq]
   have hr:=zak (((List.getD s.data.toList i 0).toNat:Nat):Int);rw [wrap_i64 (n:=a+zij (((List.getD s.data.toList i 0).toNat:Nat):Int)) (by omega) (by omega)];exact zpo R hn k0 m (i+1) _ (by omega) (by omega) (by omega)
  ·have:i=s.size:=by omega
   subst this;simp only [Bd];exact ⟨a,rfl⟩
theorem Xn (x:Int):(fldS x).size≤2:=by
 unfold fldS
 repeat' split
 all_goals decide
theorem F69_any (R:Type) (x:Int) (k:Int→Bool→Option R):∃z,F69 R x k=k z (fsOf x).2:=by
 simp only [F69,p69,zsh,Mg];cases (fsOf x).2 with
 | false=>exact ⟨0,rfl⟩
 | true=>
  have:=Xn x;exact zpo R (by omega) (fun x3=>k x3 true) FUEL 0 1 (by omega) (by rw [Ai]; omega) (by omega)
def zz8 (w n a h:Bool) (o:OpT):Bool:=(w||o.2.1==0)&&((n||o.2.2.2.2.1==0)&&((a||o.2.2.1==0)&&((h||decide (o.2.2.2.1=List.replicate 32 (0:Int)))&&P4 o)))
theorem Z0 (o:OpT):P4 o=(decide (o.2.1≥0)&&(decide (o.2.1<4294967296)&&(decide (o.2.2.2.2.1≥0)&&decide (o.2.2.2.2.1<4294967296)))):=by
 unfold P4;rw [Bool.eq_iff_iff];simp
theorem zsm (R:Type) {o:OpT} (h:OpOK o) (hv:(fsOf o.1).2=true) (k:Bool→Option R):
  F33 R o k=k (zz8 (hasF (fldS o.1) 119 0) (hasF (fldS o.1) 110 0) (hasF (fldS o.1) 97 0) (hasF (fldS o.1) 104 0) o):=by
 have hs:(fldS o.1).size≤1000:=by have:=Xn o.1; omega
 have e1:Kd.eqv (.arr 32 (.int .u8)) o.2.2.2.1 (List.replicate 32 (0:Int))=decide (o.2.2.2.1=List.replicate 32 (0:Int)):=A3 h.hash.1 rfl;simp only [F33,p33,zsh,Mg,hv,Bool.not_true,F70_eq R hs,e1];unfold zz8;rw [Z0];have b1:(o.2.1 !=0)= !(o.2.1==0):=rfl;have b2:(o.2.2.2.2.1 !=0)= !(o.2.2.2.2.1==0):=rfl;have b3:(o.2.2.1 !=0)= !(o.2.2.1==0):=rfl;rw [b1,b2,b3];generalize hasF (fldS o.1) 119 0=w;generalize hasF (fldS o.1) 110 0=n;generalize hasF (fldS o.1) 97 0=a;generalize hasF (fldS o.1) 104 0=hh;generalize (o.2.1==0)=c1;generalize (o.2.2.2.2.1==0)=c2;generalize (o.2.2.1==0)=c3
 generalize decide (o.2.2.2.1=List.replicate 32 (0:Int))=c4;generalize decide (o.2.1≥0)=c5;generalize decide (o.2.1<4294967296)=c6;generalize decide (o.2.2.2.2.1≥0)=c7;generalize decide (o.2.2.2.2.1<4294967296)=c8;cases w<;>cases n<;>cases a<;>cases hh<;>cases c1<;>cases c2<;>cases c3<;>cases c4<;>first
  | rfl
  | (cases c5<;>cases c6<;>cases c7<;>rfl)
theorem F33_none (R:Type) {o:OpT} (h:OpOK o) (hv:(fsOf o.1).2=false) (k:Bool→Option R):F33 R o k=k (C0 o):=by
 obtain ⟨z,hz⟩:=F69_any R o.2.2.2.2.1 (fun y3 y4=>(match (Kd.eqv Kq13 o ((0:Int),(0:Int),(0:Int),(List.replicate 32 (0:Int)),o.2.2.2.2.1,())) with
  | true=>(match (decide (o.2.2.2.2.1≥0)) with | true=>(match (decide (o.2.2.2.2.1≤255)) with | true=>k (!y4) | false=>k false) | false=>k false)
  | false=>k false))
 have hF:F33 R o k=F69 R o.2.2.2.2.1 (fun y3 y4=>(match (Kd.eqv Kq13 o ((0:Int),(0:Int),(0:Int),(List.replicate 32 (0:Int)),o.2.2.2.2.1,())) with
  | true=>(match (decide (o.2.2.2.2.1≥0)) with | true=>(match (decide (o.2.2.2.2.1≤255)) with | true=>k (!y4) | false=>k false) | false=>k false)
  | false=>k false)):=by
  simp only [F33,p33,zsh,Mg,hv,Bool.not_false];rfl
 rw [hF,hz,eqvO h.hash.1 rfl];unfold C0;rw [hv];simp only [Bool.false_eq_true,if_false];unfold P4
 by_cases e:o=((0:Int),(0:Int),(0:Int),(List.replicate 32 (0:Int)),o.2.2.2.2.1,())
 ·have ew:o.2.1=0:=by conv=>lhs; rw [e]
  simp only [decide_eq_true e]
  by_cases h1:o.2.2.2.2.1≥0
  ·by_cases h2:o.2.2.2.2.1≤255
   ·simp only [decide_eq_true h1,decide_eq_true h2]
    rw [decide_eq_true (show 0≤o.2.1∧o.2.1<4294967296∧0≤o.2.2.2.2.1∧o.2.2.2.2.1<4294967296 by omega),Bool.true_and]
    congr 1
    cases hq:(fsOf o.2.2.2.2.1).2 with
    | true=>
     rw [decide_eq_false]
     ·rfl
     ·rintro ⟨_,q,_⟩; cases q
    | false=>
     rw [decide_eq_true]
     ·rfl
     ·exact ⟨h2,rfl,e⟩
   ·simp only [decide_eq_true h1,decide_eq_false h2]
    rw [decide_eq_false (show ¬(o.2.2.2.2.1≤255∧(fsOf o.2.2.2.2.1).2=false∧o=((0:Int),(0:Int),(0:Int),(List.replicate 32 (0:Int)),o.2.2.2.2.1,())) from fun q=>h2 q.1),Bool.and_false]
  ·simp only [decide_eq_false h1]
   rw [decide_eq_false (show ¬(0≤o.2.1∧o.2.1<4294967296∧0≤o.2.2.2.2.1∧o.2.2.2.2.1<4294967296) by omega),Bool.false_and]
 ·simp only [decide_eq_false e]
  rw [decide_eq_false (show ¬(o.2.2.2.2.1≤255∧(fsOf o.2.2.2.2.1).2=false∧o=((0:Int),(0:Int),(0:Int),(List.replicate 32 (0:Int)),o.2.2.2.2.1,())) from fun q=>e q.2.2),Bool.and_false]
theorem flags {x:Int} (hv:(fsOf x).2=true):hasF (fldS x) 119 0=decide (Fd.W∈(fsOf x).1)∧hasF (fldS x) 110 0=decide (Fd.N∈(fsOf x).1)∧hasF (fldS x) 97 0=decide (Fd.A∈(fsOf x).1)∧hasF (fldS x) 104 0=decide (Fd.H∈(fsOf x).1):=by
 rcases zcj x with q | q | q | q | q | q | q | q | q | q | q | q
 ·subst q; decide
 ·subst q; decide
 ·subst q; decide
 ·subst q; decide
 ·subst q; decide
 ·subst q; decide
 ·subst q; decide
 ·subst q; decide
 ·subst q; decide
 ·subst q; decide
 ·subst q; decide
 ·obtain ⟨h1,h2,h3,h4,h5,h6,h7,h8,h9,h10,h11⟩:=q
  simp [fsOf,h1,h2,h3,h4,h5,h6,h7,h8,h9,h10,h11] at hv
theorem classes {x:Int} (hv:(fsOf x).2=true):(fsOf x).1=[.H,.A]∨(fsOf x).1=[.W,.A]∨(fsOf x).1=[.W,.H]∨(fsOf x).1=[]∨(fsOf x).1=[.N]∨(fsOf x).1=[.N,.W]∨(fsOf x).1=[.W,.N]:=by
 rcases zcj x with q | q | q | q | q | q | q | q | q | q | q | q
 ·subst q; decide
 ·subst q; decide
 ·subst q; decide
 ·subst q; decide
 ·subst q; decide
 ·subst q; decide
 ·subst q; decide
 ·subst q; decide
 ·subst q; decide
 ·subst q; decide
 ·subst q; decide
 ·obtain ⟨h1,h2,h3,h4,h5,h6,h7,h8,h9,h10,h11⟩:=q
  simp [fsOf,h1,h2,h3,h4,h5,h6,h7,h8,h9,h10,h11] at hv
theorem zi8 {o:OpT} (hv:(fsOf o.1).2=true):zz8 (hasF (fldS o.1) 119 0) (hasF (fldS o.1) 110 0) (hasF (fldS o.1) 97 0) (hasF (fldS o.1) 104 0) o=C0 o:=by
 obtain ⟨f1,f2,f3,f4⟩:=flags hv;rw [f1,f2,f3,f4];unfold C0 zz8;rw [if_pos hv];generalize P4 o=r;obtain ⟨x,w,a,h,n,⟨⟩⟩:=o;have e1:∀z:Int,(z==0)=decide (0=z):=fun z=>by
  by_cases q:z=0
  ·subst q; rfl
  ·rw [Ax q,decide_eq_false (fun e=>q e.symm)]
 have e2:decide (h=List.replicate 32 (0:Int))=decide (List.replicate 32 (0:Int)=h):=by
  by_cases q:h=List.replicate 32 (0:Int)
  ·rw [decide_eq_true q,decide_eq_true q.symm]
  ·rw [decide_eq_false q,decide_eq_false (fun e=>q e.symm)]
 simp only [e1,e2];generalize hZ:List.replicate 32 (0:Int)=Z;rcases classes hv with q | q | q | q | q | q | q
 all_goals
  simp only [q];cases r
  ·simp
  ·simp [Vd,zj5]
   try ac_rfl
theorem F33_eq (R:Type) {o:OpT} (h:OpOK o) (k:Bool→Option R):F33 R o k=k (C0 o):=by
 cases hv:(fsOf o.1).2 with
 | true=>rw [zsm R h hv,zi8 hv]
 | false=>exact F33_none R h hv k
end Go.PG
namespace Go.PG
theorem S3 {n:Int} (hn:U64 n):∀(m:Nat) (s:Src),SOK s→A6 s=true→64*(m:Int)≤Dp s→(C8 n m s).2.2=0∨(C8 n m s).2.2=9
 | 0,s,_,_,_=>.inr rfl
 | m+1,s,hs,hr,hl=>by
  have hk:=(zmj hn).1;have ht:=zfz (s:=s) (n:=B8 n) hr hk (by omega);have h2:=zkc hs hr (k:=B8 n) (by omega);simp only [C8,ht];rw [if_pos trivial]
  by_cases hv:Hx s (atS s) (B8 n)<n
  ·rw [if_pos hv]; exact .inl rfl
  ·rw [if_neg hv]
   have hs2:=Pt hs (B8 n);rw [ht] at hs2;exact S3 hn m _ hs2 h2.1 (by rw [h2.2]; omega)
theorem zkm {l:List Int} (h:AllU64 l):∀(i:Nat),i≤l.length→(posN l i≠0↔0<sumS l i)
 | 0,_=>by simp [posN,sumS]
 | i+1,hi=>by
  have hi':i<l.length:=by omega
  have ih:=zkm h i (by omega);have h0:=Au h i;have hx:=(As h Gx i)
  unfold U64 at hx;rw [P6 hi',Bl hi']
  by_cases e:l.getD i 0>0
  ·rw [if_pos e]; omega
  ·rw [if_neg e]
   have:l.getD i 0=0:=by omega
   rw [this];omega
theorem Uj {l:List Int} (h:AllU64 l):posS l≠0↔0<totS l:=by
 have:=zkm h l.length (Nat.le_refl _);unfold posS totS;omega
theorem zf2 {l:List Int} {a:Int} {j:Nat} (hj:j≤l.length):sumS (l++[a]) j=sumS l j:=by
 unfold sumS; rw [List.take_append_of_le_length hj]
theorem own_app {l:List Int} (h:AllU64 l) (hlen:l.length≤199) (ht:totS l<9223372036854775808) {x:Int} (hx:0≤x∧x<totS l):ownN (l++[0]) x=ownN l x:=by
 obtain ⟨i,hi,e⟩:=zgp h (by omega) ht hx;rw [e];have hA:AllU64 (l++[0]):=fun y hy=>by
  rcases List.mem_append.1 hy with hy | hy
  ·exact h y hy
  ·rw [List.mem_singleton.1 hy]; exact Gx
 refine P8 hA ⟨by rw [List.length_append]; have:=hi.1; omega,?_⟩;rw [zf2 (by have:=hi.1; omega),zf2 (by have:=hi.1; omega)];exact hi.2
theorem Xv {n:Int}:∀(m:Nat) (s:Src),(C8 n m s).2.2=0→(C8 n m s).1<n
 | 0,s,h=>by simp [C8] at h
 | m+1,s,h=>by
  simp only [C8] at h ⊢;split
  ·rename_i h1
   rw [if_pos h1] at h;split
   ·assumption
   ·rename_i h2
    rw [if_neg h2] at h;exact Xv m _ h
  ·rename_i h1
   rw [if_neg h1] at h;exact absurd h h1
theorem zox {s:Src} {n m:Int} (h:(Ba s n m).2.2=0):0≤(Ba s n m).1∧(Ba s n m).1<n:=by
 unfold Ba at h ⊢;split
 ·rename_i hc
  rw [if_pos hc] at h;exact ⟨Ig _ _,Xv _ _ h⟩
 ·rename_i hc
  rw [if_neg hc] at h;cases h
theorem zyn {a:List Int} {slot m:Int} {l:List Int} (h:AllU64 l) (hlen:l.length≤199):leaS a slot m (l++[0])=leaS a slot m l:=by
 unfold leaS;rw [Gk,Int.add_zero]
 by_cases hm:mayS m slot=true
 ·rw [if_pos hm,if_pos hm]
  by_cases ht:totS l<9223372036854775808
  ·rw [if_pos ht,if_pos ht]
   have:∀s:Src,Bw (l++[0]) s m=Bw l s m:=fun s=>by
    unfold Bw;rw [Gk,Int.add_zero,if_pos ht,if_pos ht]
    by_cases h0:totS l=0
    ·rw [if_pos h0,if_pos h0]
    ·rw [if_neg h0,if_neg h0]
     by_cases hd:(Ba s (totS l) m).2.2=0
     ·rw [if_pos hd,if_pos hd,own_app h hlen ht (zox hd)]
     ·rw [if_neg hd,if_neg hd]
   rw [this]
  ·rw [if_neg ht,if_neg ht]
 ·rw [if_neg hm,if_neg hm]
theorem zym {a:List Int} (ha:H32 a) {slot m:Int} {l:List Int} (h:AllU64 l) (hm:mayS m slot=true) (ht:totS l<9223372036854775808) (hp:0<totS l):
  ((leaS a slot m l).2=0∧0≤(leaS a slot m l).1)∨(leaS a slot m l).2=9:=by
 obtain ⟨m1,m2,m3,m4⟩:=Er hm;unfold leaS;rw [if_pos hm,if_pos ht];have hs:=Jn ha (d:=1) (slot:=slot) (by omega) (by omega);have hr:A6 (srcS a 1 slot)=true:=by
  unfold A6 srcS Cu; simp
 have hl:Dp (srcS a 1 slot)=4611686018427387904:=by
  unfold Dp; rw [if_pos hr]; unfold endS srcS Cu; simp
 have hu:U64 (totS l):=by unfold U64; omega
 simp only [];unfold Bw;rw [if_pos ht,if_neg (by omega)];have hd:(Ba (srcS a 1 slot) (totS l) m)=C8 (totS l) m.toNat (srcS a 1 slot):=by
  unfold Ba;rw [if_pos ⟨hr,hp,ht,by omega,by omega⟩]
 have he:=S3 hu m.toNat (srcS a 1 slot) hs hr (by rw [hl]; omega);rw [←hd] at he
 by_cases h0:(Ba (srcS a 1 slot) (totS l) m).2.2=0
 ·rw [if_pos h0]; exact .inl ⟨rfl,Int.natCast_nonneg _⟩
 ·rw [if_neg h0]; exact .inr (he.resolve_left h0)
end Go.PG
namespace Go.PG
abbrev Led:=Cfg×(Int×(List Va×(Bea×(List Int×(List Int×Unit)))))
abbrev An:=Int×(Int×(List Int×(List Int×Unit)))
abbrev Clk:=Led×(An×Unit)
def badS (e:Int):An:=(e,(0:Int),([]:List Int),(List.replicate 32 (0:Int)),())
def okS (n:Int):An:=((0:Int),n,([]:List Int),(List.replicate 32 (0:Int)),())
def B9 (l:Led) (r:List Va×Int×Int):Led×An:=if r.2.2=0 then ((l.1,l.2.1,r.1,l.2.2.2),okS r.2.1) else (l,badS r.2.2)
def Gb (l:Led) (r:Bea×Int):Led×An:=if r.2=0 then ((l.1,l.2.1,l.2.2.1,r.1,l.2.2.2.2),okS 0) else (l,badS r.2)
def Ck (l:Led) (w:Int):Bool:=decide (0≤w∧w<(l.2.2.1.length:Int))
def advS (l:Led):Led×An:=
 if zcm l.1 l.2.1=true then
  (if (bEnd l.2.2.2.1).2.2.2=0 then
   ((l.1,L0 l.1 l.2.1,actS l.2.2.1,(bEnd l.2.2.2.1).1,(schL (bEnd l.2.2.2.1).1.2.1 l.1.1 l.1.2.2.2.1 (Am (actS l.2.2.1))).1,(bEnd l.2.2.2.1).2.2.1,()),
    ((0:Int),L0 l.1 l.2.1,(bEnd l.2.2.2.1).2.2.1,(bEnd l.2.2.2.1).1.2.1,()))
  else (l,badS (bEnd l.2.2.2.1).2.2.2))
 else ((l.1,L0 l.1 l.2.1,l.2.2),okS (L0 l.1 l.2.1))
def askS (l:Led) (o:OpT):An:=
 if o.1=10 then (if Ck l o.2.1=true then okS (if o.2.2.2.2.1=0 then (l.2.2.1.getD o.2.1.toNat zV).2.1 else (l.2.2.1.getD o.2.1.toNat zV).2.2.1) else badS 5)
 else if o.1=11 then ((0:Int),l.2.2.2.1.1,([]:List Int),l.2.2.2.1.2.1,())
 else if o.2.2.2.2.1≥l.1.1 then badS 3
 else if o.1=7 then
  (if posS (Am l.2.2.1)=0 then badS 10 else
   if (leaS l.2.2.2.1.2.1 o.2.2.2.2.1 l.1.2.2.2.1 (Am l.2.2.1)).2=0 then ((0:Int),(0:Int),[(leaS l.2.2.2.1.2.1 o.2.2.2.2.1 l.1.2.2.2.1 (Am l.2.2.1)).1],(List.replicate 32 (0:Int)),())
   else badS (leaS l.2.2.2.1.2.1 o.2.2.2.2.1 l.1.2.2.2.1 (Am l.2.2.1)).2)
 else if o.1=8 then
  (if (aliS l.2.2.2.1.2.1 o.2.2.2.2.1 l.1.2.2.2.1 (Am l.2.2.1)).2=0 then ((0:Int),(0:Int),[(aliS l.2.2.2.1.2.1 o.2.2.2.2.1 l.1.2.2.2.1 (Am l.2.2.1)).1],(List.replicate 32 (0:Int)),())
   else badS (aliS l.2.2.2.1.2.1 o.2.2.2.2.1 l.1.2.2.2.1 (Am l.2.2.1)).2)
 else
  (if (sitS l.2.2.2.1.2.1 o.2.2.2.2.1 o.2.1 l.1.2.2.2.1 (Am l.2.2.1)).2=0 then ((0:Int),(0:Int),(sitS l.2.2.2.1.2.1 o.2.2.2.2.1 o.2.1 l.1.2.2.2.1 (Am l.2.2.1)).1,(List.replicate 32 (0:Int)),())
   else badS (sitS l.2.2.2.1.2.1 o.2.2.2.2.1 o.2.1 l.1.2.2.2.1 (Am l.2.2.1)).2)
def doS (l:Led) (o:OpT):Led×An:=
 if C0 o=true∧o.1≠0 then
  if o.1=1 then B9 l (depS l.2.2.1 o.2.2.2.1 o.2.2.1 l.1.2.2.2.2.1)
  else if o.1=2 then B9 l (wdS l.2.2.1 o.2.1 o.2.2.1)
  else if o.1=3 then B9 l (slS l.2.2.1 o.2.1 o.2.2.1)
  else if o.1=4 then (if Ck l o.2.1=true then Gb l (Cg l.2.2.2.1 (phS l.1 l.2.1) o.2.1 o.2.2.2.1) else (l,badS 5))
  else if o.1=5 then (if Ck l o.2.1=true then Gb l (Cf l.2.2.2.1 (phS l.1 l.2.1) o.2.1 o.2.2.2.1) else (l,badS 5))
  else if o.1=6 then advS l
  else (l,askS l o)
 else (l,badS 2)
structure LOK (c:Cfg) (n:Nat) (l:Led):Prop where
 cfg:l.1=c
 right:cfgS c=true
 slot:0≤l.2.1∧l.2.1<c.1
 vals:VsOK l.2.2.1
 vlen:l.2.2.1.length≤n
 next:totS (Az l.2.2.1)<9223372036854775808
 stake:totS (Am l.2.2.1)<9223372036854775808
 bea:Ed l.2.2.2.1
 blen:l.2.2.2.1.2.2.2.1.length≤n
 llen:(l.2.2.2.2.1.length:Int)=c.1
 lead:∀i:Nat,(i:Int)<c.1→posS (Am l.2.2.1)≠0→l.2.2.2.2.1.getD i 0=schV l.2.2.2.1.2.1 c.2.2.2.1 (Am l.2.2.1) i
 miss:l.2.2.2.2.2.1.length≤1000
theorem zim {o:OpT} (h:C0 o=true) (h0:o.1≠0):1≤o.1∧o.1≤11:=by
 unfold C0 at h;rw [Bool.and_eq_true] at h
 by_cases hv:(fsOf o.1).2=true
 ·exact Mf hv
 ·rw [if_neg hv] at h
  have:=(of_decide_eq_true h.2).2.2;exfalso;apply h0;rw [this]
theorem Uf {o:OpT} (h:C0 o=true):0≤o.2.2.2.2.1∧o.2.2.2.2.1<4294967296∧0≤o.2.1∧o.2.1<4294967296:=by
 unfold C0 at h;rw [Bool.and_eq_true] at h;have:=of_decide_eq_true h.1;omega
end Go.PG
namespace Go.PG
theorem Dl {x:Int} (h:x=0):(x !=0)=false:=by simp [h]
theorem Fq {x:Int} (h:¬x=0):(x !=0)=true:=by simpa using h
theorem zha (l:List Va) (key:List Int) (a most:Int) (hn:l.length≤1000):0≤(depS l key a most).2.1∧(depS l key a most).2.1≤1000:=by
 unfold depS;split
 ·cases hq:fstK l key with
  | none=>
   simp only [];split
   ·simp
   ·split
    ·simp only []; omega
    ·simp
  | some i=>
   have:=(U3 hq).1;simp only [];split
   ·simp only []; omega
   ·simp
 ·simp
theorem O3 (R:Type) (e:Int) (k:An→Option R):F34 R e k=k (badS e):=rfl
theorem zsg (R:Type) (l:Led) (w:Int) (k:Bool→Option R):F74 R l w k=k (Ck l w):=by
 simp only [F74,p74,Ck]
 by_cases h1:w≥0
 ·simp only [decide_eq_true h1]
  congr 1
  by_cases h2:w<(l.2.2.1.length:Int)
  ·rw [decide_eq_true h2,decide_eq_true (by omega)]
  ·rw [decide_eq_false h2,decide_eq_false (by omega)]
 ·simp only [decide_eq_false h1]
  rw [decide_eq_false (by omega)]
section
variable {c:Cfg} {n:Nat} {l:Led}
theorem F35_dep (R:Type) (h:LOK c n l) (hn:n≤100) {o:OpT} (ho:OpOK o) (hk:o.1=1) (k:Led→An→Option R):
  F35 R l o k=k (B9 l (depS l.2.2.1 o.2.2.2.1 o.2.2.1 l.1.2.2.2.2.1)).1 (B9 l (depS l.2.2.1 o.2.2.2.1 o.2.2.1 l.1.2.2.2.2.1)).2:=by
 have hl:=h.vlen;simp only [F35,p35,hk,F71_eq R h.vals (show l.2.2.1.length≤900 by omega) ho.hash.1 ho.amount,O3];have hi:=zha l.2.2.1 o.2.2.2.1 o.2.2.1 l.1.2.2.2.2.1 (by omega);rw [Ad (n:=(depS l.2.2.1 o.2.2.2.1 o.2.2.1 l.1.2.2.2.2.1).2.1) (by omega) (by omega)];generalize depS l.2.2.1 o.2.2.2.1 o.2.2.1 l.1.2.2.2.2.1=r;have e1:((1:Int)==1)=true:=rfl;simp only [e1];unfold B9
 by_cases hr:r.2.2=0
 ·simp only [Dl hr,if_pos hr]; rfl
 ·simp only [Fq hr,if_neg hr]
theorem F35_wd (R:Type) (h:LOK c n l) (hn:n≤100) {o:OpT} (ho:OpOK o) (hk:o.1=2) (k:Led→An→Option R):
  F35 R l o k=k (B9 l (wdS l.2.2.1 o.2.1 o.2.2.1)).1 (B9 l (wdS l.2.2.1 o.2.1 o.2.2.1)).2:=by
 have hl:=h.vlen;simp only [F35,p35,hk,F72_eq R h.vals (show l.2.2.1.length≤1000 by omega) o.2.1 ho.amount,O3];generalize wdS l.2.2.1 o.2.1 o.2.2.1=r;have e1:((2:Int)==1)=false:=rfl;have e2:((2:Int)==2)=true:=rfl;simp only [e1,e2];unfold B9
 by_cases hr:r.2.2=0
 ·simp only [Dl hr,if_pos hr]; rfl
 ·simp only [Fq hr,if_neg hr]
theorem F35_sl (R:Type) (h:LOK c n l) (hn:n≤100) {o:OpT} (ho:OpOK o) (hk:o.1=3) (k:Led→An→Option R):
  F35 R l o k=k (B9 l (slS l.2.2.1 o.2.1 o.2.2.1)).1 (B9 l (slS l.2.2.1 o.2.1 o.2.2.1)).2:=by
 have hl:=h.vlen;simp only [F35,p35,hk,F73_eq R h.vals (show l.2.2.1.length≤1000 by omega) o.2.1 ho.amount,O3];generalize slS l.2.2.1 o.2.1 o.2.2.1=r;have e1:((3:Int)==1)=false:=rfl;have e2:((3:Int)==2)=false:=rfl;simp only [e1,e2];unfold B9
 by_cases hr:r.2.2=0
 ·simp only [Dl hr,if_pos hr]; rfl
 ·simp only [Fq hr,if_neg hr]
theorem F36_eq4 (R:Type) (h:LOK c n l) (hn:n≤100) {o:OpT} (ho:OpOK o) (hk:o.1=4) (k:Led→An→Option R):
  F36 R l o k=k (if Ck l o.2.1=true then Gb l (Cg l.2.2.2.1 (phS l.1 l.2.1) o.2.1 o.2.2.2.1) else (l,badS 5)).1 (if Ck l o.2.1=true then Gb l (Cg l.2.2.2.1 (phS l.1 l.2.1) o.2.1 o.2.2.2.1) else (l,badS 5)).2:=by
 have hl:=h.blen;have e1:((4:Int)==5)=false:=rfl;simp only [F36,p36,hk,e1,zsg,zsf,F76_eq R h.bea (show l.2.2.2.1.2.2.2.1.length≤400 by omega),O3];cases Ck l o.2.1 with
 | false=>simp
 | true=>
  simp only [Bool.not_true,if_true];generalize Cg l.2.2.2.1 (phS l.1 l.2.1) o.2.1 o.2.2.2.1=r;unfold Gb
  by_cases hr:r.2=0
  ·simp only [Dl hr,if_pos hr]; rfl
  ·simp only [Fq hr,if_neg hr]
theorem F36_eq5 (R:Type) (h:LOK c n l) (hn:n≤100) {o:OpT} (ho:OpOK o) (hk:o.1=5) (k:Led→An→Option R):
  F36 R l o k=k (if Ck l o.2.1=true then Gb l (Cf l.2.2.2.1 (phS l.1 l.2.1) o.2.1 o.2.2.2.1) else (l,badS 5)).1 (if Ck l o.2.1=true then Gb l (Cf l.2.2.2.1 (phS l.1 l.2.1) o.2.1 o.2.2.2.1) else (l,badS 5)).2:=by
 have hl:=h.blen;have e1:((5:Int)==5)=true:=rfl;simp only [F36,p36,hk,e1,zsg,zsf,F76_eq R h.bea (show l.2.2.2.1.2.2.2.1.length≤400 by omega),F77_eq R h.bea (show l.2.2.2.1.2.2.2.1.length≤400 by omega) _ _ ho.hash,O3];cases Ck l o.2.1 with
 | false=>simp
 | true=>
  simp only [Bool.not_true,if_true];generalize Cf l.2.2.2.1 (phS l.1 l.2.1) o.2.1 o.2.2.2.1=r;unfold Gb
  by_cases hr:r.2=0
  ·simp only [Dl hr,if_pos hr]; rfl
  ·simp only [Fq hr,if_neg hr]
theorem Jv (h:LOK c n l):0≤L0 l.1 l.2.1∧L0 l.1 l.2.1<c.1∧c.1≤1024:=by
 have h1:=B3 h.right;have h2:=h.slot;unfold L0;rw [h.cfg];split
 ·omega
 ·omega
theorem zcu {v:List Va} (h:VsOK v):VsOK (actS v):=fun x hx=>by
 obtain ⟨y,hy,rfl⟩:=List.mem_map.1 hx;exact ⟨(h y hy).key,(h y hy).next,(h y hy).next⟩
theorem Qu (v:List Va):Am (actS v)=Az v:=by simp [Am,actS,Az,actV]
theorem zje (v:List Va):Az (actS v)=Az v:=by simp [actS,Az,actV]
theorem Qr {b:Bea} (h:Ed b):H32 (bEnd b).1.2.1∧((bEnd b).2.2.2=0→(bEnd b).2.1.2.2.2.1=(bEnd b).1.2.1):=by
 unfold bEnd;split
 ·exact ⟨A7,fun h=>by cases h⟩
 ·split
  ·exact ⟨A7,fun h=>by cases h⟩
  ·exact ⟨zf7 _ _ _,fun _=>rfl⟩
theorem F37_eq (R:Type) (h:LOK c n l) (hn:n≤100) (k:Led→An→Option R):F37 R l k=k (advS l).1 (advS l).2:=by
 have hl:=h.blen;have hv:=h.vlen;have hx:=Jv h;have hc:=B3 h.right;obtain ⟨hs,hf⟩:=Qr h.bea;simp only [F37,p37,F78_eq,F79_eq R h.bea (show l.2.2.2.1.2.2.2.1.length≤400 by omega),O3,F80_eq R (show l.2.2.1.length≤1000 by omega)];rw [Ad (n:=L0 l.1 l.2.1) (by omega) (by omega)];unfold advS;cases zcm l.1 l.2.1 with
 | false=>simp only [Bool.not_false,Bool.false_eq_true,if_false]; rfl
 | true=>
  simp only [Bool.not_true,if_true]
  by_cases he:(bEnd l.2.2.2.1).2.2.2=0
  ·simp only [Dl he,if_pos he]
   rw [zsx R (by rw [F6]; omega),F21_eq R hs (by rw [h.cfg]; omega) _ (Cp (zcu h.vals)) (by rw [B1,F6]; omega),hf he]
  ·simp only [Fq he,if_neg he]
theorem F38_eq (R:Type) (h:LOK c n l) (hn:n≤100) {o:OpT} (k:An→Option R):F38 R l o k=k (askS l o):=by
 have hv:=h.vlen;have hA:=Cp h.vals;have hL:(Am l.2.2.1).length≤200:=by rw [B1]; omega
 simp only [F38,p38,zsx R (show l.2.2.1.length≤1000 by omega),zsg,O3,zse R (show (Am l.2.2.1).length≤1000000 by omega),F44_eq R h.bea.seed _ _ hA hL,F82_eq R h.bea.seed _ _ hA hL,F83_eq R h.bea.seed _ _ _ hA hL];unfold askS
 by_cases k1:o.1=10
 ·simp only [k1,if_true,show ((10:Int)==10)=true from rfl]
  cases ht:Ck l o.2.1 with
  | false=>simp
  | true=>
   have ht':=of_decide_eq_true ht;obtain ⟨i,hi⟩:∃i:Nat,o.2.1=i:=⟨o.2.1.toNat,by omega⟩
   have hb:bnd o.2.1 (l.2.2.1.length:Int)=true:=by rw [hi]; exact Ap (by omega)
   simp only [Bool.not_true,if_true,hb]
   by_cases k2:o.2.2.2.2.1=0
   ·simp only [k2,if_true,show ((0:Int)==0)=true from rfl]; rfl
   ·simp only [Ax k2,if_neg k2]; rfl
 simp only [Ax k1,if_neg k1]
 by_cases k2:o.1=11
 ·simp only [k2,if_true,show ((11:Int)==11)=true from rfl]
 simp only [Ax k2,if_neg k2]
 by_cases k3:o.2.2.2.2.1≥l.1.1
 ·simp only [decide_eq_true k3,if_pos k3]
 simp only [decide_eq_false k3,if_neg k3]
 by_cases k4:o.1=7
 ·simp only [k4,if_true,show ((7:Int)==7)=true from rfl]
  by_cases k5:posS (Am l.2.2.1)=0
  ·simp only [k5,if_true,show ((0:Int)==0)=true from rfl]
  ·simp only [Ax k5,if_neg k5]
   by_cases k6:(leaS l.2.2.2.1.2.1 o.2.2.2.2.1 l.1.2.2.2.1 (Am l.2.2.1)).2=0
   ·simp only [Dl k6,if_pos k6]
   ·simp only [Fq k6,if_neg k6]
 simp only [Ax k4,if_neg k4]
 by_cases k5:o.1=8
 ·simp only [k5,if_true,show ((8:Int)==8)=true from rfl]
  by_cases k6:(aliS l.2.2.2.1.2.1 o.2.2.2.2.1 l.1.2.2.2.1 (Am l.2.2.1)).2=0
  ·simp only [Dl k6,if_pos k6]
  ·simp only [Fq k6,if_neg k6]
 simp only [Ax k5,if_neg k5]
 by_cases k6:(sitS l.2.2.2.1.2.1 o.2.2.2.2.1 o.2.1 l.1.2.2.2.1 (Am l.2.2.1)).2=0
 ·simp only [Dl k6,if_pos k6]
 ·simp only [Fq k6,if_neg k6]
theorem F14_eq (R:Type) (h:LOK c n l) (hn:n≤100) {o:OpT} (ho:OpOK o) (k:Led→An→Option R):F14 R l o k=k (doS l o).1 (doS l o).2:=by
 simp only [F14,p14,F33_eq R ho,O3,F38_eq R h hn,F37_eq R h hn];unfold doS;cases hr:C0 o with
 | false=>simp
 | true=>
  simp only [Bool.not_true]
  by_cases k0:o.1=0
  ·simp [k0]
  rw [if_pos ⟨trivial,k0⟩]
  by_cases k1:o.1=1
  ·rw [if_pos k1,F35_dep R h hn ho k1]; simp [k1]
  by_cases k2:o.1=2
  ·rw [if_neg k1,if_pos k2,F35_wd R h hn ho k2]; simp [k2]
  by_cases k3:o.1=3
  ·rw [if_neg k1,if_neg k2,if_pos k3,F35_sl R h hn ho k3]; simp [k3]
  by_cases k4:o.1=4
  ·rw [if_neg k1,if_neg k2,if_neg k3,if_pos k4,F36_eq4 R h hn ho k4]; simp [k4]
  by_cases k5:o.1=5
  ·rw [if_neg k1,if_neg k2,if_neg k3,if_neg k4,if_pos k5,F36_eq5 R h hn ho k5]; simp [k5]
  by_cases k6:o.1=6
  ·rw [if_neg k1,if_neg k2,if_neg k3,if_neg k4,if_neg k5,if_pos k6]; simp [k6]
  simp only [Ax k0,Ax k1,Ax k2,Ax k3,Ax k4,Ax k5,Ax k6,if_neg k1,if_neg k2,if_neg k3,if_neg k4,if_neg k5,if_neg k6]
end
end Go.PG
set_option maxRecDepth 100000
namespace Go.PG
def endC {R:Type} (l:Led) (k:Led→An→Option R) (y:Int) (p:Clk):Option R:=match (y !=0) with | true=>k l (badS y) | false=>k p.1 p.2.1
def Dw {R:Type} (l:Led) (k:Led→An→Option R) (x:Option R) (y:Bool):Option R:=match (!y) with | true=>k l (badS 2) | false=>x
theorem F13_1 (R:Type) (l:Led) {o:OpT} (hk:o.1=1) (k:Led→An→Option R):F13 R l o k=F32 R o (Dw l k (F51 R (l,okS 0,()) o (endC l k))):=by
 obtain ⟨x,r⟩:=o;cases hk
 kernel_rfl
theorem F13_2 (R:Type) (l:Led) {o:OpT} (hk:o.1=2) (k:Led→An→Option R):F13 R l o k=F32 R o (Dw l k (F52 R (l,okS 0,()) o (endC l k))):=by
 obtain ⟨x,r⟩:=o;cases hk
 kernel_rfl
theorem F13_3 (R:Type) (l:Led) {o:OpT} (hk:o.1=3) (k:Led→An→Option R):F13 R l o k=F32 R o (Dw l k (F53 R (l,okS 0,()) o (endC l k))):=by
 obtain ⟨x,r⟩:=o;cases hk
 kernel_rfl
theorem F13_4 (R:Type) (l:Led) {o:OpT} (hk:o.1=4) (k:Led→An→Option R):F13 R l o k=F32 R o (Dw l k (F54 R (l,okS 0,()) o (endC l k))):=by
 obtain ⟨x,r⟩:=o;cases hk
 kernel_rfl
theorem F13_5 (R:Type) (l:Led) {o:OpT} (hk:o.1=5) (k:Led→An→Option R):F13 R l o k=F32 R o (Dw l k (F57 R (l,okS 0,()) o (endC l k))):=by
 obtain ⟨x,r⟩:=o;cases hk
 kernel_rfl
theorem F13_6 (R:Type) (l:Led) {o:OpT} (hk:o.1=6) (k:Led→An→Option R):F13 R l o k=F32 R o (Dw l k (F59 R (l,okS 0,()) o (endC l k))):=by
 obtain ⟨x,r⟩:=o;cases hk
 kernel_rfl
theorem F13_7 (R:Type) (l:Led) {o:OpT} (hk:o.1=7) (k:Led→An→Option R):F13 R l o k=F32 R o (Dw l k (F60 R (l,okS 0,()) o (endC l k))):=by
 obtain ⟨x,r⟩:=o;cases hk
 kernel_rfl
theorem F13_8 (R:Type) (l:Led) {o:OpT} (hk:o.1=8) (k:Led→An→Option R):F13 R l o k=F32 R o (Dw l k (F61 R (l,okS 0,()) o (endC l k))):=by
 obtain ⟨x,r⟩:=o;cases hk
 kernel_rfl
theorem F13_9 (R:Type) (l:Led) {o:OpT} (hk:o.1=9) (k:Led→An→Option R):F13 R l o k=F32 R o (Dw l k (F62 R (l,okS 0,()) o (endC l k))):=by
 obtain ⟨x,r⟩:=o;cases hk
 kernel_rfl
theorem F13_10 (R:Type) (l:Led) {o:OpT} (hk:o.1=10) (k:Led→An→Option R):F13 R l o k=F32 R o (Dw l k (F63 R (l,okS 0,()) o (endC l k))):=by
 obtain ⟨x,r⟩:=o;cases hk
 kernel_rfl
theorem F13_11 (R:Type) (l:Led) {o:OpT} (hk:o.1=11) (k:Led→An→Option R):F13 R l o k=F32 R o (Dw l k (F64 R (l,okS 0,()) o (endC l k))):=by
 obtain ⟨x,r⟩:=o;cases hk
 kernel_rfl
theorem F13_none (R:Type) (l:Led) {o:OpT} (hk:o.1≠1∧o.1≠2∧o.1≠3∧o.1≠4∧o.1≠5∧o.1≠6∧o.1≠7∧o.1≠8∧o.1≠9∧o.1≠10∧o.1≠11) (k:Led→An→Option R):F13 R l o k=k l (badS 2):=by
 obtain ⟨h1,h2,h3,h4,h5,h6,h7,h8,h9,h10,h11⟩:=hk;simp [F13,p13,B6,Kd.eqv];simp only [Ax h1,Ax h2,Ax h3,Ax h4,Ax h5,Ax h6,Ax h7,Ax h8,Ax h9,Ax h10,Ax h11];rfl
end Go.PG
namespace Go.PG
section
variable {c:Cfg} {n:Nat} {l:Led}
theorem Cd {R:Type} (l:Led) {o:OpT} (ho:OpOK o) (k:Led→An→Option R) (x:Option R) (z:Option R) (h1:C0 o=false→k l (badS 2)=z) (h2:C0 o=true→x=z):F32 R o (Dw l k x)=z:=by
 rw [F32_eq R ho];unfold Dw;cases hr:C0 o with
 | false=>exact h1 hr
 | true=>exact h2 hr
theorem C3 {R:Type} (l:Led) (k:Led→An→Option R) {y:Int} (p:Clk) (h:y=0):endC l k y p=k p.1 p.2.1:=by unfold endC; rw [Dl h]
theorem Cx {R:Type} (l:Led) (k:Led→An→Option R) {y:Int} (p:Clk) (h:¬y=0):endC l k y p=k l (badS y):=by unfold endC; rw [Fq h]
theorem Qh {R:Type} (l:Led) (k:Led→An→Option R) (r:List Va×Int×Int):endC l k r.2.2 ((l.1,l.2.1,r.1,l.2.2.2),((0:Int),r.2.1,([]:List Int),(List.replicate 32 (0:Int)),()),())=k (B9 l r).1 (B9 l r).2:=by
 unfold B9
 by_cases hr:r.2.2=0
 ·rw [C3 l k _ hr,if_pos hr]; rfl
 ·rw [Cx l k _ hr,if_neg hr]
theorem zg7 {R:Type} (l:Led) (k:Led→An→Option R) (r:Bea×Int):endC l k r.2 ((l.1,l.2.1,l.2.2.1,r.1,l.2.2.2.2),okS 0,())=k (Gb l r).1 (Gb l r).2:=by
 unfold Gb
 by_cases hr:r.2=0
 ·rw [C3 l k _ hr,if_pos hr]
 ·rw [Cx l k _ hr,if_neg hr]
theorem P51 (R:Type) (h:LOK c n l) (hn:n≤100) {o:OpT} (ho:OpOK o) (k:Led→An→Option R):
  F51 R (l,okS 0,()) o (endC l k)=k (B9 l (depS l.2.2.1 o.2.2.2.1 o.2.2.1 l.1.2.2.2.2.1)).1 (B9 l (depS l.2.2.1 o.2.2.2.1 o.2.2.1 l.1.2.2.2.2.1)).2:=by
 have hl:=h.vlen;have hi:=zha l.2.2.1 o.2.2.2.1 o.2.2.1 l.1.2.2.2.2.1 (by omega);simp only [F51,p51];rw [F97_eq R h.vals (by omega) ho.hash.1 ho.amount,Ad (n:=(depS l.2.2.1 o.2.2.2.1 o.2.2.1 l.1.2.2.2.2.1).2.1) (by omega) (by omega)];exact Qh l k _
theorem P52 (R:Type) (h:LOK c n l) (hn:n≤100) {o:OpT} (ho:OpOK o) (k:Led→An→Option R):
  F52 R (l,okS 0,()) o (endC l k)=k (B9 l (wdS l.2.2.1 o.2.1 o.2.2.1)).1 (B9 l (wdS l.2.2.1 o.2.1 o.2.2.1)).2:=by
 have hl:=h.vlen;simp only [F52,p52];rw [F98_eq R h.vals (by omega) _ ho.amount];exact Qh l k _
theorem P53 (R:Type) (h:LOK c n l) (hn:n≤100) {o:OpT} (ho:OpOK o) (k:Led→An→Option R):
  F53 R (l,okS 0,()) o (endC l k)=k (B9 l (slS l.2.2.1 o.2.1 o.2.2.1)).1 (B9 l (slS l.2.2.1 o.2.1 o.2.2.1)).2:=by
 have hl:=h.vlen;simp only [F53,p53];rw [F99_eq R h.vals (by omega) _ ho.amount];exact Qh l k _
theorem zfk (R:Type) (p:Clk) (w:Int) (k:Int→Clk→Option R):F100 R p w k=k (if Ck p.1 w=true then 0 else 5) p:=by
 simp only [F100,p100]
 by_cases h1:w<0
 ·have e:Ck p.1 w=false:=decide_eq_false (by omega)
  simp only [decide_eq_true h1]; rw [e]; rfl
 ·simp only [decide_eq_false h1]
  by_cases h2:w≥(p.1.2.2.1.length:Int)
  ·have e:Ck p.1 w=false:=decide_eq_false (by omega)
   simp only [decide_eq_true h2]; rw [e]; rfl
  ·have e:Ck p.1 w=true:=decide_eq_true (by omega)
   simp only [decide_eq_false h2]; rw [e]; rfl
theorem P54 (R:Type) (h:LOK c n l) (hn:n≤100) {o:OpT} (ho:OpOK o) (k:Led→An→Option R):
  F54 R (l,okS 0,()) o (endC l k)=k (if Ck l o.2.1=true then Gb l (Cg l.2.2.2.1 (phS l.1 l.2.1) o.2.1 o.2.2.2.1) else (l,badS 5)).1 (if Ck l o.2.1=true then Gb l (Cg l.2.2.2.1 (phS l.1 l.2.1) o.2.1 o.2.2.2.1) else (l,badS 5)).2:=by
 have hl:=h.blen;simp only [F54,p54,Gu,zkt,zfk];cases Ck l o.2.1 with
 | false=>
  simp only [Bool.false_eq_true,if_false];exact Cx l k _ (by decide)
 | true=>
  simp only [if_true,show ((0:Int) !=0)=false from rfl,ztj,F56_eq R h.bea (show l.2.2.2.1.2.2.2.1.length≤400 by omega) _ ho.who ho.hash];exact zg7 l k _
theorem P57 (R:Type) (h:LOK c n l) (hn:n≤100) {o:OpT} (ho:OpOK o) (k:Led→An→Option R):
  F57 R (l,okS 0,()) o (endC l k)=k (if Ck l o.2.1=true then Gb l (Cf l.2.2.2.1 (phS l.1 l.2.1) o.2.1 o.2.2.2.1) else (l,badS 5)).1 (if Ck l o.2.1=true then Gb l (Cf l.2.2.2.1 (phS l.1 l.2.1) o.2.1 o.2.2.2.1) else (l,badS 5)).2:=by
 have hl:=h.blen;simp only [F57,p57,Gt,zks,zfk];cases Ck l o.2.1 with
 | false=>
  simp only [Bool.false_eq_true,if_false];exact Cx l k _ (by decide)
 | true=>
  simp only [if_true,show ((0:Int) !=0)=false from rfl,ztj,F58_eq R h.bea (show l.2.2.2.1.2.2.2.1.length≤400 by omega) _ _ ho.hash];exact zg7 l k _
theorem sch_ok (h:LOK c n l) (a:List Int):(schL a l.1.1 l.1.2.2.2.1 (Am (actS l.2.2.1))).2=0∧(schL a l.1.1 l.1.2.2.2.1 (Am (actS l.2.2.1))).1=schP a l.1.2.2.2.1 (Am (actS l.2.2.1)) l.1.1.toNat:=by
 have hc:=B3 h.right;have hm:mayS l.1.2.2.2.1 (l.1.1 - 1)=true:=by
  rw [h.cfg]; unfold mayS; simp; omega
 have ht:totS (Am (actS l.2.2.1))<9223372036854775808:=by rw [Qu]; exact h.next
 unfold schL;rw [if_neg (by rw [h.cfg]; omega),if_pos hm,if_pos ht];exact ⟨rfl,rfl⟩
theorem zmk (l:List Cm):(Fl l).length≤l.length:=by
 unfold Fl;simp only [List.length_map];exact List.length_filter_le _ _
theorem zja (b:Bea):(bEnd b).2.2.1.length≤b.2.2.2.1.length:=by
 unfold bEnd;split
 ·simp
 ·split
  ·simp
  ·exact zmk _
theorem P59 (R:Type) (h:LOK c n l) (hn:n≤100) {o:OpT} (k:Led→An→Option R):
  F59 R (l,okS 0,()) o (endC l k)=k (advS l).1 (advS l).2:=by
 have hl:=h.blen;have hv:=h.vlen;have hx:=Jv h;have hc:=B3 h.right;obtain ⟨hs,hf⟩:=Qr h.bea;simp only [F59,p59,F106_eq];rw [Ad (n:=L0 l.1 l.2.1) (by omega) (by omega)];unfold advS;cases zcm l.1 l.2.1 with
 | false=>
  simp only [Bool.false_eq_true,if_false];exact C3 l k _ rfl
 | true=>
  simp only [if_true,F107,p107,F153_eq R h.bea (show l.2.2.2.1.2.2.2.1.length≤400 by omega)]
  by_cases he:(bEnd l.2.2.2.1).2.2.2=0
  ·simp only [Dl he,if_pos he,F154_eq R (show l.2.2.1.length≤1000 by omega)]
   have hm:=zja l.2.2.2.1;have hcl:decide (([]:List Int).length+(bEnd l.2.2.2.1).2.2.1.length≤17592186044416)=true:=by simp; omega
   simp only [F155,hcl];rw [R9 R (by rw [F6]; omega),F156_eq R hs (by rw [h.cfg]; omega) _ (Cp (zcu h.vals)) (by rw [B1,F6]; omega)];exact C3 l k _ (sch_ok h _).1
  ·simp only [Fq he,if_neg he]
   exact Cx l k _ he
theorem askS_7 (l:Led) {o:OpT} (hk:o.1=7):askS l o=if o.2.2.2.2.1≥l.1.1 then badS 3 else
  (if posS (Am l.2.2.1)=0 then badS 10 else
   if (leaS l.2.2.2.1.2.1 o.2.2.2.2.1 l.1.2.2.2.1 (Am l.2.2.1)).2=0 then ((0:Int),(0:Int),[(leaS l.2.2.2.1.2.1 o.2.2.2.2.1 l.1.2.2.2.1 (Am l.2.2.1)).1],(List.replicate 32 (0:Int)),())
   else badS (leaS l.2.2.2.1.2.1 o.2.2.2.2.1 l.1.2.2.2.1 (Am l.2.2.1)).2):=by
 unfold askS; rw [hk]; rfl
theorem askS_8 (l:Led) {o:OpT} (hk:o.1=8):askS l o=if o.2.2.2.2.1≥l.1.1 then badS 3 else
  (if (aliS l.2.2.2.1.2.1 o.2.2.2.2.1 l.1.2.2.2.1 (Am l.2.2.1)).2=0 then ((0:Int),(0:Int),[(aliS l.2.2.2.1.2.1 o.2.2.2.2.1 l.1.2.2.2.1 (Am l.2.2.1)).1],(List.replicate 32 (0:Int)),())
   else badS (aliS l.2.2.2.1.2.1 o.2.2.2.2.1 l.1.2.2.2.1 (Am l.2.2.1)).2):=by
 unfold askS; rw [hk]; rfl
theorem askS_9 (l:Led) {o:OpT} (hk:o.1=9):askS l o=if o.2.2.2.2.1≥l.1.1 then badS 3 else
  (if (sitS l.2.2.2.1.2.1 o.2.2.2.2.1 o.2.1 l.1.2.2.2.1 (Am l.2.2.1)).2=0 then ((0:Int),(0:Int),(sitS l.2.2.2.1.2.1 o.2.2.2.2.1 o.2.1 l.1.2.2.2.1 (Am l.2.2.1)).1,(List.replicate 32 (0:Int)),())
   else badS (sitS l.2.2.2.1.2.1 o.2.2.2.2.1 o.2.1 l.1.2.2.2.1 (Am l.2.2.1)).2):=by
 unfold askS; rw [hk]; rfl
theorem zfj (R:Type) (p:Clk) (w:Int) (hw:0≤w) (k:Int→Clk→Option R):F108 R p w k=k (if w≥p.1.1.1 then 3 else 0) p:=by
 simp only [F108,p108,decide_eq_false (show ¬w<0 by omega)]
 by_cases h2:w≥p.1.1.1
 ·simp only [decide_eq_true h2,if_pos h2]
 ·simp only [decide_eq_false h2,if_neg h2]
theorem P60 (R:Type) (h:LOK c n l) (hn:n≤100) {o:OpT} (hr:C0 o=true) (hk:o.1=7) (k:Led→An→Option R):
  F60 R (l,okS 0,()) o (endC l k)=k l (askS l o):=by
 have hv:=h.vlen;have hA:=Cp h.vals;have hL:(Am l.2.2.1).length≤200:=by rw [B1]; omega
 obtain ⟨hn0,_,_,_⟩:=Uf hr;have hc:=B3 h.right;simp only [F60,p60,zfj R _ _ hn0];rw [askS_7 l hk]
 by_cases h1:o.2.2.2.2.1≥l.1.1
 ·simp only [if_pos h1,show ((3:Int) !=0)=true from rfl]
  exact Cx l k _ (show ¬(3:Int)=0 by decide)
 ·simp only [if_neg h1,show ((0:Int) !=0)=false from rfl,R9 R (show l.2.2.1.length≤1000 by omega),zh0 R (show (Am l.2.2.1).length≤1000000 by omega)]
  by_cases h2:posS (Am l.2.2.1)=0
  ·rw [if_pos h2,h2]
   exact Cx l k _ (by decide)
  ·rw [if_neg h2]
   simp only [Ax h2];obtain ⟨i,hi⟩:∃i:Nat,o.2.2.2.2.1=i:=⟨o.2.2.2.2.1.toNat,by omega⟩
   rw [hi] at h1 ⊢;have hll:=h.llen;have hcf:=h.cfg;have hil:i<l.2.2.2.2.1.length:=by rw [hcf] at h1; omega
   have hld:=h.lead i (by rw [hcf] at h1; omega) h2;simp only [Ap hil,Int.toNat_natCast,hld];have hm:mayS l.1.2.2.2.1 (i:Int)=true:=by
    rw [hcf] at h1 ⊢; unfold mayS; simp; omega
   have hE:=zym h.bea.seed (slot:=(i:Int)) (m:=l.1.2.2.2.1) hA hm h.stake ((Uj hA).1 h2);rw [hcf] at hE ⊢;unfold schV;rcases hE with ⟨e1,e2⟩ | e1
   ·rw [if_pos e1,if_pos e1]
    have e3:((leaS l.2.2.2.1.2.1 (i:Int) c.2.2.2.1 (Am l.2.2.1)).1== -1)=false:=Ax (by omega);simp only [e3];exact C3 l k _ rfl
   ·have e0:¬(leaS l.2.2.2.1.2.1 (i:Int) c.2.2.2.1 (Am l.2.2.1)).2=0:=by rw [e1]; decide
    rw [if_neg e0,if_neg e0];simp only [show ((-1:Int)== -1)=true from rfl];rw [e1];exact Cx l k _ (by decide)
theorem P61 (R:Type) (h:LOK c n l) (hn:n≤100) {o:OpT} (hr:C0 o=true) (hk:o.1=8) (k:Led→An→Option R):
  F61 R (l,okS 0,()) o (endC l k)=k l (askS l o):=by
 have hv:=h.vlen;have hA:=Cp h.vals;have hL:(Am l.2.2.1).length≤200:=by rw [B1]; omega
 obtain ⟨hn0,_,_,_⟩:=Uf hr;simp only [F61,p61,zfj R _ _ hn0];rw [askS_8 l hk]
 by_cases h1:o.2.2.2.2.1≥l.1.1
 ·simp only [if_pos h1,show ((3:Int) !=0)=true from rfl]
  exact Cx l k _ (show ¬(3:Int)=0 by decide)
 ·simp only [if_neg h1,show ((0:Int) !=0)=false from rfl,R9 R (show l.2.2.1.length≤1000 by omega),F111_eq R h.bea.seed _ _ hA hL]
  by_cases h2:(aliS l.2.2.2.1.2.1 o.2.2.2.2.1 l.1.2.2.2.1 (Am l.2.2.1)).2=0
  ·rw [if_pos h2,C3 l k _ h2]; rfl
  ·rw [if_neg h2,Cx l k _ h2]
theorem P62 (R:Type) (h:LOK c n l) (hn:n≤100) {o:OpT} (hr:C0 o=true) (hk:o.1=9) (k:Led→An→Option R):
  F62 R (l,okS 0,()) o (endC l k)=k l (askS l o):=by
 have hv:=h.vlen;have hA:=Cp h.vals;have hL:(Am l.2.2.1).length≤200:=by rw [B1]; omega
 obtain ⟨hn0,_,_,_⟩:=Uf hr;simp only [F62,p62,zfj R _ _ hn0];rw [askS_9 l hk]
 by_cases h1:o.2.2.2.2.1≥l.1.1
 ·simp only [if_pos h1,show ((3:Int) !=0)=true from rfl]
  exact Cx l k _ (show ¬(3:Int)=0 by decide)
 ·simp only [if_neg h1,show ((0:Int) !=0)=false from rfl,R9 R (show l.2.2.1.length≤1000 by omega),F112_eq R h.bea.seed _ _ _ hA hL]
  by_cases h2:(sitS l.2.2.2.1.2.1 o.2.2.2.2.1 o.2.1 l.1.2.2.2.1 (Am l.2.2.1)).2=0
  ·rw [if_pos h2,C3 l k _ h2]; rfl
  ·rw [if_neg h2,Cx l k _ h2]
theorem P63 (R:Type) {o:OpT} (hk:o.1=10) (k:Led→An→Option R):
  F63 R (l,okS 0,()) o (endC l k)=k l (askS l o):=by
 simp only [F63,p63,zfk];unfold askS;rw [hk,if_pos rfl];cases ht:Ck l o.2.1 with
 | false=>
  simp only [Bool.false_eq_true,if_false];exact Cx l k _ (by decide)
 | true=>
  have ht':=of_decide_eq_true ht;obtain ⟨i,hi⟩:∃i:Nat,o.2.1=i:=⟨o.2.1.toNat,by omega⟩
  have hb:bnd o.2.1 (l.2.2.1.length:Int)=true:=by rw [hi]; exact Ap (by omega)
  simp only [if_true,show ((0:Int) !=0)=false from rfl,hb]
  by_cases k2:o.2.2.2.2.1=0
  ·simp only [k2,if_true,show ((0:Int)==0)=true from rfl]
   exact C3 l k _ rfl
  ·simp only [Ax k2,if_neg k2]
   exact C3 l k _ rfl
theorem P64 (R:Type) {o:OpT} (hk:o.1=11) (k:Led→An→Option R):
  F64 R (l,okS 0,()) o (endC l k)=k l (askS l o):=by
 simp only [F64,p64];unfold askS;rw [hk,if_neg (by decide),if_pos rfl];exact C3 l k _ rfl
theorem F13_eq (R:Type) (h:LOK c n l) (hn:n≤100) {o:OpT} (ho:OpOK o) (k:Led→An→Option R):F13 R l o k=k (doS l o).1 (doS l o).2:=by
 have hf:C0 o=false→k l (badS 2)=k (doS l o).1 (doS l o).2:=fun hr=>by unfold doS; rw [hr]; rfl
 have hd:C0 o=true→o.1≠0→doS l o=if o.1=1 then B9 l (depS l.2.2.1 o.2.2.2.1 o.2.2.1 l.1.2.2.2.2.1)
  else if o.1=2 then B9 l (wdS l.2.2.1 o.2.1 o.2.2.1)
  else if o.1=3 then B9 l (slS l.2.2.1 o.2.1 o.2.2.1)
  else if o.1=4 then (if Ck l o.2.1=true then Gb l (Cg l.2.2.2.1 (phS l.1 l.2.1) o.2.1 o.2.2.2.1) else (l,badS 5))
  else if o.1=5 then (if Ck l o.2.1=true then Gb l (Cf l.2.2.2.1 (phS l.1 l.2.1) o.2.1 o.2.2.2.1) else (l,badS 5))
  else if o.1=6 then advS l
  else (l,askS l o):=fun hr h0=>by unfold doS; rw [if_pos ⟨hr,h0⟩]
 rcases zcj o.1 with q | q | q | q | q | q | q | q | q | q | q | q
 ·rw [F13_1 R l q]; exact Cd l ho k _ _ hf fun hr=>by rw [P51 R h hn ho,hd hr (by omega)]; simp [q]
 ·rw [F13_2 R l q]; exact Cd l ho k _ _ hf fun hr=>by rw [P52 R h hn ho,hd hr (by omega)]; simp [q]
 ·rw [F13_3 R l q]; exact Cd l ho k _ _ hf fun hr=>by rw [P53 R h hn ho,hd hr (by omega)]; simp [q]
 ·rw [F13_4 R l q]; exact Cd l ho k _ _ hf fun hr=>by rw [P54 R h hn ho,hd hr (by omega)]; simp [q]
 ·rw [F13_5 R l q]; exact Cd l ho k _ _ hf fun hr=>by rw [P57 R h hn ho,hd hr (by omega)]; simp [q]
 ·rw [F13_6 R l q]; exact Cd l ho k _ _ hf fun hr=>by rw [P59 R h hn,hd hr (by omega)]; simp [q]
 ·rw [F13_7 R l q]; exact Cd l ho k _ _ hf fun hr=>by rw [P60 R h hn hr q,hd hr (by omega)]; simp [q]
 ·rw [F13_8 R l q]; exact Cd l ho k _ _ hf fun hr=>by rw [P61 R h hn hr q,hd hr (by omega)]; simp [q]
 ·rw [F13_9 R l q]; exact Cd l ho k _ _ hf fun hr=>by rw [P62 R h hn hr q,hd hr (by omega)]; simp [q]
 ·rw [F13_10 R l q]; exact Cd l ho k _ _ hf fun hr=>by rw [P63 R q,hd hr (by omega)]; simp [q]
 ·rw [F13_11 R l q]; exact Cd l ho k _ _ hf fun hr=>by rw [P64 R q,hd hr (by omega)]; simp [q]
 ·rw [F13_none R l q]
  have:¬(C0 o=true∧o.1≠0):=fun hh=>by have:=zim hh.1 hh.2; omega
  unfold doS;rw [if_neg this]
end
end Go.PG
namespace Go.PG
theorem zf1:∀(l:List Int) (i:Nat) (x:Int),i<l.length→(l.set i x).sum=l.sum - l.getD i 0+x
 | [],i,_,h=>by simp at h
 | y::l,0,x,_=>by simp; omega
 | y::l,i+1,x,h=>by
  have:=zf1 l i x (by simpa using h);simp only [List.set_cons_succ,List.sum_cons,List.getD_cons_succ];omega
theorem zfx (l:List Int):totS l=l.sum:=by unfold totS sumS; rw [List.take_length]
theorem Jl {l:List Va} {i:Nat} (hi:i<l.length) (x:Int):Am (Jm l i x)=Am l:=by
 unfold Am Jm;rw [List.map_set];apply List.ext_getElem
 ·simp
 ·intro j h1 h2
  rw [List.getElem_set];split
  ·rename_i e; subst e; rw [Cr hi]; simp
  ·rfl
theorem Lt {l:List Va} {i:Nat} (hi:i<l.length) (x:Int):totS (Az (Jm l i x))=totS (Az l) - (l.getD i zV).2.2.1+x:=by
 have e:Az (Jm l i x)=(Az l).set i x:=by unfold Az Jm; rw [List.map_set]
 rw [e,zfx,zfx,zf1 _ _ _ (by rw [Ce]; exact hi)];have:(Az l).getD i 0=(l.getD i zV).2.2.1:=by rw [Cr hi]; simp [Az,hi]
 rw [this]
theorem Zp {l:List Va} (h:VsOK l) (i:Nat) {x:Int} (hx:U64 x):VsOK (Jm l i x):=fun v hv=>by
 rcases List.mem_or_eq_of_mem_set hv with h1 | h1
 ·exact h v h1
 ·rw [h1]; exact ⟨(h.get i).key,(h.get i).stake,hx⟩
theorem T1 (l:List Va) (i:Nat) (x:Int):(Jm l i x).length=l.length:=by simp [Jm]
section
variable {c:Cfg} {n:Nat} {l:Led}
theorem LOK.mono (h:LOK c n l):LOK c (n+1) l:=⟨h.cfg,h.right,h.slot,h.vals,by have:=h.vlen; omega,h.next,h.stake,h.bea,by have:=h.blen; omega,h.llen,h.lead,h.miss⟩
structure MOK (l:Led) (n:Nat) (v:List Va):Prop where
 vals:VsOK v
 vlen:v.length≤n+1
 next:totS (Az v)<9223372036854775808
 stake:Am v=Am l.2.2.1∨Am v=Am l.2.2.1++[0]
theorem Uq (h:LOK c n l) (hn:n≤100) {r:List Va×Int×Int} (hr:r.2.2=0→MOK l n r.1):LOK c (n+1) (B9 l r).1:=by
 unfold B9;split
 ·rename_i h0
  have hm:=hr h0;have hA:=Cp h.vals;have hv:=h.vlen;refine ⟨h.cfg,h.right,h.slot,hm.vals,hm.vlen,hm.next,?_,h.bea,by have:=h.blen; exact Nat.le_succ_of_le this,h.llen,fun i hi hp=>?_,h.miss⟩
  ·rcases hm.stake with e | e
   ·simp only [e]; exact h.stake
   ·simp only [e,Gk,Int.add_zero]; exact h.stake
  ·rcases hm.stake with e | e
   ·simp only [e] at hp ⊢; exact h.lead i hi hp
   ·simp only [e] at hp ⊢
    have hp':posS (Am l.2.2.1)≠0:=by
     rw [Uj hA];have hA2:AllU64 (Am l.2.2.1++[0]):=by rw [←e]; exact Cp hm.vals
     have:=(Uj hA2).1 hp
     rwa [Gk,Int.add_zero] at this
    rw [h.lead i hi hp'];unfold schV;rw [zyn hA (by rw [B1]; omega)]
 ·exact h.mono
theorem dep_ok (h:LOK c n l) (hn:n≤100) {o:OpT} (ho:OpOK o) (most:Int) (h0:(depS l.2.2.1 o.2.2.2.1 o.2.2.1 most).2.2=0):MOK l n (depS l.2.2.1 o.2.2.2.1 o.2.2.1 most).1:=by
 have hv:=h.vlen;have ha:=ho.amount;unfold U64 at ha;unfold depS at h0 ⊢;split
 ·rename_i hc
  rw [if_pos hc] at h0;cases hq:fstK l.2.2.1 o.2.2.2.1 with
  | none=>
   rw [hq] at h0;simp only [] at h0 ⊢;split
   ·rename_i h1; rw [if_pos h1] at h0; cases h0
   ·rename_i h1
    rw [if_neg h1] at h0;split
    ·rename_i h2
     refine ⟨fun v hvm=>?_,by simp; omega,?_,.inr ?_⟩
     ·rcases List.mem_append.1 hvm with h3 | h3
      ·exact h.vals v h3
      ·rw [List.mem_singleton.1 h3]; exact ⟨ho.hash,Gx,ho.amount⟩
     ·have:Az (l.2.2.1++[(o.2.2.2.1,0,o.2.2.1,())])=Az l.2.2.1++[o.2.2.1]:=by simp [Az]
      simp only [this,Gk];exact h2
     ·simp [Am]
    ·rename_i h2; rw [if_neg h2] at h0; cases h0
  | some i=>
   rw [hq] at h0;obtain ⟨hi,_⟩:=U3 hq;have hx:=(h.vals.get i).next;have hnx:=zae h.vals hi;unfold U64 at hx;simp only [] at h0 ⊢;split
   ·rename_i h2
    refine ⟨Zp h.vals i (by unfold U64; omega),by rw [T1]; omega,?_,.inl (Jl hi _)⟩;rw [Lt hi];omega
   ·rename_i h2; rw [if_neg h2] at h0; cases h0
 ·rename_i hc; rw [if_neg hc] at h0; cases h0
theorem wd_ok (h:LOK c n l) (w a:Int) (ha:U64 a) (h0:(wdS l.2.2.1 w a).2.2=0):MOK l n (wdS l.2.2.1 w a).1:=by
 have hv:=h.vlen;have ht:=h.next;unfold U64 at ha;unfold wdS at h0 ⊢;split
 ·rename_i hc
  rw [if_pos hc] at h0;split
  ·rename_i h1
   rw [if_pos h1] at h0;have hi:w.toNat<l.2.2.1.length:=by omega
   have hx:=(h.vals.get w.toNat).next;unfold U64 at hx;split
   ·rename_i h2
    refine ⟨Zp h.vals _ (by unfold U64; omega),by rw [T1]; omega,?_,.inl (Jl hi _)⟩;rw [Lt hi];omega
   ·rename_i h2; rw [if_neg h2] at h0; cases h0
  ·rename_i h1; rw [if_neg h1] at h0; cases h0
 ·rename_i hc; rw [if_neg hc] at h0; cases h0
theorem sl_ok (h:LOK c n l) (w a:Int) (ha:U64 a) (h0:(slS l.2.2.1 w a).2.2=0):MOK l n (slS l.2.2.1 w a).1:=by
 have hv:=h.vlen;have ht:=h.next;unfold U64 at ha;unfold slS at h0 ⊢;split
 ·rename_i hc
  rw [if_pos hc] at h0;split
  ·rename_i h1
   rw [if_pos h1] at h0;have hi:w.toNat<l.2.2.1.length:=by omega
   have hx:=(h.vals.get w.toNat).next;unfold U64 at hx;refine ⟨Zp h.vals _ (by unfold U64; omega),by rw [T1]; omega,?_,.inl (Jl hi _)⟩;rw [Lt hi];omega
  ·rename_i h1; rw [if_neg h1] at h0; cases h0
 ·rename_i hc; rw [if_neg hc] at h0; cases h0
theorem X4 {b:Bea} {ph w:Int} {x:List Int} (h0:(Cg b ph w x).2=0):(Cg b ph w x).1.1=b.1∧(Cg b ph w x).1.2.1=b.2.1:=by
 unfold Cg at h0 ⊢;split
 ·rename_i h1; rw [if_pos h1] at h0; cases h0
 ·rename_i h1
  rw [if_neg h1] at h0;split
  ·rename_i h2
   rw [if_pos h2] at h0;unfold O4 at h0 ⊢;split
   ·exact ⟨rfl,rfl⟩
   ·rename_i h3; rw [if_neg h3] at h0; exact absurd h0 h3
  ·rename_i h2; rw [if_neg h2] at h0; cases h0
theorem X2 {b:Bea} {ph w:Int} {x:List Int} (h0:(Cf b ph w x).2=0):(Cf b ph w x).1.1=b.1∧(Cf b ph w x).1.2.1=b.2.1:=by
 unfold Cf at h0 ⊢;split
 ·rename_i h1; rw [if_pos h1] at h0; cases h0
 ·rename_i h1
  rw [if_neg h1] at h0;split
  ·rename_i h2
   rw [if_pos h2] at h0;unfold O4 at h0 ⊢;split
   ·exact ⟨rfl,rfl⟩
   ·rename_i h3; rw [if_neg h3] at h0; exact absurd h0 h3
  ·rename_i h2; rw [if_neg h2] at h0; cases h0
theorem zj2 (h:LOK c n l) {r:Bea×Int} (hr:Ed r.1∧r.1.2.2.2.1.length≤l.2.2.2.1.2.2.2.1.length+1) (hs:r.2=0→r.1.1=l.2.2.2.1.1∧r.1.2.1=l.2.2.2.1.2.1):LOK c (n+1) (Gb l r).1:=by
 have hb:=h.blen;have hv:=h.vlen;unfold Gb;split
 ·rename_i h0
  have:=(hs h0).2;exact ⟨h.cfg,h.right,h.slot,h.vals,by simp only []; omega,h.next,h.stake,hr.1,by have:=hr.2; simp only []; omega,h.llen,fun i hi hp=>by simp only [this]; exact h.lead i hi hp,h.miss⟩
 ·exact h.mono
theorem zvx (a:List Int) (m:Int) (l:List Int) {n i:Nat} (h:i<n):(schP a m l n).getD i 0=schV a m l i:=by
 unfold schP;simp [h]
theorem adv_ok (h:LOK c n l) (hn:n≤100):LOK c (n+1) (advS l).1:=by
 have hb:=h.blen;have hv:=h.vlen;have hx:=Jv h;have hc:=B3 h.right;unfold advS;split
 ·split
  ·obtain ⟨b1,b2⟩:=bEnd_ok h.bea
   have hm:=X3 l.2.2.2.1;rw [(sch_ok h _).2];refine ⟨h.cfg,h.right,⟨hx.1,hx.2.1⟩,zcu h.vals,by simp only [F6]; omega,by simp only [zje]; exact h.next,by simp only [Qu]; exact h.next,b1,by simp only [b2]; omega,?_,fun i hi _=>?_,by simp only []; omega⟩
   ·simp only [Gz,h.cfg]; omega
   ·simp only [h.cfg]
    exact zvx _ _ _ (by omega)
  ·exact h.mono
 ·exact ⟨h.cfg,h.right,⟨hx.1,hx.2.1⟩,h.vals,by simp only []; omega,h.next,h.stake,h.bea,by simp only []; omega,h.llen,h.lead,h.miss⟩
theorem do_ok (h:LOK c n l) (hn:n≤100) {o:OpT} (ho:OpOK o):LOK c (n+1) (doS l o).1:=by
 unfold doS;split
 ·split
  ·exact Uq h hn (dep_ok h hn ho _)
  ·split
   ·exact Uq h hn (wd_ok h _ _ ho.amount)
   ·split
    ·exact Uq h hn (sl_ok h _ _ ho.amount)
    ·split
     ·split
      ·exact zj2 h (zjb h.bea _ ho.who ho.hash) X4
      ·exact h.mono
     ·split
      ·split
       ·have:=zi9 h.bea (phS l.1 l.2.1) o.2.1 ho.hash
        exact zj2 h ⟨this.1,by omega⟩ X2
       ·exact h.mono
      ·split
       ·exact adv_ok h hn
       ·exact h.mono
 ·exact h.mono
end
end Go.PG
namespace Go.PG
theorem lay_eq {l:List Int} {o:Nat} {d:List Int} (h:o+d.length≤l.length):lay l o d=l.take o++d++l.drop (o+d.length):=by
 simp [lay]
def repS (j n:Nat):List Int:=List.replicate j (-1)++List.replicate (n - j) 0
theorem zv1 {j n:Nat} (h:j≤n):(repS j n).length=n:=by simp [repS]; omega
theorem W6 {j n i:Nat} (h:i≤j):(repS j n).take i=List.replicate i (-1):=by
 unfold repS;rw [List.take_append_of_le_length (by simpa using h),List.take_replicate,Nat.min_eq_left h]
theorem zkd {j n d:Nat} (h:j+d≤n):(repS j n).take j++List.replicate d (-1)++(repS j n).drop (j+d)=repS (j+d) n:=by
 rw [W6 (Nat.le_refl j)];unfold repS;rw [List.drop_append,List.drop_eq_nil_of_le (by simp),List.nil_append,List.length_replicate,List.drop_replicate,List.replicate_append_replicate,show n - j - (j+d - j)=n - (j+d) by omega]
theorem G27_eq (R:Type) {n:Nat} (hn:n≤1024) (k0:List Int→Option R):∀(m j:Nat),1≤j→j≤n→n - j<m→zdi m R (j:Int) (repS j n) k0=k0 (List.replicate n (-1))
 | 0,j,_,_,h=>by omega
 | m+1,j,h0,h1,h2=>by
  simp only [zdi,p27_8];have hl:=zv1 h1
  by_cases hj:j<n
  ·have hd:min j (n - j)≤n - j:=Nat.min_le_right _ _
   have hd1:1≤min j (n - j):=by omega
   have ih:=G27_eq R hn k0 m (j+min j (n - j)) (by omega) (by omega) (by omega);have c1:decide ((j:Int)<((repS j n).length:Int))=true:=by rw [hl]; exact By hj
   have c2:decide ((0:Int)≤(j:Int)∧(j:Int)≤((repS j n).length:Int)∧((repS j n).length:Int)≤((repS j n).length:Int)∧((repS j n).length:Int)≤((repS j n).length:Int))=true:=by rw [hl]; simp; omega
   have c3:decide ((0:Int)≤0∧(0:Int)≤(j:Int)∧(j:Int)≤(j:Int)∧(j:Int)≤((repS j n).length:Int))=true:=by rw [hl]; simp; omega
   simp only [c1,c2,c3];have t1:List.take (Int.toNat ((j:Int) - 0)) (List.drop 0 (repS j n))=List.replicate j (-1):=by
    rw [Int.sub_zero,Int.toNat_natCast,List.drop_zero,W6 (Nat.le_refl j)]
   have t2:Int.toNat (((repS j n).length:Int) - (j:Int))=n - j:=by rw [hl]; omega
   rw [t1,t2,List.take_replicate,List.length_replicate];have t3:lay (repS j n) (Int.toNat (j:Int)) (List.replicate (min (n - j) j) (-1))=repS (j+min j (n - j)) n:=by
    rw [Int.toNat_natCast,lay_eq (by rw [List.length_replicate,hl]; omega),List.length_replicate,Nat.min_comm (n - j) j,zkd (by omega)]
   rw [t3,show IntKind.i64.wrap ((j:Int)+((min j (n - j):Nat):Int))=((j+min j (n - j):Nat):Int) by rw [wrap_i64 (by omega) (by omega)]; omega];exact ih
  ·have:j=n:=by omega
   subst this;have c1:decide ((j:Int)<((repS j j).length:Int))=false:=by rw [hl]; simp
   simp only [c1];unfold repS;rw [Nat.sub_self,List.replicate_zero,List.append_nil]
theorem F27_eq (R:Type) {n:Int} (h0:1≤n) (hn:n≤1024) (k:List Int→Option R):F27 R [-1] n k=k (List.replicate n.toNat (-1)):=by
 obtain ⟨j,rfl⟩:∃j:Nat,n=j:=⟨n.toNat,by omega⟩
 simp only [F27,p27,F49,p49];have e1:decide ((j:Int)<0)=false:=by simp
 have w1:IntKind.u64.wrap ((([-1]:List Int).length:Nat):Int)=1:=by decide
 have w2:IntKind.u64.wrap (j:Int)=(j:Int):=Ad (by omega) (by omega);simp only [e1,w1,w2];rw [F96_eq R (a:=1) (b:=(j:Int)) (by unfold U64; omega) (by unfold U64; omega)];rw [Int.one_mul,w2,show (j:Int)/18446744073709551616=0 by omega,wrap_i64 (n:=(j:Int)) (by omega) (by omega)];have e2:decide ((0:Int)>0)=false:=rfl;have e3:decide ((j:Int)>9223372036854775807)=false:=by simp; omega
 have e4:decide ((0:Int)≤(j:Int)∧(j:Int)≤(j:Int)∧(j:Int)≤17592186044416)=true:=by simp; omega
 simp only [e2,e3,e4,Int.toNat_natCast,List.length_replicate];have t1:lay (List.replicate j (0:Int)) 0 (List.take j [-1])=repS 1 j:=by
  rw [List.take_of_length_le (by simp; omega),lay_eq (by simp; omega)];simp [repS,List.replicate_succ']
 have t2:((min ([-1]:List Int).length j:Nat):Int)=((1:Nat):Int):=by
  rw [show min ([-1]:List Int).length j=1 by simp; omega]
 rw [t1,t2];exact G27_eq R (by omega) (fun x=>k x) FUEL 1 (by omega) (by omega) (by rw [Ai]; omega)
abbrev zLed:Led:=(((0:Int),(0:Int),(0:Int),(0:Int),(0:Int),()),(0:Int),([]:List Va),((0:Int),(List.replicate 32 (0:Int)),(List.replicate 32 (0:Int)),([]:List Cm),()),([]:List Int),([]:List Int),())
def newS (c:Cfg) (a:List Int):Led:=(c,(0:Int),[],((0:Int),a,(List.replicate 32 (0:Int)),[],()),List.replicate c.1.toNat (-1),[],())
theorem F9_eq (R:Type) (c:Cfg) (a:List Int) (k:Led→Int→Option R):F9 R c a k=if cfgS c=true then k (newS c a) 0 else k zLed 1:=by
 simp only [F9,p9,F25_eq,F26,p26];cases hc:cfgS c with
 | false=>rfl
 | true=>
  have hr:=B3 hc;simp only [Bool.not_true,if_true];rw [F27_eq R hr.1 hr.2.1];rfl
theorem G10_eq (R:Type) {c:Cfg} (hc:cfgS c=true) (z:Led) (v:List Va) (ms:List Int) (b:Bea) (s:Int)
  (k0:Led→List Va→List Int→List Int→Tq52→Option R):∀(m i:Nat),(i:Int)≤c.1→c.1 - (i:Int)<m→
  zdt m R (i:Int) c z v (List.replicate i (-1)) ms (c.1,c.2.1,c.2.2.1,c.2.2.2.1,c.2.2.2.2.1,s,b.1,b.2.1,b.2.2.1,b.2.2.2.1,()) k0=k0 z v (List.replicate c.1.toNat (-1)) ms (c.1,c.2.1,c.2.2.1,c.2.2.2.1,c.2.2.2.2.1,s,b.1,b.2.1,b.2.2.1,b.2.2.2.1,())
 | 0,i,_,h=>by omega
 | m+1,i,h1,h2=>by
  have hr:=B3 hc;simp only [zdt,p10_5]
  by_cases hi:(i:Int)<c.1
  ·have ih:=G10_eq R hc z v ms b s k0 m (i+1) (by omega) (by omega)
   have c1:decide ((List.replicate i (-1:Int)).length+([-1]:List Int).length≤17592186044416)=true:=by simp; omega
   have e:List.replicate i (-1:Int)++[-1]=List.replicate (i+1) (-1):=by rw [List.replicate_succ']
   have w:IntKind.i64.wrap ((i:Int)+1)=((i+1:Nat):Int):=by rw [wrap_i64 (by omega) (by omega)]; omega
   simp only [decide_eq_true hi,c1,e,w];exact ih
  ·have:i=c.1.toNat:=by omega
   subst this;simp only [decide_eq_false hi]
theorem F10_eq (R:Type) (c:Cfg) (a:List Int) (k:Led→Int→Option R):F10 R c a k=if cfgS c=true then k (newS c a) 0 else k zLed 1:=by
 simp only [F10,p10,F28_eq];cases hc:cfgS c with
 | false=>rfl
 | true=>
  have hr:=B3 hc;simp only [Bool.not_true,if_true];have h:=G10_eq R hc zLed [] [] ((0:Int),a,(List.replicate 32 (0:Int)),[],()) 0 (fun x2 x3 x4 x5 x6=>k ((x6.1,x6.2.1,x6.2.2.1,x6.2.2.2.1,x6.2.2.2.2.1,()),x6.2.2.2.2.2.1,x3,(x6.2.2.2.2.2.2.1,x6.2.2.2.2.2.2.2.1,x6.2.2.2.2.2.2.2.2.1,x6.2.2.2.2.2.2.2.2.2.1,()),x4,x5,()) 0) FUEL 0 (by omega) (by rw [Ai]; omega);exact h
def zi7 (a:List Int):Cfg:=(1+a.getD 0 0 % 6,a.getD 1 0 % (1+a.getD 0 0 % 6+1),a.getD 2 0 % (1+a.getD 0 0 % 6 - a.getD 1 0 % (1+a.getD 0 0 % 6+1)+1),1+a.getD 3 0 % 64,1+a.getD 4 0 % 6,())
theorem conf_ok {x y z u v:Int} (h1:1≤x∧x≤6) (h2:0≤y∧y≤x) (h3:0≤z∧z≤x - y) (h4:1≤u∧u≤64) (h5:1≤v∧v≤6):cfgS (x,y,z,u,v,())=true:=by
 unfold cfgS;simp only [decide_eq_true_eq];omega
theorem zhb (a:List Int):cfgS (zi7 a)=true∧(zi7 a).1≤6∧(zi7 a).2.2.2.2.1≤6:=by
 unfold zi7;generalize a.getD 0 0=a0;generalize a.getD 1 0=a1;generalize a.getD 2 0=a2;generalize a.getD 3 0=a3;generalize a.getD 4 0=a4;have h0:0≤a0 % 6∧a0 % 6<6:=by omega
 generalize a0 % 6=x at h0;have m1:=Int.emod_nonneg a1 (show (1+x+1)≠0 by omega);have m2:=Int.emod_lt_of_pos a1 (show 0<(1+x+1) by omega);generalize a1 % (1+x+1)=y at m1 m2;have m3:=Int.emod_nonneg a2 (show (1+x - y+1)≠0 by omega);have m4:=Int.emod_lt_of_pos a2 (show 0<(1+x - y+1) by omega);generalize a2 % (1+x - y+1)=z at m3 m4;have h3:0≤a3 % 64∧a3 % 64<64:=by omega
 generalize a3 % 64=u at h3;have h4:0≤a4 % 6∧a4 % 6<6:=by omega
 generalize a4 % 6=v at h4;exact ⟨conf_ok (by omega) (by omega) (by omega) (by omega) (by omega),(show 1+x≤6 by omega),(show 1+v≤6 by omega)⟩
theorem w64 {x:Int} (h0:0≤x) (h1:x≤100000):IntKind.i64.wrap x=x:=wrap_i64 (by omega) (by omega)
theorem F12_eq (R:Type) {a:List Int} (h:AllU8 a) (k:Cfg→Option R):F12 R a k=k (zi7 a):=by
 have u:∀i,0≤a.getD i 0∧a.getD i 0<256:=fun i=>As (p:=U8) h (by unfold U8; omega) i
 have u0:=u 0; have u1:=u 1; have u2:=u 2; have u3:=u 3; have u4:=u 4;unfold F12 p12;dsimp only;unfold zi7;generalize a.getD 0 0=a0 at u0;generalize a.getD 1 0=a1 at u1;generalize a.getD 2 0=a2 at u2;generalize a.getD 3 0=a3 at u3;generalize a.getD 4 0=a4 at u4;rw [Int.tmod_eq_emod_of_nonneg u0.1,Int.tmod_eq_emod_of_nonneg u3.1,Int.tmod_eq_emod_of_nonneg u4.1];have h0:0≤a0 % 6∧a0 % 6<6:=by omega
 generalize a0 % 6=x at h0;have h3:0≤a3 % 64∧a3 % 64<64:=by omega
 generalize a3 % 64=v at h3;have h4:0≤a4 % 6∧a4 % 6<6:=by omega
 generalize a4 % 6=w at h4;rw [w64 (x:=x) (by omega) (by omega),w64 (x:=1+x) (by omega) (by omega),w64 (x:=v) (by omega) (by omega),w64 (x:=1+v) (by omega) (by omega),w64 (x:=w) (by omega) (by omega),w64 (x:=1+w) (by omega) (by omega),w64 (x:=a1) (by omega) (by omega),w64 (x:=1+x+1) (by omega) (by omega)];have z1:(!(1+x+1==0))=true:=by rw [Ax (by omega)]; rfl
 simp only [z1];have m0:Int.tmod a1 (1+x+1)=a1 % (1+x+1):=Int.tmod_eq_emod_of_nonneg u1.1;have m1:=Int.emod_nonneg a1 (show (1+x+1)≠0 by omega);have m2:=Int.emod_lt_of_pos a1 (show 0<(1+x+1) by omega);rw [m0];generalize a1 % (1+x+1)=y at m1 m2;rw [w64 (x:=a2) (by omega) (by omega),w64 (x:=1+x - y) (by omega) (by omega),w64 (x:=1+x - y+1) (by omega) (by omega)];have z2:(!(1+x - y+1==0))=true:=by rw [Ax (by omega)]; rfl
 simp only [z2];have m3:Int.tmod a2 (1+x - y+1)=a2 % (1+x - y+1):=Int.tmod_eq_emod_of_nonneg u2.1;rw [m3]
theorem new_ok {c:Cfg} (hc:cfgS c=true) {a:List Int} (ha:H32 a):LOK c 0 (newS c a):=by
 have hr:=B3 hc;refine ⟨rfl,hc,⟨by simp [newS],by simp only [newS]; omega⟩,fun v hv=>(by cases hv),by simp [newS],by simp [newS,Az,totS,sumS],by simp [newS,Am,totS,sumS],⟨by simp [newS],ha,A7,nilOK⟩,by simp [newS],by simp [newS]; omega,fun i _ hp=>?_,by simp [newS]⟩;exact absurd rfl hp
end Go.PG
namespace Go.PG
structure LW (l:Led):Prop where
 vals:VsOK l.2.2.1
 vlen:l.2.2.1.length≤1000
 bea:Ed l.2.2.2.1
 blen:l.2.2.2.1.2.2.2.1.length≤1000
 llen:l.2.2.2.2.1.length≤2000
 mlen:l.2.2.2.2.2.1.length≤2000
theorem LOK.lw {c:Cfg} {n:Nat} {l:Led} (h:LOK c n l) (hn:n≤100):LW l:=by
 have h1:=h.vlen; have h2:=h.blen; have h3:=h.llen; have h4:=B3 h.right; have h5:=h.miss;exact ⟨h.vals,by omega,h.bea,by omega,by omega,by omega⟩
theorem zLed_lw:LW zLed:=⟨fun v hv=>(by cases hv),by simp,Wg,by simp,by simp,by simp⟩
def Zw (a b:Led):Bool:=Kd.eqv Kq21 a.1 b.1&&((a.2.1==b.2.1)&&(decide (a.2.2.1=b.2.2.1)&&(U5 a.2.2.2.1 b.2.2.2.1&&(decide (a.2.2.2.2.1=b.2.2.2.2.1)&&decide (a.2.2.2.2.2.1=b.2.2.2.2.2.1)))))
theorem eqv_cfg (c:Cfg):Kd.eqv Kq21 c c=true:=by
 show ((c.1==c.1)&&((c.2.1==c.2.1)&&((c.2.2.1==c.2.2.1)&&((c.2.2.2.1==c.2.2.2.1)&&((c.2.2.2.2.1==c.2.2.2.2.1)&&true)))))=true;simp
theorem Sp (l:Led):Zw l l=true:=by
 unfold Zw;rw [eqv_cfg,ziy];simp
theorem F11_eq (R:Type) {a b:Led} (ha:LW a) (hb:LW b) (k:Bool→Option R):F11 R a b k=k (Zw a b):=by
 have h1:=ha.llen; have h2:=ha.mlen;simp only [F11,p11,F29_eq R ha.vals hb.vals ha.vlen,F30_eq R ha.bea hb.bea ha.blen,zhw R a.2.2.2.2.1 b.2.2.2.2.1 (by omega),zhw R a.2.2.2.2.2.1 b.2.2.2.2.2.1 (by omega)];unfold Zw;cases Kd.eqv Kq21 a.1 b.1<;>cases (a.2.1==b.2.1)<;>cases decide (a.2.2.1=b.2.2.1)<;>cases U5 a.2.2.2.1 b.2.2.2.1<;>cases decide (a.2.2.2.2.1=b.2.2.2.2.1)<;>rfl
theorem G41_eq (R:Type) {a b:List Int} (hl:a.length=b.length) (hn:a.length≤2000) (k0:Bool→Option R) (k1:Option R):∀(m i:Nat),i≤a.length→a.length - i<m→
  zdg m R a b (a.length:Int) (i:Int) k0 k1=if a.drop i=b.drop i then k1 else k0 false
 | 0,i,_,h=>by omega
 | m+1,i,h1,h2=>by
  simp only [zdg,p41_4]
  by_cases hi:i<a.length
  ·have hib:i<b.length:=by omega
   have ih:=G41_eq R hl hn k0 k1 m (i+1) (by omega) (by omega);have w:IntKind.i64.wrap ((i:Int)+1)=((i+1:Nat):Int):=by rw [wrap_i64 (by omega) (by omega)]; omega
   simp only [By hi,Ap hi,Ap hib,Int.toNat_natCast,w];rw [ih,List.drop_eq_getElem_cons hi,List.drop_eq_getElem_cons hib];have g1:a.getD i 0=a[i]:=by simp [hi]
   have g2:b.getD i 0=b[i]:=by simp [hib]
   rw [g1,g2]
   by_cases e:a[i]=b[i]
   ·have:(a[i] !=b[i])=false:=by simp [e]
    simp only [this];simp only [e,List.cons.injEq,true_and]
   ·have:(a[i] !=b[i])=true:=by simpa using e
    simp only [this];simp only [List.cons.injEq,e,false_and,if_false]
  ·have:i=a.length:=by omega
   subst this;simp only [Bd];rw [List.drop_length,hl,List.drop_length,if_pos rfl]
theorem F41_eq (R:Type) {a b:List Int} (hn:a.length≤2000) (k:Bool→Option R):F41 R a b k=k (decide (a=b)):=by
 simp only [F41,p41]
 by_cases hl:a.length=b.length
 ·have e:((a.length:Int) !=(b.length:Int))=false:=by simp [hl]
  simp only [e];refine (G41_eq R hl hn (fun x4=>k x4) (k true) FUEL 0 (by omega) (by rw [Ai]; omega)).trans ?_;rw [List.drop_zero,List.drop_zero]
  by_cases h:a=b
  ·rw [if_pos h,decide_eq_true h]
  ·rw [if_neg h,decide_eq_false h]
 ·have e:((a.length:Int) !=(b.length:Int))=true:=by simp; omega
  have h:a≠b:=fun h=>hl (by rw [h])
  simp only [e,decide_eq_false h]
theorem zs3 (R:Type) {a b:Led} (ha:LW a) (hb:LW b) (k:Bool→Option R):F16 R a b k=k (Zw a b):=by
 simp only [F16,p16,F39_eq R ha.vals hb.vals ha.vlen,F40_eq R ha.bea hb.bea ha.blen,F41_eq R ha.llen,F41_eq R ha.mlen];unfold Zw;cases Kd.eqv Kq21 a.1 b.1<;>cases (a.2.1==b.2.1)<;>cases decide (a.2.2.1=b.2.2.1)<;>cases U5 a.2.2.2.1 b.2.2.2.1<;>cases decide (a.2.2.2.2.1=b.2.2.2.2.1)<;>rfl
def AnOK (a:An):Prop:=a.2.2.1.length≤1000∧a.2.2.2.1.length=32
theorem F15_self (R:Type) {a:An} (h:AnOK a) (k:Bool→Option R):F15 R a a k=k true:=by
 have e1:Kd.eqv (.arr 32 (.int .u8)) a.2.2.2.1 a.2.2.2.1=true:=(A3 h.2 h.2).trans (decide_eq_true rfl);have h1:=h.1;simp only [F15,p15,beq_self_eq_true,zhw R a.2.2.1 a.2.2.1 (by omega),decide_true,e1]
theorem El (e:Int):AnOK (badS e):=⟨by simp [badS],rfl⟩
theorem zgs (e:Int):AnOK (okS e):=⟨by simp [okS],rfl⟩
section
variable {c:Cfg} {n:Nat} {l:Led}
theorem zvs (a:List Int) (slot c m:Int) (l:List Int):(sitS a slot c m l).1.length≤1000:=by
 unfold sitS;split
 ·have:=comL_len l c (srcS a 3 slot) m
  show (comL _ _ _ _).1.length≤1000;omega
 ·simp
theorem ask_an (h:LOK c n l) (o:OpT):AnOK (askS l o):=by
 unfold askS;split
 ·split
  ·exact zgs _
  ·exact El _
 ·split
  ·exact ⟨by simp,h.bea.seed.1⟩
  ·split
   ·exact El _
   ·split
    ·split
     ·exact El _
     ·split
      ·exact ⟨by simp,rfl⟩
      ·exact El _
    ·split
     ·split
      ·exact ⟨by simp,rfl⟩
      ·exact El _
     ·split
      ·exact ⟨zvs _ _ _ _ _,rfl⟩
      ·exact El _
theorem do_an (h:LOK c n l) (hn:n≤100) (o:OpT):AnOK (doS l o).2:=by
 have hm:∀r,AnOK (B9 l r).2:=fun r=>by
  unfold B9;split
  ·exact zgs _
  ·exact El _
 have hs:∀r,AnOK (Gb l r).2:=fun r=>by
  unfold Gb;split
  ·exact zgs _
  ·exact El _
 unfold doS;split
 ·split
  ·exact hm _
  ·split
   ·exact hm _
   ·split
    ·exact hm _
    ·split
     ·split
      ·exact hs _
      ·exact El _
     ·split
      ·split
       ·exact hs _
       ·exact El _
      ·split
       ·unfold advS
        split
        ·split
         ·have:=X3 l.2.2.2.1
          have hb:=h.blen;exact ⟨by simp only []; omega,(Qr h.bea).1.1⟩
         ·exact El _
        ·exact zgs _
       ·exact ask_an h o
 ·exact El _
def Ly:Led→List OpT→Led×List An
 | l,[]=>(l,[])
 | l,o::r=>((Ly (doS l o).1 r).1,(doS l o).2::(Ly (doS l o).1 r).2)
theorem zkp:∀(r:List OpT) {l:Led} {n:Nat},LOK c n l→n+r.length≤100→(∀o∈r,OpOK o)→LOK c (n+r.length) (Ly l r).1
 | [],l,n,h,_,_=>h
 | o::r,l,n,h,hn,ho=>by
  have:=zkp r (do_ok h (by simp at hn; omega) (ho o (by simp))) (by simp at hn; omega) (fun x hx=>ho x (by simp [hx]));simp only [Ly,List.length_cons]
  rwa [show n+(r.length+1)=n+1+r.length by omega]
theorem zny {ops:List OpT} {i:Nat} (hi:i<ops.length):ops.getD i zO=ops[i]:=by simp [hi]
theorem G17_eq (R:Type) {ops:List OpT} (ho:∀o∈ops,OpOK o) (x5:Led) (k0:Led→Led→List An→Option R):∀(m i:Nat) {n:Nat} (l:Led) (acc:List An),LOK c n l→n+(ops.length - i)≤100→acc.length+(ops.length - i)≤1000→i≤ops.length→ops.length≤1000→ops.length - i<m→
  zdq m R ops (ops.length:Int) (i:Int) l x5 acc k0=k0 (Ly l (ops.drop i)).1 x5 (acc++(Ly l (ops.drop i)).2)
 | 0,i,n,l,acc,_,_,_,_,_,h=>by omega
 | m+1,i,n,l,acc,h,hn,ha,h1,hL,h2=>by
  simp only [zdq,p17_3]
  by_cases hi:i<ops.length
  ·have hoi:=ho _ (List.getElem_mem hi)
   have ih:=G17_eq R ho x5 k0 m (i+1) (n:=n+1) (doS l ops[i]).1 (acc++[(doS l ops[i]).2]) (do_ok h (by omega) hoi) (by omega) (by simp; omega) (by omega) hL (by omega);have c1:decide (acc.length+[(doS l ops[i]).2].length≤1954687338268)=true:=by simp; omega
   rw [List.drop_eq_getElem_cons hi];simp only [By hi,Ap hi,Int.toNat_natCast,A2 hi hL,zny hi,F13_eq R h (show n≤100 by omega) hoi,c1];rw [ih];simp only [Ly,List.append_assoc,List.cons_append,List.nil_append]
  ·have:i=ops.length:=by omega
   subst this;simp only [Bd,List.drop_length,Ly,List.append_nil]
theorem F17_eq (R:Type) (h:LOK c n l) {ops:List OpT} (ho:∀o∈ops,OpOK o) (hn:n+ops.length≤100) (k:Led→List An→Option R):F17 R l ops k=k (Ly l ops).1 (Ly l ops).2:=by
 simp only [F17,p17];have:=G17_eq R ho zLed (fun x2 x3 x4=>k x2 x4) FUEL 0 l [] h (by omega) (by simp; omega) (by omega) (by omega) (by rw [Ai]; omega);rw [List.drop_zero,List.nil_append] at this;exact this
end
end Go.PG
set_option maxRecDepth 100000
namespace Go.PG
abbrev lvC:Cfg:=((2:Int),(1:Int),(1:Int),(64:Int),(1:Int),())
abbrev lvZ:List Int:=List.replicate 32 (0:Int)
abbrev lvD:List Int:=Zv lvZ 0 bV
abbrev lo1:OpT:=((1:Int),(0:Int),(5:Int),bV,(0:Int),())
abbrev lo2:OpT:=((4:Int),(0:Int),(0:Int),SHA bV,(0:Int),())
abbrev lo3:OpT:=((5:Int),(0:Int),(0:Int),bV,(0:Int),())
abbrev lo4:OpT:=((7:Int),(0:Int),(0:Int),lvZ,(0:Int),())
abbrev lo5:OpT:=((6:Int),(0:Int),(0:Int),lvZ,(0:Int),())
abbrev lo8:OpT:=((7:Int),(0:Int),(0:Int),lvZ,(1:Int),())
abbrev lo9:OpT:=((10:Int),(0:Int),(0:Int),lvZ,(0:Int),())
abbrev loA:OpT:=((0:Int),(0:Int),(0:Int),lvZ,(99:Int),())
abbrev loB:OpT:=((7:Int),(0:Int),(0:Int),lvZ,(2:Int),())
abbrev lvO:List OpT:=[lo1,lo2,lo3,lo4,lo5,lo3,lo5,lo8,lo9,loA,loB]
abbrev lv0:Led:=newS lvC lvZ
abbrev lv1:Led:=(lvC,(0:Int),[(bV,(0:Int),(5:Int),())],((0:Int),lvZ,lvZ,[],()),[(-1:Int),(-1:Int)],[],())
abbrev lv2:Led:=(lvC,(0:Int),[(bV,(0:Int),(5:Int),())],((0:Int),lvZ,lvZ,[((0:Int),SHA bV,false,lvZ,())],()),[(-1:Int),(-1:Int)],[],())
abbrev lv3:Led:=(lvC,(1:Int),[(bV,(0:Int),(5:Int),())],((0:Int),lvZ,lvZ,[((0:Int),SHA bV,false,lvZ,())],()),[(-1:Int),(-1:Int)],[],())
abbrev lv4:Led:=(lvC,(1:Int),[(bV,(0:Int),(5:Int),())],((0:Int),lvZ,bV,[((0:Int),SHA bV,true,bV,())],()),[(-1:Int),(-1:Int)],[],())
abbrev lv5:Led:=(lvC,(0:Int),[(bV,(5:Int),(5:Int),())],((1:Int),lvD,lvZ,[],()),[(0:Int),(0:Int)],[],())
theorem lvs0:doS lv0 lo1=(lv1,okS 0):=by kernel_rfl
theorem lvs1:doS lv1 lo2=(lv2,okS 0):=by kernel_rfl
theorem lvs2:doS lv2 lo3=(lv2,badS 7):=by kernel_rfl
theorem lvs3:doS lv2 lo4=(lv2,badS 10):=by kernel_rfl
theorem lvs4:doS lv2 lo5=(lv3,okS 1):=by kernel_rfl
theorem lvs5:doS lv3 lo3=(lv4,okS 0):=by kernel_rfl
theorem lvs6:doS lv4 lo5=(lv5,((0:Int),(0:Int),[],lvD,())):=by kernel_rfl
theorem lvs7:doS lv5 lo8=(lv5,((0:Int),(0:Int),[(0:Int)],lvZ,())):=by kernel_rfl
theorem lvs8:doS lv5 lo9=(lv5,okS 5):=by kernel_rfl
theorem lvs9:doS lv5 loA=(lv5,badS 2):=by kernel_rfl
theorem lvs10:doS lv5 loB=(lv5,badS 3):=by kernel_rfl
abbrev lvA:List An:=[okS 0,okS 0,badS 7,badS 10,okS 1,okS 0,((0:Int),(0:Int),[],lvD,()),((0:Int),(0:Int),[(0:Int)],lvZ,()),okS 5,badS 2,badS 3]
theorem lvP:Ly lv0 lvO=(lv5,lvA):=by
 simp only [Ly,lvs0,lvs1,lvs2,lvs3,lvs4,lvs5,lvs6,lvs7,lvs8,lvs9,lvs10]
theorem lvW:Zw lv5 zLed=false:=by kernel_rfl
theorem lvD_ok:H32 lvD:=Yg _
theorem lvO_ok:∀o∈lvO,OpOK o:=by
 have a:∀{k n x:Int} {h:List Int},0≤k∧k≤100→0≤n∧n≤100→0≤x∧x≤100→H32 h→OpOK (k,(0:Int),x,h,n,()):=fun h1 h2 h3 h4=>⟨by unfold I64; simp only; omega,by unfold I64; simp only; omega,by unfold U64; simp only; omega,h4,by unfold I64; simp only; omega⟩
 intro o ho;have z:=A7;simp only [lvO,List.mem_cons,List.not_mem_nil,or_false] at ho;rcases ho with h | h | h | h | h | h | h | h | h | h | h<;>rw [h]
 ·exact a (by omega) (by omega) (by omega) zo5
 ·exact a (by omega) (by omega) (by omega) (Yg _)
 ·exact a (by omega) (by omega) (by omega) zo5
 ·exact a (by omega) (by omega) (by omega) z
 ·exact a (by omega) (by omega) (by omega) z
 ·exact a (by omega) (by omega) (by omega) zo5
 ·exact a (by omega) (by omega) (by omega) z
 ·exact a (by omega) (by omega) (by omega) z
 ·exact a (by omega) (by omega) (by omega) z
 ·exact a (by omega) (by omega) (by omega) z
 ·exact a (by omega) (by omega) (by omega) z
end Go.PG
namespace Go.PG
section
variable {c:Cfg} {n:Nat} {l:Led}
end
end Go.PG
set_option maxRecDepth 100000
namespace Go.PG
theorem G8_ok (R:Type) (l:Led) (v:List Int) (k0:Bool→Option R) (k1:List An→Led→List Int→Option R):
  zc5 FUEL R lvA [(0:Int),(0:Int),(7:Int),(10:Int),(0:Int),(0:Int),(0:Int),(0:Int),(0:Int),(2:Int),(3:Int)] 0 l v k0 k1=k1 lvA l v:=by
 obtain ⟨m,hm⟩:=It 12 (by omega);rw [hm]
 kernel_rfl
theorem F8_eq (R:Type) (k:Bool→Option R):F8 R k=k true:=by
 have hz:cfgS lvC=true:=by decide
 have hw:cfgS ((0:Int),(0:Int),(0:Int),(0:Int),(0:Int),())=false:=by decide
 have h0:LOK lvC 0 lv0:=new_ok hz A7;have h5:LOK lvC 11 (Ly lv0 lvO).1:=zkp lvO h0 (by decide) lvO_ok;rw [lvP] at h5;have hl:LW lv5:=h5.lw (by omega);have e1:F17 R lv0 lvO=fun k=>k lv5 lvA:=funext fun k=>by rw [F17_eq R h0 lvO_ok (by decide),lvP]
 have e2:F24 R lvZ 0 bV=fun k=>k lvD:=funext fun k=>F24_eq R A7 zo5 (by omega) k
 have e3:F16 R lv5 lv5=fun k=>k true:=funext fun k=>by rw [zs3 R hl hl,Sp]
 have e4:F16 R lv5 zLed=fun k=>k false:=funext fun k=>by rw [zs3 R hl zLed_lw,lvW]
 have e5:F23 R bV=fun k=>k (SHA bV):=funext fun k=>zst R zo5 k
 have e6:F9 R lvC lvZ=fun k=>k lv0 0:=funext fun k=>by rw [F9_eq,if_pos hz]
 have e7:F9 R ((0:Int),(0:Int),(0:Int),(0:Int),(0:Int),()) lvZ=fun k=>k zLed 1:=funext fun k=>by rw [F9_eq,if_neg (by rw [hw]; decide)]
 have e8:F20 R [(0:Int)] [(0:Int)]=fun k=>k true:=funext fun k=>by rw [zhw R _ _ (by decide)]; rfl
 have e9:Kd.eqv (.arr 32 (.int .u8)) lvD lvD=true:=(A3 lvD_ok.1 lvD_ok.1).trans (decide_eq_true rfl);unfold F8 p8;dsimp only;rw [e6,e7,e5];dsimp only;rw [e1];dsimp only;have:∀(k0:Bool→Option R) (k1:List An→Led→List Int→Option R),zc5 FUEL R lvA [(0:Int),(0:Int),(7:Int),(10:Int),(0:Int),(0:Int),(0:Int),(0:Int),(0:Int),(2:Int),(3:Int)] 0 lv5 bV k0 k1=k1 lvA lv5 bV:=G8_ok R lv5 bV;rw [show ((0:Int) !=0)=false from rfl,show ((1:Int) !=1)=false from rfl,show ((lvA.length:Int) !=(lvO.length:Int))=false from rfl];dsimp only;rw [this];dsimp only;rw [show bnd (4:Int) (lvA.length:Int)=true from rfl]
 dsimp only;rw [show ((List.getD lvA 4 ((0:Int),(0:Int),([]:(List Int)),(List.replicate 32 (0:Int)),())).2.1==(1:Int))=true from rfl];dsimp only;rw [show bnd (6:Int) (lvA.length:Int)=true from rfl];dsimp only;rw [show (List.getD lvA 6 ((0:Int),(0:Int),([]:(List Int)),(List.replicate 32 (0:Int)),()))=((0:Int),(0:Int),[],lvD,()) from rfl];dsimp only;rw [show ((0:Int)==0)=true from rfl];dsimp only;rw [e2];dsimp only;rw [e9];dsimp only;rw [show bnd (7:Int) (lvA.length:Int)=true from rfl];dsimp only
 rw [show (List.getD lvA 7 ((0:Int),(0:Int),([]:(List Int)),(List.replicate 32 (0:Int)),())).2.2.1=[(0:Int)] from rfl,e8];dsimp only;rw [show bnd (8:Int) (lvA.length:Int)=true from rfl];dsimp only;rw [show ((List.getD lvA 8 ((0:Int),(0:Int),([]:(List Int)),(List.replicate 32 (0:Int)),())).2.1==(5:Int))=true from rfl];dsimp only;rw [show ((1:Int)==1)=true from rfl,show ((([]:List Int).length:Int)==0)=true from rfl];dsimp only;rw [e3];dsimp only;rw [e4];rfl
end Go.PG
namespace Go.PG
theorem fit_op {o:OpT} (h:Fit Kq13 o):OpOK o:=⟨fit_i h.1,fit_i h.2.1,(by have:=fit_u64 h.2.2.1; unfold U64; omega),fit_h32 h.2.2.2.1,fit_i h.2.2.2.2.1⟩
theorem G4_eq' (R:Type) {c:Cfg} {ops:List OpT} (ho:∀o∈ops,OpOK o) (hL:ops.length≤50) (k0:Bool→Option R) (k1:Option R):∀(m i:Nat) {n:Nat} (l:Led),LOK c n l→n+(ops.length - i)≤99→i≤ops.length→ops.length - i<m→
  G4_8 m R ops (i:Int) l l k0 k1=k1
 | 0,i,n,l,_,_,_,h=>by omega
 | m+1,i,n,l,h,hn,h1,h2=>by
  simp only [G4_8,p4_8]
  by_cases hi:i<ops.length
  ·have hoi:=ho _ (List.getElem_mem hi)
   have h':=do_ok h (by omega) hoi;have ih:=G4_eq' R ho hL k0 k1 m (i+1) (n:=n+1) (doS l ops[i]).1 h' (by omega) (by omega) (by omega);have w1:=h.lw (show n≤100 by omega);have w2:=h'.lw (show n+1≤100 by omega);simp only [By hi,Ap hi,Int.toNat_natCast,A2 hi (show ops.length≤1000 by omega),zny hi,F13_eq R h (show n≤100 by omega) hoi,F14_eq R h (show n≤100 by omega) hoi,F11_eq R w2 w2,F11_eq R w1 w2,zs3 R w1 w2,F15_self R (do_an h (show n≤100 by omega) ops[i]),Sp,Bool.not_true,beq_self_eq_true];exact ih
  ·have:i=ops.length:=by omega
   subst this;simp only [Bd]
theorem F4_eq' (R:Type) {a:List Int} (ha:AllU8 a) {s:List Int} (hs:H32 s) {ops:List OpT} (ho:∀o∈ops,OpOK o) (k:Bool→Option R):F4 R a s ops k=k true:=by
 simp only [F4,p4,F8_eq,Bool.not_true]
 by_cases hL:(ops.length:Int)>50
 ·simp only [decide_eq_true hL]
 ·simp only [decide_eq_false hL,F12_eq R ha,F9_eq,F10_eq,(zhb a).1,if_true]
  exact G4_eq' R ho (by omega) (fun x=>k x) (k true) FUEL 0 (n:=0) _ (new_ok (zhb a).1 hs) (by omega) (by omega) (by rw [Ai]; omega)
abbrev b1:List Int:=List.set (List.replicate 32 (0:Int)) 0 (1:Int)
end Go.PG
end
