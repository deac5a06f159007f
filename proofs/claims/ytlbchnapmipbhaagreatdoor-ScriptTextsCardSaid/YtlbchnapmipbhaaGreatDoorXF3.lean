/- A part of the proof; no condition of its own. -/
import Derived.Test.YtlbchnapmipbhaaGreatDoorXF2
import Derived.ProofKit
import Derived.OpenShut
import Derived.ChangeKeysEq
import Derived.Laws.Externs
set_option linter.unusedVariables false
set_option linter.unusedSimpArgs false
set_option linter.unusedSectionVars false
open Go.IntKind (i64 u64 u8 u32 u16)
open List (replicate)
theorem Cs:type_of% @_root_.List.length_drop:=@_root_.List.length_drop
theorem Ct:type_of% @_root_.Nat.zero_le:=@_root_.Nat.zero_le
noncomputable section
namespace Go.PG
abbrev Ins:=List (Bool×Kd)
def AT:Ins->Type
 | []=>Unit
 | (_,k)::l=>k.T×AT l
def avs:(l:Ins)->AT l->List AV
 | [],_=>[]
 | (b,k)::l,x=>(match b with | true=>.ptr k x.1 | false=>.val k x.1)::avs l x.2
def asA:(l:Ins)->List AV->Option (AT l)
 | [],[]=>some ()
 | (b,k)::l,a::as=>match b,a with
  | true,.ptr k' x=>match TV.as ⟨k',x⟩ k,asA l as with
   | some y,some z=>some (y,z)
   | _,_=>none
  | false,.val k' x=>match TV.as ⟨k',x⟩ k,asA l as with
   | some y,some z=>some (y,z)
   | _,_=>none
  | _,_=>none
 | _,_=>none
def RT1:Bool->Kd->Type
 | true,e=>List e.T
 | false,k=>k.T
def RT:Ins->Type
 | []=>Unit
 | (b,k)::l=>RT1 b k×RT l
def rv1:(b:Bool)->(k:Kd)->RT1 b k->RV
 | true,e,x=>.own e x
 | false,k,x=>.val k x
def rvs:(l:Ins)->RT l->List RV
 | [],_=>[]
 | (b,k)::l,x=>rv1 b k x.1::rvs l x.2
def as1:(b:Bool)->(k:Kd)->RV->Option (RT1 b k)
 | true,e,.own e' l=>TV.as ⟨.sl e',l⟩ (.sl e)
 | false,k,.val k' x=>TV.as ⟨k',x⟩ k
 | _,_,_=>none
def asR:(l:Ins)->List RV->Option (RT l)
 | [],[]=>some ()
 | (b,k)::l,a::as=>match as1 b k a,asR l as with
  | some y,some z=>some (y,z)
  | _,_=>none
 | _,_=>none
def PT1:Bool->Kd->Type->Type
 | true,k,α=>k.T×α
 | false,_,α=>α
def PT:Ins->Type
 | []=>Unit
 | (b,k)::l=>PT1 b k (PT l)
def tvs:(l:Ins)->PT l->List TV
 | [],_=>[]
 | (true,k)::l,x=>⟨k,x.1⟩::tvs l x.2
 | (false,_)::l,x=>tvs l x
def asP1 {α:Type} (b:Bool) (k:Kd) (as:List TV) (rest:List TV->Option α):Option (PT1 b k α):=
 match b,as with
 | false,as=>rest as
 | true,[]=>none
 | true,a::as=>match TV.as a k,rest as with
  | some y,some z=>some (y,z)
  | _,_=>none
def asP:(l:Ins)->List TV->Option (PT l)
 | []=>λas=>match as with | []=>some () | _::_=>none
 | (b,k)::l=>λas=>asP1 b k as (asP l)
theorem Lu:∀{l:Ins} {as:List AV} {x:AT l},asA l as=some x->as=avs l x
 | [],[],x,_=>rfl
 | [],_::_,x,h=>by simp [asA] at h
 | (b,k)::l,[],x,h=>by simp [asA] at h
 | (true,k)::l,.ptr k' y::as,x,h=>by
  simp only [asA] at h;split at h<;>try (cases h; done)
  rename_i u v hu hv;cases h;have:=TV.as_some hu;cases this;simp only [avs]; rw [<-Lu hv]
 | (false,k)::l,.val k' y::as,x,h=>by
  simp only [asA] at h;split at h<;>try (cases h; done)
  rename_i u v hu hv;cases h;have:=TV.as_some hu;cases this;simp only [avs]; rw [<-Lu hv]
 | (true,k)::l,.val k' y::as,x,h=>by simp [asA] at h
 | (false,k)::l,.ptr k' y::as,x,h=>by simp [asA] at h
theorem ze8 {b:Bool} {k:Kd} {a:RV} {x:RT1 b k} (h:as1 b k a=some x):a=rv1 b k x:=by
 cases b with
 | true=>
  cases a with
  | val k' y=>cases h
  | own e' l=>
   have h1:(⟨.sl e',l⟩:TV)=⟨.sl k,x⟩:=TV.as_some (k:=.sl k) (x:=x) h;have h2:e'=k:=by have:=Ac Sigma.fst h1; exact Kd.sl.inj this
   subst h2;have h3:=eq_of_heq (Sigma.mk.inj h1).2;exact Ac (RV.own e') h3
 | false=>
  cases a with
  | own e' l=>cases h
  | val k' y=>
   have h1:(⟨k',y⟩:TV)=⟨k,x⟩:=TV.as_some (k:=k) (x:=x) h;have h2:k'=k:=Ac Sigma.fst h1;subst h2;have h3:=eq_of_heq (Sigma.mk.inj h1).2;exact Ac (RV.val k') h3
theorem Lt:∀{l:Ins} {as:List RV} {x:RT l},asR l as=some x->as=rvs l x
 | [],[],x,_=>rfl
 | [],_::_,x,h=>by simp [asR] at h
 | (b,k)::l,[],x,h=>by simp [asR] at h
 | (b,k)::l,a::as,x,h=>by
  simp only [asR] at h;split at h<;>try (cases h; done)
  rename_i u v hu hv;cases h;simp only [rvs]; rw [<-Lt hv,<-ze8 hu]
theorem UQ {α:Type} {k:Kd} {a:TV} {as:List TV} {rest:List TV->Option α} {x:k.T×α} (h:asP1 true k (a::as) rest=some x):TV.as a k=some x.1/\rest as=some x.2:=by
 have h':(match TV.as a k,rest as with | some y,some z=>some ((y,z):k.T×α) | _,_=>none)=some x:=h;split at h'<;>try (cases h'; done)
 rename_i u v hu hv;cases h';exact ⟨hu,hv⟩
theorem Nu:∀{l:Ins} {as:List TV} {x:PT l},asP l as=some x->as=tvs l x:=by
 intro l
 induction l with
 | nil=>intro as x h; cases as with
  | nil=>rfl
  | cons a as=>cases h
 | cons bk l ih=>
  obtain ⟨b,k⟩:=bk;intro as x h
  change asP1 b k as (asP l)=some x at h
  cases b with
  | false=>exact ih h
  | true=>
   cases as with
   | nil=>cases h
   | cons a as=>
    obtain ⟨h1,h2⟩:=UQ (x:=x) h;rw [ih h2,TV.as_some h1];rfl
structure Ent where
 f:FuncId
 ins:Ins
 outs:Ins
 F:(R:Type)->AT ins->(RT outs->PT ins->Option R)->Option R
def Ent.OK (P:Program) (e:Ent):Prop:=∀(R:Type) (x:AT e.ins) (k:RT e.outs->PT e.ins->Option R) (r:R),e.F R x k=some r->∃y p,Holds P e.f (avs e.ins x) (rvs e.outs y) (tvs e.ins p)/\k y p=some r
def En:List Ent->(R:Type)->Orc R
 | [],_=>λ_ _ _=>none
 | e::l,R=>λf as K=>match Nat.beq f e.f with
  | true=>match asA e.ins as with
   | some x=>e.F R x λy p=>K (rvs e.outs y) (tvs e.ins p)
   | none=>none
  | false=>En l R f as K
theorem Dz {P:Program} {R:Type}:∀{l:List Ent},(∀e∈l,e.OK P)->zfe P (En l R)
 | [],_=>λf as K r h=>by simp [En] at h
 | e::l,hl=>λf as K r h=>by
  simp only [En] at h;split at h
  ·rename_i hf
   have:=Aa hf;subst this;split at h<;>try (cases h; done)
   rename_i x hx;obtain ⟨y,p,h1,h2⟩:=hl e (by simp) R x _ r h;rw [Lu hx];exact ⟨_,_,h1,h2⟩
  ·exact Dz (λe he=>hl e (by simp [he])) f as K r h
structure EntF where
 f:FuncId
 g:FuncId
 ins:Ins
 outs:Ins
 F:(R:Type)->AT ins->(RT outs->PT ins->Option R)->Option R
def EntF.OK (P:Program) (e:EntF):Prop:=∀(R:Type) (x:AT e.ins) (k:RT e.outs->PT e.ins->Option R) (r:R),e.F R x k=some r->∃y p,Holds P e.f (avs e.ins x++[.fn e.g]) (rvs e.outs y) (tvs e.ins p)/\k y p=some r
def Xg (g:FuncId):List AV->Option (List AV)
 | []=>none
 | a::l=>match l with
  | []=>match a with
   | .fn f=>match Nat.beq f g with | true=>some [] | false=>none
   | _=>none
  | _::_=>match Xg g l with
   | some l'=>some (a::l')
   | none=>none
theorem Rf {g:FuncId}:∀{l l':List AV},Xg g l=some l'->l=l'++[.fn g]
 | [],_,h=>by cases h
 | [a],l',h=>by
  simp only [Xg] at h;split at h<;>try (cases h; done)
  rename_i f;split at h<;>try (cases h; done)
  rename_i hb;cases h;rw [Aa hb]; rfl
 | a::b::l,l',h=>by
  have h':(match Xg g (b::l) with | some l'=>some (a::l') | none=>none)=some l':=h;split at h'<;>try (cases h'; done)
  rename_i l2 h2;cases h';rw [Rf h2]; rfl
def Hx:List EntF->List Ent->(R:Type)->Orc R
 | [],le,R=>En le R
 | e::l,le,R=>λf as K=>match Nat.beq f e.f with
  | true=>match Xg e.g as with
   | some as'=>match asA e.ins as' with
    | some x=>e.F R x λy p=>K (rvs e.outs y) (tvs e.ins p)
    | none=>none
   | none=>Hx l le R f as K
  | false=>Hx l le R f as K
theorem F0 {P:Program} {R:Type}:∀{l:List EntF} {le:List Ent},(∀e∈l,e.OK P)->(∀e∈le,e.OK P)->zfe P (Hx l le R)
 | [],_,_,h=>Dz h
 | e::l,le,hl,hle=>λf as K r h=>by
  simp only [Hx] at h;have ih:=F0 (R:=R) (l:=l) (λe' he=>hl e' (Cf _ he)) hle;split at h
  ·rename_i hf
   have:=Aa hf;subst this;split at h
   ·rename_i as' hs
    split at h<;>try (cases h; done)
    rename_i x hx;obtain ⟨y,p,h1,h2⟩:=hl e (by simp) R x _ r h;rw [Rf hs,Lu hx];exact ⟨_,_,h1,h2⟩
   ·exact ih _ as K r h
  ·exact ih f as K r h
structure EntC where
 f:FuncId
 g:FuncId
 ck:Kd
 ins:Ins
 outs:Ins
 F:(R:Type)->AT ins->ck.T->(RT outs->PT ins->ck.T->Option R)->Option R
def EntC.OK (P:Program) (e:EntC):Prop:=∀(R:Type) (x:AT e.ins) (c:e.ck.T) (k:RT e.outs->PT e.ins->e.ck.T->Option R) (r:R),e.F R x c k=some r->
 ∃y p c',Holds P e.f (avs e.ins x++[.clo e.g e.ck c]) (rvs e.outs y) (tvs e.ins p++[⟨e.ck,c'⟩])/\k y p c'=some r
def Xh (g:FuncId) (ck:Kd):List AV->Option (List AV×ck.T)
 | []=>none
 | a::l=>match l with
  | []=>match a with
   | .clo f k x=>match Nat.beq f g,TV.as ⟨k,x⟩ ck with | true,some y=>some ([],y) | _,_=>none
   | _=>none
  | _::_=>match Xh g ck l with
   | some (l',y)=>some (a::l',y)
   | none=>none
theorem Rg {g:FuncId} {ck:Kd}:∀{l l':List AV} {y:ck.T},Xh g ck l=some (l',y)->l=l'++[.clo g ck y]
 | [],_,_,h=>by cases h
 | [a],l',y,h=>by
  simp only [Xh] at h;split at h<;>try (cases h; done)
  rename_i f k x;split at h<;>try (cases h; done)
  rename_i y' hb hy;cases h;have:=TV.as_some hy;cases this;rw [Aa hb]; rfl
 | a::b::l,l',y,h=>by
  have h':(match Xh g ck (b::l) with | some (l',y)=>some (a::l',y) | none=>none)=some (l',y):=h;split at h'<;>try (cases h'; done)
  rename_i l2 y2 h2;cases h';rw [Rg h2]; rfl
def Ov:List EntC->List EntF->List Ent->(R:Type)->Orc R
 | [],lf,le,R=>Hx lf le R
 | e::l,lf,le,R=>λf as K=>match Nat.beq f e.f with
  | true=>match Xh e.g e.ck as with
   | some (as',c)=>match asA e.ins as' with
    | some x=>e.F R x c λy p c'=>K (rvs e.outs y) (tvs e.ins p++[⟨e.ck,c'⟩])
    | none=>none
   | none=>Ov l lf le R f as K
  | false=>Ov l lf le R f as K
theorem Ou {P:Program} {R:Type}:∀{l:List EntC} {lf:List EntF} {le:List Ent},(∀e∈l,e.OK P)->(∀e∈lf,e.OK P)->(∀e∈le,e.OK P)->zfe P (Ov l lf le R)
 | [],_,_,_,h1,h2=>F0 h1 h2
 | e::l,lf,le,hl,h1,h2=>λf as K r h=>by
  simp only [Ov] at h;have ih:=Ou (R:=R) (l:=l) (λe' he=>hl e' (Cf _ he)) h1 h2;split at h
  ·rename_i hf
   have:=Aa hf;subst this;split at h
   ·rename_i as' c hs
    split at h<;>try (cases h; done)
    rename_i x hx;obtain ⟨y,p,c',g1,g2⟩:=hl e (by simp) R x c _ r h;rw [Rg hs,Lu hx];exact ⟨_,_,g1,g2⟩
   ·exact ih _ as K r h
  ·exact ih f as K r h
inductive HI where
 | val (t:Nat) (k:Kd)
 | fix (t:Nat) (s:SV)
 | var (i:Nat) (k:Kd) (sh:Bool)
 | row (i:Nat) (e:Kd) (sh:Bool)
 | mix (i:Nat) (fl:List (Kd×Option Nat))
 | map (i:Nat) (kk kv:Kd)
def MT:List (Kd×Option Nat)->Type
 | []=>Unit
 | (k,none)::l=>k.T×MT l
 | (_,some _)::l=>MT l
def isMp:Kd->Bool
 | .mp=>true
 | _=>false
def mref (k:Kd) (j:Nat):Cmp:=match isMp k with | true=>.mp j | false=>.own j 0
def mcs:(l:List (Kd×Option Nat))->MT l->List Cmp
 | [],_=>[]
 | (k,none)::l,x=>.val k x.1::mcs l x.2
 | (k,some j)::l,x=>mref k j::mcs l x
def HT:List HI->Type
 | []=>Unit
 | .val _ k::l=>k.T×HT l
 | .fix _ _::l=>HT l
 | .var _ k _::l=>k.T×HT l
 | .row _ e _::l=>List e.T×HT l
 | .mix _ fl::l=>MT fl×HT l
 | .map _ kk kv::l=>List (kk.T×kv.T)×HT l
def preT:(H:List HI)->HT H->List (Nat×SV)
 | [],_=>[]
 | .val t k::l,x=>(t,.val k x.1)::preT l x.2
 | .fix t s::l,x=>(t,s)::preT l x
 | .var _ _ _::l,x=>preT l x.2
 | .row _ _ _::l,x=>preT l x.2
 | .mix _ _::l,x=>preT l x.2
 | .map _ _ _::l,x=>preT l x.2
def preM:(H:List HI)->HT H->List (Nat×Blk)
 | [],_=>[]
 | .val _ _::l,x=>preM l x.2
 | .fix _ _::l,x=>preM l x
 | .var i k sh::l,x=>(i,.var k x.1 sh)::preM l x.2
 | .row i e sh::l,x=>(i,.row e x.1 0 sh)::preM l x.2
 | .mix i fl::l,x=>(i,.mix (fl.map (·.1)) (mcs fl x.1))::preM l x.2
 | .map i kk kv::l,x=>(i,.map kk kv x.1)::preM l x.2
def hasI:List HI->Nat->Bool
 | [],_=>false
 | .var i _ _::l,j=>match Nat.beq i j with | true=>true | false=>hasI l j
 | .row i _ _::l,j=>match Nat.beq i j with | true=>true | false=>hasI l j
 | .mix i _::l,j=>match Nat.beq i j with | true=>true | false=>hasI l j
 | .map i _ _::l,j=>match Nat.beq i j with | true=>true | false=>hasI l j
 | _::l,j=>hasI l j
def Ku:List Step->List Step->Bool
 | [],[]=>true
 | .fld i::l,.fld j::m=>Nat.beq i j&&Ku l m
 | .idx i::l,.idx j::m=>Nat.beq i j&&Ku l m
 | _,_=>false
def curV (rd:Nat->Option Blk) (j v:Nat):Bool:=
 match rd j with
 | some (.row _ _ v' _)=>Nat.beq v v'
 | _=>false
def Ud (H:List HI):List (Nat×Kd)->List (Nat×Kd)->Bool
 | [],[]=>true
 | (b,k)::l,(b',k')::l'=>Nat.beq b b'&&k.same k'&&hasI H b&&Ud H l l'
 | _,_=>false
def zdy (H:List HI) (rd:Nat->Option Blk):SV->SV->Bool
 | .nil,.nil=>true
 | .ptr b p k,.ptr b' p' k'=>Nat.beq b b'&&Ku p p'&&k.same k'&&hasI H b
 | .own j v,.own j' v'=>Nat.beq j j'&&Nat.beq v' 0&&curV rd j v&&hasI H j
 | .win j v lo n,.win j' v' lo' n'=>Nat.beq j j'&&Nat.beq v' 0&&curV rd j v&&hasI H j&&Nat.beq lo lo'&&Nat.beq n n'
 | .asl b p lo n,.asl b' p' lo' n'=>Nat.beq b b'&&Ku p p'&&hasI H b&&Nat.beq lo lo'&&Nat.beq n n'
 | .pwin b p lo n,.pwin b' p' lo' n'=>Nat.beq b b'&&Ku p p'&&hasI H b&&Nat.beq lo lo'&&Nat.beq n n'
 | .fn f,.fn f'=>Nat.beq f f'
 | .mptr b i k,.mptr b' i' k'=>Nat.beq b b'&&Nat.beq i i'&&k.same k'&&hasI H b
 | .clo f ps,.clo f' ps'=>Nat.beq f f'&&Ud H ps ps'
 | .mp j,.mp j'=>Nat.beq j j'&&hasI H j
 | .yv j,.yv j'=>Nat.beq j j'&&curV rd j 0&&hasI H j
 | _,_=>false
def Kl (H:List HI) (rd:Nat->Option Blk):List Kd->List Cmp->(fl:List (Kd×Option Nat))->Option (MT fl)
 | [],[],[]=>some ()
 | k0::fs,.val k' x::cs,(k,none)::fl=>match k0.same k,TV.as ⟨k',x⟩ k,Kl H rd fs cs fl with
  | true,some y,some z=>some (y,z)
  | _,_,_=>none
 | k0::fs,.own j v::cs,(k,some j')::fl=>match Bool.and (k0.same k) (!isMp k),Nat.beq j j',Bool.and (curV rd j v) (hasI H j),Kl H rd fs cs fl with
  | true,true,true,some z=>some z
  | _,_,_,_=>none
 | k0::fs,.mp j::cs,(k,some j')::fl=>match Bool.and (k0.same k) (isMp k),Nat.beq j j',hasI H j,Kl H rd fs cs fl with
  | true,true,true,some z=>some z
  | _,_,_,_=>none
 | _,_,_=>none
def ztu:(k:Kd)->Option k.T
 | .sl _=>some []
 | _=>none
def Lx (H0:List HI) (σ:St):(H:List HI)->Option (HT H)
 | []=>some ()
 | .val t k::l=>match tget σ.tm t with
  | .val k' x=>match TV.as ⟨k',x⟩ k with
   | some y=>match Lx H0 σ l with
    | some z=>some (y,z)
    | none=>none
   | none=>none
  | .nil=>match ztu k with
   | some y=>match Lx H0 σ l with
    | some z=>some (y,z)
    | none=>none
   | none=>none
  | _=>none
 | .fix t s::l=>match zdy H0 (mget σ.me) (tget σ.tm t) s with
  | true=>Lx H0 σ l
  | false=>none
 | .var i k sh::l=>match mget σ.me i with
  | some (.var k' x sh')=>match Bool.and (Bool.or sh (Bool.not sh')) (Bool.or (Bool.not sh) sh') with
   | true=>match TV.as ⟨k',x⟩ k with
    | some y=>match Lx H0 σ l with
     | some z=>some (y,z)
     | none=>none
    | none=>none
   | false=>none
  | _=>none
 | .row i e sh::l=>match mget σ.me i with
  | some (.row e' x _ sh')=>match Bool.and (Bool.or sh (Bool.not sh')) (Bool.or (Bool.not sh) sh') with
   | true=>match TV.as ⟨.sl e',x⟩ (.sl e) with
    | some y=>match Lx H0 σ l with
     | some z=>some (y,z)
     | none=>none
    | none=>none
   | false=>none
  | _=>none
 | .mix i fl::l=>match mget σ.me i with
  | some (.mix fs cs)=>match Kl H0 (mget σ.me) fs cs fl with
   | some y=>match Lx H0 σ l with
    | some z=>some (y,z)
    | none=>none
   | none=>none
  | _=>none
 | .map i kk kv::l=>match mget σ.me i with
  | some (.map kk' kv' m)=>match TV.as ⟨.sl (.pair kk' kv'),m⟩ (.sl (.pair kk kv)) with
   | some y=>match Lx H0 σ l with
    | some z=>some (y,z)
    | none=>none
   | none=>none
  | _=>none
def mvOK (np:Nat):List HI->Bool
 | []=>true
 | .fix _ (.own j _)::l=>Nat.ble np j&&mvOK np l
 | _::l=>mvOK np l
def IJ (σ:St) (t j:Nat):St:=
 match tget σ.tm t with
 | .own i ver=>match Nat.beq i j,mget σ.me i with
  | false,some (.row e x v false)=>match Nat.beq ver v,mget σ.me j with
   | true,none=>⟨(t,.own j 0)::σ.tm,(i,.row e [] (Nat.succ v) false)::(j,.row e x 0 false)::σ.me,σ.nx⟩
   | true,some (.row e' _ v0 _)=>match e'.same e with
    | true=>⟨(t,.own j (Nat.succ v0))::σ.tm,(i,.row e [] (Nat.succ v) false)::(j,.row e x (Nat.succ v0) false)::σ.me,σ.nx⟩
    | false=>σ
   | _,_=>σ
  | _,_=>σ
 | _=>σ
def G7 (H0:List HI):List HI->St->St
 | [],σ=>σ
 | .row i _ true::l,σ=>match mget σ.me i with
  | some (.row e' x v false)=>G7 H0 l ⟨σ.tm,(i,.row e' x v true)::σ.me,σ.nx⟩
  | _=>G7 H0 l σ
 | .val t _::l,σ=>match tget σ.tm t with
  | .own j ver=>match hasI H0 j,mget σ.me j with
   | false,some (.row e x v _)=>match Nat.beq ver v with
    | true=>G7 H0 l ⟨(t,.val (.sl e) x)::σ.tm,(j,.row e x v true)::σ.me,σ.nx⟩
    | false=>G7 H0 l σ
   | _,_=>G7 H0 l σ
  | _=>G7 H0 l σ
 | .fix t s::l,σ=>match s with
  | .own j _=>G7 H0 l (IJ σ t j)
  | _=>G7 H0 l σ
 | _::l,σ=>G7 H0 l σ
def find (H:List HI) (σ:St):Option (HT H):=Lx H (G7 H H σ) H
abbrev Exs:=List (XX×List HI)
def XX.same:XX->XX->Bool
 | .normal,.normal=>true
 | .ret,.ret=>true
 | .exit i,.exit j=>Nat.beq i j
 | _,_=>false
def KT (R:Type):Exs->Type
 | []=>Unit
 | (_,h)::l=>(HT h->Option R)×KT R l
def zoi {R:Type} (nx:Nat) (K:XX->St->Option R):(l:Exs)->KT R l
 | []=>()
 | (e,h)::l=>(λy=>K e ⟨preT h y,preM h y,nx⟩,zoi nx K l)
def disp {R:Type} (e:XX) (σ:St):(l:Exs)->KT R l->Option R
 | [],_=>none
 | (e',h)::l,k=>match XX.same e e' with
  | true=>match find h σ with
   | some y=>k.1 y
   | none=>none
  | false=>disp e σ l k.2
structure LEnt where
 id:Nat
 H:List HI
 nx:Nat
 exs:Exs
 L:(R:Type)->HT H->KT R exs->Option R
def Et:List LEnt->(R:Type)->Nat->St->(XX->St->Option R)->Option R
 | [],_=>λ_ _ _=>none
 | e::l,R=>λid σ K=>match Nat.beq id e.id with
  | true=>match find e.H σ with
   | some x=>e.L R x (zoi e.nx K e.exs)
   | none=>none
  | false=>Et l R id σ K
def P3 {R:Type} (H:List HI) (exs:Exs) (kc:HT H->Option R) (ke:KT R exs):XX->St->Option R:=λe σ=>
 match e with
 | .normal=>match find H σ with
  | some x=>kc x
  | none=>none
 | e=>disp e σ exs ke
def iter {H:List HI} {exs:Exs} (T:(R:Type)->HT H->(HT H->Option R)->KT R exs->Option R):Nat->(R:Type)->HT H->KT R exs->Option R
 | 0,_,_,_=>none
 | n+1,R,x,ke=>T R x (λx'=>iter T n R x' ke) ke
section
variable {C:Ctx} {P:Program} {pl:Nat->Plc} {S:Nat->Prop} {a:Act} {w:World}
def RstC (H:List HI) (rd:Nat->Option Blk):List Cmp->List Cmp->Prop
 | [],cs'=>cs'=[]
 | .val k x::cs,cs'=>∃l,cs'=.val k x::l/\RstC H rd cs l
 | .own j v::cs,cs'=>∃l,cs'=.own j 0::l/\curV rd j v=true/\hasI H j=true/\RstC H rd cs l
 | .junk::cs,cs'=>∃l,cs'=.junk::l/\RstC H rd cs l
 | .mp j::cs,cs'=>∃l,cs'=.mp j::l/\hasI H j=true/\RstC H rd cs l
def Rst (H:List HI) (rd:Nat->Option Blk):Blk->Blk->Prop
 | .var k x sh,b'=>b'=.var k x sh
 | .row e l _ sh,b'=>b'=.row e l 0 sh
 | .mix fs cs,b'=>∃cs',b'=.mix fs cs'/\RstC H rd cs cs'
 | .map kk kv m,b'=>b'=.map kk kv m
theorem Lm {H:List HI} {rd:Nat->Option Blk}:∀{fs:List Kd} {cs:List Cmp} {fl:List (Kd×Option Nat)} {y:MT fl},Kl H rd fs cs fl=some y->fl.map (·.1)=fs/\RstC H rd cs (mcs fl y)
 | [],[],[],_,_=>⟨rfl,rfl⟩
 | k0::fs,.val k' x::cs,(k,none)::fl,y,h=>by
  simp only [Kl] at h;split at h<;>try (cases h; done)
  rename_i y' z hs hy hz;cases h;obtain ⟨h1,h2⟩:=Lm hz;have:=TV.as_some hy;cases this;exact ⟨by rw [Cc,h1,Kd.same_eq hs],_,rfl,h2⟩
 | k0::fs,.own j v::cs,(k,some j')::fl,y,h=>by
  simp only [Kl] at h;split at h<;>try (cases h; done)
  rename_i z hs hj hb hz;cases h;obtain ⟨h1,h2⟩:=Lm hz;have:=Aa hj;subst this;rw [Ab] at hb hs;have hs2:isMp k=false:=by simpa using hs.2
  exact ⟨by rw [Cc,h1,Kd.same_eq hs.1],_,by simp only [mcs,mref,hs2],hb.1,hb.2,h2⟩
 | k0::fs,.mp j::cs,(k,some j')::fl,y,h=>by
  simp only [Kl] at h;split at h<;>try (cases h; done)
  rename_i z hs hj hb hz;cases h;obtain ⟨h1,h2⟩:=Lm hz;have:=Aa hj;subst this;rw [Ab] at hs;exact ⟨by rw [Cc,h1,Kd.same_eq hs.1],_,by simp only [mcs,mref,hs.2],hb,h2⟩
 | [],[],_::_,_,h=>by simp [Kl] at h
 | [],_::_,_,_,h=>by simp [Kl] at h
 | _::_,[],_,_,h=>by simp [Kl] at h
 | _::_,.val _ _::_,[],_,h=>by simp [Kl] at h
 | _::_,.val _ _::_,(_,some _)::_,_,h=>by simp [Kl] at h
 | _::_,.own _ _::_,[],_,h=>by simp [Kl] at h
 | _::_,.own _ _::_,(_,none)::_,_,h=>by simp [Kl] at h
 | _::_,.junk::_,_,_,h=>by simp [Kl] at h
 | _::_,.mp _::_,[],_,h=>by simp [Kl] at h
 | _::_,.mp _::_,(_,none)::_,_,h=>by simp [Kl] at h
theorem Jk:∀{p q:List Step},Ku p q=true->p=q
 | [],[],_=>rfl
 | [],.fld _::_,h=>by cases h
 | [],.idx _::_,h=>by cases h
 | .fld i::l,[],h=>by cases h
 | .idx i::l,[],h=>by cases h
 | .fld i::l,.fld j::m,h=>by
  simp only [Ku,Ab] at h;rw [Aa h.1,Jk h.2]
 | .idx i::l,.idx j::m,h=>by
  simp only [Ku,Ab] at h;rw [Aa h.1,Jk h.2]
 | .fld i::l,.idx j::m,h=>by cases h
 | .idx i::l,.fld j::m,h=>by cases h
theorem zrd {sh sh':Bool} (h:Bool.and (Bool.or sh (Bool.not sh')) (Bool.or (Bool.not sh) sh')=true):sh'=sh:=by
 revert h; cases sh<;>cases sh'<;>decide
def Aad (H0:List HI) (σ:St) (sv s:SV):Prop:=s=.dead\/(∃k x,s=.val k x/\sv=.val k x)\/(∃e,s=.val (.sl e) ([]:List e.T)/\sv=.nil)\/zdy H0 (mget σ.me) sv s=true
theorem Gf {H0:List HI} {σ:St}:∀{H:List HI} {x:HT H},Lx H0 σ H=some x->
  (∀t,Aad H0 σ (tget σ.tm t) (tget (preT H x) t))/\(∀i b',mget (preM H x) i=some b'->∃b,mget σ.me i=some b/\Rst H0 (mget σ.me) b b')/\(∀i,hasI H i=true->∃b',mget (preM H x) i=some b')
 | [],x,_=>⟨λ_=>.inl rfl,λ_ _ h=>(by cases h),λ_ h=>(by cases h)⟩
 | .val t k::l,x,h=>by
  simp only [Lx] at h;split at h<;>try (cases h; done)
  ·rename_i k' y ht
   split at h<;>try (cases h; done)
   rename_i y' hy;split at h<;>try (cases h; done)
   rename_i z hz;cases h;obtain ⟨h1,h2,h3⟩:=Gf hz;refine ⟨λt'=>?_,h2,h3⟩;simp only [preT];rw [E5]
   by_cases e:t'=t
   ·subst e
    have:=TV.as_some hy;cases this;rw [Dr]; exact .inr (.inl ⟨k,y',rfl,ht⟩)
   ·rw [Dm _ _ e]; exact h1 t'
  ·rename_i ht
   split at h<;>try (cases h; done)
   rename_i y' hy;split at h<;>try (cases h; done)
   rename_i z hz;cases h;obtain ⟨h1,h2,h3⟩:=Gf hz;refine ⟨λt'=>?_,h2,h3⟩;simp only [preT];rw [E5]
   by_cases e:t'=t
   ·subst e
    rw [Dr];cases k<;>simp only [ztu,reduceCtorEq] at hy
    rename_i e;cases hy;exact .inr (.inr (.inl ⟨_,rfl,ht⟩))
   ·rw [Dm _ _ e]; exact h1 t'
 | .fix t s::l,x,h=>by
  simp only [Lx] at h;split at h<;>try (cases h; done)
  rename_i hf;obtain ⟨h1,h2,h3⟩:=Gf h;refine ⟨λt'=>?_,h2,h3⟩;simp only [preT];rw [E5]
  by_cases e:t'=t
  ·subst e
   rw [Dr]; exact .inr (.inr (.inr hf))
  ·rw [Dm _ _ e]; exact h1 t'
 | .var i k sh::l,x,h=>by
  simp only [Lx] at h;split at h<;>try (cases h; done)
  rename_i k' y sh' hm;split at h<;>try (cases h; done)
  rename_i hs;split at h<;>try (cases h; done)
  rename_i y' hy;split at h<;>try (cases h; done)
  rename_i z hz;cases h;obtain ⟨h1,h2,h3⟩:=Gf hz;have hs':=zrd hs;subst hs';have:=TV.as_some hy;cases this;refine ⟨h1,λj b' hj=>?_,λj hj=>?_⟩
  ·simp only [preM] at hj
   rw [D9] at hj
   by_cases e:j=i
   ·subst e; rw [Dr] at hj; cases hj; exact ⟨_,hm,rfl⟩
   ·rw [Dm _ _ e] at hj; exact h2 j b' hj
  ·simp only [preM]
   rw [D9]
   by_cases e:j=i
   ·subst e; rw [Dr]; exact ⟨_,rfl⟩
   ·rw [Dm _ _ e]
    simp only [hasI] at hj;cases hb:Nat.beq i j with
    | true=>exact absurd (Aa hb).symm e
    | false=>rw [hb] at hj; exact h3 j hj
 | .row i k sh::l,x,h=>by
  simp only [Lx] at h;split at h<;>try (cases h; done)
  rename_i k' y vv sh' hm;split at h<;>try (cases h; done)
  rename_i hs;split at h<;>try (cases h; done)
  rename_i y' hy;split at h<;>try (cases h; done)
  rename_i z hz;cases h;obtain ⟨h1,h2,h3⟩:=Gf hz;have hs':=zrd hs;subst hs';have:=TV.as_some hy;cases this;refine ⟨h1,λj b' hj=>?_,λj hj=>?_⟩
  ·simp only [preM] at hj
   rw [D9] at hj
   by_cases e:j=i
   ·subst e; rw [Dr] at hj; cases hj; exact ⟨_,hm,rfl⟩
   ·rw [Dm _ _ e] at hj; exact h2 j b' hj
  ·simp only [preM]
   rw [D9]
   by_cases e:j=i
   ·subst e; rw [Dr]; exact ⟨_,rfl⟩
   ·rw [Dm _ _ e]
    simp only [hasI] at hj;cases hb:Nat.beq i j with
    | true=>exact absurd (Aa hb).symm e
    | false=>rw [hb] at hj; exact h3 j hj

 | .mix i fl::l,x,h=>by
  simp only [Lx] at h;split at h<;>try (cases h; done)
  rename_i fs cs hm;split at h<;>try (cases h; done)
  rename_i y hy;split at h<;>try (cases h; done)
  rename_i z hz;cases h;obtain ⟨h1,h2,h3⟩:=Gf hz;obtain ⟨r1,r2⟩:=Lm hy;refine ⟨h1,λj b' hj=>?_,λj hj=>?_⟩
  ·simp only [preM] at hj
   rw [D9] at hj
   by_cases e:j=i
   ·subst e; rw [Dr] at hj; cases hj; exact ⟨_,hm,_,by rw [r1],r2⟩
   ·rw [Dm _ _ e] at hj; exact h2 j b' hj
  ·simp only [preM]
   rw [D9]
   by_cases e:j=i
   ·subst e; rw [Dr]; exact ⟨_,rfl⟩
   ·rw [Dm _ _ e]
    simp only [hasI] at hj;cases hb:Nat.beq i j with
    | true=>exact absurd (Aa hb).symm e
    | false=>rw [hb] at hj; exact h3 j hj
 | .map i kk kv::l,x,h=>by
  simp only [Lx] at h;split at h<;>try (cases h; done)
  rename_i kk' kv' m' hm;split at h<;>try (cases h; done)
  rename_i y hy;split at h<;>try (cases h; done)
  rename_i z hz;cases h;obtain ⟨h1,h2,h3⟩:=Gf hz;have:=TV.as_some hy;cases this;refine ⟨h1,λj b' hj=>?_,λj hj=>?_⟩
  ·simp only [preM] at hj
   rw [D9] at hj
   by_cases e:j=i
   ·subst e; rw [Dr] at hj; cases hj; exact ⟨_,hm,rfl⟩
   ·rw [Dm _ _ e] at hj; exact h2 j b' hj
  ·simp only [preM]
   rw [D9]
   by_cases e:j=i
   ·subst e; rw [Dr]; exact ⟨_,rfl⟩
   ·rw [Dm _ _ e]
    simp only [hasI] at hj;cases hb:Nat.beq i j with
    | true=>exact absurd (Aa hb).symm e
    | false=>rw [hb] at hj; exact h3 j hj
theorem Sb {rd:Nat->Option Blk} {j v:Nat} (h:curV rd j v=true):∃e l sh,rd j=some (.row e l v sh):=by
 unfold curV at h;split at h<;>try (cases h; done)
 rename_i e l v' sh hr;have:=Aa h;subst this;exact ⟨e,l,sh,hr⟩
def Ua (H:List HI):SV->Bool
 | .dead=>true
 | .nil=>true
 | .val _ _=>true
 | .fn _=>true
 | .ptr b _ _=>hasI H b
 | .mptr b _ _=>hasI H b
 | .yv i=>match H with
  | .fix _ s::_=>match s with
   | .yv j=>Nat.beq i j
   | _=>false
  | _=>false
 | _=>false
theorem DI {H:List HI} {σ:St} {x:HT H} (h:Lx H σ H=some x) (hg0:∀sv v,C.gh sv v->Ua H sv=true) (hI:Inv C (tget σ.tm) (mget σ.me) pl S a w):Inv C (tget (preT H x)) (mget (preM H x)) pl S a w:=by
 obtain ⟨h1,h2,h3⟩:=Gf h;have hvar:∀{i:Nat} {kb:Kd} {y:kb.T} {sh:Bool},mget σ.me i=some (.var kb y sh)->hasI H i=true->mget (preM H x) i=some (.var kb y sh):=by
  intro i kb y sh hm hh;obtain ⟨b',hb'⟩:=h3 i hh;obtain ⟨b,e1,e2⟩:=h2 i b' hb';rw [hm] at e1;cases e1;rw [hb']; exact Ac some e2
 have hrow:∀{i:Nat} {e:Kd} {l:List e.T} {v:Nat} {sh:Bool},mget σ.me i=some (.row e l v sh)->hasI H i=true->mget (preM H x) i=some (.row e l 0 sh):=by
  intro i e l v sh hm hh;obtain ⟨b',hb'⟩:=h3 i hh;obtain ⟨b,e1,e2⟩:=h2 i b' hb';rw [hm] at e1;cases e1;rw [hb']; exact Ac some e2
 have hmix:∀{i:Nat} {fs:List Kd} {cs:List Cmp},mget σ.me i=some (.mix fs cs)->hasI H i=true->∃cs',mget (preM H x) i=some (.mix fs cs'):=by
  intro i fs cs hm hh;obtain ⟨b',hb'⟩:=h3 i hh;obtain ⟨b,e1,e2⟩:=h2 i b' hb';rw [hm] at e1;cases e1;obtain ⟨cs',e3,_⟩:=e2;exact ⟨cs',by rw [hb',e3]⟩
 have hmap:∀{i:Nat} {kk kv:Kd} {m:List (kk.T×kv.T)},mget σ.me i=some (.map kk kv m)->hasI H i=true->mget (preM H x) i=some (.map kk kv m):=by
  intro i kk kv m hm hh;obtain ⟨b',hb'⟩:=h3 i hh;obtain ⟨b,e1,e2⟩:=h2 i b' hb';rw [hm] at e1;cases e1;rw [hb']; exact Ac some e2
 have hcap:∀{ps ps':List (Nat×Kd)} {vs:List Value},Ud H ps ps'=true->CapsG (mget σ.me) pl ps vs->CapsG (mget (preM H x)) pl ps' vs:=by
  intro ps
  induction ps with
  | nil=>
   intro ps' vs he hg;cases ps' with
   | nil=>exact hg
   | cons _ _=>simp [Ud] at he
  | cons p ps ih=>
   intro ps' vs he hg;cases ps' with
   | nil=>simp [Ud] at he
   | cons p' ps'=>
    simp only [Ud,Ab] at he;obtain ⟨⟨⟨e1,e2⟩,e3⟩,e4⟩:=he;obtain ⟨x0,sh,g,vs',rfl,hm,hg0,hg2⟩:=hg;obtain ⟨b',k'⟩:=p';have e1':=Aa e1;have e2':=Kd.same_eq e2;simp only at e1' e2';subst e1' e2';exact ⟨x0,sh,g,vs',rfl,hvar hm e3,hg0,ih e4 hg2⟩
 have hmg:∀{fs:List Kd} {cs cs':List Cmp} {vs:List Value},RstC H (mget σ.me) cs cs'->MixG S w (mget σ.me) pl fs cs vs->MixG S w (mget (preM H x)) pl fs cs' vs:=by
  intro fs
  induction fs with
  | nil=>
   intro cs cs' vs hr hg;obtain ⟨rfl,rfl⟩:=hg;exact ⟨hr,rfl⟩
  | cons k fs ih=>
   intro cs cs' vs hr hg;obtain ⟨c,cs1,seg,rest,rfl,rfl,hl,g1,g2,g3⟩:=hg;cases c with
   | val k' y=>
    obtain ⟨l,rfl,hr'⟩:=hr;exact ⟨_,l,seg,rest,rfl,rfl,hl,g1,⟨λj ver hc=>(by cases hc),λj hc=>(by cases hc)⟩,ih hr' g3⟩
   | junk=>
    obtain ⟨l,rfl,hr'⟩:=hr;exact ⟨_,l,seg,rest,rfl,rfl,hl,g1,⟨λj ver hc=>(by cases hc),λj hc=>(by cases hc)⟩,ih hr' g3⟩
   | own j v=>
    obtain ⟨l,rfl,hc,hh,hr'⟩:=hr;refine ⟨_,l,seg,rest,rfl,rfl,hl,λ_ _ hc=>(by cases hc),⟨λj' ver hc'=>?_,λj' hc'=>(by cases hc')⟩,ih hr' g3⟩;cases hc';obtain ⟨u,hu,hG⟩:=g2.1 j v rfl;obtain ⟨e,l',ver',sh,hm,_,hr⟩:=hG;obtain ⟨e',l'',sh',hc2⟩:=Sb hc;rw [hm] at hc2;cases hc2;exact ⟨u,hu,e,l',0,sh,hrow hm hh,Al _,λ_=>hr rfl⟩
   | mp j=>
    obtain ⟨l,rfl,hh,hr'⟩:=hr;refine ⟨_,l,seg,rest,rfl,rfl,hl,λ_ _ hc=>(by cases hc),⟨λj' ver' hc'=>(by cases hc'),λj' hc'=>?_⟩,ih hr' g3⟩;cases hc';obtain ⟨u,hu,kk,kv,m,g,hm,q1,q2⟩:=g2.2 j rfl;exact ⟨u,hu,kk,kv,m,g,hmap hm hh,q1,q2⟩
 refine ⟨hI.nt,hI.df,λt=>?_,λi b' hi=>?_,λi b' hi=>?_,λi j bi bj g hne hi hj hg=>?_,hI.s0,hI.sfr,hI.fr,hI.pd,λsv v hg=>?_⟩
 ·have hG:=hI.tms t
  rcases h1 t with h | ⟨k,y,h,h'⟩ | ⟨e,h,h'⟩ | h
  ·rw [h]; trivial
  ·rw [h]; rw [h'] at hG; exact hG
  ·rw [h]; rw [h'] at hG; exact VRd.sl.2 (.inl ⟨hG,rfl⟩)
  ·generalize tget σ.tm t=sv at*
   generalize tget (preT H x) t=s at*;generalize a.tmps.getD t undef=v at*;cases sv<;>cases s<;>simp only [zdy,Ab,reduceCtorEq] at h
   case nil.nil=>exact hG
   case fn.fn=>rw [<-Aa h]; exact hG
   case ptr.ptr=>
    obtain ⟨⟨⟨e1,e2⟩,e3⟩,e4⟩:=h;obtain ⟨kb,y,sh,o,g,hm,r1,r2,r3,r4⟩:=hG;rw [<-Aa e1,<-Jk e2,<-Kd.same_eq e3];exact ⟨kb,y,sh,o,g,hvar hm e4,r1,r2,r3,r4⟩
   case mptr.mptr=>
    obtain ⟨⟨⟨e1,e2⟩,e3⟩,e4⟩:=h;obtain ⟨fs,cs,g,post,hm,r1,r2,r3⟩:=hG;obtain ⟨cs',hm'⟩:=hmix hm e4;rw [<-Aa e1,<-Aa e2,<-Kd.same_eq e3];exact ⟨fs,cs',g,post,hm',r1,r2,r3⟩
   case mp.mp=>
    obtain ⟨e1,e2⟩:=h;obtain ⟨kk,kv,m,g,hm,q1,q2⟩:=hG;rw [<-Aa e1];exact ⟨kk,kv,m,g,hmap hm e2,q1,q2⟩
   case yv.yv=>
    obtain ⟨⟨e1,e2⟩,e3⟩:=h;obtain ⟨e,l,sh,hc⟩:=Sb e2;obtain ⟨ea,la,va,sa,hma,hra⟩:=hG;rw [hc] at hma;cases hma;rw [<-Aa e1];exact ⟨e,l,0,sh,hrow hc e3,λ_=>hra rfl⟩
   case clo.clo=>
    obtain ⟨e1,e2⟩:=h;obtain ⟨vs,r1,r2⟩:=hG;rw [<-Aa e1];exact ⟨vs,r1,hcap e2 r2⟩
   case own.own=>
    obtain ⟨⟨⟨e1,e2⟩,e3⟩,e4⟩:=h;obtain ⟨e,l,ver',sh,hm,_,hr⟩:=hG;obtain ⟨e',l',sh',hc⟩:=Sb e3;rw [hm] at hc;cases hc;rw [<-Aa e1,Aa e2];exact ⟨e,l,0,sh,hrow hm e4,Al _,λ_=>hr rfl⟩
   case win.win=>
    obtain ⟨⟨⟨⟨⟨e1,e2⟩,e3⟩,e4⟩,e5⟩,e6⟩:=h;obtain ⟨e,l,ver',sh,hm,_,hr⟩:=hG;obtain ⟨e',l',sh',hc⟩:=Sb e3;rw [hm] at hc;cases hc;rw [<-Aa e1,Aa e2,<-Aa e5,<-Aa e6];exact ⟨e,l,0,sh,hrow hm e4,Al _,λ_=>hr rfl⟩
   case asl.asl=>
    obtain ⟨⟨⟨⟨e1,e2⟩,e4⟩,e5⟩,e6⟩:=h;obtain ⟨kb,y,sh,o,m,e,hm,r⟩:=hG;rw [<-Aa e1,<-Jk e2,<-Aa e5,<-Aa e6];exact ⟨kb,y,sh,o,m,e,hvar hm e4,r⟩
   case pwin.pwin=>
    obtain ⟨⟨⟨⟨e1,e2⟩,e4⟩,e5⟩,e6⟩:=h;obtain ⟨kb,y,sh,o,m,e,g,hm,r⟩:=hG;rw [<-Aa e1,<-Jk e2,<-Aa e5,<-Aa e6];exact ⟨kb,y,sh,o,m,e,g,hvar hm e4,r⟩
 ·obtain ⟨b,e1,e2⟩:=h2 i b' hi
  have:=hI.mem i b e1;cases b with
  | var=>rw [show b'=_ from e2]; exact this
  | row=>rw [show b'=_ from e2]; exact this
  | map=>rw [show b'=_ from e2]; exact this
  | mix fs cs=>
   obtain ⟨cs',rfl,hr⟩:=e2;obtain ⟨g,c,t,q1,q2,q3,q4,q5,q6⟩:=this;exact ⟨g,c,t,q1,q2,q3,q4,q5,hmg hr q6⟩
 ·obtain ⟨b,e1,e2⟩:=h2 i b' hi
  have:=hI.plcs i b e1;cases b with
  | var=>rw [show b'=_ from e2]; exact this
  | map=>rw [show b'=_ from e2]; exact this
  | mix fs cs=>
   obtain ⟨cs',rfl,hr⟩:=e2;intro g hg;rcases this g hg with r | ⟨⟨_,_,_,r⟩,_⟩
   ·exact .inl r
   ·cases r
  | row e l v sh=>
   rw [show b'=_ from e2];intro g hg;rcases this g hg with r | ⟨⟨_,_,_,r⟩,_⟩
   ·exact .inl r
   ·cases r
 ·obtain ⟨bi',e1,_⟩:=h2 i bi hi
  obtain ⟨bj',e2,_⟩:=h2 j bj hj;exact hI.dis i j bi' bj' g hne e1 e2 hg
 ·have hk:=hg0 sv v hg
  have hG:=hI.gho sv v hg;cases sv<;>simp only [Ua,reduceCtorEq] at hk
  case dead=>trivial
  case nil=>exact hG
  case val=>exact hG
  case fn=>exact hG
  case ptr=>
   obtain ⟨kb,y,sh,o,g,hm,r⟩:=hG;exact ⟨kb,y,sh,o,g,hvar hm hk,r⟩
  case mptr=>
   obtain ⟨fs,cs,g,post,hm,r⟩:=hG;obtain ⟨cs',hm'⟩:=hmix hm hk;exact ⟨fs,cs',g,post,hm',r⟩
  case yv i=>
   split at hk<;>try (cases hk; done)
   rename_i t s H';split at hk<;>try (cases hk; done)
   rename_i j;have hij:=Aa hk;subst hij;have hT:=h1 t;simp only [preT] at hT;rw [E5,Dr] at hT;rcases hT with h | ⟨k,y,h,_⟩ | ⟨e,h,_⟩ | h
   ·cases h
   ·cases h
   ·cases h
   ·have hh:∃sv',tget σ.tm t=.yv sv'/\(Nat.beq sv' i&&curV (mget σ.me) sv' 0&&hasI (.fix t (.yv i)::H') sv')=true:=by
     generalize tget σ.tm t=sv at h;cases sv<;>simp only [zdy,reduceCtorEq] at h
     exact ⟨_,rfl,h⟩
    obtain ⟨sv',_,h⟩:=hh;simp only [Ab] at h;obtain ⟨⟨e1,e2⟩,e3⟩:=h;have e1:=Aa e1;subst e1;obtain ⟨e,l,sh,hc⟩:=Sb e2;obtain ⟨ea,la,va,sa,hma,hra⟩:=hG;rw [hc] at hma;cases hma;exact ⟨e,l,0,sh,hrow hc e3,λ_=>hra rfl⟩
theorem Inv.moveRow {tm:Nat->SV} {me:Nat->Option Blk} (h:Inv C tm me pl S a w) {t i j:Nat} {e:Kd} {x:List e.T} {v v':Nat} (hne:i≠j) (hi:me i=some (.row e x v false)) (ht:tm t=.own i v)
  (hj:∀b0,me j=some b0->∃(l0:List e.T) (v0:Nat) (sh0:Bool),b0=.row e l0 v0 sh0/\v0<v') (hnp:C.pp.length<=j):
  Inv C (upd tm t (.own j v')) (upd (upd me j (some (.row e x v' false))) i (some (.row e [] (Nat.succ v) false))) (upd (upd pl j (pl i)) i ⟨none,0,0⟩) S a w:=by
 have hK:Keeps S w me pl S w (upd (upd me j (some (.row e x v' false))) i (some (.row e [] (Nat.succ v) false))) (upd (upd pl j (pl i)) i ⟨none,0,0⟩):=by
  refine ⟨λ_ hb=>⟨hb,rfl⟩,λq b hq=>?_⟩
  by_cases e1:q=i
  ·subst e1
   rw [hi] at hq;cases hq;exact ⟨_,Dr _ _ _,rfl,Nat.le_succ _,λhh=>absurd hh (by omega)⟩
  ·rw [Dm _ _ e1,Dm _ _ e1]
   by_cases e2:q=j
   ·subst e2
    obtain ⟨l0,v0,sh0,rfl,hlt⟩:=hj _ hq;exact ⟨_,Dr _ _ _,rfl,by omega,λhh=>absurd hh (by omega)⟩
   ·rw [Dm _ _ e2,Dm _ _ e2]
    exact ⟨b,hq,Compat.refl _ _⟩
 have hji:j≠i:=λq=>hne q.symm
 refine ⟨h.nt,h.df,λt'=>?_,λq b hq=>?_,λq b hq=>?_,λj1 j2 b1 b2 g hn' hj1 hj2 hg=>?_,h.s0,h.sfr,h.fr,h.pd,λsv v hg=>(h.gho sv v hg).keeps hK⟩
 ·by_cases e1:t'=t
  ·subst e1
   rw [Dr];have hG:=h.tms t';rw [ht] at hG;obtain ⟨e2,l2,v2,sh2,hm2,_,hr⟩:=hG;rw [hi] at hm2;cases hm2;refine ⟨e,x,v',false,by rw [Dm _ _ hji,Dr],Al _,λ_=>?_⟩;rw [Dm _ _ hji,Dr];exact hr rfl
  ·rw [Dm _ _ e1]
   exact (h.tms t').keeps hK
 ·by_cases e1:q=i
  ·subst e1
   rw [Dr] at hq ⊢;cases hq;exact .inl ⟨rfl,rfl,rfl⟩
  ·rw [Dm _ _ e1] at hq ⊢
   by_cases e2:q=j
   ·subst e2
    rw [Dr] at hq ⊢;cases hq;exact (h.mem i _ hi).keeps hK (λ_ _=>rfl) (λ_ _ _=>Iff.rfl)
   ·rw [Dm _ _ e2] at hq ⊢
    exact (h.mem q b hq).keeps hK (λ_ _=>rfl) (λ_ _ _=>Iff.rfl)
 ·by_cases e1:q=i
  ·subst e1
   rw [Dr];intro g hg;cases hg
  ·rw [Dm _ _ e1] at hq ⊢
   by_cases e2:q=j
   ·subst e2
    rw [Dr];intro g hg;rcases h.plcs i _ hi g hg with ⟨h1,h2⟩ | ⟨⟨k,y,s,h0⟩,_⟩
    ·exact .inl ⟨.inl ⟨hnp,h1.or⟩,h2⟩
    ·cases h0
   ·rw [Dm _ _ e2] at hq ⊢
    exact h.plcs q b hq
 ·have key:∀{q:Nat} {b:Blk} {g:Nat},upd (upd me j (some (.row e x v' false))) i (some (.row e [] (Nat.succ v) false)) q=some b->upd (upd pl j (pl i)) i ⟨none,0,0⟩ q=⟨none,0,0⟩\/(q=j/\upd (upd pl j (pl i)) i ⟨none,0,0⟩ q=pl i)\/(q≠i/\q≠j/\me q=some b/\upd (upd pl j (pl i)) i ⟨none,0,0⟩ q=pl q):=by
   intro q b g hq
   by_cases e1:q=i
   ·subst e1; exact .inl (Dr _ _ _)
   ·rw [Dm _ _ e1] at hq
    rw [Dm _ _ e1]
    by_cases e2:q=j
    ·subst e2; exact .inr (.inl ⟨rfl,Dr _ _ _⟩)
    ·rw [Dm _ _ e2] at hq
     exact .inr (.inr ⟨e1,e2,hq,Dm _ _ e2⟩)
  rcases key (g:=g) hj1 with k1 | ⟨p1,k1⟩ | ⟨p1,q1,m1,k1⟩
  ·rw [k1] at hg; cases hg
  ·rw [k1] at hg
   rcases key (g:=g) hj2 with k2 | ⟨p2,k2⟩ | ⟨p2,q2,m2,k2⟩
   ·rw [k2]; intro hh; cases hh
   ·exact absurd (p1.trans p2.symm) hn'
   ·rw [k2]; exact h.dis i j2 _ b2 g (λq=>p2 q.symm) hi m2 hg
  ·rw [k1] at hg
   rcases key (g:=g) hj2 with k2 | ⟨p2,k2⟩ | ⟨p2,q2,m2,k2⟩
   ·rw [k2]; intro hh; cases hh
   ·rw [k2]; exact h.dis j1 i b1 _ g p1 m1 hi hg
   ·rw [k2]; exact h.dis j1 j2 b1 b2 g hn' m1 m2 hg
theorem Yf {σ:St} {t j:Nat} (hnp:C.pp.length<=j) (hI:Inv C (tget σ.tm) (mget σ.me) pl S a w):∃pl',Inv C (tget (IJ σ t j).tm) (mget (IJ σ t j).me) pl' S a w:=by
 unfold IJ;split
 ·rename_i i ver ht
  split
  ·rename_i e x v hb hm
   have hne:i≠j:=λq=>by subst q; rw [Nat.beq_refl] at hb; cases hb
   split
   ·rename_i hv hj
    have:=Aa hv;subst this;have h1:=hI.moveRow (v':=0) hne hm ht (λb0 h0=>by rw [hj] at h0; cases h0) hnp;exact ⟨_,by rw [D9,D9,E5]; exact h1⟩
   ·rename_i e' x0 v0 sh0 hv hj
    have:=Aa hv;subst this;split
    ·rename_i hs
     have:=Kd.same_eq hs;subst this;have h1:=hI.moveRow (v':=Nat.succ v0) hne hm ht (λb0 h0=>by rw [hj] at h0; cases h0; exact ⟨_,_,_,rfl,Nat.lt_succ_self _⟩) hnp;exact ⟨_,by rw [D9,D9,E5]; exact h1⟩
    ·exact ⟨pl,hI⟩
   ·exact ⟨pl,hI⟩
  ·exact ⟨pl,hI⟩
 ·exact ⟨pl,hI⟩
theorem Vi {H0:List HI}:∀(H:List HI) (σ:St) (pl:Nat->Plc) (S:Nat->Prop),mvOK C.pp.length H=true->Inv C (tget σ.tm) (mget σ.me) pl S a w->∃pl' S',Inv C (tget (G7 H0 H σ).tm) (mget (G7 H0 H σ).me) pl' S' a w:=by
 intro H
 induction H with
 | nil=>intro σ pl S _ hI; exact ⟨pl,S,hI⟩
 | cons q H ih=>
  intro σ pl S hv hI;unfold G7;split
  ·rename_i heq; cases heq
  ·rename_i i e0 l heq
   cases heq;split
   ·rename_i e' x v hm
    obtain ⟨S1,g1,_,_⟩:=hI.shutRow hm (.inr trivial);exact ih _ pl S1 hv (by rw [D9]; exact g1)
   ·exact ih _ pl S hv hI
  ·rename_i t k l heq
   cases heq;split
   ·rename_i j ver ht
    split
    ·rename_i e x v sh hh hm
     split
     ·rename_i hb
      obtain ⟨S1,g1,g2,_⟩:=hI.shutRow hm (.inr trivial);refine ih _ pl S1 hv ?_;rw [D9,E5];refine g1.know ?_;have hG:=hI.tms t;rw [ht] at hG;obtain ⟨e2,l2,v2,sh2,hm2,_,hr⟩:=hG;rw [hm] at hm2;cases hm2;have hrow:=hr (Aa hb).symm;refine VRd.sl.2 ?_;rcases hrow with ⟨hg,hv⟩ | ⟨g,hg,hv⟩
      ·rcases hI.mem j _ hm with ⟨_,hl,_⟩ | ⟨g',_,_,hg',_⟩
       ·exact .inl ⟨hv,hl⟩
       ·rw [hg] at hg'; cases hg'
      ·rcases g1.mem j _ (Dr _ _ _) with ⟨hg',_,_⟩ | ⟨g',c,t',hg',hoff,hc,hlc,hcm,hcs,hR,hsh⟩
       ·rw [hg] at hg'; cases hg'
       ·rw [hg] at hg'
        cases hg';exact .inr (.inl ⟨g,0,(pl j).cap,c,t',(0,0),hv,hlc,hsh.1 rfl,hc,by rw [Bo]; exact hR⟩)
     ·exact ih _ pl S hv hI
    ·exact ih _ pl S hv hI
   ·exact ih _ pl S hv hI
  ·rename_i t s l heq
   cases heq;split
   ·rename_i j ver
    simp only [mvOK,Ab] at hv;obtain ⟨pl1,h1⟩:=Yf (t:=t) (Bj hv.1) hI;exact ih _ pl1 S hv.2 h1
   ·rename_i hno
    refine ih _ pl S ?_ hI;cases s<;>first | exact hv | exact (hno _ _ rfl).elim
  ·rename_i q l h1 h2 h3 heq
   cases heq;refine ih _ pl S ?_ hI;cases q<;>first | exact hv | exact (h3 _ _ rfl).elim
theorem Oo {H:List HI} {σ:St} {x:HT H} (h:find H σ=some x) (hmv:mvOK C.pp.length H=true) (hg0:∀sv v,C.gh sv v->Ua H sv=true) (hI:Inv C (tget σ.tm) (mget σ.me) pl S a w):∃pl' S',Inv C (tget (preT H x)) (mget (preM H x)) pl' S' a w:=by
 obtain ⟨pl',S',h1⟩:=Vi (H0:=H) H σ pl S hmv hI;exact ⟨pl',S',DI h hg0 h1⟩
theorem Rt {np:Nat} {H:List HI} {exs:Exs} (h:(mvOK np H&&exs.all λp=>mvOK np p.2)=true):mvOK np H=true/\∀p∈exs,mvOK np p.2=true:=by
 rw [Ab,B9] at h;exact h
def Code.wpL (ρ:Option Nat) (P:Program) (c:Code) (Q:Exit->Act->World->Prop) (a:Act) (w:World):Prop:=
 ∀(b:Frame) (k:List Item) (cs:List Frame),b.roundOf=(fen ρ).round->(fen ρ).fn b.fn->(fen ρ).room (cs.length+1+0)->
  ∃e a' w',Q e a' w'/\ArrivesIn (Machine.fenced P (fen ρ)) P (lone (b.atR a (.code c::.inLoop c::k)) cs w) b k cs e a' w'
theorem NF {ρ:Option Nat} {c:Code} {Q:Exit->Act->World->Prop} (h:Code.wpL ρ P c Q a w):Code.wpr ρ P (.loop c) Q a w:=by
 intro b k cs hro hb hr;obtain ⟨e,a',w',hq,harr⟩:=h b k cs hro hb hr;exact ⟨e,a',w',hq,.of_steps (.one (fenced_calm hb hr rfl) stepR_loop) harr⟩
theorem W7 {ρ:Option Nat} {c:Code} {Q:Exit->Act->World->Prop} (h:Code.wpr ρ P c (Exit.then (Code.wpL ρ P c Q) Q) a w):Code.wpL ρ P c Q a w:=by
 intro b k cs hro hb hr;obtain ⟨e,a₁,w₁,hq,harr⟩:=h b (.inLoop c::k) cs hro hb hr;cases e with
 | normal=>
  obtain ⟨e₂,a₂,w₂,hq₂,harr₂⟩:=hq b k cs hro hb hr;exact ⟨e₂,a₂,w₂,hq₂,.of_steps (StepsIn.trans harr (.one (fenced_calm hb hr rfl) stepR_inLoop)) harr₂⟩
 | exit id=>exact ⟨_,a₁,w₁,hq,.pass (x:=.inLoop c) rfl (λ_ _=>.inl (by simp)) harr⟩
 | goto l=>exact ⟨_,a₁,w₁,hq,.pass (x:=.inLoop c) rfl (λ_ _=>.inl (by simp)) harr⟩
 | ret=>exact ⟨_,a₁,w₁,hq,.pass (x:=.inLoop c) rfl (λ_ _=>.inl (by simp)) harr⟩
 | panic ch=>exact ⟨_,a₁,w₁,hq,.pass (x:=.inLoop c) rfl (λ_ _=>.inl (by simp)) harr⟩
 | outgrown=>exact ⟨_,a₁,w₁,hq,.pass (x:=.inLoop c) rfl (λ_ _=>.inl (by simp)) harr⟩
def stOf (H:List HI) (x:HT H) (nx:Nat):St:=⟨preT H x,preM H x,nx⟩
theorem zio {e e':XX} (h:XX.same e e'=true):e=e':=by
 cases e<;>cases e'<;>simp only [XX.same,reduceCtorEq] at h<;>try rfl
 rw [Aa h]
inductive Out {R:Type} (r:R):(exs:Exs)->KT R exs->XX->(H:List HI)->HT H->Prop
 | here {e:XX} {h:List HI} {l:Exs} {k:KT R ((e,h)::l)} {y:HT h}:k.1 y=some r->Out r ((e,h)::l) k e h y
 | there {e e':XX} {h h':List HI} {l:Exs} {k:KT R ((e',h')::l)} {y:HT h}:Out r l k.2 e h y->Out r ((e',h')::l) k e h y
theorem JD {R:Type} {r:R} {e:XX} {σ:St}:∀{exs:Exs} {ke:KT R exs},disp e σ exs ke=some r->∃H y,find H σ=some y/\Out r exs ke e H y/\(e,H)∈exs
 | [],_,h=>by cases h
 | (e',h')::l,ke,h=>by
  simp only [disp] at h;split at h
  ·rename_i hs
   have:=zio hs;subst this;split at h<;>try (cases h; done)
   rename_i y hy;exact ⟨h',y,hy,.here h,by simp⟩
  ·obtain ⟨H,y,h1,h2,h3⟩:=JD h
   exact ⟨H,y,h1,.there h2,by simp [h3]⟩
theorem UU {R:Type} {r:R} {nx:Nat} {K:XX->St->Option R} {e:XX} {H:List HI} {y:HT H}:∀{exs:Exs},Out r exs (zoi nx K exs) e H y->K e (stOf H y nx)=some r:=by
 intro exs
 induction exs with
 | nil=>intro h; cases h
 | cons p l ih=>
  obtain ⟨e',h'⟩:=p;intro h;cases h with
  | here h=>exact h
  | there h=>exact ih h
def VH (np:Nat) (nt:NT) (P:Program) (c:Code) (σ:St) (e:XX) (σ':St):Prop:=
 ∀C:Ctx,np=C.pp.length->nt=C.nt->(∀sv v,C.gh sv v->C.nt.gs sv=true)->∀Q:Exit->Act->World->Prop,(∀pl S a w,Inv C (tget σ'.tm) (mget σ'.me) pl S a w->Q e.ex a w)->
  ∀pl S a w,Inv C (tget σ.tm) (mget σ.me) pl S a w->Code.wpL C.ro P c Q a w
theorem Ib (Ef:(R:Type)->Env R) (np:Nat) (nt:NT) (hnp:∀R,(Ef R).np=np) (hnt:∀R,(Ef R).nt=nt) (hE:∀R,D7 P (Ef R)) (hm:P.follows .mixedOrders=true) {c:Code} (hl:∀R,∀l∈Dy c,Ja (Ef R) P l)
  {H:List HI} {nx:Nat} {exs:Exs} {T:(R:Type)->HT H->(HT H->Option R)->KT R exs->Option R}
  (hgs:∀sv,nt.gs sv=true->Ua H sv=true/\∀p∈exs,Ua p.2 sv=true) (hmv:mvOK np H=true/\∀p∈exs,mvOK np p.2=true)
  (hT:∀R x kc ke,exec (Ef R) c (stOf H x nx) (P3 H exs kc ke)=T R x kc ke):
  ∀(n:Nat) (R:Type) (x:HT H) (ke:KT R exs) (r:R),iter T n R x ke=some r->∃e Hy y,Out r exs ke e Hy y/\∀nx',VH np nt P c (stOf H x nx) e (stOf Hy y nx'):=by
 intro n
 induction n with
 | zero=>intro R x ke r h; cases h
 | succ n ih=>
  intro R x ke r h;simp only [iter] at h;rw [<-hT] at h;obtain ⟨e,σ1,h1,_,h2⟩:=Gg (hE R) hm c (hl R) _ _ _ h;rw [hnp,hnt] at h2;have other:e≠.normal->disp e σ1 exs ke=some r->∃e Hy y,Out r exs ke e Hy y/\∀nx',VH np nt P c (stOf H x nx) e (stOf Hy y nx'):=by
   intro hne hd;obtain ⟨Hy,y,hf,ho,hmem⟩:=JD hd;refine ⟨e,Hy,y,ho,λnx' C e1 e2 hg Q hQ pl S a w hI=>W7 ?_⟩;refine h2 C e1 e2 (λ_=>hg) (Exit.then (Code.wpL C.ro P c Q) Q) (λpl S a w hI=>?_) pl S a w hI;obtain ⟨pl',S',hI'⟩:=Oo hf (by rw [<-e1]; exact hmv.2 _ hmem) (λsv v hh=>(hgs sv (by rw [e2]; exact hg sv v hh)).2 _ hmem) hI;have:=hQ pl' S' a w hI';cases e with
   | normal=>exact absurd rfl hne
   | exit i=>exact this
   | ret=>exact this
  cases e with
  | normal=>
   simp only [P3] at h1;split at h1<;>try (cases h1; done)
   rename_i x' hx';obtain ⟨e,Hy,y,ho,hL⟩:=ih R x' ke r h1;refine ⟨e,Hy,y,ho,λnx' C e1 e2 hg Q hQ pl S a w hI=>W7 ?_⟩;exact h2 C e1 e2 (λ_=>hg) (Exit.then (Code.wpL C.ro P c Q) Q) (λpl S a w hI=>let ⟨pl',S',hI'⟩:=Oo hx' (by rw [<-e1]; exact hmv.1) (λsv v hh=>(hgs sv (by rw [e2]; exact hg sv v hh)).1) hI; hL nx' C e1 e2 hg Q hQ pl' S' a w hI') pl S a w hI
  | exit i=>exact other (by simp) h1
  | ret=>exact other (by simp) h1
def LEnt.OK (P:Program) (np:Nat) (nt:NT) (e:LEnt) (c:Code):Prop:=((∀sv,nt.gs sv=true->Ua e.H sv=true)/\mvOK np e.H=true)/\∀(R:Type) (x:HT e.H) (ke:KT R e.exs) (r:R),e.L R x ke=some r->∃ex Hy y,Out r e.exs ke ex Hy y/\∀nx',VH np nt P c (stOf e.H x e.nx) ex (stOf Hy y nx')
def asPC {α:Type} (ck:Kd):List TV->(List TV->Option α)->Option (α×ck.T)
 | [],_=>none
 | a::l,f=>match l with
  | []=>match TV.as a ck,f [] with
   | some y,some q=>some (q,y)
   | _,_=>none
  | _::_=>asPC ck l (λos=>f (a::os))
def finK {R:Type} (outs ins:Ins) (k:RT outs->PT ins->Option R):List RV->List TV->Option R:=λrs os=>
 match asR outs rs with
 | some y=>match asP ins os with
  | some p=>k y p
  | none=>none
 | none=>none
theorem zug {Ef:(R:Type)->Env R} {f:FuncId} {ins outs:Ins} {F:(R:Type)->AT ins->(RT outs->PT ins->Option R)->Option R} (hE:∀R,D7 P (Ef R)) (hm:P.follows .mixedOrders=true) {fn:Func} {body:Code} (hf:P.funcs[f]?=some fn) (hb:fn.body=some body)
  (hname:(fn.name== "runtime.NumGoroutine")=false) {np nt:Nat} (hnp:∀R,(Ef R).np=np) (hnt:∀R,(Ef R).nt=nt) (hntf:fn.ntmps=nt) {res:List (ResultVar×TypeId×Bool)} (hres:fn.results.toList=res.map (·.1))
  (hp:∀x,nptr (avs ins x)=np) (hle:∀x,(avs ins x).length<=nt) (hl:∀R,∀l∈Dy body,Ja (Ef R) P l)
  (heq:∀R x k,xfun (Ef R) body res (avs ins x) (finK outs ins k)=F R x k):Ent.OK P ⟨f,ins,outs,F⟩:=by
 intro R x k r h;simp only at h;rw [<-heq] at h;obtain ⟨rs,os,h1,h2⟩:=Oc (hE R) hm hf hb (enters hf hname (by rw [hb]; rfl)) (by rw [hnt,hntf]) hres (by rw [hnp,hp]) (by rw [hnt]; exact hle x) (hl R) h;unfold finK at h2;split at h2<;>try (cases h2; done)
 rename_i y hy;split at h2<;>try (cases h2; done)
 rename_i p hp;rw [Lt hy,Nu hp] at h1;exact ⟨y,p,h1,h2⟩
theorem Mo {Ef:(R:Type)->Env R} {f g:FuncId} {ins outs:Ins} {F:(R:Type)->AT ins->(RT outs->PT ins->Option R)->Option R} (hE:∀R,D7 P (Ef R)) (hm:P.follows .mixedOrders=true) {fn:Func} {body:Code} (hf:P.funcs[f]?=some fn) (hb:fn.body=some body)
  (hname:(fn.name== "runtime.NumGoroutine")=false) {np nt:Nat} (hnp:∀R,(Ef R).np=np) (hnt:∀R,(Ef R).nt=nt) (hntf:fn.ntmps=nt) {res:List (ResultVar×TypeId×Bool)} (hres:fn.results.toList=res.map (·.1))
  (hp:∀x,nptr (avs ins x++[AV.fn g])=np) (hle:∀x,(avs ins x++[AV.fn g]).length<=nt) (hl:∀R,∀l∈Dy body,Ja (Ef R) P l)
  (heq:∀R x k,xfun (Ef R) body res (avs ins x++[AV.fn g]) (finK outs ins k)=F R x k):EntF.OK P ⟨f,g,ins,outs,F⟩:=by
 intro R x k r h;simp only at h;rw [<-heq] at h;obtain ⟨rs,os,h1,h2⟩:=Oc (hE R) hm hf hb (enters hf hname (by rw [hb]; rfl)) (by rw [hnt,hntf]) hres (by rw [hnp,hp]) (by rw [hnt]; exact hle x) (hl R) h;unfold finK at h2;split at h2<;>try (cases h2; done)
 rename_i y hy;split at h2<;>try (cases h2; done)
 rename_i p hp;rw [Lt hy,Nu hp] at h1;exact ⟨y,p,h1,h2⟩
def zdz {R:Type} (outs ins:Ins) (ck:Kd) (k:RT outs->PT ins->ck.T->Option R):List RV->List TV->Option R:=λrs os=>
 match asR outs rs with
 | some y=>match asPC ck os (asP ins) with
  | some (p,c)=>k y p c
  | none=>none
 | none=>none
theorem Y7 {α:Type} {ck:Kd} {f:List TV->Option α}:∀{os:List TV} {p:α} {c:ck.T},asPC ck os f=some (p,c)->∃os',os=os'++[⟨ck,c⟩]/\f os'=some p
 | [],_,_,h=>by cases h
 | [a],p,c,h=>by
  simp only [asPC] at h;split at h<;>try (cases h; done)
  rename_i y q hy hq;cases h;exact ⟨[],by rw [TV.as_some hy]; rfl,hq⟩
 | a::b::l,p,c,h=>by
  have h':asPC ck (b::l) (λos=>f (a::os))=some (p,c):=h;obtain ⟨os',h1,h2⟩:=Y7 h';exact ⟨a::os',by rw [h1]; rfl,h2⟩
theorem TF {Ef:(R:Type)->Env R} {f g:FuncId} {ck:Kd} {ins outs:Ins} {F:(R:Type)->AT ins->ck.T->(RT outs->PT ins->ck.T->Option R)->Option R} (hE:∀R,D7 P (Ef R)) (hm:P.follows .mixedOrders=true) {fn:Func} {body:Code} (hf:P.funcs[f]?=some fn) (hb:fn.body=some body)
  (hname:(fn.name== "runtime.NumGoroutine")=false) {np nt:Nat} (hnp:∀R,(Ef R).np=np) (hnt:∀R,(Ef R).nt=nt) (hntf:fn.ntmps=nt) {res:List (ResultVar×TypeId×Bool)} (hres:fn.results.toList=res.map (·.1))
  (hp:∀x c,nptr (avs ins x++[AV.clo g ck c])=np) (hle:∀x c,(avs ins x++[AV.clo g ck c]).length<=nt) (hl:∀R,∀l∈Dy body,Ja (Ef R) P l)
  (heq:∀R x c k,xfun (Ef R) body res (avs ins x++[AV.clo g ck c]) (zdz outs ins ck k)=F R x c k):EntC.OK P ⟨f,g,ck,ins,outs,F⟩:=by
 intro R x c k r h;simp only at h;rw [<-heq] at h;obtain ⟨rs,os,h1,h2⟩:=Oc (hE R) hm hf hb (enters hf hname (by rw [hb]; rfl)) (by rw [hnt,hntf]) hres (by rw [hnp,hp]) (by rw [hnt]; exact hle x c) (hl R) h;unfold zdz at h2;split at h2<;>try (cases h2; done)
 rename_i y hy;split at h2<;>try (cases h2; done)
 rename_i p c' hp;obtain ⟨os',e1,e2⟩:=Y7 hp;rw [Lt hy,e1,Nu e2] at h1;exact ⟨y,p,c',h1,h2⟩
end
open Go.ChangeShapes Go.WideShapes Go.ChangeAt Go.RowKit
def Fit:(k:Kd)->k.T->Prop
 | .int ik,x=>ik.min<=x/\x<=ik.max
 | .bool,_=>True
 | .str,s=>s.size<=maxLen
 | .unit,_=>True
 | .pair a b,x=>Fit a x.1/\Fit b x.2
 | .arr n e,x=>List.length x=n/\∀y∈x,Fit e y
 | .sl e,x=>List.length x<=maxLen/\∀y∈x,Fit e y
 | .mp,_=>True
 | .fn,_=>True
def Kd.flatK:Kd->Bool
 | .int _ | .bool | .str=>true
 | .unit=>true
 | .pair a b=>a.flatK&&b.flatK
 | .arr _ e=>e.flatK
 | .sl _=>false
 | .mp=>false
 | .fn=>false
def Kd.slOK:Kd->Bool
 | .pair a b=>a.slOK&&b.slOK
 | .arr _ e=>e.slOK
 | .sl e=>e.slOK&& !(Nat.beq e.size 0)
 | .mp=>false
 | .fn=>false
 | _=>true
def Kd.dep:Kd->Nat
 | .pair a b=>a.dep+b.dep+1
 | .arr _ e=>e.dep+1
 | .sl e=>e.dep+1
 | _=>1
section
variable {P:Program} {T:Tab} {w:World} {H:Type} {enc:TypeId×Value->H}
theorem OH {α:Type} {R:α->List Value->Prop} {F:α->Prop} {sz:Nat}:∀(n:Nat) (cs:List Value),cs.length=n*sz->(∀i,i<n->∃x,R x ((cs.drop (i*sz)).take sz)/\F x)->∃xs:List α,xs.length=n/\RdL R xs cs/\∀x∈xs,F x
 | 0,cs,hl,_=>⟨[],rfl,by simpa [RdL] using hl,λx hx=>by cases hx⟩
 | n+1,cs,hl,h=>by
  obtain ⟨x,h1,h2⟩:=h 0 (Nat.succ_pos n);obtain ⟨xs,h3,h4,h5⟩:=OH (R:=R) (F:=F) (sz:=sz) n (cs.drop sz) (by rw [Cs,hl,Ag]; omega) (λi hi=>by
   obtain ⟨y,h6,h7⟩:=h (i+1) (by omega);refine ⟨y,?_,h7⟩;rw [A9]
   rwa [show sz+i*sz=(i+1)*sz by rw [Ag]; omega])
  refine ⟨x::xs,by simp [h3],⟨cs.take sz,cs.drop sz,(A4 _ _).symm,by simpa using h1,h4⟩,λy hy=>?_⟩;rcases Cd.1 hy with rfl | hy
  ·exact h2
  ·exact h5 y hy
theorem Ic (hT:D3 P T) {t:TypeId} {k:Kd} (h:tkd T t=some k):P.cellsOf t=k.size:=by
 obtain ⟨d,h1,h2,h3⟩:=Fb hT h;obtain ⟨i,h4,h5,_⟩:=h3.info;unfold Program.cellsOf;rw [h4];simp [h5,(h3.kd k h2).1]
theorem zq6 {k:IntKind} {n:Int} (h:(Lit.int k n).wf=true):k.min<=n/\n<=k.max:=by
 simpa [Lit.wf] using h
theorem Yp (hT:D3 P T) {S:Nat->Prop} {cs:List Value}:∀(fs:List Field) (off:Nat) (k:Kd),D4 T fs off k=true->k.slOK=true->cs.length=off+k.size->
  (∀f∈fs,∀kf,tkd T f.type=some kf->kf.slOK=true->kf.dep<k.dep->(k.flatK=true->kf.flatK=true)->∃x:kf.T,Rd S w kf x ((cs.drop f.offset).take (P.cellsOf f.type))/\Fit kf x)->
  ∃x:k.T,Rd S w k x (cs.drop off)/\Fit k x
 | [],off,k,h,_,hl,_=>by
  cases k<;>simp only [D4,reduceCtorEq] at h
  exact ⟨(),Bg (by simp [Kd.size] at hl; omega),trivial⟩
 | f::fs,off,k,h,hs,hl,hf=>by
  cases k<;>simp only [D4,reduceCtorEq,Ab] at h
  rename_i a b;obtain ⟨⟨⟨h1,h2⟩,h3⟩,h4⟩:=h;simp only [Kd.slOK,Ab] at hs;have hoff:=Aa h1;have ha:=Ea h2;obtain ⟨x,hx1,hx2⟩:=hf f (by simp) a ha hs.1 (by simp only [Kd.dep]; omega) (λh=>by simp only [Kd.flatK,Ab] at h; exact h.1);obtain ⟨y,hy1,hy2⟩:=Yp hT fs (off+a.size) b h4 hs.2 (by simp only [Kd.size] at hl; omega) (λg hg kg hk hso hlt hfl=>hf g (by simp [hg]) kg hk hso (by simp only [Kd.dep]; omega) (λh=>by simp only [Kd.flatK,Ab] at h; exact hfl h.2));rw [Ic hT ha,hoff] at hx1
  refine ⟨(x,y),⟨(cs.drop off).take a.size,(cs.drop off).drop a.size,(A4 _ _).symm,hx1,?_⟩,hx2,hy2⟩;rw [A9]; exact hy1
theorem UH {a:Addr} {c:Array Value} {t:TypeId} {fr:Nat×Nat} (hsp:a.spot=none) (hc:w.heap[a.block]?=some (.cells c t fr)) {i n:Nat} {l:List Value} (h:w.cells? 0 (a.add i) n=some l):
  l=(c.toList.drop (a.off+i)).take n/\l.length=n:=by
 obtain ⟨b,off,sp⟩:=a;simp only at hsp hc ⊢;subst hsp;unfold World.cells? at h;simp only [Ct,Ca] at h;have hlen:=mapM_some_length h;rw [List.length_range] at hlen;refine ⟨?_,hlen⟩;apply List.ext_getElem?;intro j;rcases Nat.lt_or_ge j n with hj | hj
 ·have:=mapM_some_get h j j (by simp [hj])
  rw [add_eq,add_eq,Aw w b _ c t fr hc] at this;rw [<-this,List.getElem?_take,Aj hj,Ay];simp
 ·rw [Cj (by omega),Cj (by simp; omega)]
theorem Uc {a:Addr} {n:Nat} {l:List Value} (hn:0<n) (h:w.cells? 0 (a.add 0) n=some l):a.spot=none/\∃c t fr,w.heap[a.block]?=some (.cells c t fr):=by
 have e0:∀b:Addr,b.add 0=b:=λb=>by simp [Addr.add]
 rw [e0] at h;unfold World.cells? at h;simp only [Ct,Ca] at h;obtain ⟨x,hx,_⟩:∃x,w.cell? (a.add 0)=some x/\True:=by
  have:=mapM_some_get h 0 0 (by simp [hn]);have hlen:=mapM_some_length h;rw [List.length_range] at hlen;rw [Bs (by omega)] at this;exact ⟨_,this,trivial⟩
 rw [e0] at hx;unfold World.cell? at hx;split at hx<;>try (cases hx; done)
 rename_i c t fr hc;split at hx<;>try (cases hx; done)
 rename_i hs;exact ⟨by simpa using hs,c,t,fr,hc⟩
theorem NI (hT:D3 P T):∀(n:Nat) (k:Kd),k.dep<n->∀(t:TypeId),tkd T t=some k->k.slOK=true->∀(fuel:Nat) (cs:List Value) (x:DataW H×List MemPlace),
  DataW.trod enc P w 0 (λ_=>true) true fuel t cs=some x->∃y:k.T,Rd (λb=>b<w.heap.size) w k y cs/\Fit k y
 | 0,k,hk,_,_,_,_,_,_,_=>absurd hk (Nat.not_lt_zero _)
 | n+1,k,hk,t,htk,hso,fuel,cs,x,h=>by
  obtain ⟨d,h1,h2,h3⟩:=Fb hT htk;have hd:=(h3.kd k h2).2;have hu:=h3.und;generalize d.desc=de at hd hu;have ih:=NI hT n
  by_cases hst:∃fs,de=.struct fs
  ·obtain ⟨fs,rfl⟩:=hst
   obtain ⟨xs,f,_,_,hlen,hxl,hel⟩:=DataW.trod_struct hu h;rw [Ic hT htk] at hlen;have:=Yp (S:=λb=>b<w.heap.size) (w:=w) (cs:=cs) hT fs.toList 0 _ (by unfold Fk at hd; split at hd<;>simp_all) hso (by rw [hlen,Bf]) (λg hg kg hkg hsg hlt _=>by
    obtain ⟨i,hi,hgi⟩:=Cq hg;have hi':i<xs.length:=by rw [hxl]; simpa using hi
    exact ih kg (by omega) g.type hkg hsg f _ xs[i] (by rw [hel i g (by rw [<-Array.getElem?_toList,Bs hi,hgi])]; exact Bs hi'))
   simpa using this
  cases de<;>cases k<;>simp only [Fk,reduceCtorEq,Ab] at hd<;>try (exact absurd ⟨_,rfl⟩ hst)
  case int.int=>
   have:=Kd.ikb_eq hd;subst this;obtain ⟨m,rfl,_,hwf⟩:=DataW.trod_int hu h;exact ⟨m,rfl,zq6 hwf⟩
  case bool.bool=>
   obtain ⟨b,rfl,_⟩:=DataW.trod_bool hu h;exact ⟨b,rfl,trivial⟩
  case string.str=>
   obtain ⟨s,rfl,_,hs⟩:=DataW.trod_string hu h;exact ⟨s,rfl,hs⟩
  case array.arr m e m' e'=>
   obtain ⟨xs,f,_,_,hlen,hxl,hel⟩:=DataW.trod_array hu h;have hke:=Ea hd.2;have hm:=Aa hd.1;subst hm;rw [Ic hT htk] at hlen;rw [Ic hT hke] at hel;obtain ⟨ys,y1,y2,y3⟩:=OH (R:=Rd (λb=>b<w.heap.size) w e') (F:=Fit e') (sz:=e'.size) m cs hlen (λi hi=>by
    have hi':i<xs.length:=by omega
    exact ih e' (by simp only [Kd.dep] at hk; omega) e hke (by simpa [Kd.slOK] using hso) f _ xs[i] (by rw [hel i hi]; exact Bs hi'))
   exact ⟨ys,⟨y1,y2⟩,y1,y3⟩
  case map.mp=>simp [Kd.slOK] at hso
  case func.fn=>simp [Kd.slOK] at hso
  case slice.sl e e'=>
   have hke:=Ea hd;simp only [Kd.slOK,Ab,Bool.not_eq_true'] at hso;have hpos:0<e'.size:=by
    rcases B2 e'.size with h0 | h0
    ·rw [h0] at hso; simp at hso
    ·exact h0
   rcases DataW.trod_slice hu h with ⟨rfl,_⟩ | ⟨a,len,cap,elems,rest,f,_,rfl,_,_,hlc,hcm,hel,hcell,hrest,_⟩
   ·exact ⟨[],⟨_,rfl,.inl ⟨rfl,rfl⟩⟩,Ct _,λy hy=>by cases hy⟩
   ·rw [Ic hT hke] at hcell hrest
    obtain ⟨hr1,hr2⟩:=hrest rfl;rcases B2 cap with hc0 | hc0
    ·have hl0:len=0:=by omega
     subst hc0 hl0;exact ⟨[],⟨_,rfl,.inr (.inr ⟨a,rfl,rfl⟩)⟩,Ct _,λy hy=>by cases hy⟩
    obtain ⟨hspot,c,ct,fr,hc⟩:a.spot=none/\∃c t fr,w.heap[a.block]?=some (.cells c t fr):=by
     rcases B2 len with hl0 | hl0
     ·have q:=hr2 0 (by omega)
      rw [Bs (by omega)] at q;obtain ⟨l,q1,_⟩:=Option.bind_eq_some_iff.1 q;exact Uc hpos (by simpa [hl0] using q1)
     ·have q:=hcell 0 hl0
      rw [Bs (by omega)] at q;obtain ⟨l,q1,_⟩:=Option.bind_eq_some_iff.1 q;exact Uc hpos (by simpa using q1)
    have each:∀i,i<len->∃l,l=(c.toList.drop (a.off+i*e'.size)).take e'.size/\l.length=e'.size/\∃y:e'.T,Rd (λb=>b<w.heap.size) w e' y l/\Fit e' y:=by
     intro i hi;have hi':i<elems.length:=by omega
     have hci:=hcell i hi;rw [Bs hi'] at hci;obtain ⟨l,hl1,hl2⟩:=Option.bind_eq_some_iff.1 hci;obtain ⟨e1,e2⟩:=UH hspot hc hl1;exact ⟨l,e1,e2,ih e' (by simp only [Kd.dep] at hk; omega) e hke hso.1 f l elems[i] hl2⟩
    have hsz:((c.toList.drop a.off).take (len*e'.size)).length=len*e'.size:=by
     rw [A5,Cs];rcases B2 len with h0 | h0
     ·subst h0; simp
     ·obtain ⟨l,e1,e2,_⟩:=each (len - 1) (by omega)
      rw [e1,A5,Cs] at e2;have:len*e'.size=(len - 1)*e'.size+e'.size:=by
       rw [<-Nat.succ_mul]; congr 1; omega
      omega
    obtain ⟨ys,y1,y2,y3⟩:=OH (R:=Rd (λb=>b<w.heap.size) w e') (F:=Fit e') (sz:=e'.size) len _ hsz (λi hi=>by
     obtain ⟨l,e1,e2,y,hy⟩:=each i hi;refine ⟨y,?_⟩;have:(((c.toList.drop a.off).take (len*e'.size)).drop (i*e'.size)).take e'.size=l:=by
      rw [e1,Ba,A9,Bb]
      congr 1
      have:(i+1)*e'.size<=len*e'.size:=A7 _ (by omega);rw [Ag] at this;omega
     rw [this]; exact hy)
    obtain ⟨b,off,sp⟩:=a;simp only at hspot hc;subst hspot;refine ⟨ys,⟨_,rfl,.inr (.inl ⟨b,off,cap,c,ct,fr,by rw [y1],by rw [y1]; exact hlc,(Ap.1 hc).1,hc,by rw [y1]; exact y2⟩)⟩,by rw [y1]; omega,y3⟩
end
open Go.ChangeShapes Go.WideShapes Go.ChangeAt Go.RowKit
section
variable {P:Program} {T:Tab} {w:World} {H:Type} {enc:TypeId×Value->H}
theorem zur (hT:D3 P T) {r:Go.Reach} {base:Nat} {t:TypeId} {k:Kd} {v:Value} {d:DataW H} {ps:List MemPlace} (hk:tkd T t=some k) (hso:k.slOK=true) (hok:Value.okWide P w r base t v)
  (h:DataW.Trod enc P w 0 (λ_=>true) true t v d ps):∃y:k.T,VRd (λb=>b<w.heap.size) w k y v/\Fit k y:=by
 obtain ⟨fuel,hf⟩:=h;obtain ⟨y,h1,h2⟩:=NI hT (k.dep+1) k (Nat.lt_succ_self _) t hk hso fuel _ _ hf;refine ⟨y,⟨_,h1,?_⟩,h2⟩;obtain ⟨e,e1,e2⟩:=UT hT hk;unfold Kd.mkV;rw [<-e2];unfold Value.okWide at hok;rw [e1] at hok;have one:Cell.okWide P w r base t v->v.cells=#[v]:=by
  intro h
  by_cases hv:∃cs,v=.agg cs
  ·obtain ⟨cs,rfl⟩:=hv
   unfold Cell.okWide at h;rw [e1] at h;cases e<;>simp [Cell.ok,e1] at h
  ·cases v<;>first | rfl | exact absurd ⟨_,rfl⟩ hv
 cases e<;>simp only [SE,Ca,Bx,By] at hok ⊢
 case struct=>obtain ⟨cs,rfl,_⟩:=hok; simp [Value.cells]
 case array=>obtain ⟨cs,rfl,_⟩:=hok; simp [Value.cells]
 all_goals (rw [one hok]; rfl)
def LK (T:Tab):Ins->List TypeId->Bool
 | [],[]=>true
 | (b,k)::l,t::ts=>Bool.not b&&kdIs T t k&&k.slOK&&LK T l ts
 | _,_=>false
def FitA:(l:Ins)->AT l->Prop
 | [],_=>True
 | (_,k)::l,x=>Fit k x.1/\FitA l x.2
theorem UR (hT:D3 P T) {r:Go.Reach} {base:Nat}:∀(ins:Ins) (ts:List TypeId) (vs:List Value) (ds:List (DataW H)) (ps:List MemPlace),LK T ins ts=true->DataW.TrodAll enc P w 0 (λ_=>true) true ts vs ds ps->
  (∀(j:Nat) t v,ts[j]?=some t->vs[j]?=some v->Value.okWide P w r base t v)->∃x:AT ins,ArgsG (λb=>b<w.heap.size) w (avs ins x) [] vs/\FitA ins x
 | [],[],vs,ds,ps,_,h,_=>by
  cases vs<;>cases ds<;>simp [DataW.TrodAll] at h
  exact ⟨(),⟨rfl,rfl⟩,trivial⟩
 | [],_::_,_,_,_,h,_,_=>by simp [LK] at h
 | (b,k)::l,[],_,_,_,h,_,_=>by simp [LK] at h
 | (b,k)::l,t::ts,vs,ds,ps,h,ht,hok=>by
  simp only [LK,Ab,Bool.not_eq_true'] at h;obtain ⟨⟨⟨h0,h1⟩,h2⟩,h3⟩:=h;subst h0;cases vs with
  | nil=>simp [DataW.TrodAll] at ht
  | cons v vs=>
   cases ds with
   | nil=>simp [DataW.TrodAll] at ht
   | cons d ds=>
    obtain ⟨p,q,ht1,ht2,_⟩:=ht;obtain ⟨y,g1,g2⟩:=zur hT (Ea h1) h2 (hok 0 t v rfl rfl) ht1;obtain ⟨z,g3,g4⟩:=UR hT l ts vs ds q h3 ht2 (λj t v h5 h6=>hok (j+1) t v (by simpa using h5) (by simpa using h6));exact ⟨(y,z),⟨v,vs,rfl,g1,g3⟩,g2,g4⟩
theorem M6 (hl:laidOutB P=true) {W W':World} (hb:Below W.heap.size W W'):∀{ts:List TypeId} {vs:List Value} {ds:List (DataW H)} {ps:List MemPlace},(ts.all λt=>P.readableRec t&&decide (t<P.types.size))=true->
  DataW.TrodAll enc P W 0 (λ_=>true) true ts vs ds ps->(∀x∈ps,x.block<W.heap.size)->DataW.TrodAll enc P W' 0 (λb=>decide (b<W.heap.size)) true ts vs ds ps
 | [],vs,ds,ps,_,h,_=>by
  cases vs<;>cases ds<;>simp [DataW.TrodAll] at h ⊢
  exact h
 | t::ts,[],ds,ps,_,h,_=>by simp [DataW.TrodAll] at h
 | t::ts,v::vs,[],ps,_,h,_=>by simp [DataW.TrodAll] at h
 | t::ts,v::vs,d::ds,ps,hr,⟨p,q,h1,h2,e⟩,hlt=>by
  rw [List.all_cons,Ab,Ab] at hr;subst e;exact ⟨p,q,Below.trod hl hr.1.1 (Bw hr.1.2) h1 hb (λx hx=>hlt x (List.mem_append_left _ hx)),M6 hl hb hr.2 h2 (λx hx=>hlt x (List.mem_append_right _ hx)),rfl⟩
theorem law_calls (hT:D3 P T) (hl:laidOutB P=true) {f:FuncId} {fn:Func} {s:ChangeSpec} {ins:Ins} {F:(R:Type)->AT ins->(RT [(false,.bool)]->PT ins->Option R)->Option R}
  (hent:∀args w,(callFunc f args).run P w=.ok (.enter f args) w) (hH:Ent.OK P ⟨f,ins,[(false,.bool)],F⟩) (hF:∀x,FitA ins x->F Unit x (λy _=>match y.1 with | true=>some () | false=>none)=some ())
  (hins:LK T ins fn.params.toList=true) (hread:(fn.params.toList.all λt=>P.readableRec t&&decide (t<P.types.size))=true) {tb:TypeId} (hres:fn.resultTypes=#[tb]) (htb:P.underlying tb=some .bool) (hvars:s.vars=[])
  (hs:∀ds:List (DataW H),ds.length=fn.params.size->(s.fn H ds).results=[.lit (.bool true)]/\(s.fn H ds).args=ds/\(s.fn H ds).vars=[])
  (W:World) (base:Nat) (args:Array Value) (ds gs:List (DataW H)) (before:List MemPlace)
  (hval:∀(j:Nat) t v,fn.params[j]?=some t->args[j]?=some v->Value.okWide P W .any base t v)
  (hW:DataW.Whole enc P fn.params.toList s.vars false W args.toList ds gs before) (hTB:TB (λb=>b<W.heap.size) W:=by intro g hg; exact nomatch (show (none:Option Nat)=some g from hg)):
  Calls P f args W λe W'=>∃v,e=.returned v/\s.post enc P fn false true false false W args v W':=by
 have hW':=hW;obtain ⟨p,q,hA,hV,rfl,_,_⟩:=hW;rw [hvars] at hV;obtain ⟨rfl,rfl⟩:=trodVars_none hV;have hlt:∀x∈p,x.block<W.heap.size:=λx hx=>hW'.lt x (by simpa using hx)
 obtain ⟨x,hargs,hfit⟩:=UR hT ins fn.params.toList args.toList ds p hins hA (λj t v h1 h2=>hval j t v (by simpa using h1) (by simpa using h2));obtain ⟨y,pp,hHo,hk⟩:=hH Unit x _ _ (hF x hfit);have hy:y.1=true:=by
  cases hy:y.1 with
  | true=>rfl
  | false=>simp only [hy] at hk; cases hk
 have hHo:JL P f (avs ins x) (rvs [(false,.bool)] y) (tvs ins pp):=by
  rcases hHo with h | ⟨_,h⟩
  ·exact h
  ·obtain ⟨v,w',h1,_⟩:=h W (λb=>b<W.heap.size) args.toList ⟨λb hb=>hb,hTB⟩ hargs
   rw [hent] at h1;cases h1
 have hC:=hHo.2 W (λb=>b<W.heap.size) [] args.toList ⟨λb hb=>hb,hTB⟩ (by simp) hargs;have harr:args.toList.toArray=args:=by simp
 rw [harr] at hC;refine hC.mono λe W' he=>?_
 cases e with
 | panicked _=>exact he.elim
 | outgrown=>exact he.elim
 | returned v=>
  obtain ⟨S',vs,gs,rfl,_,_,hfr,hres',_,_⟩:=he;refine ⟨_,rfl,?_⟩;have hb:Below W.heap.size W W':=⟨hfr.os,hfr.tape,hfr.output,hfr.size,λk hk=>hfr.block k hk (λe he=>by cases he) id⟩
  obtain ⟨v1,vs',rfl,hv1,e1⟩:=hres';obtain ⟨rfl,_⟩:=e1;have hv:v1=.bool true:=by
   have h1:VRd S' W' .bool y.1 v1:=hv1;rw [hy] at h1;exact VRd.bool.1 h1
  subst hv;have hlen:ds.length=fn.params.size:=by
   have:∀{ts:List TypeId} {vs:List Value} {ds:List (DataW H)} {ps:List MemPlace},DataW.TrodAll enc P W 0 (λ_=>true) true ts vs ds ps->ds.length=ts.length:=by
    intro ts
    induction ts with
    | nil=>intro vs ds ps h; cases vs<;>cases ds<;>simp [DataW.TrodAll] at h ⊢
    | cons t ts ih=>
     intro vs ds ps h;cases vs<;>cases ds<;>simp only [DataW.TrodAll] at h
     obtain ⟨_,_,_,h2,_⟩:=h;simp [ih h2]
   rw [this hA]; simp
  obtain ⟨s1,s2,s3⟩:=hs ds hlen;refine ⟨ds,[],p++[],[],p,[],hW',?_,?_,?_,hb.frame _,λh=>by cases h⟩
  ·rw [B0,s1,hres]
   exact trodAll_mk1 ⟨1,by simp [Km,Value.resultList,Value.cells,DataW.trod,htb]⟩
  ·rw [B0,s2]
   exact M6 hl hb hread hA hlt
  ·rw [hvars,B0,s3]; rfl
end
section
variable {P:Program} {T:Tab}
def valB:Value->Value->Bool
 | .int k n,.int k' m=>Kd.ikb k k'&&decide (n=m)
 | .bool a,.bool b=>a==b
 | .string s,.string t=>Nat.beq s.size 0&&Nat.beq t.size 0
 | .slice none 0 0,.slice none 0 0=>true
 | .map none,.map none=>true
 | .nilFunc,.nilFunc=>true
 | _,_=>false
def za6:List Value->List Value->Bool
 | [],[]=>true
 | a::l,b::m=>valB a b&&za6 l m
 | _,_=>false
theorem Sd {s:ByteArray} (h:s.size=0):s=ByteArray.empty:=by
 obtain ⟨a⟩:=s;have:a.size=0:=h;have:a=#[]:=Array.eq_empty_of_size_eq_zero this;subst this; rfl
theorem zic {a b:Value} (h:valB a b=true):a=b:=by
 unfold valB at h;split at h
 ·rw [Ab] at h
  rw [Kd.ikb_eq h.1,Bw h.2]
 ·simp at h; rw [h]
 ·rw [Ab] at h
  rw [Sd (Aa h.1),Sd (Aa h.2)]
 ·rfl
 ·rfl
 ·rfl
 ·cases h
theorem GX:∀{a b:List Value},za6 a b=true->a=b
 | [],[],_=>rfl
 | [],_::_,h=>by cases h
 | _::_,[],h=>by cases h
 | x::l,y::m,h=>by
  simp only [za6,Ab] at h;rw [zic h.1,GX h.2]
def tyB (P:Program) (T:Tab) (t:TypeId) (d:TyD):Bool:=
 match P.info? t with
 | none=>false
 | some i=>Nat.beq i.size d.size&&Nat.beq i.bytes d.bytes&&match d.kd with
  | none=>true
  | some k=>(match i.zero with | none=>false | some z=>za6 z.cells.toList k.zcells&&(if aggV z then k.agg else !k.agg))&&Nat.beq k.size d.size&&Fk T d.desc k
theorem Dx {t:TypeId} {d:TyD} (h1:P.underlying t=some d.desc) (h2:tyB P T t d=true):TyOK P T t d:=by
 unfold tyB at h2;split at h2
 ·cases h2
 ·rename_i i hi
  simp only [Ab] at h2;obtain ⟨⟨h3,h4⟩,h5⟩:=h2;refine ⟨h1,⟨i,hi,Aa h3,Aa h4,λk hk=>?_⟩,λk hk=>?_⟩
  ·rw [hk] at h5
   simp only [Ab] at h5;obtain ⟨⟨h6,_⟩,_⟩:=h5;split at h6
   ·cases h6
   ·rename_i z hz
    rw [Ab] at h6;have:=GX h6.1;refine ⟨z,hz,by rw [<-this],?_⟩;have h7:=h6.2;cases ha:aggV z<;>rw [ha] at h7<;>simp at h7<;>exact h7.symm
  ·rw [hk] at h5
   simp only [Ab] at h5;exact ⟨Aa h5.1.2,h5.2⟩
theorem E3 {α:Type} {p:α->Prop}:∀x∈([]:List α),p x:=λ_ h=>by cases h
theorem Dp {α:Type} {p:α->Prop} {a:α} {l:List α} (h:p a) (hl:∀x∈l,p x):∀x∈a::l,p x:=λx hx=>by
 rcases Cd.1 hx with rfl | hx
 ·exact h
 ·exact hl x hx
theorem Dl {p:Ent->Prop}:∀x∈([]:List Ent),p x:=λ_ h=>by cases h
theorem Dk {p:Ent->Prop} {a:Ent} {l:List Ent} (h:p a) (hl:∀x∈l,p x):∀x∈a::l,p x:=λx hx=>by
 rcases Cd.1 hx with rfl | hx
 ·exact h
 ·exact hl x hx
theorem H5 {p:EntF->Prop}:∀x∈([]:List EntF),p x:=λ_ h=>by cases h
theorem Iw {p:EntF->Prop} {a:EntF} {l:List EntF} (h:p a) (hl:∀x∈l,p x):∀x∈a::l,p x:=λx hx=>by
 rcases Cd.1 hx with rfl | hx
 ·exact h
 ·exact hl x hx
theorem JI {p:EntC->Prop}:∀x∈([]:List EntC),p x:=λ_ h=>by cases h
theorem Y8 {p:EntC->Prop} {a:EntC} {l:List EntC} (h:p a) (hl:∀x∈l,p x):∀x∈a::l,p x:=λx hx=>by
 rcases Cd.1 hx with rfl | hx
 ·exact h
 ·exact hl x hx
theorem zf3 {f:FuncId} {e:Kd} {lim:Nat} (h:Wj P f e lim):∀f' e' lim',Vr [(f,e,lim)] f'=some (e',lim')->Wj P f' e' lim':=λf' e' lim' h'=>by
 simp only [Vr] at h';split at h'
 ·rename_i hb
  have:=Aa hb;subst this;cases h';exact h
 ·cases h'
theorem zba (h:∀p∈T,TyOK P T p.1 p.2):D3 P T:=by
 have key:∀(l:Tab) t d,Kj l t=some d->(t,d)∈l:=by
  intro l
  induction l with
  | nil=>intro t d h; cases h
  | cons p l ih=>
   intro t d h;obtain ⟨i,e⟩:=p;simp only [Kj] at h;split at h
   ·rename_i hb
    have:=Aa hb;subst this;cases h;simp
   ·exact Cf _ (ih t d h)
 exact λt d hd=>h (t,d) (key T t d hd)
def E2:List (Nat×Nat)->Nat->Nat->Bool
 | [],_,_=>false
 | (a,b)::l,r,i=>match Nat.beq a r with
  | true=>match Nat.beq b i with | true=>true | false=>E2 l r i
  | false=>E2 l r i
def Rv (id:Nat):Code->Option Code
 | .seq a b=>match Rv id a with | some c=>some c | none=>Rv id b
 | .cond _ a b=>match Rv id a with | some c=>some c | none=>Rv id b
 | .block _ c=>Rv id c
 | .loop c=>match Nat.beq (H3 c) id with | true=>some c | false=>Rv id c
 | _=>none
def Ds (f:Func):Code:=f.body.getD .skip
def Fu (id:Nat) (c:Code):Code:=(Rv id c).getD .skip
def zce:List LEnt->Nat->Option LEnt
 | [],_=>none
 | e::l,id=>match Nat.beq id e.id with | true=>some e | false=>zce l id
theorem Lq {R:Type} {E:Env R} {c:Code} {l:List LEnt} {e:LEnt} (hl:E.loop=Et l R) (hk:zce l (H3 c)=some e) (h:e.OK P E.np E.nt c):Ja E P c:=by
 intro σ K r hh;rw [hl] at hh;clear hl
 induction l with
 | nil=>cases hh
 | cons e' l ih=>
  simp only [Et] at hh;simp only [zce] at hk;split at hh
  ·rename_i hid
   rw [hid] at hk;cases hk;split at hh<;>try (cases hh; done)
   rename_i x hx;obtain ⟨ex,Hy,y,ho,hL⟩:=h.2 R x _ r hh;refine ⟨ex,stOf Hy y e.nx,UU ho,λC e1 e2 hg Q hQ pl S a w hI=>NF ?_⟩;obtain ⟨pl',S',hI'⟩:=Oo hx (by rw [<-e1]; exact h.1.2) (λsv v hh=>h.1.1 sv (by rw [e2]; exact hg (by simp [Dy]) sv v hh)) hI;exact hL e.nx C e1 e2 (hg (by simp [Dy])) Q hQ pl' S' a w hI'
  ·rename_i hid
   rw [hid] at hk;exact ih hk hh
theorem SO:∃n:Nat,n=18446744073709551616:=⟨_,rfl⟩
def FUEL:Nat:=Classical.choose SO
end
theorem Fj (n:Int):u64.wrap n=n % 18446744073709551616:=by
 unfold IntKind.wrap; simp [IntKind.signed,IntKind.bits]
theorem Gb (n:Int):u32.wrap n=n % 4294967296:=by
 unfold IntKind.wrap; simp [IntKind.signed,IntKind.bits]
theorem Gx (n:Int):u8.wrap n=n % 256:=by
 unfold IntKind.wrap; simp [IntKind.signed,IntKind.bits]
theorem Iz (n:Int):i64.wrap n=if n % 18446744073709551616>=9223372036854775808 then n % 18446744073709551616 - 18446744073709551616 else n % 18446744073709551616:=by
 unfold IntKind.wrap; simp [IntKind.signed,IntKind.bits]
theorem wrap_i64 {n:Int} (h1: -9223372036854775808<=n) (h2:n<=9223372036854775807):i64.wrap n=n:=by
 rw [Iz]; split<;>omega
theorem Dt {n:Int} (h1:0<=n) (h2:n<=18446744073709551615):u64.wrap n=n:=by
 rw [Fj]; omega
theorem Fw {n:Int} (h1:0<=n) (h2:n<=4294967295):u32.wrap n=n:=by
 rw [Gb]; omega
theorem NE {n:Int} (h1:0<=n) (h2:n<=255):u8.wrap n=n:=by
 rw [Gx]; omega
theorem SR {x:Int} (h:Fit (.int .i64) x): -9223372036854775808<=x/\x<=9223372036854775807:=h
theorem zle {x:Int} (h:Fit (.int .u64) x):0<=x/\x<=18446744073709551615:=h
theorem zt2 {x:Int} (h:Fit (.int .u8) x):0<=x/\x<=255:=h
theorem Dv:FUEL=18446744073709551616:=Classical.choose_spec SO
section
variable {P:Program} {R:Type} {E:Env R}
def xone (E:Env R) (body:Code) (res:List (ResultVar×TypeId×Bool)) (sv:SV) (K:List RV->List TV->Option R):Option R:=
 exec E body ⟨[(0,sv)],[],E.np⟩ λe σ=>match e with
  | .exit _=>none
  | _=>match xres E (mget σ.me) σ.tm [] res with
   | none=>none
   | some (rs,wr)=>match Tl (laid wr (mget σ.me)) 0 E.np with
    | some outs=>K rs outs
    | none=>none
theorem Tw (hE:D7 P E) (hm:P.follows .mixedOrders=true) {f:FuncId} {fn:Func} {body:Code} (hf:P.funcs[f]?=some fn) (hb:fn.body=some body)
  (hnt:fn.ntmps=E.nt) {res:List (ResultVar×TypeId×Bool)} (hres:fn.results.toList=res.map (·.1)) (hnp:E.np=0) (hle:1<=E.nt.n) (hl:∀l∈Dy body,Ja E P l) {sv:SV}
  {K:List RV->List TV->Option R} {r:R} (h:xone E body res sv K=some r):
  ∃rs outs,K rs outs=some r/\∀(w:World) (S:Nat->Prop) (v:Value),ShOK S w->G S w (λ_=>none) (λ_=>⟨none,0,0⟩) sv v->
   Calls P f #[v] w fun
    | .returned v',w'=>Post S w [] rs outs v' w'
    | _,_=>False:=by
 unfold xone at h;obtain ⟨e,σ,h1,_,h2⟩:=Gg hE hm body hl _ _ _ h;have h1':(e=.normal\/e=.ret)/\∃rs wr outs,xres E (mget σ.me) σ.tm [] res=some (rs,wr)/\Tl (laid wr (mget σ.me)) 0 E.np=some outs/\K rs outs=some r:=by
  cases e with
  | exit i=>simp at h1
  | normal=>
   simp only at h1;split at h1<;>try (cases h1; done)
   rename_i rs wr hx;split at h1<;>try (cases h1; done)
   rename_i outs ho;exact ⟨.inl rfl,rs,wr,outs,hx,ho,h1⟩
  | ret=>
   simp only at h1;split at h1<;>try (cases h1; done)
   rename_i rs wr hx;split at h1<;>try (cases h1; done)
   rename_i outs ho;exact ⟨.inr rfl,rs,wr,outs,hx,ho,h1⟩
 obtain ⟨he,rs,wr,outs,hx,ho,hK⟩:=h1';refine ⟨rs,outs,hK,λw S v hS hG=>?_⟩;refine calls_of_wp hf hb ((wpIn_wide (n:=0)).1 ?_)
 let C:Ctx:=⟨w,S,E.nt,[],λ_ _=>False,λ_=>False,none,[],undef⟩
 refine h2 C hnp rfl (λ_ _ _ h=>h.elim) (bodyPost P fn _) (λpl' S' a' w' hI'=>?_) (λ_=>⟨none,0,0⟩) S _ w ?_
 ·obtain ⟨S2,vs2,gs,g1,g2,⟨g3a,g3⟩,g4,_,_⟩:=Gw (C:=C) (λ_ h=>h) hE.tab hnp rfl res [] (mget σ.me) rs wr (mget σ.me) S' hx rfl hI'
  have hrun:=G6 hres g3a;have hpost:Post S w [] rs outs (Km vs2) w':=by
   refine ⟨S2,_,gs,rfl,g1.s0,λb hb=>⟨(g1.sfr b hb).1,(g1.sfr b hb).2.imp id (λh=>h.resolve_right id)⟩,g1.fr,g3,g4,?_⟩;have:=Jv (C:=C) (λ_ h=>h) g1 E.np 0 outs ho (by rw [hnp]; rfl);simpa using this
  rcases he with rfl | rfl
  ·exact ⟨hI'.df,_,hrun,hpost⟩
  ·exact ⟨hI'.df,_,hrun,hpost⟩
 ·have hsz:(#[v]++Array.replicate (fn.ntmps - (#[v]:Array Value).size) undef).size=E.nt.n:=by
   have hnn:E.nt.n=fn.ntmps:=by rw [<-hnt]
   simp only [B5,Cp,Bi,Af,Bz];omega
  refine ⟨⟨hsz,λd hd=>by have hd':E.nt.rd=some d:=hd; rw [<-hnt] at hd'; cases hd'⟩,rfl,λt=>?_,λi b hi=>(by cases hi),λi b hi=>(by cases hi),λi j bi bj g _ hi=>(by cases hi),λ_ h=>h,λb hb=>⟨hS.1 b hb,.inl hb⟩,⟨rfl,rfl,rfl,Al _,λ_ _ _ _=>rfl,λe he=>(by cases he)⟩,⟨λe he=>(by cases he),hS.2,λg hg=>⟨λe he=>(by cases he),λh=>h⟩⟩,λ_ _ h=>h.elim⟩;rw [E5]
  by_cases et:t=0
  ·subst et
   rw [Dr];have e1:(#[v]++Array.replicate (fn.ntmps - (#[v]:Array Value).size) undef).getD 0 undef=v:=by
    rw [Ao,Cr (by simp)]; rfl
   rw [e1];exact hG
  ·rw [Dm _ _ et]; trivial
theorem Ls {e:Kd} (Eg:Env (RT [(true,e)])) {f:FuncId} {fn:Func} {body:Code} (hE:D7 P Eg) (hm:P.follows .mixedOrders=true) (hf:P.funcs[f]?=some fn) (hb:fn.body=some body)
  (hname:(fn.name== "runtime.NumGoroutine")=false) (hnt:fn.ntmps=Eg.nt) {res:List (ResultVar×TypeId×Bool)} (hres:fn.results.toList=res.map (·.1)) (hnp:Eg.np=0) (hle:1<=Eg.nt.n) (hl:Dy body=[])
  {lim:Nat} (h0:xone Eg body res .nil (finK [(true,e)] [(false,.sl e)] (λy _=>some y))=some ([],()))
  (h1:∀l:List e.T,xone Eg body res (.nnv e l) (finK [(true,e)] [(false,.sl e)] (λy _=>some y))=(match decide (List.length ([]:List e.T)+List.length l<=lim) with | true=>some (l,()) | false=>none)):
  Ent.OK P ⟨f,[(false,.sl e)],[(true,e)],λR x k=>match decide (List.length ([]:List e.T)+List.length (show List e.T from x.1)<=lim) with | true=>k (x.1,()) () | false=>none⟩:=by
 have hl':∀l∈Dy body,Ja Eg P l:=by rw [hl]; intro l h; cases h
 have fink:∀{rs:List RV} {outs:List TV} {y:RT [(true,e)]},finK [(true,e)] [(false,.sl e)] (λy _=>some y) rs outs=some y->rs=rvs [(true,e)] y/\outs=[]:=by
  intro rs outs y h;unfold finK at h;split at h<;>try (cases h; done)
  rename_i y' hy';split at h<;>try (cases h; done)
  rename_i p hp;cases h;exact ⟨Lt hy',Nu hp⟩
 intro R x k r hr;simp only at hr;split at hr<;>try (cases hr; done)
 rename_i hlen;refine ⟨(x.1,()),(),.inl ⟨enters hf hname (by rw [hb]; rfl),λw S pp vs hS _ hA=>?_⟩,hr⟩;obtain ⟨v,vs',rfl,hv,rfl,rfl⟩:=hA;have hv':VRd S w (.sl e) x.1 v:=hv
 by_cases hnil:v=.slice none 0 0
 ·have hx:(show List e.T from x.1)=[]:=by
   rcases VRd.sl.1 hv' with ⟨_,h⟩ | ⟨g,off,cap,c,t,fr,h,_⟩ | ⟨a0,h,_⟩
   rotate_left 2
   ·rw [hnil] at h; cases h
   ·exact h
   ·rw [hnil] at h; cases h
  obtain ⟨rs,outs,hK,hC⟩:=Tw hE hm hf hb hnt hres hnp hle hl' h0;obtain ⟨rfl,rfl⟩:=fink hK;have:=hC w S v hS hnil;have hx':x.1=([]:List e.T):=hx;rw [hx'];exact this
 ·have h2:=h1 x.1
  rw [show decide (List.length ([]:List e.T)+List.length (show List e.T from x.1)<=lim)=true from hlen] at h2;obtain ⟨rs,outs,hK,hC⟩:=Tw hE hm hf hb hnt hres hnp hle hl' h2;obtain ⟨rfl,rfl⟩:=fink hK;exact hC w S v hS ⟨hnil,hv'⟩
end
section
variable {P:Program} {T:Tab}
mutual
def eqB (P:Program) (T:Tab):Nat->TypeId->Kd->Bool
 | 0,_,_=>false
 | n+1,t,k=>match k with
  | .int _=>true
  | .bool=>true
  | .str=>true
  | .sl _=>false
  | .arr _ e=>match E0 T t with
   | some (.array _ et)=>eqB P T n et e
   | _=>false
  | k=>match E0 T t with
   | some (.struct fs)=> !(P.stoodInHeld t)&&eqFB P T n fs.toList k
   | _=>false
def eqFB (P:Program) (T:Tab):Nat->List Field->Kd->Bool
 | 0,_,_=>false
 | n+1,fs,k=>match fs,k with
  | [],.unit=>true
  | f::fs,.pair a b=> !(f.name== "_")&&eqB P T n f.type a&&eqFB P T n fs b
  | _,_=>false
end
theorem Lj (hT:D3 P T) {S:Nat->Prop} {w:World} {t:TypeId} {k:Kd} {x:k.T} (h:tkd T t=some k) {cs:Array Value} {off:Nat} {seg:List Value} (hs:seg=(cs.toList.drop off).take k.size) (hr:Rd S w k x seg):
  (part t cs off).run P w=.ok (k.mkV seg) w:=by
 unfold part;simp only [As,Jm hT w h,Av];unfold Kd.mkV
 by_cases ha:k.agg=true
 ·simp only [ha,Ca,As,D1 hT w h,Av,A1]
  congr 2
  apply Bq;rw [Array.toList_extract,List.extract_eq_take_drop,hs];simp
 ·have ha':k.agg=false:=by simpa using ha
  have hl:=Rd.length k x seg hr;have h1:k.size=1:=by cases k<;>simp [Kd.agg] at ha'<;>rfl
  rw [h1] at hl hs;obtain ⟨v,rfl⟩:=List.length_eq_one_iff.1 hl;have hv:cs[off]?=some v:=by
   have:(cs.toList.drop off)[0]?=some v:=by
    have h2:((cs.toList.drop off).take 1)[0]?=some v:=by rw [<-hs]; rfl
    rwa [List.getElem?_take,Aj (by omega)] at h2
   rw [Ay] at this;simpa using this
  simp [ha',hv]
theorem IY {S:Nat->Prop} {w:World} (hT:D3 P T) {d:Nat} {t:TypeId} {e:Kd} (he:tkd T t=some e) {X Y:Array Value} {xs ys:List e.T} (hx:RdL (Rd S w e) xs X.toList) (hy:RdL (Rd S w e) ys Y.toList) (hl:ys.length=xs.length)
  (ih:∀(x y:e.T) (cx cy:List Value),Rd S w e x cx->Rd S w e y cy->(Op.equalIn d t (e.mkV cx) (e.mkV cy)).run P w=.ok (e.eqv x y) w):
  ∀(m i:Nat),i+m=xs.length->(Op.eqItems d t e.size X Y (List.range' i m)).run P w=.ok (eqvL e.eqv (xs.drop i) (ys.drop i)) w
 | 0,i,h=>by
  rw [Bg (by omega)];simp [Op.eqItems,eqvL]
 | m+1,i,h=>by
  have hi:i<xs.length:=by omega
  have hi':i<ys.length:=by omega
  obtain ⟨a1,a2,a3,ea,la,ra,_⟩:=RdL.nth (Rd.length e) i e.zero hx hi;obtain ⟨b1,b2,b3,eb,lb,rb,_⟩:=RdL.nth (Rd.length e) i e.zero hy hi';have sa:=Rd.length e _ _ ra;have sb:=Rd.length e _ _ rb;have ga:a2=(X.toList.drop (i*e.size)).take e.size:=by rw [ea,Ah,<-la,Bc,<-sa,Bp]
  have gb:b2=(Y.toList.drop (i*e.size)).take e.size:=by rw [eb,Ah,<-lb,Bc,<-sb,Bp]
  rw [List.range'_succ];simp only [Op.eqItems,As,Lj hT he ga ra,Lj hT he gb rb,Av,ih _ _ _ _ ra rb];rw [Co hi,Co hi'];have g1:xs.getD i e.zero=xs[i]:=by simp [hi]
  have g2:ys.getD i e.zero=ys[i]:=by simp [hi']
  rw [g1,g2];simp only [eqvL];cases hb:e.eqv xs[i] ys[i] with
  | true=>simpa using IY hT he hx hy hl ih m (i+1) (by omega)
  | false=>simp
theorem Yr {S:Nat->Prop} {w:World} (hT:D3 P T) {d:Nat} {X Y:Array Value}:∀(fs:List Field) (k:Kd) (off n:Nat) (x y:k.T),D4 T fs off k=true->eqFB P T n fs k=true->
  Rd S w k x (X.toList.drop off)->Rd S w k y (Y.toList.drop off)->
  (∀(f:Field) (kf:Kd) (m:Nat),f∈fs->kf.dep<k.dep->tkd T f.type=some kf->eqB P T m f.type kf=true->∀(x y:kf.T) (cx cy:List Value),Rd S w kf x cx->Rd S w kf y cy->(Op.equalIn d f.type (kf.mkV cx) (kf.mkV cy)).run P w=.ok (kf.eqv x y) w)->
  (Op.eqFields d X Y fs).run P w=.ok (k.eqv x y) w
 | [],k,off,n,x,y,h,h2,_,_,_=>by
  cases k<;>simp only [D4,reduceCtorEq] at h
  simp [Op.eqFields,Kd.eqv]
 | f::fs,k,off,0,x,y,h,h2,_,_,_=>by simp [eqFB] at h2
 | f::fs,k,off,n+1,x,y,h,h2,hx,hy,ih=>by
  cases k<;>simp only [D4,reduceCtorEq,Ab] at h
  rename_i a b;obtain ⟨⟨⟨q1,q2⟩,q3⟩,q4⟩:=h;simp only [eqFB,Ab,Bool.not_eq_true'] at h2;obtain ⟨⟨w1,w2⟩,w3⟩:=h2;have hoff:=Aa q1;have ha:=Ea q2;obtain ⟨c1,c2,ec,rx1,rx2⟩:=hx;obtain ⟨d1,d2,ed,ry1,ry2⟩:=hy;have lc:=Rd.length a _ _ rx1;have ld:=Rd.length a _ _ ry1;have g1:c1=(X.toList.drop f.offset).take a.size:=by rw [hoff,ec,<-lc,Bp]
  have g2:d1=(Y.toList.drop f.offset).take a.size:=by rw [hoff,ed,<-ld,Bp]
  have e1:X.toList.drop (off+a.size)=c2:=by rw [<-A9,ec,<-lc,Bc]
  have e2:Y.toList.drop (off+a.size)=d2:=by rw [<-A9,ed,<-ld,Bc]
  have hn:f.name≠ "_":=by simpa using w1
  have rest:=Yr hT fs b (off+a.size) n x.2 y.2 q4 w3 (by rw [e1]; exact rx2) (by rw [e2]; exact ry2) (λg kg m hg hlt hk hq=>ih g kg m (by simp [hg]) (by simp only [Kd.dep]; omega) hk hq);simp only [Op.eqFields,Aj hn,As,Lj hT ha g1 rx1,Lj hT ha g2 ry1,Av,ih f a n (by simp) (by simp only [Kd.dep]; omega) ha w2 _ _ _ _ rx1 ry1];simp only [Kd.eqv];cases hb:a.eqv x.1 y.1 with
  | true=>simpa using rest
  | false=>simp
theorem zlg:∀(m:Nat) (fs:List Field),¬eqFB P T m fs .mp=true
 | 0,_=>by simp [eqFB]
 | m+1,fs=>by cases fs<;>simp [eqFB]
theorem zf6 (m:Nat) {t:TypeId}:¬eqB P T (m+1) t .mp=true:=by
 intro h;simp only [eqB] at h;split at h
 ·simp only [Ab] at h
  exact zlg m _ h.2
 ·cases h
theorem zlh:∀(m:Nat) (fs:List Field),¬eqFB P T m fs .fn=true
 | 0,_=>by simp [eqFB]
 | m+1,fs=>by cases fs<;>simp [eqFB]
theorem zf7 (m:Nat) {t:TypeId}:¬eqB P T (m+1) t .fn=true:=by
 intro h;simp only [eqB] at h;split at h
 ·simp only [Ab] at h
  exact zlh m _ h.2
 ·cases h
theorem Vz (hT:D3 P T) {S:Nat->Prop} {w:World}:∀(n:Nat) (k:Kd),k.dep<=n->∀(t:TypeId) (m:Nat),tkd T t=some k->eqB P T m t k=true->∀(d:Nat),n<=d->∀(x y:k.T) (cx cy:List Value),Rd S w k x cx->Rd S w k y cy->
  (Op.equalIn d t (k.mkV cx) (k.mkV cy)).run P w=.ok (k.eqv x y) w
 | 0,k,hk,_,_,_,_,_,_,_,_,_,_,_,_=>by cases k<;>simp [Kd.dep] at hk
 | n+1,k,hk,t,0,_,hq,_,_,_,_,_,_,_,_=>by simp [eqB] at hq
 | n+1,k,hk,t,m+1,ht,hq,0,hd,_,_,_,_,_,_=>by omega
 | n+1,k,hk,t,m+1,ht,hq,d+1,hd,x,y,cx,cy,hx,hy=>by
  obtain ⟨dd,h1,h2,h3⟩:=Fb hT ht;have hu:=h3.und;have hdo:=(h3.kd k h2).2;have htd:E0 T t=some dd.desc:=by simp [E0,h1]
  have struct:∀(hst:k.agg=true) (hna:∀n e,k≠.arr n e),(match E0 T t with | some (.struct fs)=> !(P.stoodInHeld t)&&eqFB P T m fs.toList k | _=>false)=true->(Op.equalIn (d+1) t (k.mkV cx) (k.mkV cy)).run P w=.ok (k.eqv x y) w:=by
   intro hst hna hq;rw [htd] at hq;split at hq<;>try (cases hq; done)
   rename_i fs hfs;simp only [Ad] at hfs;rw [hfs] at hu hdo;simp only [Ab,Bool.not_eq_true'] at hq;have hfo:D4 T fs.toList 0 k=true:=by simpa [Fk] using hdo
   have hfs':P.fieldsOf t=fs:=by simp [Program.fieldsOf,hu]
   have e1:k.mkV cx=.agg cx.toArray:=by simp [Kd.mkV,hst]
   have e2:k.mkV cy=.agg cy.toArray:=by simp [Kd.mkV,hst]
   rw [e1,e2,run_equalIn_struct w d t _ _ (by rw [hfs']; exact hu) hq.1,hfs'];refine Yr (S:=S) hT fs.toList k 0 m x y hfo hq.2 (by simpa using hx) (by simpa using hy) (λf kf m' _ hlt hkf hqf x y cx cy hx hy=>?_);exact Vz hT n kf (by omega) f.type m' hkf hqf d (by omega) x y cx cy hx hy
  cases k with
  | int ik=>
   have hx':cx=[.int ik x]:=hx;have hy':cy=[.int ik y]:=hy;subst hx' hy';have:∃k',P.underlying t=some (.int k'):=by
    cases hdd:dd.desc<;>rw [hdd] at hdo<;>simp [Fk] at hdo
    ·exact ⟨_,by rw [hu,hdd]⟩
    ·have:=E4 hdo; simp [Kd.agg] at this
   obtain ⟨k',hk'⟩:=this;exact run_equalIn_int w d t ik k' x y hk'
  | bool=>
   have hx':cx=[.bool x]:=hx;have hy':cy=[.bool y]:=hy;subst hx' hy';have:P.underlying t=some .bool:=by
    cases hdd:dd.desc<;>rw [hdd] at hdo<;>simp [Fk] at hdo
    ·rw [hu,hdd]
    ·have:=E4 hdo; simp [Kd.agg] at this
   exact run_equalIn_bool w d t x y this
  | str=>
   have hx':cx=[.string x]:=hx;have hy':cy=[.string y]:=hy;subst hx' hy';have:P.underlying t=some .string:=by
    cases hdd:dd.desc<;>rw [hdd] at hdo<;>simp [Fk] at hdo
    ·rw [hu,hdd]
    ·have:=E4 hdo; simp [Kd.agg] at this
   exact run_equalIn_string w d t x y this
  | sl e=>simp [eqB] at hq
  | mp=>exact absurd hq (zf6 m)
  | fn=>exact absurd hq (zf7 m)
  | unit=>exact struct rfl (λ_ _ h=>by cases h) (by simpa only [eqB] using hq)
  | pair a b=>exact struct rfl (λ_ _ h=>by cases h) (by simpa only [eqB] using hq)
  | arr len e=>
   simp only [eqB] at hq;rw [htd] at hq;split at hq<;>try (cases hq; done)
   rename_i len' et hde;simp only [Ad] at hde;rw [hde] at hu hdo;simp only [Fk,Ab] at hdo;have hlen:=Aa hdo.1;subst hlen;have hke:=Ea hdo.2;obtain ⟨de,g1,g2,g3⟩:=Fb hT hke;obtain ⟨i,hi,_⟩:=g3.info;obtain ⟨lx,rx⟩:=hx;obtain ⟨ly,ry⟩:=hy;show (Op.equalIn (d+1) t (.agg cx.toArray) (.agg cy.toArray)).run P w=_;rw [run_equalIn_array w d cx.toArray cy.toArray hu hi,Ic hT hke,List.range_eq_range']
   have:=IY (S:=S) (X:=cx.toArray) (Y:=cy.toArray) (d:=d) hT hke (by simpa using rx) (by simpa using ry) (by rw [lx,ly]) (λx y cx cy hx hy=>Vz hT n e (by simp only [Kd.dep] at hk; omega) et m hke hq d (by omega) x y cx cy hx hy) len' 0 (by rw [lx,Bf]);have h9:(Op.eqItems d et e.size cx.toArray cy.toArray (List.range' 0 len')).run P w=.ok (eqvL e.eqv x y) w:=by simpa using this
   exact h9
theorem Yy (hT:D3 P T) {S:Nat->Prop} {w:World} {em:Bool} {d:Nat} {xs:Array Value}:∀(fs:List Field) (k:Kd) (off m:Nat) (x:k.T),D4 T fs off k=true->eqFB P T m fs k=true->Rd S w k x (xs.toList.drop off)->
  (∀(f:Field) (kf:Kd) (m:Nat),f∈fs->kf.dep<k.dep->tkd T f.type=some kf->eqB P T m f.type kf=true->∀(x:kf.T) (cx:List Value),Rd S w kf x cx->(Instr.checkKey em d f.type (kf.mkV cx)).run P w=.ok () w)->
  ∀f∈fs,∃v,(part f.type xs f.offset).run P w=.ok v w/\(Instr.checkKey em d f.type v).run P w=.ok () w
 | [],_,_,_,_,_,_,_,_=>λf hf=>by cases hf
 | f0::fs,k,off,0,x,hf,hq,hx,ih=>by simp [eqFB] at hq
 | f0::fs,k,off,m+1,x,hf,hq,hx,ih=>by
  cases k<;>simp only [D4,Bx] at hf
  rename_i a b;simp only [Ab] at hf;obtain ⟨⟨⟨f1,f2⟩,f3⟩,f4⟩:=hf;simp only [eqFB,Ab] at hq;obtain ⟨⟨_,q2⟩,q3⟩:=hq;obtain ⟨c1,c2,e1,r1,r2⟩:=hx;have ha:=Ea f2;have l1:=Rd.length a _ _ r1;have e0:f0.offset=off:=Aa f1;have g1:c1=(xs.toList.drop f0.offset).take a.size:=by rw [e0,e1,<-l1,Bp]
  have g2:xs.toList.drop (off+a.size)=c2:=by rw [<-A9,e1,<-l1,Bc]
  intro f hfm;rcases Cd.1 hfm with rfl | hfm
  ·exact ⟨_,Lj hT ha g1 r1,ih f a m (by simp) (by simp only [Kd.dep]; omega) ha q2 _ _ r1⟩
  ·exact Yy hT fs b (off+a.size) m x.2 f4 q3 (by rw [g2]; exact r2) (λg kg mm hg hlt hk hqq=>ih g kg mm (by simp [hg]) (by simp only [Kd.dep]; omega) hk hqq) f hfm
theorem V5 (hT:D3 P T) {S:Nat->Prop} {w:World} (em:Bool):∀(n:Nat) (k:Kd),k.dep<=n->∀(t:TypeId) (m:Nat),tkd T t=some k->eqB P T m t k=true->∀(d:Nat),n<=d->∀(x:k.T) (cx:List Value),Rd S w k x cx->
  (Instr.checkKey em d t (k.mkV cx)).run P w=.ok () w
 | 0,k,hk,_,_,_,_,_,_,_,_,_=>by cases k<;>simp [Kd.dep] at hk
 | n+1,k,hk,t,0,_,hq,_,_,_,_,_=>by simp [eqB] at hq
 | n+1,k,hk,t,m+1,ht,hq,0,hd,_,_,_=>by omega
 | n+1,k,hk,t,m+1,ht,hq,d+1,hd,x,cx,hx=>by
  obtain ⟨dd,h1,h2,h3⟩:=Fb hT ht;have hu:=h3.und;have hdo:=(h3.kd k h2).2;have htd:E0 T t=some dd.desc:=by simp [E0,h1]
  have struct:∀(hst:k.agg=true) (hna:∀n e,k≠.arr n e),(match E0 T t with | some (.struct fs)=> !(P.stoodInHeld t)&&eqFB P T m fs.toList k | _=>false)=true->(Instr.checkKey em (d+1) t (k.mkV cx)).run P w=.ok () w:=by
   intro hst hna hq;rw [htd] at hq;split at hq<;>try (cases hq; done)
   rename_i fs hfs;simp only [Ad] at hfs;rw [hfs] at hu hdo;simp only [Ab,Bool.not_eq_true'] at hq;have hfo:D4 T fs.toList 0 k=true:=by simpa [Fk] using hdo
   have e1:k.mkV cx=.agg cx.toArray:=by simp [Kd.mkV,hst]
   have each:=Yy (em:=em) (d:=d) (S:=S) (w:=w) (xs:=cx.toArray) hT fs.toList k 0 m x hfo hq.2 (by simpa using hx) (λf kf m' _ hlt hkf hqf x cx hx=>V5 hT em n kf (by omega) f.type m' hkf hqf d (by omega) x cx hx);rw [e1,Instr.checkKey];simp only [As,Au hu,Av];rw [<-Array.forIn_toList];generalize fs.toList=L at each
   induction L with
   | nil=>simp
   | cons f L ih=>
    obtain ⟨v,p1,p2⟩:=each f (by simp)
    by_cases hn:f.name= "_"
    ·simp only [List.forIn_cons,As,hn,ne_eq,Cb,By,Av,A1]
     exact ih (λy hy=>each y (by simp [hy]))
    ·simp only [List.forIn_cons,As,hn,ne_eq,not_false_eq_true,Ca,Av,p1,p2,A1]
     exact ih (λy hy=>each y (by simp [hy]))
  cases k with
  | int ik=>
   have hx':cx=[.int ik x]:=hx;subst hx';have:∃k',P.underlying t=some (.int k'):=by
    cases hdd:dd.desc<;>rw [hdd] at hdo<;>simp [Fk] at hdo
    ·exact ⟨_,by rw [hu,hdd]⟩
    ·have:=E4 hdo; simp [Kd.agg] at this
   obtain ⟨k',hk'⟩:=this;simp [Instr.checkKey,Au hk',Kd.mkV,Kd.agg]
  | bool=>
   have hx':cx=[.bool x]:=hx;subst hx';have:P.underlying t=some .bool:=by
    cases hdd:dd.desc<;>rw [hdd] at hdo<;>simp [Fk] at hdo
    ·rw [hu,hdd]
    ·have:=E4 hdo; simp [Kd.agg] at this
   simp [Instr.checkKey,Au this,Kd.mkV,Kd.agg]
  | str=>
   have hx':cx=[.string x]:=hx;subst hx';have:P.underlying t=some .string:=by
    cases hdd:dd.desc<;>rw [hdd] at hdo<;>simp [Fk] at hdo
    ·rw [hu,hdd]
    ·have:=E4 hdo; simp [Kd.agg] at this
   simp [Instr.checkKey,Au this,Kd.mkV,Kd.agg]
  | sl e=>simp [eqB] at hq
  | mp=>exact absurd hq (zf6 m)
  | fn=>exact absurd hq (zf7 m)
  | unit=>exact struct rfl (λ_ _ h=>by cases h) (by simpa only [eqB] using hq)
  | pair a b=>exact struct rfl (λ_ _ h=>by cases h) (by simpa only [eqB] using hq)
  | arr len e=>
   simp only [eqB] at hq;rw [htd] at hq;split at hq<;>try (cases hq; done)
   rename_i len' et hde;simp only [Ad] at hde;rw [hde] at hu hdo;simp only [Fk,Ab] at hdo;have hlen:=Aa hdo.1;subst hlen;have hke:=Ea hdo.2;obtain ⟨lx,rx⟩:=hx;have each:∀j∈List.range' 0 len',∃v,(part et cx.toArray (j*e.size)).run P w=.ok v w/\(Instr.checkKey em d et v).run P w=.ok () w:=λj hj=>by
    have hj':j<List.length x:=by simp [List.mem_range'] at hj; omega
    obtain ⟨c1,c2,c3,ee,hl,hr2,_⟩:=RdL.nth (Rd.length _) j (Kd.zero _) rx hj';have l2:=Rd.length _ _ _ hr2;refine ⟨_,Lj hT hke (seg:=c2) ?_ hr2,V5 hT em n e (by simp only [Kd.dep] at hk; omega) et m hke hq d (by omega) _ c2 hr2⟩;rw [Bh,ee,<-hl,Ah,Bc,<-l2,Bp]
   show (Instr.checkKey em (d+1) t (.agg cx.toArray)).run P w=_;rw [Instr.checkKey];simp only [As,Au hu,Av];simp only [Std.Legacy.Range.forIn_eq_forIn_range',Std.Legacy.Range.size,Nat.sub_zero,Nat.add_one_sub_one,Nat.div_one];generalize List.range' 0 len'=is at each
   induction is with
   | nil=>simp
   | cons j is ih=>
    obtain ⟨v,p1,p2⟩:=each j (by simp);simp only [List.forIn_cons,As,D1 hT w hke,Av,p1,p2,A1];exact ih (λy hy=>each y (by simp [hy]))
theorem Oq (hT:D3 P T) {t:TypeId} {k:Kd} (h:tkd T t=some k) (hg:P.eqGuardType P.depth t=false) (hq:eqB P T 100 t k=true) (hd:k.dep<=10000):EqOK P t k:=
 ⟨λem _ _ x cx hx=>V5 hT em 10000 k hd t 100 h hq 10000 (Al _) x cx hx,hg,λ_ _ x y cx cy hx hy=>Vz hT 10000 k hd t 100 h hq 10000 (Al _) x y cx cy hx hy⟩
end
section
variable {C:Ctx} {P:Program} {ops:Array Oper}
def accJ (j0 i:Nat) (c:Cert):Acc:=match Nat.beq i j0 with | true=>([],[],false) | false=>(c.wr.map (·.1),c.acc,c.all)
theorem Jg {j0 i:Nat} (h:i≠j0) (c:Cert):accJ j0 i c=(c.wr.map (·.1),c.acc,c.all):=by
 unfold accJ;cases hb:Nat.beq i j0 with
 | true=>exact absurd (Aa hb) h
 | false=>rfl
theorem Ya {cs:List Cert} {j0:Nat} {accs:List Acc} (hok:Yb ops accs=true) (hA:∀i c,cs[i]?=some c->accs[i]?=some (accJ j0 i c)) {i j:Nat} {p q:Oper×Cert} (hp:(ops.toList.zip cs)[i]?=some p) (hq:(ops.toList.zip cs)[j]?=some q) (hij:i<j):
  Reach ops j i\/Hv ops p.1 (accJ j0 i p.2) q.1 (accJ j0 j q.2)=true:=by
 unfold Yb at hok;rw [Ab] at hok;rw [Ck] at hp hq;obtain ⟨ax,ay,h1,h2,h3⟩:=Ml hok.2 i j p.1 q.1 hp.1 hq.1 hij;rw [hA i _ hp.2] at h1;rw [hA j _ hq.2] at h2;simp only [Ad] at h1 h2;subst h1 h2;rcases h3 with h3 | h3
 ·left
  refine K4 ops.toList [] (λj=>by simp) (λj m h=>by simp at h) j i ?_;simpa using h3
 ·exact .inr h3
theorem zib {tm:Nat->SV} {me:Nat->Option Blk} {cs:List Cert} {tm':Nat->SV} {me':Nat->Option Blk} (hch:Chain C P ops 0 ops.toList tm me cs tm' me') {j0:Nat} {accs:List Acc} (hok:Yb ops accs=true)
  (hA:∀i c,cs[i]?=some c->accs[i]?=some (accJ j0 i c)) (hw0:∀c,cs[j0]?=some c->c.wr=[])
  (hx:∀(D:Nat->Bool) o c,(ops.toList.zip cs)[j0]?=some (o,c)->MI C P ops j0 o (tmD (λm=>decide (m<j0)) 0 (ops.toList.zip cs) tm) (meD D 0 (ops.toList.zip cs) me) c)
  {Q:Exit->Act->World->Prop} (hQ:∀pl S a w,Inv C tm' me' pl S a w->Q .normal a w):
  ∀(fuel:Nat) (listed:Array Bool) (a:Act) (w:World) (pl:Nat->Plc) (S:Nat->Prop),listed.size=ops.size->KE ops (λj=>listed.getD j false)->
   (List.range ops.size).countP (λj=> !listed.getD j false)<=fuel->Inv C (tmD (λj=>listed.getD j false) 0 (ops.toList.zip cs) tm) (meD (λj=>listed.getD j false) 0 (ops.toList.zip cs) me) pl S a w->
   wpAnyIn (fen C.ro) 0 P .any ops Q fuel listed a w:=by
 have hlen:=hch.len;obtain ⟨hst,hT,hM⟩:=hch.states;have hbk:=(Ab _ _ ▸ hok:_/\_).1;intro fuel;have alldone:∀(listed:Array Bool) (a:Act) (w:World) (pl:Nat->Plc) (S:Nat->Prop),(∀j,j<ops.size->listed.getD j false=true)->Inv C (tmD (λj=>listed.getD j false) 0 (ops.toList.zip cs) tm) (meD (λj=>listed.getD j false) 0 (ops.toList.zip cs) me) pl S a w->Q .normal a w:=by
  intro listed a w pl S hall hI;have hlt:∀j p,(ops.toList.zip cs)[j]?=some p->j<ops.size:=λj p h=>by
   have:=(A0.1 h).1;simp at this; omega
  have e1:tmD (λj=>listed.getD j false) 0 (ops.toList.zip cs) tm=tm':=by
   rw [<-hT]; funext t;exact Gh rfl (λj p hj _=>by rw [Bf]; exact hall j (hlt j p hj))
  have e2:meD (λj=>listed.getD j false) 0 (ops.toList.zip cs) me=me':=by
   rw [<-hM]; funext t;exact Fo rfl (λj p hj _=>by rw [Bf]; exact hall j (hlt j p hj))
  rw [e1,e2] at hI;exact hQ pl S a w hI
 have noready:∀(listed:Array Bool),listed.size=ops.size->Region.ready .any ops listed=[]->∀j,j<ops.size->listed.getD j false=true:=by
  intro listed hsz hr j
  induction j using Nat.strongRecOn with
  | ind j ih=>
   intro hj;cases hd:listed.getD j false with
   | true=>rfl
   | false=>
    have:j∈Region.ready .any ops listed:=by
     rw [mem_ready];refine ⟨?_,ops[j],Cg hj,λe he hb=>?_⟩
     ·have hj':j<listed.size:=by omega
      rw [Ao,Cg hj'] at hd ⊢;simpa using hd
     ·have:=Oy ops.toList 0 hbk j ops[j] (by simp [hj]) e he hb
      rw [Bf] at this;exact ih e.on this (by omega)
    rw [hr] at this; cases this
 induction fuel with
 | zero=>
  intro listed a w pl S hsz hcl hcnt hI;have hall:∀j,j<ops.size->listed.getD j false=true:=by
   intro j hj;have h0:(List.range ops.size).countP (λj=> !listed.getD j false)=0:=by omega
   rw [List.countP_eq_zero] at h0;have:=h0 j (by simpa using hj);simpa using this
  refine ⟨?_,alldone listed a w pl S hall hI⟩;cases hr:Region.ready .any ops listed with
  | nil=>rfl
  | cons i l=>
   have hi:i∈Region.ready .any ops listed:=by rw [hr]; simp
   obtain ⟨h1,o,ho,_⟩:=mem_ready.1 hi;have hlt:=(Ap.1 ho).1;have h2:=hall i hlt;have hlt':i<listed.size:=by omega
   rw [Ao,Cg hlt'] at h1 h2;simp at h1 h2; rw [h1] at h2; cases h2
 | succ fuel ih=>
  intro listed a w pl S hsz hcl hcnt hI;refine ⟨λhr=>alldone listed a w pl S (noready listed hsz hr) hI,λi hi=>?_⟩;obtain ⟨hun,o,ho,hrd⟩:=mem_ready.1 hi;have hlt:=(Ap.1 ho).1;have hlt':i<listed.size:=by omega
  have hDi:listed.getD i false=false:=by
   rw [Ao,Cg hlt'] at hun ⊢;simpa using hun
  have hcl':i<cs.length:=by rw [hlen]; simpa using hlt
  obtain ⟨c,hc⟩:∃c,(ops.toList.zip cs)[i]?=some (o,c):=by
   refine ⟨cs[i],Ck.2 ⟨by simpa using ho,Bs hcl'⟩⟩
  obtain ⟨⟨hwa,hJ⟩,_⟩:=hst i (o,c) hc;simp only [Bf] at hJ;have hrdy:∀o',ops[i]?=some o'->∀e∈o'.after,Region.binds .any e=true->(λj=>listed.getD j false) e.on=true:=λo' ho' e he hb=>by
   rw [ho] at ho'; cases ho'; exact hrd e he hb
  have ahead:∀j p,(ops.toList.zip cs)[j]?=some p->j<i->listed.getD j false=true\/Hv ops p.1 (accJ j0 j p.2) o (accJ j0 i c)=true:=λj p hp hji=>by
   rcases Ya hok hA hp hc hji with h | h
   ·exact .inl (h.ready hcl hrdy)
   ·exact .inr h
  have behind:∀j p,(ops.toList.zip cs)[j]?=some p->i<j->listed.getD j false=true->Hv ops o (accJ j0 i c) p.1 (accJ j0 j p.2)=true:=λj p hp hij hDj=>by
   rcases Ya hok hA hc hp hij with h | h
   ·have:=h.closed hcl hDj
    rw [hDi] at this; cases this
   ·exact h
  have hcz:=(Ck.1 hc).2;have tmok:∀t∈looks ops o,tmD (λj=>listed.getD j false) 0 (ops.toList.zip cs) tm t=tmD (λm=>decide (m<i)) 0 (ops.toList.zip cs) tm t:=λt ht=>Gh rfl (λj p hj hd=>by
   simp only [Bf];rcases Ci j i with h | h | h
   ·rcases ahead j p hj h with h1 | h1
    ·simp [h,h1]
    ·simp only [Hv,hd,Ab] at h1
     simp [ht] at h1
   ·subst h; simp [hDi]
   ·cases hDj:listed.getD j false with
    | false=>symm; simp; omega
    | true=>
     have h1:=behind j p hj h hDj;simp only [Hv,hd,Ab] at h1;simp [ht] at h1)
  have hwne:∀j p q,(ops.toList.zip cs)[j]?=some p->mget p.2.wr q≠none->j≠j0:=λj p q hj hd e=>by
   subst e;rw [hw0 _ (Ck.1 hj).2] at hd;exact hd rfl
  have key:∀Q K,(∀pl' S' a' w',Inv C (putO (tmD (λj=>listed.getD j false) 0 (ops.toList.zip cs) tm) o.dst c.sv) (laid c.wr (meD (λj=>listed.getD j false) 0 (ops.toList.zip cs) me)) pl' S' a' w'->K a' w')->wpOpIn (fen C.ro) 0 P ops Q i K a w:=by
   intro Q K hK
   by_cases hij0:i=j0
   ·subst hij0
    exact (hx (λj=>listed.getD j false) o c hc).2 _ _ pl S a w hI tmok (λ_ _=>rfl) (λ_=>rfl) Q K hK
   ·refine hJ _ _ pl S a w hI tmok (λq hq=>Fo rfl (λj p hj hd=>?_)) (λhall=>funext λq=>Fo rfl (λj p hj hd=>?_)) Q K hK
    rotate_left
    ·have hjne:=hwne j p q hj hd
     simp only [Bf];have hne:SD (p.2.wr.map (·.1))=false:=by
      have:=Gl hd;cases hw:p.2.wr.map (·.1) with
      | nil=>rw [hw] at this; cases this
      | cons _ _=>rfl
     rcases Ci j i with h | h | h
     ·rcases ahead j p hj h with h1 | h1
      ·simp [h,h1]
      ·simp [Hv,Jg hij0,Jg hjne,hne,hall] at h1
     ·subst h; simp [hDi]
     ·cases hDj:listed.getD j false with
      | false=>symm; simp; omega
      | true=>
       have h1:=behind j p hj h hDj;simp [Hv,Jg hij0,Jg hjne,hne,hall] at h1
    have hjne:=hwne j p q hj hd;simp only [Bf];rcases Ci j i with h | h | h
    ·rcases ahead j p hj h with h1 | h1
     ·simp [h,h1]
     ·simp only [Hv,Ab,Jg hij0,Jg hjne] at h1
      have:=Lp (Gl hd) hq;simp [this] at h1
    ·subst h; simp [hDi]
    ·cases hDj:listed.getD j false with
     | false=>symm; simp; omega
     | true=>
      have h1:=behind j p hj h hDj;simp only [Hv,Ab,Jg hij0,Jg hjne] at h1;have:=Lp (Gl hd) hq;simp [this] at h1
  refine key Q _ (λpl' S' a' w' hI'=>?_);have hne:∀j,j≠i->(listed.setIfInBounds i true).getD j false=listed.getD j false:=λj hj=>getD_set_ne false (Ne.symm hj)
  have hii:(listed.setIfInBounds i true).getD i false=true:=by simp [hlt']
  have hmono:∀j,listed.getD j false=true->(listed.setIfInBounds i true).getD j false=true:=λj h=>getD_set_true h
  refine ih (listed.setIfInBounds i true) a' w' pl' S' (by simpa using hsz) (λj hj o' ho' e he hb=>?_) ?_ ?_
  ·by_cases hji:j=i
   ·subst hji
    exact hmono _ (hrdy o' ho' e he hb)
   ·simp only [hne j hji] at hj
    exact hmono _ (hcl j hj o' ho' e he hb)
  ·have:=UF (D:=λj=>listed.getD j false) (D':=λj=>(listed.setIfInBounds i true).getD j false) hmono hDi hii (List.range ops.size) (by simpa using hlt)
   omega
  ·have e1:tmD (λj=>(listed.setIfInBounds i true).getD j false) 0 (ops.toList.zip cs) tm=putO (tmD (λj=>listed.getD j false) 0 (ops.toList.zip cs) tm) o.dst c.sv:=by
    funext t
    by_cases hd:o.dst=some t
    ·rw [Qy hc hd (by rw [Bf]; exact hii) (λj p hj hij hDj he=>?_)]
     ·rw [hd]; simp [putO]
     ·rw [Bf,hne j (by omega)] at hDj
      have h1:=behind j p hj hij hDj;simp only [Hv,hd,he,Ab] at h1;simp at h1
    ·rw [Lo hd]
     refine Gh rfl (λj p hj hdj=>?_);rw [Bf];refine hne j (λe=>hd ?_);subst e;rw [hc] at hj; cases hj; exact hdj
   have e2:meD (λj=>(listed.setIfInBounds i true).getD j false) 0 (ops.toList.zip cs) me=laid c.wr (meD (λj=>listed.getD j false) 0 (ops.toList.zip cs) me):=by
    funext q
    cases hd:mget c.wr q with
    | some b=>
     rw [Vp hc hd (by rw [Bf]; exact hii) (λj p hj hij hDj=>?_)]
     ·unfold laid; rw [hd]
     ·rw [Bf,hne j (by omega)] at hDj
      have h1:=behind j p hj hij hDj;cases hm:mget p.2.wr q with
      | none=>rfl
      | some b'=>
       have n1:=hwne j p q hj (by rw [hm]; simp);have n2:=hwne i (o,c) q hc (by rw [hd]; simp);simp only [Hv,Ab,Jg n1,Jg n2] at h1;have:=Lp (Gl (by rw [hm]; simp):q∈_) (hwa q (by rw [hd]; simp));simp [this] at h1
    | none=>
     rw [H9 hd];refine Fo rfl (λj p hj hdj=>?_);rw [Bf];refine hne j (λe=>?_);subst e;rw [hc] at hj; cases hj; exact hdj hd
   rw [e1,e2];exact hI'
end
section
variable {C:Ctx} {P:Program} {R:Type} {E:Env R} {tm:Nat->SV} {me:Nat->Option Blk} {pl:Nat->Plc} {S:Nat->Prop} {a:Act} {w:World}
def funK (E:Env R) (res:List (ResultVar×TypeId×Bool)) (K:List RV->List TV->Option R) (e:XX) (σ:St):Option R:=
 match e with
 | .exit _=>none
 | _=>match xres E (mget σ.me) σ.tm [] res with
  | none=>none
  | some (rs,wr)=>match Tl (laid wr (mget σ.me)) 0 E.np with
   | some outs=>K rs outs
   | none=>none
theorem KH (hE:D7 P E) {f:FuncId} {fn:Func} {body:Code} (hf:P.funcs[f]?=some fn) (hb:fn.body=some body) (hent:∀args w,(callFunc f args).run P w=.ok (.enter f args) w)
  (hnt:fn.ntmps=E.nt) {res:List (ResultVar×TypeId×Bool)} (hres:fn.results.toList=res.map (·.1)) {as:List AV} (hnp:E.np=nptr as) (hle:as.length<=E.nt.n)
  {K:List RV->List TV->Option R} {r:R} {tm0:List (Nat×SV)} {me0:List (Nat×Blk)} (hst:Qp as 0 0 [] []=(tm0,me0)) {e:XX} {σ:St} (h2:Leads E.np E.nt P body ⟨tm0,me0,E.np⟩ e σ)
  (h1:funK E res K e σ=some r):∃rs outs,Holds P f as rs outs/\K rs outs=some r:=by
 unfold funK at h1;have h1':e≠.exit 0/\(e=.normal\/e=.ret)/\∃rs wr outs,xres E (mget σ.me) σ.tm [] res=some (rs,wr)/\Tl (laid wr (mget σ.me)) 0 E.np=some outs/\K rs outs=some r:=by
  cases e with
  | exit i=>simp at h1
  | normal=>
   simp only at h1;split at h1<;>try (cases h1; done)
   rename_i rs wr hx;split at h1<;>try (cases h1; done)
   rename_i outs ho;exact ⟨by simp,.inl rfl,rs,wr,outs,hx,ho,h1⟩
  | ret=>
   simp only at h1;split at h1<;>try (cases h1; done)
   rename_i rs wr hx;split at h1<;>try (cases h1; done)
   rename_i outs ho;exact ⟨by simp,.inr rfl,rs,wr,outs,hx,ho,h1⟩
 obtain ⟨_,he,rs,wr,outs,hx,ho,hK⟩:=h1';refine ⟨rs,outs,.inl ⟨hent,λw S pp vs hS hnd hA=>?_⟩,hK⟩;obtain ⟨hvl,hpl,hcell⟩:=hA.lens;refine calls_of_wp hf hb ((wpIn_wide (n:=0)).1 ?_)
 let C:Ctx:=⟨w,S,E.nt,pp,λ_ _=>False,λ_=>False,none,[],undef⟩
 let pl:Nat->Plc:=λi=>match pp[i]? with | some (g,off,_)=>⟨some g,off,0⟩ | none=>⟨none,0,0⟩
 refine h2 C (hnp.trans hpl.symm) rfl (λ_ _ _ h=>h.elim) (bodyPost P fn _) (λpl' S' a' w' hI'=>?_) pl S _ w ?_
 ·obtain ⟨S2,vs2,gs,g1,g2,⟨g3a,g3⟩,g4,_,_⟩:=Gw (C:=C) (λ_ h=>h) hE.tab (hnp.trans hpl.symm) rfl res [] (mget σ.me) rs wr (mget σ.me) S' hx rfl hI'
  have hrun:=G6 hres g3a;have hpost:Post S w pp rs outs (Km vs2) w':=by
   refine ⟨S2,_,gs,rfl,g1.s0,λb hb=>⟨(g1.sfr b hb).1,(g1.sfr b hb).2.imp id (λh=>h.resolve_right id)⟩,g1.fr,g3,g4,?_⟩;have:=Jv (C:=C) (λ_ h=>h) g1 E.np 0 outs ho (by rw [Bf]; exact (hnp.trans hpl.symm).symm);simpa using this
  rcases he with rfl | rfl
  ·exact ⟨hI'.df,_,hrun,hpost⟩
  ·exact ⟨hI'.df,_,hrun,hpost⟩
 ·have hpl':∀i g off sz,C.pp[i]?=some (g,off,sz)->(pl i).g=some g/\(pl i).off=off:=by
   intro i g off sz hi;have hi':pp[i]?=some (g,off,sz):=hi;simp only [pl,hi'];exact ⟨trivial,trivial⟩
  have h0:Inv C (tget []) (mget []) pl S ⟨vs.toArray++Array.replicate (fn.ntmps - vs.toArray.size) undef,[]⟩ w:=by
   refine ⟨?_,rfl,λt=>trivial,λi b hi=>(by cases hi),λi b hi=>(by cases hi),λi j bi bj g _ hi=>(by cases hi),λ_ h=>h,λb hb=>⟨hS.1 b hb,.inl hb⟩,⟨rfl,rfl,rfl,Al _,λ_ _ _ _=>rfl,λe he _=>?_⟩,⟨λe he e' he' hee=>?_,hS.2,λg hg=>⟨λe he heq=>hA.off e he (heq ▸ (hS.2 g hg).1),λh=>h⟩⟩,λ_ _ h=>h.elim⟩
   ·refine ⟨?_,λd hd=>?_⟩
    ·have hnn:E.nt.n=fn.ntmps:=by rw [<-hnt]
     have:vs.length<=fn.ntmps:=by omega
     simp only [B5,Cp,Bi,C];omega
    ·have hd':E.nt.rd=some d:=hd
     rw [<-hnt] at hd'; cases hd'
   ·obtain ⟨c,t,hc⟩:=hcell e he
    exact ⟨c,c,t,hc,hc,rfl,rfl,rfl⟩
   ·obtain ⟨i,hi,rfl⟩:=Cq he
    obtain ⟨j,hj,rfl⟩:=Cq he';have hi':i<pp.length:=hi;have hj':j<pp.length:=hj;have:i=j:=(List.getElem_inj (h₀:=by simpa using hi') (h₁:=by simpa using hj') hnd).1 (by simpa using hee);subst this; rfl
  have:=Gz (C:=C) (a:=⟨vs.toArray++Array.replicate (fn.ntmps - vs.toArray.size) undef,[]⟩) (λ_ h=>h) hnd hpl' as 0 0 [] [] vs pp hA (λi=>by rw [Bf]) (λi v hi=>?_) (λi _=>rfl) h0
  ·rw [hst] at this; exact this
  ·have hlt:=(A0.1 hi).1
   rw [Bf,Ao,Cr (by simpa using hlt)];simp [hi]
theorem Leads.seq {np:Nat} {nt:NT} {a b:Code} {σ σ1 σ2:St} {e:XX} (h1:Leads np nt P a σ .normal σ1) (h2:Leads np nt P b σ1 e σ2):Leads np nt P (.seq a b) σ e σ2:=
 λC hnp hnt hg Q hQ pl S w0 w hI=>wpIn_seq (h1 C hnp hnt (λhl=>hg (λh0=>hl (Cn.1 h0).1)) (Exit.then (Code.wpr C.ro P b Q) Q) (λpl S a w hI=>h2 C hnp hnt (λhl=>hg (λh0=>hl (Cn.1 h0).2)) Q hQ pl S a w hI) pl S w0 w hI)
theorem J2 {α β:Type} {f:α->β} {l:List α} {m:List β} (h:l.map f=m) {i:Nat} {c:α} (hc:l[i]?=some c):m[i]?=some (f c):=by
 rw [<-h,Cl,hc]; rfl
def allI {α:Type} (q:Nat->α->Bool):Nat->List α->Bool
 | _,[]=>true
 | i,x::l=>q i x&&allI q (i+1) l
theorem K5 {α:Type} {q:Nat->α->Bool}:∀{l:List α} {n:Nat},allI q n l=true->∀i x,l[i]?=some x->q (n+i) x=true
 | [],_,_,i,x,h=>by simp at h
 | y::l,n,h,i,x,hx=>by
  simp only [allI,Ab] at h;cases i with
  | zero=>simp at hx; subst hx; exact h.1
  | succ i=>
   have:=K5 h.2 i x (by simpa using hx)
   rwa [show n+1+i=n+(i+1) by omega] at this
def qWr (i0 b:Nat) (i:Nat) (p:Acc):Bool:=match Nat.beq i i0 with | true=>p.1.all (λq=>Nat.beq q b) | false=>p.1.isEmpty
def qDst (d j0:Nat) (i:Nat) (o:Oper):Bool:=match o.dst with | some e=>(match Nat.beq e d with | true=>Nat.beq i j0 | false=>true) | none=>true
def qTmp (t j0:Nat) (i:Nat) (o:Oper):Bool:=match o.dst with | some e=>(match Nat.beq e t with | true=>Nat.blt i j0 | false=>true) | none=>true
theorem OJ {d j0:Nat} {ops:Array Oper} (h:allI (qDst d j0) 0 ops.toList=true):∀i o',ops[i]?=some o'->o'.dst=some d->i=j0:=λi o' hi hd=>by
 have:=K5 h i o' (by simpa using hi);unfold qDst at this;rw [hd] at this;simp only [Nat.beq_refl,Bf] at this;exact Aa this
theorem OI {t j0:Nat} {ops:Array Oper} (h:allI (qTmp t j0) 0 ops.toList=true):∀i o',ops[i]?=some o'->o'.dst=some t->i<j0:=λi o' hi hd=>by
 have:=K5 h i o' (by simpa using hi);unfold qTmp at this;rw [hd] at this;simp only [Nat.beq_refl,Bf] at this;exact Nat.lt_of_succ_le (Bj this)
theorem zbo {i0 b:Nat} {l:List Acc} (h:allI (qWr i0 b) 0 l=true):(∀i p,l[i]?=some p->i≠i0->p.1=[])/\(∀p,l[i0]?=some p->∀q∈p.1,q=b):=by
 refine ⟨λi p hi hne=>?_,λp hi q hq=>?_⟩
 ·have:=K5 h i p hi
  unfold qWr at this;rw [Bf] at this;cases hb:Nat.beq i i0 with
  | true=>exact absurd (Aa hb) hne
  | false=>rw [hb] at this; simpa using this
 ·have:=K5 h i0 p hi
  unfold qWr at this;rw [Bf,Nat.beq_refl] at this;exact Aa (B9.1 this q hq)
theorem LB {E:Env (St×List Acc)} (hE:D7 P E) (hm:P.follows .mixedOrders=true) {rid:Nat} {ops:Array Oper} {σ σ':St} {accs:List Acc} {j0 i0 b d t:Nat} {o:Oper} {b1 b2:Blk} {nx:Nat}
  (hx:xops E rid ops ops.toList 0 σ [] (λσ' accs=>some (σ',accs))=some (σ',accs))
  (hok:Yb ops (accs.reverse.set j0 ([],[],false))=true)
  (hw:∀i p,accs.reverse[i]?=some p->i≠i0->p.1=[]) (hwi:∀p,accs.reverse[i0]?=some p->∀q∈p.1,q=b) (hij:i0≠j0)
  (ho:ops[j0]?=some o) (hg:o.guard=none) (hd:o.dst=some d) (hl:looks ops o=[t]) (hacc:accs.reverse[j0]?=some ([],[b],false)) (hdn:NT.lt d E.nt)
  (honed:∀i o',ops[i]?=some o'->o'.dst=some d->i=j0) (honet:∀i o',ops[i]?=some o'->o'.dst=some t->i<j0) (hopr:∀x∈o.op.operands,x=.tmp t)
  (hb1:mget σ.me b=some b1) (hb2:mget σ'.me b=some b2)
  (habs:∀B,B=b1\/B=b2->zfb E.T E.eqt E.np (E.own rid j0) (λ_=>some B) (λ_=>tget σ'.tm t) o nx=some ⟨true,tget σ'.tm d,[],[b],nx⟩):
  Leads E.np E.nt P (.region rid ops true) σ .normal σ':=by
 obtain ⟨cs,σ2,h1,h2,_⟩:=Lf hE ops.toList 0 σ [] _ (λj x hx=>by simpa using hx) hx;simp only [Ad,Be,B0] at h1;obtain ⟨rfl,h1⟩:=h1;have hmap:cs.map (λc=>(c.wr.map (·.1),c.acc,c.all))=accs.reverse:=by rw [<-h1,List.reverse_reverse]
 generalize accs.reverse=ac at*;refine λC hnp hnt _ Q hQ pl S a w hI=>wpIn_region_any hm ?_
 have hch:=h2.at hnp hnt;have hlen:=hch.len;obtain ⟨hst,hT,hM⟩:=hch.states;have hf:(λj=>(Array.replicate ops.size false).getD j false)=λ_=>false:=by
  funext j
  rw [Ao,Array.getElem?_replicate];split<;>rfl
 have hcwr:∀i p,(ops.toList.zip cs)[i]?=some p->i≠i0->p.2.wr=[]:=by
  intro i p hp hne;have:=J2 hmap (Ck.1 hp).2;have:=hw i _ this hne;simpa using this
 refine zib (j0:=j0) hch hok ?_ ?_ ?_ hQ ops.size _ a _ pl S (by simp) ?_ ?_ ?_
 ·intro i c hci
  have:=J2 hmap hci;rw [List.getElem?_set];unfold accJ
  by_cases e:j0=i
  ·subst e
   rw [Aj rfl,Aj (A0.1 this).1,Nat.beq_refl]
  ·rw [Ak e,this]
   cases hb:Nat.beq i j0 with
   | true=>exact absurd (Aa hb).symm e
   | false=>rfl
 ·intro c hcj
  have:=J2 hmap hcj;rw [hacc] at this;simp only [Ad,Be] at this;simpa using this.1.symm
 ·intro D o' c hoc
  obtain ⟨hoj,hcj⟩:=Ck.1 hoc;have hoo:o'=o:=by
   have:ops.toList[j0]?=some o:=by simpa using ho
   rw [this] at hoj; cases hoj; rfl
  subst hoo;have hca:=J2 hmap hcj;rw [hacc] at hca;simp only [Ad,Be] at hca;have hcw:c.wr=[]:=by simpa using hca.1.symm
  have hcsv:c.sv=tget σ2.tm d:=by
   rw [<-hT];exact (Qy (i0:=j0) hoc hd rfl (λj p hj hlt _ he=>by
    have:=honed j p.1 (by have:=(Ck.1 hj).1; simpa using this) he;omega)).symm
  have htt:tmD (λm=>decide (m<j0)) 0 (ops.toList.zip cs) (tget σ.tm) t=tget σ2.tm t:=by
   rw [<-hT];refine Gh rfl (λj p hj he=>?_);have:=honet j p.1 (by have:=(Ck.1 hj).1; simpa using this) he;simp; omega
  have hmb:meD D 0 (ops.toList.zip cs) (mget σ.me) b=some b1\/meD D 0 (ops.toList.zip cs) (mget σ.me) b=some b2:=by
   by_cases hD:D i0=true
   ·right
    rw [<-hb2,<-hM];refine Fo rfl (λj p hj hd'=>?_);have:j=i0:=Classical.byContradiction λhne=>hd' (by rw [hcwr j p hj hne]; rfl)
    subst this;rw [Bf]; exact hD
   ·left
    rw [<-hb1];have:=Fo (D:=D) (D':=λ_=>false) (q:=b) (l:=ops.toList.zip cs) (i:=0) (me:=mget σ.me) (me':=mget σ.me) rfl (λj p hj hd'=>by
     have:j=i0:=Classical.byContradiction λhne=>hd' (by rw [hcwr j p hj hne]; rfl)
     subst this;rw [Bf];simpa using hD)
    rw [this,Qz]
  refine Fv ho (λd' hd'=>by rw [hd] at hd'; cases hd'; rw [<-hnt]; exact hdn) (λj hj=>by rw [hcw] at hj; exact absurd rfl hj) (λ_ _ _ _ _ _ _ _=>Gy hg) (λtm me pl S a w hI hlk hac _=>?_);have ht1:tm t=tget σ2.tm t:=by rw [hlk t (by rw [hl]; simp),htt]
  have hB:∃B,(B=b1\/B=b2)/\me b=some B:=by
   have:=hac b (by rw [<-hca.2.1]; simp);rcases hmb with h | h
   ·exact ⟨b1,.inl rfl,this.trans h⟩
   ·exact ⟨b2,.inr rfl,this.trans h⟩
  obtain ⟨B,hB1,hB2⟩:=hB;have:=Sj (C:=C) (tm:=tm) (me:=me) (pl:=pl) (S:=S) (a:=a) (w:=w) hE.tab hE.eq hnp (habs B hB1) rfl (λi hi=>by simp only [Ce] at hi; subst hi; exact hB2) hI (λx hx=>by
   rw [hopr x hx];have:=hI.tms t;rw [ht1] at this;exact this)
  rw [hcsv,hcw];exact this
 ·rw [hf]; intro j hj; cases hj
 ·exact Am List.countP_le_length (by simp)
 ·rw [hf,U3,Qz]
  exact Inv.drew hI
end
theorem zfa {P:Program} {f:FuncId} {fn:Func} (hf:P.funcs[f]?=some fn) (hname:(fn.name== "runtime.NumGoroutine")=false) (hb:fn.body.isNone=true) (hn:Extern.findNext fn=none) (he:Extern.find fn=some Go.add64Entry):
  Ent.OK P ⟨f,[(false,.int .u64),(false,.int .u64),(false,.int .u64)],[(false,.int .u64),(false,.int .u64)],λ_ x k=>match decide (0<=(show Int from x.1)/\0<=(show Int from x.2.1)/\0<=(show Int from x.2.2.1)/\(show Int from x.2.2.1)<=1) with
   | true=>k (((show Int from x.1)+(show Int from x.2.1)+(show Int from x.2.2.1)) % 18446744073709551616,((show Int from x.1)+(show Int from x.2.1)+(show Int from x.2.2.1))/18446744073709551616,()) ()
   | false=>none⟩:=by
 intro R x k r h;obtain ⟨a,b,c,u⟩:=x;simp only at h;split at h<;>try (cases h; done)
 rename_i hd;obtain ⟨h1,h2,h3,h4⟩:=Bw hd;refine ⟨_,_,.inr ⟨rfl,λw S vs hS hA=>?_⟩,h⟩;obtain ⟨va,vs1,rfl,ha,vb,vs2,rfl,hb',vc,vs3,rfl,hc,e1,rfl⟩:=hA;have ea:va=.int .u64 a:=VRd.int.1 ha;have eb:vb=.int .u64 b:=VRd.int.1 hb';have ec:vc=.int .u64 c:=VRd.int.1 hc;subst ea eb ec;refine ⟨_,w,?_,S,_,[],rfl,λ_ h=>h,λb hb=>⟨hS.1 b hb,.inl hb⟩,⟨rfl,rfl,rfl,Al _,λ_ _ _ _=>rfl,λe he=>(by cases he)⟩,⟨.int .u64 ((a+b+c) % 18446744073709551616),_,rfl,VRd.int.2 rfl,.int .u64 ((a+b+c)/18446744073709551616),_,rfl,VRd.int.2 rfl,rfl,rfl⟩,List.nodup_nil,rfl⟩
 rw [Go.run_callFunc_extern hf hname hb hn he,Go.run_add64 a b c h1 h2 h3 h4 w];rfl
section
variable {P:Program} {R:Type} {E:Env R}
theorem Q9:∀(l:List SV) (i t:Nat),tget (KK l i) t=if i<=t then (l[t - i]?).getD .dead else .dead
 | [],i,t=>by simp [KK,tget]
 | sv::l,i,t=>by
  simp only [KK];rw [E5]
  by_cases e:t=i
  ·subst e; simp
  ·rw [Dm _ _ e,Q9 l (i+1) t]
   by_cases h:i<=t
   ·rw [Aj h,Aj (by omega),show t - i=(t - (i+1))+1 by omega,List.getElem?_cons_succ]
   ·rw [Ak h,Ak (by omega)]
theorem SVL.get {S:Nat->Prop} {w:World} {me:Nat->Option Blk} {pl:Nat->Plc}:∀{l:List SV} {vs:List Value},SVL S w me pl l vs->vs.length=l.length/\∀t sv,l[t]?=some sv->G S w me pl sv (vs.getD t undef)
 | [],vs,h=>by
  have:vs=[]:=h;subst this;exact ⟨rfl,λt sv ht=>by simp at ht⟩
 | s::l,vs,h=>by
  obtain ⟨v,vs',rfl,h1,h2⟩:=h;obtain ⟨h3,h4⟩:=h2.get;refine ⟨by simp [h3],λt sv ht=>?_⟩;cases t with
  | zero=>simp only [List.getElem?_cons_zero,Ad] at ht; subst ht; simpa using h1
  | succ t=>simp only [List.getElem?_cons_succ] at ht; simpa using h4 t sv ht
theorem Mj {C:Ctx} {tm0:List (Nat×SV)} {me:Nat->Option Blk} {pl:Nat->Plc} {S:Nat->Prop} {a:Act} {w:World} (hT:D3 P E.T) (hI:Inv C (tget tm0) me pl S a w):∀(res:List ResultVar) (rs:List SV),Xu E me tm0 res=some rs->
  ∃vs,ResV P w a.tmps (res.map λr=>(r,0,false)) vs/\SVL S w me pl rs vs
 | [],rs,h=>by
  simp only [Xu,Ad] at h;subst h;exact ⟨[],rfl,rfl⟩
 | .tmp t::l,rs,h=>by
  simp only [Xu] at h;split at h<;>try (cases h; done)
  rename_i r hr;simp only [Ad] at h;subst h;obtain ⟨vs,h1,h2⟩:=Mj hT hI l r hr;exact ⟨a.tmps.getD t undef::vs,⟨vs,rfl,h1⟩,⟨_,vs,rfl,hI.tms t,h2⟩⟩
 | .cell t ty::l,rs,h=>by
  simp only [Xu] at h;split at h<;>try (cases h; done)
  rename_i q r hq hr;split at h<;>try (cases h; done)
  simp only [Ad] at h;subst h;obtain ⟨vs,h1,h2⟩:=Mj hT hI l r hr;obtain ⟨u,hu,_,hGu⟩:=Mq hT hq (λ_ _=>rfl) hI (hI.tms t);exact ⟨u::vs,⟨u,vs,rfl,Nk hu,h1⟩,⟨u,vs,rfl,hGu,h2⟩⟩
theorem El (hE:D7 P E) (hm:P.follows .mixedOrders=true) {f:FuncId} {fn:Func} {body:Code} (hf:P.funcs[f]?=some fn) (hb:fn.body=some body) (hname:(fn.name== "runtime.NumGoroutine")=false)
  (hnt:fn.ntmps=E.nt) {res:List ResultVar} (hres:fn.results.toList=res) {n:Nat} (hn:n<=E.nt.n) (hl:Dy body=[]):
  ∀svs me nx K r,xinl E body res n svs me nx K=some r->∃rs me' nx',K rs me' nx'=some r/\(∃n,me'=n++me)/\(∀args w,(callFunc f args).run P w=.ok (.enter f args) w)/\
   ∀(C:Ctx) (tm:Nat->SV) (pl:Nat->Plc) (S:Nat->Prop) (a:Act) (w:World) (vs:List Value),E.np=C.pp.length->Inv C tm (mget me) pl S a w->SVL S w (mget me) pl svs vs->
    Calls P f vs.toArray w fun
     | .returned v,w'=>∃pl' S' vs',Inv C tm (mget me') pl' S' a w'/\v=Km vs'/\SVL S' w' (mget me') pl' rs vs'
     | _,_=>False:=by
 intro svs me nx K r h;unfold xinl at h;split at h<;>try (cases h; done)
 rename_i hlen;have hlen:=Aa hlen;obtain ⟨e,σ,h1,hx,h2⟩:=Gg hE hm body (by rw [hl]; intro l h; cases h) _ _ _ h;have he:(e=.normal\/e=.ret)/\∃rs,Xu E (mget σ.me) σ.tm res=some rs/\K rs σ.me σ.nx=some r:=by
  cases e with
  | exit i=>simp at h1
  | normal=>
   simp only at h1;split at h1<;>try (cases h1; done)
   rename_i rs hrs;exact ⟨.inl rfl,rs,hrs,h1⟩
  | ret=>
   simp only at h1;split at h1<;>try (cases h1; done)
   rename_i rs hrs;exact ⟨.inr rfl,rs,hrs,h1⟩
 obtain ⟨he,rs,hrs,hK⟩:=he;refine ⟨rs,σ.me,σ.nx,hK,hx hl,enters hf hname (by rw [hb]; rfl),λC tm pl S a w vs hnp hI hA=>?_⟩;obtain ⟨hvl,hvg⟩:=hA.get;refine calls_of_wp hf hb ((wpIn_wide (n:=0)).1 ?_)
 let C':Ctx:=⟨C.w0,C.S0,E.nt,C.pp,λsv v=>C.gh sv v\/∃t,sv=tm t/\v=a.tmps.getD t undef,C.ow,none,[],undef⟩
 refine h2 C' hnp rfl (λhl'=>absurd hl hl') (bodyPost P fn _) (λpl' S' a' w' hI'=>?_) pl S _ w ?_
 ·obtain ⟨vs',hv1,hv2⟩:=Mj hE.tab hI' res rs hrs
  have hrun:=G6 (P:=P) (w:=w') (fn:=fn) (res:=res.map λr=>(r,0,false)) (by rw [hres,List.map_map]; simp [Function.comp_def]) hv1;have hback:Inv C tm (mget σ.me) pl' S' a w':=by
   refine ⟨hI.nt,hI.df,λt=>hI'.gho _ _ (.inr ⟨t,rfl,rfl⟩),hI'.mem,hI'.plcs,hI'.dis,hI'.s0,hI'.sfr,hI'.fr,hI'.pd,λsv v hg=>hI'.gho sv v (.inl hg)⟩
  rcases he with rfl | rfl
  ·exact ⟨hI'.df,_,hrun,pl',S',_,hback,rfl,hv2⟩
  ·exact ⟨hI'.df,_,hrun,pl',S',_,hback,rfl,hv2⟩
 ·have hsz:(vs.toArray++Array.replicate (fn.ntmps - vs.toArray.size) undef).size=E.nt.n:=by
   have hnn:E.nt.n=fn.ntmps:=by rw [<-hnt]
   simp only [B5,Cp,Bi];omega
  refine ⟨⟨hsz,λd hd=>by have hd':E.nt.rd=some d:=hd; rw [<-hnt] at hd'; cases hd'⟩,rfl,λt=>?_,hI.mem,hI.plcs,hI.dis,hI.s0,hI.sfr,hI.fr,hI.pd,λsv v hg=>?_⟩
  ·rw [Q9,Aj (Ct t),Nat.sub_zero]
   cases hs:svs[t]? with
   | none=>trivial
   | some sv=>
    have hlt:=(A0.1 hs).1;have:=hvg t sv hs;have e1:(vs.toArray++Array.replicate (fn.ntmps - vs.toArray.size) undef).getD t undef=vs.getD t undef:=by
     rw [Ao,Cr (by simp; omega)];simp
    rw [e1];exact this
  ·rcases hg with hg | ⟨t,rfl,rfl⟩
   ·exact hI.gho sv v hg
   ·exact hI.tms t
theorem Du {np:Nat}:MJ (R:=R) P np (Ep []):=λ_ _ _ _ _ _ h=>by cases h
theorem Ed {np:Nat} {f:FuncId} {run:List SV->List (Nat×Blk)->Nat->(List SV->List (Nat×Blk)->Nat->Option R)->Option R} {l:List (FuncId×(List SV->List (Nat×Blk)->Nat->(List SV->List (Nat×Blk)->Nat->Option R)->Option R))}
  (h:∀svs me nx K r,run svs me nx K=some r->∃rs me' nx',K rs me' nx'=some r/\(∃n,me'=n++me)/\(∀args w,(callFunc f args).run P w=.ok (.enter f args) w)/\
   ∀(C:Ctx) (tm:Nat->SV) (pl:Nat->Plc) (S:Nat->Prop) (a:Act) (w:World) (vs:List Value),np=C.pp.length->Inv C tm (mget me) pl S a w->SVL S w (mget me) pl svs vs->
    Calls P f vs.toArray w fun
     | .returned v,w'=>∃pl' S' vs',Inv C tm (mget me') pl' S' a w'/\v=Km vs'/\SVL S' w' (mget me') pl' rs vs'
     | _,_=>False) (hl:MJ P np (Ep l)):MJ P np (Ep ((f,run)::l)):=by
 intro g svs me nx K r hh;simp only [Ep] at hh;split at hh
 ·rename_i hb
  have:=Aa hb;subst this;exact h svs me nx K r hh
 ·exact hl g svs me nx K r hh
end
section
variable {C:Ctx} {tm:Nat->SV} {me:Nat->Option Blk} {pl:Nat->Plc} {S:Nat->Prop} {a:Act} {w:World} {P:Program} {T:Tab}
end
section
variable {C:Ctx} {tm:Nat->SV} {me:Nat->Option Blk} {pl:Nat->Plc} {S:Nat->Prop} {a:Act} {w:World} {P:Program}
def asV:List SV->Option (List AV)
 | []=>some []
 | .val k x::l=>match asV l with | some as=>some (.val k x::as) | none=>none
 | _::_=>none
theorem JH:∀{l:List SV} {as:List AV} {vs:List Value},asV l=some as->SVL S w me pl l vs->∀{S':Nat->Prop},(∀b,S b->S' b/\w.heap[b]?=w.heap[b]?)->ArgsG S' w as [] vs
 | [],as,vs,h,hv,S',hs=>by
  simp only [asV,Ad] at h;subst h;exact ⟨rfl,hv⟩
 | sv::l,as,vs,h,hv,S',hs=>by
  cases sv<;>simp only [asV] at h<;>try (cases h; done)
  rename_i k x;split at h<;>try (cases h; done)
  rename_i as' h2;simp only [Ad] at h;subst h;obtain ⟨v,vs',rfl,h1,h3⟩:=hv;exact ⟨v,vs',rfl,VRd.mono hs h1,JH h2 h3 hs⟩
def Oe:List AV->List SV
 | []=>[]
 | .val k x::l=>.val k x::Oe l
 | _::l=>.dead::Oe l
theorem zog:∀{as:List AV} {vs:List Value},ArgsG S w as [] vs->vs.length=as.length/\(Oe as).length=as.length/\∀t sv,(Oe as)[t]?=some sv->G S w me pl sv (vs.getD t undef)
 | [],vs,h=>by
  have:vs=[]:=h.2;subst this;exact ⟨rfl,rfl,λt sv ht=>by simp [Oe] at ht⟩
 | .val k x::as,vs,h=>by
  obtain ⟨v,vs',rfl,h1,h2⟩:=h;obtain ⟨h3,h4,h5⟩:=zog h2;refine ⟨by simp [h3],by simp [Oe,h4],λt sv ht=>?_⟩;cases t with
  | zero=>simp only [Oe,List.getElem?_cons_zero,Ad] at ht; subst ht; exact h1
  | succ t=>simp only [Oe,List.getElem?_cons_succ] at ht; simpa using h5 t sv ht
 | .fn f::as,vs,h=>by
  obtain ⟨vs',rfl,h2⟩:=h;obtain ⟨h3,h4,h5⟩:=zog h2;refine ⟨by simp [h3],by simp [Oe,h4],λt sv ht=>?_⟩;cases t with
  | zero=>simp only [Oe,List.getElem?_cons_zero,Ad] at ht; subst ht; trivial
  | succ t=>simp only [Oe,List.getElem?_cons_succ] at ht; simpa using h5 t sv ht
 | .ptr k x::as,vs,h=>by
  obtain ⟨v,vs',g,off,pp',rfl,e,_⟩:=h;cases e
 | .clo f k x::as,vs,h=>by
  obtain ⟨v,vs',g,off,pp',rfl,e,_⟩:=h;cases e
end
section
variable {P:Program}
end
section
variable {C:Ctx} {tm:Nat->SV} {me:Nat->Option Blk} {pl:Nat->Plc} {S:Nat->Prop} {a:Act} {w:World} {P:Program}
theorem Inv.adoptM (h:Inv C tm me pl S a w) {i:Nat} {kk kv:Kd} {m:List (kk.T×kv.T)} {g:Nat} {es:Array MapEntry} {t:Nat} (hi:me i=none) (hnp:C.pp.length<=i) (hnS:¬S g) (hw0:C.w0.heap.size<=g)
  (hdis:∀j b,me j=some b->(pl j).g≠some g) (hc:w.heap[g]?=some (.map es t)) (hr:MapG S w kk kv m es.toList):
  Inv C tm (upd me i (some (.map kk kv m))) (upd pl i ⟨some g,0,0⟩) S a w:=by
 have hK:Keeps S w me pl S w (upd me i (some (.map kk kv m))) (upd pl i ⟨some g,0,0⟩):=
  ⟨λ_ hb=>⟨hb,rfl⟩,λj b' hj=>by
   have e:j≠i:=λe=>by subst e; rw [hi] at hj; cases hj
   exact ⟨b',by rw [Dm _ _ e]; exact hj,by rw [Dm _ _ e]; exact Compat.refl _ _⟩⟩
 refine ⟨h.nt,h.df,λt'=>(h.tms t').keeps hK,λj b' hj=>?_,λj b' hj=>?_,λj1 j2 b1 b2 g' hne' hj1 hj2 hg=>?_,h.s0,h.sfr,h.fr,h.pd,λsv v hg=>(h.gho sv v hg).keeps hK⟩
 ·by_cases e:j=i
  ·subst e; simp only [Dr,Ad] at hj; subst hj
   exact ⟨g,es,t,by simp,by simp,hc,hnS,hr⟩
  ·rw [Dm _ _ e] at hj; rw [Dm _ _ e]; exact (h.mem j b' hj).keeps hK (λ_ _=>rfl) (λ_ _ _=>Iff.rfl)
 ·by_cases e:j=i
  ·subst e
   intro g' hg';simp at hg';exact .inl ⟨.inl ⟨hnp,.inl (by rw [<-hg']; exact hw0)⟩,by simp⟩
  ·rw [Dm _ _ e] at hj; rw [Dm _ _ e]; exact h.plcs j b' hj
 ·by_cases e1:j1=i
  ·subst e1
   have e2:j2≠j1:=λe=>hne' e.symm
   rw [Dm _ _ e2] at hj2;rw [Dm _ _ e2];simp at hg;subst hg;exact hdis j2 b2 hj2
  ·rw [Dm _ _ e1] at hj1 hg
   by_cases e2:j2=i
   ·subst e2
    simp;intro hh;exact hdis j1 b1 hj1 (by rw [hg,hh])
   ·rw [Dm _ _ e2] at hj2; rw [Dm _ _ e2]
    exact h.dis j1 j2 b1 b2 g' hne' hj1 hj2 hg
def zgm (P:Program) (f:FuncId) (kk kv:Kd) (as:List AV) (m:List (kk.T×kv.T)):Prop:=
 (∀args w,(callFunc f args).run P w=.ok (.enter f args) w)/\
 ∀(w:World) (S:Nat->Prop) (vs:List Value),ShOK S w->ArgsG S w as [] vs->
  Calls P f vs.toArray w fun
   | .returned v,w'=>∃S' g es t,v=.map (some g)/\w.heap.size<=g/\(∀b,S b->S' b)/\(∀b,S' b->b<w'.heap.size/\(S b\/w.heap.size<=b))/\Ji w [] w'/\w'.heap[g]?=some (.map es t)/\¬S' g/\MapG S' w' kk kv m es.toList
   | _,_=>False
structure EntR where
 f:FuncId
 kk:Kd
 kv:Kd
 ins:Ins
 F:(R:Type)->AT ins->(List (kk.T×kv.T)->Option R)->Option R
def EntR.OK (P:Program) (e:EntR):Prop:=∀(R:Type) (x:AT e.ins) (k:List (e.kk.T×e.kv.T)->Option R) (r:R),e.F R x k=some r->∃m,zgm P e.f e.kk e.kv (avs e.ins x) m/\k m=some r
def inlR (np:Nat) (e:EntR) (R:Type) (svs:List SV) (me:List (Nat×Blk)) (nx:Nat) (K:List SV->List (Nat×Blk)->Nat->Option R):Option R:=
 match asV svs,Kp (mget me) nx np with
 | some as,true=>match asA e.ins as with
  | some x=>e.F R x λm=>K [.mp nx] ((nx,.map e.kk e.kv m)::me) (nx+1)
  | none=>none
 | _,_=>none
theorem zlb {e:EntR} (he:e.OK P) {np:Nat} {R:Type}:∀svs me nx K r,inlR np e R svs me nx K=some r->∃rs me' nx',K rs me' nx'=some r/\(∃n,me'=n++me)/\(∀args w,(callFunc e.f args).run P w=.ok (.enter e.f args) w)/\
   ∀(C:Ctx) (tm:Nat->SV) (pl:Nat->Plc) (S:Nat->Prop) (a:Act) (w:World) (vs:List Value),np=C.pp.length->Inv C tm (mget me) pl S a w->SVL S w (mget me) pl svs vs->
    Calls P e.f vs.toArray w fun
     | .returned v,w'=>∃pl' S' vs',Inv C tm (mget me') pl' S' a w'/\v=Km vs'/\SVL S' w' (mget me') pl' rs vs'
     | _,_=>False:=by
 intro svs me nx K r h;unfold inlR at h;split at h<;>try (cases h; done)
 rename_i as has hfr;split at h<;>try (cases h; done)
 rename_i x hx;obtain ⟨m,hH,hK⟩:=he R x _ r h;obtain ⟨hf1,hf2⟩:=Ey hfr;refine ⟨_,_,_,hK,⟨[(nx,.map e.kk e.kv m)],rfl⟩,hH.1,λC tm pl S a w vs hnp hI hv=>?_⟩;have hcall:=hH.2 w S vs hI.shok (by rw [<-Lu hx]; exact JH has hv (λb hb=>⟨hb,rfl⟩));refine Calls.mono hcall (λen w' hen=>?_);cases en with
 | returned v=>
  obtain ⟨S',g,es,t,rfl,hg,hS,hSn,hf,hh,hnS,hM⟩:=hen;have h1:=hI.afterCall0 hS hSn hf;have h2:=h1.adoptM (i:=nx) (kk:=e.kk) (kv:=e.kv) (m:=m) hf1 (by omega) hnS (Am hI.fr.size hg) (λj b hj hh2=>by
   have:=hI.place_lt hj hh2;omega) hh hM
  refine ⟨upd pl nx ⟨some g,0,0⟩,S',[.map (some g)],?_,rfl,⟨_,[],rfl,⟨e.kk,e.kv,m,g,by rw [D9]; exact Dr _ _ _,by rw [Dr],rfl⟩,rfl⟩⟩;rw [D9];exact h2
 | panicked _=>exact hen
 | outgrown=>exact hen
theorem Rz {R:Type} {np:Nat} {e:EntR} (he:e.OK P) {l:List (FuncId×(List SV->List (Nat×Blk)->Nat->(List SV->List (Nat×Blk)->Nat->Option R)->Option R))} (hl:MJ P np (Ep l)):MJ P np (Ep ((e.f,inlR np e R)::l)):=
 Ed (zlb he) hl
def za1 {R:Type} (E:Env R) (body:Code) (t:Tmp) (kk kv:Kd) (as:List AV) (K:List (kk.T×kv.T)->Option R):Option R:=
 exec E body ⟨KK (Oe as) 0,[],0⟩ λe σ=>match e with
  | .exit _=>none
  | _=>match tget σ.tm t with
   | .mp j=>match mget σ.me j with
    | some (.map kk' kv' m)=>match TV.as ⟨.sl (.pair kk' kv'),m⟩ (.sl (.pair kk kv)) with
     | some m'=>K m'
     | none=>none
    | _=>none
   | _=>none
theorem AC {R:Type} {E:Env R} (hE:D7 P E) (hm:P.follows .mixedOrders=true) {f:FuncId} {fn:Func} {body:Code} (hf:P.funcs[f]?=some fn) (hb:fn.body=some body) (hent:∀args w,(callFunc f args).run P w=.ok (.enter f args) w)
  (hnt:fn.ntmps=E.nt) {t:Tmp} (hres:fn.results.toList=[.tmp t]) {as:List AV} (hnp:E.np=0) (hle:as.length<=E.nt.n) (hl:∀l∈Dy body,Ja E P l)
  {kk kv:Kd} {K:List (kk.T×kv.T)->Option R} {r:R} (h:za1 E body t kk kv as K=some r):∃m,zgm P f kk kv as m/\K m=some r:=by
 unfold za1 at h;obtain ⟨e,σ,h1,_,h2⟩:=Gg hE hm body hl _ _ _ h;have h1':(e=.normal\/e=.ret)/\∃j m,tget σ.tm t=.mp j/\mget σ.me j=some (.map kk kv m)/\K m=some r:=by
  have main:(match tget σ.tm t with
   | .mp j=>match mget σ.me j with
    | some (.map kk' kv' m)=>match TV.as ⟨.sl (.pair kk' kv'),m⟩ (.sl (.pair kk kv)) with
     | some m'=>K m'
     | none=>none
    | _=>none
   | _=>none)=some r->∃j m,tget σ.tm t=.mp j/\mget σ.me j=some (.map kk kv m)/\K m=some r:=by
   intro h1;split at h1<;>try (cases h1; done)
   rename_i j hj;split at h1<;>try (cases h1; done)
   rename_i kk' kv' m hm;split at h1<;>try (cases h1; done)
   rename_i m' hm';have:=TV.as_some hm';cases this;exact ⟨j,_,hj,hm,h1⟩
  cases e with
  | exit i=>simp at h1
  | normal=>exact ⟨.inl rfl,main h1⟩
  | ret=>exact ⟨.inr rfl,main h1⟩
 obtain ⟨he,j,m,htm,hmj,hK⟩:=h1';refine ⟨m,⟨hent,λw S vs hS hA=>?_⟩,hK⟩;refine calls_of_wp hf hb ((wpIn_wide (n:=0)).1 ?_)
 let C:Ctx:=⟨w,S,E.nt,[],λ_ _=>False,λ_=>False,none,[],undef⟩
 let pl:Nat->Plc:=λ_=>⟨none,0,0⟩
 refine h2 C hnp rfl (λ_ _ _ h=>h.elim) (bodyPost P fn _) (λpl' S' a' w' hI'=>?_) pl S _ w ?_
 ·have hG:=hI'.tms t
  rw [htm] at hG;obtain ⟨kk2,kv2,m2,g,q1,q2,q3⟩:=hG;rw [hmj] at q1;cases q1;obtain ⟨g',es,ty,r1,r2,r3,r4,r5⟩:=hI'.mem j _ hmj;rw [q2] at r1;cases r1;have hg:w.heap.size<=g:=by
   rcases hI'.plcs j _ hmj g q2 with ⟨h3 | ⟨h3,_⟩,_⟩ | ⟨⟨_,_,_,h3⟩,_⟩
   ·exact h3.2.elim id (λh=>h.elim)
   ·exact h3.elim
   ·cases h3
  have hrun:=G6 (P:=P) (w:=w') (fn:=fn) (res:=[(.tmp t,0,false)]) (by rw [hres]; rfl) (vs:=[a'.tmps.getD t undef]) ⟨[],rfl,rfl⟩;have hpost:∃S'' g es t',Km [a'.tmps.getD t undef]=.map (some g)/\w.heap.size<=g/\(∀b,S b->S'' b)/\(∀b,S'' b->b<w'.heap.size/\(S b\/w.heap.size<=b))/\Ji w [] w'/\w'.heap[g]?=some (.map es t')/\¬S'' g/\MapG S'' w' kk kv m es.toList:=
   ⟨S',g,es,ty,q3,hg,hI'.s0,λb hb=>⟨(hI'.sfr b hb).1,(hI'.sfr b hb).2.imp id (λh=>h.resolve_right id)⟩,hI'.fr,r3,r4,r5⟩
  rcases he with rfl | rfl
  ·exact ⟨hI'.df,_,hrun,hpost⟩
  ·exact ⟨hI'.df,_,hrun,hpost⟩
 ·obtain ⟨a1,a2,a3⟩:=zog (me:=mget []) (pl:=pl) hA
  refine ⟨?_,rfl,λt=>?_,λi b hi=>(by cases hi),λi b hi=>(by cases hi),λi j bi bj g _ hi=>(by cases hi),λ_ h=>h,λb hb=>⟨hS.1 b hb,.inl hb⟩,⟨rfl,rfl,rfl,Al _,λ_ _ _ _=>rfl,λe he _=>(by cases he)⟩,⟨λe he=>(by cases he),hS.2,λg hg=>⟨λe he=>(by cases he),λh=>h⟩⟩,λ_ _ h=>h.elim⟩
  ·refine ⟨?_,λd hd=>?_⟩
   ·have hnn:E.nt.n=fn.ntmps:=by rw [<-hnt]
    have:vs.length<=fn.ntmps:=by omega
    simp only [B5,Cp,Bi,C];omega
   ·have hd':E.nt.rd=some d:=hd
    rw [<-hnt] at hd'; cases hd'
  ·rw [Q9,Aj (Ct t),Nat.sub_zero]
   cases hs:(Oe as)[t]? with
   | none=>trivial
   | some sv=>
    have hlt:=(A0.1 hs).1;have:=a3 t sv hs;have e1:(vs.toArray++Array.replicate (fn.ntmps - vs.toArray.size) undef).getD t undef=vs.getD t undef:=by
     rw [Ao,Cr (by simp; omega)];simp
    rw [e1];exact this
theorem zlj {Ef:(R:Type)->Env R} {f:FuncId} {kk kv:Kd} {ins:Ins} {F:(R:Type)->AT ins->(List (kk.T×kv.T)->Option R)->Option R}
  (hE:∀R,D7 P (Ef R)) (hm:P.follows .mixedOrders=true) {fn:Func} {body:Code} (hf:P.funcs[f]?=some fn) (hb:fn.body=some body) (hname:(fn.name== "runtime.NumGoroutine")=false) {nt:Nat} (hnp:∀R,(Ef R).np=0) (hnt:∀R,(Ef R).nt=nt) (hntf:fn.ntmps=nt)
  {t:Tmp} (hres:fn.results.toList=[.tmp t]) (hle:∀x,(avs ins x).length<=nt) (hl:∀R,∀l∈Dy body,Ja (Ef R) P l)
  (heq:∀R x k,za1 (Ef R) body t kk kv (avs ins x) k=F R x k):EntR.OK P ⟨f,kk,kv,ins,F⟩:=by
 intro R x k r h;simp only at h;rw [<-heq] at h;obtain ⟨m,h1,h2⟩:=AC (hE R) hm hf hb (enters hf hname (by rw [hb]; rfl)) (by rw [hnt,hntf]) hres (hnp R) (by rw [hnt]; exact hle x) (hl R) h;exact ⟨m,h1,h2⟩
end
end Go.PG
end
