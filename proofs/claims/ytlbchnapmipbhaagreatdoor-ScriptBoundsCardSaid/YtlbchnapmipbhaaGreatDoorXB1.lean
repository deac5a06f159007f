/- A part of the proof over this seat (own work; the framework that reads a Go function as a pure one, or a use of it). No condition of its own. -/
import Derived.Laws.CopyRow
import Derived.Laws.Rows
import Derived.Laws.AppendOwn
import Derived.Orders
import Derived.Laws.StructEq
import Derived.OrdersIn
import Derived.TacticsIn
import Derived.Laws.Tables
import Derived.Laws.CopyOwn
import Derived.Laws.MakeOwn
set_option linter.unusedVariables false
set_option linter.unusedSimpArgs false
set_option linter.unusedSectionVars false
noncomputable section
namespace Go.PG
inductive FnV where
 | nil
 | fn (f:FuncId)
 | clo (f:FuncId) (c:FnV)
 deriving Inhabited
def FnV.same:FnV→FnV→Bool
 | .nil,.nil=>true
 | .fn f,.fn g=>Nat.beq f g
 | .clo f c,.clo g d=>Nat.beq f g&&c.same d
 | _,_=>false
theorem FnV.same_eq:∀{a b:FnV},a.same b=true→a=b
 | .nil,.nil,_=>rfl
 | .fn f,.fn g,h=>by rw [Nat.eq_of_beq_eq_true h]
 | .clo f c,.clo g d,h=>by
  have h':(Nat.beq f g&&c.same d)=true:=h;rw [Bool.and_eq_true] at h';rw [Nat.eq_of_beq_eq_true h'.1,FnV.same_eq h'.2]
 | .nil,.fn _,h=>by cases h
 | .nil,.clo _ _,h=>by cases h
 | .fn _,.nil,h=>by cases h
 | .fn _,.clo _ _,h=>by cases h
 | .clo _ _,.nil,h=>by cases h
 | .clo _ _,.fn _,h=>by cases h
def FnRd (S:Nat→Prop) (w:World):FnV→Value→Prop
 | .nil,v=>v=.nilFunc
 | .fn f,v=>v=.func (.func f) #[] #[]
 | .clo f c,v=>∃g off cs t fr u,v=.func (.func f) #[] #[.pointer (some ⟨g,off,none⟩)]∧S g∧w.heap[g]?=some (.cells cs t fr)∧(cs.toList.drop off).take 1=[u]∧FnRd S w c u
theorem FnRd.mono {S S':Nat→Prop} {w w':World} (hs:∀b,S b→S' b∧w'.heap[b]?=w.heap[b]?):∀{x:FnV} {v:Value},FnRd S w x v→FnRd S' w' x v
 | .nil,_,h=>h
 | .fn _,_,h=>h
 | .clo _ _,_,⟨g,off,cs,t,fr,u,h1,h2,h3,h4,h5⟩=>⟨g,off,cs,t,fr,u,h1,(hs _ h2).1,by rw [(hs _ h2).2]; exact h3,h4,FnRd.mono hs h5⟩
theorem FnRd.one {S:Nat→Prop} {w:World}:∀{x:FnV} {v:Value},FnRd S w x v→v.oneCell'=true∧v.cells=#[v]
 | .nil,_,h=>by
  have h':_=Value.nilFunc:=h;subst h'; exact ⟨rfl,rfl⟩
 | .fn _,_,h=>by
  have h':_=Value.func _ _ _:=h;subst h'; exact ⟨rfl,rfl⟩
 | .clo _ _,_,⟨_,_,_,_,_,_,h,_⟩=>by subst h; exact ⟨rfl,rfl⟩
inductive Kd where
 | int (k:IntKind)
 | bool
 | str
 | unit
 | pair (a b:Kd)
 | arr (n:Nat) (e:Kd)
 | sl (e:Kd)
 | mp
 | fn
 deriving Inhabited
@[reducible] def Kd.T:Kd→Type
 | .int _=>Int
 | .bool=>Bool
 | .str=>ByteArray
 | .unit=>Unit
 | .pair a b=>a.T×b.T
 | .arr _ e=>List e.T
 | .sl e=>List e.T
 | .mp=>Unit
 | .fn=>FnV
def Kd.ikb:IntKind→IntKind→Bool
 | .i8,.i8 | .i16,.i16 | .i32,.i32 | .i64,.i64 | .u8,.u8 | .u16,.u16 | .u32,.u32 | .u64,.u64=>true
 | _,_=>false
theorem Kd.ikb_eq:∀{a b:IntKind},Kd.ikb a b=true→a=b:=by
 intro a b h; cases a<;>cases b<;>first | rfl | (simp [Kd.ikb] at h)
def Kd.same:Kd→Kd→Bool
 | .int a,.int b=>Kd.ikb a b
 | .bool,.bool=>true
 | .str,.str=>true
 | .unit,.unit=>true
 | .pair a b,.pair c d=>a.same c&&b.same d
 | .arr n a,.arr m b=>Nat.beq n m&&a.same b
 | .sl a,.sl b=>a.same b
 | .mp,.mp=>true
 | .fn,.fn=>true
 | _,_=>false
theorem Kd.same_eq:∀{a b:Kd},a.same b=true→a=b:=by
 intro a
 induction a with
 | int k=>intro b h; cases b<;>simp [Kd.same] at h; exact congrArg _ (Kd.ikb_eq h)
 | bool=>intro b h; cases b<;>simp [Kd.same] at h; rfl
 | str=>intro b h; cases b<;>simp [Kd.same] at h; rfl
 | unit=>intro b h; cases b<;>simp [Kd.same] at h; rfl
 | pair a b iha ihb=>intro c h; cases c<;>simp [Kd.same] at h; rw [iha h.1,ihb h.2]
 | arr n a ih=>intro c h; cases c<;>simp [Kd.same] at h; rw [ih h.2,h.1]
 | sl a ih=>intro c h; cases c<;>simp [Kd.same] at h; rw [ih h]
 | mp=>intro b h; cases b<;>simp [Kd.same] at h; rfl
 | fn=>intro b h; cases b<;>simp [Kd.same] at h; rfl
abbrev TV:=(k:Kd)×k.T
def TV.as (v:TV) (k:Kd):Option k.T:=
 if h:v.1.same k=true then some (cast (congrArg Kd.T (Kd.same_eq h)) v.2) else none
theorem TV.as_some {v:TV} {k:Kd} {x:k.T} (h:v.as k=some x):v=⟨k,x⟩:=by
 unfold TV.as at h;split at h
 ·rename_i hs
  obtain ⟨k',y⟩:=v;have e:=Kd.same_eq hs;simp only at e;subst e;simp only [cast_eq,Option.some.injEq] at h;rw [h]
 ·cases h
def Kd.size:Kd→Nat
 | .int _ | .bool | .str | .sl _ | .mp | .fn=>1
 | .unit=>0
 | .pair a b=>a.size+b.size
 | .arr n e=>n*e.size
def Kd.agg:Kd→Bool
 | .unit | .pair _ _ | .arr _ _=>true
 | _=>false
def Kd.zero:(k:Kd)→k.T
 | .int _=>(0:Int)
 | .bool=>false
 | .str=>ByteArray.empty
 | .unit=>()
 | .pair a b=>(a.zero,b.zero)
 | .arr n e=>List.replicate n e.zero
 | .sl _=>[]
 | .mp=>()
 | .fn=>FnV.nil
def Kd.zcells:Kd→List Value
 | .int k=>[.int k 0]
 | .bool=>[.bool false]
 | .str=>[.string ByteArray.empty]
 | .unit=>[]
 | .pair a b=>a.zcells++b.zcells
 | .arr n e=>(List.replicate n e.zcells).flatten
 | .sl _=>[.slice none 0 0]
 | .mp=>[.map none]
 | .fn=>[.nilFunc]
def RdL {α:Type} (R:α→List Value→Prop):List α→List Value→Prop
 | [],cs=>cs=[]
 | x::xs,cs=>∃c1 c2,cs=c1++c2∧R x c1∧RdL R xs c2
def RdSl {α:Type} (R:α→List Value→Prop) (S:Nat→Prop) (w:World) (sz:Nat) (l:List α) (v:Value):Prop:=
 (v=.slice none 0 0∧l=[])∨
 (∃g off cap c t fr,v=.slice (some ⟨g,off,none⟩) l.length cap∧l.length≤cap∧S g∧w.heap[g]?=some (.cells c t fr)∧
  RdL R l ((c.toList.drop off).take (l.length*sz)))∨
 ∃a,v=.slice (some a) 0 0∧l=[]
def Rd (S:Nat→Prop) (w:World):(k:Kd)→k.T→List Value→Prop
 | .int ik,x,cs=>cs=[.int ik x]
 | .bool,x,cs=>cs=[.bool x]
 | .str,x,cs=>cs=[.string x]
 | .unit,_,cs=>cs=[]
 | .pair a b,x,cs=>∃c1 c2,cs=c1++c2∧Rd S w a x.1 c1∧Rd S w b x.2 c2
 | .arr n e,x,cs=>List.length x=n∧RdL (Rd S w e) x cs
 | .sl e,x,cs=>∃v,cs=[v]∧RdSl (Rd S w e) S w e.size x v
 | .mp,_,cs=>cs=[.map none]
 | .fn,x,cs=>∃v,cs=[v]∧FnRd S w x v
theorem RdL.imp {α:Type} {R R':α→List Value→Prop} (h:∀x cs,R x cs→R' x cs):∀{l:List α} {cs},RdL R l cs→RdL R' l cs
 | [],_,hh=>hh
 | _::_,_,⟨c1,c2,e,h1,h2⟩=>⟨c1,c2,e,h _ _ h1,RdL.imp h h2⟩
theorem RdL.length {α:Type} {R:α→List Value→Prop} {n:Nat} (h:∀x cs,R x cs→cs.length=n):∀{l:List α} {cs},RdL R l cs→cs.length=l.length*n
 | [],_,hh=>by simp [RdL] at hh; simp [hh]
 | _::l,_,⟨c1,c2,e,h1,h2⟩=>by
  subst e;rw [List.length_append,h _ _ h1,RdL.length h h2,List.length_cons,Nat.add_mul];omega
theorem RdL.append {α:Type} {R:α→List Value→Prop}:∀{l1 l2:List α} {c1 c2},RdL R l1 c1→RdL R l2 c2→RdL R (l1++l2) (c1++c2)
 | [],_,_,_,h1,h2=>by simp only [RdL] at h1; subst h1; simpa using h2
 | _::_,_,_,_,⟨a,b,e,ha,hb⟩,h2=>⟨a,b++_,by rw [e,List.append_assoc],ha,RdL.append hb h2⟩
theorem RdL.split {α:Type} {R:α→List Value→Prop}:∀{l1 l2:List α} {cs},RdL R (l1++l2) cs→∃c1 c2,cs=c1++c2∧RdL R l1 c1∧RdL R l2 c2
 | [],_,cs,h=>⟨[],cs,rfl,rfl,h⟩
 | _::_,_,_,⟨a,b,e,ha,hb⟩=>
  let ⟨c1,c2,e2,h1,h2⟩:=RdL.split hb
  ⟨a++c1,c2,by rw [e,e2,List.append_assoc],⟨a,c1,rfl,ha,h1⟩,h2⟩
theorem Rd.length {S:Nat→Prop} {w:World}:∀(k:Kd) (x:k.T) (cs),Rd S w k x cs→cs.length=k.size
 | .int _,_,_,h=>by simp only [Rd] at h; simp [h,Kd.size]
 | .bool,_,_,h=>by simp only [Rd] at h; simp [h,Kd.size]
 | .str,_,_,h=>by simp only [Rd] at h; simp [h,Kd.size]
 | .unit,_,_,h=>by simp only [Rd] at h; simp [h,Kd.size]
 | .pair a b,x,_,⟨c1,c2,e,h1,h2⟩=>by
  subst e; rw [List.length_append,Rd.length a _ _ h1,Rd.length b _ _ h2]; rfl
 | .arr n e,x,cs,⟨hl,h⟩=>by
  rw [RdL.length (Rd.length e) h,hl]; rfl
 | .sl e,_,_,⟨v,e1,_⟩=>by simp [e1,Kd.size]
 | .mp,_,_,h=>by simp only [Rd] at h; simp [h,Kd.size]
 | .fn,_,_,⟨v,e1,_⟩=>by simp [e1,Kd.size]
theorem RdSl.mono {α:Type} {R R':α→List Value→Prop} {S S':Nat→Prop} {w w':World} {sz:Nat} {l:List α} {v:Value}
  (hs:∀b,S b→S' b∧w'.heap[b]?=w.heap[b]?) (hr:∀x cs,R x cs→R' x cs) (h:RdSl R S w sz l v):RdSl R' S' w' sz l v:=by
 rcases h with h | ⟨g,off,cap,c,t,fr,h1,h2,h3,h4,h6⟩ | h
 ·exact .inl h
 ·exact .inr (.inl ⟨g,off,cap,c,t,fr,h1,h2,(hs _ h3).1,by rw [(hs _ h3).2]; exact h4,RdL.imp hr h6⟩)
 ·exact .inr (.inr h)
theorem Rd.mono {S S':Nat→Prop} {w w':World} (hs:∀b,S b→S' b∧w'.heap[b]?=w.heap[b]?):
  ∀(k:Kd) (x:k.T) (cs),Rd S w k x cs→Rd S' w' k x cs
 | .int _,_,_,h=>h
 | .bool,_,_,h=>h
 | .str,_,_,h=>h
 | .unit,_,_,h=>h
 | .pair a b,_,_,⟨c1,c2,e,h1,h2⟩=>⟨c1,c2,e,Rd.mono hs a _ _ h1,Rd.mono hs b _ _ h2⟩
 | .arr _ e,_,_,⟨hl,h⟩=>⟨hl,RdL.imp (fun x cs h=>Rd.mono hs e x cs h) h⟩
 | .sl e,_,_,⟨v,e1,h⟩=>⟨v,e1,RdSl.mono hs (fun x cs h=>Rd.mono hs e x cs h) h⟩
 | .mp,_,_,h=>h
 | .fn,_,_,⟨v,e1,h⟩=>⟨v,e1,h.mono hs⟩
theorem RdL.all {α:Type} {R:α→List Value→Prop} {p:Value→Prop} (h:∀x cs,R x cs→∀v∈cs,p v):∀{l:List α} {cs},RdL R l cs→∀v∈cs,p v
 | [],_,hh=>by simp only [RdL] at hh; subst hh; intro v hv; cases hv
 | _::_,_,⟨c1,c2,e,h1,h2⟩=>by
  subst e; intro v hv;rcases List.mem_append.1 hv with hv | hv
  ·exact h _ _ h1 v hv
  ·exact RdL.all h h2 v hv
theorem RdSl.one {α:Type} {R:α→List Value→Prop} {S:Nat→Prop} {w:World} {sz:Nat} {l:List α} {v:Value} (h:RdSl R S w sz l v):v.oneCell'=true:=by
 rcases h with ⟨rfl,_⟩ | ⟨g,off,cap,c,t,fr,rfl,_⟩ | ⟨a,rfl,_⟩<;>rfl
theorem Rd.one {S:Nat→Prop} {w:World}:∀(k:Kd) (x:k.T) (cs),Rd S w k x cs→∀v∈cs,v.oneCell'=true
 | .int _,_,_,h=>by simp only [Rd] at h; subst h; simp [Value.oneCell']
 | .bool,_,_,h=>by simp only [Rd] at h; subst h; simp [Value.oneCell']
 | .str,_,_,h=>by simp only [Rd] at h; subst h; simp [Value.oneCell']
 | .unit,_,_,h=>by simp only [Rd] at h; subst h; simp
 | .pair a b,_,_,⟨c1,c2,e,h1,h2⟩=>by
  subst e; intro v hv;rcases List.mem_append.1 hv with hv | hv
  ·exact Rd.one a _ _ h1 v hv
  ·exact Rd.one b _ _ h2 v hv
 | .arr _ e,_,_,⟨_,h⟩=>RdL.all (Rd.one e) h
 | .sl e,_,_,⟨v,e1,h⟩=>by subst e1; intro u hu; simp at hu; subst hu; exact h.one
 | .mp,_,_,h=>by simp only [Rd] at h; subst h; simp [Value.oneCell']
 | .fn,_,_,⟨v,e1,h⟩=>by subst e1; intro u hu; simp at hu; subst hu; exact h.one.1
theorem RdL.replicate {α:Type} {R:α→List Value→Prop} {x:α} {c:List Value} (h:R x c):∀n,RdL R (List.replicate n x) (List.replicate n c).flatten
 | 0=>rfl
 | n+1=>⟨c,(List.replicate n c).flatten,by simp [List.replicate_succ],h,RdL.replicate h n⟩
theorem Rd.zero {S:Nat→Prop} {w:World}:∀(k:Kd),Rd S w k k.zero k.zcells
 | .int _=>rfl
 | .bool=>rfl
 | .str=>rfl
 | .unit=>rfl
 | .pair a b=>⟨_,_,rfl,Rd.zero a,Rd.zero b⟩
 | .arr n e=>⟨by simp [Kd.zero],RdL.replicate (Rd.zero e) n⟩
 | .sl e=>⟨_,rfl,.inl ⟨rfl,rfl⟩⟩
 | .mp=>rfl
 | .fn=>⟨_,rfl,rfl⟩
theorem Kd.zcells_length (k:Kd):k.zcells.length=k.size:=
 Rd.length (S:=fun _=>True) (w:=default) k _ _ (Rd.zero k)
def Kd.mkV (k:Kd) (cs:List Value):Value:=if k.agg then .agg cs.toArray else cs.headD undef
theorem Rd.cells {S:Nat→Prop} {w:World} {k:Kd} {x:k.T} {cs:List Value} (h:Rd S w k x cs):(k.mkV cs).cells=cs.toArray:=by
 cases k<;>simp only [Rd] at h
 case int=>subst h; simp [Kd.mkV,Kd.agg,Value.cells]
 case bool=>subst h; simp [Kd.mkV,Kd.agg,Value.cells]
 case str=>subst h; simp [Kd.mkV,Kd.agg,Value.cells]
 case unit=>subst h; simp [Kd.mkV,Kd.agg,Value.cells]
 case mp=>subst h; simp [Kd.mkV,Kd.agg,Value.cells]
 case fn=>
  obtain ⟨v,e1,h⟩:=h;subst e1;simpa [Kd.mkV,Kd.agg] using h.one.2
 case pair=>simp [Kd.mkV,Kd.agg,Value.cells]
 case arr=>simp [Kd.mkV,Kd.agg,Value.cells]
 case sl=>
  obtain ⟨v,e1,h⟩:=h;subst e1;rcases h with ⟨rfl,_⟩ | ⟨g,off,cap,c,t,fr,rfl,_⟩ | ⟨a,rfl,_⟩<;>simp [Kd.mkV,Kd.agg,Value.cells]
def VRd (S:Nat→Prop) (w:World) (k:Kd) (x:k.T) (v:Value):Prop:=∃cs,Rd S w k x cs∧v=k.mkV cs
theorem VRd.mono {S S':Nat→Prop} {w w':World} (hs:∀b,S b→S' b∧w'.heap[b]?=w.heap[b]?) {k:Kd} {x:k.T} {v:Value} (h:VRd S w k x v):VRd S' w' k x v:=
 let ⟨cs,h1,h2⟩:=h
 ⟨cs,Rd.mono hs k x cs h1,h2⟩
theorem VRd.int {S:Nat→Prop} {w:World} {ik:IntKind} {x:Int} {v:Value}:VRd S w (.int ik) x v↔v=.int ik x:=
 ⟨fun ⟨cs,h1,h2⟩=>by simp only [Rd] at h1; subst h1; exact h2,fun h=>⟨[v],by simp [Rd,h],rfl⟩⟩
theorem VRd.bool {S:Nat→Prop} {w:World} {x:Bool} {v:Value}:VRd S w .bool x v↔v=.bool x:=
 ⟨fun ⟨cs,h1,h2⟩=>by simp only [Rd] at h1; subst h1; exact h2,fun h=>⟨[v],by simp [Rd,h],rfl⟩⟩
theorem VRd.str {S:Nat→Prop} {w:World} {x:ByteArray} {v:Value}:VRd S w .str x v↔v=.string x:=
 ⟨fun ⟨cs,h1,h2⟩=>by simp only [Rd] at h1; subst h1; exact h2,fun h=>⟨[v],by simp [Rd,h],rfl⟩⟩
theorem VRd.sl {S:Nat→Prop} {w:World} {e:Kd} {x:List e.T} {v:Value}:VRd S w (.sl e) x v↔RdSl (Rd S w e) S w e.size x v:=
 ⟨fun ⟨cs,⟨u,e1,h1⟩,h2⟩=>by subst e1; subst h2; exact h1,fun h=>⟨[v],⟨v,rfl,h⟩,rfl⟩⟩
theorem VRd.fn {S:Nat→Prop} {w:World} {x:FnV} {v:Value}:VRd S w .fn x v↔FnRd S w x v:=
 ⟨fun ⟨cs,⟨u,e1,h1⟩,h2⟩=>by subst e1; subst h2; exact h1,fun h=>⟨[v],⟨v,rfl,h⟩,rfl⟩⟩
inductive Step where
 | fld (j:Nat)
 | idx (i:Nat)
def getF:(k:Kd)→k.T→Nat→Option TV
 | .pair a _,x,0=>some ⟨a,x.1⟩
 | .pair _ b,x,j+1=>getF b x.2 j
 | _,_,_=>none
def setF:(k:Kd)→k.T→Nat→TV→Option k.T
 | .pair a _,x,0,v=>match v.as a with | some y=>some (y,x.2) | none=>none
 | .pair _ b,x,j+1,v=>match setF b x.2 j v with | some y=>some (x.1,y) | none=>none
 | _,_,_,_=>none
def Kd.offF:Kd→Nat→Option (Nat×Kd)
 | .pair a _,0=>some (0,a)
 | .pair a b,j+1=>match b.offF j with | some (o,k)=>some (a.size+o,k) | none=>none
 | _,_=>none
def get1:(k:Kd)→k.T→Step→Option TV
 | k,x,.fld j=>getF k x j
 | .arr _ e,x,.idx i=>some ⟨e,x.getD i e.zero⟩
 | _,_,_=>none
def set1:(k:Kd)→k.T→Step→TV→Option k.T
 | k,x,.fld j,v=>setF k x j v
 | .arr _ e,x,.idx i,v=>match v.as e with | some y=>some (x.set i y) | none=>none
 | _,_,_,_=>none
def Kd.off1:Kd→Step→Option (Nat×Kd)
 | k,.fld j=>k.offF j
 | .arr _ e,.idx i=>some (i*e.size,e)
 | _,_=>none
def Kd.ok1:Kd→Step→Prop
 | .arr n _,.idx i=>i<n
 | _,_=>True
def getP:(k:Kd)→k.T→List Step→Option TV
 | k,x,[]=>some ⟨k,x⟩
 | k,x,s::p=>match get1 k x s with | some ⟨k',x'⟩=>getP k' x' p | none=>none
def setP:(k:Kd)→k.T→List Step→TV→Option k.T
 | k,_,[],v=>v.as k
 | k,x,s::p,v=>
  match get1 k x s with
  | some ⟨k',x'⟩=>match setP k' x' p v with
   | some y=>set1 k x s ⟨k',y⟩
   | none=>none
  | none=>none
def Kd.offP:Kd→List Step→Option (Nat×Kd)
 | k,[]=>some (0,k)
 | k,s::p=>match k.off1 s with
  | some (o,k')=>match k'.offP p with
   | some (o',k'')=>some (o+o',k'')
   | none=>none
  | none=>none
def Kd.okP:Kd→List Step→Prop
 | _,[]=>True
 | k,s::p=>k.ok1 s∧match k.off1 s with
  | some (_,k')=>k'.okP p
  | none=>True
def Lens (S:Nat→Prop) (w:World) (k:Kd) (cs:List Value) (o:Nat) (k':Kd) (x':k'.T) (set:TV→Option k.T):Prop:=
 ∃c1 c2 c3,cs=c1++c2++c3∧c1.length=o∧Rd S w k' x' c2∧
  (∀(y:k'.T),∃z,set ⟨k',y⟩=some z∧∀(S':Nat→Prop) (w':World) c2',(∀b,S b→S' b∧w'.heap[b]?=w.heap[b]?)→Rd S' w' k' y c2'→Rd S' w' k z (c1++c2'++c3))
theorem zgs:∀k:Kd,k.same k=true:=by
 intro k; induction k with
 | int k=>cases k<;>rfl
 | bool=>rfl
 | str=>rfl
 | unit=>rfl
 | pair a b h1 h2=>simp [Kd.same,h1,h2]
 | arr n a h=>simp [Kd.same,h]
 | sl a h=>simpa [Kd.same] using h
 | mp=>rfl
 | fn=>rfl
theorem TV.as_self (k:Kd) (x:k.T):TV.as ⟨k,x⟩ k=some x:=by
 unfold TV.as;rw [dif_pos (zgs k)];rfl
theorem zuc {S:Nat→Prop} {w:World}:∀(k:Kd) (x:k.T) (cs:List Value) (j:Nat) (k':Kd) (x':k'.T),Rd S w k x cs→getF k x j=some ⟨k',x'⟩→
  ∃o,k.offF j=some (o,k')∧Lens S w k cs o k' x' (setF k x j)
 | .pair a b,x,_,0,k',x',⟨c1,c2,e,h1,h2⟩,hg=>by
  simp only [getF,Option.some.injEq] at hg;cases hg;refine ⟨0,rfl,[],c1,c2,by simpa using e,rfl,h1,fun y=>⟨(y,x.2),by simp [setF,TV.as_self],fun S' w' c2' hs hy=>?_⟩⟩;exact ⟨c2',c2,by simp,hy,Rd.mono hs b _ _ h2⟩
 | .pair a b,x,_,j+1,k',x',⟨c1,c2,e,h1,h2⟩,hg=>by
  simp only [getF] at hg;obtain ⟨o,ho,d1,d2,d3,e2,hl,hr,hset⟩:=zuc b x.2 c2 j k' x' h2 hg;refine ⟨a.size+o,by simp [Kd.offF,ho],c1++d1,d2,d3,by simp [e,e2],by simp [hl,Rd.length a _ _ h1],hr,fun y=>?_⟩;obtain ⟨z,hz,hh⟩:=hset y;refine ⟨(x.1,z),by simp [setF,hz],fun S' w' c2' hs hy=>?_⟩;exact ⟨c1,d1++c2'++d3,by simp,Rd.mono hs a _ _ h1,hh S' w' c2' hs hy⟩
theorem RdL.nth {α:Type} {R:α→List Value→Prop} {n:Nat} (hn:∀x cs,R x cs→cs.length=n):∀{l:List α} {cs} (i:Nat) (d:α),RdL R l cs→i<l.length→
  ∃c1 c2 c3,cs=c1++c2++c3∧c1.length=i*n∧R (l.getD i d) c2∧
   ∀(R':α→List Value→Prop) y c2',(∀x cs,R x cs→R' x cs)→R' y c2'→RdL R' (l.set i y) (c1++c2'++c3)
 | [],_,_,_,_,h=>by simp at h
 | x::l,_,0,d,⟨a,b,e,h1,h2⟩,_=>
  ⟨[],a,b,by simpa using e,by simp,by simpa using h1,fun R' y c2' hi hy=>⟨c2',b,by simp,hy,RdL.imp hi h2⟩⟩
 | x::l,_,i+1,d,⟨a,b,e,h1,h2⟩,h=>by
  obtain ⟨c1,c2,c3,e2,hl,hr,hset⟩:=RdL.nth hn i d h2 (by simpa using h);refine ⟨a++c1,c2,c3,by simp [e,e2],by rw [List.length_append,hl,hn _ _ h1,Nat.add_mul]; omega,by simpa using hr,fun R' y c2' hi hy=>?_⟩;exact ⟨a,c1++c2'++c3,by simp,hi _ _ h1,hset R' y c2' hi hy⟩
theorem lens1 {S:Nat→Prop} {w:World} (k:Kd) (x:k.T) (cs:List Value) (s:Step) (k':Kd) (x':k'.T) (h:Rd S w k x cs) (ho:k.ok1 s) (hg:get1 k x s=some ⟨k',x'⟩):
  ∃o,k.off1 s=some (o,k')∧Lens S w k cs o k' x' (set1 k x s):=by
 cases s with
 | fld j=>
  have hg':getF k x j=some ⟨k',x'⟩:=by cases k<;>simpa [get1] using hg
  obtain ⟨o,h1,h2⟩:=zuc k x cs j k' x' h hg';refine ⟨o,by cases k<;>simpa [Kd.off1] using h1,?_⟩;obtain ⟨c1,c2,c3,e,hl,hr,hset⟩:=h2;refine ⟨c1,c2,c3,e,hl,hr,fun y=>?_⟩;obtain ⟨z,hz,hh⟩:=hset y;exact ⟨z,by cases k<;>simpa [set1] using hz,hh⟩
 | idx i=>
  cases k<;>simp only [get1] at hg<;>try (cases hg; done)
  rename_i n e;simp only [Option.some.injEq] at hg;cases hg;simp only [Kd.ok1] at ho;obtain ⟨hl,hr⟩:=h;obtain ⟨c1,c2,c3,e2,hl2,hr2,hset⟩:=RdL.nth (Rd.length _) i (Kd.zero _) hr (by omega);refine ⟨i*Kd.size _,rfl,c1,c2,c3,e2,hl2,hr2,fun y=>⟨List.set x i y,by simp [set1,TV.as_self],fun S' w' c2' hs hy=>?_⟩⟩;exact ⟨by simpa using hl,hset _ y c2' (fun x cs h=>Rd.mono hs _ x cs h) hy⟩
theorem lensP {S:Nat→Prop} {w:World}:∀(p:List Step) (k:Kd) (x:k.T) (cs:List Value) (k':Kd) (x':k'.T),Rd S w k x cs→k.okP p→getP k x p=some ⟨k',x'⟩→
  ∃o,k.offP p=some (o,k')∧Lens S w k cs o k' x' (setP k x p)
 | [],k,x,cs,k',x',h,_,hg=>by
  simp only [getP,Option.some.injEq] at hg;cases hg;exact ⟨0,rfl,[],cs,[],by simp,rfl,h,fun y=>⟨y,by simp [setP,TV.as_self],fun S' w' c2' _ hy=>by simpa using hy⟩⟩
 | s::p,k,x,cs,k',x',h,ho,hg=>by
  simp only [getP] at hg;cases h1:get1 k x s with
  | none=>simp [h1] at hg
  | some v1=>
   obtain ⟨k1,x1⟩:=v1;simp only [h1] at hg;obtain ⟨o1,e1,c1,c2,c3,ec,hl,hr,hset⟩:=lens1 k x cs s k1 x1 h ho.1 h1;have ho2:k1.okP p:=by have:=ho.2; simpa [e1] using this
   obtain ⟨o2,e2,d1,d2,d3,ed,hl2,hr2,hset2⟩:=lensP p k1 x1 c2 k' x' hr ho2 hg;refine ⟨o1+o2,by simp [Kd.offP,e1,e2],c1++d1,d2,d3++c3,by simp [ec,ed],by simp [hl,hl2],hr2,fun y=>?_⟩;obtain ⟨z2,hz2,hh2⟩:=hset2 y;obtain ⟨z,hz,hh⟩:=hset z2;refine ⟨z,by simp [setP,h1,hz2,hz],fun S' w' c2' hs hy=>?_⟩;have:=hh S' w' (d1++c2'++d3) hs (hh2 S' w' c2' hs hy);simpa using this
inductive Cmp where
 | val (k:Kd) (x:k.T)
 | own (j ver:Nat)
 | junk
 | mp (j:Nat)
inductive SV where
 | dead
 | nil
 | val (k:Kd) (x:k.T)
 | ptr (b:Nat) (p:List Step) (k:Kd)
 | pval (k:Kd) (x:k.T)
 | own (j ver:Nat)
 | win (j ver lo len:Nat)
 | rptr (j ver i:Nat) (p:List Step) (k:Kd)
 | asl (b:Nat) (p:List Step) (lo len:Nat)
 | pwin (b:Nat) (p:List Step) (lo n:Nat)
 | tup (l:List Cmp)
 | fn (f:FuncId)
 | nnv (e:Kd) (l:List e.T)
 | cap (e:Kd) (l:List e.T)
 | mptr (b i:Nat) (k:Kd)
 | strct (fs:List Kd) (cs:List Cmp)
 | clo (f:FuncId) (ps:List (Nat×Kd))
 | mp (j:Nat)
 | yv (i:Nat)
def Kd.flat:Kd→List Kd
 | .unit=>[]
 | .pair a b=>a.flat++b.flat
 | .int k=>[.int k]
 | .bool=>[.bool]
 | .str=>[.str]
 | .arr n e=>[.arr n e]
 | .sl e=>[.sl e]
 | .mp=>[.mp]
 | .fn=>[.fn]
def Kd.isS:Kd→Bool
 | .unit | .pair _ _=>true
 | _=>false
def Kd.flatF:Kd→Nat→Option (Nat×Kd)
 | .pair a _,0=>some (0,a)
 | .pair a b,j+1=>match b.flatF j with | some (d,k)=>some (a.flat.length+d,k) | none=>none
 | _,_=>none
inductive Blk where
 | var (k:Kd) (x:k.T) (shut:Bool)
 | row (e:Kd) (l:List e.T) (ver:Nat) (shut:Bool)
 | mix (fs:List Kd) (cs:List Cmp)
 | map (kk kv:Kd) (m:List (kk.T×kv.T))
structure Plc where
 g:Option Nat
 off:Nat
 cap:Nat
def upd {α:Type} (f:Nat→α) (i:Nat) (v:α):Nat→α:=fun j=>if j=i then v else f j
@[simp] theorem Ah {α:Type} (f:Nat→α) (i:Nat) (v:α):upd f i v i=v:=if_pos rfl
theorem Ac {α:Type} (f:Nat→α) {i j:Nat} (v:α) (h:j≠i):upd f i v j=f j:=if_neg h
def RowV (pl:Plc) (n:Nat) (v:Value):Prop:=
 (pl.g=none∧v=.slice none 0 0)∨∃g,pl.g=some g∧v=.slice (some ⟨g,0,none⟩) n pl.cap
def WinV (g:Option Nat) (off sz lo n:Nat) (v:Value):Prop:=
 (g=none∧v=.slice none 0 0∧n=0)∨∃b o cap,g=some b∧v=.slice (some ⟨b,o,none⟩) n cap∧n≤cap∧(n=0∨o=off+lo*sz)
def MapG (S:Nat→Prop) (w:World) (kk kv:Kd):List (kk.T×kv.T)→List MapEntry→Prop
 | [],es=>es=[]
 | x::m,es=>∃e es',es=e::es'∧VRd S w kk x.1 e.key∧VRd S w kv x.2 e.val∧MapG S w kk kv m es'
theorem MapG.mono {S S':Nat→Prop} {w w':World} {kk kv:Kd} (hs:∀b,S b→S' b∧w'.heap[b]?=w.heap[b]?):∀{m:List (kk.T×kv.T)} {es:List MapEntry},MapG S w kk kv m es→MapG S' w' kk kv m es
 | [],_,h=>h
 | _::_,_,⟨e,es',h1,h2,h3,h4⟩=>⟨e,es',h1,VRd.mono hs h2,VRd.mono hs h3,MapG.mono hs h4⟩
theorem MapG.length {S:Nat→Prop} {w:World} {kk kv:Kd}:∀{m:List (kk.T×kv.T)} {es:List MapEntry},MapG S w kk kv m es→es.length=m.length
 | [],_,h=>by rw [show _=[] from h]; rfl
 | _::_,_,⟨e,es',h1,h2,h3,h4⟩=>by rw [h1,List.length_cons,List.length_cons,MapG.length h4]
def CmpG (S:Nat→Prop) (w:World) (me:Nat→Option Blk) (pl:Nat→Plc):Cmp→Value→Prop
 | .val k x,v=>VRd S w k x v
 | .own j ver,v=>∃e l ver' sh,me j=some (.row e l ver' sh)∧ver≤ver'∧(ver'=ver→RowV (pl j) l.length v)
 | .junk,_=>True
 | .mp j,v=>∃kk kv m g,me j=some (.map kk kv m)∧(pl j).g=some g∧v=.map (some g)
def CmpsG (S:Nat→Prop) (w:World) (me:Nat→Option Blk) (pl:Nat→Plc):List Cmp→List Value→Prop
 | [],vs=>vs=[]
 | c::cs,vs=>∃v vs',vs=v::vs'∧CmpG S w me pl c v∧CmpsG S w me pl cs vs'
def RefG (S:Nat→Prop) (w:World) (me:Nat→Option Blk) (pl:Nat→Plc) (c:Cmp) (seg:List Value):Prop:=
 (∀j ver,c=.own j ver→∃v,seg=[v]∧CmpG S w me pl (.own j ver) v)∧(∀j,c=.mp j→∃v,seg=[v]∧CmpG S w me pl (.mp j) v)
theorem RefG.val {S:Nat→Prop} {w:World} {me:Nat→Option Blk} {pl:Nat→Plc} {k:Kd} {x:k.T} {seg:List Value}:RefG S w me pl (.val k x) seg:=⟨fun _ _ h=>(by cases h),fun _ h=>(by cases h)⟩
def MixG (S:Nat→Prop) (w:World) (me:Nat→Option Blk) (pl:Nat→Plc):List Kd→List Cmp→List Value→Prop
 | [],cs,vs=>cs=[]∧vs=[]
 | k::fs,cs,vs=>∃c cs' seg rest,cs=c::cs'∧vs=seg++rest∧seg.length=k.size∧(∀k' x,c=.val k' x→k'=k∧Rd S w k' x seg)∧RefG S w me pl c seg∧MixG S w me pl fs cs' rest
def szs:List Kd→Nat
 | []=>0
 | k::fs=>k.size+szs fs
def moff (fs:List Kd) (i:Nat):Nat:=szs (fs.take i)
def CapsG (me:Nat→Option Blk) (pl:Nat→Plc):List (Nat×Kd)→List Value→Prop
 | [],vs=>vs=[]
 | (b,k)::ps,vs=>∃x sh g vs',vs=.pointer (some ⟨g,(pl b).off,none⟩)::vs'∧me b=some (.var k x sh)∧(pl b).g=some g∧CapsG me pl ps vs'
def BlkAt (S:Nat→Prop) (w:World) (me:Nat→Option Blk) (pls:Nat→Plc):Blk→Plc→Prop
 | .var k x sh,pl=>∃g c t,pl.g=some g∧w.heap[g]?=some (.cells c t (0,0))∧pl.off+k.size≤c.size∧
   Rd S w k x ((c.toList.drop pl.off).take k.size)∧(sh=true↔S g)
 | .row e l _ sh,pl=>(pl.g=none∧l=[]∧pl.cap=0)∨
   ∃g c t,pl.g=some g∧pl.off=0∧w.heap[g]?=some (.cells c t (0,0))∧l.length≤pl.cap∧pl.cap≤maxLen∧c.size=pl.cap*e.size∧
    RdL (Rd S w e) l (c.toList.take (l.length*e.size))∧(sh=true↔S g)
 | .mix fs cs,pl=>∃g c t,pl.g=some g∧pl.off=0∧w.heap[g]?=some (.cells c t (0,0))∧c.size=szs fs∧¬S g∧MixG S w me pls fs cs c.toList
 | .map kk kv m,pl=>∃g es t,pl.g=some g∧pl.off=0∧w.heap[g]?=some (.map es t)∧¬S g∧MapG S w kk kv m es.toList
def G (S:Nat→Prop) (w:World) (me:Nat→Option Blk) (pl:Nat→Plc):SV→Value→Prop
 | .dead,_=>True
 | .nil,v=>v=.slice none 0 0
 | .val k x,v=>VRd S w k x v
 | .ptr b p k,v=>∃kb x sh o g,me b=some (.var kb x sh)∧kb.okP p∧kb.offP p=some (o,k)∧(pl b).g=some g∧v=.pointer (some ⟨g,(pl b).off+o,none⟩)
 | .pval k x,v=>∃g off c t fr,v=.pointer (some ⟨g,off,none⟩)∧S g∧w.heap[g]?=some (.cells c t fr)∧Rd S w k x ((c.toList.drop off).take k.size)
 | .own j ver,v=>∃e l ver' sh,me j=some (.row e l ver' sh)∧ver≤ver'∧(ver'=ver→RowV (pl j) l.length v)
 | .win j ver lo n,v=>∃e l ver' sh,me j=some (.row e l ver' sh)∧ver≤ver'∧(ver'=ver→lo+n≤l.length∧WinV (pl j).g 0 e.size lo n v)
 | .rptr j ver i p k,v=>∃e l ver' sh,me j=some (.row e l ver' sh)∧ver≤ver'∧
   (ver'=ver→i<l.length∧e.okP p∧∃o g,e.offP p=some (o,k)∧(pl j).g=some g∧v=.pointer (some ⟨g,i*e.size+o,none⟩))
 | .asl b p lo n,v=>∃kb x sh o m e,me b=some (.var kb x sh)∧kb.okP p∧kb.offP p=some (o,.arr m e)∧lo+n≤m∧(pl b).g.isSome=true∧WinV (pl b).g ((pl b).off+o) e.size lo n v
 | .pwin b p lo n,v=>∃kb x sh o m e g,me b=some (.var kb x sh)∧kb.okP p∧kb.offP p=some (o,.arr m e)∧lo+n≤m∧(pl b).g=some g∧v=.pointer (some ⟨g,(pl b).off+o+lo*e.size,none⟩)
 | .tup l,v=>∃vs:List Value,v=.tuple vs.toArray∧CmpsG S w me pl l vs
 | .fn f,v=>v=.func (.func f) #[] #[]
 | .nnv e l,v=>v≠.slice none 0 0∧VRd S w (.sl e) l v
 | .cap e l,v=>VRd S w (.sl e) l v∧∃a n,v=.slice a n n
 | .mptr b i k,v=>∃fs cs g post,me b=some (.mix fs cs)∧(pl b).g=some g∧fs.drop i=k.flat++post∧v=.pointer (some ⟨g,moff fs i,none⟩)
 | .strct fs cs,v=>∃cells:List Value,v=.agg cells.toArray∧MixG S w me pl fs cs cells
 | .clo f ps,v=>∃vs:List Value,v=.func (.func f) #[] vs.toArray∧CapsG me pl ps vs
 | .mp j,v=>CmpG S w me pl (.mp j) v
 | .yv i,v=>∃e l ver sh,me i=some (.row e l ver sh)∧(ver=0→v=.func (.yield (pl i).off) #[] #[])
def Compat (pl pl':Plc):Blk→Blk→Prop
 | .var k _ _,.var k' _ _=>k=k'∧pl'=pl
 | .row e l v _,.row e' l' v' _=>e=e'∧v≤v'∧(v'=v→l'.length=l.length∧pl'=pl)
 | .mix fs _,.mix fs' _=>fs=fs'∧pl'=pl
 | .map kk kv _,.map kk' kv' _=>kk=kk'∧kv=kv'∧pl'=pl
 | _,_=>False
theorem Compat.refl (pl:Plc) (b:Blk):Compat pl pl b b:=by
 cases b
 ·exact ⟨rfl,rfl⟩
 ·exact ⟨rfl,Nat.le_refl _,fun _=>⟨rfl,rfl⟩⟩
 ·exact ⟨rfl,rfl⟩
 ·exact ⟨rfl,rfl,rfl⟩
structure Keeps (S:Nat→Prop) (w:World) (me:Nat→Option Blk) (pl:Nat→Plc) (S':Nat→Prop) (w':World) (me':Nat→Option Blk) (pl':Nat→Plc):Prop where
 s:∀b,S b→S' b∧w'.heap[b]?=w.heap[b]?
 m:∀i b,me i=some b→∃b',me' i=some b'∧Compat (pl i) (pl' i) b b'
section
variable {S S':Nat→Prop} {w w':World} {me me':Nat→Option Blk} {pl pl':Nat→Plc}
theorem Keeps.var (h:Keeps S w me pl S' w' me' pl') {b:Nat} {k:Kd} {x:k.T} {sh:Bool} (hb:me b=some (.var k x sh)):
  ∃(x':k.T) (sh':Bool),me' b=some (.var k x' sh')∧pl' b=pl b:=by
 obtain ⟨b',h1,h2⟩:=h.m _ _ hb;cases b' with
 | var k' x' sh'=>obtain ⟨e,hp⟩:=h2; subst e; exact ⟨x',sh',h1,hp⟩
 | row=>exact h2.elim
 | mix=>exact h2.elim
 | map=>exact h2.elim
theorem Keeps.mix (h:Keeps S w me pl S' w' me' pl') {b:Nat} {fs:List Kd} {cs:List Cmp} (hb:me b=some (.mix fs cs)):
  ∃cs',me' b=some (.mix fs cs')∧pl' b=pl b:=by
 obtain ⟨b',h1,h2⟩:=h.m _ _ hb;cases b' with
 | var=>exact h2.elim
 | row=>exact h2.elim
 | mix fs' cs'=>obtain ⟨e,hp⟩:=h2; subst e; exact ⟨cs',h1,hp⟩
 | map=>exact h2.elim
theorem Keeps.map (h:Keeps S w me pl S' w' me' pl') {b:Nat} {kk kv:Kd} {m:List (kk.T×kv.T)} (hb:me b=some (.map kk kv m)):
  ∃m',me' b=some (.map kk kv m')∧pl' b=pl b:=by
 obtain ⟨b',h1,h2⟩:=h.m _ _ hb;cases b' with
 | var=>exact h2.elim
 | row=>exact h2.elim
 | mix=>exact h2.elim
 | map kk' kv' m'=>obtain ⟨e,e',hp⟩:=h2; subst e e'; exact ⟨m',h1,hp⟩
theorem Keeps.row (h:Keeps S w me pl S' w' me' pl') {j:Nat} {e:Kd} {l:List e.T} {v:Nat} {sh:Bool} (hb:me j=some (.row e l v sh)):
  ∃(l':List e.T) (v':Nat) (sh':Bool),me' j=some (.row e l' v' sh')∧v≤v'∧(v'=v→l'.length=l.length∧pl' j=pl j):=by
 obtain ⟨b',h1,h2⟩:=h.m _ _ hb;cases b' with
 | var=>exact h2.elim
 | mix=>exact h2.elim
 | map=>exact h2.elim
 | row e' l' v' sh'=>obtain ⟨e,hv,hp⟩:=h2; subst e; exact ⟨l',v',sh',h1,hv,hp⟩
theorem CmpG.keeps (h:Keeps S w me pl S' w' me' pl') {c:Cmp} {v:Value} (hg:CmpG S w me pl c v):CmpG S' w' me' pl' c v:=by
 cases c with
 | val k x=>exact VRd.mono h.s hg
 | own j ver=>
  obtain ⟨e,l,ver',sh,hm,hv,hr⟩:=hg;obtain ⟨l',v',sh',hm',hv',hp⟩:=h.row hm;refine ⟨e,l',v',sh',hm',Nat.le_trans hv hv',fun heq=>?_⟩;have h1:ver'=ver:=by omega
  obtain ⟨h2,h3⟩:=hp (by omega);rw [h2,h3]; exact hr h1
 | junk=>trivial
 | mp j=>
  obtain ⟨kk,kv,m,g,hm,h1,h2⟩:=hg;obtain ⟨m',hm',hp⟩:=h.map hm;exact ⟨kk,kv,m',g,hm',by rw [hp]; exact h1,h2⟩
theorem CmpsG.keeps (h:Keeps S w me pl S' w' me' pl'):∀{l:List Cmp} {vs:List Value},CmpsG S w me pl l vs→CmpsG S' w' me' pl' l vs
 | [],_,hh=>hh
 | _::_,_,⟨v,vs',e,h1,h2⟩=>⟨v,vs',e,h1.keeps h,CmpsG.keeps h h2⟩
theorem RefG.keeps (h:Keeps S w me pl S' w' me' pl') {c:Cmp} {seg:List Value} (hr:RefG S w me pl c seg):RefG S' w' me' pl' c seg:=
 ⟨fun j ver hc=>by
  obtain ⟨v,hv,hg⟩:=hr.1 j ver hc;exact ⟨v,hv,hg.keeps h⟩,fun j hc=>by
  obtain ⟨v,hv,hg⟩:=hr.2 j hc;exact ⟨v,hv,hg.keeps h⟩⟩
theorem MixG.keeps (h:Keeps S w me pl S' w' me' pl'):∀{fs:List Kd} {cs:List Cmp} {vs:List Value},MixG S w me pl fs cs vs→MixG S' w' me' pl' fs cs vs
 | [],_,_,hh=>hh
 | _::_,_,_,⟨c,cs',seg,rest,e1,e2,e3,h1,h2,h3⟩=>⟨c,cs',seg,rest,e1,e2,e3,fun k' x hc=>⟨(h1 k' x hc).1,Rd.mono h.s k' x _ (h1 k' x hc).2⟩,RefG.keeps h h2,MixG.keeps h h3⟩
theorem CapsG.keeps (h:Keeps S w me pl S' w' me' pl'):∀{ps:List (Nat×Kd)} {vs:List Value},CapsG me pl ps vs→CapsG me' pl' ps vs
 | [],_,hh=>hh
 | _::_,_,⟨x,sh,g,vs',e,hm,hg,h2⟩=>by
  obtain ⟨x',sh',hm',hp⟩:=h.var hm;exact ⟨x',sh',g,vs',by rw [hp]; exact e,hm',by rw [hp]; exact hg,CapsG.keeps h h2⟩
theorem G.keeps (h:Keeps S w me pl S' w' me' pl') {sv:SV} {v:Value} (hg:G S w me pl sv v):G S' w' me' pl' sv v:=by
 cases sv with
 | dead=>trivial
 | nil=>exact hg
 | val k x=>exact VRd.mono h.s hg
 | ptr b p k=>
  obtain ⟨kb,x,sh,o,g,hm,h1,h2,h3,h4⟩:=hg;obtain ⟨x',sh',hm',hp⟩:=h.var hm;exact ⟨kb,x',sh',o,g,hm',h1,h2,by rw [hp]; exact h3,by rw [hp]; exact h4⟩
 | pval k x=>
  obtain ⟨g,off,c,t,fr,h1,h2,h3,h5⟩:=hg;exact ⟨g,off,c,t,fr,h1,(h.s _ h2).1,by rw [(h.s _ h2).2]; exact h3,Rd.mono h.s k x _ h5⟩
 | own j ver=>exact CmpG.keeps (c:=.own j ver) h hg
 | win j ver lo n=>
  obtain ⟨e,l,ver',sh,hm,hv,hr⟩:=hg;obtain ⟨l',v',sh',hm',hv',hp⟩:=h.row hm;refine ⟨e,l',v',sh',hm',Nat.le_trans hv hv',fun heq=>?_⟩;have h1:ver'=ver:=by omega
  obtain ⟨h2,h3⟩:=hp (by omega);rw [h2,h3]; exact hr h1
 | rptr j ver i p k=>
  obtain ⟨e,l,ver',sh,hm,hv,hr⟩:=hg;obtain ⟨l',v',sh',hm',hv',hp⟩:=h.row hm;refine ⟨e,l',v',sh',hm',Nat.le_trans hv hv',fun heq=>?_⟩;have h1:ver'=ver:=by omega
  obtain ⟨h2,h3⟩:=hp (by omega);rw [h2,h3]; exact hr h1
 | asl b p lo n=>
  obtain ⟨kb,x,sh,o,m,e,hm,h1,h2,h3,h4,h5⟩:=hg;obtain ⟨x',sh',hm',hp⟩:=h.var hm;exact ⟨kb,x',sh',o,m,e,hm',h1,h2,h3,by rw [hp]; exact h4,by rw [hp]; exact h5⟩
 | pwin b p lo n=>
  obtain ⟨kb,x,sh,o,m,e,g,hm,h1,h2,h3,h4,h5⟩:=hg;obtain ⟨x',sh',hm',hp⟩:=h.var hm;exact ⟨kb,x',sh',o,m,e,g,hm',h1,h2,h3,by rw [hp]; exact h4,by rw [hp]; exact h5⟩
 | tup l=>
  obtain ⟨vs,h1,h2⟩:=hg;exact ⟨vs,h1,CmpsG.keeps h h2⟩
 | fn f=>exact hg
 | nnv e l=>exact ⟨hg.1,VRd.mono h.s hg.2⟩
 | cap e l=>exact ⟨VRd.mono h.s hg.1,hg.2⟩
 | mptr b i k=>
  obtain ⟨fs,cs,g,post,hm,h1,h2,h3⟩:=hg;obtain ⟨cs',hm',hp⟩:=h.mix hm;exact ⟨fs,cs',g,post,hm',by rw [hp]; exact h1,h2,h3⟩
 | strct fs cs=>
  obtain ⟨cells,h1,h2⟩:=hg;exact ⟨cells,h1,h2.keeps h⟩
 | clo f ps=>
  obtain ⟨vs,h1,h2⟩:=hg;exact ⟨vs,h1,h2.keeps h⟩
 | mp j=>exact CmpG.keeps (c:=.mp j) h hg
 | yv i=>
  obtain ⟨e,l,ver,sh,hm,hr⟩:=hg;obtain ⟨l',v',sh',hm',hv',hp⟩:=h.row hm;refine ⟨e,l',v',sh',hm',fun h0=>?_⟩;have h1:ver=0:=by omega
  rw [(hp (by omega)).2]; exact hr h1
theorem BlkAt.keeps (h:Keeps S w me pl S' w' me' pl') {b:Blk} {p:Plc} (hw:∀g,p.g=some g→w'.heap[g]?=w.heap[g]?) (hS:∀g,p.g=some g→(w.heap[g]?).isSome=true→(S' g↔S g)) (hb:BlkAt S w me pl b p):BlkAt S' w' me' pl' b p:=by
 have is:∀{g:Nat} {o:Obj},w.heap[g]?=some o→(w.heap[g]?).isSome=true:=fun h=>by rw [h]; rfl
 cases b with
 | var k x sh=>
  obtain ⟨g,c,t,h1,h2,h3,h4,h5⟩:=hb;exact ⟨g,c,t,h1,by rw [hw g h1]; exact h2,h3,Rd.mono h.s k x _ h4,by rw [hS g h1 (is h2)]; exact h5⟩
 | row e l v sh=>
  rcases hb with h1 | ⟨g,c,t,h1,h1',h2,h3,h3',h4,h5,h6⟩
  ·exact .inl h1
  ·exact .inr ⟨g,c,t,h1,h1',by rw [hw g h1]; exact h2,h3,h3',h4,RdL.imp (fun x cs hx=>Rd.mono h.s e x cs hx) h5,by rw [hS g h1 (is h2)]; exact h6⟩
 | mix fs cs=>
  obtain ⟨g,c,t,h1,h1',h2,h3,h4,h5⟩:=hb;exact ⟨g,c,t,h1,h1',by rw [hw g h1]; exact h2,h3,by rw [hS g h1 (is h2)]; exact h4,h5.keeps h⟩
 | map kk kv m=>
  obtain ⟨g,es,t,h1,h1',h2,h3,h4⟩:=hb;exact ⟨g,es,t,h1,h1',by rw [hw g h1]; exact h2,by rw [hS g h1 (is h2)]; exact h3,MapG.mono h.s h4⟩
end
structure RD where
 tm:Nat→SV
 ps:List Tmp
 as:Code
 bd:Code
 nt:Nat
 yi:Nat
structure NT where
 n:Nat
 gs:SV→Bool
 rd:Option RD
instance:Coe Nat NT:=⟨fun n=>⟨n,fun _=>false,none⟩⟩
instance (n:Nat):OfNat NT n:=⟨⟨n,fun _=>false,none⟩⟩
def NT.lt (d:Nat) (t:NT):Prop:=d<t.n
def NT.blt (d:Nat) (t:NT):Bool:=Nat.blt d t.n
theorem NT.lt_of {d:Nat} {t:NT} (h:NT.blt d t=true):NT.lt d t:=Nat.blt_eq.mp h
structure Ctx where
 w0:World
 S0:Nat→Prop
 nt:NT
 pp:List (Nat×Nat×Nat)
  /-- what others know of values -/
 gh:SV→Value→Prop
  /-- blocks that were there, and may be turned as if they were new -/
 ow:Nat→Prop
  /-- the round of a range over a function in which this is carried out -/
 ro:Option Nat
  /-- what is deferred -/
 df:List Deferred
  /-- what never turns among the temporaries -/
 pv:Value
def tabG:Option Nat:=some 0
def tabL:List Int:=[1,10,100,1000,10000,100000,1000000,10000000,100000000,1000000000,10000000000,100000000000,1000000000000,10000000000000,100000000000000,1000000000000000,10000000000000000,100000000000000000,1000000000000000000,10000000000000000000]
def TB (S:Nat→Prop) (w:World):Prop:=∀g,tabG=some g→S g∧∃t fr,w.heap[g]?=some (.cells (tabL.map fun n=>Value.int .u64 n).toArray t fr)
def ShOK (S:Nat→Prop) (w:World):Prop:=(∀b,S b→b<w.heap.size)∧TB S w
theorem TB.mono {S S':Nat→Prop} {w w':World} (h:TB S w) (hs:∀b,S b→S' b∧w'.heap[b]?=w.heap[b]?):TB S' w':=fun g hg=>by
 obtain ⟨h1,t,fr,h2⟩:=h g hg;exact ⟨(hs g h1).1,t,fr,(hs g h1).2.trans h2⟩
def TC (C:Ctx):Prop:=TB C.S0 C.w0∧∀g,tabG=some g→(∀e∈C.pp,e.1≠g)∧¬C.ow g
structure Fz (w0:World) (pp:List (Nat×Nat×Nat)) (w:World) (ow:Nat→Prop:=fun _=>False):Prop where
 os:w.os=w0.os
 tape:w.tape=w0.tape
 output:w.output=w0.output
 size:w0.heap.size≤w.heap.size
 block:∀b,b<w0.heap.size→(∀e∈pp,e.1≠b)→¬ow b→w.heap[b]?=w0.heap[b]?
 part:∀e∈pp,¬ow e.1→∃c0 c t,w0.heap[e.1]?=some (.cells c0 t (0,0))∧w.heap[e.1]?=some (.cells c t (0,0))∧c.size=c0.size∧
  c.toList.take e.2.1=c0.toList.take e.2.1∧c.toList.drop (e.2.1+e.2.2)=c0.toList.drop (e.2.1+e.2.2)
def Blk.csize:Blk→Nat
 | .var k _ _=>k.size
 | .row _ _ _ _=>0
 | .mix _ _=>0
 | .map _ _ _=>0
def Ctx.own (C:Ctx) (i g:Nat):Prop:=(C.pp.length≤i∧(C.w0.heap.size≤g∨C.ow g))∨(C.ow g∧C.pp[i]?=some (g,0,0))
theorem Ctx.own.or {C:Ctx} {i g:Nat} (h:C.own i g):C.w0.heap.size≤g∨C.ow g:=by
 rcases h with ⟨_,h⟩ | ⟨h,_⟩
 ·exact h
 ·exact .inr h
theorem Ctx.own.ne {C:Ctx} {i g b:Nat} (h:C.own i g) (hb:b<C.w0.heap.size) (ho:¬C.ow b):b≠g:=by
 rcases h.or with h | h
 ·omega
 ·intro e; subst e; exact ho h
theorem Ctx.own.pp {C:Ctx} {i g:Nat} (h:C.own i g) {e:Nat×Nat×Nat} (ho:¬C.ow e.1) (hl:e.1<C.w0.heap.size):e.1≠g:=h.ne hl ho
def zxp (C:Ctx) (i:Nat) (b:Blk) (pl:Plc):Prop:=
 ∀g,pl.g=some g→(C.own i g∧pl.off=0)∨((∃k x sh,b=.var k x sh)∧C.pp[i]?=some (g,pl.off,b.csize))
def RoundC (C:Ctx) (d:RD):Prop:=∃(l:Nat) (rec:Loop),C.pv=.func (.yield l) #[] #[]∧C.w0.heap[l]?=some (.loop rec)∧rec.state=.ready∧rec.pending=none∧rec.params.toList=d.ps∧rec.assign=d.as∧rec.body=d.bd∧
 rec.tmps.size=d.nt∧¬C.S0 l∧¬C.ow l∧C.pp=[]∧C.gh (.yv d.yi) C.pv∧∀t,C.gh (d.tm t) (rec.tmps.getD t undef)
structure Inv (C:Ctx) (tm:Nat→SV) (me:Nat→Option Blk) (pl:Nat→Plc) (S:Nat→Prop) (a:Act) (w:World):Prop where
 nt:a.tmps.size=C.nt.n∧∀d,C.nt.rd=some d→RoundC C d
 df:a.defers=C.df
 tms:∀t,G S w me pl (tm t) (a.tmps.getD t undef)
 mem:∀i b,me i=some b→BlkAt S w me pl b (pl i)
 plcs:∀i b,me i=some b→zxp C i b (pl i)
 dis:∀i j bi bj g,i≠j→me i=some bi→me j=some bj→(pl i).g=some g→(pl j).g≠some g
 s0:∀b,C.S0 b→S b
 sfr:∀b,S b→b<w.heap.size∧(C.S0 b∨C.w0.heap.size≤b∨C.ow b)
 fr:Fz C.w0 C.pp w C.ow
 pd:(∀e∈C.pp,∀e'∈C.pp,e.1=e'.1→e=e')∧TC C
 gho:∀sv v,C.gh sv v→G S w me pl sv v
section
variable {C:Ctx} {tm:Nat→SV} {me:Nat→Option Blk} {pl:Nat→Plc} {S:Nat→Prop} {a:Act} {w:World}
theorem zup (a:Act) (d:Nat) (v:Value) (t:Nat) (hd:d<a.tmps.size):(a.put (some d) v).tmps.getD t undef=if t=d then v else a.tmps.getD t undef:=by
 simp only [Act.put,Array.getD_eq_getD_getElem?,Array.getElem?_setIfInBounds]
 by_cases h:d=t
 ·subst h; simp [hd]
 ·rw [if_neg h,if_neg (fun e=>h e.symm)]
theorem Inv.put (h:Inv C tm me pl S a w) {d:Nat} {sv:SV} {v:Value} (hd:NT.lt d C.nt) (hg:G S w me pl sv v):Inv C (upd tm d sv) me pl S (a.put (some d) v) w:=by
 have hd':d<a.tmps.size:=by rw [h.nt.1]; exact hd
 refine ⟨⟨by simp [Act.put,h.nt.1],h.nt.2⟩,by simp [Act.put,h.df],fun t=>?_,h.mem,h.plcs,h.dis,h.s0,h.sfr,h.fr,h.pd,h.gho⟩;rw [zup a d v t hd']
 by_cases e:t=d
 ·subst e; simpa using hg
 ·rw [if_neg e,Ac _ _ e]; exact h.tms t
theorem Inv.tb (h:Inv C tm me pl S a w):TB S w:=fun g hg=>by
 obtain ⟨h1,t,fr,h2⟩:=h.pd.2.1 g hg;obtain ⟨h3,h4⟩:=h.pd.2.2 g hg;exact ⟨h.s0 g h1,t,fr,(h.fr.block g (Array.getElem?_eq_some_iff.1 h2).1 h3 h4).trans h2⟩
theorem Inv.shok (h:Inv C tm me pl S a w):ShOK S w:=⟨fun b hb=>(h.sfr b hb).1,h.tb⟩
theorem place_lt (h:Inv C tm me pl S a w) {i:Nat} {b:Blk} {g:Nat} (hi:me i=some b) (hg:(pl i).g=some g):g<w.heap.size:=by
 have:=h.mem i b hi;cases b with
 | var k x sh=>obtain ⟨g',c',t',e1,e2,_⟩:=this; rw [hg] at e1; cases e1; exact (Array.getElem?_eq_some_iff.1 e2).1
 | row e l v sh=>
  rcases this with e1 | ⟨g',c',t',e1,_,e2,_⟩
  ·rw [hg] at e1; cases e1.1
  ·rw [hg] at e1; cases e1; exact (Array.getElem?_eq_some_iff.1 e2).1
 | mix fs cs=>obtain ⟨g',c',t',e1,_,e2,_⟩:=this; rw [hg] at e1; cases e1; exact (Array.getElem?_eq_some_iff.1 e2).1
 | map kk kv m=>obtain ⟨g',c',t',e1,_,e2,_⟩:=this; rw [hg] at e1; cases e1; exact (Array.getElem?_eq_some_iff.1 e2).1
theorem Inv.world (h:Inv C tm me pl S a w) {S':Nat→Prop} {w':World} (hS:∀b,S b→S' b) (hSn:∀b,S' b→b<w'.heap.size∧(S b∨w.heap.size≤b))
  (hos:w'.os=w.os) (htp:w'.tape=w.tape) (hout:w'.output=w.output) (hsz:w.heap.size≤w'.heap.size) (hb:∀b,b<w.heap.size→w'.heap[b]?=w.heap[b]?):
  Inv C tm me pl S' a w':=by
 have hs:∀b,S b→S' b∧w'.heap[b]?=w.heap[b]?:=fun b hb'=>⟨hS b hb',hb b (h.sfr b hb').1⟩
 have hK:Keeps S w me pl S' w' me pl:=⟨hs,fun i b hi=>⟨b,hi,Compat.refl _ _⟩⟩
 have lt:∀{g:Nat} {o:Obj},w.heap[g]?=some o→g<w.heap.size:=fun hh=>(Array.getElem?_eq_some_iff.1 hh).1
 have hiff:∀g,g<w.heap.size→(S' g↔S g):=fun g hg=>⟨fun hh=>by rcases (hSn g hh).2 with h1 | h1; exact h1; omega,hS g⟩
 refine ⟨h.nt,h.df,fun t=>(h.tms t).keeps hK,fun i b hi=>?_,h.plcs,h.dis,fun b hb'=>hS b (h.s0 b hb'),fun b hb'=>?_,?_,h.pd,fun sv v hg=>(h.gho sv v hg).keeps hK⟩
 ·refine (h.mem i b hi).keeps hK (fun g hg=>?_) (fun g hg hs=>?_)
  ·exact hb g (place_lt h hi hg)
  ·exact hiff g (place_lt h hi hg)
 ·obtain ⟨h1,h2⟩:=hSn b hb'
  refine ⟨h1,?_⟩;rcases h2 with h2 | h2
  ·exact (h.sfr b h2).2
  ·exact .inr (.inl (Nat.le_trans h.fr.size h2))
 ·refine ⟨hos.trans h.fr.os,htp.trans h.fr.tape,hout.trans h.fr.output,Nat.le_trans h.fr.size hsz,fun b hb' hn ho=>?_,fun e he hoe=>?_⟩
  ·rw [hb b (Nat.lt_of_lt_of_le hb' h.fr.size)]; exact h.fr.block b hb' hn ho
  ·obtain ⟨c0,c,t,h1,h2,h3⟩:=h.fr.part e he hoe
   exact ⟨c0,c,t,h1,by rw [hb _ (lt h2)]; exact h2,h3⟩
theorem Sh (w:World) (o:Obj) (b:Nat) (h:b<w.heap.size):(w.alloc o).heap[b]?=w.heap[b]?:=heap_alloc_old w o b h
theorem Inv.allocAt (h:Inv C tm me pl S a w) {i:Nat} {b:Blk} {o:Obj} {cap:Nat} (hi:∀b0,me i=some b0→Compat (pl i) ⟨some w.heap.size,0,cap⟩ b0 b) (hnp:C.pp.length≤i)
  (hb:BlkAt S (w.alloc o) (upd me i (some b)) (upd pl i ⟨some w.heap.size,0,cap⟩) b ⟨some w.heap.size,0,cap⟩):
  Inv C tm (upd me i (some b)) (upd pl i ⟨some w.heap.size,0,cap⟩) S a (w.alloc o):=by
 have h1:=h.world (S':=S) (w':=w.alloc o) (fun _ h=>h) (fun b hb=>⟨by have:=(h.sfr b hb).1; simp; omega,.inl hb⟩) rfl rfl rfl (by simp) (fun b hb=>Sh w _ b hb);have hK:Keeps S (w.alloc o) me pl S (w.alloc o) (upd me i (some b)) (upd pl i ⟨some w.heap.size,0,cap⟩):=
  ⟨fun _ hb=>⟨hb,rfl⟩,fun j b' hj=>by
   by_cases e:j=i
   ·subst e; exact ⟨b,by simp,by simpa using hi b' hj⟩
   ·exact ⟨b',by rw [Ac _ _ e]; exact hj,by rw [Ac _ _ e]; exact Compat.refl _ _⟩⟩
 have old:∀j b' g,me j=some b'→(pl j).g=some g→g<w.heap.size:=fun j b' g hj hg=>place_lt h hj hg
 refine ⟨h1.nt,h1.df,fun t'=>(h1.tms t').keeps hK,fun j b' hj=>?_,fun j b' hj=>?_,fun j1 j2 b1 b2 g hne' hj1 hj2 hg=>?_,h1.s0,h1.sfr,h1.fr,h1.pd,fun sv v hg=>(h1.gho sv v hg).keeps hK⟩
 ·by_cases e:j=i
  ·subst e; simp only [Ah,Option.some.injEq] at hj; subst hj; simpa using hb
  ·rw [Ac _ _ e] at hj; rw [Ac _ _ e]; exact (h1.mem j b' hj).keeps hK (fun _ _=>rfl) (fun _ _ _=>Iff.rfl)
 ·by_cases e:j=i
  ·subst e
   simp only [Ah,Option.some.injEq] at hj; subst hj;intro g hg;simp at hg;exact .inl ⟨.inl ⟨hnp,.inl (by rw [←hg]; exact h.fr.size)⟩,by simp⟩
  ·rw [Ac _ _ e] at hj; rw [Ac _ _ e]; exact h1.plcs j b' hj
 ·by_cases e1:j1=i
  ·subst e1
   have e2:j2≠j1:=fun e=>hne' e.symm
   rw [Ac _ _ e2] at hj2;rw [Ac _ _ e2];simp at hg;intro hh;have:=old j2 b2 g hj2 hh;omega
  ·rw [Ac _ _ e1] at hj1 hg
   by_cases e2:j2=i
   ·subst e2
    have:=old j1 b1 g hj1 hg;simp; omega
   ·rw [Ac _ _ e2] at hj2; rw [Ac _ _ e2]
    exact h1.dis j1 j2 b1 b2 g hne' hj1 hj2 hg
theorem Inv.alloc (h:Inv C tm me pl S a w) {i:Nat} {b:Blk} {o:Obj} {cap:Nat} (hi:me i=none) (hnp:C.pp.length≤i)
  (hb:BlkAt S (w.alloc o) (upd me i (some b)) (upd pl i ⟨some w.heap.size,0,cap⟩) b ⟨some w.heap.size,0,cap⟩):
  Inv C tm (upd me i (some b)) (upd pl i ⟨some w.heap.size,0,cap⟩) S a (w.alloc o):=
 h.allocAt (fun b0 hb0=>by rw [hi] at hb0; cases hb0) hnp hb
theorem Inv.nilrow (h:Inv C tm me pl S a w) {i:Nat} (e:Kd) (hi:me i=none):
  Inv C tm (upd me i (some (.row e [] 0 false))) (upd pl i ⟨none,0,0⟩) S a w:=by
 have hne:∀j b',me j=some b'→j≠i:=fun j b' hj e=>by subst e; rw [hi] at hj; cases hj
 have hK:Keeps S w me pl S w (upd me i (some (.row e [] 0 false))) (upd pl i ⟨none,0,0⟩):=
  ⟨fun _ hb=>⟨hb,rfl⟩,fun j b' hj=>⟨b',by rw [Ac _ _ (hne j b' hj)]; exact hj,by rw [Ac _ _ (hne j b' hj)]; exact Compat.refl _ _⟩⟩
 refine ⟨h.nt,h.df,fun t'=>(h.tms t').keeps hK,fun j b' hj=>?_,fun j b' hj=>?_,fun j1 j2 b1 b2 g hne' hj1 hj2 hg=>?_,h.s0,h.sfr,h.fr,h.pd,fun sv v hg=>(h.gho sv v hg).keeps hK⟩
 ·by_cases e:j=i
  ·subst e; simp only [Ah,Option.some.injEq] at hj; subst hj; exact .inl (by simp)
  ·rw [Ac _ _ e] at hj; rw [Ac _ _ e]; exact (h.mem j b' hj).keeps hK (fun _ _=>rfl) (fun _ _ _=>Iff.rfl)
 ·by_cases e:j=i
  ·subst e; intro g hg; simp at hg
  ·rw [Ac _ _ e] at hj; rw [Ac _ _ e]; exact h.plcs j b' hj
 ·by_cases e1:j1=i
  ·subst e1; simp at hg
  ·rw [Ac _ _ e1] at hj1 hg
   by_cases e2:j2=i
   ·subst e2; simp
   ·rw [Ac _ _ e2] at hj2; rw [Ac _ _ e2]
    exact h.dis j1 j2 b1 b2 g hne' hj1 hj2 hg
theorem Inv.write (h:Inv C tm me pl S a w) {i:Nat} {b b':Blk} {g:Nat} {c c':Array Value} {t:TypeId} (hi:me i=some b) (hg:(pl i).g=some g) (hnS:¬S g)
  (hc:w.heap[g]?=some (.cells c t (0,0))) (hsz:c'.size=c.size) (hlo:c'.toList.take (pl i).off=c.toList.take (pl i).off)
  (hhi:(∃k x sh,b=.var k x sh)→c'.toList.drop ((pl i).off+b.csize)=c.toList.drop ((pl i).off+b.csize)) (hcs:b'.csize=b.csize)
  (hvar:(∃k x sh,b=.var k x sh)↔(∃k x sh,b'=.var k x sh))
  (hcomp:Compat (pl i) (pl i) b b') (hb:BlkAt S (w.setRow g c') (upd me i (some b')) pl b' (pl i)):
  Inv C tm (upd me i (some b')) pl S a (w.setRow g c'):=by
 have hs:∀b,S b→S b∧(w.setRow g c').heap[b]?=w.heap[b]?:=fun b hb=>⟨hb,setRow_other w g b c' (fun e=>hnS (e ▸ hb))⟩
 have hK:Keeps S w me pl S (w.setRow g c') (upd me i (some b')) pl:=by
  refine ⟨hs,fun j bj hj=>?_⟩
  by_cases e:j=i
  ·subst e; rw [hi] at hj; cases hj; exact ⟨b',by simp,hcomp⟩
  ·exact ⟨bj,by rw [Ac _ _ e]; exact hj,Compat.refl _ _⟩
 have oth:∀j bj gj,j≠i→me j=some bj→(pl j).g=some gj→gj≠g:=fun j bj gj hne hj hgj e=>by
  subst e; exact h.dis i j b bj gj (fun e=>hne e.symm) hi hj hg hgj
 refine ⟨h.nt,h.df,fun t'=>(h.tms t').keeps hK,fun j bj hj=>?_,fun j bj hj=>?_,fun j1 j2 b1 b2 g' hne' hj1 hj2 hg'=>?_,h.s0,fun b hb=>?_,?_,h.pd,fun sv v hg=>(h.gho sv v hg).keeps hK⟩
 ·by_cases e:j=i
  ·subst e; simp only [Ah,Option.some.injEq] at hj; subst hj; exact hb
  ·rw [Ac _ _ e] at hj
   exact (h.mem j bj hj).keeps hK (fun gj hgj=>setRow_other w g gj c' (oth j _ gj e hj hgj)) (fun _ _ _=>Iff.rfl)
 ·by_cases e:j=i
  ·subst e
   simp only [Ah,Option.some.injEq] at hj; subst hj;intro g' hg';rcases h.plcs j b hi g' hg' with h1 | ⟨h1,h2⟩
   ·exact .inl h1
   ·exact .inr ⟨hvar.1 h1,by rw [hcs]; exact h2⟩
  ·rw [Ac _ _ e] at hj; exact h.plcs j bj hj
 ·have q1:∃b,me j1=some b:=by
   by_cases e1:j1=i
   ·exact ⟨b,e1 ▸ hi⟩
   ·rw [Ac _ _ e1] at hj1; exact ⟨_,hj1⟩
  have q2:∃b,me j2=some b:=by
   by_cases e1:j2=i
   ·exact ⟨b,e1 ▸ hi⟩
   ·rw [Ac _ _ e1] at hj2; exact ⟨_,hj2⟩
  obtain ⟨b1',q1⟩:=q1;obtain ⟨b2',q2⟩:=q2;exact h.dis j1 j2 b1' b2' g' hne' q1 q2 hg'
 ·obtain ⟨h1,h2⟩:=h.sfr b hb
  exact ⟨by simpa using h1,h2⟩
 ·refine ⟨h.fr.os,h.fr.tape,h.fr.output,by simpa using h.fr.size,fun b' hb' hn ho=>?_,fun e he hoe=>?_⟩
  ·have hne:b'≠g:=by
    rcases h.plcs i b hi g hg with ⟨h1,_⟩ | ⟨_,h1⟩
    ·exact h1.ne hb' ho
    ·intro e
     subst e;exact hn _ (List.mem_of_getElem? h1) rfl
   rw [setRow_other w g b' c' hne]; exact h.fr.block b' hb' hn ho
  ·obtain ⟨c0,cc,tt,h1,h2,h3,h4,h5⟩:=h.fr.part e he hoe
   by_cases heg:e.1=g
   ·rcases h.plcs i b hi g hg with ⟨h6,_⟩ | ⟨h6v,h6⟩
    ·exact absurd heg (h6.pp hoe (Array.getElem?_eq_some_iff.1 h1).1)
    ·have ee:=h.pd.1 e he _ (List.mem_of_getElem? h6) heg
     subst ee;rw [hc] at h2;cases h2;exact ⟨c0,c',t,h1,setRow_heap w g c c' t (0,0) hc,by rw [hsz,h3],by rw [hlo]; exact h4,by rw [hhi h6v]; exact h5⟩
   ·exact ⟨c0,cc,tt,h1,by rw [setRow_other w g e.1 c' heg]; exact h2,h3,h4,h5⟩
theorem Inv.writeMap (h:Inv C tm me pl S a w) {i:Nat} {kk kv:Kd} {m m':List (kk.T×kv.T)} {g:Nat} {es es':Array MapEntry} {t t':Nat} (hi:me i=some (.map kk kv m)) (hg:(pl i).g=some g) (hnS:¬S g)
  (hc:w.heap[g]?=some (.map es t)) (hb:MapG S w kk kv m' es'.toList):
  Inv C tm (upd me i (some (.map kk kv m'))) pl S a {w with heap:=w.heap.setIfInBounds g (.map es' t')}∧Keeps S w me pl S {w with heap:=w.heap.setIfInBounds g (.map es' t')} (upd me i (some (.map kk kv m'))) pl:=by
 have hlt:g<w.heap.size:=(Array.getElem?_eq_some_iff.1 hc).1;have oldw:∀b,b≠g→(w.heap.setIfInBounds g (.map es' t'))[b]?=w.heap[b]?:=fun b hne=>by simp [Ne.symm hne]
 have neww:(w.heap.setIfInBounds g (.map es' t'))[g]?=some (.map es' t'):=by simp [hlt]
 have hs:∀b,S b→S b∧(w.heap.setIfInBounds g (.map es' t'))[b]?=w.heap[b]?:=fun b hb=>⟨hb,oldw b (fun e=>hnS (e ▸ hb))⟩
 have hK:Keeps S w me pl S {w with heap:=w.heap.setIfInBounds g (.map es' t')} (upd me i (some (.map kk kv m'))) pl:=by
  refine ⟨hs,fun j bj hj=>?_⟩
  by_cases e:j=i
  ·subst e; rw [hi] at hj; cases hj; exact ⟨.map kk kv m',by simp,rfl,rfl,rfl⟩
  ·exact ⟨bj,by rw [Ac _ _ e]; exact hj,Compat.refl _ _⟩
 have oth:∀j bj gj,j≠i→me j=some bj→(pl j).g=some gj→gj≠g:=fun j bj gj hne hj hgj e=>by
  subst e; exact h.dis i j _ bj gj (fun e=>hne e.symm) hi hj hg hgj
 obtain ⟨g1,es1,t1,e1,eoff,e2,e3,e4⟩:=h.mem i _ hi;refine ⟨⟨h.nt,h.df,fun t'=>(h.tms t').keeps hK,fun j bj hj=>?_,fun j bj hj=>?_,fun j1 j2 b1 b2 g' hne' hj1 hj2 hg'=>?_,h.s0,fun b hb=>?_,?_,h.pd,fun sv v hg=>(h.gho sv v hg).keeps hK⟩,hK⟩
 ·by_cases e:j=i
  ·subst e; simp only [Ah,Option.some.injEq] at hj; subst hj
   exact ⟨g,es',t',hg,eoff,neww,hnS,hb.mono hs⟩
  ·rw [Ac _ _ e] at hj
   exact (h.mem j bj hj).keeps hK (fun gj hgj=>oldw gj (oth j _ gj e hj hgj)) (fun _ _ _=>Iff.rfl)
 ·by_cases e:j=i
  ·subst e
   simp only [Ah,Option.some.injEq] at hj; subst hj;intro g' hg';rcases h.plcs j _ hi g' hg' with h1 | ⟨⟨_,_,_,h1⟩,h2⟩
   ·exact .inl h1
   ·cases h1
  ·rw [Ac _ _ e] at hj; exact h.plcs j bj hj
 ·have q1:∃b,me j1=some b:=by
   by_cases e1:j1=i
   ·exact ⟨_,e1 ▸ hi⟩
   ·rw [Ac _ _ e1] at hj1; exact ⟨_,hj1⟩
  have q2:∃b,me j2=some b:=by
   by_cases e1:j2=i
   ·exact ⟨_,e1 ▸ hi⟩
   ·rw [Ac _ _ e1] at hj2; exact ⟨_,hj2⟩
  obtain ⟨b1',q1⟩:=q1;obtain ⟨b2',q2⟩:=q2;exact h.dis j1 j2 b1' b2' g' hne' q1 q2 hg'
 ·obtain ⟨h1,h2⟩:=h.sfr b hb
  exact ⟨by simpa using h1,h2⟩
 ·refine ⟨h.fr.os,h.fr.tape,h.fr.output,by simpa using h.fr.size,fun b' hb' hn ho=>?_,fun e he hoe=>?_⟩
  ·have hne:b'≠g:=by
    rcases h.plcs i _ hi g hg with ⟨h1,_⟩ | ⟨⟨_,_,_,h1⟩,_⟩
    ·exact h1.ne hb' ho
    ·cases h1
   show (w.heap.setIfInBounds g (.map es' t'))[b']?=_;rw [oldw b' hne]; exact h.fr.block b' hb' hn ho
  ·obtain ⟨c0,cc,tt,h1,h2,h3,h4,h5⟩:=h.fr.part e he hoe
   have hne:e.1≠g:=fun hh=>by rw [hh,hc] at h2; cases h2
   exact ⟨c0,cc,tt,h1,by show (w.heap.setIfInBounds g (.map es' t'))[e.1]?=_; rw [oldw _ hne]; exact h2,h3,h4,h5⟩
theorem MixG.at {S:Nat→Prop} {w:World} {me:Nat→Option Blk} {pl:Nat→Plc}:∀{fs:List Kd} {cs:List Cmp} {vs:List Value} {i:Nat} {k:Kd} {c:Cmp},MixG S w me pl fs cs vs→fs[i]?=some k→cs[i]?=some c→
  ∃pre seg post,vs=pre++seg++post∧pre.length=szs (fs.take i)∧seg.length=k.size∧(∀k' x,c=.val k' x→k'=k∧Rd S w k' x seg)∧RefG S w me pl c seg∧
   (∀c' seg',seg'.length=k.size→(∀k' x,c'=.val k' x→k'=k∧Rd S w k' x seg')→RefG S w me pl c' seg'→MixG S w me pl fs (cs.set i c') (pre++seg'++post))
 | [],_,_,_,_,_,_,h,_=>by simp at h
 | k0::fs,_,_,0,k,c,⟨c0,cs',seg,rest,e1,e2,e3,h1,h2,h3⟩,hk,hc=>by
  subst e1 e2;simp only [List.getElem?_cons_zero,Option.some.injEq] at hk hc;subst hk hc;refine ⟨[],seg,rest,rfl,rfl,e3,h1,h2,fun c' seg' hl hv ho=>⟨c',cs',seg',rest,rfl,rfl,hl,hv,ho,h3⟩⟩
 | k0::fs,_,_,i+1,k,c,⟨c0,cs',seg,rest,e1,e2,e3,h1,h2,h3⟩,hk,hc=>by
  subst e1 e2;simp only [List.getElem?_cons_succ] at hk hc;obtain ⟨pre,sg,post,q1,q2,q3,q4,q5,q6⟩:=h3.at hk hc;subst q1;refine ⟨seg++pre,sg,post,by simp,by simp [szs,e3,q2],q3,q4,q5,fun c' seg' hl hv ho=>⟨c0,cs'.set i c',seg,pre++seg'++post,rfl,by simp,e3,h1,h2,q6 c' seg' hl hv ho⟩⟩
theorem MixG.size {S:Nat→Prop} {w:World} {me:Nat→Option Blk} {pl:Nat→Plc}:∀{fs:List Kd} {cs:List Cmp} {vs:List Value},MixG S w me pl fs cs vs→vs.length=szs fs∧cs.length=fs.length
 | [],_,_,⟨e1,e2⟩=>by subst e1 e2; exact ⟨rfl,rfl⟩
 | k0::fs,_,_,⟨c0,cs',seg,rest,e1,e2,e3,h1,h2,h3⟩=>by
  subst e1 e2;obtain ⟨a,b⟩:=h3.size;exact ⟨by simp [szs,e3,a],by simp [b]⟩
end
structure TyD where
 desc:TypeDesc
 size:Nat
 bytes:Nat
 kd:Option Kd
abbrev Tab:=List (Nat×TyD)
def G3:Tab→TypeId→Option TyD
 | [],_=>none
 | (i,d)::l,t=>match Nat.beq i t with | true=>some d | false=>G3 l t
def tkd (T:Tab) (t:TypeId):Option Kd:=match G3 T t with | some d=>d.kd | none=>none
def Bp (T:Tab) (t:TypeId):Option TypeDesc:=match G3 T t with | some d=>some d.desc | none=>none
def kdIs (T:Tab) (t:TypeId) (k:Kd):Bool:=match tkd T t with | some k'=>k'.same k | none=>false
def tget:List (Nat×SV)→Nat→SV
 | [],_=>.dead
 | (i,s)::l,t=>match Nat.beq i t with | true=>s | false=>tget l t
def mget:List (Nat×Blk)→Nat→Option Blk
 | [],_=>none
 | (i,b)::l,t=>match Nat.beq i t with | true=>some b | false=>mget l t
structure St where
 tm:List (Nat×SV)
 me:List (Nat×Blk)
 nx:Nat
def cSV:Value→SV
 | .int k n=>.val (.int k) n
 | .bool b=>.val .bool b
 | .string s=>.val .str s
 | .slice none 0 0=>.nil
 | _=>.dead
def opv (tm:List (Nat×SV)):Operand→SV
 | .tmp t=>tget tm t
 | .const v=>cSV v
 | .func f=>.fn f
 | .global _=>.dead
structure ARes where
 ok:Bool
 sv:SV
 wr:List (Nat×Blk)
 acc:List Nat
 nx:Nat
def Fe (np:Nat) (rd:Nat→Option Blk):SV→(k:Kd)→Option (k.T×List (Nat×Blk)×List Nat)
 | .val k' x,k=>match TV.as ⟨k',x⟩ k with | some y=>some (y,[],[]) | none=>none
 | .nil,.sl _=>some ([],[],[])
 | .own j ver,k=>match Nat.blt j np,rd j with
  | false,some (.row e l ver' _)=>match Nat.beq ver ver',TV.as ⟨.sl e,l⟩ k with
   | true,some y=>some (y,[(j,.row e l ver' true)],[j])
   | _,_=>none
  | _,_=>none
 | .win j ver lo n,k=>match Nat.blt j np,rd j with
  | false,some (.row e l ver' _)=>match Nat.beq ver ver',TV.as ⟨.sl e,(l.drop lo).take n⟩ k with
   | true,some y=>some (y,[(j,.row e l ver' true)],[j])
   | _,_=>none
  | _,_=>none
 | .asl b p lo n,k=>match Nat.blt b np,rd b with
  | false,some (.var kb x _)=>match getP kb x p with
   | some ⟨.arr _ e,l⟩=>match TV.as ⟨.sl e,(List.take n (List.drop lo l))⟩ k with
    | some y=>some (y,[(b,.var kb x true)],[b])
    | none=>none
   | _=>none
  | _,_=>none
 | .fn f,k=>match k with
  | .fn=>some (FnV.fn f,[],[])
  | _=>none
 | .clo f ps,k=>match k,ps with
  | .fn,[(b,_)]=>match Nat.blt b np,rd b with
   | false,some (.var kb x _)=>match TV.as ⟨kb,x⟩ .fn with
    | some y=>some (FnV.clo f y,[(b,.var .fn y true)],[b])
    | none=>none
   | _,_=>none
  | _,_=>none
 | _,_=>none
def rdSl (rd:Nat→Option Blk):SV→Option ((e:Kd)×List e.T×List Nat)
 | .val (.sl e) l=>some ⟨e,l,[]⟩
 | .nnv e l=>some ⟨e,l,[]⟩
 | .own j ver=>match rd j with
  | some (.row e l ver' _)=>match Nat.beq ver ver' with | true=>some ⟨e,l,[j]⟩ | false=>none
  | _=>none
 | .win j ver lo n=>match rd j with
  | some (.row e l ver' _)=>match Nat.beq ver ver' with | true=>some ⟨e,(l.drop lo).take n,[j]⟩ | false=>none
  | _=>none
 | .asl b p lo n=>match rd b with
  | some (.var kb x _)=>match getP kb x p with
   | some ⟨.arr _ e,l⟩=>some ⟨e,List.take n (List.drop lo l),[b]⟩
   | _=>none
  | _=>none
 | _=>none
def ok1 (sv:SV) (nx:Nat):Option ARes:=some ⟨true,sv,[],[],nx⟩
def iand (k:IntKind) (a b:Int):Int:=k.wrap ((BitVec.ofInt k.bits a&&& BitVec.ofInt k.bits b).toNat:Int)
def ior (k:IntKind) (a b:Int):Int:=k.wrap ((BitVec.ofInt k.bits a||| BitVec.ofInt k.bits b).toNat:Int)
def ixor (k:IntKind) (a b:Int):Int:=k.wrap ((BitVec.ofInt k.bits a^^^BitVec.ofInt k.bits b).toNat:Int)
def iandn (k:IntKind) (a b:Int):Int:=k.wrap ((BitVec.ofInt k.bits a&&& ~~~ BitVec.ofInt k.bits b).toNat:Int)
def ishl (k:IntKind) (a b:Int):Int:=k.wrap (a*2^(min b.toNat k.bits))
def ishr (k:IntKind) (a b:Int):Int:=a.fdiv (2^(min b.toNat k.bits))
def Hp (op:BinOp) (k:IntKind) (a b:Int):Bool×TV:=
 match op with
 | .add=>(true,⟨.int k,k.wrap (a+b)⟩)
 | .sub=>(true,⟨.int k,k.wrap (a - b)⟩)
 | .mul=>(true,⟨.int k,k.wrap (a*b)⟩)
 | .quo=>(!(b==0),⟨.int k,k.wrap (a.tdiv b)⟩)
 | .rem=>(!(b==0),⟨.int k,a.tmod b⟩)
 | .and=>(true,⟨.int k,iand k a b⟩)
 | .or=>(true,⟨.int k,ior k a b⟩)
 | .xor=>(true,⟨.int k,ixor k a b⟩)
 | .andNot=>(true,⟨.int k,iandn k a b⟩)
 | .shl=>(decide (0≤b),⟨.int k,ishl k a b⟩)
 | .shr=>(decide (0≤b),⟨.int k,ishr k a b⟩)
 | .eql=>(true,⟨.bool,a==b⟩)
 | .neq=>(true,⟨.bool,a !=b⟩)
 | .lss=>(true,⟨.bool,decide (a<b)⟩)
 | .leq=>(true,⟨.bool,decide (a≤b)⟩)
 | .gtr=>(true,⟨.bool,decide (a>b)⟩)
 | .geq=>(true,⟨.bool,decide (a≥b)⟩)
def eqvL {α:Type} (f:α→α→Bool):List α→List α→Bool
 | x::xs,y::ys=>f x y&&eqvL f xs ys
 | _,_=>true
def Kd.eqv:(k:Kd)→k.T→k.T→Bool
 | .int _,a,b=>(show Int from a)==(show Int from b)
 | .bool,a,b=>(show Bool from a)==(show Bool from b)
 | .str,a,b=>(show ByteArray from a).toList==(show ByteArray from b).toList
 | .unit,_,_=>true
 | .pair k l,a,b=>k.eqv a.1 b.1&&l.eqv a.2 b.2
 | .arr _ e,a,b=>eqvL e.eqv a b
 | .sl _,_,_=>true
 | .mp,_,_=>true
 | .fn,_,_=>true
def Kv:BinOp→Bool | .shl | .shr=>true | _=>false
def aBin (T:Tab) (eqt:List Nat) (op:BinOp) (xt:TypeId) (x y:SV) (nx:Nat):Option ARes:=
 match x,y with
 | .val (.int k) a,.val (.int k') b=>match Kv op,Kd.ikb k k' with
  | false,false=>none
  | _,_=>match Hp op k a b with | (c,v)=>some ⟨c,.val v.1 v.2,[],[],nx⟩
 | .val .bool a,.val .bool b=>match op,tkd T xt with
  | .eql,some .bool=>ok1 (.val .bool (a==b)) nx
  | .neq,some .bool=>ok1 (.val .bool (!(a==b))) nx
  | _,_=>none
 | .val .str a,.val .str b=>match op with
  | .add=>some ⟨decide (ByteArray.size a+ByteArray.size b≤9223372036854775807),.val .str (ByteArray.append a b),[],[],nx⟩
  | .eql=>ok1 (.val .bool (a.toList==b.toList)) nx
  | .neq=>ok1 (.val .bool (!(a.toList==b.toList))) nx
  | _=>none
 | .val k a,.val k' b=>match op,tkd T xt,TV.as ⟨k',b⟩ k,eqt.elem xt,k.agg with
  | .eql,some kt,some b',true,true=>match kt.same k with | true=>ok1 (.val .bool (k.eqv a b')) nx | false=>none
  | .neq,some kt,some b',true,true=>match kt.same k with | true=>ok1 (.val .bool (!(k.eqv a b'))) nx | false=>none
  | _,_,_,_,_=>none
 | _,_=>none
def aNil (T:Tab) (op:BinOp) (t:TypeId) (x y:SV) (nx:Nat):Option ARes:=
 match op,Bp T t,x,y with
 | .eql,some (.slice _),.nil,.nil=>ok1 (.val .bool true) nx
 | .eql,some (.slice _),.nnv _ _,.nil=>ok1 (.val .bool false) nx
 | _,_,_,_=>none
def aUn (op:UnOp) (x:SV) (nx:Nat):Option ARes:=
 match op,x with
 | .neg,.val (.int k) a=>ok1 (.val (.int k) (k.wrap (0 - a))) nx
 | .xor,.val (.int k) a=>ok1 (.val (.int k) (ixor k (if k.signed then -1 else k.max) a)) nx
 | .not,.val .bool a=>ok1 (.val .bool (!a)) nx
 | _,_=>none
def zd7 (l:List Int):ByteArray:=⟨(l.map fun n=>UInt8.ofNat n.toNat).toArray⟩
def aConv (T:Tab) (rd:Nat→Option Blk) (src dst:TypeId) (x:SV) (nx:Nat):Option ARes:=
 match Bp T src,Bp T dst,x with
 | some (.int _),some (.int k),.val (.int _) a=>ok1 (.val (.int k) (k.wrap a)) nx
 | some .string,some .string,.val .str a=>ok1 (.val .str a) nx
 | some (.slice _),some .string,x=>match tkd T src,rdSl rd x with
  | some (.sl (.int .u8)),some ⟨.int .u8,l,acc⟩=>some ⟨true,.val .str (zd7 l),[],acc,nx⟩
  | _,_=>none
 | _,_,_=>none
def zli (T:Tab) (rd:Nat→Option Blk) (t:TypeId) (x:SV) (nx:Nat):Option ARes:=
 match tkd T t with
 | none=>none
 | some kt=>
  match x with
  | .ptr b p k=>match kt.same k,rd b with
   | true,some (.var kb y _)=>match getP kb y p with
    | some ⟨k',z⟩=>match k'.same k with | true=>some ⟨true,.val k' z,[],[b],nx⟩ | false=>none
    | none=>none
   | _,_=>none
  | .pval k z=>match kt.same k with | true=>ok1 (.val k z) nx | false=>none
  | .rptr j ver i p k=>match kt.same k,rd j with
   | true,some (.row e l ver' _)=>match Nat.beq ver ver',getP e (l.getD i e.zero) p with
    | true,some ⟨k',z⟩=>match k'.same k with | true=>some ⟨true,.val k' z,[],[j],nx⟩ | false=>none
    | _,_=>none
   | _,_=>none
  | .pwin b p lo n=>match rd b with
   | some (.var kb y _)=>match getP kb y p with
    | some ⟨.arr _ e,l⟩=>match kt.same (.arr n e) with
     | true=>some ⟨true,.val (.arr n e) (List.take n (List.drop lo l)),[],[b],nx⟩
     | false=>none
    | _=>none
   | _=>none
  | _=>none
def Iy:List Kd→List Kd→Bool
 | [],[]=>true
 | a::l,b::m=>a.same b&&Iy l m
 | _,_=>false
def Ed (np:Nat) (k:Kd) (rd:Nat→Option Blk):List Cmp→Option (k.T×List (Nat×Blk)×List Nat×List Cmp)
 | .val k' x::cs=>match TV.as ⟨k',x⟩ k with
  | some y=>some (y,[],[],cs)
  | none=>none
 | .own j v::cs=>match Fe np rd (.own j v) k with
  | some (y,wr,acc)=>some (y,wr,acc,cs)
  | none=>none
 | _=>none
def Qf (np:Nat):(k:Kd)→(Nat→Option Blk)→List Cmp→Option (k.T×List (Nat×Blk)×List Nat×List Cmp)
 | .unit,_,cs=>some ((),[],[],cs)
 | .pair a b,rd,cs=>match Qf np a rd cs with
  | some (y,wr,acc,cs1)=>match Qf np b (fun j=>match mget wr j with | some b=>some b | none=>rd j) cs1 with
   | some (z,wr',acc',cs2)=>some ((y,z),wr'++wr,acc++acc',cs2)
   | none=>none
  | none=>none
 | .int k,rd,cs=>Ed np (.int k) rd cs
 | .bool,rd,cs=>Ed np .bool rd cs
 | .str,rd,cs=>Ed np .str rd cs
 | .arr n e,rd,cs=>Ed np (.arr n e) rd cs
 | .sl e,rd,cs=>Ed np (.sl e) rd cs
 | .mp,rd,cs=>Ed np .mp rd cs
 | .fn,rd,cs=>Ed np .fn rd cs
def Qq (T:Tab) (np:Nat) (rd:Nat→Option Blk) (t:TypeId) (b i:Nat) (k:Kd) (nx:Nat):Option ARes:=
 match tkd T t,rd b with
 | some kt,some (.mix _ cs)=>match kt.same k,kt.isS with
  | true,true=>match Qf np kt rd (cs.drop i) with
   | some (x,wr,acc,_)=>some ⟨true,.val kt x,wr,b::acc,nx⟩
   | none=>none
  | true,false=>match cs[i]? with
   | some (.val k' x)=>match kt.same k' with
    | true=>some ⟨true,.val k' x,[],[b],nx⟩
    | false=>none
   | some (.own j ver)=>match kt with
    | .sl _=>some ⟨true,.own j ver,[],[b],nx⟩
    | _=>none
   | some (.mp j)=>match kt with
    | .mp=>some ⟨true,.mp j,[],[b],nx⟩
    | _=>none
   | _=>none
  | _,_=>none
 | _,_=>none
def zji:(k:Kd)→k.T→List Cmp
 | .unit,_=>[]
 | .pair a b,x=>zji a x.1++zji b x.2
 | .int k,x=>[.val (.int k) x]
 | .bool,x=>[.val .bool x]
 | .str,x=>[.val .str x]
 | .arr n e,x=>[.val (.arr n e) x]
 | .sl e,x=>[.val (.sl e) x]
 | .mp,x=>[.val .mp x]
 | .fn,x=>[.val .fn x]
def E9 (rd:Nat→Option Blk):List Cmp→Option (List Nat)
 | []=>some []
 | .val _ _::cs=>E9 rd cs
 | .mp _::cs=>E9 rd cs
 | .own j ver::cs=>match rd j,E9 rd cs with
  | some (.row _ _ ver' _),some acc=>match Nat.beq ver ver' with
   | true=>some (j::acc)
   | false=>none
  | _,_=>none
 | .junk::_=>none
def Zm (T:Tab) (rd:Nat→Option Blk) (t:TypeId) (b i:Nat) (kp:Kd) (v:SV) (nx:Nat):Option ARes:=
 match tkd T t,rd b with
 | some kt,some (.mix fs cs)=>match kt.same kp,kt.isS with
  | true,false=>match v with
   | .own j ver=>match rd j with
    | some (.row e _ ver' false)=>match kt.same (.sl e),Nat.beq ver ver' with
     | true,true=>some ⟨true,.dead,[(b,.mix fs (cs.set i (.own j ver)))],[b,j],nx⟩
     | _,_=>none
    | _=>none
   | .val k' x=>match kt.same k' with
    | true=>some ⟨true,.dead,[(b,.mix fs (cs.set i (.val k' x)))],[b],nx⟩
    | false=>none
   | .mp j=>match kt with
    | .mp=>some ⟨true,.dead,[(b,.mix fs (cs.set i (.mp j)))],[b],nx⟩
    | _=>none
   | _=>none
  | true,true=>match v with
   | .strct fs' cs'=>match Iy kt.flat fs',E9 rd cs',Nat.ble i fs.length with
    | true,some acc,true=>some ⟨true,.dead,[(b,.mix fs (cs.take i++cs'++cs.drop (i+kt.flat.length)))],b::acc,nx⟩
    | _,_,_=>none
   | .val k' x=>match kt.same k',Nat.ble i fs.length with
    | true,true=>some ⟨true,.dead,[(b,.mix fs (cs.take i++zji k' x++cs.drop (i+k'.flat.length)))],[b],nx⟩
    | _,_=>none
   | _=>none
  | _,_=>none
 | _,_=>none
def zlg (T:Tab) (np:Nat) (rd:Nat→Option Blk) (t:TypeId) (x v:SV) (nx:Nat):Option ARes:=
 match tkd T t with
 | none=>none
 | some kt=>
  match Fe np rd v kt with
  | none=>none
  | some (y,wr,acc)=>
   match x with
   | .ptr b p k=>match kt.same k,rd b,acc with
    | true,some (.var kb z false),[]=>match setP kb z p ⟨kt,y⟩ with
     | some z'=>some ⟨true,.dead,[(b,.var kb z' false)],[b],nx⟩
     | none=>none
    | true,some (.var kb z false),[i]=>match Nat.beq i b,setP kb z p ⟨kt,y⟩ with
     | false,some z'=>some ⟨true,.dead,(b,.var kb z' false)::wr,[b,i],nx⟩
     | _,_=>none
    | _,_,_=>none
   | .rptr j ver i p k=>match kt.same k,rd j,acc with
    | true,some (.row e l ver' false),[]=>match Nat.beq ver ver',setP e (l.getD i e.zero) p ⟨kt,y⟩ with
     | true,some z'=>some ⟨true,.dead,[(j,.row e (l.set i z') ver' false)],[j],nx⟩
     | _,_=>none
    | _,_,_=>none
   | _=>none
def G9 (rd:Nat→Option Blk) (nx np:Nat):Bool:=match rd nx with | none=>Nat.ble np nx | some _=>false
def zlm (T:Tab) (np:Nat) (rd:Nat→Option Blk) (t:TypeId) (nx:Nat):Option ARes:=
 match tkd T t,G9 rd nx np with
 | some k,true=>some ⟨true,.ptr nx [] k,[(nx,.var k k.zero false)],[nx],nx+1⟩
 | _,_=>none
def B1 (np:Nat) (rd:Nat→Option Blk):List Kd→Nat→Option (List Cmp×List (Nat×Blk)×Nat)
 | [],nx=>some ([],[],nx)
 | .sl e::fs,nx=>match G9 rd nx np,B1 np rd fs (nx+1) with
  | true,some (cs,wr,nx')=>some (.own nx 0::cs,(nx,.row e [] 0 false)::wr,nx')
  | _,_=>none
 | k::fs,nx=>match B1 np rd fs nx with
  | some (cs,wr,nx')=>some (.val k k.zero::cs,wr,nx')
  | none=>none
def Zu (T:Tab) (np:Nat) (rd:Nat→Option Blk) (t:TypeId) (nx:Nat):Option ARes:=
 match tkd T t with
 | some k=>match B1 np rd k.flat nx with
  | some (cs,wr,nx')=>match G9 rd nx' np with
   | true=>some ⟨true,.mptr nx' 0 k,(nx',.mix k.flat cs)::wr,nx'::wr.map (·.1),nx'+1⟩
   | false=>none
  | none=>none
 | none=>none
def Em (rd:Nat→Option Blk) (k:Kd) (cs:List Cmp):List (Nat×SV)→Option (List Cmp×List Nat)
 | []=>some (cs,[])
 | (j,v)::l=>match k.flatF j with
  | some (d,kf)=>match kf.isS,v with
   | false,.val k' x=>match kf.same k' with
    | true=>Em rd k (cs.set d (.val k' x)) l
    | false=>none
   | false,.own jj ver=>match rd jj with
    | some (.row e _ ver' false)=>match kf.same (.sl e),Nat.beq ver ver' with
     | true,true=>match Em rd k (cs.set d (.own jj ver)) l with
      | some (cs',acc)=>some (cs',jj::acc)
      | none=>none
     | _,_=>none
    | _=>none
   | false,.mp jj=>match kf with
    | .mp=>Em rd k (cs.set d (.mp jj)) l
    | _=>none
   | true,.val k' x=>match kf.same k' with
    | true=>Em rd k (cs.take d++zji k' x++cs.drop (d+k'.flat.length)) l
    | false=>none
   | _,_=>none
  | none=>none
def isStD:TypeDesc→Bool | .struct _=>true | _=>false
def Zq (T:Tab) (np:Nat) (rd:Nat→Option Blk) (t:TypeId) (parts:List (Nat×SV)) (nx:Nat):Option ARes:=
 match G3 T t with
 | some d=>match d.kd,isStD d.desc with
  | some k,true=>match B1 np rd k.flat nx with
   | some (cs,wr,nx')=>match Em (fun j=>match mget wr j with | some b=>some b | none=>rd j) k cs parts with
    | some (cs',acc)=>some ⟨true,.strct k.flat cs',wr,wr.map (·.1)++acc,nx'⟩
    | none=>none
   | none=>none
  | _,_=>none
 | none=>none
def aBoxM (T:Tab) (np:Nat) (rd:Nat→Option Blk) (t:TypeId) (v:SV) (nx:Nat):Option ARes:=
 match tkd T t,G9 rd nx np,v with
 | some k,true,.strct fs cs=>match Iy k.flat fs with
  | true=>some ⟨true,.mptr nx 0 k,[(nx,.mix fs cs)],[nx],nx+1⟩
  | false=>none
 | _,_,_=>none
def zlf (T:Tab) (np:Nat) (rd:Nat→Option Blk) (t:TypeId) (x:SV) (lo hi mx:Option SV) (nx:Nat):Option ARes:=
 match Bp T t,x,lo,hi,mx with
 | some (.slice _),.own j ver,none,some (.val (.int _) h),none=>match rd j,Nat.blt j np with
  | some (.row e l ver' false),false=>match Nat.beq ver ver',kdIs T t (.sl e) with
   | true,true=>some ⟨decide (0≤h∧h≤List.length l),.own j (ver'+1),[(j,.row e (List.take h.toNat l) (ver'+1) false)],[j],nx⟩
   | _,_=>none
  | _,_=>none
 | some (.slice _),.val (.sl e) z,none,some (.val (.int _) h),some (.val (.int _) m)=>match kdIs T t (.sl e) with
  | true=>some ⟨decide (h=m∧0≤h∧h≤List.length z),.cap e (List.take h.toNat z),[],[],nx⟩
  | false=>none
 | _,_,_,_,_=>none
def Vd (rd:Nat→Option Blk):List SV→Option (List (Nat×Kd)×List Nat)
 | []=>some ([],[])
 | .ptr b [] k::l=>match rd b,Vd rd l with
  | some (.var kb _ _),some (ps,acc)=>match kb.same k with
   | true=>some ((b,kb)::ps,b::acc)
   | false=>none
  | _,_=>none
 | _=>none
def Oy (rd:Nat→Option Blk) (fn:Fn) (first cap:List SV) (nx:Nat):Option ARes:=
 match fn,first,cap with
 | .func f,[],[]=>ok1 (.fn f) nx
 | .func f,[],cap=>match Vd rd cap with
  | some (ps,acc)=>some ⟨true,.clo f ps,[],acc,nx⟩
  | none=>none
 | _,_,_=>none
def aBox (T:Tab) (np:Nat) (rd:Nat→Option Blk) (t:TypeId) (v:SV) (nx:Nat):Option ARes:=
 match tkd T t,G9 rd nx np with
 | some k,true=>match Fe np rd v k with
  | some (y,wr,acc)=>some ⟨true,.ptr nx [] k,(nx,.var k y false)::wr,nx::acc,nx+1⟩
  | none=>none
 | _,_=>none
def H7 (np:Nat) (rd:Nat→Option Blk) (st:Bool) (k:Kd) (x:k.T):List (Nat×SV)→Option k.T
 | []=>some x
 | (i,v)::l=>
  match k.off1 (if st then .fld i else .idx i) with
  | some (_,k')=>match Fe np rd v k' with
   | some (y,[],[])=>match set1 k x (if st then .fld i else .idx i) ⟨k',y⟩ with
    | some x'=>H7 np rd st k x' l
    | none=>none
   | _=>none
  | none=>none
def Zr (T:Tab) (np:Nat) (rd:Nat→Option Blk) (t:TypeId) (parts:List (Nat×SV)) (nx:Nat):Option ARes:=
 match G3 T t with
 | some d=>match d.kd,d.desc with
  | some k,.struct _=>match H7 np rd true k k.zero parts with | some x=>ok1 (.val k x) nx | none=>none
  | some k,.array n _=>match parts.all fun p=>Nat.blt p.1 n,H7 np rd false k k.zero parts with | true,some x=>ok1 (.val k x) nx | _,_=>none
  | _,_=>none
 | none=>none
def Hh (np:Nat) (rd:Nat→Option Blk) (st:Bool) (k:Kd):List (Nat×SV)→Option (List (Nat×SV)×List (Nat×Blk)×List Nat)
 | []=>some ([],[],[])
 | (i,v)::l=>
  match k.off1 (if st then .fld i else .idx i) with
  | some (_,k')=>match Fe np rd v k' with
   | some (y,wr,acc)=>match Hh np (fun j=>match mget wr j with | some b=>some b | none=>rd j) st k l with
    | some (l',wr',acc')=>some ((i,.val k' y)::l',wr'++wr,acc++acc')
    | none=>none
   | none=>none
  | none=>none
def isSt:TypeDesc→Bool | .struct _=>true | _=>false
def zll (T:Tab) (np:Nat) (rd:Nat→Option Blk) (t:TypeId) (parts:List (Nat×SV)) (nx:Nat):Option ARes:=
 match G3 T t with
 | some d=>match d.kd with
  | some k=>match Hh np rd (isSt d.desc) k parts with
   | some (parts',wr,acc)=>match Zr T np rd t parts' nx with
    | some r=>some ⟨r.ok,r.sv,wr,acc,r.nx⟩
    | none=>none
   | none=>none
  | none=>none
 | none=>none
def Jm (np:Nat) (rd:Nat→Option Blk) (e:Kd) (l:List e.T):List (Nat×SV)→Option (List e.T×List (Nat×Blk)×List Nat)
 | []=>some (l,[],[])
 | (i,v)::r=>
  match Fe np rd v e with
  | some (y,wr,acc)=>match Jm np (fun j=>match mget wr j with | some b=>some b | none=>rd j) e (l.set i y) r with
   | some (l',wr',acc')=>some (l',wr'++wr,acc++acc')
   | none=>none
  | none=>none
def I2 (T:Tab) (np:Nat) (own:Bool) (rd:Nat→Option Blk) (t:TypeId) (len:Nat) (parts:List (Nat×SV)) (nx:Nat):Option ARes:=
 match tkd T t,G9 rd nx np,parts.all (fun p=>Nat.blt p.1 len) with
 | some (.sl e),true,true=>match Nat.ble (len*(e.size+1)) 16777216,Jm np rd e (List.replicate len e.zero) parts with
  | true,some (l,wr,acc)=>match own with
   | true=>some ⟨true,.own nx 0,(nx,.row e l 0 false)::wr,nx::acc,nx+1⟩
   | false=>some ⟨true,.val (.sl e) l,(nx,.row e l 0 true)::wr,nx::acc,nx+1⟩
  | _,_=>none
 | _,_,_=>none
def LIMB:Nat:=140737488355328
def K6 (T:Tab) (np:Nat) (rd:Nat→Option Blk) (t:TypeId) (len cap:SV) (nx:Nat):Option ARes:=
 match tkd T t,Bp T t,len,cap,G9 rd nx np with
 | some (.sl e),some (.slice et),.val (.int .i64) l,.val (.int .i64) c,true=>match G3 T et with
  | some d=>some ⟨decide (0≤l∧l≤c∧c≤((LIMB/d.bytes:Nat):Int)),.own nx 0,[(nx,.row e (List.replicate l.toNat e.zero) 0 false)],[nx],nx+1⟩
  | none=>none
 | _,_,_,_,_=>none
def live (rd:Nat→Option Blk) (j ver:Nat):Bool:=match rd j with
 | some (.row _ _ ver' _)=>Nat.beq ver ver'
 | _=>false
def K8 (T:Tab) (rd:Nat→Option Blk) (t:TypeId) (x:SV) (j:Nat) (nx:Nat):Option ARes:=
 match tkd T t,Bp T t with
 | some kt,some (.struct _)=>match kt.offF j,x with
  | some (_,kf),.ptr b p k=>match kt.same k with | true=>ok1 (.ptr b (p++[.fld j]) kf) nx | false=>none
  | some (_,kf),.rptr b ver i p k=>match kt.same k,live rd b ver with | true,true=>some ⟨true,.rptr b ver i (p++[.fld j]) kf,[],[b],nx⟩ | _,_=>none
  | some _,.pval k z=>match kt.same k,getF k z j with | true,some ⟨k',y⟩=>ok1 (.pval k' y) nx | _,_=>none
  | some _,.mptr b i k=>match kt.same k,kt.flatF j with
   | true,some (d,kf)=>ok1 (.mptr b (i+d) kf) nx
   | _,_=>none
  | _,_=>none
 | _,_=>none
def zlk (T:Tab) (t:TypeId) (x:SV) (j:Nat) (nx:Nat):Option ARes:=
 match tkd T t,Bp T t,x with
 | some kt,some (.struct _),.val k z=>match kt.same k,getF k z j with | true,some ⟨k',y⟩=>ok1 (.val k' y) nx | _,_=>none
 | _,_,_=>none
def bnd (i:Int) (n:Int):Bool:=decide (0≤i)&&decide (i<n)
def K7 (T:Tab) (rd:Nat→Option Blk) (t:TypeId) (x ix:SV) (nx:Nat):Option ARes:=
 match ix with
 | .val (.int _) i=>
  match tkd T t,Bp T t,x with
  | some kt,some (.array n _),.ptr b p k=>match kt.same k,k with
   | true,.arr _ e=>some ⟨bnd i n,.ptr b (p++[.idx i.toNat]) e,[],[],nx⟩
   | _,_=>none
  | some kt,some (.array n _),.rptr j ver r p k=>match kt.same k,live rd j ver,k with
   | true,true,.arr _ e=>some ⟨bnd i n,.rptr j ver r (p++[.idx i.toNat]) e,[],[j],nx⟩
   | _,_,_=>none
  | some kt,some (.array n _),.pval k z=>match kt.same k,(⟨k,z⟩:TV) with
   | true,⟨.arr _ e,l⟩=>some ⟨bnd i n,.pval e (List.getD l i.toNat e.zero),[],[],nx⟩
   | _,_=>none
  | some kt,some (.slice _),.val k z=>match kt.same k,(⟨k,z⟩:TV) with
   | true,⟨.sl e,l⟩=>some ⟨bnd i (List.length l),.pval e (List.getD l i.toNat e.zero),[],[],nx⟩
   | _,_=>none
  | some kt,some (.slice _),.own j ver=>match rd j with
   | some (.row e l ver' _)=>match Nat.beq ver ver',kt.same (.sl e) with
    | true,true=>some ⟨bnd i l.length,.rptr j ver i.toNat [] e,[],[j],nx⟩
    | _,_=>none
   | _=>none
  | some kt,some (.slice _),.win j ver lo n=>match rd j with
   | some (.row e _ ver' _)=>match Nat.beq ver ver',kt.same (.sl e) with
    | true,true=>some ⟨bnd i n,.rptr j ver (lo+i.toNat) [] e,[],[j],nx⟩
    | _,_=>none
   | _=>none
  | some kt,some (.slice _),.asl b p lo n=>match rd b with
   | some (.var kb _ _)=>match kb.offP p with
    | some (_,.arr _ e)=>match kt.same (.sl e) with
     | true=>some ⟨bnd i n,.ptr b (p++[.idx (lo+i.toNat)]) e,[],[b],nx⟩
     | false=>none
    | _=>none
   | _=>none
  | _,_,_=>none
 | _=>none
def zlj (T:Tab) (t:TypeId) (x ix:SV) (nx:Nat):Option ARes:=
 match ix with
 | .val (.int _) i=>
  match tkd T t,Bp T t,x with
  | some kt,some (.array n _),.val k z=>match kt.same k,(⟨k,z⟩:TV) with
   | true,⟨.arr _ e,l⟩=>some ⟨bnd i n,.val e (List.getD l i.toNat e.zero),[],[],nx⟩
   | _,_=>none
  | some .str,some .string,.val .str s=>some ⟨bnd i s.size,.val (.int .u8) ((s.data.toList.getD i.toNat 0).toNat:Int),[],[],nx⟩
  | _,_,_=>none
 | _=>none
def Ha (d:Int):Option SV→Option Int
 | none=>some d
 | some (.val (.int _) i)=>some i
 | _=>none
def mxok (hi mx:Option SV):Bool:=match mx,hi with | some _,none=>false | _,_=>true
def zlh (T:Tab) (rd:Nat→Option Blk) (t:TypeId) (x:SV) (lo hi mx:Option SV) (nx:Nat):Option ARes:=
 match Bp T t,x with
 | some .string,.val .str s=>match Ha 0 lo,Ha s.size hi,mx with
  | some l,some h,none=>some ⟨decide (0≤l∧l≤h∧h≤s.size),.val .str (s.extract l.toNat h.toNat),[],[],nx⟩
  | _,_,_=>none
 | some (.array n _),.ptr b p k=>match tkd T t with
  | some kt=>match kt.same k,Ha 0 lo,Ha n hi,mx with
   | true,some l,some h,none=>some ⟨decide (0≤l∧l≤h∧h≤n),.asl b p l.toNat (h - l).toNat,[],[],nx⟩
   | _,_,_,_=>none
  | none=>none
 | some (.slice _),.val (.sl e) z=>match Ha 0 lo,Ha (List.length z) hi,tkd T t with
  | some l,some h,some kt=>match Ha h mx,mxok hi mx,kt.same (.sl e) with
   | some m,true,true=>some ⟨decide (0≤l∧l≤h∧h≤m∧m≤List.length z),.val (.sl e) (List.take (h - l).toNat (List.drop l.toNat z)),[],[],nx⟩
   | _,_,_=>none
  | _,_,_=>none
 | some (.slice _),.own j ver=>match rd j with
  | some (.row e z ver' _)=>match Nat.beq ver ver',Ha 0 lo,Ha (List.length z) hi,tkd T t with
   | true,some l,some h,some kt=>match Ha h mx,mxok hi mx,kt.same (.sl e) with
    | some m,true,true=>some ⟨decide (0≤l∧l≤h∧h≤m∧m≤List.length z),.win j ver l.toNat (h - l).toNat,[],[j],nx⟩
    | _,_,_=>none
   | _,_,_,_=>none
  | _=>none
 | some (.slice _),.win j ver lo' n=>match rd j with
  | some (.row e _ ver' _)=>match Nat.beq ver ver',Ha 0 lo,Ha n hi,mx with
   | true,some l,some h,none=>match tkd T t with
    | some kt=>match kt.same (.sl e) with
     | true=>some ⟨decide (0≤l∧l≤h∧h≤n),.win j ver (lo'+l.toNat) (h - l).toNat,[],[j],nx⟩
     | false=>none
    | none=>none
   | _,_,_,_=>none
  | _=>none
 | some (.slice _),.asl b p lo' n=>match Ha 0 lo,Ha n hi,mx with
  | some l,some h,none=>match rd b,tkd T t with
   | some (.var kb _ _),some kt=>match kb.offP p with
    | some (_,.arr _ e)=>match kt.same (.sl e) with
     | true=>some ⟨decide (0≤l∧l≤h∧h≤n),.asl b p (lo'+l.toNat) (h - l).toNat,[],[b],nx⟩
     | false=>none
    | _=>none
   | _,_=>none
  | _,_,_=>none
 | _,_=>none
def Zt (T:Tab) (rd:Nat→Option Blk) (t:TypeId) (x:SV) (nx:Nat):Option ARes:=
 match tkd T t,x with
 | some (.arr n e),.val (.sl e') l=>match e.same e'&&Nat.blt 0 n with
  | true=>some ⟨decide ((n:Int)≤List.length l),.pval (.arr n e') (List.take n l),[],[],nx⟩
  | false=>none
 | some (.arr n e),.asl b p lo m=>match rd b with
  | some (.var kb _ _)=>match kb.offP p with
   | some (_,.arr _ e')=>match e.same e'&&Nat.blt 0 n with
    | true=>some ⟨decide ((n:Int)≤m),.pwin b p lo n,[],[b],nx⟩
    | false=>none
   | _=>none
  | _=>none
 | _,_=>none
def aLen (T:Tab) (rd:Nat→Option Blk) (t:TypeId) (x:SV) (nx:Nat):Option ARes:=
 match Bp T t,x with
 | some .string,.val .str s=>ok1 (.val (.int .i64) (s.size:Int)) nx
 | some (.array n _),_=>ok1 (.val (.int .i64) (n:Int)) nx
 | some (.slice _),.nil=>ok1 (.val (.int .i64) (0:Int)) nx
 | some (.slice _),.val (.sl _) l=>ok1 (.val (.int .i64) (List.length l:Int)) nx
 | some (.slice _),.own j ver=>match rd j with
  | some (.row _ l ver' _)=>match Nat.beq ver ver' with | true=>some ⟨true,.val (.int .i64) (l.length:Int),[],[j],nx⟩ | false=>none
  | _=>none
 | some (.slice _),.win j ver _ n=>match rd j with
  | some (.row _ _ ver' _)=>match Nat.beq ver ver' with | true=>some ⟨true,.val (.int .i64) (n:Int),[],[j],nx⟩ | false=>none
  | _=>none
 | some (.slice _),.asl _ _ _ n=>ok1 (.val (.int .i64) (n:Int)) nx
 | some (.map _ _),.mp j=>match rd j with
  | some (.map _ _ m)=>some ⟨true,.val (.int .i64) (m.length:Int),[],[j],nx⟩
  | _=>none
 | _,_=>none
def Bx {K V:Type} (eq:K→K→Bool):List (K×V)→K→Option V
 | [],_=>none
 | x::m,k=>match eq k x.1 with | true=>some x.2 | false=>Bx eq m k
def keyK:Kd→Bool
 | .int _ | .pair _ _ | .arr _ _=>true
 | _=>false
def zju:Option SV→Bool
 | none=>true
 | some (.val (.int _) _)=>true
 | _=>false
def Sk (T:Tab) (np:Nat) (rd:Nat→Option Blk) (t:TypeId) (hint:Option SV) (nx:Nat):Option ARes:=
 match Bp T t,zju hint,G9 rd nx np with
 | some (.map kt et),true,true=>match tkd T kt,tkd T et with
  | some kk,some kv=>some ⟨true,.mp nx,[(nx,.map kk kv [])],[nx],nx+1⟩
  | _,_=>none
 | _,_,_=>none
def Zn (T:Tab) (eqt:List Nat) (rd:Nat→Option Blk) (t:TypeId) (x ix:SV) (co:Bool) (nx:Nat):Option ARes:=
 match Bp T t,x,ix with
 | some (.map kt et),.mp j,.val k' y=>match rd j with
  | some (.map kk kv m)=>match eqt.elem kt&&keyK kk,TV.as ⟨k',y⟩ kk,kdIs T kt kk,kdIs T et kv with
   | true,some z,true,true=>match co with
    | true=>some ⟨true,.tup [.val kv ((Bx kk.eqv m z).getD kv.zero),.val .bool (Bx kk.eqv m z).isSome],[],[j],nx⟩
    | false=>some ⟨true,.val kv ((Bx kk.eqv m z).getD kv.zero),[],[j],nx⟩
   | _,_,_,_=>none
  | _=>none
 | _,_,_=>none
def Ih (T:Tab) (eqt:List Nat) (np:Nat) (rd:Nat→Option Blk) (t:TypeId) (x ix v:SV) (nx:Nat):Option ARes:=
 match Bp T t,x,ix with
 | some (.map kt et),.mp j,.val k' y=>match rd j with
  | some (.map kk kv m)=>match eqt.elem kt&&keyK kk,TV.as ⟨k',y⟩ kk,kdIs T kt kk,kdIs T et kv with
   | true,some z,true,true=>match Fe np rd v kv with
    | some (u,wr,acc)=>some ⟨(Bx kk.eqv m z).isNone,.dead,(j,.map kk kv (m++[(z,u)]))::wr,j::acc,nx⟩
    | none=>none
   | _,_,_,_=>none
  | _=>none
 | _,_,_=>none
def lay {α:Type} (l:List α) (lo:Nat) (xs:List α):List α:=l.take lo++xs++l.drop (lo+xs.length)
def aCopy (T:Tab) (rd:Nat→Option Blk) (t:TypeId) (d s:SV) (nx:Nat):Option ARes:=
 match tkd T t,rdSl rd s with
 | some (.sl ke),some ⟨e,xs,acc⟩=>
  match ke.same e with
  | false=>none
  | true=>
   match d with
   | .own j ver=>match rd j with
    | some (.row e' l ver' false)=>match Nat.beq ver ver',TV.as ⟨.sl e,xs⟩ (.sl e') with
     | true,some ys=>some ⟨true,.val (.int .i64) (min (List.length ys) l.length:Nat),[(j,.row e' (lay l 0 (List.take l.length ys)) ver' false)],j::acc,nx⟩
     | _,_=>none
    | _=>none
   | .win j ver lo n=>match rd j with
    | some (.row e' l ver' false)=>match Nat.beq ver ver',TV.as ⟨.sl e,xs⟩ (.sl e') with
     | true,some ys=>some ⟨true,.val (.int .i64) (min (List.length ys) n:Nat),[(j,.row e' (lay l lo (List.take n ys)) ver' false)],j::acc,nx⟩
     | _,_=>none
    | _=>none
   | .asl b p lo n=>match rd b with
    | some (.var kb x false)=>match getP kb x p with
     | some ⟨.arr m e',l⟩=>match TV.as ⟨.sl e,xs⟩ (.sl e') with
      | some ys=>match setP kb x p ⟨.arr m e',lay l lo (List.take n ys)⟩ with
       | some x'=>some ⟨true,.val (.int .i64) (min (List.length ys) n:Nat),[(b,.var kb x' false)],b::acc,nx⟩
       | none=>none
      | none=>none
     | _=>none
    | _=>none
   | _=>none
 | _,_=>none
def Sq (T:Tab) (np:Nat) (rd:Nat→Option Blk) (t:TypeId) (s x:SV) (nx:Nat):Option ARes:=
 match tkd T t,Bp T t with
 | some (.sl ke),some (.slice et)=>match G3 T et with
  | none=>none
  | some d=>
   match (match x with | .nil=>some ⟨ke,[],[]⟩ | x=>rdSl rd x:Option ((e:Kd)×List e.T×List Nat)) with
   | none=>none
   | some ⟨e,xs,acc⟩=>
    match TV.as ⟨.sl e,xs⟩ (.sl ke) with
    | none=>none
    | some ys=>
     match s with
     | .own j ver=>match rd j,Nat.blt j np with
      | some (.row e' l ver' false),false=>match Nat.beq ver ver',TV.as ⟨.sl ke,ys⟩ (.sl e') with
       | true,some zs=>some ⟨decide (l.length+List.length zs≤LIMB/d.bytes),.own j (ver'+1),[(j,.row e' (l++zs) (ver'+1) false)],j::acc,nx⟩
       | _,_=>none
      | _,_=>none
     | .nil=>match G9 rd nx np with
      | true=>some ⟨decide (List.length ys≤LIMB/d.bytes),.own nx 0,[(nx,.row ke ys 0 false)],nx::acc,nx+1⟩
      | false=>none
     | .cap e' l=>match G9 rd nx np,TV.as ⟨.sl e',l⟩ (.sl ke) with
      | true,some zs=>some ⟨decide (0<List.length ys∧List.length zs+List.length ys≤LIMB/d.bytes),.own nx 0,[(nx,.row ke (zs++ys) 0 false)],nx::acc,nx+1⟩
      | _,_=>none
     | _=>none
 | _,_=>none
def Sj (mx:Bool) (x y:SV) (nx:Nat):Option ARes:=
 match x,y with
 | .val (.int k) a,.val (.int _) b=>ok1 (.val (.int k) (if mx then (if b>a then b else a) else (if b<a then b else a))) nx
 | _,_=>none
def Sm (x:SV) (i:Nat) (nx:Nat):Option ARes:=
 match x with
 | .tup l=>match l[i]? with
  | some (.val k x)=>ok1 (.val k x) nx
  | some (.own j v)=>ok1 (.own j v) nx
  | some .junk=>ok1 .dead nx
  | _=>none
 | _=>none
def aPick (c a b:SV) (nx:Nat):Option ARes:=
 match c with
 | .val .bool c=>match c with | true=>ok1 a nx | false=>ok1 b nx
 | _=>none
def zv7 (T:Tab) (eqt:List Nat) (np:Nat) (own:Bool) (rd:Nat→Option Blk) (ρ:Operand→SV) (o:Oper) (nx:Nat):Option ARes:=
 match o.op with
 | .move x | .assign x=>match own,ρ x with
  | true,.nil=>match tkd T o.type,G9 rd nx np with
   | some (.sl e),true=>some ⟨true,.own nx 0,[(nx,.row e [] 0 false)],[nx],nx+1⟩
   | _,_=>none
  | _,sv=>ok1 sv nx
 | .pick c a b=>aPick (ρ c) (ρ a) (ρ b) nx
 | .alloc t=>match own with | true=>Zu T np rd t nx | false=>zlm T np rd t nx
 | .box t x=>match own with | true=>aBoxM T np rd t (ρ x) nx | false=>aBox T np rd t (ρ x) nx
 | .build t parts=>match own with
  | true=>Zq T np rd t (parts.toList.map fun p=>(p.1,ρ p.2)) nx
  | false=>zll T np rd t (parts.toList.map fun p=>(p.1,ρ p.2)) nx
 | .makeFunc f fi cs=>Oy rd f (fi.toList.map ρ) (cs.toList.map ρ) nx
 | .buildSlice t len parts=>I2 T np own rd t len (parts.toList.map fun p=>(p.1,ρ p.2)) nx
 | .load t x=>match ρ x with
  | .mptr b i k=>Qq T np rd t b i k nx
  | sv=>zli T rd t sv nx
 | .store t x v=>match ρ x with
  | .mptr b i k=>Zm T rd t b i k (ρ v) nx
  | sv=>zlg T np rd t sv (ρ v) nx
 | .nilCheck x=>match ρ x with
  | .ptr b p k=>ok1 (.ptr b p k) nx
  | .pval k z=>ok1 (.pval k z) nx
  | .mptr b i k=>ok1 (.mptr b i k) nx
  | .rptr j v i p k=>match live rd j v with | true=>some ⟨true,.rptr j v i p k,[],[j],nx⟩ | false=>none
  | _=>none
 | .binOp op xt x y _=>match aNil T op xt (ρ x) (ρ y) nx with | some r=>some r | none=>aBin T eqt op xt (ρ x) (ρ y) nx
 | .unOp op _ x=>aUn op (ρ x) nx
 | .convert src dst x=>aConv T rd src dst (ρ x) nx
 | .sliceToArrayPointer t x=>Zt T rd t (ρ x) nx
 | .slice t x lo hi mx=>match own with
  | true=>zlf T np rd t (ρ x) (lo.map ρ) (hi.map ρ) (mx.map ρ) nx
  | false=>zlh T rd t (ρ x) (lo.map ρ) (hi.map ρ) (mx.map ρ) nx
 | .fieldAddr t x j=>K8 T rd t (ρ x) j nx
 | .field t x j=>zlk T t (ρ x) j nx
 | .indexAddr t x i=>K7 T rd t (ρ x) (ρ i) nx
 | .index t x i=>zlj T t (ρ x) (ρ i) nx
 | .makeSlice t l c=>K6 T np rd t (ρ l) (ρ c) nx
 | .makeMap t h=>Sk T np rd t (h.map ρ) nx
 | .lookup t x i co=>Zn T eqt rd t (ρ x) (ρ i) co nx
 | .mapUpdate t x i v=>Ih T eqt np rd t (ρ x) (ρ i) (ρ v) nx
 | .insert t x i v=>Ih T eqt np rd t (ρ x) (ρ i) (ρ v) nx
 | .extract x i=>Sm (ρ x) i nx
 | .call c=>match c.callee with
  | .builtin .len=>match c.args.toList,c.argTypes.toList with
   | [x],[t]=>aLen T rd t (ρ x) nx
   | _,_=>none
  | .builtin .copy=>match c.args.toList,c.argTypes.toList with
   | [d,s],[t,_]=>aCopy T rd t (ρ d) (ρ s) nx
   | _,_=>none
  | .builtin .append=>match c.args.toList,c.argTypes.toList with
   | [s,x],[t,t']=>match Nat.beq t t' with
    | true=>Sq T np rd t (ρ s) (ρ x) nx
    | false=>none
   | _,_=>none
  | .builtin .max=>match c.args.toList with
   | [x,y]=>Sj true (ρ x) (ρ y) nx
   | _=>none
  | .builtin .min=>match c.args.toList with
   | [x,y]=>Sj false (ρ x) (ρ y) nx
   | _=>none
  | _=>none
 | _=>none
inductive AV where
 | val (k:Kd) (x:k.T)
 | ptr (k:Kd) (x:k.T)
 | fn (f:FuncId)
 | clo (f:FuncId) (k:Kd) (x:k.T)
abbrev Acc:=List Nat×List Nat×Bool
inductive RV where
 | val (k:Kd) (x:k.T)
 | own (e:Kd) (l:List e.T)
abbrev Orc (R:Type):=FuncId→List AV→(List RV→List TV→Option R)→Option R
inductive XX where
 | normal
 | exit (id:Nat)
 | ret
structure Env (R:Type) where
 T:Tab
 eqt:List Nat
 np:Nat
 nt:NT
 own:Nat→Nat→Bool
 call:Orc R
 loop:Nat→St→(XX→St→Option R)→Option R
 ins:List (Nat×Kd×Nat)
 inl:FuncId→List SV→List (Nat×Blk)→Nat→(List SV→List (Nat×Blk)→Nat→Option R)→Option R
 cands:List FnV
 yl:List SV→List (Nat×Blk)→Nat→(List (Nat×Blk)→Nat→Option R)→Option R
def R0:List (Nat×Kd×Nat)→FuncId→Option (Kd×Nat)
 | [],_=>none
 | (g,d)::l,f=>match Nat.beq g f with | true=>some d | false=>R0 l f
def G4 (nt:NT) (σ:St) (dst:Option Tmp) (sv:SV) (wr:List (Nat×Blk)) (nx:Nat):Option St:=
 match dst with
 | none=>some ⟨σ.tm,wr++σ.me,nx⟩
 | some d=>match NT.blt d nt with
  | true=>some ⟨(d,sv)::σ.tm,wr++σ.me,nx⟩
  | false=>none
def laid (wr:List (Nat×Blk)) (rd:Nat→Option Blk):Nat→Option Blk:=fun j=>match mget wr j with | some b=>some b | none=>rd j
def Ip (T:Tab) (np:Nat) (rd:Nat→Option Blk):List (SV×TypeId)→Option (List AV×List (Nat×Blk)×List Nat×List (Nat×List Step))
 | []=>some ([],[],[],[])
 | (sv,t)::l=>
  match sv with
  | .ptr b p k=>match rd b with
   | some (.var kb x _)=>match getP kb x p with
    | some ⟨k',z⟩=>match k'.same k,Ip T np rd l with
     | true,some (as,wr',acc',ps)=>some (.ptr k' z::as,wr',b::acc',(b,p)::ps)
     | _,_=>none
    | none=>none
   | _=>none
  | .fn f=>match Ip T np rd l with
   | some (as,wr',acc',ps)=>some (.fn f::as,wr',acc',ps)
   | none=>none
  | .clo f cs=>match cs with
   | [(b,k)]=>match rd b with
    | some (.var kb x _)=>match kb.same k,Ip T np rd l with
     | true,some (as,wr',acc',ps)=>some (.clo f kb x::as,wr',b::acc',(b,[])::ps)
     | _,_=>none
    | _=>none
   | _=>none
  | sv=>match tkd T t with
   | some k=>match Fe np rd sv k with
    | some (y,wr,acc)=>match Ip T np (laid wr rd) l with
     | some (as,wr',acc',ps)=>some (.val k y::as,wr'++wr,acc++acc',ps)
     | none=>none
    | none=>none
   | none=>none
def Kt (rd:Nat→Option Blk) (np:Nat):List RV→Nat→Option (List Cmp×List (Nat×Blk)×Nat)
 | [],nx=>some ([],[],nx)
 | .val k x::l,nx=>match Kt rd np l nx with
  | some (cs,wr,nx')=>some (.val k x::cs,wr,nx')
  | none=>none
 | .own e xs::l,nx=>match G9 rd nx np,Kt (laid [(nx,.row e xs 0 false)] rd) np l (nx+1) with
  | true,some (cs,wr,nx')=>some (.own nx 0::cs,wr++[(nx,.row e xs 0 false)],nx')
  | _,_=>none
def Px:List Cmp→SV
 | [.val k x]=>.val k x
 | [.own j v]=>.own j v
 | [.junk]=>.dead
 | [.mp j]=>.mp j
 | l=>.tup l
def hasN:List Nat→Nat→Bool
 | [],_=>false
 | x::l,y=>match Nat.beq x y with | true=>true | false=>hasN l y
section
variable {R:Type} (E:Env R)
def xfin (σ:St) (o:Oper) (wr:List (Nat×Blk)) (acc:List Nat) (accs:List Acc) (K:St→List Acc→Option R) (rs:List RV) (wo:List (Nat×Blk)):Option R:=
 match Kt (laid (wo++wr) (mget σ.me)) E.np rs σ.nx with
 | none=>none
 | some (cs,wn,nx')=>match G4 E.nt σ o.dst (Px cs) (wn++(wo++wr)) nx' with
  | some σ'=>K σ' (((wn++(wo++wr)).map (·.1),(wn++(wo++wr)).map (·.1)++acc,false)::accs)
  | none=>none
def Kd.noSl:Kd→Bool
 | .sl _=>false
 | .pair a b=>a.noSl&&b.noSl
 | .arr _ e=>e.noSl
 | .fn=>false
 | _=>true
def zey:List RV→Bool
 | []=>true
 | .val k _::l=>k.noSl&&zey l
 | .own _ _::_=>false
def xfinB (σ:St) (o:Oper) (acc:List Nat) (accs:List Acc) (K:St→List Acc→Option R) (rs:List RV):Option R:=
 match Kt (mget σ.me) E.np rs σ.nx with
 | some (cs,[],nx')=>match G4 E.nt σ o.dst (Px cs) [] nx' with
  | some σ'=>K σ' (([],acc,false)::accs)
  | none=>none
 | _=>none
def zrv (σ:St) (o:Oper) (f:FuncId) (c:Call) (ex:List SV) (accs:List Acc) (K:St→List Acc→Option R):Option R:=
 match Ip E.T E.np (mget σ.me) ((c.args.toList.map (opv σ.tm)).zip c.argTypes.toList++ex.map fun s=>(s,0)),Nat.beq c.args.size c.argTypes.size with
 | some (as,wr,acc,ps),true=>match ps with
  | []=>E.call f as fun rs outs=>match outs with
   | []=>match zey rs with
    | true=>xfinB E σ o acc accs K rs
    | false=>xfin E σ o wr acc accs K rs []
   | _=>none
  | [(b,p)]=>match laid wr (mget σ.me) b with
   | some (.var kb x false)=>E.call f as fun rs outs=>match outs with
    | [v]=>match setP kb x p v with
     | some x'=>xfin E σ o wr acc accs K rs [(b,.var kb x' false)]
     | none=>none
    | _=>none
   | _=>none
  | _=>none
 | _,_=>none
def capSV (p:Nat×Kd):SV:=.ptr p.1 [] p.2
def fnvF:FnV→Option (FuncId×List SV)
 | .nil=>none
 | .fn f=>some (f,[])
 | .clo f d=>some (f,[.pval .fn d])
def ze7 {R:Type} (x:FnV):List FnV→(FuncId→List SV→Option R)→Option R
 | [],_=>none
 | c::l,k=>match x.same c with
  | true=>match fnvF c with
   | some (f,ex)=>k f ex
   | none=>none
  | false=>ze7 x l k
def Sg (tm:List (Nat×SV)) (o:Oper):Option (FnV×Call):=
 match o.op with
 | .call c=>match c.callee with
  | .value x=>match opv tm x with
   | .val .fn x=>some (x,c)
   | _=>none
  | _=>none
 | _=>none
def Om (tm:List (Nat×SV)) (o:Oper):Option (FuncId×Call×List SV):=
 match o.op with
 | .call c=>match c.callee with
  | .value x=>match opv tm x with
   | .fn f=>some (f,c,[])
   | .clo f ps=>some (f,c,ps.map capSV)
   | _=>none
  | _=>none
 | _=>none
def aIns (ins:List (Nat×Kd×Nat)) (np:Nat) (rd:Nat→Option Blk) (ρ:Operand→SV) (f:FuncId) (c:Call) (nx:Nat):Option ARes:=
 match R0 ins f,c.args.toList with
 | some (e,lim),[s,ix,v]=>match ρ s,ρ ix,Fe np rd (ρ v) (.sl e),Nat.beq lim 0 with
  | .own j ver,.val (.int .i64) n,some (ys,[],[]),false=>match rd j,Nat.blt j np with
   | some (.row e' l ver' false),false=>match Nat.beq ver ver',TV.as ⟨.sl e',l⟩ (.sl e) with
    | true,some l'=>some ⟨decide (0≤n∧n≤List.length l'∧List.length l'+List.length ys≤lim),.own j (ver'+1),[(j,.row e (List.take n.toNat l'++ys++List.drop n.toNat l') (ver'+1) false)],[j],nx⟩
    | _,_=>none
   | _,_=>none
  | _,_,_,_=>none
 | some (e,lim),[s]=>match ρ s,Nat.beq lim 0 with
  | .val (.sl e') l,true=>match TV.as ⟨.sl e',l⟩ (.sl e) with
   | some l'=>some ⟨true,.cap e l',[],[],nx⟩
   | none=>none
  | _,_=>none
 | _,_=>none
def xop (rid:Nat) (σ:St) (o:Oper) (i:Nat) (accs:List Acc) (K:St→List Acc→Option R):Option R:=
 match Om σ.tm o with
 | some (f,c,ex)=>match E.own rid i with
  | false=>zrv E σ o f c ex accs K
  | true=>match ex,aIns E.ins E.np (mget σ.me) (opv σ.tm) f c σ.nx with
   | [],some r=>match r.ok with
    | true=>match G4 E.nt σ o.dst r.sv r.wr r.nx with
     | some σ'=>K σ' ((r.wr.map (·.1),r.wr.map (·.1)++r.acc,false)::accs)
     | none=>none
    | false=>none
   | _,_=>none
 | none=>
  match Sg σ.tm o with
  | some (x,c)=>match E.own rid i with
   | false=>ze7 x E.cands fun f ex=>match ex with
    | []=>zrv E σ o f c [] accs K
    | _=>none
   | true=>none
  | none=>
  match zv7 E.T E.eqt E.np (E.own rid i) (mget σ.me) (opv σ.tm) o σ.nx with
  | none=>none
  | some r=>match r.ok with
   | true=>match G4 E.nt σ o.dst r.sv r.wr r.nx with
    | some σ'=>K σ' ((r.wr.map (·.1),r.wr.map (·.1)++r.acc,false)::accs)
    | none=>none
   | false=>none
def zf5 (σ:St) (o:Oper) (accs:List Acc) (K:St→List Acc→Option R):Option R:=
 match G4 E.nt σ o.dst (.tup []) [] σ.nx with
 | some σ'=>K σ' (([],[],false)::accs)
 | none=>none
def inlF (rid:Nat) (σ:St) (o:Oper) (i:Nat):Option (FuncId×Call×List SV):=
 match o.guard with
 | some _=>none
 | none=>match E.own rid i with
  | true=>match Om σ.tm o with
   | some (f,c,ex)=>match R0 E.ins f with | none=>some (f,c,ex) | some _=>none
   | none=>none
  | false=>none
def inlG (rid:Nat) (σ:St) (o:Oper) (i:Nat):Option (FuncId×Call×List SV):=
 match E.own rid i with
 | true=>match Om σ.tm o with
  | some (f,c,ex)=>match R0 E.ins f with | none=>some (f,c,ex) | some _=>none
  | none=>none
 | false=>none
def inlV (rid:Nat) (σ:St) (o:Oper) (i:Nat):Option (FnV×Call):=
 match o.guard with
 | some _=>none
 | none=>match E.own rid i with
  | true=>Sg σ.tm o
  | false=>none
def svCmp:SV→Cmp
 | .val k x=>.val k x
 | .own j v=>.own j v
 | _=>.junk
def In:List SV→SV
 | [sv]=>sv
 | l=>.tup (l.map svCmp)
def Js (me' me:List (Nat×Blk)):List (Nat×Blk):=me'.take (Nat.sub me'.length me.length)
def ylF (rid:Nat) (σ:St) (o:Oper) (i:Nat):Option Call:=
 match E.nt.rd with
 | none=>none
 | some d=>match E.own rid i with
  | false=>none
  | true=>match o.op with
   | .call c=>match c.callee with
    | .value x=>match opv σ.tm x with
     | .yv j=>match Nat.beq j d.yi,mget σ.me j with
      | true,some (.row _ _ v _)=>match Nat.beq v 0 with
       | true=>some c
       | false=>none
      | _,_=>none
     | _=>none
    | _=>none
   | _=>none
def xops (rid:Nat) (all:Array Oper):List Oper→Nat→St→List Acc→(St→List Acc→Option R)→Option R
  | [],_,σ,accs,K=>K σ accs
  | o::rest,i,σ,accs,K=>
    match o.guard with
    | none=>match ylF E rid σ o i with
     | some c=>E.yl (c.args.toList.map (opv σ.tm)) σ.me σ.nx fun me' nx'=>match G4 E.nt ⟨σ.tm,me',nx'⟩ o.dst (.val .bool true) [] nx' with
       | some σ'=>xops rid all rest (i+1) σ' (((Js me' σ.me).map (·.1),(Js me' σ.me).map (·.1),true)::accs) K
       | none=>none
     | none=>match inlF E rid σ o i with
      | none=>match inlV E rid σ o i with
        | none=>xop E rid σ o i accs fun σ' accs'=>xops rid all rest (i+1) σ' accs' K
        | some (x,c)=>ze7 x E.cands fun f ex=>E.inl f (c.args.toList.map (opv σ.tm)++ex) σ.me σ.nx fun rs me' nx'=>match G4 E.nt ⟨σ.tm,me',nx'⟩ o.dst (In rs) [] nx' with
          | some σ'=>xops rid all rest (i+1) σ' (((Js me' σ.me).map (·.1),(Js me' σ.me).map (·.1),true)::accs) K
          | none=>none
      | some (f,c,ex)=>E.inl f (c.args.toList.map (opv σ.tm)++ex) σ.me σ.nx fun rs me' nx'=>match G4 E.nt ⟨σ.tm,me',nx'⟩ o.dst (In rs) [] nx' with
        | some σ'=>xops rid all rest (i+1) σ' (((Js me' σ.me).map (·.1),(Js me' σ.me).map (·.1),true)::accs) K
        | none=>none
    | some (j,want)=>
      match (all[j]?).bind (·.dst) with
      | none=>none
      | some d=>match tget σ.tm d with
        | .val .bool c=>match c with
          | true=>match want with
            | true=>match inlG E rid ⟨(d,.val .bool true)::σ.tm,σ.me,σ.nx⟩ o i with
              | none=>xop E rid ⟨(d,.val .bool true)::σ.tm,σ.me,σ.nx⟩ o i accs fun σ' accs'=>xops rid all rest (i+1) σ' accs' K
              | some (f,c,ex)=>E.inl f (c.args.toList.map (opv ((d,.val .bool true)::σ.tm))++ex) σ.me σ.nx fun rs me' nx'=>match G4 E.nt ⟨(d,.val .bool true)::σ.tm,me',nx'⟩ o.dst (In rs) [] nx' with
                | some σ'=>xops rid all rest (i+1) σ' (((Js me' σ.me).map (·.1),(Js me' σ.me).map (·.1),true)::accs) K
                | none=>none
            | false=>zf5 E ⟨(d,.val .bool true)::σ.tm,σ.me,σ.nx⟩ o accs fun σ' accs'=>xops rid all rest (i+1) σ' accs' K
          | false=>match want with
            | false=>xop E rid ⟨(d,.val .bool false)::σ.tm,σ.me,σ.nx⟩ o i accs fun σ' accs'=>xops rid all rest (i+1) σ' accs' K
            | true=>zf5 E ⟨(d,.val .bool false)::σ.tm,σ.me,σ.nx⟩ o accs fun σ' accs'=>xops rid all rest (i+1) σ' accs' K
        | .tup []=>zf5 E σ o accs fun σ' accs'=>xops rid all rest (i+1) σ' accs' K
        | _=>none
def zk3 (acc:List Nat) (es:List Edge):Nat:=
 es.foldl (fun s e=>match Region.binds .any e with | true=>s||| (2^e.on||| acc.getD e.on 0) | false=>s) 0
def Zl:List Oper→List Nat→List Nat
 | [],acc=>acc
 | o::l,acc=>Zl l (acc++[zk3 acc o.after.toList])
def looks (all:Array Oper) (o:Oper):List Tmp:=
 (o.op.operands.toList.filterMap fun | .tmp t=>some t | _=>none)++(match o.guard with | some (j,_)=>((all[j]?).bind (·.dst)).toList | none=>[])
def zs6 (a b:List Nat):Bool:=a.any fun x=>b.elem x
def zjm {α:Type}:List α→Bool | []=>true | _::_=>false
def Eh (all:Array Oper) (x:Oper) (ax:Acc) (y:Oper) (ay:Acc):Bool:=
 (match x.dst with | some d=> !((looks all y).elem d)&& !(y.dst==some d) | none=>true)&&
 (match y.dst with | some d=> !((looks all x).elem d) | none=>true)&&
 !(zs6 ax.1 ay.2.1)&& !(zs6 ay.1 ax.2.1)&&(!ax.2.2||zjm ay.1)&&(!ay.2.2||zjm ax.1)
def Iw (all:Array Oper) (x:Oper) (ax:Acc) (i:Nat):List Oper→List Acc→List Nat→Bool
 | y::ys,ay::ays,b::bs=>(Nat.testBit b i||Eh all x ax y ay)&&Iw all x ax i ys ays bs
 | [],_,_=>true
 | _,_,_=>false
def Qd (all:Array Oper):Nat→List Oper→List Acc→List Nat→Bool
 | i,x::xs,ax::axs,_::bs=>Iw all x ax i xs axs bs&&Qd all (i+1) xs axs bs
 | _,[],_,_=>true
 | _,_,_,_=>false
def zv4:Nat→List Oper→Bool
 | _,[]=>true
 | i,o::l=>(o.after.toList.all fun e=> !(Region.binds .any e)||Nat.blt e.on i)&&zv4 (i+1) l
def Um (ops:Array Oper) (accs:List Acc):Bool:=
 zv4 0 ops.toList&&Qd ops 0 ops.toList accs (Zl ops.toList [])
def xseq (rid:Nat) (all:Array Oper):List Oper→Nat→St→(St→Option R)→Option R
 | [],_,σ,K=>K σ
 | o::rest,i,σ,K=>match inlF E rid σ o i with
  | some (f,c,ex)=>E.inl f (c.args.toList.map (opv σ.tm)++ex) σ.me σ.nx fun rs me' nx'=>match G4 E.nt ⟨σ.tm,me',nx'⟩ o.dst (In rs) [] nx' with
   | some σ'=>xseq rid all rest (i+1) σ' K
   | none=>none
  | none=>match inlV E rid σ o i with
   | some (x,c)=>ze7 x E.cands fun f ex=>E.inl f (c.args.toList.map (opv σ.tm)++ex) σ.me σ.nx fun rs me' nx'=>match G4 E.nt ⟨σ.tm,me',nx'⟩ o.dst (In rs) [] nx' with
    | some σ'=>xseq rid all rest (i+1) σ' K
    | none=>none
   | none=>xops E rid all [o] i σ [] fun σ' _=>xseq rid all rest (i+1) σ' K
def xreg (rid:Nat) (ops:Array Oper) (draw:Bool) (σ:St) (K:St→Option R):Option R:=
 match draw with
 | false=>xseq E rid ops ops.toList 0 σ K
 | true=>xops E rid ops ops.toList 0 σ [] fun σ' accs=>match Um ops accs.reverse with
  | true=>K σ'
  | false=>none
def En:Code→Nat
 | .region id _ _=>id
 | .seq a _=>En a
 | .block _ c=>En c
 | .loop c=>En c
 | .cond _ a _=>En a
 | _=>0
def setT (tm:List (Nat×SV)):Operand→Bool→List (Nat×SV)
 | .tmp t,b=>(t,.val .bool b)::tm
 | _,_=>tm
def exec:Code→St→(XX→St→Option R)→Option R
 | .skip,σ,K=>K .normal σ
 | .region id ops d,σ,K=>xreg E id ops d σ (K .normal)
 | .seq a b,σ,K=>exec a σ fun e σ'=>match e with
  | .normal=>exec b σ' K
  | e=>K e σ'
 | .cond c t e,σ,K=>match opv σ.tm c with
  | .val .bool b=>match b with
   | true=>exec t ⟨setT σ.tm c true,σ.me,σ.nx⟩ K
   | false=>exec e ⟨setT σ.tm c false,σ.me,σ.nx⟩ K
  | _=>none
 | .block id c,σ,K=>exec c σ fun e σ'=>match e with
  | .exit i=>match Nat.beq i id with | true=>K .normal σ' | false=>K (.exit i) σ'
  | e=>K e σ'
 | .loop c,σ,K=>E.loop (En c) σ K
 | .exit id,σ,K=>K (.exit id) σ
 | .ret,σ,K=>K .ret σ
 | _,_,_=>none
def zd6:List SV→Nat→List (Nat×SV)
 | [],_=>[]
 | sv::l,i=>(i,sv)::zd6 l (i+1)
def T5 (rd:Nat→Option Blk) (tm:List (Nat×SV)):List ResultVar→Option (List SV)
 | []=>some []
 | .tmp t::l=>match T5 rd tm l with
  | some r=>some (tget tm t::r)
  | none=>none
 | .cell t ty::l=>match zli E.T rd ty (tget tm t) 0,T5 rd tm l with
  | some q,some r=>match q.ok with
   | true=>some (q.sv::r)
   | false=>none
  | _,_=>none
def xinl (body:Code) (res:List ResultVar) (n:Nat) (svs:List SV) (me:List (Nat×Blk)) (nx:Nat) (K:List SV→List (Nat×Blk)→Nat→Option R):Option R:=
 match Nat.beq svs.length n with
 | true=>exec E body ⟨zd6 svs 0,me,nx⟩ fun e σ=>match e with
  | .exit _=>none
  | _=>match T5 E (mget σ.me) σ.tm res with
   | some rs=>K rs σ.me σ.nx
   | none=>none
 | false=>none
def xres (rd:Nat→Option Blk) (tm:List (Nat×SV)):List Nat→List (ResultVar×TypeId×Bool)→Option (List RV×List (Nat×Blk))
 | _,[]=>some ([],[])
 | used,(.tmp t,ty,own)::l=>match own with
  | true=>match tget tm t with
   | .own j ver=>match hasN used j,rd j with
    | false,some (.row e xs ver' false)=>match Nat.beq ver ver',xres rd tm (j::used) l with
     | true,some (rs,wr)=>some (.own e xs::rs,wr)
     | _,_=>none
    | _,_=>none
   | _=>none
  | false=>match tkd E.T ty with
   | some k=>match Fe E.np rd (tget tm t) k with
    | some (y,wr,acc)=>match acc.any (hasN used),xres (laid wr rd) tm used l with
     | false,some (rs,wr')=>some (.val k y::rs,wr'++wr)
     | _,_=>none
    | none=>none
   | none=>none
 | used,(.cell t ty,_,own)::l=>match own with
  | false=>match zli E.T rd ty (tget tm t) 0 with
   | some r=>match r.ok,r.sv,xres rd tm used l with
    | true,.val k y,some (rs,wr)=>some (.val k y::rs,wr)
    | _,_,_=>none
   | none=>none
  | true=>match tget tm t with
   | .mptr b i k=>match Qq E.T E.np rd ty b i k 0 with
    | some r=>match r.sv with
     | .own j ver=>match hasN used j,rd j with
      | false,some (.row e xs ver' false)=>match Nat.beq ver ver',xres rd tm (j::used) l with
       | true,some (rs,wr)=>some (.own e xs::rs,wr)
       | _,_=>none
      | _,_=>none
     | _=>none
    | none=>none
   | _=>none
def Pu (rd:Nat→Option Blk):Nat→Nat→Option (List TV)
 | _,0=>some []
 | i,n+1=>match rd i with
  | some (.var k x false)=>match Pu rd (i+1) n with
   | some l=>some (⟨k,x⟩::l)
   | none=>none
  | _=>none
def M3:List AV→Nat→Nat→List (Nat×SV)→List (Nat×Blk)→List (Nat×SV)×List (Nat×Blk)
 | [],_,_,tm,me=>(tm,me)
 | .val k x::l,t,b,tm,me=>M3 l (t+1) b ((t,.val k x)::tm) me
 | .ptr k x::l,t,b,tm,me=>M3 l (t+1) (b+1) ((t,.ptr b [] k)::tm) ((b,.var k x false)::me)
 | .fn f::l,t,b,tm,me=>M3 l (t+1) b ((t,.fn f)::tm) me
 | .clo f k x::l,t,b,tm,me=>M3 l (t+1) (b+1) ((t,.clo f [(b,k)])::tm) ((b,.var k x false)::me)
def xfun (body:Code) (res:List (ResultVar×TypeId×Bool)) (as:List AV) (K:List RV→List TV→Option R):Option R:=
 match M3 as 0 0 [] [] with
 | (tm,me)=>exec E body ⟨tm,me,E.np⟩ fun e σ=>match e with
  | .exit _=>none
  | _=>match xres E (mget σ.me) σ.tm [] res with
   | none=>none
   | some (rs,wr)=>match Pu (laid wr (mget σ.me)) 0 E.np with
    | some outs=>K rs outs
    | none=>none
def Bf:List (FuncId×(List SV→List (Nat×Blk)→Nat→(List SV→List (Nat×Blk)→Nat→Option R)→Option R))→FuncId→List SV→List (Nat×Blk)→Nat→(List SV→List (Nat×Blk)→Nat→Option R)→Option R
 | []=>fun _ _ _ _ _=>none
 | (f',run)::l=>fun f svs me nx K=>match Nat.beq f' f with
  | true=>run svs me nx K
  | false=>Bf l f svs me nx K
end
def zjn:TypeDesc→Bool
 | .struct _ | .array _ _=>true
 | _=>false
def Aw (T:Tab):List Field→Nat→Kd→Bool
 | [],_,.unit=>true
 | f::fs,off,.pair a b=>Nat.beq f.offset off&&kdIs T f.type a&& !(Nat.beq a.size 0)&&Aw T fs (off+a.size) b
 | _,_,_=>false
def B6 (T:Tab):TypeDesc→Kd→Bool
 | .int a,.int b=>Kd.ikb a b
 | .bool,.bool=>true
 | .string,.str=>true
 | .array n e,.arr m k=>Nat.beq n m&&kdIs T e k
 | .slice e,.sl k=>kdIs T e k
 | .struct fs,k=>Aw T fs.toList 0 k
 | .map _ _,.mp=>true
 | .func _ _ _,.fn=>true
 | _,_=>false
def aggV:Value→Bool
 | .agg _=>true
 | _=>false
structure TyOK (P:Program) (T:Tab) (t:TypeId) (d:TyD):Prop where
 und:P.underlying t=some d.desc
 info:∃i,P.info? t=some i∧i.size=d.size∧i.bytes=d.bytes∧∀k,d.kd=some k→∃z,i.zero=some z∧z.cells=k.zcells.toArray∧aggV z=k.agg
 kd:∀k,d.kd=some k→k.size=d.size∧B6 T d.desc k=true
def Av (P:Program) (T:Tab):Prop:=∀t d,G3 T t=some d→TyOK P T t d
section
variable {P:Program} {T:Tab}
theorem Bz (hT:Av P T) {t:TypeId} {k:Kd} (h:tkd T t=some k):∃d,G3 T t=some d∧d.kd=some k∧TyOK P T t d:=by
 unfold tkd at h;cases hd:G3 T t with
 | none=>simp [hd] at h
 | some d=>simp [hd] at h; exact ⟨d,rfl,h,hT t d hd⟩
theorem Ag (hT:Av P T) {t:TypeId} {e:TypeDesc} (h:Bp T t=some e):P.underlying t=some e:=by
 unfold Bp at h;cases hd:G3 T t with
 | none=>simp [hd] at h
 | some d=>simp [hd] at h; rw [←h]; exact (hT t d hd).und
theorem Fh (hT:Av P T) {t:TypeId} {k:Kd} {e:TypeDesc} (h:tkd T t=some k) (h2:Bp T t=some e):B6 T e k=true:=by
 obtain ⟨d,h1,h3,h4⟩:=Bz hT h;simp [Bp,h1] at h2;rw [←h2]; exact (h4.kd k h3).2
theorem A2 {t:TypeId} {k:Kd} (h:kdIs T t k=true):tkd T t=some k:=by
 unfold kdIs at h;cases hk:tkd T t with
 | none=>simp [hk] at h
 | some k'=>simp [hk] at h; rw [Kd.same_eq h]
theorem Bs {fs:List Field} {off:Nat} {k:Kd} (h:Aw T fs off k=true):k.agg=true:=by
 cases fs<;>cases k<;>simp [Aw] at h<;>rfl
theorem zla (hT:Av P T) {t:TypeId} {k:Kd} (h:tkd T t=some k):∃e,P.underlying t=some e∧zjn e=k.agg:=by
 obtain ⟨d,h1,h2,h3⟩:=Bz hT h;refine ⟨d.desc,h3.und,?_⟩;have:=(h3.kd k h2).2;cases hd:d.desc<;>cases k<;>simp [hd,B6] at this<;>first | rfl | (have:=Bs this; simp [Kd.agg] at this)
theorem F3 (hT:Av P T) (w:World) {t:TypeId} {k:Kd} (h:tkd T t=some k):(isAgg t).run P w=.ok k.agg w:=by
 obtain ⟨e,h1,h2⟩:=zla hT h;unfold isAgg;simp only [Sem.run_bind,run_underlying h1,Result.andThen_ok];cases e<;>simp [zjn] at h2<;>simp [←h2]
theorem As (hT:Av P T) (w:World) {t:TypeId} {k:Kd} (h:tkd T t=some k):(sizeOf t).run P w=.ok k.size w:=by
 obtain ⟨d,h1,h2,h3⟩:=Bz hT h;obtain ⟨i,h4,h5,_⟩:=h3.info;simp [sizeOf,typeInfo,h4,h5,(h3.kd k h2).1]
theorem Ck (hT:Av P T) (w:World) {t:TypeId} {k:Kd} (h:tkd T t=some k):∃z,(zeroValue t).run P w=.ok z w∧z.cells=k.zcells.toArray:=by
 obtain ⟨d,h1,h2,h3⟩:=Bz hT h;obtain ⟨i,h4,_,_,h6⟩:=h3.info;obtain ⟨z,h7,h8,_⟩:=h6 k h2;exact ⟨z,by simp [zeroValue,typeInfo,h4,h7],h8⟩
theorem zrp {k:Kd} {z:Value} (h:z.cells=k.zcells.toArray) (h2:aggV z=k.agg):z=k.mkV k.zcells:=by
 unfold Kd.mkV;cases ha:k.agg with
 | true=>
  rw [ha] at h2;cases z<;>simp [aggV] at h2
  simp only [Value.cells] at h;rw [if_pos rfl,h]
 | false=>
  rw [ha] at h2;have hz:z.cells=#[z]:=by cases z<;>first | rfl | simp [aggV] at h2
  rw [hz] at h;have hl:k.zcells=[z]:=by
   have:=congrArg Array.toList h;simpa using this.symm
  rw [hl]; rfl
theorem zgu (hT:Av P T) (w:World) {t:TypeId} {k:Kd} (h:tkd T t=some k):(zeroValue t).run P w=.ok (k.mkV k.zcells) w:=by
 obtain ⟨d,h1,h2,h3⟩:=Bz hT h;obtain ⟨i,h4,_,_,h6⟩:=h3.info;obtain ⟨z,h7,h8,h9⟩:=h6 k h2;rw [←zrp h8 h9];simp [zeroValue,typeInfo,h4,h7]
theorem add_eq (g off n:Nat):(⟨g,off,none⟩:Addr).add n=⟨g,off+n,none⟩:=by unfold Addr.add; split<;>simp_all
theorem Dm (hT:Av P T) {S:Nat→Prop} {w:World} {t:TypeId} {k:Kd} {x:k.T} (h:tkd T t=some k) {g off:Nat} {c:Array Value} {ty:TypeId} {fr:Nat×Nat}
  (hc:w.heap[g]?=some (.cells c ty fr)) {cs:List Value} (hl:∀j v,cs[j]?=some v→c[off+j]?=some v) (hr:Rd S w k x cs):
  (loadVar t ⟨g,off,none⟩).run P w=.ok (k.mkV cs) w:=by
 have hcell:∀j v,cs[j]?=some v→w.cell? ((⟨g,off,none⟩:Addr).add j)=some v:=fun j v hj=>by
  rw [add_eq,cell_of_row w g (off+j) c ty fr hc]; exact hl j v hj
 unfold loadVar;simp only [Sem.run_bind,F3 hT w h,Result.andThen_ok]
 by_cases ha:k.agg=true
 ·have hlc:=run_loadCells_list (P:=P) w ⟨g,off,none⟩ cs hcell
  rw [Rd.length k x cs hr] at hlc;simp [ha,As hT w h,hlc,Kd.mkV]
 ·have hlen:=Rd.length k x cs hr
  have h1:k.size=1:=by cases k<;>simp [Kd.agg] at ha<;>rfl
  rw [h1] at hlen;obtain ⟨v,rfl⟩:=List.length_eq_one_iff.1 hlen;have:=hcell 0 v rfl;rw [add_eq,Nat.add_zero] at this;simp [ha,run_load,this,Kd.mkV]
theorem Dl {c:Array Value} {off n:Nat} {cs:List Value} (h:(c.toList.drop off).take n=cs):∀j v,cs[j]?=some v→c[off+j]?=some v:=by
 intro j v hj;rw [←h,List.getElem?_take] at hj;split at hj
 ·rw [List.getElem?_drop] at hj; simpa using hj
 ·cases hj
theorem zgr {c:Array Value} {off n:Nat} {c1 c2 c3:List Value} (h:(c.toList.drop off).take n=c1++c2++c3):∀j v,c2[j]?=some v→c[off+c1.length+j]?=some v:=by
 intro j v hj;have:=Dl h (c1.length+j) v (by
  rw [List.append_assoc,List.getElem?_append_right (by omega),List.getElem?_append_left (by
   have:=(List.getElem?_eq_some_iff.1 (show c2[j]?=some v from hj)).1; omega)]
  simpa using hj)
 rw [←this]; congr 1; omega
theorem Tz (hT:Av P T) {S:Nat→Prop} {w:World} {t:TypeId} {k:Kd} {x:k.T} (h:tkd T t=some k) {g off:Nat} {c:Array Value} {ty:TypeId}
  (hc:w.heap[g]?=some (.cells c ty (0,0))) {cs:List Value} (hr:Rd S w k x cs) (hfit:off+k.size≤c.size):
  (storeVar t ⟨g,off,none⟩ (k.mkV cs)).run P w=.ok () (w.setRow g (c.toList.take off++cs++c.toList.drop (off+cs.length)).toArray):=by
 have hlen:=Rd.length k x cs hr;unfold storeVar;have hst:=run_storeCells_at P g off ty cs 0 c w hc (by omega) (Rd.one k x cs hr);simp only [Nat.add_zero] at hst;simp [As hT w h,hr.cells,hlen,hst]
end
def Runs (P:Program) (o:Oper) (a:Act) (w:World) (post:Value→World→Prop):Prop:=
 match (execOp a.eval o).run P w with
 | .ok (.value v) w'=>post v w'
 | .ok .skip w'=>post undef w'
 | .ok (.enter f args) w'=>Calls P f args w' fun
  | .returned v,w''=>post v w''
  | _,_=>False
 | .ok (.round l f tmps as bd) w'=>RoundIn Fence.wide 0 P l f tmps as bd w' fun
  | .returned v,w''=>post v w''
  | _,_=>False
 | _=>False
abbrev fen:Option Nat→Fence
 | none=>.wide
 | some l=>Fence.wide.inRound l
abbrev Code.wpr (ρ:Option Nat) (P:Program) (c:Code) (Q:Exit→Act→World→Prop) (a:Act) (w:World):Prop:=c.wpIn (fen ρ) 0 P Q a w
theorem zw9 (ρ:Option Nat) (f:FuncId):(fen ρ).fn f:=by cases ρ<;>trivial
theorem zj1 {ρ:Option Nat} {n:Nat} {P:Program} {f:FuncId} {args:Array Value} {w:World} {R:Ending→World→Prop} (h:Calls P f args w R):CallsIn (fen ρ) n P f args w R:=by
 have h':CallsIn Fence.wide n P f args w R:=callsIn_wide.2 h;cases ρ with
 | none=>exact h'
 | some l=>exact h'
theorem U1 (ρ:Option Nat):(fen ρ).depth.isSome=true→1≤0:=by cases ρ<;>intro h<;>cases h
theorem zj0 (ρ:Option Nat):(fen ρ).round=ρ:=by cases ρ<;>rfl
theorem ze0 {ρ:Option Nat} {P:Program} {l:Nat} {f:FuncId} {tmps:Array Value} {as bd:Code} {w:World} {R:Ending→World→Prop} (h:RoundIn Fence.wide 0 P l f tmps as bd w R):RoundIn (fen ρ) (0 - 1) P l f tmps as bd w R:=by cases ρ<;>exact h
theorem Runs.wp {P:Program} {o:Oper} {a:Act} {w:World} {post:Value→World→Prop} (h:Runs P o a w post) {ρ:Option Nat} {K:Act→World→Prop} {Q:Exit→Act→World→Prop}
  (hk:∀v w',post v w'→K (a.put o.dst v) w'):o.wpIn (fen ρ) 0 P a w K Q:=by
 unfold Runs at h;refine ⟨fun _ _=>zw9 ρ _,?_⟩;have hd:(o.semAt (fen ρ).round a.eval).run P w=(execOp a.eval o).run P w:=by
  rw [zj0];cases ρ with
  | none=>rw [Oper.semAt_none]
  | some l=>
   rw [Oper.semAt_some l a.eval o];intro c hc;unfold execOp at h;simp only [hc] at h
   revert h
   simp only [Sem.run_bind];generalize (resolve a.eval c o.type).run P w=r;intro h;cases r with
   | ok d w'=>simp [Sem.run_pure] at h
   | halt x w'=>exact h
 rw [hd];generalize (execOp a.eval o).run P w=r at*;cases r with
 | ok n w'=>
  cases n<;>simp only [Oper.uponIn] at h ⊢<;>first | exact hk _ _ h | exact h.elim | skip
  ·exact ⟨U1 ρ,zj1 (h.mono fun e w'' he=>by
    cases e<;>first | exact hk _ _ he | exact he.elim)⟩
  ·exact ⟨U1 ρ,ze0 (h.mono fun e w'' he=>by
    cases e<;>first | exact hk _ _ he | exact he.elim)⟩
 | halt x w'=>exact h.elim
theorem Runs.value {P:Program} {o:Oper} {a:Act} {w w':World} {post:Value→World→Prop} {v:Value} (h:(execOp a.eval o).run P w=.ok (.value v) w') (hp:post v w'):Runs P o a w post:=by
 unfold Runs; rw [h]; exact hp
theorem Runs.skip {P:Program} {o:Oper} {a:Act} {w w':World} {post:Value→World→Prop} (h:(execOp a.eval o).run P w=.ok .skip w') (hp:post undef w'):Runs P o a w post:=by
 unfold Runs; rw [h]; exact hp
def Cs (C:Ctx) (tm:Nat→SV) (me:Nat→Option Blk) (sv:SV) (wr:List (Nat×Blk)) (a:Act) (v:Value) (w':World):Prop:=
 ∃pl' S',Inv C tm (laid wr me) pl' S' a w'∧G S' w' (laid wr me) pl' sv v
theorem Kr {i j:Nat} (h:i≠j):Nat.beq i j=false:=by
 cases hb:Nat.beq i j with
 | false=>rfl
 | true=>exact absurd (Nat.eq_of_beq_eq_true hb) h
theorem Ad (me:Nat→Option Blk):laid [] me=me:=by funext j; rfl
theorem Ae (i:Nat) (b:Blk) (wr:List (Nat×Blk)) (me:Nat→Option Blk):laid ((i,b)::wr) me=upd (laid wr me) i (some b):=by
 funext j
 simp only [laid,mget,upd]
 by_cases h:i=j
 ·subst h; simp
 ·have:Nat.beq i j=false:=Kr h
  simp only [this]; rw [if_neg (fun e=>h e.symm)]
theorem Bc (w1 w2:List (Nat×Blk)) (me:Nat→Option Blk):laid (w1++w2) me=laid w1 (laid w2 me):=by
 induction w1 with
 | nil=>rw [List.nil_append,Ad]
 | cons p l ih=>obtain ⟨i,b⟩:=p; rw [List.cons_append,Ae,Ae,ih]
theorem Cf (w1 w2:List (Nat×Blk)):mget (w1++w2)=laid w1 (mget w2):=by
 induction w1 with
 | nil=>rw [List.nil_append,Ad]
 | cons p l ih=>
  obtain ⟨i,b⟩:=p;rw [List.cons_append,Ae,←ih]
  funext j
  simp only [mget,upd]
  by_cases h:i=j
  ·subst h; simp
  ·have:Nat.beq i j=false:=Kr h
   simp only [this]; rw [if_neg (fun e=>h e.symm)]
theorem Bt (i:Nat) (s:SV) (l:List (Nat×SV)):tget ((i,s)::l)=upd (tget l) i s:=by
 funext j
 simp only [tget,upd]
 by_cases h:i=j
 ·subst h; simp
 ·have:Nat.beq i j=false:=Kr h
  simp only [this]; rw [if_neg (fun e=>h e.symm)]
section
variable {C:Ctx} {tm:Nat→SV} {me:Nat→Option Blk} {pl:Nat→Plc} {S:Nat→Prop} {a:Act} {w:World}
theorem Inv.shutVar (h:Inv C tm me pl S a w) {i:Nat} {k:Kd} {x:k.T} {sh:Bool} (hi:me i=some (.var k x sh)) (hnp:C.pp.length≤i):
  ∃S',Inv C tm (upd me i (some (.var k x true))) pl S' a w∧Keeps S w me pl S' w (upd me i (some (.var k x true))) pl∧(∀g,(pl i).g=some g→S' g):=by
 have hb:=h.mem i _ hi;obtain ⟨g,c,t,hg,hc,hsz,hr,hsh⟩:=hb;have hS:∀b,S b→S b∨b=g:=fun b hb=>.inl hb
 have hK:Keeps S w me pl (fun b=>S b∨b=g) w (upd me i (some (.var k x true))) pl:=by
  refine ⟨fun b hb=>⟨.inl hb,rfl⟩,fun j bj hj=>?_⟩
  by_cases e:j=i
  ·subst e; rw [hi] at hj; cases hj; exact ⟨.var k x true,by simp,⟨rfl,rfl⟩⟩
  ·exact ⟨bj,by rw [Ac _ _ e]; exact hj,Compat.refl _ _⟩
 refine ⟨fun b=>S b∨b=g,⟨h.nt,h.df,fun t'=>(h.tms t').keeps hK,fun j bj hj=>?_,fun j bj hj=>?_,fun j1 j2 b1 b2 g' hne hj1 hj2 hg'=>?_,fun b hb=>.inl (h.s0 b hb),fun b hb=>?_,h.fr,h.pd,fun sv v hg=>(h.gho sv v hg).keeps hK⟩,hK,fun g' hg'=>by rw [hg] at hg'; cases hg'; exact .inr rfl⟩
 ·by_cases e:j=i
  ·subst e; simp only [Ah,Option.some.injEq] at hj; subst hj
   exact ⟨g,c,t,hg,hc,hsz,Rd.mono hK.s k x _ hr,by simp⟩
  ·rw [Ac _ _ e] at hj
   have hne:∀gj,(pl j).g=some gj→gj≠g:=fun gj hgj e'=>by subst e'; exact h.dis j i bj _ gj e hj hi hgj hg
   exact (h.mem j bj hj).keeps hK (fun _ _=>rfl) (fun gj hgj _=>by simp [hne gj hgj])
 ·by_cases e:j=i
  ·subst e; simp only [Ah,Option.some.injEq] at hj; subst hj
   intro g' hg';rcases h.plcs j _ hi g' hg' with h1 | ⟨_,h1⟩
   ·exact .inl h1
   ·exact .inr ⟨⟨k,x,true,rfl⟩,h1⟩
  ·rw [Ac _ _ e] at hj; exact h.plcs j bj hj
 ·have q1:∃b,me j1=some b:=by
   by_cases e1:j1=i
   ·exact ⟨_,e1 ▸ hi⟩
   ·rw [Ac _ _ e1] at hj1; exact ⟨_,hj1⟩
  have q2:∃b,me j2=some b:=by
   by_cases e1:j2=i
   ·exact ⟨_,e1 ▸ hi⟩
   ·rw [Ac _ _ e1] at hj2; exact ⟨_,hj2⟩
  obtain ⟨b1',q1⟩:=q1;obtain ⟨b2',q2⟩:=q2;exact h.dis j1 j2 b1' b2' g' hne q1 q2 hg'
 ·rcases hb with hb | rfl
  ·exact h.sfr b hb
  ·refine ⟨(Array.getElem?_eq_some_iff.1 hc).1,.inr ?_⟩
   rcases h.plcs i _ hi b hg with ⟨h1,_⟩ | ⟨_,h1⟩
   ·exact h1.or
   ·have:=(List.getElem?_eq_some_iff.1 h1).1; omega
theorem Inv.shutRow (h:Inv C tm me pl S a w) {i:Nat} {e:Kd} {l:List e.T} {v:Nat} {sh:Bool} (hi:me i=some (.row e l v sh)) (_:C.pp.length≤i∨True):
  ∃S',Inv C tm (upd me i (some (.row e l v true))) pl S' a w∧Keeps S w me pl S' w (upd me i (some (.row e l v true))) pl∧(∀g,(pl i).g=some g→S' g):=by
 have hb:=h.mem i _ hi;have hK:Keeps S w me pl (fun b=>S b∨(pl i).g=some b) w (upd me i (some (.row e l v true))) pl:=by
  refine ⟨fun b hb=>⟨.inl hb,rfl⟩,fun j bj hj=>?_⟩
  by_cases ee:j=i
  ·subst ee; rw [hi] at hj; cases hj; exact ⟨.row e l v true,by simp,⟨rfl,Nat.le_refl _,fun _=>⟨rfl,rfl⟩⟩⟩
  ·exact ⟨bj,by rw [Ac _ _ ee]; exact hj,Compat.refl _ _⟩
 refine ⟨fun b=>S b∨(pl i).g=some b,⟨h.nt,h.df,fun t'=>(h.tms t').keeps hK,fun j bj hj=>?_,fun j bj hj=>?_,fun j1 j2 b1 b2 g' hne hj1 hj2 hg'=>?_,fun b hb=>.inl (h.s0 b hb),fun b hb=>?_,h.fr,h.pd,fun sv v hg=>(h.gho sv v hg).keeps hK⟩,hK,fun g' hg'=>.inr hg'⟩
 ·by_cases ee:j=i
  ·subst ee; simp only [Ah,Option.some.injEq] at hj; subst hj
   rcases hb with h1 | ⟨gj,cj,tj,h1,h1',h2,h3,h3',h4,h5,h6⟩
   ·exact .inl h1
   ·exact .inr ⟨gj,cj,tj,h1,h1',h2,h3,h3',h4,RdL.imp (fun x cs hx=>Rd.mono hK.s e x cs hx) h5,by simp [h1]⟩
  ·rw [Ac _ _ ee] at hj
   have hne:∀gj,(pl j).g=some gj→¬(pl i).g=some gj:=fun gj hgj e'=>h.dis j i bj _ gj ee hj hi hgj e'
   exact (h.mem j bj hj).keeps hK (fun _ _=>rfl) (fun gj hgj _=>by simp [hne gj hgj])
 ·by_cases ee:j=i
  ·subst ee; simp only [Ah,Option.some.injEq] at hj; subst hj
   intro g' hg';rcases h.plcs j _ hi g' hg' with h1 | ⟨⟨k,x,s,h0⟩,_⟩
   ·exact .inl h1
   ·cases h0
  ·rw [Ac _ _ ee] at hj; exact h.plcs j bj hj
 ·have q1:∃b,me j1=some b:=by
   by_cases e1:j1=i
   ·exact ⟨_,e1 ▸ hi⟩
   ·rw [Ac _ _ e1] at hj1; exact ⟨_,hj1⟩
  have q2:∃b,me j2=some b:=by
   by_cases e1:j2=i
   ·exact ⟨_,e1 ▸ hi⟩
   ·rw [Ac _ _ e1] at hj2; exact ⟨_,hj2⟩
  obtain ⟨b1',q1⟩:=q1;obtain ⟨b2',q2⟩:=q2;exact h.dis j1 j2 b1' b2' g' hne q1 q2 hg'
 ·rcases hb with hb | hb
  ·exact h.sfr b hb
  ·refine ⟨?_,.inr ?_⟩
   ·rcases h.mem i _ hi with h1 | ⟨gj,cj,tj,h1,h1',h2,_⟩
    ·rw [hb] at h1; cases h1.1
    ·rw [hb] at h1; cases h1; exact (Array.getElem?_eq_some_iff.1 h2).1
   ·rcases h.plcs i _ hi b hb with ⟨h1,_⟩ | ⟨⟨k,x,s,h0⟩,_⟩
    ·exact h1.or
    ·cases h0
end
section
variable {C:Ctx} {tm:Nat→SV} {me:Nat→Option Blk} {pl:Nat→Plc} {S:Nat→Prop} {a:Act} {w:World}
theorem RdL.window {α:Type} {R:α→List Value→Prop} {sz:Nat} (hn:∀x cs,R x cs→cs.length=sz) {l:List α} {cs:List Value} (h:RdL R l cs) (lo n:Nat):
  RdL R ((l.drop lo).take n) ((cs.drop (lo*sz)).take (n*sz)):=by
 have aux:∀(n:Nat) (l:List α) (cs:List Value),RdL R l cs→RdL R (l.take n) (cs.take (n*sz))∧RdL R (l.drop n) (cs.drop (n*sz)):=by
  intro n l cs h
  by_cases hle:n≤l.length
  ·have h':RdL R (l.take n++l.drop n) cs:=by rw [List.take_append_drop]; exact h
   obtain ⟨c1,c2,e,h1,h2⟩:=RdL.split h';have hl:=RdL.length hn h1;rw [List.length_take,Nat.min_eq_left hle] at hl;subst e;rw [←hl];simp [h1,h2]
  ·have hl:=RdL.length hn h
   have hle':l.length≤n:=by omega
   have hcs:cs.length≤n*sz:=by rw [hl]; exact Nat.mul_le_mul_right _ hle'
   rw [List.take_of_length_le hle',List.take_of_length_le hcs,List.drop_eq_nil_of_le hle',List.drop_eq_nil_of_le hcs];exact ⟨h,rfl⟩
 exact (aux n _ _ (aux lo _ _ h).2).1
theorem Iu {α:Type} {c:List α} {off n:Nat} {c1 c2 c3:List α} (h:(c.drop off).take n=c1++c2++c3) (x y:Nat) (hxy:x+y≤c2.length):
  (c.drop (off+c1.length+x)).take y=(c2.drop x).take y:=by
 have hn:c1.length+c2.length≤n:=by
  have:=congrArg List.length h;simp at this; omega
 have e1:c.drop (off+c1.length+x)=(c.drop off).drop (c1.length+x):=by rw [List.drop_drop]; congr 1; omega
 have e2:((c.drop off).drop (c1.length+x)).take y=(((c.drop off).take n).drop (c1.length+x)).take y:=by
  rw [List.drop_take,List.take_take,Nat.min_eq_left (by omega)]
 rw [e1,e2,h,List.append_assoc,←List.drop_drop,List.drop_left];rw [List.drop_append_of_le_length (by omega),List.take_append_of_le_length (by simp; omega)]
theorem Inv.atPath (h:Inv C tm me pl S a w) {b:Nat} {kb k:Kd} {x:kb.T} {z:k.T} {sh:Bool} {p:List Step} {o:Nat} {k':Kd} (hm:me b=some (.var kb x sh))
  (hok:kb.okP p) (hoff:kb.offP p=some (o,k')) (hg:getP kb x p=some ⟨k,z⟩):k'=k∧∃g c t c1 c2 c3,(pl b).g=some g∧w.heap[g]?=some (.cells c t (0,0))∧
   (pl b).off+kb.size≤c.size∧(c.toList.drop (pl b).off).take kb.size=c1++c2++c3∧c1.length=o∧Rd S w k z c2∧(sh=true↔S g)∧
   (∀(y:k.T),∃z,setP kb x p ⟨k,y⟩=some z∧∀(S':Nat→Prop) (w':World) c2',(∀b,S b→S' b∧w'.heap[b]?=w.heap[b]?)→Rd S' w' k y c2'→Rd S' w' kb z (c1++c2'++c3)):=by
 obtain ⟨g,c,t,h1,h2,h3,h4,h5⟩:=h.mem b _ hm;obtain ⟨o',e,c1,c2,c3,e2,hl,hr,hset⟩:=lensP p kb x _ k z h4 hok hg;rw [hoff] at e;cases e;exact ⟨rfl,g,c,t,c1,c2,c3,h1,h2,h3,e2,hl,hr,h5,hset⟩
theorem Bo {np:Nat} (hnp:np=C.pp.length) {rd:Nat→Option Blk} {sv:SV} {k:Kd} {y:k.T} {wr:List (Nat×Blk)} {acc:List Nat} {v:Value}
  (h:Fe np rd sv k=some (y,wr,acc)) (hacc:∀i∈acc,me i=rd i) (hI:Inv C tm me pl S a w) (hG:G S w me pl sv v):
  ∃S',Inv C tm (laid wr me) pl S' a w∧Keeps S w me pl S' w (laid wr me) pl∧VRd S' w k y v:=by
 have refl:Keeps S w me pl S w me pl:=⟨fun _ hb=>⟨hb,rfl⟩,fun i b hi=>⟨b,hi,Compat.refl _ _⟩⟩
 cases sv<;>simp only [Fe] at h<;>try (cases h; done)
 case nil=>
  cases k<;>simp only [reduceCtorEq] at h
  simp only [Option.some.injEq,Prod.mk.injEq] at h;obtain ⟨rfl,rfl,rfl⟩:=h;exact ⟨S,by rw [Ad]; exact hI,by rw [Ad]; exact refl,VRd.sl.2 (.inl ⟨hG,rfl⟩)⟩
 case val k' x=>
  split at h
  ·rename_i y' hy
   simp only [Option.some.injEq,Prod.mk.injEq] at h;obtain ⟨rfl,rfl,rfl⟩:=h;have:=TV.as_some hy;cases this;exact ⟨S,by rw [Ad]; exact hI,by rw [Ad]; exact refl,hG⟩
  ·cases h
 case own j ver=>
  split at h<;>try (cases h; done)
  rename_i e l ver' sh hb hrd;split at h<;>try (cases h; done)
  rename_i y' hv hy;simp only [Option.some.injEq,Prod.mk.injEq] at h;obtain ⟨rfl,rfl,rfl⟩:=h;have hm:me j=some (.row e l ver' sh):=by rw [hacc j (by simp)]; exact hrd
  have hjn:C.pp.length≤j:=by
   subst hnp;rcases Nat.lt_or_ge j C.pp.length with h1 | h1
   ·have:Nat.blt j C.pp.length=true:=by simpa [Nat.blt_eq] using h1
    rw [this] at hb; cases hb
   ·exact h1
  obtain ⟨S',h1,h2,h3⟩:=hI.shutRow hm (.inl hjn);rw [Ae,Ad];refine ⟨S',h1,h2,?_⟩;have:=TV.as_some hy;cases this;obtain ⟨e',l',ver2,sh',hm',hle,hrow⟩:=hG;rw [hm] at hm';cases hm';have hrow:=hrow (Nat.eq_of_beq_eq_true hv).symm;have hblk:=h1.mem j (.row e l ver' true) (Ah me j _);refine VRd.sl.2 ?_;rcases hrow with ⟨hg,rfl⟩ | ⟨g,hg,rfl⟩
  ·rcases hblk with ⟨_,hl,_⟩ | ⟨g,c,t,hg',_⟩
   ·exact .inl ⟨rfl,hl⟩
   ·rw [hg] at hg'; cases hg'
  ·rcases hblk with ⟨hg',hl,_⟩ | ⟨g',c,t,hg',h4,h5,h6,h7,h8,h9,h10⟩
   ·rw [hg] at hg'; cases hg'
   ·rw [hg] at hg'
    cases hg';exact .inr (.inl ⟨g,0,_,c,t,_,rfl,h6,h3 g hg,h5,by simpa using h9⟩)
 case win j ver lo n=>
  split at h<;>try (cases h; done)
  rename_i e l ver' sh hb hrd;split at h<;>try (cases h; done)
  rename_i y' hv hy;simp only [Option.some.injEq,Prod.mk.injEq] at h;obtain ⟨rfl,rfl,rfl⟩:=h;have hm:me j=some (.row e l ver' sh):=by rw [hacc j (by simp)]; exact hrd
  have hjn:C.pp.length≤j:=by
   subst hnp;rcases Nat.lt_or_ge j C.pp.length with h1 | h1
   ·have:Nat.blt j C.pp.length=true:=by simpa [Nat.blt_eq] using h1
    rw [this] at hb; cases hb
   ·exact h1
  obtain ⟨S',h1,h2,h3⟩:=hI.shutRow hm (.inl hjn);rw [Ae,Ad];refine ⟨S',h1,h2,?_⟩;have:=TV.as_some hy;cases this;obtain ⟨e',l',ver2,sh',hm',hle,hrow⟩:=hG;rw [hm] at hm';cases hm';obtain ⟨hlen,hwin⟩:=hrow (Nat.eq_of_beq_eq_true hv).symm;have hblk:=h1.mem j (.row e l ver' true) (Ah me j _);have hll:(List.take n (List.drop lo l)).length=n:=by simp; omega
  refine VRd.sl.2 ?_;rcases hwin with ⟨hg,rfl,hn0⟩ | ⟨g,o,cap,hg,rfl,hcap,ho⟩
  ·subst hn0; exact .inl ⟨rfl,by simp⟩
  ·rcases hblk with ⟨hg',hl,_⟩ | ⟨g',c,t,hg',h4,h5,h6,h7,h8,h9,h10⟩
   ·rw [hg] at hg'; cases hg'
   ·rw [hg] at hg'
    cases hg';refine .inr (.inl ⟨g,o,cap,c,t,_,by rw [hll],by rw [hll]; exact hcap,h3 g hg,h5,?_⟩);rw [hll];rcases ho with rfl | rfl
    ·simp [RdL]
    ·have:=RdL.window (Rd.length e) h9 lo n
     rw [Nat.zero_add];rw [List.drop_take,List.take_take] at this
     rwa [Nat.min_eq_left (by rw [←Nat.mul_sub_right_distrib]; exact Nat.mul_le_mul_right _ (by omega))] at this
 case asl b p lo n=>
  split at h<;>try (cases h; done)
  rename_i kb x sh hb hrd;split at h<;>try (cases h; done)
  rename_i m e l hget;split at h<;>try (cases h; done)
  rename_i y' hy;simp only [Option.some.injEq,Prod.mk.injEq] at h;obtain ⟨rfl,rfl,rfl⟩:=h;have hm:me b=some (.var kb x sh):=by rw [hacc b (by simp)]; exact hrd
  have hjn:C.pp.length≤b:=by
   subst hnp;rcases Nat.lt_or_ge b C.pp.length with h1 | h1
   ·have:Nat.blt b C.pp.length=true:=by simpa [Nat.blt_eq] using h1
    rw [this] at hb; cases hb
   ·exact h1
  obtain ⟨S',h1,h2,h3⟩:=hI.shutVar hm hjn;rw [Ae,Ad];refine ⟨S',h1,h2,?_⟩;have:=TV.as_some hy;cases this;obtain ⟨kb',x',sh',o,m',e',hm',hok,hoff,hln,hgs,hwin⟩:=hG;rw [hm] at hm';cases hm';obtain ⟨ek,g,c,t,c1,c2,c3,hg,hc,hsz,hseg,hl1,hr2,_⟩:=h1.atPath (Ah me b (some (.var kb x true))) hok hoff hget;cases ek;obtain ⟨hlm,hrl⟩:=hr2;have hll:(List.take n (List.drop lo l)).length=n:=by simp; omega
  refine VRd.sl.2 ?_;rcases hwin with ⟨hg',rfl,hn0⟩ | ⟨g',o',cap,hg',rfl,hcap,ho⟩
  ·subst hn0; exact .inl ⟨rfl,by simp⟩
  ·rw [hg] at hg'
   cases hg';refine .inr (.inl ⟨g,o',cap,c,t,_,by rw [hll],by rw [hll]; exact hcap,h3 g hg,hc,?_⟩);rw [hll];rcases ho with rfl | rfl
   ·simp [RdL]
   ·have h9:=RdL.window (Rd.length e) hrl lo n
    have hc2:=RdL.length (Rd.length e) hrl;rw [←hl1,Iu hseg (lo*e.size) (n*e.size) (by rw [hc2,←Nat.add_mul]; exact Nat.mul_le_mul_right _ (by omega))];exact h9
 case fn f=>
  cases k<;>simp only [reduceCtorEq] at h
  simp only [Option.some.injEq,Prod.mk.injEq] at h;obtain ⟨rfl,rfl,rfl⟩:=h;exact ⟨S,by rw [Ad]; exact hI,by rw [Ad]; exact refl,VRd.fn.2 hG⟩
 case clo f ps=>
  split at h<;>try (cases h; done)
  rename_i b kc;split at h<;>try (cases h; done)
  rename_i kb x sh hb hrd;split at h<;>try (cases h; done)
  rename_i y' hy;simp only [Option.some.injEq,Prod.mk.injEq] at h;obtain ⟨rfl,rfl,rfl⟩:=h;have hm:me b=some (.var kb x sh):=by rw [hacc b (by simp)]; exact hrd
  have hjn:C.pp.length≤b:=by
   subst hnp;rcases Nat.lt_or_ge b C.pp.length with h1 | h1
   ·have:Nat.blt b C.pp.length=true:=by simpa [Nat.blt_eq] using h1
    rw [this] at hb; cases hb
   ·exact h1
  have:=TV.as_some hy;cases this;obtain ⟨S',h1,h2,h3⟩:=hI.shutVar hm hjn;rw [Ae,Ad];refine ⟨S',h1,h2,VRd.fn.2 ?_⟩;obtain ⟨vs,rfl,x2,sh2,g,vs',rfl,hm2,hg,hnil⟩:=hG;have hnil':vs'=[]:=hnil;subst hnil';obtain ⟨g',c,t,hg',hc,hsz,⟨u,hu,hr⟩,_⟩:=h1.mem b _ (Ah me b (some (.var .fn y' true)));rw [hg] at hg';cases hg';exact ⟨g,_,c,t,_,u,rfl,h3 g hg,hc,hu,hr⟩
end
section
variable {C:Ctx} {tm:Nat→SV} {me:Nat→Option Blk} {pl:Nat→Plc} {S:Nat→Prop} {a:Act} {w:World} {P:Program} {T:Tab}
theorem zfc (hI:Inv C tm me pl S a w) {sv:SV} {v:Value} (hG:G S w me pl sv v):Cs C tm me sv [] a v w:=
 ⟨pl,S,by rw [Ad]; exact ⟨hI,hG⟩⟩
theorem Ar {a b:Kd} (h:a.same b=true):a=b:=Kd.same_eq h
theorem Nv {α:Type} {C:List α} {off n:Nat} {c1 c2 c3 c2':List α} (h:(C.drop off).take n=c1++c2++c3) (hn:off+n≤C.length) (hl:c2'.length=c2.length):
  C.take (off+c1.length)++c2'++C.drop (off+c1.length+c2'.length)=C.take off++(c1++c2'++c3)++C.drop (off+n):=by
 have hlen:n=c1.length+c2.length+c3.length:=by
  have:=congrArg List.length h;simp at this; omega
 have e0:C=C.take off++(c1++c2++c3)++C.drop (off+n):=by
  rw [←h,←List.drop_drop,List.append_assoc,List.take_append_drop,List.take_append_drop]
 have e1:C.take (off+c1.length)=C.take off++c1:=by
  have hto:(C.take off).length=off:=by simp; omega
  conv=>lhs; rw [e0]
  simp only [List.append_assoc];rw [←List.append_assoc,List.take_append_of_le_length (by simp [hto]),List.take_of_length_le (by simp [hto])]
 have e2:C.drop (off+c1.length+c2'.length)=c3++C.drop (off+n):=by
  have hto:(C.take off++c1++c2).length=off+c1.length+c2'.length:=by simp; omega
  have e3:C=(C.take off++c1++c2)++(c3++C.drop (off+n)):=by
   conv=>lhs; rw [e0]
   simp only [List.append_assoc]
  conv=>lhs; rw [e3,←hto]
  rw [List.drop_left]
 rw [e1,e2];simp only [List.append_assoc]
theorem Hf {α:Type} {C X:List α} {off n:Nat} (hn:off+n≤C.length) (hX:X.length=n):
  ((C.take off++X++C.drop (off+n)).length=C.length)∧((C.take off++X++C.drop (off+n)).take off=C.take off)∧
  ((C.take off++X++C.drop (off+n)).drop (off+n)=C.drop (off+n))∧(((C.take off++X++C.drop (off+n)).drop off).take n=X):=by
 have hto:(C.take off).length=off:=by simp; omega
 refine ⟨by simp; omega,?_,?_,?_⟩
 ·rw [List.append_assoc,List.take_append_of_le_length (by omega),List.take_of_length_le (by omega)]
 ·rw [show off+n=(C.take off++X).length by simp; omega,List.drop_left]
 ·rw [List.append_assoc,List.drop_append_of_le_length (by omega),List.drop_of_length_le (by omega),List.nil_append,List.take_append_of_le_length (by omega),List.take_of_length_le (by omega)]
theorem Mk:∀{k:Kd} {x:k.T} {j:Nat} {v:TV} {y:k.T},setF k x j v=some y→∃k' z,getF k x j=some ⟨k',z⟩∧(v.as k').isSome=true
 | .pair a b,x,0,v,y,h=>by
  simp only [setF] at h;cases hv:v.as a with
  | none=>simp [hv] at h
  | some u=>exact ⟨a,x.1,rfl,by simp [hv]⟩
 | .pair a b,x,j+1,v,y,h=>by
  simp only [setF] at h;cases hs:setF b x.2 j v with
  | none=>simp [hs] at h
  | some u=>exact Mk (k:=b) (x:=x.2) (j:=j) hs
theorem Uw {k:Kd} {x:k.T} {s:Step} {v:TV} {y:k.T} (h:set1 k x s v=some y):∃k' z,get1 k x s=some ⟨k',z⟩∧(v.as k').isSome=true:=by
 cases s with
 | fld j=>
  have:setF k x j v=some y:=by cases k<;>simpa [set1] using h
  obtain ⟨k',z,h1,h2⟩:=Mk this;exact ⟨k',z,by cases k<;>simpa [get1] using h1,h2⟩
 | idx i=>
  cases k<;>simp only [set1] at h<;>try (cases h; done)
  rename_i n e;cases hv:v.as e with
  | none=>simp [hv] at h
  | some u=>exact ⟨e,_,rfl,by simp [hv]⟩
theorem D9:∀{p:List Step} {k:Kd} {x:k.T} {v:TV} {y:k.T},setP k x p v=some y→∃k' z,getP k x p=some ⟨k',z⟩∧(v.as k').isSome=true
 | [],k,x,v,y,h=>⟨k,x,rfl,by simp only [setP] at h; simp [h]⟩
 | s::p,k,x,v,y,h=>by
  simp only [setP] at h;cases h1:get1 k x s with
  | none=>simp [h1] at h
  | some u=>
   obtain ⟨k1,x1⟩:=u;simp only [h1] at h;cases h2:setP k1 x1 p v with
   | none=>simp [h2] at h
   | some y1=>
    obtain ⟨k',z,h3,h4⟩:=D9 h2;exact ⟨k',z,by simp [getP,h1,h3],h4⟩
theorem Ot {v:TV} {k:Kd} (h:(v.as k).isSome=true):v.1=k:=by
 cases hv:v.as k with
 | none=>simp [hv] at h
 | some x=>rw [TV.as_some hv]
theorem zr0 {α:Type} (f:Nat→α) (i:Nat) (x y:α):upd (upd f i x) i y=upd f i y:=by
 funext j; simp only [upd]; split<;>rfl
theorem Inv.storePath (hI:Inv C tm me pl S a w) {b:Nat} {kb k:Kd} {x x':kb.T} {y:k.T} {p:List Step} {o:Nat} {cs:List Value} (hm:me b=some (.var kb x false))
  (hok:kb.okP p) (hoff:kb.offP p=some (o,k)) (hset:setP kb x p ⟨k,y⟩=some x') (hr:Rd S w k y cs):
  ∃g c t,(pl b).g=some g∧w.heap[g]?=some (.cells c t (0,0))∧(pl b).off+o+k.size≤c.size∧
   Inv C tm (upd me b (some (.var kb x' false))) pl S a (w.setRow g (c.toList.take ((pl b).off+o)++cs++c.toList.drop ((pl b).off+o+cs.length)).toArray):=by
 obtain ⟨k',z,hget,has⟩:=D9 hset;have ek:=Ot has;simp only at ek;subst ek;obtain ⟨_,g,c,t,c1,c2,c3,hg,hc,hsz,hseg,hl1,hr2,hsh,hs⟩:=hI.atPath hm hok hoff hget;obtain ⟨z',hz',hh⟩:=hs y;rw [hset] at hz';cases hz';have hlc:cs.length=c2.length:=by rw [Rd.length k y cs hr,Rd.length k z c2 hr2]
 have hsz':(pl b).off+kb.size≤c.toList.length:=by simpa using hsz
 have hlen:kb.size=c1.length+c2.length+c3.length:=by
  have:=congrArg List.length hseg;simp at this; omega
 have hnS:¬S g:=fun h=>by have:=hsh.2 h; cases this
 have hS:∀b,S b→S b∧(w.setRow g (c.toList.take ((pl b).off+o)++cs++c.toList.drop ((pl b).off+o+cs.length)).toArray).heap[b]?=w.heap[b]?:=
  fun b hb=>⟨hb,setRow_other w g b _ (fun e=>hnS (e ▸ hb))⟩
 refine ⟨g,c,t,hg,hc,by have:=Rd.length k z c2 hr2; simp at hsz'; omega,?_⟩;subst hl1;rw [Nv hseg hsz' hlc];obtain ⟨f1,f2,f3,f4⟩:=Hf (X:=c1++cs++c3) hsz' (by simp; omega);refine hI.write hm hg hnS hc (by simpa using f1) (by simpa using f2) (fun _=>by simpa [Blk.csize] using f3) rfl ⟨fun ⟨k,x,s,e⟩=>⟨_,_,_,rfl⟩,fun _=>⟨_,_,_,rfl⟩⟩ ⟨rfl,rfl⟩ ?_;refine ⟨g,_,t,hg,setRow_heap w g c _ t (0,0) hc,by simpa using (by omega:(pl b).off+kb.size≤_),?_,hsh⟩;rw [List.toList_toArray,f4]
 exact hh S _ cs (fun b hb=>⟨hb,setRow_other w g b _ (fun e=>hnS (e ▸ hb))⟩) (Rd.mono (fun b hb=>⟨hb,setRow_other w g b _ (fun e=>hnS (e ▸ hb))⟩) k y cs hr)
theorem Inv.atRow (h:Inv C tm me pl S a w) {j:Nat} {e k:Kd} {l:List e.T} {v:Nat} {z:k.T} {sh:Bool} {p:List Step} {o i:Nat} {k':Kd} (hm:me j=some (.row e l v sh))
  (hi:i<l.length) (hok:e.okP p) (hoff:e.offP p=some (o,k')) (hg:getP e (l.getD i e.zero) p=some ⟨k,z⟩):k'=k∧∃g c t c1 c2 c3,(pl j).g=some g∧w.heap[g]?=some (.cells c t (0,0))∧
   l.length*e.size≤c.size∧c.size=(pl j).cap*e.size∧l.length≤(pl j).cap∧(pl j).cap≤maxLen∧c.toList.take (l.length*e.size)=c1++c2++c3∧c1.length=i*e.size+o∧Rd S w k z c2∧(sh=true↔S g)∧
   (∀(y:k.T),∃z,setP e (l.getD i e.zero) p ⟨k,y⟩=some z∧∀(S':Nat→Prop) (w':World) c2',(∀b,S b→S' b∧w'.heap[b]?=w.heap[b]?)→Rd S' w' k y c2'→RdL (Rd S' w' e) (l.set i z) (c1++c2'++c3)):=by
 rcases h.mem j _ hm with ⟨_,hl,_⟩ | ⟨g,c,t,h1,h1',h2,h3,h4,h5,h6,h7⟩
 ·subst hl; simp at hi
 ·obtain ⟨d1,d2,d3,e2,hl2,hr2,hset⟩:=RdL.nth (Rd.length e) i e.zero h6 hi
  obtain ⟨o',ee,c1,c2,c3,e3,hl3,hr3,hset3⟩:=lensP p e _ d2 k z hr2 hok hg;rw [hoff] at ee;cases ee;refine ⟨rfl,g,c,t,d1++c1,c2,c3++d3,h1,h2,by rw [h5]; exact Nat.mul_le_mul_right _ h3,h5,h3,h4,by rw [e2,e3]; simp,by simp [hl2,hl3],hr3,h7,fun y=>?_⟩;obtain ⟨z',hz',hh⟩:=hset3 y;refine ⟨z',hz',fun S' w' c2' hs hy=>?_⟩;have:=hset (Rd S' w' e) z' (c1++c2'++c3) (fun x cs hx=>Rd.mono hs e x cs hx) (hh S' w' c2' hs hy);simpa using this
theorem Inv.writeRow (hI:Inv C tm me pl S a w) {j:Nat} {e:Kd} {l l':List e.T} {v:Nat} (hm:me j=some (.row e l v false)) {g:Nat} {c:Array Value} {t:TypeId} (hg:(pl j).g=some g)
  (hc:w.heap[g]?=some (.cells c t (0,0))) {cs:List Value} {lo:Nat} (hfit:lo+cs.length≤l.length*e.size) (hl:l'.length=l.length)
  (hr:∀w',(∀b,S b→S b∧w'.heap[b]?=w.heap[b]?)→RdL (Rd S w' e) l' ((c.toList.take lo++cs++c.toList.drop (lo+cs.length)).take (l.length*e.size))):
  Inv C tm (upd me j (some (.row e l' v false))) pl S a (w.setRow g (c.toList.take lo++cs++c.toList.drop (lo+cs.length)).toArray):=by
 rcases hI.mem j _ hm with ⟨h0,_⟩ | ⟨g',c',t',h1,h1',h2,h3,h4,h5,h6,h7⟩
 ·rw [hg] at h0; cases h0
 ·rw [hg] at h1
  cases h1;rw [hc] at h2;cases h2;have hnS:¬S g:=fun h=>by have:=h7.2 h; cases this
  have hle:l.length*e.size≤c.size:=by rw [h5]; exact Nat.mul_le_mul_right _ h3
  have hcl:c.toList.length=c.size:=by simp
  have hs:∀b,S b→S b∧(w.setRow g (c.toList.take lo++cs++c.toList.drop (lo+cs.length)).toArray).heap[b]?=w.heap[b]?:=fun b hb=>⟨hb,setRow_other w g b _ (fun e=>hnS (e ▸ hb))⟩
  obtain ⟨f1,f2,f3,f4⟩:=Hf (C:=c.toList) (X:=cs) (off:=lo) (n:=cs.length) (by omega) rfl;refine hI.write hm hg hnS hc (by simpa using f1) (by rw [h1']; simp) (fun h=>by obtain ⟨k,x,s,e⟩:=h; cases e) rfl ⟨fun h=>(by obtain ⟨k,x,s,e⟩:=h; cases e),fun h=>(by obtain ⟨k,x,s,e⟩:=h; cases e)⟩ ⟨rfl,Nat.le_refl _,fun _=>⟨hl,rfl⟩⟩ ?_;refine .inr ⟨g,_,t,hg,h1',setRow_heap w g c _ t (0,0) hc,by omega,h4,?_,?_,h7⟩
  ·rw [←h5,List.size_toArray,f1]; simp
  ·rw [List.toList_toArray,hl]; exact hr _ hs
end
section
variable {C:Ctx} {tm:Nat→SV} {me:Nat→Option Blk} {pl:Nat→Plc} {S:Nat→Prop} {a:Act} {w:World} {P:Program} {T:Tab}
theorem Ax (b:Addr):(Instr.sureAddr (.pointer (some b))).run P w=.ok b w:=rfl
theorem I1 (hT:Av P T) {rd:Nat→Option Blk} {t:TypeId} {sv:SV} {nx:Nat} {r:ARes} {v:Value} (h:zli T rd t sv nx=some r) (hacc:∀i∈r.acc,me i=rd i)
  (hI:Inv C tm me pl S a w) (hG:G S w me pl sv v):∃u,(Instr.loadAt t v).run P w=.ok u w∧r.wr=[]∧G S w me pl r.sv u:=by
 unfold zli at h;split at h
 ·cases h
 rename_i kt hkt;cases sv<;>simp only [reduceCtorEq] at h
 case ptr b p k=>
  split at h<;>try (cases h; done)
  rename_i kb y sh hsame hrd;split at h<;>try (cases h; done)
  rename_i k' z hget;split at h<;>try (cases h; done)
  rename_i hsame2;simp only [Option.some.injEq] at h;subst h;have e1:=Ar hsame;have e2:=Ar hsame2;subst e1 e2;have hm:me b=some (.var kb y sh):=by rw [hacc b (by simp)]; exact hrd
  obtain ⟨kb',x,sh',o,g,hm',hok,hoff,hg,rfl⟩:=hG;rw [hm] at hm';cases hm';obtain ⟨_,g',c,ty,c1,c2,c3,hg',hc,hsz,hseg,hl1,hr2,_⟩:=hI.atPath hm hok hoff hget;rw [hg] at hg';cases hg';refine ⟨_,?_,rfl,⟨c2,hr2,rfl⟩⟩;simp only [Instr.loadAt,Sem.run_bind,Ax,Result.andThen_ok];exact Dm hT hkt hc (by subst hl1; exact zgr hseg) hr2
 case pval k z=>
  split at h<;>try (cases h; done)
  rename_i hsame;simp only [ok1,Option.some.injEq] at h;subst h;have e1:=Ar hsame;subst e1;obtain ⟨g,off,c,ty,fr,rfl,hS,hc,hr⟩:=hG;refine ⟨_,?_,rfl,⟨_,hr,rfl⟩⟩;simp only [Instr.loadAt,Sem.run_bind,Ax,Result.andThen_ok];exact Dm hT hkt hc (Dl rfl) hr
 case rptr j ver i p k=>
  split at h<;>try (cases h; done)
  rename_i e l ver' sh hsame hrd;split at h<;>try (cases h; done)
  rename_i k' z hver hget;split at h<;>try (cases h; done)
  rename_i hsame2;simp only [Option.some.injEq] at h;subst h;have e1:=Ar hsame;have e2:=Ar hsame2;subst e1 e2;have hm:me j=some (.row e l ver' sh):=by rw [hacc j (by simp)]; exact hrd
  obtain ⟨e',l',ver2,sh',hm',hle,hh⟩:=hG;rw [hm] at hm';cases hm';obtain ⟨hi,hok,o,g,hoff,hg,rfl⟩:=hh (Nat.eq_of_beq_eq_true hver).symm;obtain ⟨_,g',c,ty,c1,c2,c3,hg',hc,hsz,_,_,_,hseg,hl1,hr2,_⟩:=hI.atRow hm hi hok hoff hget;rw [hg] at hg';cases hg';refine ⟨_,?_,rfl,⟨c2,hr2,rfl⟩⟩;simp only [Instr.loadAt,Sem.run_bind,Ax,Result.andThen_ok];refine Dm hT hkt hc (fun q u hq=>?_) hr2;have:=zgr (c:=c) (off:=0) (n:=l.length*e.size) (c1:=c1) (c2:=c2) (c3:=c3) (by simpa using hseg) q u hq;rw [←this,←hl1]; congr 1; omega
 case pwin b p lo n=>
  split at h<;>try (cases h; done)
  rename_i kb y sh hrd;split at h<;>try (cases h; done)
  rename_i m e l hget;split at h<;>try (cases h; done)
  rename_i hsame;simp only [Option.some.injEq] at h;subst h;have e1:=Ar hsame;subst e1;have hm:me b=some (.var kb y sh):=by rw [hacc b (by simp)]; exact hrd
  obtain ⟨kb',x,sh',o,m',e',g,hm',hok,hoff,hln,hg,rfl⟩:=hG;rw [hm] at hm';cases hm';obtain ⟨ek,g',c,ty,c1,c2,c3,hg',hc,hsz,hseg,hl1,hr2,_⟩:=hI.atPath hm hok hoff hget;rw [hg] at hg';cases hg';cases ek;obtain ⟨hlm,hrl⟩:=hr2;have hwin:=RdL.window (Rd.length e) hrl lo n;have hc2:=RdL.length (Rd.length e) hrl;have hfit:lo*e.size+n*e.size≤c2.length:=by rw [hc2,←Nat.add_mul]; exact Nat.mul_le_mul_right _ (by omega)
  have hrd2:Rd S w (.arr n e) (List.take n (List.drop lo l)) ((c2.drop (lo*e.size)).take (n*e.size)):=⟨by simp; omega,hwin⟩
  refine ⟨_,?_,rfl,⟨_,hrd2,rfl⟩⟩;simp only [Instr.loadAt,Sem.run_bind,Ax,Result.andThen_ok];refine Dm hT hkt hc (Dl (n:=n*e.size) ?_) hrd2;exact (by subst hl1; exact Iu hseg (lo*e.size) (n*e.size) hfit)
theorem Hz {np:Nat} {rd:Nat→Option Blk} {sv:SV} {k:Kd} {y:k.T} {wr:List (Nat×Blk)} {acc:List Nat} (h:Fe np rd sv k=some (y,wr,acc)):
  (wr=[]∧acc=[])∨∃i b b',wr=[(i,b)]∧acc=[i]∧rd i=some b'∧Nat.blt i np=false:=by
 cases sv<;>simp only [Fe] at h<;>try (cases h; done)
 case nil=>
  cases k<;>simp only [reduceCtorEq] at h
  simp only [Option.some.injEq,Prod.mk.injEq] at h;obtain ⟨_,rfl,rfl⟩:=h;exact .inl ⟨rfl,rfl⟩
 case val=>
  split at h<;>try (cases h; done)
  simp only [Option.some.injEq,Prod.mk.injEq] at h;obtain ⟨_,rfl,rfl⟩:=h;exact .inl ⟨rfl,rfl⟩
 case own=>
  split at h<;>try (cases h; done)
  split at h<;>try (cases h; done)
  simp only [Option.some.injEq,Prod.mk.injEq] at h;obtain ⟨_,rfl,rfl⟩:=h;exact .inr ⟨_,_,_,rfl,rfl,by assumption,by assumption⟩
 case win=>
  split at h<;>try (cases h; done)
  split at h<;>try (cases h; done)
  simp only [Option.some.injEq,Prod.mk.injEq] at h;obtain ⟨_,rfl,rfl⟩:=h;exact .inr ⟨_,_,_,rfl,rfl,by assumption,by assumption⟩
 case asl=>
  split at h<;>try (cases h; done)
  split at h<;>try (cases h; done)
  split at h<;>try (cases h; done)
  simp only [Option.some.injEq,Prod.mk.injEq] at h;obtain ⟨_,rfl,rfl⟩:=h;exact .inr ⟨_,_,_,rfl,rfl,by assumption,by assumption⟩
 case fn=>
  split at h<;>try (cases h; done)
  simp only [Option.some.injEq,Prod.mk.injEq] at h;obtain ⟨_,rfl,rfl⟩:=h;exact .inl ⟨rfl,rfl⟩
 case clo=>
  split at h<;>try (cases h; done)
  split at h<;>try (cases h; done)
  split at h<;>try (cases h; done)
  simp only [Option.some.injEq,Prod.mk.injEq] at h;obtain ⟨_,rfl,rfl⟩:=h;exact .inr ⟨_,_,_,rfl,rfl,by assumption,by assumption⟩
theorem E4 (hT:Av P T) {t:TypeId} {k:Kd} {y:k.T} {v:Value} (hkt:tkd T t=some k) {g off:Nat} {c:Array Value} {ty:TypeId} (hc:w.heap[g]?=some (.cells c ty (0,0)))
  {cs:List Value} (hr:Rd S w k y cs) (hv:v=k.mkV cs) (hfit:off+k.size≤c.size):
  (Instr.storeAt t (.pointer (some ⟨g,off,none⟩)) v).run P w=.ok () (w.setRow g (c.toList.take off++cs++c.toList.drop (off+cs.length)).toArray):=by
 subst hv;simp only [Instr.storeAt,Sem.run_bind,Ax,Result.andThen_ok];exact Tz hT hkt hc hr hfit
theorem Vo (hT:Av P T) {np:Nat} (hnp:np=C.pp.length) {rd:Nat→Option Blk} {t:TypeId} {x v:SV} {nx:Nat} {r:ARes} {vx vv:Value} (h:zlg T np rd t x v nx=some r) (hacc:∀i∈r.acc,me i=rd i)
  (hI:Inv C tm me pl S a w) (hGx:G S w me pl x vx) (hGv:G S w me pl v vv):∃w',(Instr.storeAt t vx vv).run P w=.ok () w'∧Cs C tm me r.sv r.wr a undef w':=by
 unfold zlg at h;split at h
 ·cases h
 rename_i kt hkt;split at h
 ·cases h
 rename_i y wr acc hval;cases x<;>simp only [reduceCtorEq] at h
 case ptr b p k=>
  obtain ⟨kb',x0,sh0,o,g,hm0,hok,hoff,hg,rfl⟩:=hGx;split at h
  ·rename_i kb z hsame hrd
   split at h<;>try (cases h; done)
   rename_i z' hset;simp only [Option.some.injEq] at h;subst h;have e1:=Ar hsame;subst e1;have hm:me b=some (.var kb z false):=by rw [hacc b (by simp)]; exact hrd
   rcases Hz hval with ⟨rfl,_⟩ | ⟨_,_,_,_,ha,_⟩
   ·obtain ⟨S',h1,h2,cs,h3,rfl⟩:=Bo hnp hval (by simp) hI hGv
    rw [Ad] at h1 h2;rw [hm] at hm0;cases hm0;obtain ⟨g',c,ty,hg',hc,hfit,hinv⟩:=h1.storePath hm hok hoff hset h3;rw [hg] at hg';cases hg';exact ⟨_,E4 hT hkt hc h3 rfl hfit,pl,S',by rw [Ae,Ad]; exact ⟨hinv,trivial⟩⟩
   ·cases ha
  ·rename_i kb z i hsame hrd
   split at h<;>try (cases h; done)
   rename_i z' hib hset;simp only [Option.some.injEq] at h;subst h;have e1:=Ar hsame;subst e1;have hm:me b=some (.var kb z false):=by rw [hacc b (by simp)]; exact hrd
   obtain ⟨S',h1,h2,cs,h3,rfl⟩:=Bo hnp hval (fun q hq=>hacc q (by simp at hq ⊢; exact .inr hq)) hI hGv;have hm1:laid wr me b=some (.var kb z false):=by
    rcases Hz hval with ⟨_,ha⟩ | ⟨i',bb,bb',rfl,ha,hri,_⟩
    ·cases ha
    ·cases ha
     have hne:b≠i:=fun e=>by subst e; simp at hib
     rw [Ae,Ac _ _ hne,Ad]; exact hm
   rw [hm] at hm0;cases hm0;obtain ⟨g',c,ty,hg',hc,hfit,hinv⟩:=h1.storePath hm1 hok hoff hset h3;rw [hg] at hg';cases hg';exact ⟨_,E4 hT hkt hc h3 rfl hfit,pl,S',by rw [Ae]; exact ⟨hinv,trivial⟩⟩
  ·cases h
 case rptr j ver i p k=>
  split at h<;>try (cases h; done)
  rename_i e l ver' hsame hrd;split at h<;>try (cases h; done)
  rename_i z' hver hset;simp only [Option.some.injEq] at h;subst h;have e1:=Ar hsame;subst e1;have hm:me j=some (.row e l ver' false):=by rw [hacc j (by simp)]; exact hrd
  rcases Hz hval with ⟨rfl,_⟩ | ⟨_,_,_,_,ha,_⟩
  ·obtain ⟨S',h1,h2,cs,h3,rfl⟩:=Bo hnp hval (by simp) hI hGv
   rw [Ad] at h1 h2;obtain ⟨e',l',ver2,sh',hm',hle,hh⟩:=hGx;rw [hm] at hm';cases hm';obtain ⟨hi,hok,o,g,hoff,hg,rfl⟩:=hh (Nat.eq_of_beq_eq_true hver).symm;obtain ⟨k',z0,hget,has⟩:=D9 hset;have ek:=Ot has;simp only at ek;subst ek;obtain ⟨_,g',c,ty,c1,c2,c3,hg',hc,hsz,_,_,_,hseg,hl1,hr2,hsh,hs⟩:=h1.atRow hm hi hok hoff hget;rw [hg] at hg';cases hg';obtain ⟨z2,hz2,hh2⟩:=hs y;rw [hset] at hz2;cases hz2;have hlc:cs.length=c2.length:=by rw [Rd.length _ y cs h3,Rd.length _ z0 c2 hr2]
   have hlen:l.length*e.size=c1.length+c2.length+c3.length:=by
    have:=congrArg List.length hseg;simp at this;have hcl:c.toList.length=c.size:=by simp
    omega
   have hfit:i*e.size+o+kt.size≤c.size:=by rw [←Rd.length kt y cs h3]; omega
   refine ⟨_,E4 hT hkt hc h3 rfl hfit,pl,S',?_⟩;rw [Ae,Ad];refine ⟨h1.writeRow hm hg hc (cs:=cs) (lo:=i*e.size+o) (by omega) (by simp) (fun w' hw'=>?_),trivial⟩;have hcl:c.toList.length=c.size:=by simp
   have hsp:=Nv (C:=c.toList) (off:=0) (n:=l.length*e.size) (c1:=c1) (c2:=c2) (c3:=c3) (c2':=cs) (by simpa using hseg) (by omega) hlc;simp only [Nat.zero_add,List.take_zero,List.nil_append] at hsp;rw [←hl1,hsp,List.take_append_of_le_length (by simp; omega),List.take_of_length_le (by simp; omega)];exact hh2 S' w' cs hw' (Rd.mono hw' _ y cs h3)
  ·cases ha
end
section
variable {C:Ctx} {tm:Nat→SV} {me:Nat→Option Blk} {pl:Nat→Plc} {S:Nat→Prop} {a:Act} {w:World} {P:Program} {T:Tab}
theorem Bn {rd:Nat→Option Blk} {nx np:Nat} (h:G9 rd nx np=true):rd nx=none∧np≤nx:=by
 unfold G9 at h;split at h
 ·rename_i hr; exact ⟨hr,Nat.le_of_ble_eq_true h⟩
 ·cases h
theorem H4 (t:TypeId) (v:Value):(newVar t v).run P w=.ok ⟨w.heap.size,0,none⟩ (w.alloc (.cells v.cells t)):=by
 simp [newVar,newRow]
theorem Mq {S:Nat→Prop} {me2:Nat→Option Blk} {pl2:Nat→Plc} {k:Kd} {x:k.T} {cs:List Value} (hr:Rd S w k x cs) (hS:∀b,S b→b<w.heap.size) (t:TypeId):
  BlkAt S (w.alloc (.cells cs.toArray t)) me2 pl2 (.var k x false) ⟨some w.heap.size,0,0⟩:=by
 refine ⟨w.heap.size,cs.toArray,t,rfl,heap_alloc_new w _,by have:=Rd.length k x cs hr; simp; omega,?_,by simp; intro h; exact absurd (hS _ h) (by omega)⟩;have e:(List.take k.size (List.drop 0 cs.toArray.toList))=cs:=by
  simp;rw [←Rd.length k x cs hr,List.take_length]
 show Rd S _ k x (List.take k.size (List.drop 0 cs.toArray.toList));rw [e];exact Rd.mono (fun b hb=>⟨hb,heap_alloc_old w _ b (hS b hb)⟩) k x cs hr
theorem Vu (hT:Av P T) {np:Nat} (hnp:np=C.pp.length) {rd:Nat→Option Blk} {t:TypeId} {nx:Nat} {r:ARes} (h:zlm T np rd t nx=some r) (hacc:∀i∈r.acc,me i=rd i)
  (hI:Inv C tm me pl S a w):∃u w',(Instr.alloc t true (.tuple #[])).run P w=.ok u w'∧Cs C tm me r.sv r.wr a u w':=by
 unfold zlm at h;split at h<;>try (cases h; done)
 rename_i k hkt hfr;simp only [Option.some.injEq] at h;subst h;obtain ⟨hfr1,hfr2⟩:=Bn hfr;obtain ⟨z,hz,hzc⟩:=Ck hT w hkt;refine ⟨.pointer (some ⟨w.heap.size,0,none⟩),w.alloc (.cells k.zcells.toArray t),by simp [Instr.alloc,hz,H4,hzc],?_⟩;have hb:=fun me2 pl2=>Mq (me2:=me2) (pl2:=pl2) (S:=S) (w:=w) (Rd.zero k) (fun b hb=>(hI.sfr b hb).1) t
 have hmn:me nx=none:=by rw [hacc nx (by simp)]; exact hfr1
 refine ⟨_,S,by rw [Ae,Ad]; exact hI.alloc hmn (by omega) (hb _ _),?_⟩;rw [Ae,Ad];exact ⟨k,_,false,0,w.heap.size,Ah _ _ _,trivial,rfl,by simp,by simp⟩
theorem zfh (hT:Av P T) {np:Nat} (hnp:np=C.pp.length) {rd:Nat→Option Blk} {t:TypeId} {sv:SV} {v:Value} {nx:Nat} {r:ARes} (h:aBox T np rd t sv nx=some r) (hacc:∀i∈r.acc,me i=rd i)
  (hI:Inv C tm me pl S a w) (hG:G S w me pl sv v):∃u w',(Instr.box t v).run P w=.ok u w'∧Cs C tm me r.sv r.wr a u w':=by
 unfold aBox at h;split at h<;>try (cases h; done)
 rename_i k hkt hfr;split at h<;>try (cases h; done)
 rename_i y wr acc hval;simp only [Option.some.injEq] at h;subst h;obtain ⟨hfr1,hfr2⟩:=Bn hfr;obtain ⟨S',h1,h2,cs,h3,rfl⟩:=Bo hnp hval (fun q hq=>hacc q (by simp; exact .inr hq)) hI hG;have hmn:me nx=none:=by rw [hacc nx (by simp)]; exact hfr1
 have hmn':laid wr me nx=none:=by
  rcases Hz hval with ⟨rfl,_⟩ | ⟨i,b,b',rfl,_,hri,_⟩
  ·rw [Ad]; exact hmn
  ·have:nx≠i:=fun e=>by subst e; rw [hfr1] at hri; cases hri
   rw [Ae,Ac _ _ this,Ad]; exact hmn
 refine ⟨.pointer (some ⟨w.heap.size,0,none⟩),w.alloc (.cells cs.toArray t),by simp [Instr.box,H4,h3.cells],?_⟩;have hb:=fun me2 pl2=>Mq (me2:=me2) (pl2:=pl2) (S:=S') (w:=w) h3 (fun b hb=>(h1.sfr b hb).1) t
 refine ⟨_,S',by rw [Ae]; exact h1.alloc hmn' (by omega) (hb _ _),?_⟩;rw [Ae];exact ⟨k,_,false,0,w.heap.size,Ah _ _ _,trivial,rfl,by simp,by simp⟩
theorem zez {fs:List Field} {k:Kd}:∀{off:Nat} {j:Nat} {o:Nat} {kf:Kd},Aw T fs off k=true→k.offF j=some (o,kf)→
  ∃f,fs[j]?=some f∧f.offset=off+o∧tkd T f.type=some kf∧kf.size≠0:=by
 induction fs generalizing k with
 | nil=>intro off j o kf h ho; cases k<;>simp [Aw] at h; simp [Kd.offF] at ho
 | cons f fs ih=>
  intro off j o kf h ho;cases k<;>simp only [Aw] at h<;>try (cases h; done)
  rename_i a b;simp only [Bool.and_eq_true] at h;obtain ⟨⟨⟨h1,h2⟩,h3⟩,h4⟩:=h;cases j with
  | zero=>
   simp only [Kd.offF,Option.some.injEq,Prod.mk.injEq] at ho;obtain ⟨rfl,rfl⟩:=ho;exact ⟨f,rfl,by rw [Nat.eq_of_beq_eq_true h1]; rfl,A2 h2,fun e=>by rw [e] at h3; cases h3⟩
  | succ j=>
   simp only [Kd.offF] at ho;split at ho<;>try (cases ho; done)
   rename_i o' k' ho';simp only [Option.some.injEq,Prod.mk.injEq] at ho;obtain ⟨rfl,rfl⟩:=ho;obtain ⟨f',e1,e2,e3,e4⟩:=ih h4 ho';exact ⟨f',by simpa using e1,by omega,e3,e4⟩
theorem Mg (hT:Av P T) {t:TypeId} {k:Kd} {fs:Array Field} (hk:tkd T t=some k) (hd:Bp T t=some (.struct fs)) {j o:Nat} {kf:Kd} (ho:k.offF j=some (o,kf)):
  ∃f,fs[j]?=some f∧f.offset=o∧tkd T f.type=some kf∧kf.size≠0:=by
 have:=Fh hT hk hd;simp only [B6] at this;obtain ⟨f,e1,e2,e3,e4⟩:=zez this ho;exact ⟨f,by simpa using e1,by omega,e3,e4⟩
theorem Gj (hT:Av P T) {t:TypeId} {k:Kd} {fs:Array Field} (hk:tkd T t=some k) (hd:Bp T t=some (.struct fs)) {j o:Nat} {kf:Kd} (ho:k.offF j=some (o,kf)) (g off:Nat):
  (Instr.fieldAt t (.pointer (some ⟨g,off,none⟩)) j).run P w=.ok (.pointer (some ⟨g,off+o,none⟩)) w:=by
 obtain ⟨f,e1,e2,e3,e4⟩:=Mg hT hk hd ho;have hz:(sizeOf f.type).run P w=.ok kf.size w:=As hT w e3;simp [Instr.fieldAt,run_underlying (Ag hT hd),e1,Ax,Instr.fieldAt,fieldPlace,hz,e4,e2,add_eq]
theorem E7 {k:Kd} {p:List Step} {o:Nat} {k':Kd} {s:Step} {o':Nat} {k'':Kd} (h:k.offP p=some (o,k')) (h':k'.off1 s=some (o',k'')):k.offP (p++[s])=some (o+o',k''):=by
 induction p generalizing k o with
 | nil=>simp only [Kd.offP,Option.some.injEq,Prod.mk.injEq] at h; obtain ⟨rfl,rfl⟩:=h; simp [Kd.offP,h']
 | cons s' p ih=>
  simp only [Kd.offP,List.cons_append] at h ⊢;cases h1:k.off1 s' with
  | none=>simp [h1] at h
  | some q=>
   obtain ⟨o1,k1⟩:=q;simp only [h1] at h ⊢;cases h2:k1.offP p with
   | none=>simp [h2] at h
   | some q=>
    obtain ⟨o2,k2⟩:=q;simp only [h2,Option.some.injEq,Prod.mk.injEq] at h;obtain ⟨rfl,rfl⟩:=h;rw [ih h2];simp; omega
theorem Gb {k:Kd} {p:List Step} {o:Nat} {k':Kd} {s:Step} (h:k.offP p=some (o,k')) (hk:k.okP p) (h':k'.ok1 s):k.okP (p++[s]):=by
 induction p generalizing k o with
 | nil=>
  simp only [Kd.offP,Option.some.injEq,Prod.mk.injEq] at h; obtain ⟨rfl,rfl⟩:=h;refine ⟨h',?_⟩;cases k.off1 s<;>trivial
 | cons s' p ih=>
  simp only [Kd.offP] at h;split at h<;>try (cases h; done)
  rename_i o1 k1 h1;split at h<;>try (cases h; done)
  rename_i o2 k2 h2;simp only [Option.some.injEq,Prod.mk.injEq] at h;obtain ⟨rfl,rfl⟩:=h;have:=hk.2;simp only [h1] at this;exact ⟨hk.1,by simp only [h1]; exact ih h2 this⟩
theorem Rv {k:Kd} {j:Nat}:k.off1 (.fld j)=k.offF j:=by cases k<;>rfl
theorem Xw {k:Kd} {j:Nat}:k.ok1 (.fld j):=by cases k<;>trivial
theorem N9 {rd:Nat→Option Blk} {j ver:Nat} (h:live rd j ver=true):∃e l sh,rd j=some (.row e l ver sh):=by
 unfold live at h;split at h
 ·rename_i e l ver' sh hr
  have:=Nat.eq_of_beq_eq_true h;subst this;exact ⟨e,l,sh,hr⟩
 ·cases h
theorem Ku:∀{l m:List Kd},Iy l m=true→l=m
 | [],[],_=>rfl
 | [],_::_,h=>by simp [Iy] at h
 | _::_,[],h=>by simp [Iy] at h
 | a::l,b::m,h=>by
  simp only [Iy,Bool.and_eq_true] at h;rw [Kd.same_eq h.1,Ku h.2]
theorem H1:∀(l m:List Kd),szs (l++m)=szs l+szs m
 | [],m=>by simp [szs]
 | k::l,m=>by simp only [List.cons_append,szs,H1 l m]; omega
theorem E8:∀(k:Kd),k.size=szs k.flat∧k.zcells=(k.flat.map Kd.zcells).flatten
 | .unit=>⟨rfl,rfl⟩
 | .pair a b=>by
  obtain ⟨h1,h2⟩:=E8 a;obtain ⟨h3,h4⟩:=E8 b;exact ⟨by simp only [Kd.size,Kd.flat,H1,h1,h3],by simp only [Kd.zcells,Kd.flat,List.map_append,List.flatten_append,h2,h4]⟩
 | .int _=>⟨rfl,by simp [Kd.flat]⟩
 | .bool=>⟨rfl,by simp [Kd.flat]⟩
 | .str=>⟨rfl,by simp [Kd.flat]⟩
 | .arr _ _=>⟨by simp [Kd.flat,szs],by simp [Kd.flat]⟩
 | .sl _=>⟨rfl,by simp [Kd.flat]⟩
 | .mp=>⟨rfl,by simp [Kd.flat]⟩
 | .fn=>⟨rfl,by simp [Kd.flat]⟩
theorem Oe:∀{k:Kd} {j o:Nat} {kf:Kd},k.offF j=some (o,kf)→∃pre post,k.flat=pre++kf.flat++post∧k.flatF j=some (pre.length,kf)∧o=szs pre
 | .pair a b,0,o,kf,h=>by
  simp only [Kd.offF,Option.some.injEq,Prod.mk.injEq] at h;obtain ⟨rfl,rfl⟩:=h;exact ⟨[],b.flat,by simp [Kd.flat],rfl,rfl⟩
 | .pair a b,j+1,o,kf,h=>by
  simp only [Kd.offF] at h;split at h<;>try (cases h; done)
  rename_i o' k' ho;simp only [Option.some.injEq,Prod.mk.injEq] at h;obtain ⟨rfl,rfl⟩:=h;obtain ⟨pre,post,h1,h2,h3⟩:=Oe ho;exact ⟨a.flat++pre,post,by simp [Kd.flat,h1],by simp [Kd.flatF,h2],by rw [H1,←(E8 a).1,h3]⟩
 | .int _,_,_,_,h=>by simp [Kd.offF] at h
 | .bool,_,_,_,h=>by simp [Kd.offF] at h
 | .str,_,_,_,h=>by simp [Kd.offF] at h
 | .unit,_,_,_,h=>by simp [Kd.offF] at h
 | .arr _ _,_,_,_,h=>by simp [Kd.offF] at h
 | .sl _,_,_,_,h=>by simp [Kd.offF] at h
 | .mp,_,_,_,h=>by simp [Kd.offF] at h
 | .fn,_,_,_,h=>by simp [Kd.offF] at h
theorem M8 (hT:Av P T) {rd:Nat→Option Blk} {t:TypeId} {sv:SV} {j:Nat} {nx:Nat} {r:ARes} {v:Value} (h:K8 T rd t sv j nx=some r) (hacc:∀i∈r.acc,me i=rd i)
  (hG:G S w me pl sv v):∃u,(Instr.fieldAt t v j).run P w=.ok u w∧r.wr=[]∧G S w me pl r.sv u:=by
 unfold K8 at h;split at h<;>try (cases h; done)
 rename_i kt fs hkt hd;split at h<;>try (cases h; done)
 ·rename_i o1 kf b p k ho
  split at h<;>try (cases h; done)
  rename_i hsame;simp only [ok1,Option.some.injEq] at h;subst h;have e1:=Ar hsame;subst e1;obtain ⟨kb,x,sh,o,g,hm,hok,hoff,hg,rfl⟩:=hG;refine ⟨_,Gj hT hkt hd ho _ _,rfl,?_⟩;exact ⟨kb,x,sh,o+o1,g,hm,Gb hoff hok Xw,E7 hoff (by rw [Rv]; exact ho),hg,by rw [Nat.add_assoc]⟩
 ·rename_i o1 kf b ver i p k ho
  split at h<;>try (cases h; done)
  rename_i hsame hlive;simp only [Option.some.injEq] at h;subst h;have e1:=Ar hsame;subst e1;obtain ⟨e,l,sh,hrd⟩:=N9 hlive;have hm:me b=some (.row e l ver sh):=by rw [hacc b (by simp)]; exact hrd
  obtain ⟨e',l',ver',sh',hm',hle,hh⟩:=hG;rw [hm] at hm';cases hm';obtain ⟨hi,hok,o,g,hoff,hg,rfl⟩:=hh rfl;exact ⟨_,Gj hT hkt hd ho _ _,rfl,e,l,ver,sh,hm,hle,fun _=>⟨hi,Gb hoff hok Xw,o+o1,g,E7 hoff (by rw [Rv]; exact ho),hg,by rw [Nat.add_assoc]⟩⟩
 ·rename_i q k z ho
  split at h<;>try (cases h; done)
  rename_i k' y hsame hget;simp only [ok1,Option.some.injEq] at h;subst h;have e1:=Ar hsame;subst e1;obtain ⟨g,off,c,ty,fr,rfl,hS,hc,hr⟩:=hG;obtain ⟨o,hoff,c1,c2,c3,e,hl,hr2,_⟩:=zuc _ z _ j k' y hr hget;refine ⟨_,Gj hT hkt hd hoff _ _,rfl,g,off+o,c,ty,fr,rfl,hS,hc,?_⟩
  ·have h2:=Rd.length _ y _ hr2
   have:=Iu (c:=c.toList) (off:=off) (n:=Kd.size _) e 0 k'.size (by omega);rw [hl,Nat.add_zero] at this;rw [this,List.drop_zero,List.take_of_length_le (by omega)];exact hr2
 ·rename_i q b i k ho
  split at h<;>try (cases h; done)
  rename_i d kf hsame hfl;simp only [ok1,Option.some.injEq] at h;subst h;obtain ⟨o,kf2⟩:=q;obtain ⟨pre,post,h1,h2,h3⟩:=Oe ho;rw [h2] at hfl;cases hfl;obtain ⟨fs,cs,g,post2,hm,hg,hfs,rfl⟩:=hG;rw [←Ar hsame,h1,List.append_assoc,List.append_assoc] at hfs;refine ⟨_,Gj hT hkt hd ho _ _,rfl,fs,cs,g,post++post2,hm,hg,?_,?_⟩
  ·rw [←List.drop_drop,hfs,List.drop_left]
  ·simp only [moff,List.take_add,hfs,List.take_left,H1,h3]
theorem zcf (hT:Av P T) {S:Nat→Prop} {t:TypeId} {k:Kd} {x:k.T} {cs:Array Value} {o:Nat} {c1 c2 c3:List Value} (hk:tkd T t=some k) (hcs:cs.toList=c1++c2++c3) (ho:c1.length=o) (hr:Rd S w k x c2):
  (part t cs o).run P w=.ok (k.mkV c2) w:=by
 have hl:=Rd.length k x c2 hr;unfold part;simp only [Sem.run_bind,F3 hT w hk,Result.andThen_ok]
 by_cases ha:k.agg=true
 ·have e:cs.extract o (o+k.size)=c2.toArray:=by
   apply Array.ext';simp only [Array.toList_extract,hcs,List.toList_toArray,List.extract_eq_take_drop];rw [←ho,List.append_assoc,List.drop_left,Nat.add_sub_cancel_left,←hl,List.take_left]
  simp [ha,As hT w hk,e,Kd.mkV]
 ·have h1:k.size=1:=by cases k<;>simp [Kd.agg] at ha<;>rfl
  rw [h1] at hl;obtain ⟨v,rfl⟩:=List.length_eq_one_iff.1 hl;have:cs[o]?=some v:=by
   have e:cs.toList[o]?=some v:=by rw [hcs,←ho]; simp
   simpa using e
  simp [ha,this,Kd.mkV]
theorem Vs (hT:Av P T) {t:TypeId} {sv:SV} {j:Nat} {nx:Nat} {r:ARes} {v:Value} (h:zlk T t sv j nx=some r)
  (hG:G S w me pl sv v):∃u,(Instr.field t v j).run P w=.ok u w∧r.wr=[]∧G S w me pl r.sv u:=by
 unfold zlk at h;split at h<;>try (cases h; done)
 rename_i kt fs k z hkt hd;split at h<;>try (cases h; done)
 rename_i k' y hsame hget;simp only [ok1,Option.some.injEq] at h;subst h;have e1:=Ar hsame;subst e1;obtain ⟨cs,hr,rfl⟩:=hG;obtain ⟨o,hoff,c1,c2,c3,e,hl,hr2,_⟩:=zuc _ z _ j k' y hr hget;obtain ⟨f,f1,f2,f3,f4⟩:=Mg hT hkt hd hoff;have hagg:kt.agg=true:=by
  have:=Fh hT hkt hd;exact Bs this
 refine ⟨_,?_,rfl,c2,hr2,rfl⟩;have hp:=zcf (w:=w) hT (cs:=cs.toArray) (o:=o) f3 (by simpa using e) hl hr2;simp [Instr.field,run_underlying (Ag hT hd),f1,f2,Kd.mkV,hagg,asAgg,hp]
end
section
variable {C:Ctx} {tm:Nat→SV} {me:Nat→Option Blk} {pl:Nat→Plc} {S:Nat→Prop} {a:Act} {w:World} {P:Program} {T:Tab}
theorem E2 (hT:Av P T) {t:TypeId} {e:Kd} {et:TypeId} (h:tkd T t=some (.sl e)) (h2:Bp T t=some (.slice et)):tkd T et=some e:=by
 have:=Fh hT h h2;exact A2 this
theorem Np (hT:Av P T) {t:TypeId} {e:Kd} {n m:Nat} {et:TypeId} (h:tkd T t=some (.arr m e)) (h2:Bp T t=some (.array n et)):m=n∧tkd T et=some e:=by
 have:=Fh hT h h2;simp only [B6,Bool.and_eq_true] at this;exact ⟨(Nat.eq_of_beq_eq_true this.1).symm,A2 this.2⟩
theorem Db {i:Int} {n:Int} (h:bnd i n=true):0≤i∧i<n:=by simpa [bnd] using h
theorem E6 (hT:Av P T) {t:TypeId} {e:Kd} {n m:Nat} {et:TypeId} (hk:tkd T t=some (.arr m e)) (hd:Bp T t=some (.array n et)) {ik:IntKind} {i:Int} (hi:bnd i n=true) (g off:Nat):
  (Instr.indexAt t (.pointer (some ⟨g,off,none⟩)) (.int ik i)).run P w=.ok (.pointer (some ⟨g,off+i.toNat*e.size,none⟩)) w:=by
 have h1:=(Np hT hk hd).2;have hz:=As hT w h1;have hb:=Db hi;have hu:=Ag hT hd;simp [Instr.indexAt,asIntOf,run_underlying hu,Ax,hb,hz,add_eq]
theorem D2 (hT:Av P T) {t:TypeId} {e:Kd} {et:TypeId} (hk:tkd T t=some (.sl e)) (hd:Bp T t=some (.slice et)) {ik:IntKind} {i:Int} {n cap:Nat} (hi:bnd i n=true) (g off:Nat):
  (Instr.indexAt t (.slice (some ⟨g,off,none⟩) n cap) (.int ik i)).run P w=.ok (.pointer (some ⟨g,off+i.toNat*e.size,none⟩)) w:=by
 have h1:=E2 hT hk hd;have hz:=As hT w h1;have hb:=Db hi;have hu:=Ag hT hd;simp [Instr.indexAt,asIntOf,run_underlying hu,hb,hz,add_eq]
theorem RdL.seg {α:Type} {R:α→List Value→Prop} {sz:Nat} (hn:∀x cs,R x cs→cs.length=sz) {l:List α} {cs:List Value} (h:RdL R l cs) {i:Nat} (hi:i<l.length) (d:α):
  R (l.getD i d) ((cs.drop (i*sz)).take sz)∧i*sz+sz≤cs.length:=by
 obtain ⟨c1,c2,c3,e,hl,hr,_⟩:=RdL.nth hn i d h hi;subst e;have h2:=hn _ _ hr;refine ⟨?_,by simp; omega⟩;rw [←hl,List.append_assoc,List.drop_left,←h2,List.take_left];exact hr
theorem M7 (hT:Av P T) {rd:Nat→Option Blk} {t:TypeId} {sv si:SV} {nx:Nat} {r:ARes} {v vi:Value} (h:K7 T rd t sv si nx=some r) (hok:r.ok=true) (hacc:∀i∈r.acc,me i=rd i)
  (hI:Inv C tm me pl S a w) (hG:G S w me pl sv v) (hGi:G S w me pl si vi):∃u,(Instr.indexAt t v vi).run P w=.ok u w∧r.wr=[]∧G S w me pl r.sv u:=by
 unfold K7 at h;split at h<;>try (cases h; done)
 rename_i ik i;rw [VRd.int.1 hGi];split at h<;>try (cases h; done)
 ·rename_i kt n et b p k hkt hd
  split at h<;>try (cases h; done)
  rename_i m e hsame;simp only [Option.some.injEq] at h;subst h;have e1:=Ar hsame;subst e1;obtain ⟨kb,x,sh,o,g,hm,hok',hoff,hg,rfl⟩:=hG;have hmn:=(Np hT hkt hd).1;have hb:=Db hok;refine ⟨_,E6 hT hkt hd hok _ _,rfl,kb,x,sh,o+i.toNat*e.size,g,hm,Gb hoff hok' (by show i.toNat<m; omega),E7 hoff rfl,hg,by rw [Nat.add_assoc]⟩
 ·rename_i kt n et j ver q p k hkt hd
  split at h<;>try (cases h; done)
  rename_i m e _ _;have hlive:live rd j ver=true:=by assumption
  simp only [Option.some.injEq] at h;subst h;have e1:=Ar (by assumption:kt.same (.arr m e)=true);subst e1;obtain ⟨e',l,sh,hrd⟩:=N9 hlive;have hm:me j=some (.row e' l ver sh):=by rw [hacc j (by simp)]; exact hrd
  obtain ⟨e'',l',ver',sh',hm',hle,hh⟩:=hG;rw [hm] at hm';cases hm';obtain ⟨hi,hok',o,g,hoff,hg,rfl⟩:=hh rfl;have hmn:=(Np hT hkt hd).1;have hb:=Db hok;exact ⟨_,E6 hT hkt hd hok _ _,rfl,e',l,ver,sh,hm,hle,fun _=>⟨hi,Gb hoff hok' (by show i.toNat<m; omega),o+i.toNat*e.size,g,E7 hoff rfl,hg,by rw [Nat.add_assoc]⟩⟩
 ·rename_i kt n et k z hkt hd
  split at h<;>try (cases h; done)
  rename_i m e l hsame heq;simp only [Option.some.injEq] at h;subst h;cases heq;have e1:=Ar hsame;subst e1;obtain ⟨g,off,c,ty,fr,rfl,hS,hc,hlm,hr⟩:=hG;have hmn:=(Np hT hkt hd).1;have hb:=Db hok;obtain ⟨h1,h2⟩:=RdL.seg (Rd.length e) hr (i:=i.toNat) (by omega) e.zero;have hlen:((c.toList.drop off).take (Kd.arr m e).size).length≤m*e.size:=by simp [Kd.size]; omega
  refine ⟨_,E6 hT hkt hd hok _ _,rfl,g,_,c,ty,fr,rfl,hS,hc,?_⟩;rw [List.drop_take,List.drop_drop,List.take_take,Nat.min_eq_left (by simp [Kd.size]; omega)] at h1;exact h1
 ·rename_i kt et k z hkt hd
  split at h<;>try (cases h; done)
  rename_i e l hsame heq;simp only [Option.some.injEq] at h;subst h;cases heq;have e1:=Ar hsame;subst e1;have hb:=Db hok;rcases VRd.sl.1 hG with ⟨rfl,hl⟩ | ⟨g,off,cap,c,ty,fr,rfl,hcap,hS,hc,hr⟩ | ⟨a0,rfl,hl⟩
  rotate_left 2
  ·subst hl; simp at hb; omega
  ·subst hl; simp at hb; omega
  ·obtain ⟨h1,h2⟩:=RdL.seg (Rd.length e) hr (i:=i.toNat) (by omega) e.zero
   have hlc:((c.toList.drop off).take (List.length l*e.size)).length≤List.length l*e.size:=by simp; omega
   refine ⟨_,D2 hT hkt hd hok _ _,rfl,g,_,c,ty,fr,rfl,hS,hc,?_⟩;rw [List.drop_take,List.drop_drop,List.take_take,Nat.min_eq_left (by omega)] at h1;exact h1
 ·rename_i kt et j ver hkt hd
  split at h<;>try (cases h; done)
  rename_i e l ver' sh hrd;split at h<;>try (cases h; done)
  rename_i hver hsame;simp only [Option.some.injEq] at h;subst h;have e1:=Ar hsame;subst e1;have hm:me j=some (.row e l ver' sh):=by rw [hacc j (by simp)]; exact hrd
  obtain ⟨e',l',ver2,sh',hm',hle,hh⟩:=hG;rw [hm] at hm';cases hm';have hb:=Db hok;rcases hh (Nat.eq_of_beq_eq_true hver).symm with ⟨hg,rfl⟩ | ⟨g,hg,rfl⟩
  ·rcases hI.mem j _ hm with ⟨_,hl,_⟩ | ⟨g,c,t,hg',_⟩
   ·subst hl; simp at hb; omega
   ·rw [hg] at hg'; cases hg'
  ·exact ⟨_,D2 hT hkt hd hok _ _,rfl,e,l,ver',sh,hm,hle,fun _=>⟨by omega,trivial,0,g,rfl,hg,by simp⟩⟩
 ·rename_i kt et j ver lo n hkt hd
  split at h<;>try (cases h; done)
  rename_i e l ver' sh hrd;split at h<;>try (cases h; done)
  rename_i hver hsame;simp only [Option.some.injEq] at h;subst h;have e1:=Ar hsame;subst e1;have hm:me j=some (.row e l ver' sh):=by rw [hacc j (by simp)]; exact hrd
  obtain ⟨e',l',ver2,sh',hm',hle,hh⟩:=hG;rw [hm] at hm';cases hm';have hb:=Db hok;obtain ⟨hln,hwin⟩:=hh (Nat.eq_of_beq_eq_true hver).symm;rcases hwin with ⟨hg,rfl,hn0⟩ | ⟨g,o,cap,hg,rfl,hcap,ho⟩
  ·omega
  ·have ho':o=0+lo*e.size:=by rcases ho with h0 | h0; (exfalso; omega); exact h0
   subst ho';exact ⟨_,D2 hT hkt hd hok _ _,rfl,e,l,ver',sh,hm,hle,fun _=>⟨by omega,trivial,0,g,rfl,hg,by rw [Nat.add_mul]; simp⟩⟩
 ·rename_i kt et b p lo n hkt hd
  split at h<;>try (cases h; done)
  rename_i kb y sh hrd;split at h<;>try (cases h; done)
  rename_i o' m e hoff';split at h<;>try (cases h; done)
  rename_i hsame;simp only [Option.some.injEq] at h;subst h;have e1:=Ar hsame;subst e1;have hm:me b=some (.var kb y sh):=by rw [hacc b (by simp)]; exact hrd
  obtain ⟨kb',x,sh',o,m',e',hm',hok',hoff,hln,hgs,hwin⟩:=hG;rw [hm] at hm';cases hm';rw [hoff'] at hoff;cases hoff;have hb:=Db hok;rcases hwin with ⟨hg,rfl,hn0⟩ | ⟨g,oo,cap,hg,rfl,hcap,ho⟩
  ·omega
  ·have ho':oo=(pl b).off+o'+lo*e.size:=by rcases ho with h0 | h0; (exfalso; omega); exact h0
   subst ho';refine ⟨_,D2 hT hkt hd hok _ _,rfl,kb,y,sh,o'+(lo+i.toNat)*e.size,g,hm,Gb hoff' hok' (by show lo+i.toNat<m; omega),E7 hoff' rfl,hg,by rw [Nat.add_mul]; simp; omega⟩
theorem Vr (hT:Av P T) {t:TypeId} {sv si:SV} {nx:Nat} {r:ARes} {v vi:Value} (h:zlj T t sv si nx=some r) (hok:r.ok=true)
  (hG:G S w me pl sv v) (hGi:G S w me pl si vi):∃u,(Instr.index t v vi).run P w=.ok u w∧r.wr=[]∧G S w me pl r.sv u:=by
 unfold zlj at h;split at h<;>try (cases h; done)
 rename_i ik i;rw [VRd.int.1 hGi];split at h<;>try (cases h; done)
 ·rename_i kt n et k z hkt hd
  split at h<;>try (cases h; done)
  rename_i m e l hsame heq;simp only [Option.some.injEq] at h;subst h;cases heq;have e1:=Ar hsame;subst e1;obtain ⟨hmn,het⟩:=Np hT hkt hd;have hb:=Db hok;obtain ⟨cs,⟨hlm,hr⟩,rfl⟩:=hG;obtain ⟨c1,c2,c3,ee,hl,hr2,_⟩:=RdL.nth (Rd.length e) i.toNat e.zero hr (by omega);refine ⟨_,?_,rfl,c2,hr2,rfl⟩;have hp:=zcf (w:=w) hT (cs:=cs.toArray) het (by simpa using ee) hl hr2;have hag:(Kd.arr m e).mkV cs=.agg cs.toArray:=rfl;rw [hag];simp [Instr.index,asIntOf,run_underlying (Ag hT hd),hb,As hT w het];exact hp
 ·rename_i s hkt hd
  simp only [Option.some.injEq] at h;subst h;have hb:=Db hok;rw [VRd.str.1 hG];have hlt:i.toNat<s.size:=by omega
  refine ⟨.int .u8 ((s.data.toList.getD i.toNat 0).toNat:Int),?_,rfl,VRd.int.2 rfl⟩;have:s[i.toNat]?=some (s.data.toList.getD i.toNat 0):=by
   have h1:s[i.toNat]?=some s[i.toNat]:=by simp [hlt]
   rw [h1]
   congr 1
   have h2:i.toNat<s.data.toList.length:=by simpa using hlt
   rw [List.getD_eq_getElem?_getD,List.getElem?_eq_getElem h2];rfl
  simp [Instr.index,asIntOf,run_underlying (Ag hT hd),hb.1,this]
theorem zfg (hT:Av P T) {rd:Nat→Option Blk} {t ty:TypeId} {sv:SV} {nx:Nat} {r:ARes} {v:Value} (h:aLen T rd t sv nx=some r) (hacc:∀i∈r.acc,me i=rd i)
  (hI:Inv C tm me pl S a w) (hG:G S w me pl sv v):∃u,(Builtin.len_ #[t] ty #[v]).run P w=.ok u w∧r.wr=[]∧G S w me pl r.sv u:=by
 unfold aLen at h;split at h<;>try (cases h; done)
 ·rename_i s hd
  simp only [ok1,Option.some.injEq] at h;subst h;rw [VRd.str.1 hG];exact ⟨_,by simp [Builtin.len_,run_underlying (Ag hT hd)]; rfl,rfl,VRd.int.2 rfl⟩
 ·rename_i n et hd
  simp only [ok1,Option.some.injEq] at h;subst h;exact ⟨_,by simp [Builtin.len_,run_underlying (Ag hT hd)]; rfl,rfl,VRd.int.2 rfl⟩
 ·rename_i et hd
  simp only [ok1,Option.some.injEq] at h;subst h;rw [show v=_ from hG];exact ⟨_,by simp [Builtin.len_,run_underlying (Ag hT hd)]; rfl,rfl,VRd.int.2 rfl⟩
 ·rename_i et e l hd
  simp only [ok1,Option.some.injEq] at h;subst h;rcases VRd.sl.1 hG with ⟨rfl,hl⟩ | ⟨g,off,cap,c,ty',fr,rfl,_⟩ | ⟨a0,rfl,hl⟩
  rotate_left 2
  ·subst hl
   exact ⟨_,by simp [Builtin.len_,run_underlying (Ag hT hd)]; rfl,rfl,VRd.int.2 rfl⟩
  ·subst hl
   exact ⟨_,by simp [Builtin.len_,run_underlying (Ag hT hd)]; rfl,rfl,VRd.int.2 rfl⟩
  ·exact ⟨_,by simp [Builtin.len_,run_underlying (Ag hT hd)]; rfl,rfl,VRd.int.2 rfl⟩
 ·rename_i et j ver hd
  split at h<;>try (cases h; done)
  rename_i e l ver' sh hrd;split at h<;>try (cases h; done)
  rename_i hver;simp only [Option.some.injEq] at h;subst h;have hm:me j=some (.row e l ver' sh):=by rw [hacc j (by simp)]; exact hrd
  obtain ⟨e',l',ver2,sh',hm',hle,hh⟩:=hG;rw [hm] at hm';cases hm';rcases hh (Nat.eq_of_beq_eq_true hver).symm with ⟨hg,rfl⟩ | ⟨g,hg,rfl⟩
  ·rcases hI.mem j _ hm with ⟨_,hl,_⟩ | ⟨g,c,t,hg',_⟩
   ·subst hl
    exact ⟨_,by simp [Builtin.len_,run_underlying (Ag hT hd)]; rfl,rfl,VRd.int.2 rfl⟩
   ·rw [hg] at hg'; cases hg'
  ·exact ⟨_,by simp [Builtin.len_,run_underlying (Ag hT hd)]; rfl,rfl,VRd.int.2 rfl⟩
 ·rename_i et j ver lo n hd
  split at h<;>try (cases h; done)
  rename_i e l ver' sh hrd;split at h<;>try (cases h; done)
  rename_i hver;simp only [Option.some.injEq] at h;subst h;have hm:me j=some (.row e l ver' sh):=by rw [hacc j (by simp)]; exact hrd
  obtain ⟨e',l',ver2,sh',hm',hle,hh⟩:=hG;rw [hm] at hm';cases hm';obtain ⟨hln,hwin⟩:=hh (Nat.eq_of_beq_eq_true hver).symm;rcases hwin with ⟨hg,rfl,hn0⟩ | ⟨g,o,cap,hg,rfl,hcap,ho⟩
  ·subst hn0
   exact ⟨_,by simp [Builtin.len_,run_underlying (Ag hT hd)]; rfl,rfl,VRd.int.2 rfl⟩
  ·exact ⟨_,by simp [Builtin.len_,run_underlying (Ag hT hd)]; rfl,rfl,VRd.int.2 rfl⟩
 ·rename_i et b p lo n hd
  simp only [ok1,Option.some.injEq] at h;subst h;obtain ⟨kb',x,sh',o,m',e',hm',hok',hoff,hln,hgs,hwin⟩:=hG;rcases hwin with ⟨hg,rfl,hn0⟩ | ⟨g,oo,cap,hg,rfl,hcap,ho⟩
  ·subst hn0
   exact ⟨_,by simp [Builtin.len_,run_underlying (Ag hT hd)]; rfl,rfl,VRd.int.2 rfl⟩
  ·exact ⟨_,by simp [Builtin.len_,run_underlying (Ag hT hd)]; rfl,rfl,VRd.int.2 rfl⟩
 ·rename_i kt et j hd
  split at h<;>try (cases h; done)
  rename_i kk kv m hrd;simp only [Option.some.injEq] at h;subst h;have hm:me j=some (.map kk kv m):=by rw [hacc j (by simp)]; exact hrd
  obtain ⟨kk',kv',m',g,hm',hg,rfl⟩:=hG;rw [hm] at hm';cases hm';obtain ⟨g',es,t',hg',_,hes,_,hmg⟩:=hI.mem j _ hm;rw [hg] at hg';cases hg';have hl:=hmg.length;simp only [Array.length_toList] at hl;refine ⟨.int .i64 (es.size:Int),?_,rfl,?_⟩
  ·have hgo:(getObj g).run P w=.ok (.map es t') w:=by simp [getObj,Sem.run,hes]
   simp [Builtin.len_,run_underlying (Ag hT hd),hgo];rfl
  ·exact VRd.int.2 (by rw [hl])
end
section
variable {C:Ctx} {tm:Nat→SV} {me:Nat→Option Blk} {pl:Nat→Plc} {S:Nat→Prop} {a:Act} {w:World} {P:Program} {T:Tab}
def OG (S:Nat→Prop) (w:World) (me:Nat→Option Blk) (pl:Nat→Plc):Option SV→Option Value→Prop
 | none,v=>v=none
 | some sv,v=>∃u,v=some u∧G S w me pl sv u
def OV (d:Int) (o:Option Value) (x:Int):Prop:=(o=none∧x=d)∨∃k,o=some (.int k x)
theorem A3 {d x:Int} {o:Option SV} {v:Option Value} (h:Ha d o=some x) (hG:OG S w me pl o v):OV d v x:=by
 unfold Ha at h;split at h
 ·cases h; exact .inl ⟨hG,rfl⟩
 ·cases h
  obtain ⟨u,rfl,hu⟩:=hG;rw [VRd.int.1 hu];exact .inr ⟨_,rfl⟩
 ·cases h
theorem Cb (k:IntKind) (i:Int) (y:Nat) (c:BoundsCode) (h0:0≤i) (h1:i≤y):(Instr.sliceBound (.int k i) y c).run P w=.ok i.toNat w:=by
 simp [Instr.sliceBound,asIntOf,h0,h1]
theorem E5 {b:Bool} {len cap:Nat} {lo hi mx:Option Value} {l h m:Int} (hl:OV 0 lo l) (hh:OV len hi h) (hm:(mx=none∧m=cap)∨((∃k,mx=some (.int k m))∧∃u,hi=some u))
  (h0:0≤l) (h1:l≤h) (h2:h≤m) (h3:m≤cap):(Instr.sliceBounds b len cap lo hi mx).run P w=.ok (l.toNat,h.toNat,m.toNat) w:=by
 have e0:0≤h:=by omega
 have e1:0≤m:=by omega
 have em:((m.toNat:Nat):Int)=m:=by omega
 rcases hm with ⟨rfl,rfl⟩ | ⟨⟨km,rfl⟩,u,hu⟩
 ·rcases hh with ⟨rfl,rfl⟩ | ⟨kh,rfl⟩
  ·rcases hl with ⟨rfl,rfl⟩ | ⟨kl,rfl⟩
   ·simp [Instr.sliceBounds]
   ·have:=Cb (P:=P) (w:=w) kl l len .sliceB h0 (by simpa using h1)
    simp [Instr.sliceBounds,this]
  ·have a1:=fun c=>Cb (P:=P) (w:=w) kh h cap c e0 (by simpa using h2)
   rcases hl with ⟨rfl,rfl⟩ | ⟨kl,rfl⟩
   ·simp [Instr.sliceBounds,a1]
   ·have:=Cb (P:=P) (w:=w) kl l h.toNat .sliceB h0 (by omega)
    simp [Instr.sliceBounds,a1,this]
 ·rcases hh with ⟨rfl,rfl⟩ | ⟨kh,rfl⟩
  ·cases hu
  ·have a0:=fun c=>Cb (P:=P) (w:=w) km m cap c e1 h3
   have a1:=fun c=>Cb (P:=P) (w:=w) kh h m.toNat c e0 (by omega)
   rcases hl with ⟨rfl,rfl⟩ | ⟨kl,rfl⟩
   ·simp [Instr.sliceBounds,a0,a1]
   ·have:=Cb (P:=P) (w:=w) kl l h.toNat .slice3C h0 (by omega)
    simp [Instr.sliceBounds,a0,a1,this]
theorem Be (hT:Av P T) {t et:TypeId} {sz:Nat} (hd:Bp T t=some (.slice et)) (hz:(sizeOf et).run P w=.ok sz w) {a0:Option Addr} {len cap:Nat} {lo hi mx:Option Value} {l h m:Int} (hl:OV 0 lo l) (hh:OV len hi h)
  (hm:(mx=none∧m=cap)∨((∃k,mx=some (.int k m))∧∃u,hi=some u)) (h0:0≤l) (h1:l≤h) (h2:h≤m) (h3:m≤cap):
  (Instr.sliceAt t (.slice a0 len cap) lo hi mx).run P w=.ok (.slice (if m.toNat=l.toNat then a0 else a0.map (·.add (l.toNat*sz))) (h.toNat - l.toNat) (m.toNat - l.toNat)) w:=by
 have hu:=Ag hT hd;simp only [Instr.sliceAt,Sem.run_bind,run_underlying hu,Result.andThen_ok,Instr.slice,E5 (P:=P) (w:=w) hl hh hm h0 h1 h2 h3,hz,Sem.run_pure]
theorem Nx (hT:Av P T) {t et:TypeId} {sz n:Nat} (hd:Bp T t=some (.array n et)) (hz:(sizeOf et).run P w=.ok sz w) {a0:Addr} {lo hi:Option Value} {l h:Int} (hl:OV 0 lo l) (hh:OV n hi h)
  (h0:0≤l) (h1:l≤h) (h2:h≤n):
  (Instr.sliceAt t (.pointer (some a0)) lo hi none).run P w=.ok (.slice (some (if n=l.toNat then a0 else a0.add (l.toNat*sz))) (h.toNat - l.toNat) (n - l.toNat)) w:=by
 have hu:=Ag hT hd;have hb:=E5 (P:=P) (w:=w) (b:=false) (mx:=none) (m:=n) hl hh (.inl ⟨rfl,rfl⟩) h0 h1 h2 (Int.le_refl _);simp only [Int.toNat_natCast] at hb;simp only [Instr.sliceAt,Sem.run_bind,run_underlying hu,Result.andThen_ok,Ax,hb,hz,Sem.run_pure]
theorem Ou {g o sz:Nat} {l h m:Int} (h0:0≤l) (h1:l≤h) (h2:h≤m):
  ∃o',(if m.toNat=l.toNat then (some ⟨g,o,none⟩:Option Addr) else (some (⟨g,o,none⟩:Addr)).map (·.add (l.toNat*sz)))=some ⟨g,o',none⟩∧((h - l).toNat=0∨o'=o+l.toNat*sz):=by
 split
 ·exact ⟨o,rfl,.inl (by omega)⟩
 ·exact ⟨o+l.toNat*sz,by simp [add_eq],.inr rfl⟩
theorem WinV.sub (hT:Av P T) {t et:TypeId} {sz:Nat} (hd:Bp T t=some (.slice et)) (hz:(sizeOf et).run P w=.ok sz w) {g:Option Nat} {off lo0 n:Nat} {v:Value} (hw:WinV g off sz lo0 n v)
  {lo hi mx:Option Value} {l h m:Int} (hl:OV 0 lo l) (hh:OV n hi h) (hm:(mx=none∧m=h)∨((∃k,mx=some (.int k m))∧∃u,hi=some u)) (h0:0≤l) (h1:l≤h) (h2:h≤m) (h3:m≤n):
  ∃u,(Instr.sliceAt t v lo hi mx).run P w=.ok u w∧WinV g off sz (lo0+l.toNat) (h - l).toNat u:=by
 rcases hw with ⟨rfl,rfl,rfl⟩ | ⟨b,o,cap,rfl,rfl,hc,ho⟩
 ·have e1:l=0:=by omega
  have e2:h=0:=by omega
  have e3:m=0:=by omega
  subst e1 e2 e3;have hm':(mx=none∧(0:Int)=(0:Nat))∨((∃k,mx=some (.int k 0))∧∃u,hi=some u):=hm.imp (fun x=>⟨x.1,rfl⟩) id;exact ⟨_,Be hT hd hz hl hh hm' (by omega) (by omega) (by omega) (by omega),.inl ⟨rfl,by simp,rfl⟩⟩
 ·rcases hm with ⟨rfl,rfl⟩ | hm
  ·obtain ⟨o',ho',hoo⟩:=Ou (g:=b) (o:=o) (sz:=sz) (l:=l) (h:=m) (m:=cap) h0 h1 (by omega)
   refine ⟨_,Be hT hd hz hl hh (.inl ⟨rfl,rfl⟩) h0 h1 (by omega) (by omega),?_⟩;rw [ho'];refine .inr ⟨b,o',_,rfl,by congr 1; omega,by simp; omega,?_⟩;rcases hoo with hoo | hoo
   ·exact .inl hoo
   ·rcases ho with ho | ho
    ·exact .inl (by omega)
    ·exact .inr (by rw [hoo,ho,Nat.add_mul]; omega)
  ·obtain ⟨o',ho',hoo⟩:=Ou (g:=b) (o:=o) (sz:=sz) (l:=l) (h:=h) (m:=m) h0 h1 h2
   refine ⟨_,Be hT hd hz hl hh (.inr hm) h0 h1 h2 (by omega),?_⟩;rw [ho'];refine .inr ⟨b,o',_,rfl,by congr 1; omega,by omega,?_⟩;rcases hoo with hoo | hoo
   ·exact .inl hoo
   ·rcases ho with ho | ho
    ·exact .inl (by omega)
    ·exact .inr (by rw [hoo,ho,Nat.add_mul]; omega)
theorem Vp (hT:Av P T) {rd:Nat→Option Blk} {t:TypeId} {sv:SV} {slo shi smx:Option SV} {nx:Nat} {r:ARes} {v:Value} {vlo vhi vmx:Option Value} (h:zlh T rd t sv slo shi smx nx=some r) (hok:r.ok=true) (hacc:∀i∈r.acc,me i=rd i)
  (hI:Inv C tm me pl S a w) (hG:G S w me pl sv v) (hlo:OG S w me pl slo vlo) (hhi:OG S w me pl shi vhi) (hmx:OG S w me pl smx vmx):
  ∃u,(Instr.sliceAt t v vlo vhi vmx).run P w=.ok u w∧r.wr=[]∧G S w me pl r.sv u:=by
 have mxcase:∀{h m:Int},Ha h smx=some m→mxok shi smx=true→(vmx=none∧m=h)∨((∃k,vmx=some (.int k m))∧∃u,vhi=some u):=by
  intro h m h1 h2;cases smx with
  | none=>simp only [Ha,Option.some.injEq] at h1; exact .inl ⟨hmx,h1.symm⟩
  | some s=>
   rcases A3 h1 hmx with ⟨h3,_⟩ | ⟨k,h3⟩
   ·obtain ⟨u,hu,_⟩:=hmx; rw [h3] at hu; cases hu
   ·refine .inr ⟨⟨k,h3⟩,?_⟩
    cases shi with
    | none=>simp [mxok] at h2
    | some s'=>obtain ⟨u,hu,_⟩:=hhi; exact ⟨u,hu⟩
 unfold zlh at h;split at h<;>try (cases h; done)
 ·rename_i s hd
  split at h<;>try (cases h; done)
  rename_i l hh e1 e2;simp only [Option.some.injEq] at h;subst h;have hc:=of_decide_eq_true hok;have hv:=VRd.str.1 hG;subst hv;simp only [OG] at hmx;subst hmx;have hb:=E5 (P:=P) (w:=w) (b:=false) (mx:=none) (m:=s.size) (A3 e1 hlo) (A3 e2 hhi) (.inl ⟨rfl,rfl⟩) hc.1 hc.2.1 hc.2.2 (Int.le_refl _);refine ⟨_,?_,rfl,VRd.str.2 rfl⟩;simp only [Instr.sliceAt,Sem.run_bind,run_underlying (Ag hT hd),Result.andThen_ok,Instr.slice,Option.isSome_none,Bool.false_eq_true,if_false,Sem.run_pure,hb]
 ·rename_i n et b p k hd
  split at h<;>try (cases h; done)
  rename_i kt hkt;split at h<;>try (cases h; done)
  rename_i l hh hsame e1 e2;simp only [Option.some.injEq] at h;subst h;have es:=Ar hsame;subst es;have hc:=of_decide_eq_true hok;simp only [OG] at hmx;subst hmx;obtain ⟨kb,x,sh,o,g,hm,hok',hoff,hg,rfl⟩:=hG;have hdo:=Fh hT hkt hd;cases kt<;>simp [B6] at hdo
  rename_i m e;obtain ⟨rfl,het⟩:=hdo;have hz:=As hT w (A2 het);obtain ⟨o',ho',hoo⟩:=Ou (g:=g) (o:=(pl b).off+o) (sz:=e.size) (l:=l) (h:=hh) (m:=n) hc.1 hc.2.1 hc.2.2;refine ⟨_,Nx hT hd hz (A3 e1 hlo) (A3 e2 hhi) hc.1 hc.2.1 hc.2.2,rfl,kb,x,sh,o,_,e,hm,hok',hoff,by omega,by simp [hg],?_⟩;refine .inr ⟨g,o',n - l.toNat,hg,?_,by omega,hoo⟩;have:(some (if n=l.toNat then (⟨g,(pl b).off+o,none⟩:Addr) else (⟨g,(pl b).off+o,none⟩:Addr).add (l.toNat*e.size)))=some ⟨g,o',none⟩:=by
   rw [←ho'];simp only [Int.toNat_natCast];split<;>rfl
  rw [this]
  congr 1; omega
 ·rename_i et e z hd
  split at h<;>try (cases h; done)
  rename_i l hh kt e1 e2 hkt;split at h<;>try (cases h; done)
  rename_i m e3 e4 hsame;simp only [Option.some.injEq] at h;subst h;have es:=Ar hsame;subst es;have hc:=of_decide_eq_true hok;have hz:=As hT w (E2 hT hkt hd);have hll:(List.take (hh - l).toNat (List.drop l.toNat z)).length=(hh - l).toNat:=by simp; omega
  rcases VRd.sl.1 hG with ⟨rfl,hz0⟩ | ⟨g,off,cap,c,ty,fr,rfl,hcap,hS,hc2,hr⟩ | ⟨a0,rfl,hz0⟩
  rotate_left 2
  ·subst hz0
   have hc0:=hc;simp only [List.length_nil] at hc0;have q1:l=0:=by omega
   have q2:hh=0:=by omega
   have q3:m=0:=by omega
   subst q1 q2 q3;refine ⟨_,Be (w:=w) hT hd hz (a0:=some a0) (len:=0) (cap:=0) (A3 e1 hlo) (A3 e2 hhi) ((mxcase e3 e4).imp (fun x=>⟨x.1,rfl⟩) id) (by omega) (by omega) (by omega) (by omega),rfl,VRd.sl.2 (.inr (.inr ⟨a0,?_,by simp⟩))⟩;simp
  ·subst hz0
   obtain ⟨u,h1,h2⟩:=WinV.sub hT hd hz (g:=none) (off:=0) (lo0:=0) (n:=0) (.inl ⟨rfl,rfl,rfl⟩) (A3 e1 hlo) (A3 e2 hhi) (mxcase e3 e4) hc.1 hc.2.1 hc.2.2.1 hc.2.2.2;refine ⟨u,h1,rfl,VRd.sl.2 (.inl ?_)⟩;rcases h2 with ⟨_,rfl,h3⟩ | ⟨b,o,cap,hb,_⟩
   ·exact ⟨rfl,by simp⟩
   ·cases hb
  ·obtain ⟨u,h1,h2⟩:=WinV.sub hT hd hz (g:=some g) (off:=off) (lo0:=0) (n:=List.length z) (.inr ⟨g,off,cap,rfl,rfl,hcap,.inr (by simp)⟩) (A3 e1 hlo) (A3 e2 hhi) (mxcase e3 e4) hc.1 hc.2.1 hc.2.2.1 hc.2.2.2
   refine ⟨u,h1,rfl,VRd.sl.2 ?_⟩;rcases h2 with ⟨hb,_⟩ | ⟨b,o,cap',hb,rfl,hcap',ho⟩
   ·cases hb
   ·cases hb
    refine .inr (.inl ⟨g,o,cap',c,ty,fr,by rw [hll],by rw [hll]; exact hcap',hS,hc2,?_⟩);rw [hll];rcases ho with ho | ho
    ·rw [ho]; simp [RdL]
    ·have:=RdL.window (Rd.length e) hr l.toNat (hh - l).toNat
     rw [List.drop_take,List.drop_drop,List.take_take,Nat.min_eq_left (by rw [←Nat.mul_sub_right_distrib]; exact Nat.mul_le_mul_right _ (by omega))] at this;rw [ho,Nat.zero_add]; exact this
 ·rename_i et j ver hd
  split at h<;>try (cases h; done)
  rename_i e z ver' sh hrd;split at h<;>try (cases h; done)
  rename_i l hh kt hver e1 e2 hkt;split at h<;>try (cases h; done)
  rename_i m e3 e4 hsame;simp only [Option.some.injEq] at h;subst h;have es:=Ar hsame;subst es;have hc:=of_decide_eq_true hok;have hz:=As hT w (E2 hT hkt hd);have hm:me j=some (.row e z ver' sh):=by rw [hacc j (by simp)]; exact hrd
  obtain ⟨e',l',ver2,sh',hm',hle,hh'⟩:=hG;rw [hm] at hm';cases hm';have hrow:=hh' (Nat.eq_of_beq_eq_true hver).symm;have hwin:WinV (pl j).g 0 e.size 0 z.length v:=by
   rcases hI.mem j _ hm with ⟨hg,hl,_⟩ | ⟨g,c,t,hg',_,_,h6,_⟩
   ·subst hl
    rcases hrow with ⟨_,rfl⟩ | ⟨g,hg',_⟩
    ·exact .inl ⟨hg,rfl,rfl⟩
    ·rw [hg] at hg'; cases hg'
   ·rcases hrow with ⟨hg,_⟩ | ⟨g,hg,rfl⟩
    ·rw [hg] at hg'; cases hg'
    ·exact .inr ⟨g,0,_,hg,rfl,h6,.inr (by simp)⟩
  obtain ⟨u,h1,h2⟩:=WinV.sub hT hd hz hwin (A3 e1 hlo) (A3 e2 hhi) (mxcase e3 e4) hc.1 hc.2.1 hc.2.2.1 hc.2.2.2;rw [Nat.zero_add] at h2;exact ⟨u,h1,rfl,e,z,ver',sh,hm,hle,fun _=>⟨by omega,h2⟩⟩
 ·rename_i et j ver lo' n hd
  split at h<;>try (cases h; done)
  rename_i e z ver' sh hrd;split at h<;>try (cases h; done)
  rename_i l hh hver e1 e2;split at h<;>try (cases h; done)
  rename_i kt hkt;split at h<;>try (cases h; done)
  rename_i hsame;simp only [Option.some.injEq] at h;subst h;have es:=Ar hsame;subst es;have hc:=of_decide_eq_true hok;have hz:=As hT w (E2 hT hkt hd);have hm:me j=some (.row e z ver' sh):=by rw [hacc j (by simp)]; exact hrd
  obtain ⟨e',l',ver2,sh',hm',hle,hh'⟩:=hG;rw [hm] at hm';cases hm';obtain ⟨hln,hwin⟩:=hh' (Nat.eq_of_beq_eq_true hver).symm;simp only [OG] at hmx;subst hmx;obtain ⟨u,h1,h2⟩:=WinV.sub hT hd hz hwin (mx:=none) (m:=hh) (A3 e1 hlo) (A3 e2 hhi) (.inl ⟨rfl,rfl⟩) hc.1 hc.2.1 (Int.le_refl _) hc.2.2;exact ⟨u,h1,rfl,e,z,ver',sh,hm,hle,fun _=>⟨by omega,h2⟩⟩
 ·rename_i et b p lo' n hd
  split at h<;>try (cases h; done)
  rename_i l hh e1 e2;split at h<;>try (cases h; done)
  rename_i kb y sh kt hrd hkt;split at h<;>try (cases h; done)
  rename_i o' m e hoff';split at h<;>try (cases h; done)
  rename_i hsame;simp only [Option.some.injEq] at h;subst h;have es:=Ar hsame;subst es;have hc:=of_decide_eq_true hok;have hz:=As hT w (E2 hT hkt hd);have hm:me b=some (.var kb y sh):=by rw [hacc b (by simp)]; exact hrd
  obtain ⟨kb',x,sh',o,m',e',hm',hok',hoff,hln,hgs,hwin⟩:=hG;rw [hm] at hm';cases hm';rw [hoff'] at hoff;cases hoff;simp only [OG] at hmx;subst hmx;obtain ⟨u,h1,h2⟩:=WinV.sub hT hd hz hwin (mx:=none) (m:=hh) (A3 e1 hlo) (A3 e2 hhi) (.inl ⟨rfl,rfl⟩) hc.1 hc.2.1 (Int.le_refl _) hc.2.2;exact ⟨u,h1,rfl,kb,y,sh,o',m,e,hm,hok',hoff',by omega,hgs,h2⟩
end
section
variable {C:Ctx} {tm:Nat→SV} {me:Nat→Option Blk} {pl:Nat→Plc} {S:Nat→Prop} {a:Act} {w:World} {P:Program} {T:Tab}
theorem Sp (hT:Av P T) {rd:Nat→Option Blk} {t:TypeId} {sv:SV} {nx:Nat} {r:ARes} {v:Value} (h:Zt T rd t sv nx=some r) (hok:r.ok=true) (hacc:∀i∈r.acc,me i=rd i)
  (hG:G S w me pl sv v):∃u,(Instr.arrayAt t v).run P w=.ok u w∧r.wr=[]∧G S w me pl r.sv u:=by
 unfold Zt at h;split at h<;>try (cases h; done)
 ·rename_i n e e' l hkt
  split at h<;>try (cases h; done)
  rename_i hs;simp only [Bool.and_eq_true] at hs;simp only [Option.some.injEq] at h;subst h;have es:=Ar hs.1;subst es;have hn:0<n:=by simpa [Nat.blt_eq] using hs.2
  have hle:n≤List.length l:=by have:=of_decide_eq_true hok; omega
  obtain ⟨d,e1,e2⟩:=zla hT hkt;have hdo:∃et,P.underlying t=some (.array n et):=by
   obtain ⟨dd,h1,h2,h3⟩:=Bz hT hkt;have h4:=(h3.kd _ h2).2;have h5:=h3.und;cases hdd:dd.desc<;>simp [hdd,B6] at h4
   ·rw [hdd] at h5; exact ⟨_,by rw [h5,h4.1]⟩
   ·rename_i fs; cases hfs:fs.toList<;>simp [hfs,Aw] at h4
  obtain ⟨et,hu⟩:=hdo;rcases VRd.sl.1 hG with ⟨rfl,hl⟩ | ⟨g,off,cap,c,ty,fr,rfl,hcap,hS,hc,hr⟩ | ⟨a0,rfl,hl⟩
  rotate_left 2
  ·subst hl; simp at hle; omega
  ·subst hl; simp at hle; omega
  ·refine ⟨.pointer (some ⟨g,off,none⟩),?_,rfl,g,off,c,ty,fr,rfl,hS,hc,by simp; omega,?_⟩
   ·simp [Instr.arrayAt,run_underlying hu]
    intro h; omega
   ·have:=RdL.window (Rd.length e) hr 0 n
    rw [Nat.zero_mul,List.drop_zero,List.drop_zero,List.take_take,Nat.min_eq_left (Nat.mul_le_mul_right _ hle)] at this;exact this
 ·rename_i n e b p lo m hkt
  split at h<;>try (cases h; done)
  rename_i kb y sh hrd;split at h<;>try (cases h; done)
  rename_i o' m' e' hoff';split at h<;>try (cases h; done)
  rename_i hs;simp only [Bool.and_eq_true] at hs;simp only [Option.some.injEq] at h;subst h;have es:=Ar hs.1;subst es;have hn:0<n:=by simpa [Nat.blt_eq] using hs.2
  have hle:n≤m:=by have:=of_decide_eq_true hok; omega
  have hdo:∃et,P.underlying t=some (.array n et):=by
   obtain ⟨dd,h1,h2,h3⟩:=Bz hT hkt;have h4:=(h3.kd _ h2).2;have h5:=h3.und;cases hdd:dd.desc<;>simp [hdd,B6] at h4
   ·rw [hdd] at h5; exact ⟨_,by rw [h5,h4.1]⟩
   ·rename_i fs; cases hfs:fs.toList<;>simp [hfs,Aw] at h4
  obtain ⟨et,hu⟩:=hdo;have hm:me b=some (.var kb y sh):=by rw [hacc b (by simp)]; exact hrd
  obtain ⟨kb',x,sh',o,m2,e2,hm',hok',hoff,hln,hgs,hwin⟩:=hG;rw [hm] at hm';cases hm';rw [hoff'] at hoff;cases hoff;rcases hwin with ⟨hg,rfl,hn0⟩ | ⟨g,oo,cap,hg,rfl,hcap,ho⟩
  ·omega
  ·have ho':oo=(pl b).off+o'+lo*e.size:=by rcases ho with h0 | h0; (exfalso; omega); exact h0
   subst ho';refine ⟨_,?_,rfl,kb,y,sh,o',m',e,g,hm,hok',hoff',by omega,hg,rfl⟩;simp [Instr.arrayAt,run_underlying hu];intro h; omega
theorem F7 {rd:Nat→Option Blk} {sv:SV} {e:Kd} {xs:List e.T} {acc:List Nat} {v:Value} (h:rdSl rd sv=some ⟨e,xs,acc⟩) (hacc:∀i∈acc,me i=rd i)
  (hI:Inv C tm me pl S a w) (hG:G S w me pl sv v):RdSl (Rd S w e) (fun _=>True) w e.size xs v:=by
 cases sv<;>simp only [rdSl] at h<;>try (cases h; done)
 case val k x=>
  cases k<;>simp only [reduceCtorEq] at h
  simp only [Option.some.injEq] at h;cases h;exact RdSl.mono (fun b _=>⟨trivial,rfl⟩) (fun _ _ h=>h) (VRd.sl.1 hG)
 case nnv e' l=>
  simp only [Option.some.injEq] at h;cases h;exact RdSl.mono (fun b _=>⟨trivial,rfl⟩) (fun _ _ h=>h) (VRd.sl.1 hG.2)
 case own j ver=>
  split at h<;>try (cases h; done)
  rename_i e' l ver' sh hrd;split at h<;>try (cases h; done)
  rename_i hver;simp only [Option.some.injEq] at h;cases h;have hm:me j=some (.row e xs ver' sh):=by rw [hacc j (by simp)]; exact hrd
  obtain ⟨e',l',ver2,sh',hm',hle,hh⟩:=hG;rw [hm] at hm';cases hm';rcases hh (Nat.eq_of_beq_eq_true hver).symm with ⟨hg,rfl⟩ | ⟨g,hg,rfl⟩
  ·rcases hI.mem j _ hm with ⟨_,hl,_⟩ | ⟨g,c,t,hg',_⟩
   ·exact .inl ⟨rfl,hl⟩
   ·rw [hg] at hg'; cases hg'
  ·rcases hI.mem j _ hm with ⟨hg',hl,_⟩ | ⟨g',c,t,hg',h4,h5,h6,h7,h8,h9,h10⟩
   ·rw [hg] at hg'; cases hg'
   ·rw [hg] at hg'
    cases hg';exact .inr (.inl ⟨g,0,_,c,t,_,rfl,h6,trivial,h5,by simpa using h9⟩)
 case win j ver lo n=>
  split at h<;>try (cases h; done)
  rename_i e' l ver' sh hrd;split at h<;>try (cases h; done)
  rename_i hver;simp only [Option.some.injEq] at h;cases h;have hm:me j=some (.row e l ver' sh):=by rw [hacc j (by simp)]; exact hrd
  obtain ⟨e',l',ver2,sh',hm',hle,hh⟩:=hG;rw [hm] at hm';cases hm';obtain ⟨hlen,hwin⟩:=hh (Nat.eq_of_beq_eq_true hver).symm;have hll:(List.take n (List.drop lo l)).length=n:=by simp; omega
  rcases hwin with ⟨hg,rfl,hn0⟩ | ⟨g,o,cap,hg,rfl,hcap,ho⟩
  ·subst hn0; exact .inl ⟨rfl,by simp⟩
  ·rcases hI.mem j _ hm with ⟨hg',hl,_⟩ | ⟨g',c,t,hg',h4,h5,h6,h7,h8,h9,h10⟩
   ·rw [hg] at hg'; cases hg'
   ·rw [hg] at hg'
    cases hg';refine .inr (.inl ⟨g,o,cap,c,t,_,by rw [hll],by rw [hll]; exact hcap,trivial,h5,?_⟩);rw [hll];rcases ho with rfl | rfl
    ·simp [RdL]
    ·have:=RdL.window (Rd.length e) h9 lo n
     rw [Nat.zero_add];rw [List.drop_take,List.take_take] at this
     rwa [Nat.min_eq_left (by rw [←Nat.mul_sub_right_distrib]; exact Nat.mul_le_mul_right _ (by omega))] at this
 case asl b p lo n=>
  split at h<;>try (cases h; done)
  rename_i kb x sh hrd;split at h<;>try (cases h; done)
  rename_i m e' l hget;simp only [Option.some.injEq] at h;cases h;have hm:me b=some (.var kb x sh):=by rw [hacc b (by simp)]; exact hrd
  obtain ⟨kb',x',sh',o,m',e',hm',hok,hoff,hln,hgs,hwin⟩:=hG;rw [hm] at hm';cases hm';obtain ⟨ek,g,c,t,c1,c2,c3,hg,hc,hsz,hseg,hl1,hr2,_⟩:=hI.atPath hm hok hoff hget;cases ek;obtain ⟨hlm,hrl⟩:=hr2;have hll:(List.take n (List.drop lo l)).length=n:=by simp; omega
  rcases hwin with ⟨hg',rfl,hn0⟩ | ⟨g',o',cap,hg',rfl,hcap,ho⟩
  ·subst hn0; exact .inl ⟨rfl,by simp⟩
  ·rw [hg] at hg'
   cases hg';refine .inr (.inl ⟨g,o',cap,c,t,_,by rw [hll],by rw [hll]; exact hcap,trivial,hc,?_⟩);rw [hll];rcases ho with rfl | rfl
   ·simp [RdL]
   ·have h9:=RdL.window (Rd.length e) hrl lo n
    have hc2:=RdL.length (Rd.length e) hrl;rw [←hl1,Iu hseg (lo*e.size) (n*e.size) (by rw [hc2,←Nat.add_mul]; exact Nat.mul_le_mul_right _ (by omega))];exact h9
theorem RdSl.len {α:Type} {R:α→List Value→Prop} {S:Nat→Prop} {sz:Nat} {xs:List α} {v:Value} (h:RdSl R S w sz xs v):(Builtin.lenOf v).run P w=.ok xs.length w:=by
 rcases h with ⟨rfl,rfl⟩ | ⟨g,off,cap,c,t,fr,rfl,_⟩ | ⟨a0,rfl,rfl⟩<;>simp [Builtin.lenOf]
theorem RdSl.first {α:Type} {R:α→List Value→Prop} {S:Nat→Prop} {sz:Nat} (hn:∀x cs,R x cs→cs.length=sz) {xs:List α} {v:Value} (h:RdSl R S w sz xs v) {n:Nat} (hle:n≤xs.length):
  ∃cs,(Builtin.firstCells sz n v).run P w=.ok cs.toArray w∧RdL R (xs.take n) cs:=by
 rcases h with ⟨rfl,rfl⟩ | ⟨g,off,cap,c,t,fr,rfl,hcap,_,hc,hr⟩ | ⟨a0,rfl,rfl⟩
 rotate_left 2
 ·have h0:n=0:=by simpa using hle
  subst h0;exact ⟨[],run_firstCells_some (P:=P) w sz 0 a0 0 0 [] (by simp) (by simp),by simp [RdL]⟩
 ·exact ⟨[],by simp [Builtin.firstCells],by simp [RdL]⟩
 ·have hw:=RdL.window hn hr 0 n
  rw [Nat.zero_mul,List.drop_zero,List.drop_zero,List.take_take,Nat.min_eq_left (Nat.mul_le_mul_right _ hle)] at hw;refine ⟨_,run_firstCells_some (P:=P) w sz n ⟨g,off,none⟩ xs.length cap _ ?_ ?_,hw⟩
  ·have:=RdL.length hn hw
   have e2:(xs.take n).length=n:=by simp; omega
   rw [e2] at this;exact this
  ·intro j u hj
   rw [add_eq,cell_of_row w g (off+j) c t fr hc];exact Dl rfl j u hj
theorem RdL.one {S:Nat→Prop} {e:Kd} {xs:List e.T} {cs:List Value} (h:RdL (Rd S w e) xs cs):∀v∈cs,v.oneCell'=true:=RdL.all (Rd.one e) h
theorem RdL.take_drop {α:Type} {R:α→List Value→Prop} {sz:Nat} (hn:∀x cs,R x cs→cs.length=sz) {l:List α} {cs:List Value} (h:RdL R l cs) (n:Nat):
  RdL R (l.take n) (cs.take (n*sz))∧RdL R (l.drop n) (cs.drop (n*sz)):=by
 have h1:=RdL.window hn h 0 n;have h2:=RdL.window hn h n l.length;rw [Nat.zero_mul,List.drop_zero,List.drop_zero] at h1;refine ⟨h1,?_⟩;have hl:=RdL.length hn h;rw [List.take_of_length_le (by simp),List.take_of_length_le (by simp; rw [hl]; omega)] at h2;exact h2
theorem RdL.lay {α:Type} {R:α→List Value→Prop} {sz:Nat} (hn:∀x cs,R x cs→cs.length=sz) {l ys:List α} {cs ds:List Value} (h:RdL R l cs) (hy:RdL R ys ds) (lo:Nat):
  RdL R (lay l lo ys) (cs.take (lo*sz)++ds++cs.drop (lo*sz+ds.length)):=by
 unfold PG.lay;have h1:=(RdL.take_drop hn h lo).1;have h2:=(RdL.take_drop hn h (lo+ys.length)).2;have hd:=RdL.length hn hy;rw [hd,←Nat.add_mul];exact RdL.append (RdL.append h1 hy) h2
theorem Qg {α:Type} {l ys:List α} {lo:Nat} (h:lo+ys.length≤l.length):(lay l lo ys).length=l.length:=by
 unfold lay; simp; omega
end
section
variable {C:Ctx} {tm:Nat→SV} {me:Nat→Option Blk} {pl:Nat→Plc} {S:Nat→Prop} {a:Act} {w:World} {P:Program} {T:Tab}
theorem zbw {α:Type} {f:Nat→α} {i:Nat} {v:α} (h:f i=v):upd f i v=f:=by
 funext j; simp only [upd]; split
 ·subst_vars; rfl
 ·rfl
theorem lay_nil {α:Type} (l:List α) (lo:Nat):lay l lo []=l:=by unfold lay; simp
theorem RdL.mono {S S':Nat→Prop} {w w':World} (hs:∀b,S b→S' b∧w'.heap[b]?=w.heap[b]?) {e:Kd} {l:List e.T} {cs:List Value} (h:RdL (Rd S w e) l cs):RdL (Rd S' w' e) l cs:=
 RdL.imp (fun x cs hx=>Rd.mono hs e x cs hx) h
theorem Inv.copyRow (hI:Inv C tm me pl S a w) {j:Nat} {e:Kd} {l ys:List e.T} {v lo:Nat} (hm:me j=some (.row e l v false)) {ds:List Value} (hy:RdL (Rd S w e) ys ds) (hfit:lo+ys.length≤l.length)
  {b:Option Addr} (hb:ys=[]∨∃g,(pl j).g=some g∧b=some ⟨g,lo*e.size,none⟩):
  ∃w',(match b with | some a=>storeCells a ds | none=>pure ()).run P w=.ok () w'∧Inv C tm (upd me j (some (.row e (lay l lo ys) v false))) pl S a w':=by
 rcases hb with rfl | ⟨g,hg,rfl⟩
 ·simp only [RdL] at hy
  subst hy;refine ⟨w,?_,?_⟩
  ·cases b<;>simp [storeCells]
  ·rw [lay_nil,zbw hm]; exact hI
 ·rcases hI.mem j _ hm with ⟨h0,_⟩ | ⟨g',c,t,hg',h1',h2,h3,h4,h5,h6,h7⟩
  ·rw [hg] at h0; cases h0
  ·rw [hg] at hg'
   cases hg';have hd:=RdL.length (Rd.length e) hy;have hle:l.length*e.size≤c.size:=by rw [h5]; exact Nat.mul_le_mul_right _ h3
   have hfit':lo*e.size+ds.length≤l.length*e.size:=by rw [hd,←Nat.add_mul]; exact Nat.mul_le_mul_right _ hfit
   have hst:=run_storeCells_at P g (lo*e.size) t ds 0 c w h2 (by omega) hy.one;simp only [Nat.add_zero] at hst;refine ⟨_,hst,hI.writeRow hm hg h2 hfit' (Qg hfit) (fun w' hw'=>?_)⟩;have h8:=RdL.lay (Rd.length e) (RdL.mono hw' h6) (RdL.mono hw' hy) lo;have hcl:c.toList.length=c.size:=by simp
   have e1:(c.toList.take (lo*e.size)++ds++c.toList.drop (lo*e.size+ds.length)).take (l.length*e.size)=
     (c.toList.take (l.length*e.size)).take (lo*e.size)++ds++(c.toList.take (l.length*e.size)).drop (lo*e.size+ds.length):=by
    rw [List.take_append,List.take_take,Nat.min_eq_left (by omega),List.take_of_length_le (by simp; omega)]
    congr 1
    rw [List.drop_take]
    congr 1
    simp; omega
   rw [e1]; exact h8
theorem Inv.copyVar (hI:Inv C tm me pl S a w) {b:Nat} {kb e:Kd} {x x':kb.T} {l ys:List e.T} {p:List Step} {o m lo:Nat} (hm:me b=some (.var kb x false))
  (hok:kb.okP p) (hoff:kb.offP p=some (o,.arr m e)) (hget:getP kb x p=some ⟨.arr m e,l⟩) (hset:setP kb x p ⟨.arr m e,lay l lo ys⟩=some x') {ds:List Value} (hy:RdL (Rd S w e) ys ds) (hfit:lo+ys.length≤m)
  {bb:Option Addr} (hb:ys=[]∨∃g,(pl b).g=some g∧bb=some ⟨g,(pl b).off+o+lo*e.size,none⟩):
  ∃w',(match bb with | some a=>storeCells a ds | none=>pure ()).run P w=.ok () w'∧Inv C tm (upd me b (some (.var kb x' false))) pl S a w':=by
 obtain ⟨_,g,c,t,c1,c2,c3,hg,hc,hsz,hseg,hl1,⟨hlm,hrl⟩,hsh,hs⟩:=hI.atPath hm hok hoff hget;have hcl:c.toList.length=c.size:=by simp
 have hc2:=RdL.length (Rd.length e) hrl;have hlay:=RdL.lay (Rd.length e) hrl hy lo;have hrd:Rd S w (.arr m e) (lay l lo ys) (c2.take (lo*e.size)++ds++c2.drop (lo*e.size+ds.length)):=⟨by rw [Qg (by omega)]; exact hlm,hlay⟩
 obtain ⟨g',c',t',hg',hc',hfit2,hinv⟩:=hI.storePath hm hok hoff hset hrd;rw [hg] at hg';cases hg';rw [hc] at hc';cases hc';have hd:=RdL.length (Rd.length e) hy;have hfit':lo*e.size+ds.length≤c2.length:=by rw [hd,hc2,←Nat.add_mul]; exact Nat.mul_le_mul_right _ (by omega)
 have hseg2:(c.toList.drop ((pl b).off+o)).take c2.length=c2.take (lo*e.size)++(c2.drop (lo*e.size)).take ds.length++c2.drop (lo*e.size+ds.length):=by
  have:=Iu hseg 0 c2.length (by omega);rw [Nat.add_zero,List.drop_zero,List.take_length,hl1] at this;rw [this,←List.drop_drop,List.append_assoc,List.take_append_drop,List.take_append_drop]
 have hlens:(pl b).off+kb.size≤c.toList.length:=by omega
 have hlen:kb.size=c1.length+c2.length+c3.length:=by
  have:=congrArg List.length hseg;simp at this; omega
 have hsp:=Nv (c2':=ds) hseg2 (by omega) (by simp; omega);have hta:(c2.take (lo*e.size)).length=lo*e.size:=by simp; omega
 rw [hta] at hsp;have hcells:c.toList.take ((pl b).off+o)++(c2.take (lo*e.size)++ds++c2.drop (lo*e.size+ds.length))++c.toList.drop ((pl b).off+o+(c2.take (lo*e.size)++ds++c2.drop (lo*e.size+ds.length)).length)=
   c.toList.take ((pl b).off+o+lo*e.size)++ds++c.toList.drop ((pl b).off+o+lo*e.size+ds.length):=by
  rw [hsp]
  congr 2
  simp; omega
 rw [hcells] at hinv;rcases hb with rfl | ⟨g'',hg'',rfl⟩
 ·simp only [RdL] at hy
  subst hy;refine ⟨w,by cases bb<;>simp [storeCells],?_⟩;have hself:w.setRow g (c.toList.take ((pl b).off+o+lo*e.size)++[]++c.toList.drop ((pl b).off+o+lo*e.size+([]:List Value).length)).toArray=w:=by
   simp only [List.append_nil,List.length_nil,Nat.add_zero,List.take_append_drop,Array.toArray_toList];exact setRow_self w g c t (0,0) hc
  rw [hself] at hinv;exact hinv
 ·rw [hg] at hg''
  cases hg'';have hst:=run_storeCells_at P g ((pl b).off+o+lo*e.size) t ds 0 c w hc (by omega) hy.one;simp only [Nat.add_zero] at hst;exact ⟨_,hst,hinv⟩
theorem Hl {fs:List Field} {n:Nat} {k:Kd} (h:k.agg=false):Aw T fs n k=false:=by
 cases hh:Aw T fs n k with
 | false=>rfl
 | true=>rw [Bs hh] at h; cases h
theorem zks (hT:Av P T) {t:TypeId} {ke:Kd} (hkt:tkd T t=some (.sl ke)):∃et,Bp T t=some (.slice et):=by
 obtain ⟨dd,h1,h2,h3⟩:=Bz hT hkt;have h4:=(h3.kd _ h2).2;obtain ⟨desc,sz,by_,kd⟩:=dd;simp only at h4;cases desc<;>simp only [B6,Bool.false_eq_true] at h4
 ·exact ⟨_,by simp [Bp,h1]; rfl⟩
 ·rw [Hl rfl] at h4; cases h4
theorem Rf {α:Type} (xs:List α) (n:Nat):xs.take (min xs.length n)=xs.take n:=by
 rw [List.take_eq_take_iff]; omega
theorem H5 (hT:Av P T) {t ts ty et:TypeId} {sz:Nat} (hd:Bp T t=some (.slice et)) (hz:∀w,(sizeOf et).run P w=.ok sz w) {bd:Option Addr} {dl dc sl:Nat} {vs:Value} {ds:List Value} {w':World}
  (hl:(Builtin.lenOf vs).run P w=.ok sl w) (hf:(Builtin.firstCells sz (min sl dl) vs).run P w=.ok ds.toArray w) (hs:(match bd with | some a=>storeCells a ds | none=>pure ()).run P w=.ok () w'):
  (Builtin.copy_ #[t,ts] ty #[.slice bd dl dc,vs]).run P w=.ok (goInt (min sl dl:Nat)) w':=by
 have e:Nat.min sl dl=min sl dl:=rfl;cases bd with
 | none=>
  simp only [Sem.run_pure,Result.ok.injEq] at hs;obtain ⟨_,rfl⟩:=hs;simp [Builtin.copy_,run_underlying (Ag hT hd),hl,hz w,e,hf]
 | some b=>
  simp only at hs;simp [Builtin.copy_,run_underlying (Ag hT hd),hl,hz w,e,hf,hs]
theorem Zo (hT:Av P T) {rd:Nat→Option Blk} {t ts ty:TypeId} {d s:SV} {nx:Nat} {r:ARes} {vd vs:Value} (h:aCopy T rd t d s nx=some r) (hacc:∀i∈r.acc,me i=rd i)
  (hI:Inv C tm me pl S a w) (hGd:G S w me pl d vd) (hGs:G S w me pl s vs):∃u w',(Builtin.copy_ #[t,ts] ty #[vd,vs]).run P w=.ok u w'∧Cs C tm me r.sv r.wr a u w':=by
 unfold aCopy at h;split at h<;>try (cases h; done)
 rename_i ke e xs acc hkt hrs;split at h<;>try (cases h; done)
 rename_i hsame;have es:=Ar hsame;subst es;obtain ⟨et,hd⟩:=zks hT hkt;have hz:∀w,(sizeOf et).run P w=.ok ke.size w:=fun w=>As hT w (E2 hT hkt hd)
 cases d<;>simp only [reduceCtorEq] at h
 case own j ver=>
  split at h<;>try (cases h; done)
  rename_i e' l ver' hrd;split at h<;>try (cases h; done)
  rename_i ys hver hys;simp only [Option.some.injEq] at h;subst h;have:=TV.as_some hys;cases this;have hm:me j=some (.row ke l ver' false):=by rw [hacc j (by simp)]; exact hrd
  have hS:=F7 hrs (fun q hq=>hacc q (by simp; exact .inr hq)) hI hGs;obtain ⟨ds,hf,hr⟩:=hS.first (P:=P) (Rd.length ke) (n:=min (List.length xs) l.length) (Nat.min_le_left _ _);rw [Rf] at hr;obtain ⟨e2,l2,ver2,sh2,hm2,hle,hh⟩:=hGd;rw [hm] at hm2;cases hm2;rcases hh (Nat.eq_of_beq_eq_true hver).symm with ⟨hg,rfl⟩ | ⟨g,hg,rfl⟩
  ·have hl0:l=[]:=by
    rcases hI.mem j _ hm with ⟨_,hl,_⟩ | ⟨g,c,t,hg',_⟩
    ·exact hl
    ·rw [hg] at hg'; cases hg'
   subst hl0;obtain ⟨w',h1,h2⟩:=hI.copyRow (P:=P) hm (lo:=0) hr (by simp) (b:=none) (.inl (by simp));exact ⟨_,w',H5 hT hd hz hS.len hf h1,pl,S,by rw [Ae,Ad]; exact ⟨h2,VRd.int.2 rfl⟩⟩
  ·obtain ⟨w',h1,h2⟩:=hI.copyRow (P:=P) hm (lo:=0) hr (by simp; omega) (b:=some ⟨g,0,none⟩) (.inr ⟨g,hg,by simp⟩)
   exact ⟨_,w',H5 hT hd hz hS.len hf h1,pl,S,by rw [Ae,Ad]; exact ⟨h2,VRd.int.2 rfl⟩⟩
 case win j ver lo n=>
  split at h<;>try (cases h; done)
  rename_i e' l ver' hrd;split at h<;>try (cases h; done)
  rename_i ys hver hys;simp only [Option.some.injEq] at h;subst h;have:=TV.as_some hys;cases this;have hm:me j=some (.row ke l ver' false):=by rw [hacc j (by simp)]; exact hrd
  have hS:=F7 hrs (fun q hq=>hacc q (by simp; exact .inr hq)) hI hGs;obtain ⟨ds,hf,hr⟩:=hS.first (P:=P) (Rd.length ke) (n:=min (List.length xs) n) (Nat.min_le_left _ _);rw [Rf] at hr;obtain ⟨e2,l2,ver2,sh2,hm2,hle,hh⟩:=hGd;rw [hm] at hm2;cases hm2;obtain ⟨hln,hwin⟩:=hh (Nat.eq_of_beq_eq_true hver).symm;rcases hwin with ⟨hg,rfl,hn0⟩ | ⟨g,oo,cap,hg,rfl,hcap,ho⟩
  ·subst hn0
   obtain ⟨w',h1,h2⟩:=hI.copyRow (P:=P) hm (lo:=lo) hr (by simp; omega) (b:=none) (.inl (by simp));exact ⟨_,w',H5 hT hd hz hS.len hf h1,pl,S,by rw [Ae,Ad]; exact ⟨h2,VRd.int.2 rfl⟩⟩
  ·obtain ⟨w',h1,h2⟩:=hI.copyRow (P:=P) hm (lo:=lo) hr (by simp; omega) (b:=some ⟨g,oo,none⟩) (by
    rcases ho with ho | ho
    ·subst ho; exact .inl (by simp)
    ·exact .inr ⟨g,hg,by rw [ho,Nat.zero_add]⟩)
   exact ⟨_,w',H5 hT hd hz hS.len hf h1,pl,S,by rw [Ae,Ad]; exact ⟨h2,VRd.int.2 rfl⟩⟩
 case asl b p lo n=>
  split at h<;>try (cases h; done)
  rename_i kb x hrd;split at h<;>try (cases h; done)
  rename_i m e' l hget;split at h<;>try (cases h; done)
  rename_i ys hys;split at h<;>try (cases h; done)
  rename_i x' hset;simp only [Option.some.injEq] at h;subst h;have:=TV.as_some hys;cases this;have hm:me b=some (.var kb x false):=by rw [hacc b (by simp)]; exact hrd
  have hS:=F7 hrs (fun q hq=>hacc q (by simp; exact .inr hq)) hI hGs;obtain ⟨ds,hf,hr⟩:=hS.first (P:=P) (Rd.length ke) (n:=min (List.length xs) n) (Nat.min_le_left _ _);rw [Rf] at hr;obtain ⟨kb',x0,sh',o,m',e2,hm',hok',hoff,hln,hgs,hwin⟩:=hGd;rw [hm] at hm';cases hm';obtain ⟨ek,_⟩:=hI.atPath hm hok' hoff hget;cases ek;rcases hwin with ⟨hg,rfl,hn0⟩ | ⟨g,oo,cap,hg,rfl,hcap,ho⟩
  ·rw [hg] at hgs; cases hgs
  ·obtain ⟨w',h1,h2⟩:=hI.copyVar (P:=P) hm hok' hoff hget hset hr (by simp; omega) (bb:=some ⟨g,oo,none⟩) (by
    rcases ho with ho | ho
    ·subst ho; exact .inl (by simp)
    ·exact .inr ⟨g,hg,by rw [ho]⟩)
   exact ⟨_,w',H5 hT hd hz hS.len hf h1,pl,S,by rw [Ae,Ad]; exact ⟨h2,VRd.int.2 rfl⟩⟩
end
section
variable {C:Ctx} {tm:Nat→SV} {me:Nat→Option Blk} {pl:Nat→Plc} {S:Nat→Prop} {a:Act} {w:World} {P:Program} {T:Tab}
theorem Inv.drew (h:Inv C tm me pl S a w):Inv C tm me pl S a w.drew:=
 h.world (fun _ hb=>hb) (fun b hb=>⟨(h.sfr b hb).1,.inl hb⟩) rfl rfl rfl (Nat.le_refl _) (fun _ _=>rfl)
theorem Inv.bump (h:Inv C tm me pl S a w) {i:Nat} {e:Kd} {l:List e.T} {v v':Nat} {sh:Bool} (hi:me i=some (.row e l v sh)) (hv:v≤v'):
  Inv C tm (upd me i (some (.row e l v' sh))) pl S a w:=by
 have hK:Keeps S w me pl S w (upd me i (some (.row e l v' sh))) pl:=by
  refine ⟨fun b hb=>⟨hb,rfl⟩,fun j bj hj=>?_⟩
  by_cases ee:j=i
  ·subst ee; rw [hi] at hj; cases hj; exact ⟨.row e l v' sh,by simp,⟨rfl,hv,fun _=>⟨rfl,rfl⟩⟩⟩
  ·exact ⟨bj,by rw [Ac _ _ ee]; exact hj,Compat.refl _ _⟩
 have q:∀{j:Nat} {b:Blk},upd me i (some (.row e l v' sh)) j=some b→∃b,me j=some b:=by
  intro j b hj
  by_cases e1:j=i
  ·exact ⟨_,e1 ▸ hi⟩
  ·rw [Ac _ _ e1] at hj; exact ⟨_,hj⟩
 refine ⟨h.nt,h.df,fun t'=>(h.tms t').keeps hK,fun j bj hj=>?_,fun j bj hj=>?_,fun j1 j2 b1 b2 g' hne hj1 hj2 hg'=>?_,h.s0,h.sfr,h.fr,h.pd,fun sv v hg=>(h.gho sv v hg).keeps hK⟩
 ·by_cases ee:j=i
  ·subst ee; simp only [Ah,Option.some.injEq] at hj; subst hj; have h5:=h.mem j (.row e l v sh) hi; exact h5
  ·rw [Ac _ _ ee] at hj; exact (h.mem j bj hj).keeps hK (fun _ _=>rfl) (fun _ _ _=>Iff.rfl)
 ·by_cases ee:j=i
  ·subst ee; simp only [Ah,Option.some.injEq] at hj; subst hj
   intro g' hg';rcases h.plcs j _ hi g' hg' with h1 | ⟨⟨k,x,s,h0⟩,_⟩
   ·exact .inl h1
   ·cases h0
  ·rw [Ac _ _ ee] at hj; exact h.plcs j bj hj
 ·obtain ⟨b1',q1⟩:=q hj1
  obtain ⟨b2',q2⟩:=q hj2;exact h.dis j1 j2 b1' b2' g' hne q1 q2 hg'
theorem Hi (hT:Av P T) {t et ty:TypeId} {sz:Nat} (hd:Bp T t=some (.slice et)) (hz:∀w,(sizeOf et).run P w=.ok sz w) {b:Option Addr} {n cap:Nat} (hc:n≤cap) {vx:Value}
  (hl:(Builtin.lenOf vx).run P w=.ok 0 w) (hf:(Builtin.firstCells sz 0 vx).run P w=.ok #[] w):(Builtin.append_ #[t,t] ty #[.slice b n cap,vx]).run P w=.ok (.slice b n cap) w:=by
 cases b<;>simp [Builtin.append_,run_underlying (Ag hT hd),hz w,hl,hc,hf,storeCells]
theorem Rn (hT:Av P T) {t et ty:TypeId} {sz:Nat} (hd:Bp T t=some (.slice et)) (hz:∀w,(sizeOf et).run P w=.ok sz w) {g n cap m:Nat} {vx:Value} {news:List Value} {c:Array Value} {tb:TypeId}
  (hg:w.heap[g]?=some (.cells c tb (0,0))) (hl:(Builtin.lenOf vx).run P w=.ok m w) (hf:(Builtin.firstCells sz m vx).run P w=.ok news.toArray w) (h1:∀u∈news,u.oneCell'=true)
  (hroom:n+m≤cap) (hfit:n*sz+news.length≤c.size):
  (Builtin.append_ #[t,t] ty #[.slice (some ⟨g,0,none⟩) n cap,vx]).run P w=.ok (.slice (some ⟨g,0,none⟩) (n+m) cap) (w.setRow g (c.toList.take (n*sz)++news++c.toList.drop (n*sz+news.length)).toArray):=by
 have hst:=run_storeCells_at P g (n*sz) tb news 0 c w hg (by omega) h1;simp only [Nat.add_zero] at hst;simp [Builtin.append_,run_underlying (Ag hT hd),hz w,hl,hroom,hf,add_eq,hst]
theorem Gg (k:Kd) {z:Value} (h:z.cells=k.zcells.toArray):z.cells.size=k.size:=by rw [h]; simp [Kd.zcells_length]
theorem limb {n m b:Nat} (h:n+m≤LIMB/b):(n+m)*b≤140737488355328∧(b=0→n+m=0):=by
 refine ⟨Nat.le_trans (Nat.mul_le_mul_right b h) (Nat.div_mul_le_self _ _),fun hb=>?_⟩;subst hb; simpa using h
theorem Inv.grownRow (hI:Inv C tm me pl S a w) {i:Nat} {e:Kd} {l:List e.T} {v:Nat} {c:Array Value} {t:TypeId} {cap:Nat} (hi:∀b0,me i=some b0→∃l0 v0 sh0,b0=.row e l0 v0 sh0∧v0<v) (hnp:C.pp.length≤i)
  (hcap:l.length≤cap) (hcm:cap≤maxLen) (hcs:c.size=cap*e.size) (hr:RdL (Rd S w e) l (c.toList.take (l.length*e.size))):
  Inv C tm (upd me i (some (.row e l v false))) (upd pl i ⟨some w.heap.size,0,cap⟩) S a (w.alloc (.cells c t)):=by
 refine hI.allocAt (fun b0 hb0=>?_) hnp ?_
 ·obtain ⟨l0,v0,sh0,rfl,hlt⟩:=hi b0 hb0
  exact ⟨rfl,by omega,fun h=>by omega⟩
 ·refine .inr ⟨w.heap.size,c,t,rfl,rfl,heap_alloc_new w _,hcap,hcm,hcs,RdL.mono (fun b hb=>⟨hb,heap_alloc_old w _ b (hI.sfr b hb).1⟩) hr,?_⟩
  simp;intro h;have:=(hI.sfr _ h).1;omega
theorem RdSl.cases' {α:Type} {R:α→List Value→Prop} {S:Nat→Prop} {sz:Nat} (hn:∀x cs,R x cs→cs.length=sz) {xs:List α} {v:Value} (h:RdSl R S w sz xs v) (hx:xs≠[]):
  ∃ad c news,v=.slice (some ad) xs.length c∧news.length=xs.length*sz∧RdL R xs news∧∀j u,news[j]?=some u→w.cell? (ad.add j)=some u:=by
 rcases h with ⟨_,h⟩ | ⟨g,off,cap,c,t,fr,rfl,hcap,_,hc,hr⟩ | ⟨a0,_,h⟩
 rotate_left 2
 ·exact absurd h hx
 ·exact absurd h hx
 ·exact ⟨_,cap,_,rfl,RdL.length hn hr,hr,fun j u hj=>by rw [add_eq,cell_of_row w g (off+j) c t fr hc]; exact Dl rfl j u hj⟩
theorem J5 (hT:Av P T) {np:Nat} (hnp:np=C.pp.length) {rd:Nat→Option Blk} {t ty:TypeId} {s x:SV} {nx:Nat} {r:ARes} {vs vx:Value} (h:Sq T np rd t s x nx=some r) (hok:r.ok=true) (hacc:∀i∈r.acc,me i=rd i)
  (hI:Inv C tm me pl S a w) (hGs:G S w me pl s vs) (hGx:G S w me pl x vx):∃u w',(Builtin.append_ #[t,t] ty #[vs,vx]).run P w=.ok u w'∧Cs C tm me r.sv r.wr a u w':=by
 unfold Sq at h;split at h<;>try (cases h; done)
 rename_i ke et hkt hd;split at h<;>try (cases h; done)
 rename_i dd hdd;split at h<;>try (cases h; done)
 rename_i e xs acc hsrc;split at h<;>try (cases h; done)
 rename_i ys hys;have:=TV.as_some hys;cases this;have hz:∀w,(sizeOf et).run P w=.ok ke.size w:=fun w=>As hT w (E2 hT hkt hd)
 have hS:(∀i∈acc,me i=rd i)→RdSl (Rd S w ke) (fun _=>True) w ke.size ys vx:=by
  intro ha;split at hsrc
  ·simp only [Option.some.injEq] at hsrc
   cases hsrc;exact .inl ⟨hGx,rfl⟩
  ·exact F7 hsrc ha hI hGx
 obtain ⟨i,hi,hi2,hi3,hi4⟩:=(hT et dd hdd).info;have hkd:dd.kd=some ke:=by
  have:=E2 hT hkt hd;simpa [tkd,hdd] using this
 obtain ⟨z,hz1,hz2,_⟩:=hi4 ke hkd;have hisz:i.size=ke.size:=by rw [hi2,((hT et dd hdd).kd ke hkd).1]
 have hzs:=Gg ke hz2;cases s<;>simp only [reduceCtorEq] at h
 case nil=>
  split at h<;>try (cases h; done)
  rename_i hfr;simp only [Option.some.injEq] at h;subst h;obtain ⟨hfr1,hfr2⟩:=Bn hfr;have hSx:=hS (fun q hq=>hacc q (by simp; exact .inr hq));have hmn:me nx=none:=by rw [hacc nx (by simp)]; exact hfr1
  have hlim:=limb (n:=0) (m:=ys.length) (b:=dd.bytes) (by rw [Nat.zero_add]; exact of_decide_eq_true hok);simp only [Nat.zero_add] at hlim;simp only [G] at hGs;subst hGs
  by_cases hy:ys=[]
  ·subst hy
   obtain ⟨ds,hf,hr⟩:=hSx.first (P:=P) (Rd.length ke) (n:=0) (by simp);simp only [List.take_nil,RdL] at hr;subst hr;refine ⟨_,w,Hi hT hd hz (Nat.le_refl _) (by simpa using hSx.len (P:=P)) hf,_,S,by rw [Ae,Ad]; exact hI.nilrow ke hmn,?_⟩;rw [Ae,Ad];exact ⟨ke,[],0,false,Ah _ _ _,Nat.le_refl _,fun _=>.inl ⟨by simp,rfl⟩⟩
  ·obtain ⟨ad,c,news,rfl,hnl,hnr,hnews⟩:=hSx.cases' (Rd.length ke) hy
   have hpos:0<ys.length:=List.length_pos_iff.2 hy;have hb1:1≤dd.bytes:=by
    rcases Nat.eq_zero_or_pos dd.bytes with h0 | h0
    ·have:=hlim.2 h0; omega
    ·exact h0
   have hylt:ys.length≤140737488355328:=Nat.le_trans (Nat.le_mul_of_pos_right _ hb1) hlim.1;have hrun:=run_append_nil (P:=P) w t ty et i z (Ag hT hd) hi hz1 ad ys.length c news (by rw [hisz]; exact hnl) hnews hpos (by omega) (by rw [hi3]; omega);refine ⟨_,_,hrun,upd pl nx ⟨some w.drew.heap.size,0,grownCap w ys.length 0 et⟩,S,?_,?_⟩
   ·rw [Ae,Ad]
    refine (hI.drew).grownRow (fun b0 hb0=>by rw [hmn] at hb0; cases hb0) (by omega) (grownCap_ge w _ _ _) (grownCap_le_maxLen w _ _ _ (by simp only [maxLen]; omega)) ?_ ?_
    ·simp only [Array.size_append,List.size_toArray,hnl,size_zeroCells,hzs]
     rw [←Nat.add_mul]
     congr 1
     have:=grownCap_ge w ys.length 0 et;omega
    ·have e1:(news.toArray++Builtin.zeroCells z.cells (grownCap w ys.length 0 et - ys.length)).toList.take (ys.length*ke.size)=news:=by
      rw [Array.toList_append,←hnl]; simp
     rw [e1]; exact RdL.mono (S:=S) (S':=S) (w:=w) (w':=w.drew) (fun b hb=>⟨hb,rfl⟩) hnr
   ·rw [Ae,Ad]
    exact ⟨ke,ys,0,false,Ah _ _ _,Nat.le_refl _,fun _=>.inr ⟨w.heap.size,by simp,by simp⟩⟩
 case own j ver=>
  split at h<;>try (cases h; done)
  rename_i e' l ver' hrd hjn;split at h<;>try (cases h; done)
  rename_i zs hver hzs';simp only [Option.some.injEq] at h;subst h;have:=TV.as_some hzs';cases this;have hjn':C.pp.length≤j:=by
   subst hnp;rcases Nat.lt_or_ge j C.pp.length with h1 | h1
   ·have:Nat.blt j C.pp.length=true:=by simpa [Nat.blt_eq] using h1
    rw [this] at hjn; cases hjn
   ·exact h1
  have hSx:=hS (fun q hq=>hacc q (by simp; exact .inr hq));have hm:me j=some (.row ke l ver' false):=by rw [hacc j (by simp)]; exact hrd
  have hlim:=limb (b:=dd.bytes) (of_decide_eq_true hok);obtain ⟨e2,l2,ver2,sh2,hm2,hle,hh⟩:=hGs;rw [hm] at hm2;cases hm2;have hrow:=hh (Nat.eq_of_beq_eq_true hver).symm
  by_cases hy:ys=[]
  ·subst hy
   obtain ⟨ds,hf,hr⟩:=hSx.first (P:=P) (Rd.length ke) (n:=0) (by simp);simp only [List.take_nil,RdL] at hr;subst hr;have hcap:∃b n cap,vs=.slice b n cap∧n≤cap:=by
    rcases hrow with ⟨_,rfl⟩ | ⟨g,hg,rfl⟩
    ·exact ⟨_,_,_,rfl,Nat.le_refl _⟩
    ·rcases hI.mem j _ hm with ⟨hg',_⟩ | ⟨g',c,t,hg',h4,h5,h6,_⟩
     ·rw [hg] at hg'; cases hg'
     ·exact ⟨_,_,_,rfl,h6⟩
   obtain ⟨b,n,cap,rfl,hcap⟩:=hcap;refine ⟨_,w,Hi hT hd hz hcap (by simpa using hSx.len (P:=P)) hf,pl,S,?_,?_⟩
   ·rw [Ae,Ad,List.append_nil]; exact hI.bump hm (Nat.le_succ _)
   ·rw [Ae,Ad]
    exact ⟨ke,l++[],ver'+1,false,Ah _ _ _,Nat.le_refl _,fun _=>by rw [List.append_nil]; exact hrow⟩
  ·obtain ⟨ad,cc,news,rfl,hnl,hnr,hnews⟩:=hSx.cases' (Rd.length ke) hy
   have hpos:0<ys.length:=List.length_pos_iff.2 hy;have hb1:1≤dd.bytes:=by
    rcases Nat.eq_zero_or_pos dd.bytes with h0 | h0
    ·have:=hlim.2 h0; omega
    ·exact h0
   have hylt:l.length+ys.length≤140737488355328:=Nat.le_trans (Nat.le_mul_of_pos_right _ hb1) hlim.1;rcases hI.mem j _ hm with ⟨hg,hl0,hc0⟩ | ⟨g,c,tb,hg,hoff,hc,h6,h7,h8,h9,h10⟩
   ·subst hl0
    have hvs:vs=.slice none 0 0:=by
     rcases hrow with ⟨_,h⟩ | ⟨g,hg',_⟩
     ·exact h
     ·rw [hg] at hg'; cases hg'
    subst hvs;simp only [List.length_nil,Nat.zero_add] at hlim hylt;have hrun:=run_append_nil (P:=P) w t ty et i z (Ag hT hd) hi hz1 ad ys.length cc news (by rw [hisz]; exact hnl) hnews hpos (by omega) (by rw [hi3]; omega);refine ⟨_,_,hrun,upd pl j ⟨some w.drew.heap.size,0,grownCap w ys.length 0 et⟩,S,?_,?_⟩
    ·rw [Ae,Ad,List.nil_append]
     refine (hI.drew).grownRow (fun b0 hb0=>by rw [hm] at hb0; cases hb0; exact ⟨_,_,_,rfl,Nat.lt_succ_self _⟩) hjn' (grownCap_ge w _ _ _) (grownCap_le_maxLen w _ _ _ (by simp only [maxLen]; omega)) ?_ ?_
     ·simp only [Array.size_append,List.size_toArray,hnl,size_zeroCells,hzs]
      rw [←Nat.add_mul]
      congr 1
      have:=grownCap_ge w ys.length 0 et;omega
     ·have e1:(news.toArray++Builtin.zeroCells z.cells (grownCap w ys.length 0 et - ys.length)).toList.take (ys.length*ke.size)=news:=by
       rw [Array.toList_append,←hnl]; simp
      rw [e1]; exact RdL.mono (S:=S) (S':=S) (w:=w) (w':=w.drew) (fun b hb=>⟨hb,rfl⟩) hnr
    ·rw [Ae,Ad]
     exact ⟨ke,ys,ver'+1,false,Ah _ _ _,Nat.le_refl _,fun _=>.inr ⟨w.heap.size,by simp,by simp⟩⟩
   ·have hvs:vs=.slice (some ⟨g,0,none⟩) l.length (pl j).cap:=by
     rcases hrow with ⟨hg',_⟩ | ⟨g',hg',h⟩
     ·rw [hg] at hg'; cases hg'
     ·rw [hg] at hg'; cases hg'; exact h
    subst hvs;have hcl:c.toList.length=c.size:=by simp
    have hlsz:l.length*ke.size≤c.size:=by rw [h8]; exact Nat.mul_le_mul_right _ h6
    by_cases hroom:l.length+ys.length≤(pl j).cap
    ·have hfit:l.length*ke.size+news.length≤c.size:=by rw [hnl,h8,←Nat.add_mul]; exact Nat.mul_le_mul_right _ hroom
     have hrun:=Rn (ty:=ty) hT hd hz hc (hSx.len (P:=P)) (run_firstCells_some w ke.size ys.length ad ys.length cc news hnl hnews) hnr.one hroom hfit;obtain ⟨f1,f2,f3,f4⟩:=Hf (C:=c.toList) (X:=news) (off:=l.length*ke.size) (n:=news.length) (by omega) rfl;have hnS:¬S g:=fun h=>by have:=h10.2 h; cases this
     refine ⟨_,_,hrun,pl,S,?_,?_⟩
     ·rw [Ae,Ad]
      refine hI.write hm hg hnS hc (by simpa using f1) (by rw [hoff]; simp) (fun h=>by obtain ⟨k,x,s,e⟩:=h; cases e) rfl ⟨fun h=>(by obtain ⟨k,x,s,e⟩:=h; cases e),fun h=>(by obtain ⟨k,x,s,e⟩:=h; cases e)⟩ ⟨rfl,Nat.le_succ _,fun h=>absurd h (by omega)⟩ ?_;refine .inr ⟨g,_,tb,hg,hoff,setRow_heap w g c _ tb (0,0) hc,by simpa using hroom,h7,?_,?_,by simp; exact hnS⟩
      ·rw [←h8,List.size_toArray,f1]; simp
      ·rw [List.toList_toArray]
       have hs:∀b,S b→S b∧(w.setRow g (c.toList.take (l.length*ke.size)++news++c.toList.drop (l.length*ke.size+news.length)).toArray).heap[b]?=w.heap[b]?:=fun b hb=>⟨hb,setRow_other w g b _ (fun e=>hnS (e ▸ hb))⟩
       have e1:(c.toList.take (l.length*ke.size)++news++c.toList.drop (l.length*ke.size+news.length)).take ((l++ys).length*ke.size)=c.toList.take (l.length*ke.size)++news:=by
        have:(c.toList.take (l.length*ke.size)++news).length=(l++ys).length*ke.size:=by
         simp [hnl,Nat.add_mul]; omega
        rw [←this,List.take_left]
       rw [e1];exact RdL.append (RdL.mono hs h9) (RdL.mono hs hnr)
     ·rw [Ae,Ad]
      exact ⟨ke,l++ys,ver'+1,false,Ah _ _ _,Nat.le_refl _,fun _=>.inr ⟨g,hg,by simp⟩⟩
    ·have holds:∀q u,(c.toList.take (l.length*ke.size))[q]?=some u→w.cell? ((⟨g,0,none⟩:Addr).add q)=some u:=fun q u hq=>by
      rw [add_eq,cell_of_row w g (0+q) c tb (0,0) hc];exact Dl (off:=0) (by rw [List.drop_zero]) q u hq
     have hrun:=run_append_grow (P:=P) w t ty et i z (Ag hT hd) hi hz1 ⟨g,0,none⟩ l.length (pl j).cap (c.toList.take (l.length*ke.size)) (by rw [hisz]; simp; omega) holds ad ys.length cc news (by rw [hisz]; exact hnl) hnews (by omega) (by omega) (growslice_fits (by omega) (by rw [hi3]; exact hlim.1));refine ⟨_,_,hrun,upd pl j ⟨some w.drew.heap.size,0,grownCap w (l.length+ys.length) (pl j).cap et⟩,S,?_,?_⟩
     ·rw [Ae,Ad]
      refine (hI.drew).grownRow (fun b0 hb0=>by rw [hm] at hb0; cases hb0; exact ⟨_,_,_,rfl,Nat.lt_succ_self _⟩) hjn' (by rw [List.length_append]; exact grownCap_ge w _ _ _) (grownCap_le_maxLen w _ _ _ (by simp only [maxLen]; omega)) ?_ ?_
      ·simp only [Array.size_append,List.size_toArray,hnl,size_zeroCells,hzs,List.length_take,hcl,Nat.min_eq_left hlsz]
       rw [←Nat.add_mul,←Nat.add_mul]
       congr 1
       have:=grownCap_ge w (l.length+ys.length) (pl j).cap et;omega
      ·have e1:((c.toList.take (l.length*ke.size)).toArray++news.toArray++Builtin.zeroCells z.cells (grownCap w (l.length+ys.length) (pl j).cap et - (l.length+ys.length))).toList.take ((l++ys).length*ke.size)=c.toList.take (l.length*ke.size)++news:=by
        have:(c.toList.take (l.length*ke.size)++news).length=(l++ys).length*ke.size:=by
         simp [hnl,Nat.add_mul]; omega
        simp only [Array.toList_append,List.toList_toArray];rw [←this,List.take_left]
       rw [e1]; exact RdL.append (RdL.mono (S:=S) (S':=S) (w:=w) (w':=w.drew) (fun b hb=>⟨hb,rfl⟩) h9) (RdL.mono (S:=S) (S':=S) (w:=w) (w':=w.drew) (fun b hb=>⟨hb,rfl⟩) hnr)
     ·rw [Ae,Ad]
      exact ⟨ke,l++ys,ver'+1,false,Ah _ _ _,Nat.le_refl _,fun _=>.inr ⟨w.heap.size,by simp,by simp⟩⟩
 case cap e' l=>
  split at h<;>try (cases h; done)
  rename_i zs hfr hzs';have:=TV.as_some hzs';cases this;simp only [Option.some.injEq] at h;subst h;obtain ⟨hfr1,hfr2⟩:=Bn hfr;have hSx:=hS (fun q hq=>hacc q (by simp; exact .inr hq));have hmn:me nx=none:=by rw [hacc nx (by simp)]; exact hfr1
  have hdec:=of_decide_eq_true hok;have hlim:=limb (b:=dd.bytes) hdec.2;have hy:ys≠[]:=List.length_pos_iff.1 hdec.1;obtain ⟨hv,ca,cn,hcap⟩:=hGs;obtain ⟨ad,cc,news,rfl,hnl,hnr,hnews⟩:=hSx.cases' (Rd.length ke) hy;have hpos:=hdec.1;have hb1:1≤dd.bytes:=by
   rcases Nat.eq_zero_or_pos dd.bytes with h0 | h0
   ·have:=hlim.2 h0; omega
   ·exact h0
  have hylt:zs.length+ys.length≤140737488355328:=Nat.le_trans (Nat.le_mul_of_pos_right _ hb1) hlim.1;rcases VRd.sl.1 hv with ⟨rfl,rfl⟩ | ⟨g,off,cap,c,tb,fr,rfl,hcl0,hSg,hc,h9⟩ | ⟨a0,rfl,rfl⟩
  rotate_left 2
  ·simp only [List.length_nil,Nat.zero_add] at hlim hylt
   have hrun:=run_append_grow (P:=P) w t ty et i z (Ag hT hd) hi hz1 a0 0 0 [] (by simp) (by simp) ad ys.length cc news (by rw [hisz]; exact hnl) hnews (by omega) (by omega) (growslice_fits (by omega) (by rw [hi3,Nat.zero_add]; exact hlim.1));refine ⟨_,_,hrun,upd pl nx ⟨some w.drew.heap.size,0,grownCap w (0+ys.length) 0 et⟩,S,?_,?_⟩
   ·rw [Ae,Ad,List.nil_append]
    refine (hI.drew).grownRow (fun b0 hb0=>by rw [hmn] at hb0; cases hb0) (by omega) (by rw [Nat.zero_add]; exact grownCap_ge w _ _ _) (grownCap_le_maxLen w _ _ _ (by simp only [maxLen]; omega)) ?_ ?_
    ·simp only [Array.size_append,List.size_toArray,hnl,size_zeroCells,hzs,List.length_nil,Nat.zero_add]
     rw [←Nat.add_mul]
     congr 1
     have:=grownCap_ge w ys.length 0 et;omega
    ·have e1:(([]:List Value).toArray++news.toArray++Builtin.zeroCells z.cells (grownCap w (0+ys.length) 0 et - (0+ys.length))).toList.take (ys.length*ke.size)=news:=by
      rw [Array.toList_append,Array.toList_append,←hnl]; simp
     rw [e1]; exact RdL.mono (S:=S) (S':=S) (w:=w) (w':=w.drew) (fun b hb=>⟨hb,rfl⟩) hnr
   ·rw [Ae,Ad,List.nil_append]
    exact ⟨ke,ys,0,false,Ah _ _ _,Nat.le_refl _,fun _=>.inr ⟨w.heap.size,by simp,by simp⟩⟩
  ·simp only [List.length_nil,Nat.zero_add] at hlim hylt
   have hrun:=run_append_nil (P:=P) w t ty et i z (Ag hT hd) hi hz1 ad ys.length cc news (by rw [hisz]; exact hnl) hnews hpos (by omega) (by rw [hi3]; omega);refine ⟨_,_,hrun,upd pl nx ⟨some w.drew.heap.size,0,grownCap w ys.length 0 et⟩,S,?_,?_⟩
   ·rw [Ae,Ad,List.nil_append]
    refine (hI.drew).grownRow (fun b0 hb0=>by rw [hmn] at hb0; cases hb0) (by omega) (grownCap_ge w _ _ _) (grownCap_le_maxLen w _ _ _ (by simp only [maxLen]; omega)) ?_ ?_
    ·simp only [Array.size_append,List.size_toArray,hnl,size_zeroCells,hzs]
     rw [←Nat.add_mul]
     congr 1
     have:=grownCap_ge w ys.length 0 et;omega
    ·have e1:(news.toArray++Builtin.zeroCells z.cells (grownCap w ys.length 0 et - ys.length)).toList.take (ys.length*ke.size)=news:=by
      rw [Array.toList_append,←hnl]; simp
     rw [e1]; exact RdL.mono (S:=S) (S':=S) (w:=w) (w':=w.drew) (fun b hb=>⟨hb,rfl⟩) hnr
   ·rw [Ae,Ad,List.nil_append]
    exact ⟨ke,ys,0,false,Ah _ _ _,Nat.le_refl _,fun _=>.inr ⟨w.heap.size,by simp,by simp⟩⟩
  ·have hcn:cap=zs.length:=by
    injection hcap with _ h1 h2
    omega
   subst hcn;obtain ⟨olds,hold⟩:∃olds,olds=(c.toList.drop off).take (zs.length*ke.size):=⟨_,rfl⟩
   rw [←hold] at h9;have hol:=RdL.length (Rd.length ke) h9;have holds:∀q u,olds[q]?=some u→w.cell? ((⟨g,off,none⟩:Addr).add q)=some u:=fun q u hq=>by
    rw [add_eq,cell_of_row w g (off+q) c tb fr hc];exact Dl (n:=zs.length*ke.size) hold.symm q u hq
   have hrun:=run_append_grow (P:=P) w t ty et i z (Ag hT hd) hi hz1 ⟨g,off,none⟩ zs.length zs.length olds (by rw [hisz]; exact hol) holds ad ys.length cc news (by rw [hisz]; exact hnl) hnews (by omega) (by omega) (growslice_fits (by omega) (by rw [hi3]; exact hlim.1));refine ⟨_,_,hrun,upd pl nx ⟨some w.drew.heap.size,0,grownCap w (zs.length+ys.length) zs.length et⟩,S,?_,?_⟩
   ·rw [Ae,Ad]
    refine (hI.drew).grownRow (fun b0 hb0=>by rw [hmn] at hb0; cases hb0) (by omega) (by rw [List.length_append]; exact grownCap_ge w _ _ _) (grownCap_le_maxLen w _ _ _ (by simp only [maxLen]; omega)) ?_ ?_
    ·simp only [Array.size_append,List.size_toArray,hnl,hol,size_zeroCells,hzs]
     rw [←Nat.add_mul,←Nat.add_mul]
     congr 1
     have:=grownCap_ge w (zs.length+ys.length) zs.length et;omega
    ·have e1:(olds.toArray++news.toArray++Builtin.zeroCells z.cells (grownCap w (zs.length+ys.length) zs.length et - (zs.length+ys.length))).toList.take ((zs++ys).length*ke.size)=olds++news:=by
      have:(olds++news).length=(zs++ys).length*ke.size:=by
       simp [hnl,hol,Nat.add_mul]
      simp only [Array.toList_append,List.toList_toArray];rw [←this,List.take_left]
     rw [e1]; exact RdL.append (RdL.mono (S:=S) (S':=S) (w:=w) (w':=w.drew) (fun b hb=>⟨hb,rfl⟩) h9) (RdL.mono (S:=S) (S':=S) (w:=w) (w':=w.drew) (fun b hb=>⟨hb,rfl⟩) hnr)
   ·rw [Ae,Ad]
    exact ⟨ke,zs++ys,0,false,Ah _ _ _,Nat.le_refl _,fun _=>.inr ⟨w.heap.size,by simp,by simp⟩⟩
end
section
variable {C:Ctx} {tm:Nat→SV} {me:Nat→Option Blk} {pl:Nat→Plc} {S:Nat→Prop} {a:Act} {w:World} {P:Program} {T:Tab}
theorem ziq (z:Array Value) (n:Nat):(madeCells z ((n+1)*z.size)).toList=z.toList++(madeCells z (n*z.size)).toList:=by
 have hl:(madeCells z ((n+1)*z.size)).toList.length=(z.toList++(madeCells z (n*z.size)).toList).length:=by
  simp [size_madeCells,Nat.add_mul]; omega
 apply List.ext_getElem hl;intro i h1 h2;rw [List.getElem_append];have hN:i<(n+1)*z.size:=by simpa [size_madeCells] using h1
 simp only [madeCells,Array.getElem_toList,Array.getElem_map,Array.getElem_range];split
 ·rename_i hi
  have hi':i<z.size:=by simpa using hi
  rw [Nat.mod_eq_of_lt hi'];simp [hi']
 ·rename_i hi
  have hi':z.size≤i:=by simpa using hi
  have e:(i - z.toList.length) % z.size=i % z.size:=by
   simp only [Array.length_toList];rw [←Nat.mod_eq_sub_mod hi']
  rw [e]
theorem RdL.made {α:Type} {R:α→List Value→Prop} {x:α} {z:Array Value} (h:R x z.toList):∀n,RdL R (List.replicate n x) (madeCells z (n*z.size)).toList
 | 0=>by simp [madeCells,RdL]
 | n+1=>by
  rw [ziq,List.replicate_succ];exact ⟨_,_,rfl,h,RdL.made h n⟩
theorem zio (hT:Av P T) {np:Nat} (hnp:np=C.pp.length) {t et:TypeId} {e:Kd} {dd:TyD} {nx:Nat} (hkt:tkd T t=some (.sl e)) (hd:Bp T t=some (.slice et)) (hdd:G3 T et=some dd) (hmn:me nx=none) (hfr2:np≤nx)
  (hI:Inv C tm me pl S a w) (l c:Int) (h0:0≤l) (h1:l≤c) (h2:c≤((LIMB/dd.bytes:Nat):Int)):
  ∃u w',(Instr.makeSlice t (.int .i64 l) (.int .i64 c)).run P w=.ok u w'∧Cs C tm me (.own nx 0) [(nx,.row e (List.replicate l.toNat e.zero) 0 false)] a u w':=by
 obtain ⟨i,hi,hi2,hi3,hi4⟩:=(hT et dd hdd).info;have hkd:dd.kd=some e:=by
  have:=E2 hT hkt hd;simpa [tkd,hdd] using this
 obtain ⟨z,hz1,hz2,_⟩:=hi4 e hkd;have hisz:i.size=e.size:=by rw [hi2,((hT et dd hdd).kd e hkd).1]
 have hzs:=Gg e hz2;have hcn:c.toNat≤LIMB/dd.bytes:=by omega
 have hb:c.toNat*dd.bytes≤140737488355328:=by
  have:=(limb (n:=0) (m:=c.toNat) (b:=dd.bytes) (by rw [Nat.zero_add]; exact hcn)).1;simpa using this
 have hc2:c.toNat≤140737488355328:=by
  rcases Nat.eq_zero_or_pos dd.bytes with h3 | h3
  ·rw [h3] at hcn; simp at hcn; omega
  ·exact Nat.le_trans (Nat.le_mul_of_pos_right _ h3) hb
 have hbi:(i.bytes:Int)*c≤281474976710656:=by
  have:(c:Int)=(c.toNat:Int):=by omega
  rw [this,hi3,←Int.natCast_mul,Nat.mul_comm];omega
 have hrun:=run_make (P:=P) w t et i z (Ag hT hd) hi hz1 .i64 .i64 l c h0 h1 hbi (by omega);refine ⟨_,_,hrun,upd pl nx ⟨some w.heap.size,0,c.toNat⟩,S,?_,?_⟩
 ·rw [Ae,Ad]
  refine hI.grownRow (fun b0 hb0=>by rw [hmn] at hb0; cases hb0) (by omega) (by simp; omega) (by simp only [maxLen]; omega) (by rw [size_madeCells,hisz]) ?_;have hR:=RdL.made (R:=Rd S w e) (x:=e.zero) (z:=z.cells) (by rw [hz2]; exact Rd.zero e) c.toNat;have:=(RdL.take_drop (Rd.length e) hR l.toNat).1;rw [hisz,←hzs];rw [List.take_replicate,Nat.min_eq_left (by omega)] at this;simpa [hzs] using this
 ·rw [Ae,Ad]
  exact ⟨e,_,0,false,Ah _ _ _,Nat.le_refl _,fun _=>.inr ⟨w.heap.size,by simp,by simp⟩⟩
theorem M6 (hT:Av P T) {np:Nat} (hnp:np=C.pp.length) {rd:Nat→Option Blk} {t:TypeId} {sl sc:SV} {nx:Nat} {r:ARes} {vl vc:Value} (h:K6 T np rd t sl sc nx=some r) (hok:r.ok=true) (hacc:∀i∈r.acc,me i=rd i)
  (hI:Inv C tm me pl S a w) (hGl:G S w me pl sl vl) (hGc:G S w me pl sc vc):∃u w',(Instr.makeSlice t vl vc).run P w=.ok u w'∧Cs C tm me r.sv r.wr a u w':=by
 unfold K6 at h;split at h<;>try (cases h; done)
 rename_i e et l c hkt hd hfr;split at h<;>try (cases h; done)
 rename_i dd hdd;simp only [Option.some.injEq] at h;subst h;rw [VRd.int.1 hGl,VRd.int.1 hGc];obtain ⟨hfr1,hfr2⟩:=Bn hfr;have hmn:me nx=none:=by rw [hacc nx (by simp)]; exact hfr1
 obtain ⟨h0,h1,h2⟩:=of_decide_eq_true hok;exact zio hT hnp hkt hd hdd hmn hfr2 hI l c h0 h1 h2
theorem Uy (off:Nat):∀(vs:List Value) (k:Nat) (cs:Array Value),off+k+vs.length≤cs.size→
  ((vs.zipIdx k).foldl (fun cs (c,j)=>cs.setIfInBounds (off+j) c) cs).toList=cs.toList.take (off+k)++vs++cs.toList.drop (off+k+vs.length)
 | [],k,cs,h=>by simp
 | v::vs,k,cs,h=>by
  simp only [List.length_cons] at h;simp only [List.zipIdx_cons,List.foldl_cons];rw [Uy off vs (k+1) (cs.setIfInBounds (off+k) v) (by simp; omega)];rw [Array.toList_setIfInBounds];have:=list_seg_step cs.toList (off+k) v vs (by simp; omega);have e:off+k+(v::vs).length=off+k+(vs.length+1):=rfl;rw [e,←this]
  congr 2
theorem J0 {place:Nat→Option (Nat×Nat)} {cells:Array Value} {i off size:Nat} {v:Value} {rest:List (Nat×Value)} (hp:place i=some (off,size)) (hs:v.cells.size=size) (hfit:off+size≤cells.size):
  Instr.fill place cells ((i,v)::rest)=Instr.fill place (cells.toList.take off++v.cells.toList++cells.toList.drop (off+size)).toArray rest:=by
 subst hs;simp only [Instr.fill,hp];rw [if_neg (by simp; omega)]
 congr 1
 apply Array.ext';have:=Uy off v.cells.toList 0 cells (by simp; omega);simp only [Nat.add_zero,Array.length_toList] at this;rw [List.toList_toArray,←this,←Array.foldl_toList]
 congr 1
 simp [Array.toList_zipIdx]
def PartsG (S:Nat→Prop) (w:World) (me:Nat→Option Blk) (pl:Nat→Plc):List (Nat×SV)→List (Nat×Value)→Prop
 | [],vs=>vs=[]
 | (i,s)::l,vs=>∃v vs',vs=(i,v)::vs'∧G S w me pl s v∧PartsG S w me pl l vs'
theorem PartsG.keeps {S':Nat→Prop} {w':World} {me':Nat→Option Blk} {pl':Nat→Plc} (h:Keeps S w me pl S' w' me' pl'):∀{l:List (Nat×SV)} {vs:List (Nat×Value)},PartsG S w me pl l vs→PartsG S' w' me' pl' l vs
 | [],_,hh=>hh
 | _::_,_,⟨v,vs',e,h1,h2⟩=>⟨v,vs',e,h1.keeps h,PartsG.keeps h h2⟩
theorem zgq {S:Nat→Prop} {k:Kd} {x x':k.T} {s:Step} {k':Kd} {y:k'.T} {o:Nat} {cs cy:List Value} (hr:Rd S w k x cs) (hok:k.ok1 s) (ho:k.off1 s=some (o,k')) (hset:set1 k x s ⟨k',y⟩=some x') (hy:Rd S w k' y cy):
  Rd S w k x' (cs.take o++cy++cs.drop (o+k'.size))∧o+k'.size≤cs.length:=by
 obtain ⟨k2,z,hget,has⟩:=Uw hset;have ek:=Ot has;simp only at ek;subst ek;obtain ⟨o',ho',c1,c2,c3,e,hl,hr2,hs⟩:=lens1 k x cs s k' z hr hok hget;rw [ho] at ho';cases ho';obtain ⟨z',hz',hh⟩:=hs y;rw [hset] at hz';cases hz';have h2:=Rd.length _ z c2 hr2;have h3:=hh S w cy (fun b hb=>⟨hb,rfl⟩) hy;subst e;have e1:(c1++c2++c3).take o=c1:=by rw [←hl,List.append_assoc,List.take_left]
 have e2:(c1++c2++c3).drop (o+k'.size)=c3:=by
  have:o+k'.size=(c1++c2).length:=by simp; omega
  rw [this,List.drop_left]
 rw [e1,e2];exact ⟨h3,by simp; omega⟩
theorem Ft {np:Nat} (hnp:np=C.pp.length) {rd:Nat→Option Blk} (st:Bool) {k:Kd} {place:Nat→Option (Nat×Nat)} (hplace:∀i o k',k.off1 (if st then .fld i else .idx i)=some (o,k')→(k.ok1 (if st then .fld i else .idx i))→place i=some (o,k'.size))
  (hI:Inv C tm me pl S a w):
  ∀(parts:List (Nat×SV)) (x x':k.T) (cs:Array Value) (vs:List (Nat×Value)),(∀p∈parts,k.ok1 (if st then .fld p.1 else .idx p.1))→H7 np rd st k x parts=some x'→Rd S w k x cs.toList→PartsG S w me pl parts vs→
   ∃cs',Instr.fill place cs vs=some cs'∧Rd S w k x' cs'.toList
 | [],x,x',cs,vs,_,h,hr,hp=>by
  simp only [H7,Option.some.injEq] at h;subst h;simp only [PartsG] at hp;subst hp;exact ⟨cs,rfl,hr⟩
 | (i,sv)::l,x,x',cs,vs,hall,h,hr,hp=>by
  obtain ⟨v,vs',rfl,hG,hp2⟩:=hp;simp only [H7] at h;split at h<;>try (cases h; done)
  rename_i o k' ho;split at h<;>try (cases h; done)
  rename_i y hval;split at h<;>try (cases h; done)
  rename_i x1 hset;obtain ⟨S',h1,h2,cy,h3,rfl⟩:=Bo hnp hval (by simp) hI hG;have hS:∃cy',Rd S w k' y cy'∧k'.mkV cy=k'.mkV cy':=by
   cases sv<;>simp only [Fe] at hval<;>try (cases hval; done)
   case nil=>
    cases k'<;>simp only [reduceCtorEq] at hval
    simp only [Option.some.injEq,Prod.mk.injEq] at hval;obtain ⟨rfl,_,_⟩:=hval;refine ⟨[.slice none 0 0],⟨_,rfl,.inl ⟨rfl,rfl⟩⟩,?_⟩;simp only [G] at hG;rw [hG]; rfl
   case val k0 x0=>
    split at hval<;>try (cases hval; done)
    rename_i y' hy';simp only [Option.some.injEq,Prod.mk.injEq] at hval;obtain ⟨rfl,_,_⟩:=hval;have:=TV.as_some hy';cases this;obtain ⟨c,hc1,hc2⟩:=hG;exact ⟨c,hc1,hc2⟩
   case own=>
    split at hval<;>try (cases hval; done)
    split at hval<;>try (cases hval; done)
   case win=>
    split at hval<;>try (cases hval; done)
    split at hval<;>try (cases hval; done)
   case asl=>
    split at hval<;>try (cases hval; done)
    split at hval<;>try (cases hval; done)
    split at hval<;>try (cases hval; done)
   case fn f=>
    cases k'<;>simp only [reduceCtorEq] at hval
    simp only [Option.some.injEq,Prod.mk.injEq] at hval;obtain ⟨rfl,_,_⟩:=hval;exact (VRd.fn (S:=S) (w:=w) (x:=.fn f)).2 hG
   case clo=>
    split at hval<;>try (cases hval; done)
    split at hval<;>try (cases hval; done)
    split at hval<;>try (cases hval; done)
  obtain ⟨cy',hy,ev⟩:=hS;rw [ev];have hok1:=hall (i,sv) (by simp);obtain ⟨hr2,hfit⟩:=zgq hr hok1 ho hset hy;have hcl:cs.toList.length=cs.size:=by simp
  have hys:(k'.mkV cy').cells.size=k'.size:=by rw [hy.cells]; simpa using Rd.length k' y cy' hy
  rw [J0 (hplace i o k' ho hok1) hys (by omega)];refine Ft hnp st hplace hI l x1 x' _ vs' (fun p hp=>hall p (by simp [hp])) h ?_ hp2;rw [List.toList_toArray,hy.cells,List.toList_toArray];exact hr2
theorem So (hT:Av P T) {np:Nat} (hnp:np=C.pp.length) {rd:Nat→Option Blk} {t:TypeId} {parts:List (Nat×SV)} {nx:Nat} {r:ARes} {vs:List (Nat×Value)} (h:Zr T np rd t parts nx=some r)
  (hI:Inv C tm me pl S a w) (hp:PartsG S w me pl parts vs):∃u,(Instr.build t vs.toArray).run P w=.ok u w∧r.wr=[]∧G S w me pl r.sv u:=by
 unfold Zr at h;split at h<;>try (cases h; done)
 rename_i d hd;split at h<;>try (cases h; done)
 ·rename_i k fs hk hdesc
  split at h<;>try (cases h; done)
  rename_i x hx;simp only [ok1,Option.some.injEq] at h;subst h;have hkt:tkd T t=some k:=by simp [tkd,hd,hk]
  have hdt:Bp T t=some (.struct fs):=by simp [Bp,hd,hdesc]
  obtain ⟨z,hz,hzc⟩:=Ck hT w hkt;have hfo:Aw T fs.toList 0 k=true:=Fh hT hkt hdt;have hmap:∃places:Array (Nat×Nat),(fs.mapM (m:=Sem) fun f=>do pure (f.offset,←sizeOf f.type)).run P w=.ok places w∧∀i o k',k.offF i=some (o,k')→places[i]?=some (o,k'.size):=by
   have aux:∀(l:List Field) (off:Nat) (k:Kd) (acc:Array (Nat×Nat)),Aw T l off k=true→∃q:List (Nat×Nat),(l.foldlM (m:=Sem) (fun (b:Array (Nat×Nat)) (f:Field)=>do let r ←(do pure (f.offset,←sizeOf f.type):Sem (Nat×Nat)); pure (b.push r)) acc).run P w=.ok (acc++q.toArray) w∧∀i o k',k.offF i=some (o,k')→q[i]?=some (off+o,k'.size):=by
    intro l
    induction l with
    | nil=>intro off k acc hf; exact ⟨[],by simp,fun i o k' ho=>by cases k<;>simp [Aw] at hf; simp [Kd.offF] at ho⟩
    | cons f l ih=>
     intro off k acc hf;cases k<;>simp only [Aw,Bool.false_eq_true] at hf
     rename_i ka kb;simp only [Bool.and_eq_true] at hf;obtain ⟨⟨⟨f1,f2⟩,f3⟩,f4⟩:=hf;obtain ⟨q,hq1,hq2⟩:=ih (off+ka.size) kb (acc.push (f.offset,ka.size)) f4;have hsz:=As hT w (A2 f2);refine ⟨(f.offset,ka.size)::q,?_,fun i o k' ho=>?_⟩
     ·simp only [List.foldlM_cons,Sem.run_bind,hsz,Result.andThen_ok,Sem.run_pure,hq1]
      simp
     ·cases i with
      | zero=>simp only [Kd.offF,Option.some.injEq,Prod.mk.injEq] at ho; obtain ⟨rfl,rfl⟩:=ho; simp [Nat.eq_of_beq_eq_true f1]
      | succ i=>
       simp only [Kd.offF] at ho;split at ho<;>try (cases ho; done)
       rename_i o' k2 ho';simp only [Option.some.injEq,Prod.mk.injEq] at ho;obtain ⟨rfl,rfl⟩:=ho;have:=hq2 i o' k2 ho';simpa [Nat.add_assoc] using this
   obtain ⟨q,hq1,hq2⟩:=aux fs.toList 0 k #[] hfo;refine ⟨q.toArray,?_,fun i o k' ho=>by simpa using hq2 i o k' ho⟩;rw [Array.mapM_eq_foldlM,←Array.foldlM_toList];simpa using hq1
  obtain ⟨places,hm1,hm2⟩:=hmap;obtain ⟨cs',hf,hr⟩:=Ft hnp true (place:=(places[·]?)) (fun i o k' ho _=>hm2 i o k' (by rw [←Rv]; exact ho)) hI parts k.zero x z.cells vs (fun p _=>Xw) hx (by rw [hzc]; exact Rd.zero k) hp;have hag:k.agg=true:=Bs hfo;refine ⟨.agg cs',?_,rfl,cs'.toList,hr,by simp [Kd.mkV,hag]⟩;simp only [Instr.build,Sem.run_bind,hz,Result.andThen_ok,run_underlying (Ag hT hdt),hm1];simp only [hf,Sem.run_pure]
 ·rename_i k n et hk hdesc
  split at h<;>try (cases h; done)
  rename_i x hall hx;simp only [ok1,Option.some.injEq] at h;subst h;have hkt:tkd T t=some k:=by simp [tkd,hd,hk]
  have hdt:Bp T t=some (.array n et):=by simp [Bp,hd,hdesc]
  obtain ⟨z,hz,hzc⟩:=Ck hT w hkt;have hdo:=Fh hT hkt hdt;obtain ⟨m,e,rfl⟩:∃m e,k=.arr m e:=by
   cases k<;>simp only [B6,Bool.false_eq_true] at hdo
   exact ⟨_,_,rfl⟩
  simp only [B6,Bool.and_eq_true] at hdo;obtain ⟨hnm,het⟩:=hdo;have:=Nat.eq_of_beq_eq_true hnm;subst this;have hsz:=As hT w (A2 het);obtain ⟨cs',hf,hr⟩:=Ft hnp false (place:=fun i=>some (i*e.size,e.size)) (fun i o k' ho _=>by simp [Kd.off1] at ho; obtain ⟨rfl,rfl⟩:=ho; rfl) hI parts (Kd.zero _) x z.cells vs
   (fun p hp=>by
    have:=List.all_eq_true.1 hall p hp;show p.1<n;simpa [Nat.blt_eq] using this) hx (by rw [hzc]; exact Rd.zero _) hp
  refine ⟨.agg cs',?_,rfl,cs'.toList,hr,by simp [Kd.mkV,Kd.agg]⟩;simp only [Instr.build,Sem.run_bind,hz,Result.andThen_ok,run_underlying (Ag hT hdt),hsz];simp only [hf,Sem.run_pure]
end
end Go.PG
end
