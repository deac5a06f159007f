/- A part of the proof; no condition of its own. -/
import Derived.Laws.CopyRow
import Derived.Laws.Rows
import Derived.Laws.AppendOwn
import Derived.Orders
import Derived.Laws.StructEq
import Derived.OrdersIn
import Derived.TacticsIn
import Derived.Laws.Tables
import Derived.Laws.CopyOwn
import Derived.Laws.MakeOwn
set_option linter.unusedVariables false
set_option linter.unusedSimpArgs false
set_option linter.unusedSectionVars false
open Go.IntKind (i64 u64 u8 u32 u16)
open List (replicate)
theorem Aa:type_of% @_root_.Nat.eq_of_beq_eq_true:=@_root_.Nat.eq_of_beq_eq_true
theorem Ab:type_of% @_root_.Bool.and_eq_true:=@_root_.Bool.and_eq_true
theorem Ac:type_of% @_root_.congrArg:=@_root_.congrArg
theorem Ad:type_of% @_root_.Option.some.injEq:=@_root_.Option.some.injEq
theorem Ae:type_of% @_root_.List.length_append:=@_root_.List.length_append
theorem Af:type_of% @_root_.List.length_cons:=@_root_.List.length_cons
theorem Ag:type_of% @_root_.Nat.add_mul:=@_root_.Nat.add_mul
theorem Ah:type_of% @_root_.List.append_assoc:=@_root_.List.append_assoc
theorem Ai:type_of% @_root_.List.mem_append:=@_root_.List.mem_append
theorem Aj:type_of% @_root_.if_pos:=@_root_.if_pos
theorem Ak:type_of% @_root_.if_neg:=@_root_.if_neg
theorem Al:type_of% @_root_.Nat.le_refl:=@_root_.Nat.le_refl
theorem Am:type_of% @_root_.Nat.le_trans:=@_root_.Nat.le_trans
theorem Ao:type_of% @_root_.Array.getD_eq_getD_getElem?:=@_root_.Array.getD_eq_getD_getElem?
theorem Ap:type_of% @_root_.Array.getElem?_eq_some_iff:=@_root_.Array.getElem?_eq_some_iff
theorem Aq:type_of% @_root_.Go.setRow_other:=@_root_.Go.setRow_other
theorem Ar:type_of% @_root_.List.mem_of_getElem?:=@_root_.List.mem_of_getElem?
theorem As:type_of% @_root_.Go.Sem.run_bind:=@_root_.Go.Sem.run_bind
theorem Au:type_of% @_root_.Go.run_underlying:=@_root_.Go.run_underlying
theorem Av:type_of% @_root_.Go.Result.andThen_ok:=@_root_.Go.Result.andThen_ok
theorem Aw:type_of% @_root_.Go.cell_of_row:=@_root_.Go.cell_of_row
theorem Ax:type_of% @_root_.Nat.add_zero:=@_root_.Nat.add_zero
theorem Ay:type_of% @_root_.List.getElem?_drop:=@_root_.List.getElem?_drop
theorem Az:type_of% @_root_.List.getElem?_append_right:=@_root_.List.getElem?_append_right
theorem A0:type_of% @_root_.List.getElem?_eq_some_iff:=@_root_.List.getElem?_eq_some_iff
theorem A1:type_of% @_root_.Go.Sem.run_pure:=@_root_.Go.Sem.run_pure
theorem A2:type_of% @_root_.List.nil_append:=@_root_.List.nil_append
theorem A3:type_of% @_root_.List.cons_append:=@_root_.List.cons_append
theorem A4:type_of% @_root_.List.take_append_drop:=@_root_.List.take_append_drop
theorem A5:type_of% @_root_.List.length_take:=@_root_.List.length_take
theorem A6:type_of% @_root_.Nat.min_eq_left:=@_root_.Nat.min_eq_left
theorem A7:type_of% @_root_.Nat.mul_le_mul_right:=@_root_.Nat.mul_le_mul_right
theorem A8:type_of% @_root_.List.take_of_length_le:=@_root_.List.take_of_length_le
theorem A9:type_of% @_root_.List.drop_drop:=@_root_.List.drop_drop
theorem Ba:type_of% @_root_.List.drop_take:=@_root_.List.drop_take
theorem Bb:type_of% @_root_.List.take_take:=@_root_.List.take_take
theorem Bc:type_of% @_root_.List.drop_left:=@_root_.List.drop_left
theorem Bd:type_of% @_root_.List.take_append_of_le_length:=@_root_.List.take_append_of_le_length
theorem Be:type_of% @_root_.Prod.mk.injEq:=@_root_.Prod.mk.injEq
theorem Bf:type_of% @_root_.Nat.zero_add:=@_root_.Nat.zero_add
theorem Bg:type_of% @_root_.List.drop_of_length_le:=@_root_.List.drop_of_length_le
theorem Bh:type_of% @_root_.List.toList_toArray:=@_root_.List.toList_toArray
theorem Bi:type_of% @_root_.List.size_toArray:=@_root_.List.size_toArray
theorem Bj:type_of% @_root_.Nat.le_of_ble_eq_true:=@_root_.Nat.le_of_ble_eq_true
theorem Bk:type_of% @_root_.Go.heap_alloc_new:=@_root_.Go.heap_alloc_new
theorem Bl:type_of% @_root_.List.take_length:=@_root_.List.take_length
theorem Bm:type_of% @_root_.List.map_append:=@_root_.List.map_append
theorem Bn:type_of% @_root_.Nat.add_assoc:=@_root_.Nat.add_assoc
theorem Bo:type_of% @_root_.List.drop_zero:=@_root_.List.drop_zero
theorem Bp:type_of% @_root_.List.take_left:=@_root_.List.take_left
theorem Bq:type_of% @_root_.Array.ext':=@_root_.Array.ext'
theorem Br:type_of% @_root_.List.getD_eq_getElem?_getD:=@_root_.List.getD_eq_getElem?_getD
theorem Bs:type_of% @_root_.List.getElem?_eq_getElem:=@_root_.List.getElem?_eq_getElem
theorem Bt:type_of% @_root_.Array.length_toList:=@_root_.Array.length_toList
theorem Bu:type_of% @_root_.Int.le_refl:=@_root_.Int.le_refl
theorem Bv:type_of% @_root_.Int.toNat_natCast:=@_root_.Int.toNat_natCast
theorem Bw:type_of% @_root_.of_decide_eq_true:=@_root_.of_decide_eq_true
theorem Bx:type_of% @_root_.Bool.false_eq_true:=@_root_.Bool.false_eq_true
theorem By:type_of% @_root_.if_false:=@_root_.if_false
theorem Bz:type_of% @_root_.List.length_nil:=@_root_.List.length_nil
theorem B0:type_of% @_root_.List.append_nil:=@_root_.List.append_nil
theorem B1:type_of% @_root_.Array.toArray_toList:=@_root_.Array.toArray_toList
theorem B2:type_of% @_root_.Nat.eq_zero_or_pos:=@_root_.Nat.eq_zero_or_pos
theorem B3:type_of% @_root_.Nat.le_mul_of_pos_right:=@_root_.Nat.le_mul_of_pos_right
theorem B4:type_of% @_root_.Go.grownCap_ge:=@_root_.Go.grownCap_ge
theorem B5:type_of% @_root_.Array.size_append:=@_root_.Array.size_append
theorem B6:type_of% @_root_.Array.toList_append:=@_root_.Array.toList_append
theorem B7:type_of% @_root_.Nat.mod_eq_of_lt:=@_root_.Nat.mod_eq_of_lt
theorem B8:type_of% @_root_.List.foldl_cons:=@_root_.List.foldl_cons
theorem B9:type_of% @_root_.List.all_eq_true:=@_root_.List.all_eq_true
noncomputable section
namespace Go.PG
inductive FnV where
 | nil
 | fn (f:FuncId)
 | clo (f:FuncId) (c:FnV)
 deriving Inhabited
def FnV.same:FnV->FnV->Bool
 | .nil,.nil=>true
 | .fn f,.fn g=>Nat.beq f g
 | .clo f c,.clo g d=>Nat.beq f g&&c.same d
 | _,_=>false
theorem FnV.same_eq:∀{a b:FnV},a.same b=true->a=b
 | .nil,.nil,_=>rfl
 | .fn f,.fn g,h=>by rw [Aa h]
 | .clo f c,.clo g d,h=>by
  have h':(Nat.beq f g&&c.same d)=true:=h;rw [Ab] at h';rw [Aa h'.1,FnV.same_eq h'.2]
 | .nil,.fn _,h=>by cases h
 | .nil,.clo _ _,h=>by cases h
 | .fn _,.nil,h=>by cases h
 | .fn _,.clo _ _,h=>by cases h
 | .clo _ _,.nil,h=>by cases h
 | .clo _ _,.fn _,h=>by cases h
def FnRd (S:Nat->Prop) (w:World):FnV->Value->Prop
 | .nil,v=>v=.nilFunc
 | .fn f,v=>v=.func (.func f) #[] #[]
 | .clo f c,v=>∃g off cs t fr u,v=.func (.func f) #[] #[.pointer (some ⟨g,off,none⟩)]/\S g/\w.heap[g]?=some (.cells cs t fr)/\(cs.toList.drop off).take 1=[u]/\FnRd S w c u
theorem FnRd.mono {S S':Nat->Prop} {w w':World} (hs:∀b,S b->S' b/\w'.heap[b]?=w.heap[b]?):∀{x:FnV} {v:Value},FnRd S w x v->FnRd S' w' x v
 | .nil,_,h=>h
 | .fn _,_,h=>h
 | .clo _ _,_,⟨g,off,cs,t,fr,u,h1,h2,h3,h4,h5⟩=>⟨g,off,cs,t,fr,u,h1,(hs _ h2).1,by rw [(hs _ h2).2]; exact h3,h4,FnRd.mono hs h5⟩
theorem FnRd.one {S:Nat->Prop} {w:World}:∀{x:FnV} {v:Value},FnRd S w x v->v.oneCell'=true/\v.cells=#[v]
 | .nil,_,h=>by
  have h':_=Value.nilFunc:=h;subst h'; exact ⟨rfl,rfl⟩
 | .fn _,_,h=>by
  have h':_=Value.func _ _ _:=h;subst h'; exact ⟨rfl,rfl⟩
 | .clo _ _,_,⟨_,_,_,_,_,_,h,_⟩=>by subst h; exact ⟨rfl,rfl⟩
inductive Kd where
 | int (k:IntKind)
 | bool
 | str
 | unit
 | pair (a b:Kd)
 | arr (n:Nat) (e:Kd)
 | sl (e:Kd)
 | mp
 | fn
 deriving Inhabited
@[reducible] def Kd.T:Kd->Type
 | .int _=>Int
 | .bool=>Bool
 | .str=>ByteArray
 | .unit=>Unit
 | .pair a b=>a.T×b.T
 | .arr _ e=>List e.T
 | .sl e=>List e.T
 | .mp=>Unit
 | .fn=>FnV
def Kd.ikb:IntKind->IntKind->Bool
 | .i8,.i8 | .i16,.i16 | .i32,.i32 | .i64,.i64 | .u8,.u8 | .u16,.u16 | .u32,.u32 | .u64,.u64=>true
 | _,_=>false
theorem Kd.ikb_eq:∀{a b:IntKind},Kd.ikb a b=true->a=b:=by
 intro a b h; cases a<;>cases b<;>first | rfl | (simp [Kd.ikb] at h)
def Kd.same:Kd->Kd->Bool
 | .int a,.int b=>Kd.ikb a b
 | .bool,.bool=>true
 | .str,.str=>true
 | .unit,.unit=>true
 | .pair a b,.pair c d=>a.same c&&b.same d
 | .arr n a,.arr m b=>Nat.beq n m&&a.same b
 | .sl a,.sl b=>a.same b
 | .mp,.mp=>true
 | .fn,.fn=>true
 | _,_=>false
theorem Kd.same_eq:∀{a b:Kd},a.same b=true->a=b:=by
 intro a
 induction a with
 | int k=>intro b h; cases b<;>simp [Kd.same] at h; exact Ac _ (Kd.ikb_eq h)
 | bool=>intro b h; cases b<;>simp [Kd.same] at h; rfl
 | str=>intro b h; cases b<;>simp [Kd.same] at h; rfl
 | unit=>intro b h; cases b<;>simp [Kd.same] at h; rfl
 | pair a b iha ihb=>intro c h; cases c<;>simp [Kd.same] at h; rw [iha h.1,ihb h.2]
 | arr n a ih=>intro c h; cases c<;>simp [Kd.same] at h; rw [ih h.2,h.1]
 | sl a ih=>intro c h; cases c<;>simp [Kd.same] at h; rw [ih h]
 | mp=>intro b h; cases b<;>simp [Kd.same] at h; rfl
 | fn=>intro b h; cases b<;>simp [Kd.same] at h; rfl
abbrev TV:=(k:Kd)×k.T
def TV.as (v:TV) (k:Kd):Option k.T:=
 if h:v.1.same k=true then some (cast (Ac Kd.T (Kd.same_eq h)) v.2) else none
theorem TV.as_some {v:TV} {k:Kd} {x:k.T} (h:v.as k=some x):v=⟨k,x⟩:=by
 unfold TV.as at h;split at h
 ·rename_i hs
  obtain ⟨k',y⟩:=v;have e:=Kd.same_eq hs;simp only at e;subst e;simp only [cast_eq,Ad] at h;rw [h]
 ·cases h
def Kd.size:Kd->Nat
 | .int _ | .bool | .str | .sl _ | .mp | .fn=>1
 | .unit=>0
 | .pair a b=>a.size+b.size
 | .arr n e=>n*e.size
def Kd.agg:Kd->Bool
 | .unit | .pair _ _ | .arr _ _=>true
 | _=>false
def Kd.zero:(k:Kd)->k.T
 | .int _=>(0:Int)
 | .bool=>false
 | .str=>ByteArray.empty
 | .unit=>()
 | .pair a b=>(a.zero,b.zero)
 | .arr n e=>List.replicate n e.zero
 | .sl _=>[]
 | .mp=>()
 | .fn=>FnV.nil
def Kd.zcells:Kd->List Value
 | .int k=>[.int k 0]
 | .bool=>[.bool false]
 | .str=>[.string ByteArray.empty]
 | .unit=>[]
 | .pair a b=>a.zcells++b.zcells
 | .arr n e=>(List.replicate n e.zcells).flatten
 | .sl _=>[.slice none 0 0]
 | .mp=>[.map none]
 | .fn=>[.nilFunc]
def RdL {α:Type} (R:α->List Value->Prop):List α->List Value->Prop
 | [],cs=>cs=[]
 | x::xs,cs=>∃c1 c2,cs=c1++c2/\R x c1/\RdL R xs c2
def RdSl {α:Type} (R:α->List Value->Prop) (S:Nat->Prop) (w:World) (sz:Nat) (l:List α) (v:Value):Prop:=
 (v=.slice none 0 0/\l=[])\/
 (∃g off cap c t fr,v=.slice (some ⟨g,off,none⟩) l.length cap/\l.length<=cap/\S g/\w.heap[g]?=some (.cells c t fr)/\
  RdL R l ((c.toList.drop off).take (l.length*sz)))\/
 ∃a,v=.slice (some a) 0 0/\l=[]
def Rd (S:Nat->Prop) (w:World):(k:Kd)->k.T->List Value->Prop
 | .int ik,x,cs=>cs=[.int ik x]
 | .bool,x,cs=>cs=[.bool x]
 | .str,x,cs=>cs=[.string x]
 | .unit,_,cs=>cs=[]
 | .pair a b,x,cs=>∃c1 c2,cs=c1++c2/\Rd S w a x.1 c1/\Rd S w b x.2 c2
 | .arr n e,x,cs=>List.length x=n/\RdL (Rd S w e) x cs
 | .sl e,x,cs=>∃v,cs=[v]/\RdSl (Rd S w e) S w e.size x v
 | .mp,_,cs=>cs=[.map none]
 | .fn,x,cs=>∃v,cs=[v]/\FnRd S w x v
theorem RdL.imp {α:Type} {R R':α->List Value->Prop} (h:∀x cs,R x cs->R' x cs):∀{l:List α} {cs},RdL R l cs->RdL R' l cs
 | [],_,hh=>hh
 | _::_,_,⟨c1,c2,e,h1,h2⟩=>⟨c1,c2,e,h _ _ h1,RdL.imp h h2⟩
theorem RdL.length {α:Type} {R:α->List Value->Prop} {n:Nat} (h:∀x cs,R x cs->cs.length=n):∀{l:List α} {cs},RdL R l cs->cs.length=l.length*n
 | [],_,hh=>by simp [RdL] at hh; simp [hh]
 | _::l,_,⟨c1,c2,e,h1,h2⟩=>by
  subst e;rw [Ae,h _ _ h1,RdL.length h h2,Af,Ag];omega
theorem RdL.append {α:Type} {R:α->List Value->Prop}:∀{l1 l2:List α} {c1 c2},RdL R l1 c1->RdL R l2 c2->RdL R (l1++l2) (c1++c2)
 | [],_,_,_,h1,h2=>by simp only [RdL] at h1; subst h1; simpa using h2
 | _::_,_,_,_,⟨a,b,e,ha,hb⟩,h2=>⟨a,b++_,by rw [e,Ah],ha,RdL.append hb h2⟩
theorem RdL.split {α:Type} {R:α->List Value->Prop}:∀{l1 l2:List α} {cs},RdL R (l1++l2) cs->∃c1 c2,cs=c1++c2/\RdL R l1 c1/\RdL R l2 c2
 | [],_,cs,h=>⟨[],cs,rfl,rfl,h⟩
 | _::_,_,_,⟨a,b,e,ha,hb⟩=>
  let ⟨c1,c2,e2,h1,h2⟩:=RdL.split hb
  ⟨a++c1,c2,by rw [e,e2,Ah],⟨a,c1,rfl,ha,h1⟩,h2⟩
theorem Rd.length {S:Nat->Prop} {w:World}:∀(k:Kd) (x:k.T) (cs),Rd S w k x cs->cs.length=k.size
 | .int _,_,_,h=>by simp only [Rd] at h; simp [h,Kd.size]
 | .bool,_,_,h=>by simp only [Rd] at h; simp [h,Kd.size]
 | .str,_,_,h=>by simp only [Rd] at h; simp [h,Kd.size]
 | .unit,_,_,h=>by simp only [Rd] at h; simp [h,Kd.size]
 | .pair a b,x,_,⟨c1,c2,e,h1,h2⟩=>by
  subst e; rw [Ae,Rd.length a _ _ h1,Rd.length b _ _ h2]; rfl
 | .arr n e,x,cs,⟨hl,h⟩=>by
  rw [RdL.length (Rd.length e) h,hl]; rfl
 | .sl e,_,_,⟨v,e1,_⟩=>by simp [e1,Kd.size]
 | .mp,_,_,h=>by simp only [Rd] at h; simp [h,Kd.size]
 | .fn,_,_,⟨v,e1,_⟩=>by simp [e1,Kd.size]
theorem RdSl.mono {α:Type} {R R':α->List Value->Prop} {S S':Nat->Prop} {w w':World} {sz:Nat} {l:List α} {v:Value}
  (hs:∀b,S b->S' b/\w'.heap[b]?=w.heap[b]?) (hr:∀x cs,R x cs->R' x cs) (h:RdSl R S w sz l v):RdSl R' S' w' sz l v:=by
 rcases h with h | ⟨g,off,cap,c,t,fr,h1,h2,h3,h4,h6⟩ | h
 ·exact .inl h
 ·exact .inr (.inl ⟨g,off,cap,c,t,fr,h1,h2,(hs _ h3).1,by rw [(hs _ h3).2]; exact h4,RdL.imp hr h6⟩)
 ·exact .inr (.inr h)
theorem Rd.mono {S S':Nat->Prop} {w w':World} (hs:∀b,S b->S' b/\w'.heap[b]?=w.heap[b]?):
  ∀(k:Kd) (x:k.T) (cs),Rd S w k x cs->Rd S' w' k x cs
 | .int _,_,_,h=>h
 | .bool,_,_,h=>h
 | .str,_,_,h=>h
 | .unit,_,_,h=>h
 | .pair a b,_,_,⟨c1,c2,e,h1,h2⟩=>⟨c1,c2,e,Rd.mono hs a _ _ h1,Rd.mono hs b _ _ h2⟩
 | .arr _ e,_,_,⟨hl,h⟩=>⟨hl,RdL.imp (λx cs h=>Rd.mono hs e x cs h) h⟩
 | .sl e,_,_,⟨v,e1,h⟩=>⟨v,e1,RdSl.mono hs (λx cs h=>Rd.mono hs e x cs h) h⟩
 | .mp,_,_,h=>h
 | .fn,_,_,⟨v,e1,h⟩=>⟨v,e1,h.mono hs⟩
theorem RdL.all {α:Type} {R:α->List Value->Prop} {p:Value->Prop} (h:∀x cs,R x cs->∀v∈cs,p v):∀{l:List α} {cs},RdL R l cs->∀v∈cs,p v
 | [],_,hh=>by simp only [RdL] at hh; subst hh; intro v hv; cases hv
 | _::_,_,⟨c1,c2,e,h1,h2⟩=>by
  subst e; intro v hv;rcases Ai.1 hv with hv | hv
  ·exact h _ _ h1 v hv
  ·exact RdL.all h h2 v hv
theorem RdSl.one {α:Type} {R:α->List Value->Prop} {S:Nat->Prop} {w:World} {sz:Nat} {l:List α} {v:Value} (h:RdSl R S w sz l v):v.oneCell'=true:=by
 rcases h with ⟨rfl,_⟩ | ⟨g,off,cap,c,t,fr,rfl,_⟩ | ⟨a,rfl,_⟩<;>rfl
theorem Rd.one {S:Nat->Prop} {w:World}:∀(k:Kd) (x:k.T) (cs),Rd S w k x cs->∀v∈cs,v.oneCell'=true
 | .int _,_,_,h=>by simp only [Rd] at h; subst h; simp [Value.oneCell']
 | .bool,_,_,h=>by simp only [Rd] at h; subst h; simp [Value.oneCell']
 | .str,_,_,h=>by simp only [Rd] at h; subst h; simp [Value.oneCell']
 | .unit,_,_,h=>by simp only [Rd] at h; subst h; simp
 | .pair a b,_,_,⟨c1,c2,e,h1,h2⟩=>by
  subst e; intro v hv;rcases Ai.1 hv with hv | hv
  ·exact Rd.one a _ _ h1 v hv
  ·exact Rd.one b _ _ h2 v hv
 | .arr _ e,_,_,⟨_,h⟩=>RdL.all (Rd.one e) h
 | .sl e,_,_,⟨v,e1,h⟩=>by subst e1; intro u hu; simp at hu; subst hu; exact h.one
 | .mp,_,_,h=>by simp only [Rd] at h; subst h; simp [Value.oneCell']
 | .fn,_,_,⟨v,e1,h⟩=>by subst e1; intro u hu; simp at hu; subst hu; exact h.one.1
theorem RdL.replicate {α:Type} {R:α->List Value->Prop} {x:α} {c:List Value} (h:R x c):∀n,RdL R (List.replicate n x) (List.replicate n c).flatten
 | 0=>rfl
 | n+1=>⟨c,(List.replicate n c).flatten,by simp [List.replicate_succ],h,RdL.replicate h n⟩
theorem Rd.zero {S:Nat->Prop} {w:World}:∀(k:Kd),Rd S w k k.zero k.zcells
 | .int _=>rfl
 | .bool=>rfl
 | .str=>rfl
 | .unit=>rfl
 | .pair a b=>⟨_,_,rfl,Rd.zero a,Rd.zero b⟩
 | .arr n e=>⟨by simp [Kd.zero],RdL.replicate (Rd.zero e) n⟩
 | .sl e=>⟨_,rfl,.inl ⟨rfl,rfl⟩⟩
 | .mp=>rfl
 | .fn=>⟨_,rfl,rfl⟩
theorem Kd.zcells_length (k:Kd):k.zcells.length=k.size:=
 Rd.length (S:=λ_=>True) (w:=default) k _ _ (Rd.zero k)
def Kd.mkV (k:Kd) (cs:List Value):Value:=if k.agg then .agg cs.toArray else cs.headD undef
theorem Rd.cells {S:Nat->Prop} {w:World} {k:Kd} {x:k.T} {cs:List Value} (h:Rd S w k x cs):(k.mkV cs).cells=cs.toArray:=by
 cases k<;>simp only [Rd] at h
 case int=>subst h; simp [Kd.mkV,Kd.agg,Value.cells]
 case bool=>subst h; simp [Kd.mkV,Kd.agg,Value.cells]
 case str=>subst h; simp [Kd.mkV,Kd.agg,Value.cells]
 case unit=>subst h; simp [Kd.mkV,Kd.agg,Value.cells]
 case mp=>subst h; simp [Kd.mkV,Kd.agg,Value.cells]
 case fn=>
  obtain ⟨v,e1,h⟩:=h;subst e1;simpa [Kd.mkV,Kd.agg] using h.one.2
 case pair=>simp [Kd.mkV,Kd.agg,Value.cells]
 case arr=>simp [Kd.mkV,Kd.agg,Value.cells]
 case sl=>
  obtain ⟨v,e1,h⟩:=h;subst e1;rcases h with ⟨rfl,_⟩ | ⟨g,off,cap,c,t,fr,rfl,_⟩ | ⟨a,rfl,_⟩<;>simp [Kd.mkV,Kd.agg,Value.cells]
def VRd (S:Nat->Prop) (w:World) (k:Kd) (x:k.T) (v:Value):Prop:=∃cs,Rd S w k x cs/\v=k.mkV cs
theorem VRd.mono {S S':Nat->Prop} {w w':World} (hs:∀b,S b->S' b/\w'.heap[b]?=w.heap[b]?) {k:Kd} {x:k.T} {v:Value} (h:VRd S w k x v):VRd S' w' k x v:=
 let ⟨cs,h1,h2⟩:=h
 ⟨cs,Rd.mono hs k x cs h1,h2⟩
theorem VRd.int {S:Nat->Prop} {w:World} {ik:IntKind} {x:Int} {v:Value}:VRd S w (.int ik) x v↔v=.int ik x:=
 ⟨λ⟨cs,h1,h2⟩=>by simp only [Rd] at h1; subst h1; exact h2,λh=>⟨[v],by simp [Rd,h],rfl⟩⟩
theorem VRd.bool {S:Nat->Prop} {w:World} {x:Bool} {v:Value}:VRd S w .bool x v↔v=.bool x:=
 ⟨λ⟨cs,h1,h2⟩=>by simp only [Rd] at h1; subst h1; exact h2,λh=>⟨[v],by simp [Rd,h],rfl⟩⟩
theorem VRd.str {S:Nat->Prop} {w:World} {x:ByteArray} {v:Value}:VRd S w .str x v↔v=.string x:=
 ⟨λ⟨cs,h1,h2⟩=>by simp only [Rd] at h1; subst h1; exact h2,λh=>⟨[v],by simp [Rd,h],rfl⟩⟩
theorem VRd.sl {S:Nat->Prop} {w:World} {e:Kd} {x:List e.T} {v:Value}:VRd S w (.sl e) x v↔RdSl (Rd S w e) S w e.size x v:=
 ⟨λ⟨cs,⟨u,e1,h1⟩,h2⟩=>by subst e1; subst h2; exact h1,λh=>⟨[v],⟨v,rfl,h⟩,rfl⟩⟩
theorem VRd.fn {S:Nat->Prop} {w:World} {x:FnV} {v:Value}:VRd S w .fn x v↔FnRd S w x v:=
 ⟨λ⟨cs,⟨u,e1,h1⟩,h2⟩=>by subst e1; subst h2; exact h1,λh=>⟨[v],⟨v,rfl,h⟩,rfl⟩⟩
inductive Step where
 | fld (j:Nat)
 | idx (i:Nat)
def getF:(k:Kd)->k.T->Nat->Option TV
 | .pair a _,x,0=>some ⟨a,x.1⟩
 | .pair _ b,x,j+1=>getF b x.2 j
 | _,_,_=>none
def setF:(k:Kd)->k.T->Nat->TV->Option k.T
 | .pair a _,x,0,v=>match v.as a with | some y=>some (y,x.2) | none=>none
 | .pair _ b,x,j+1,v=>match setF b x.2 j v with | some y=>some (x.1,y) | none=>none
 | _,_,_,_=>none
def Kd.offF:Kd->Nat->Option (Nat×Kd)
 | .pair a _,0=>some (0,a)
 | .pair a b,j+1=>match b.offF j with | some (o,k)=>some (a.size+o,k) | none=>none
 | _,_=>none
def get1:(k:Kd)->k.T->Step->Option TV
 | k,x,.fld j=>getF k x j
 | .arr _ e,x,.idx i=>some ⟨e,x.getD i e.zero⟩
 | _,_,_=>none
def set1:(k:Kd)->k.T->Step->TV->Option k.T
 | k,x,.fld j,v=>setF k x j v
 | .arr _ e,x,.idx i,v=>match v.as e with | some y=>some (x.set i y) | none=>none
 | _,_,_,_=>none
def Kd.off1:Kd->Step->Option (Nat×Kd)
 | k,.fld j=>k.offF j
 | .arr _ e,.idx i=>some (i*e.size,e)
 | _,_=>none
def Kd.ok1:Kd->Step->Prop
 | .arr n _,.idx i=>i<n
 | _,_=>True
def getP:(k:Kd)->k.T->List Step->Option TV
 | k,x,[]=>some ⟨k,x⟩
 | k,x,s::p=>match get1 k x s with | some ⟨k',x'⟩=>getP k' x' p | none=>none
def setP:(k:Kd)->k.T->List Step->TV->Option k.T
 | k,_,[],v=>v.as k
 | k,x,s::p,v=>
  match get1 k x s with
  | some ⟨k',x'⟩=>match setP k' x' p v with
   | some y=>set1 k x s ⟨k',y⟩
   | none=>none
  | none=>none
def Kd.offP:Kd->List Step->Option (Nat×Kd)
 | k,[]=>some (0,k)
 | k,s::p=>match k.off1 s with
  | some (o,k')=>match k'.offP p with
   | some (o',k'')=>some (o+o',k'')
   | none=>none
  | none=>none
def Kd.okP:Kd->List Step->Prop
 | _,[]=>True
 | k,s::p=>k.ok1 s/\match k.off1 s with
  | some (_,k')=>k'.okP p
  | none=>True
def Lens (S:Nat->Prop) (w:World) (k:Kd) (cs:List Value) (o:Nat) (k':Kd) (x':k'.T) (set:TV->Option k.T):Prop:=
 ∃c1 c2 c3,cs=c1++c2++c3/\c1.length=o/\Rd S w k' x' c2/\
  (∀(y:k'.T),∃z,set ⟨k',y⟩=some z/\∀(S':Nat->Prop) (w':World) c2',(∀b,S b->S' b/\w'.heap[b]?=w.heap[b]?)->Rd S' w' k' y c2'->Rd S' w' k z (c1++c2'++c3))
theorem NZ:∀k:Kd,k.same k=true:=by
 intro k; induction k with
 | int k=>cases k<;>rfl
 | bool=>rfl
 | str=>rfl
 | unit=>rfl
 | pair a b h1 h2=>simp [Kd.same,h1,h2]
 | arr n a h=>simp [Kd.same,h]
 | sl a h=>simpa [Kd.same] using h
 | mp=>rfl
 | fn=>rfl
theorem TV.as_self (k:Kd) (x:k.T):TV.as ⟨k,x⟩ k=some x:=by
 unfold TV.as;rw [dif_pos (NZ k)];rfl
theorem zdi {S:Nat->Prop} {w:World}:∀(k:Kd) (x:k.T) (cs:List Value) (j:Nat) (k':Kd) (x':k'.T),Rd S w k x cs->getF k x j=some ⟨k',x'⟩->
  ∃o,k.offF j=some (o,k')/\Lens S w k cs o k' x' (setF k x j)
 | .pair a b,x,_,0,k',x',⟨c1,c2,e,h1,h2⟩,hg=>by
  simp only [getF,Ad] at hg;cases hg;refine ⟨0,rfl,[],c1,c2,by simpa using e,rfl,h1,λy=>⟨(y,x.2),by simp [setF,TV.as_self],λS' w' c2' hs hy=>?_⟩⟩;exact ⟨c2',c2,by simp,hy,Rd.mono hs b _ _ h2⟩
 | .pair a b,x,_,j+1,k',x',⟨c1,c2,e,h1,h2⟩,hg=>by
  simp only [getF] at hg;obtain ⟨o,ho,d1,d2,d3,e2,hl,hr,hset⟩:=zdi b x.2 c2 j k' x' h2 hg;refine ⟨a.size+o,by simp [Kd.offF,ho],c1++d1,d2,d3,by simp [e,e2],by simp [hl,Rd.length a _ _ h1],hr,λy=>?_⟩;obtain ⟨z,hz,hh⟩:=hset y;refine ⟨(x.1,z),by simp [setF,hz],λS' w' c2' hs hy=>?_⟩;exact ⟨c1,d1++c2'++d3,by simp,Rd.mono hs a _ _ h1,hh S' w' c2' hs hy⟩
theorem RdL.nth {α:Type} {R:α->List Value->Prop} {n:Nat} (hn:∀x cs,R x cs->cs.length=n):∀{l:List α} {cs} (i:Nat) (d:α),RdL R l cs->i<l.length->
  ∃c1 c2 c3,cs=c1++c2++c3/\c1.length=i*n/\R (l.getD i d) c2/\
   ∀(R':α->List Value->Prop) y c2',(∀x cs,R x cs->R' x cs)->R' y c2'->RdL R' (l.set i y) (c1++c2'++c3)
 | [],_,_,_,_,h=>by simp at h
 | x::l,_,0,d,⟨a,b,e,h1,h2⟩,_=>
  ⟨[],a,b,by simpa using e,by simp,by simpa using h1,λR' y c2' hi hy=>⟨c2',b,by simp,hy,RdL.imp hi h2⟩⟩
 | x::l,_,i+1,d,⟨a,b,e,h1,h2⟩,h=>by
  obtain ⟨c1,c2,c3,e2,hl,hr,hset⟩:=RdL.nth hn i d h2 (by simpa using h);refine ⟨a++c1,c2,c3,by simp [e,e2],by rw [Ae,hl,hn _ _ h1,Ag]; omega,by simpa using hr,λR' y c2' hi hy=>?_⟩;exact ⟨a,c1++c2'++c3,by simp,hi _ _ h1,hset R' y c2' hi hy⟩
theorem zty {S:Nat->Prop} {w:World} (k:Kd) (x:k.T) (cs:List Value) (s:Step) (k':Kd) (x':k'.T) (h:Rd S w k x cs) (ho:k.ok1 s) (hg:get1 k x s=some ⟨k',x'⟩):
  ∃o,k.off1 s=some (o,k')/\Lens S w k cs o k' x' (set1 k x s):=by
 cases s with
 | fld j=>
  have hg':getF k x j=some ⟨k',x'⟩:=by cases k<;>simpa [get1] using hg
  obtain ⟨o,h1,h2⟩:=zdi k x cs j k' x' h hg';refine ⟨o,by cases k<;>simpa [Kd.off1] using h1,?_⟩;obtain ⟨c1,c2,c3,e,hl,hr,hset⟩:=h2;refine ⟨c1,c2,c3,e,hl,hr,λy=>?_⟩;obtain ⟨z,hz,hh⟩:=hset y;exact ⟨z,by cases k<;>simpa [set1] using hz,hh⟩
 | idx i=>
  cases k<;>simp only [get1] at hg<;>try (cases hg; done)
  rename_i n e;simp only [Ad] at hg;cases hg;simp only [Kd.ok1] at ho;obtain ⟨hl,hr⟩:=h;obtain ⟨c1,c2,c3,e2,hl2,hr2,hset⟩:=RdL.nth (Rd.length _) i (Kd.zero _) hr (by omega);refine ⟨i*Kd.size _,rfl,c1,c2,c3,e2,hl2,hr2,λy=>⟨List.set x i y,by simp [set1,TV.as_self],λS' w' c2' hs hy=>?_⟩⟩;exact ⟨by simpa using hl,hset _ y c2' (λx cs h=>Rd.mono hs _ x cs h) hy⟩
theorem zky {S:Nat->Prop} {w:World}:∀(p:List Step) (k:Kd) (x:k.T) (cs:List Value) (k':Kd) (x':k'.T),Rd S w k x cs->k.okP p->getP k x p=some ⟨k',x'⟩->
  ∃o,k.offP p=some (o,k')/\Lens S w k cs o k' x' (setP k x p)
 | [],k,x,cs,k',x',h,_,hg=>by
  simp only [getP,Ad] at hg;cases hg;exact ⟨0,rfl,[],cs,[],by simp,rfl,h,λy=>⟨y,by simp [setP,TV.as_self],λS' w' c2' _ hy=>by simpa using hy⟩⟩
 | s::p,k,x,cs,k',x',h,ho,hg=>by
  simp only [getP] at hg;cases h1:get1 k x s with
  | none=>simp [h1] at hg
  | some v1=>
   obtain ⟨k1,x1⟩:=v1;simp only [h1] at hg;obtain ⟨o1,e1,c1,c2,c3,ec,hl,hr,hset⟩:=zty k x cs s k1 x1 h ho.1 h1;have ho2:k1.okP p:=by have:=ho.2; simpa [e1] using this
   obtain ⟨o2,e2,d1,d2,d3,ed,hl2,hr2,hset2⟩:=zky p k1 x1 c2 k' x' hr ho2 hg;refine ⟨o1+o2,by simp [Kd.offP,e1,e2],c1++d1,d2,d3++c3,by simp [ec,ed],by simp [hl,hl2],hr2,λy=>?_⟩;obtain ⟨z2,hz2,hh2⟩:=hset2 y;obtain ⟨z,hz,hh⟩:=hset z2;refine ⟨z,by simp [setP,h1,hz2,hz],λS' w' c2' hs hy=>?_⟩;have:=hh S' w' (d1++c2'++d3) hs (hh2 S' w' c2' hs hy);simpa using this
inductive Cmp where
 | val (k:Kd) (x:k.T)
 | own (j ver:Nat)
 | junk
 | mp (j:Nat)
inductive SV where
 | dead
 | nil
 | val (k:Kd) (x:k.T)
 | ptr (b:Nat) (p:List Step) (k:Kd)
 | pval (k:Kd) (x:k.T)
 | own (j ver:Nat)
 | win (j ver lo len:Nat)
 | rptr (j ver i:Nat) (p:List Step) (k:Kd)
 | asl (b:Nat) (p:List Step) (lo len:Nat)
 | pwin (b:Nat) (p:List Step) (lo n:Nat)
 | tup (l:List Cmp)
 | fn (f:FuncId)
 | nnv (e:Kd) (l:List e.T)
 | cap (e:Kd) (l:List e.T)
 | mptr (b i:Nat) (k:Kd)
 | strct (fs:List Kd) (cs:List Cmp)
 | clo (f:FuncId) (ps:List (Nat×Kd))
 | mp (j:Nat)
 | yv (i:Nat)
def Kd.flat:Kd->List Kd
 | .unit=>[]
 | .pair a b=>a.flat++b.flat
 | .int k=>[.int k]
 | .bool=>[.bool]
 | .str=>[.str]
 | .arr n e=>[.arr n e]
 | .sl e=>[.sl e]
 | .mp=>[.mp]
 | .fn=>[.fn]
def Kd.isS:Kd->Bool
 | .unit | .pair _ _=>true
 | _=>false
def Kd.flatF:Kd->Nat->Option (Nat×Kd)
 | .pair a _,0=>some (0,a)
 | .pair a b,j+1=>match b.flatF j with | some (d,k)=>some (a.flat.length+d,k) | none=>none
 | _,_=>none
inductive Blk where
 | var (k:Kd) (x:k.T) (shut:Bool)
 | row (e:Kd) (l:List e.T) (ver:Nat) (shut:Bool)
 | mix (fs:List Kd) (cs:List Cmp)
 | map (kk kv:Kd) (m:List (kk.T×kv.T))
structure Plc where
 g:Option Nat
 off:Nat
 cap:Nat
def upd {α:Type} (f:Nat->α) (i:Nat) (v:α):Nat->α:=λj=>if j=i then v else f j
@[simp] theorem Dr {α:Type} (f:Nat->α) (i:Nat) (v:α):upd f i v i=v:=Aj rfl
theorem Dm {α:Type} (f:Nat->α) {i j:Nat} (v:α) (h:j≠i):upd f i v j=f j:=Ak h
def RowV (pl:Plc) (n:Nat) (v:Value):Prop:=
 (pl.g=none/\v=.slice none 0 0)\/∃g,pl.g=some g/\v=.slice (some ⟨g,0,none⟩) n pl.cap
def WinV (g:Option Nat) (off sz lo n:Nat) (v:Value):Prop:=
 (g=none/\v=.slice none 0 0/\n=0)\/∃b o cap,g=some b/\v=.slice (some ⟨b,o,none⟩) n cap/\n<=cap/\(n=0\/o=off+lo*sz)
def MapG (S:Nat->Prop) (w:World) (kk kv:Kd):List (kk.T×kv.T)->List MapEntry->Prop
 | [],es=>es=[]
 | x::m,es=>∃e es',es=e::es'/\VRd S w kk x.1 e.key/\VRd S w kv x.2 e.val/\MapG S w kk kv m es'
theorem MapG.mono {S S':Nat->Prop} {w w':World} {kk kv:Kd} (hs:∀b,S b->S' b/\w'.heap[b]?=w.heap[b]?):∀{m:List (kk.T×kv.T)} {es:List MapEntry},MapG S w kk kv m es->MapG S' w' kk kv m es
 | [],_,h=>h
 | _::_,_,⟨e,es',h1,h2,h3,h4⟩=>⟨e,es',h1,VRd.mono hs h2,VRd.mono hs h3,MapG.mono hs h4⟩
theorem MapG.length {S:Nat->Prop} {w:World} {kk kv:Kd}:∀{m:List (kk.T×kv.T)} {es:List MapEntry},MapG S w kk kv m es->es.length=m.length
 | [],_,h=>by rw [show _=[] from h]; rfl
 | _::_,_,⟨e,es',h1,h2,h3,h4⟩=>by rw [h1,Af,Af,MapG.length h4]
def CmpG (S:Nat->Prop) (w:World) (me:Nat->Option Blk) (pl:Nat->Plc):Cmp->Value->Prop
 | .val k x,v=>VRd S w k x v
 | .own j ver,v=>∃e l ver' sh,me j=some (.row e l ver' sh)/\ver<=ver'/\(ver'=ver->RowV (pl j) l.length v)
 | .junk,_=>True
 | .mp j,v=>∃kk kv m g,me j=some (.map kk kv m)/\(pl j).g=some g/\v=.map (some g)
def CmpsG (S:Nat->Prop) (w:World) (me:Nat->Option Blk) (pl:Nat->Plc):List Cmp->List Value->Prop
 | [],vs=>vs=[]
 | c::cs,vs=>∃v vs',vs=v::vs'/\CmpG S w me pl c v/\CmpsG S w me pl cs vs'
def RefG (S:Nat->Prop) (w:World) (me:Nat->Option Blk) (pl:Nat->Plc) (c:Cmp) (seg:List Value):Prop:=
 (∀j ver,c=.own j ver->∃v,seg=[v]/\CmpG S w me pl (.own j ver) v)/\(∀j,c=.mp j->∃v,seg=[v]/\CmpG S w me pl (.mp j) v)
theorem RefG.val {S:Nat->Prop} {w:World} {me:Nat->Option Blk} {pl:Nat->Plc} {k:Kd} {x:k.T} {seg:List Value}:RefG S w me pl (.val k x) seg:=⟨λ_ _ h=>(by cases h),λ_ h=>(by cases h)⟩
def MixG (S:Nat->Prop) (w:World) (me:Nat->Option Blk) (pl:Nat->Plc):List Kd->List Cmp->List Value->Prop
 | [],cs,vs=>cs=[]/\vs=[]
 | k::fs,cs,vs=>∃c cs' seg rest,cs=c::cs'/\vs=seg++rest/\seg.length=k.size/\(∀k' x,c=.val k' x->k'=k/\Rd S w k' x seg)/\RefG S w me pl c seg/\MixG S w me pl fs cs' rest
def szs:List Kd->Nat
 | []=>0
 | k::fs=>k.size+szs fs
def moff (fs:List Kd) (i:Nat):Nat:=szs (fs.take i)
def CapsG (me:Nat->Option Blk) (pl:Nat->Plc):List (Nat×Kd)->List Value->Prop
 | [],vs=>vs=[]
 | (b,k)::ps,vs=>∃x sh g vs',vs=.pointer (some ⟨g,(pl b).off,none⟩)::vs'/\me b=some (.var k x sh)/\(pl b).g=some g/\CapsG me pl ps vs'
def BlkAt (S:Nat->Prop) (w:World) (me:Nat->Option Blk) (pls:Nat->Plc):Blk->Plc->Prop
 | .var k x sh,pl=>∃g c t,pl.g=some g/\w.heap[g]?=some (.cells c t (0,0))/\pl.off+k.size<=c.size/\
   Rd S w k x ((c.toList.drop pl.off).take k.size)/\(sh=true↔S g)
 | .row e l _ sh,pl=>(pl.g=none/\l=[]/\pl.cap=0)\/
   ∃g c t,pl.g=some g/\pl.off=0/\w.heap[g]?=some (.cells c t (0,0))/\l.length<=pl.cap/\pl.cap<=maxLen/\c.size=pl.cap*e.size/\
    RdL (Rd S w e) l (c.toList.take (l.length*e.size))/\(sh=true↔S g)
 | .mix fs cs,pl=>∃g c t,pl.g=some g/\pl.off=0/\w.heap[g]?=some (.cells c t (0,0))/\c.size=szs fs/\¬S g/\MixG S w me pls fs cs c.toList
 | .map kk kv m,pl=>∃g es t,pl.g=some g/\pl.off=0/\w.heap[g]?=some (.map es t)/\¬S g/\MapG S w kk kv m es.toList
def G (S:Nat->Prop) (w:World) (me:Nat->Option Blk) (pl:Nat->Plc):SV->Value->Prop
 | .dead,_=>True
 | .nil,v=>v=.slice none 0 0
 | .val k x,v=>VRd S w k x v
 | .ptr b p k,v=>∃kb x sh o g,me b=some (.var kb x sh)/\kb.okP p/\kb.offP p=some (o,k)/\(pl b).g=some g/\v=.pointer (some ⟨g,(pl b).off+o,none⟩)
 | .pval k x,v=>∃g off c t fr,v=.pointer (some ⟨g,off,none⟩)/\S g/\w.heap[g]?=some (.cells c t fr)/\Rd S w k x ((c.toList.drop off).take k.size)
 | .own j ver,v=>∃e l ver' sh,me j=some (.row e l ver' sh)/\ver<=ver'/\(ver'=ver->RowV (pl j) l.length v)
 | .win j ver lo n,v=>∃e l ver' sh,me j=some (.row e l ver' sh)/\ver<=ver'/\(ver'=ver->lo+n<=l.length/\WinV (pl j).g 0 e.size lo n v)
 | .rptr j ver i p k,v=>∃e l ver' sh,me j=some (.row e l ver' sh)/\ver<=ver'/\
   (ver'=ver->i<l.length/\e.okP p/\∃o g,e.offP p=some (o,k)/\(pl j).g=some g/\v=.pointer (some ⟨g,i*e.size+o,none⟩))
 | .asl b p lo n,v=>∃kb x sh o m e,me b=some (.var kb x sh)/\kb.okP p/\kb.offP p=some (o,.arr m e)/\lo+n<=m/\(pl b).g.isSome=true/\WinV (pl b).g ((pl b).off+o) e.size lo n v
 | .pwin b p lo n,v=>∃kb x sh o m e g,me b=some (.var kb x sh)/\kb.okP p/\kb.offP p=some (o,.arr m e)/\lo+n<=m/\(pl b).g=some g/\v=.pointer (some ⟨g,(pl b).off+o+lo*e.size,none⟩)
 | .tup l,v=>∃vs:List Value,v=.tuple vs.toArray/\CmpsG S w me pl l vs
 | .fn f,v=>v=.func (.func f) #[] #[]
 | .nnv e l,v=>v≠.slice none 0 0/\VRd S w (.sl e) l v
 | .cap e l,v=>VRd S w (.sl e) l v/\∃a n,v=.slice a n n
 | .mptr b i k,v=>∃fs cs g post,me b=some (.mix fs cs)/\(pl b).g=some g/\fs.drop i=k.flat++post/\v=.pointer (some ⟨g,moff fs i,none⟩)
 | .strct fs cs,v=>∃cells:List Value,v=.agg cells.toArray/\MixG S w me pl fs cs cells
 | .clo f ps,v=>∃vs:List Value,v=.func (.func f) #[] vs.toArray/\CapsG me pl ps vs
 | .mp j,v=>CmpG S w me pl (.mp j) v
 | .yv i,v=>∃e l ver sh,me i=some (.row e l ver sh)/\(ver=0->v=.func (.yield (pl i).off) #[] #[])
def Compat (pl pl':Plc):Blk->Blk->Prop
 | .var k _ _,.var k' _ _=>k=k'/\pl'=pl
 | .row e l v _,.row e' l' v' _=>e=e'/\v<=v'/\(v'=v->l'.length=l.length/\pl'=pl)
 | .mix fs _,.mix fs' _=>fs=fs'/\pl'=pl
 | .map kk kv _,.map kk' kv' _=>kk=kk'/\kv=kv'/\pl'=pl
 | _,_=>False
theorem Compat.refl (pl:Plc) (b:Blk):Compat pl pl b b:=by
 cases b
 ·exact ⟨rfl,rfl⟩
 ·exact ⟨rfl,Al _,λ_=>⟨rfl,rfl⟩⟩
 ·exact ⟨rfl,rfl⟩
 ·exact ⟨rfl,rfl,rfl⟩
structure Keeps (S:Nat->Prop) (w:World) (me:Nat->Option Blk) (pl:Nat->Plc) (S':Nat->Prop) (w':World) (me':Nat->Option Blk) (pl':Nat->Plc):Prop where
 s:∀b,S b->S' b/\w'.heap[b]?=w.heap[b]?
 m:∀i b,me i=some b->∃b',me' i=some b'/\Compat (pl i) (pl' i) b b'
section
variable {S S':Nat->Prop} {w w':World} {me me':Nat->Option Blk} {pl pl':Nat->Plc}
theorem Keeps.var (h:Keeps S w me pl S' w' me' pl') {b:Nat} {k:Kd} {x:k.T} {sh:Bool} (hb:me b=some (.var k x sh)):
  ∃(x':k.T) (sh':Bool),me' b=some (.var k x' sh')/\pl' b=pl b:=by
 obtain ⟨b',h1,h2⟩:=h.m _ _ hb;cases b' with
 | var k' x' sh'=>obtain ⟨e,hp⟩:=h2; subst e; exact ⟨x',sh',h1,hp⟩
 | row=>exact h2.elim
 | mix=>exact h2.elim
 | map=>exact h2.elim
theorem Keeps.mix (h:Keeps S w me pl S' w' me' pl') {b:Nat} {fs:List Kd} {cs:List Cmp} (hb:me b=some (.mix fs cs)):
  ∃cs',me' b=some (.mix fs cs')/\pl' b=pl b:=by
 obtain ⟨b',h1,h2⟩:=h.m _ _ hb;cases b' with
 | var=>exact h2.elim
 | row=>exact h2.elim
 | mix fs' cs'=>obtain ⟨e,hp⟩:=h2; subst e; exact ⟨cs',h1,hp⟩
 | map=>exact h2.elim
theorem Keeps.map (h:Keeps S w me pl S' w' me' pl') {b:Nat} {kk kv:Kd} {m:List (kk.T×kv.T)} (hb:me b=some (.map kk kv m)):
  ∃m',me' b=some (.map kk kv m')/\pl' b=pl b:=by
 obtain ⟨b',h1,h2⟩:=h.m _ _ hb;cases b' with
 | var=>exact h2.elim
 | row=>exact h2.elim
 | mix=>exact h2.elim
 | map kk' kv' m'=>obtain ⟨e,e',hp⟩:=h2; subst e e'; exact ⟨m',h1,hp⟩
theorem Keeps.row (h:Keeps S w me pl S' w' me' pl') {j:Nat} {e:Kd} {l:List e.T} {v:Nat} {sh:Bool} (hb:me j=some (.row e l v sh)):
  ∃(l':List e.T) (v':Nat) (sh':Bool),me' j=some (.row e l' v' sh')/\v<=v'/\(v'=v->l'.length=l.length/\pl' j=pl j):=by
 obtain ⟨b',h1,h2⟩:=h.m _ _ hb;cases b' with
 | var=>exact h2.elim
 | mix=>exact h2.elim
 | map=>exact h2.elim
 | row e' l' v' sh'=>obtain ⟨e,hv,hp⟩:=h2; subst e; exact ⟨l',v',sh',h1,hv,hp⟩
theorem CmpG.keeps (h:Keeps S w me pl S' w' me' pl') {c:Cmp} {v:Value} (hg:CmpG S w me pl c v):CmpG S' w' me' pl' c v:=by
 cases c with
 | val k x=>exact VRd.mono h.s hg
 | own j ver=>
  obtain ⟨e,l,ver',sh,hm,hv,hr⟩:=hg;obtain ⟨l',v',sh',hm',hv',hp⟩:=h.row hm;refine ⟨e,l',v',sh',hm',Am hv hv',λheq=>?_⟩;have h1:ver'=ver:=by omega
  obtain ⟨h2,h3⟩:=hp (by omega);rw [h2,h3]; exact hr h1
 | junk=>trivial
 | mp j=>
  obtain ⟨kk,kv,m,g,hm,h1,h2⟩:=hg;obtain ⟨m',hm',hp⟩:=h.map hm;exact ⟨kk,kv,m',g,hm',by rw [hp]; exact h1,h2⟩
theorem CmpsG.keeps (h:Keeps S w me pl S' w' me' pl'):∀{l:List Cmp} {vs:List Value},CmpsG S w me pl l vs->CmpsG S' w' me' pl' l vs
 | [],_,hh=>hh
 | _::_,_,⟨v,vs',e,h1,h2⟩=>⟨v,vs',e,h1.keeps h,CmpsG.keeps h h2⟩
theorem RefG.keeps (h:Keeps S w me pl S' w' me' pl') {c:Cmp} {seg:List Value} (hr:RefG S w me pl c seg):RefG S' w' me' pl' c seg:=
 ⟨λj ver hc=>by
  obtain ⟨v,hv,hg⟩:=hr.1 j ver hc;exact ⟨v,hv,hg.keeps h⟩,λj hc=>by
  obtain ⟨v,hv,hg⟩:=hr.2 j hc;exact ⟨v,hv,hg.keeps h⟩⟩
theorem MixG.keeps (h:Keeps S w me pl S' w' me' pl'):∀{fs:List Kd} {cs:List Cmp} {vs:List Value},MixG S w me pl fs cs vs->MixG S' w' me' pl' fs cs vs
 | [],_,_,hh=>hh
 | _::_,_,_,⟨c,cs',seg,rest,e1,e2,e3,h1,h2,h3⟩=>⟨c,cs',seg,rest,e1,e2,e3,λk' x hc=>⟨(h1 k' x hc).1,Rd.mono h.s k' x _ (h1 k' x hc).2⟩,RefG.keeps h h2,MixG.keeps h h3⟩
theorem CapsG.keeps (h:Keeps S w me pl S' w' me' pl'):∀{ps:List (Nat×Kd)} {vs:List Value},CapsG me pl ps vs->CapsG me' pl' ps vs
 | [],_,hh=>hh
 | _::_,_,⟨x,sh,g,vs',e,hm,hg,h2⟩=>by
  obtain ⟨x',sh',hm',hp⟩:=h.var hm;exact ⟨x',sh',g,vs',by rw [hp]; exact e,hm',by rw [hp]; exact hg,CapsG.keeps h h2⟩
theorem G.keeps (h:Keeps S w me pl S' w' me' pl') {sv:SV} {v:Value} (hg:G S w me pl sv v):G S' w' me' pl' sv v:=by
 cases sv with
 | dead=>trivial
 | nil=>exact hg
 | val k x=>exact VRd.mono h.s hg
 | ptr b p k=>
  obtain ⟨kb,x,sh,o,g,hm,h1,h2,h3,h4⟩:=hg;obtain ⟨x',sh',hm',hp⟩:=h.var hm;exact ⟨kb,x',sh',o,g,hm',h1,h2,by rw [hp]; exact h3,by rw [hp]; exact h4⟩
 | pval k x=>
  obtain ⟨g,off,c,t,fr,h1,h2,h3,h5⟩:=hg;exact ⟨g,off,c,t,fr,h1,(h.s _ h2).1,by rw [(h.s _ h2).2]; exact h3,Rd.mono h.s k x _ h5⟩
 | own j ver=>exact CmpG.keeps (c:=.own j ver) h hg
 | win j ver lo n=>
  obtain ⟨e,l,ver',sh,hm,hv,hr⟩:=hg;obtain ⟨l',v',sh',hm',hv',hp⟩:=h.row hm;refine ⟨e,l',v',sh',hm',Am hv hv',λheq=>?_⟩;have h1:ver'=ver:=by omega
  obtain ⟨h2,h3⟩:=hp (by omega);rw [h2,h3]; exact hr h1
 | rptr j ver i p k=>
  obtain ⟨e,l,ver',sh,hm,hv,hr⟩:=hg;obtain ⟨l',v',sh',hm',hv',hp⟩:=h.row hm;refine ⟨e,l',v',sh',hm',Am hv hv',λheq=>?_⟩;have h1:ver'=ver:=by omega
  obtain ⟨h2,h3⟩:=hp (by omega);rw [h2,h3]; exact hr h1
 | asl b p lo n=>
  obtain ⟨kb,x,sh,o,m,e,hm,h1,h2,h3,h4,h5⟩:=hg;obtain ⟨x',sh',hm',hp⟩:=h.var hm;exact ⟨kb,x',sh',o,m,e,hm',h1,h2,h3,by rw [hp]; exact h4,by rw [hp]; exact h5⟩
 | pwin b p lo n=>
  obtain ⟨kb,x,sh,o,m,e,g,hm,h1,h2,h3,h4,h5⟩:=hg;obtain ⟨x',sh',hm',hp⟩:=h.var hm;exact ⟨kb,x',sh',o,m,e,g,hm',h1,h2,h3,by rw [hp]; exact h4,by rw [hp]; exact h5⟩
 | tup l=>
  obtain ⟨vs,h1,h2⟩:=hg;exact ⟨vs,h1,CmpsG.keeps h h2⟩
 | fn f=>exact hg
 | nnv e l=>exact ⟨hg.1,VRd.mono h.s hg.2⟩
 | cap e l=>exact ⟨VRd.mono h.s hg.1,hg.2⟩
 | mptr b i k=>
  obtain ⟨fs,cs,g,post,hm,h1,h2,h3⟩:=hg;obtain ⟨cs',hm',hp⟩:=h.mix hm;exact ⟨fs,cs',g,post,hm',by rw [hp]; exact h1,h2,h3⟩
 | strct fs cs=>
  obtain ⟨cells,h1,h2⟩:=hg;exact ⟨cells,h1,h2.keeps h⟩
 | clo f ps=>
  obtain ⟨vs,h1,h2⟩:=hg;exact ⟨vs,h1,h2.keeps h⟩
 | mp j=>exact CmpG.keeps (c:=.mp j) h hg
 | yv i=>
  obtain ⟨e,l,ver,sh,hm,hr⟩:=hg;obtain ⟨l',v',sh',hm',hv',hp⟩:=h.row hm;refine ⟨e,l',v',sh',hm',λh0=>?_⟩;have h1:ver=0:=by omega
  rw [(hp (by omega)).2]; exact hr h1
theorem BlkAt.keeps (h:Keeps S w me pl S' w' me' pl') {b:Blk} {p:Plc} (hw:∀g,p.g=some g->w'.heap[g]?=w.heap[g]?) (hS:∀g,p.g=some g->(w.heap[g]?).isSome=true->(S' g↔S g)) (hb:BlkAt S w me pl b p):BlkAt S' w' me' pl' b p:=by
 have is:∀{g:Nat} {o:Obj},w.heap[g]?=some o->(w.heap[g]?).isSome=true:=λh=>by rw [h]; rfl
 cases b with
 | var k x sh=>
  obtain ⟨g,c,t,h1,h2,h3,h4,h5⟩:=hb;exact ⟨g,c,t,h1,by rw [hw g h1]; exact h2,h3,Rd.mono h.s k x _ h4,by rw [hS g h1 (is h2)]; exact h5⟩
 | row e l v sh=>
  rcases hb with h1 | ⟨g,c,t,h1,h1',h2,h3,h3',h4,h5,h6⟩
  ·exact .inl h1
  ·exact .inr ⟨g,c,t,h1,h1',by rw [hw g h1]; exact h2,h3,h3',h4,RdL.imp (λx cs hx=>Rd.mono h.s e x cs hx) h5,by rw [hS g h1 (is h2)]; exact h6⟩
 | mix fs cs=>
  obtain ⟨g,c,t,h1,h1',h2,h3,h4,h5⟩:=hb;exact ⟨g,c,t,h1,h1',by rw [hw g h1]; exact h2,h3,by rw [hS g h1 (is h2)]; exact h4,h5.keeps h⟩
 | map kk kv m=>
  obtain ⟨g,es,t,h1,h1',h2,h3,h4⟩:=hb;exact ⟨g,es,t,h1,h1',by rw [hw g h1]; exact h2,by rw [hS g h1 (is h2)]; exact h3,MapG.mono h.s h4⟩
end
structure RD where
 tm:Nat->SV
 ps:List Tmp
 as:Code
 bd:Code
 nt:Nat
 yi:Nat
structure NT where
 n:Nat
 gs:SV->Bool
 rd:Option RD
instance:Coe Nat NT:=⟨λn=>⟨n,λ_=>false,none⟩⟩
instance (n:Nat):OfNat NT n:=⟨⟨n,λ_=>false,none⟩⟩
def NT.lt (d:Nat) (t:NT):Prop:=d<t.n
def NT.blt (d:Nat) (t:NT):Bool:=Nat.blt d t.n
theorem NT.lt_of {d:Nat} {t:NT} (h:NT.blt d t=true):NT.lt d t:=Nat.blt_eq.mp h
structure Ctx where
 w0:World
 S0:Nat->Prop
 nt:NT
 pp:List (Nat×Nat×Nat)
  /-- what others know of values -/
 gh:SV->Value->Prop
  /-- blocks that were there, and may be turned as if they were new -/
 ow:Nat->Prop
  /-- the round of a range over a function in which this is carried out -/
 ro:Option Nat
  /-- what is deferred -/
 df:List Deferred
  /-- what never turns among the temporaries -/
 pv:Value
def tabG:Option Nat:=some 0
def tabL:List Int:=[1,10,100,1000,10000,100000,1000000,10000000,100000000,1000000000,10000000000,100000000000,1000000000000,10000000000000,100000000000000,1000000000000000,10000000000000000,100000000000000000,1000000000000000000,10000000000000000000]
def TB (S:Nat->Prop) (w:World):Prop:=∀g,tabG=some g->S g/\∃t fr,w.heap[g]?=some (.cells (tabL.map λn=>Value.int .u64 n).toArray t fr)
def ShOK (S:Nat->Prop) (w:World):Prop:=(∀b,S b->b<w.heap.size)/\TB S w
theorem TB.mono {S S':Nat->Prop} {w w':World} (h:TB S w) (hs:∀b,S b->S' b/\w'.heap[b]?=w.heap[b]?):TB S' w':=λg hg=>by
 obtain ⟨h1,t,fr,h2⟩:=h g hg;exact ⟨(hs g h1).1,t,fr,(hs g h1).2.trans h2⟩
def TC (C:Ctx):Prop:=TB C.S0 C.w0/\∀g,tabG=some g->(∀e∈C.pp,e.1≠g)/\¬C.ow g
structure Ji (w0:World) (pp:List (Nat×Nat×Nat)) (w:World) (ow:Nat->Prop:=λ_=>False):Prop where
 os:w.os=w0.os
 tape:w.tape=w0.tape
 output:w.output=w0.output
 size:w0.heap.size<=w.heap.size
 block:∀b,b<w0.heap.size->(∀e∈pp,e.1≠b)->¬ow b->w.heap[b]?=w0.heap[b]?
 part:∀e∈pp,¬ow e.1->∃c0 c t,w0.heap[e.1]?=some (.cells c0 t (0,0))/\w.heap[e.1]?=some (.cells c t (0,0))/\c.size=c0.size/\
  c.toList.take e.2.1=c0.toList.take e.2.1/\c.toList.drop (e.2.1+e.2.2)=c0.toList.drop (e.2.1+e.2.2)
def Blk.csize:Blk->Nat
 | .var k _ _=>k.size
 | .row _ _ _ _=>0
 | .mix _ _=>0
 | .map _ _ _=>0
def Ctx.own (C:Ctx) (i g:Nat):Prop:=(C.pp.length<=i/\(C.w0.heap.size<=g\/C.ow g))\/(C.ow g/\C.pp[i]?=some (g,0,0))
theorem Ctx.own.or {C:Ctx} {i g:Nat} (h:C.own i g):C.w0.heap.size<=g\/C.ow g:=by
 rcases h with ⟨_,h⟩ | ⟨h,_⟩
 ·exact h
 ·exact .inr h
theorem Ctx.own.ne {C:Ctx} {i g b:Nat} (h:C.own i g) (hb:b<C.w0.heap.size) (ho:¬C.ow b):b≠g:=by
 rcases h.or with h | h
 ·omega
 ·intro e; subst e; exact ho h
theorem Ctx.own.pp {C:Ctx} {i g:Nat} (h:C.own i g) {e:Nat×Nat×Nat} (ho:¬C.ow e.1) (hl:e.1<C.w0.heap.size):e.1≠g:=h.ne hl ho
def zgl (C:Ctx) (i:Nat) (b:Blk) (pl:Plc):Prop:=
 ∀g,pl.g=some g->(C.own i g/\pl.off=0)\/((∃k x sh,b=.var k x sh)/\C.pp[i]?=some (g,pl.off,b.csize))
def zuy (C:Ctx) (d:RD):Prop:=∃(l:Nat) (rec:Loop),C.pv=.func (.yield l) #[] #[]/\C.w0.heap[l]?=some (.loop rec)/\rec.state=.ready/\rec.pending=none/\rec.params.toList=d.ps/\rec.assign=d.as/\rec.body=d.bd/\
 rec.tmps.size=d.nt/\¬C.S0 l/\¬C.ow l/\C.pp=[]/\C.gh (.yv d.yi) C.pv/\∀t,C.gh (d.tm t) (rec.tmps.getD t undef)
structure Inv (C:Ctx) (tm:Nat->SV) (me:Nat->Option Blk) (pl:Nat->Plc) (S:Nat->Prop) (a:Act) (w:World):Prop where
 nt:a.tmps.size=C.nt.n/\∀d,C.nt.rd=some d->zuy C d
 df:a.defers=C.df
 tms:∀t,G S w me pl (tm t) (a.tmps.getD t undef)
 mem:∀i b,me i=some b->BlkAt S w me pl b (pl i)
 plcs:∀i b,me i=some b->zgl C i b (pl i)
 dis:∀i j bi bj g,i≠j->me i=some bi->me j=some bj->(pl i).g=some g->(pl j).g≠some g
 s0:∀b,C.S0 b->S b
 sfr:∀b,S b->b<w.heap.size/\(C.S0 b\/C.w0.heap.size<=b\/C.ow b)
 fr:Ji C.w0 C.pp w C.ow
 pd:(∀e∈C.pp,∀e'∈C.pp,e.1=e'.1->e=e')/\TC C
 gho:∀sv v,C.gh sv v->G S w me pl sv v
section
variable {C:Ctx} {tm:Nat->SV} {me:Nat->Option Blk} {pl:Nat->Plc} {S:Nat->Prop} {a:Act} {w:World}
theorem zdu (a:Act) (d:Nat) (v:Value) (t:Nat) (hd:d<a.tmps.size):(a.put (some d) v).tmps.getD t undef=if t=d then v else a.tmps.getD t undef:=by
 simp only [Act.put,Ao,Array.getElem?_setIfInBounds]
 by_cases h:d=t
 ·subst h; simp [hd]
 ·rw [Ak h,Ak (λe=>h e.symm)]
theorem Inv.put (h:Inv C tm me pl S a w) {d:Nat} {sv:SV} {v:Value} (hd:NT.lt d C.nt) (hg:G S w me pl sv v):Inv C (upd tm d sv) me pl S (a.put (some d) v) w:=by
 have hd':d<a.tmps.size:=by rw [h.nt.1]; exact hd
 refine ⟨⟨by simp [Act.put,h.nt.1],h.nt.2⟩,by simp [Act.put,h.df],λt=>?_,h.mem,h.plcs,h.dis,h.s0,h.sfr,h.fr,h.pd,h.gho⟩;rw [zdu a d v t hd']
 by_cases e:t=d
 ·subst e; simpa using hg
 ·rw [Ak e,Dm _ _ e]; exact h.tms t
theorem Inv.tb (h:Inv C tm me pl S a w):TB S w:=λg hg=>by
 obtain ⟨h1,t,fr,h2⟩:=h.pd.2.1 g hg;obtain ⟨h3,h4⟩:=h.pd.2.2 g hg;exact ⟨h.s0 g h1,t,fr,(h.fr.block g (Ap.1 h2).1 h3 h4).trans h2⟩
theorem Inv.shok (h:Inv C tm me pl S a w):ShOK S w:=⟨λb hb=>(h.sfr b hb).1,h.tb⟩
theorem place_lt (h:Inv C tm me pl S a w) {i:Nat} {b:Blk} {g:Nat} (hi:me i=some b) (hg:(pl i).g=some g):g<w.heap.size:=by
 have:=h.mem i b hi;cases b with
 | var k x sh=>obtain ⟨g',c',t',e1,e2,_⟩:=this; rw [hg] at e1; cases e1; exact (Ap.1 e2).1
 | row e l v sh=>
  rcases this with e1 | ⟨g',c',t',e1,_,e2,_⟩
  ·rw [hg] at e1; cases e1.1
  ·rw [hg] at e1; cases e1; exact (Ap.1 e2).1
 | mix fs cs=>obtain ⟨g',c',t',e1,_,e2,_⟩:=this; rw [hg] at e1; cases e1; exact (Ap.1 e2).1
 | map kk kv m=>obtain ⟨g',c',t',e1,_,e2,_⟩:=this; rw [hg] at e1; cases e1; exact (Ap.1 e2).1
theorem Inv.world (h:Inv C tm me pl S a w) {S':Nat->Prop} {w':World} (hS:∀b,S b->S' b) (hSn:∀b,S' b->b<w'.heap.size/\(S b\/w.heap.size<=b))
  (hos:w'.os=w.os) (htp:w'.tape=w.tape) (hout:w'.output=w.output) (hsz:w.heap.size<=w'.heap.size) (hb:∀b,b<w.heap.size->w'.heap[b]?=w.heap[b]?):
  Inv C tm me pl S' a w':=by
 have hs:∀b,S b->S' b/\w'.heap[b]?=w.heap[b]?:=λb hb'=>⟨hS b hb',hb b (h.sfr b hb').1⟩
 have hK:Keeps S w me pl S' w' me pl:=⟨hs,λi b hi=>⟨b,hi,Compat.refl _ _⟩⟩
 have lt:∀{g:Nat} {o:Obj},w.heap[g]?=some o->g<w.heap.size:=λhh=>(Ap.1 hh).1
 have hiff:∀g,g<w.heap.size->(S' g↔S g):=λg hg=>⟨λhh=>by rcases (hSn g hh).2 with h1 | h1; exact h1; omega,hS g⟩
 refine ⟨h.nt,h.df,λt=>(h.tms t).keeps hK,λi b hi=>?_,h.plcs,h.dis,λb hb'=>hS b (h.s0 b hb'),λb hb'=>?_,?_,h.pd,λsv v hg=>(h.gho sv v hg).keeps hK⟩
 ·refine (h.mem i b hi).keeps hK (λg hg=>?_) (λg hg hs=>?_)
  ·exact hb g (place_lt h hi hg)
  ·exact hiff g (place_lt h hi hg)
 ·obtain ⟨h1,h2⟩:=hSn b hb'
  refine ⟨h1,?_⟩;rcases h2 with h2 | h2
  ·exact (h.sfr b h2).2
  ·exact .inr (.inl (Am h.fr.size h2))
 ·refine ⟨hos.trans h.fr.os,htp.trans h.fr.tape,hout.trans h.fr.output,Am h.fr.size hsz,λb hb' hn ho=>?_,λe he hoe=>?_⟩
  ·rw [hb b (Nat.lt_of_lt_of_le hb' h.fr.size)]; exact h.fr.block b hb' hn ho
  ·obtain ⟨c0,c,t,h1,h2,h3⟩:=h.fr.part e he hoe
   exact ⟨c0,c,t,h1,by rw [hb _ (lt h2)]; exact h2,h3⟩
theorem V7 (w:World) (o:Obj) (b:Nat) (h:b<w.heap.size):(w.alloc o).heap[b]?=w.heap[b]?:=heap_alloc_old w o b h
theorem Inv.allocAt (h:Inv C tm me pl S a w) {i:Nat} {b:Blk} {o:Obj} {cap:Nat} (hi:∀b0,me i=some b0->Compat (pl i) ⟨some w.heap.size,0,cap⟩ b0 b) (hnp:C.pp.length<=i)
  (hb:BlkAt S (w.alloc o) (upd me i (some b)) (upd pl i ⟨some w.heap.size,0,cap⟩) b ⟨some w.heap.size,0,cap⟩):
  Inv C tm (upd me i (some b)) (upd pl i ⟨some w.heap.size,0,cap⟩) S a (w.alloc o):=by
 have h1:=h.world (S':=S) (w':=w.alloc o) (λ_ h=>h) (λb hb=>⟨by have:=(h.sfr b hb).1; simp; omega,.inl hb⟩) rfl rfl rfl (by simp) (λb hb=>V7 w _ b hb);have hK:Keeps S (w.alloc o) me pl S (w.alloc o) (upd me i (some b)) (upd pl i ⟨some w.heap.size,0,cap⟩):=
  ⟨λ_ hb=>⟨hb,rfl⟩,λj b' hj=>by
   by_cases e:j=i
   ·subst e; exact ⟨b,by simp,by simpa using hi b' hj⟩
   ·exact ⟨b',by rw [Dm _ _ e]; exact hj,by rw [Dm _ _ e]; exact Compat.refl _ _⟩⟩
 have old:∀j b' g,me j=some b'->(pl j).g=some g->g<w.heap.size:=λj b' g hj hg=>place_lt h hj hg
 refine ⟨h1.nt,h1.df,λt'=>(h1.tms t').keeps hK,λj b' hj=>?_,λj b' hj=>?_,λj1 j2 b1 b2 g hne' hj1 hj2 hg=>?_,h1.s0,h1.sfr,h1.fr,h1.pd,λsv v hg=>(h1.gho sv v hg).keeps hK⟩
 ·by_cases e:j=i
  ·subst e; simp only [Dr,Ad] at hj; subst hj; simpa using hb
  ·rw [Dm _ _ e] at hj; rw [Dm _ _ e]; exact (h1.mem j b' hj).keeps hK (λ_ _=>rfl) (λ_ _ _=>Iff.rfl)
 ·by_cases e:j=i
  ·subst e
   simp only [Dr,Ad] at hj; subst hj;intro g hg;simp at hg;exact .inl ⟨.inl ⟨hnp,.inl (by rw [<-hg]; exact h.fr.size)⟩,by simp⟩
  ·rw [Dm _ _ e] at hj; rw [Dm _ _ e]; exact h1.plcs j b' hj
 ·by_cases e1:j1=i
  ·subst e1
   have e2:j2≠j1:=λe=>hne' e.symm
   rw [Dm _ _ e2] at hj2;rw [Dm _ _ e2];simp at hg;intro hh;have:=old j2 b2 g hj2 hh;omega
  ·rw [Dm _ _ e1] at hj1 hg
   by_cases e2:j2=i
   ·subst e2
    have:=old j1 b1 g hj1 hg;simp; omega
   ·rw [Dm _ _ e2] at hj2; rw [Dm _ _ e2]
    exact h1.dis j1 j2 b1 b2 g hne' hj1 hj2 hg
theorem Inv.alloc (h:Inv C tm me pl S a w) {i:Nat} {b:Blk} {o:Obj} {cap:Nat} (hi:me i=none) (hnp:C.pp.length<=i)
  (hb:BlkAt S (w.alloc o) (upd me i (some b)) (upd pl i ⟨some w.heap.size,0,cap⟩) b ⟨some w.heap.size,0,cap⟩):
  Inv C tm (upd me i (some b)) (upd pl i ⟨some w.heap.size,0,cap⟩) S a (w.alloc o):=
 h.allocAt (λb0 hb0=>by rw [hi] at hb0; cases hb0) hnp hb
theorem Inv.nilrow (h:Inv C tm me pl S a w) {i:Nat} (e:Kd) (hi:me i=none):
  Inv C tm (upd me i (some (.row e [] 0 false))) (upd pl i ⟨none,0,0⟩) S a w:=by
 have hne:∀j b',me j=some b'->j≠i:=λj b' hj e=>by subst e; rw [hi] at hj; cases hj
 have hK:Keeps S w me pl S w (upd me i (some (.row e [] 0 false))) (upd pl i ⟨none,0,0⟩):=
  ⟨λ_ hb=>⟨hb,rfl⟩,λj b' hj=>⟨b',by rw [Dm _ _ (hne j b' hj)]; exact hj,by rw [Dm _ _ (hne j b' hj)]; exact Compat.refl _ _⟩⟩
 refine ⟨h.nt,h.df,λt'=>(h.tms t').keeps hK,λj b' hj=>?_,λj b' hj=>?_,λj1 j2 b1 b2 g hne' hj1 hj2 hg=>?_,h.s0,h.sfr,h.fr,h.pd,λsv v hg=>(h.gho sv v hg).keeps hK⟩
 ·by_cases e:j=i
  ·subst e; simp only [Dr,Ad] at hj; subst hj; exact .inl (by simp)
  ·rw [Dm _ _ e] at hj; rw [Dm _ _ e]; exact (h.mem j b' hj).keeps hK (λ_ _=>rfl) (λ_ _ _=>Iff.rfl)
 ·by_cases e:j=i
  ·subst e; intro g hg; simp at hg
  ·rw [Dm _ _ e] at hj; rw [Dm _ _ e]; exact h.plcs j b' hj
 ·by_cases e1:j1=i
  ·subst e1; simp at hg
  ·rw [Dm _ _ e1] at hj1 hg
   by_cases e2:j2=i
   ·subst e2; simp
   ·rw [Dm _ _ e2] at hj2; rw [Dm _ _ e2]
    exact h.dis j1 j2 b1 b2 g hne' hj1 hj2 hg
theorem Inv.write (h:Inv C tm me pl S a w) {i:Nat} {b b':Blk} {g:Nat} {c c':Array Value} {t:TypeId} (hi:me i=some b) (hg:(pl i).g=some g) (hnS:¬S g)
  (hc:w.heap[g]?=some (.cells c t (0,0))) (hsz:c'.size=c.size) (hlo:c'.toList.take (pl i).off=c.toList.take (pl i).off)
  (hhi:(∃k x sh,b=.var k x sh)->c'.toList.drop ((pl i).off+b.csize)=c.toList.drop ((pl i).off+b.csize)) (hcs:b'.csize=b.csize)
  (hvar:(∃k x sh,b=.var k x sh)↔(∃k x sh,b'=.var k x sh))
  (hcomp:Compat (pl i) (pl i) b b') (hb:BlkAt S (w.setRow g c') (upd me i (some b')) pl b' (pl i)):
  Inv C tm (upd me i (some b')) pl S a (w.setRow g c'):=by
 have hs:∀b,S b->S b/\(w.setRow g c').heap[b]?=w.heap[b]?:=λb hb=>⟨hb,Aq w g b c' (λe=>hnS (e ▸ hb))⟩
 have hK:Keeps S w me pl S (w.setRow g c') (upd me i (some b')) pl:=by
  refine ⟨hs,λj bj hj=>?_⟩
  by_cases e:j=i
  ·subst e; rw [hi] at hj; cases hj; exact ⟨b',by simp,hcomp⟩
  ·exact ⟨bj,by rw [Dm _ _ e]; exact hj,Compat.refl _ _⟩
 have oth:∀j bj gj,j≠i->me j=some bj->(pl j).g=some gj->gj≠g:=λj bj gj hne hj hgj e=>by
  subst e; exact h.dis i j b bj gj (λe=>hne e.symm) hi hj hg hgj
 refine ⟨h.nt,h.df,λt'=>(h.tms t').keeps hK,λj bj hj=>?_,λj bj hj=>?_,λj1 j2 b1 b2 g' hne' hj1 hj2 hg'=>?_,h.s0,λb hb=>?_,?_,h.pd,λsv v hg=>(h.gho sv v hg).keeps hK⟩
 ·by_cases e:j=i
  ·subst e; simp only [Dr,Ad] at hj; subst hj; exact hb
  ·rw [Dm _ _ e] at hj
   exact (h.mem j bj hj).keeps hK (λgj hgj=>Aq w g gj c' (oth j _ gj e hj hgj)) (λ_ _ _=>Iff.rfl)
 ·by_cases e:j=i
  ·subst e
   simp only [Dr,Ad] at hj; subst hj;intro g' hg';rcases h.plcs j b hi g' hg' with h1 | ⟨h1,h2⟩
   ·exact .inl h1
   ·exact .inr ⟨hvar.1 h1,by rw [hcs]; exact h2⟩
  ·rw [Dm _ _ e] at hj; exact h.plcs j bj hj
 ·have q1:∃b,me j1=some b:=by
   by_cases e1:j1=i
   ·exact ⟨b,e1 ▸ hi⟩
   ·rw [Dm _ _ e1] at hj1; exact ⟨_,hj1⟩
  have q2:∃b,me j2=some b:=by
   by_cases e1:j2=i
   ·exact ⟨b,e1 ▸ hi⟩
   ·rw [Dm _ _ e1] at hj2; exact ⟨_,hj2⟩
  obtain ⟨b1',q1⟩:=q1;obtain ⟨b2',q2⟩:=q2;exact h.dis j1 j2 b1' b2' g' hne' q1 q2 hg'
 ·obtain ⟨h1,h2⟩:=h.sfr b hb
  exact ⟨by simpa using h1,h2⟩
 ·refine ⟨h.fr.os,h.fr.tape,h.fr.output,by simpa using h.fr.size,λb' hb' hn ho=>?_,λe he hoe=>?_⟩
  ·have hne:b'≠g:=by
    rcases h.plcs i b hi g hg with ⟨h1,_⟩ | ⟨_,h1⟩
    ·exact h1.ne hb' ho
    ·intro e
     subst e;exact hn _ (Ar h1) rfl
   rw [Aq w g b' c' hne]; exact h.fr.block b' hb' hn ho
  ·obtain ⟨c0,cc,tt,h1,h2,h3,h4,h5⟩:=h.fr.part e he hoe
   by_cases heg:e.1=g
   ·rcases h.plcs i b hi g hg with ⟨h6,_⟩ | ⟨h6v,h6⟩
    ·exact absurd heg (h6.pp hoe (Ap.1 h1).1)
    ·have ee:=h.pd.1 e he _ (Ar h6) heg
     subst ee;rw [hc] at h2;cases h2;exact ⟨c0,c',t,h1,setRow_heap w g c c' t (0,0) hc,by rw [hsz,h3],by rw [hlo]; exact h4,by rw [hhi h6v]; exact h5⟩
   ·exact ⟨c0,cc,tt,h1,by rw [Aq w g e.1 c' heg]; exact h2,h3,h4,h5⟩
theorem Inv.writeMap (h:Inv C tm me pl S a w) {i:Nat} {kk kv:Kd} {m m':List (kk.T×kv.T)} {g:Nat} {es es':Array MapEntry} {t t':Nat} (hi:me i=some (.map kk kv m)) (hg:(pl i).g=some g) (hnS:¬S g)
  (hc:w.heap[g]?=some (.map es t)) (hb:MapG S w kk kv m' es'.toList):
  Inv C tm (upd me i (some (.map kk kv m'))) pl S a {w with heap:=w.heap.setIfInBounds g (.map es' t')}/\Keeps S w me pl S {w with heap:=w.heap.setIfInBounds g (.map es' t')} (upd me i (some (.map kk kv m'))) pl:=by
 have hlt:g<w.heap.size:=(Ap.1 hc).1;have oldw:∀b,b≠g->(w.heap.setIfInBounds g (.map es' t'))[b]?=w.heap[b]?:=λb hne=>by simp [Ne.symm hne]
 have neww:(w.heap.setIfInBounds g (.map es' t'))[g]?=some (.map es' t'):=by simp [hlt]
 have hs:∀b,S b->S b/\(w.heap.setIfInBounds g (.map es' t'))[b]?=w.heap[b]?:=λb hb=>⟨hb,oldw b (λe=>hnS (e ▸ hb))⟩
 have hK:Keeps S w me pl S {w with heap:=w.heap.setIfInBounds g (.map es' t')} (upd me i (some (.map kk kv m'))) pl:=by
  refine ⟨hs,λj bj hj=>?_⟩
  by_cases e:j=i
  ·subst e; rw [hi] at hj; cases hj; exact ⟨.map kk kv m',by simp,rfl,rfl,rfl⟩
  ·exact ⟨bj,by rw [Dm _ _ e]; exact hj,Compat.refl _ _⟩
 have oth:∀j bj gj,j≠i->me j=some bj->(pl j).g=some gj->gj≠g:=λj bj gj hne hj hgj e=>by
  subst e; exact h.dis i j _ bj gj (λe=>hne e.symm) hi hj hg hgj
 obtain ⟨g1,es1,t1,e1,eoff,e2,e3,e4⟩:=h.mem i _ hi;refine ⟨⟨h.nt,h.df,λt'=>(h.tms t').keeps hK,λj bj hj=>?_,λj bj hj=>?_,λj1 j2 b1 b2 g' hne' hj1 hj2 hg'=>?_,h.s0,λb hb=>?_,?_,h.pd,λsv v hg=>(h.gho sv v hg).keeps hK⟩,hK⟩
 ·by_cases e:j=i
  ·subst e; simp only [Dr,Ad] at hj; subst hj
   exact ⟨g,es',t',hg,eoff,neww,hnS,hb.mono hs⟩
  ·rw [Dm _ _ e] at hj
   exact (h.mem j bj hj).keeps hK (λgj hgj=>oldw gj (oth j _ gj e hj hgj)) (λ_ _ _=>Iff.rfl)
 ·by_cases e:j=i
  ·subst e
   simp only [Dr,Ad] at hj; subst hj;intro g' hg';rcases h.plcs j _ hi g' hg' with h1 | ⟨⟨_,_,_,h1⟩,h2⟩
   ·exact .inl h1
   ·cases h1
  ·rw [Dm _ _ e] at hj; exact h.plcs j bj hj
 ·have q1:∃b,me j1=some b:=by
   by_cases e1:j1=i
   ·exact ⟨_,e1 ▸ hi⟩
   ·rw [Dm _ _ e1] at hj1; exact ⟨_,hj1⟩
  have q2:∃b,me j2=some b:=by
   by_cases e1:j2=i
   ·exact ⟨_,e1 ▸ hi⟩
   ·rw [Dm _ _ e1] at hj2; exact ⟨_,hj2⟩
  obtain ⟨b1',q1⟩:=q1;obtain ⟨b2',q2⟩:=q2;exact h.dis j1 j2 b1' b2' g' hne' q1 q2 hg'
 ·obtain ⟨h1,h2⟩:=h.sfr b hb
  exact ⟨by simpa using h1,h2⟩
 ·refine ⟨h.fr.os,h.fr.tape,h.fr.output,by simpa using h.fr.size,λb' hb' hn ho=>?_,λe he hoe=>?_⟩
  ·have hne:b'≠g:=by
    rcases h.plcs i _ hi g hg with ⟨h1,_⟩ | ⟨⟨_,_,_,h1⟩,_⟩
    ·exact h1.ne hb' ho
    ·cases h1
   show (w.heap.setIfInBounds g (.map es' t'))[b']?=_;rw [oldw b' hne]; exact h.fr.block b' hb' hn ho
  ·obtain ⟨c0,cc,tt,h1,h2,h3,h4,h5⟩:=h.fr.part e he hoe
   have hne:e.1≠g:=λhh=>by rw [hh,hc] at h2; cases h2
   exact ⟨c0,cc,tt,h1,by show (w.heap.setIfInBounds g (.map es' t'))[e.1]?=_; rw [oldw _ hne]; exact h2,h3,h4,h5⟩
theorem MixG.at {S:Nat->Prop} {w:World} {me:Nat->Option Blk} {pl:Nat->Plc}:∀{fs:List Kd} {cs:List Cmp} {vs:List Value} {i:Nat} {k:Kd} {c:Cmp},MixG S w me pl fs cs vs->fs[i]?=some k->cs[i]?=some c->
  ∃pre seg post,vs=pre++seg++post/\pre.length=szs (fs.take i)/\seg.length=k.size/\(∀k' x,c=.val k' x->k'=k/\Rd S w k' x seg)/\RefG S w me pl c seg/\
   (∀c' seg',seg'.length=k.size->(∀k' x,c'=.val k' x->k'=k/\Rd S w k' x seg')->RefG S w me pl c' seg'->MixG S w me pl fs (cs.set i c') (pre++seg'++post))
 | [],_,_,_,_,_,_,h,_=>by simp at h
 | k0::fs,_,_,0,k,c,⟨c0,cs',seg,rest,e1,e2,e3,h1,h2,h3⟩,hk,hc=>by
  subst e1 e2;simp only [List.getElem?_cons_zero,Ad] at hk hc;subst hk hc;refine ⟨[],seg,rest,rfl,rfl,e3,h1,h2,λc' seg' hl hv ho=>⟨c',cs',seg',rest,rfl,rfl,hl,hv,ho,h3⟩⟩
 | k0::fs,_,_,i+1,k,c,⟨c0,cs',seg,rest,e1,e2,e3,h1,h2,h3⟩,hk,hc=>by
  subst e1 e2;simp only [List.getElem?_cons_succ] at hk hc;obtain ⟨pre,sg,post,q1,q2,q3,q4,q5,q6⟩:=h3.at hk hc;subst q1;refine ⟨seg++pre,sg,post,by simp,by simp [szs,e3,q2],q3,q4,q5,λc' seg' hl hv ho=>⟨c0,cs'.set i c',seg,pre++seg'++post,rfl,by simp,e3,h1,h2,q6 c' seg' hl hv ho⟩⟩
theorem MixG.size {S:Nat->Prop} {w:World} {me:Nat->Option Blk} {pl:Nat->Plc}:∀{fs:List Kd} {cs:List Cmp} {vs:List Value},MixG S w me pl fs cs vs->vs.length=szs fs/\cs.length=fs.length
 | [],_,_,⟨e1,e2⟩=>by subst e1 e2; exact ⟨rfl,rfl⟩
 | k0::fs,_,_,⟨c0,cs',seg,rest,e1,e2,e3,h1,h2,h3⟩=>by
  subst e1 e2;obtain ⟨a,b⟩:=h3.size;exact ⟨by simp [szs,e3,a],by simp [b]⟩
end
structure TyD where
 desc:TypeDesc
 size:Nat
 bytes:Nat
 kd:Option Kd
abbrev Tab:=List (Nat×TyD)
def Kj:Tab->TypeId->Option TyD
 | [],_=>none
 | (i,d)::l,t=>match Nat.beq i t with | true=>some d | false=>Kj l t
def tkd (T:Tab) (t:TypeId):Option Kd:=match Kj T t with | some d=>d.kd | none=>none
def E0 (T:Tab) (t:TypeId):Option TypeDesc:=match Kj T t with | some d=>some d.desc | none=>none
def kdIs (T:Tab) (t:TypeId) (k:Kd):Bool:=match tkd T t with | some k'=>k'.same k | none=>false
def tget:List (Nat×SV)->Nat->SV
 | [],_=>.dead
 | (i,s)::l,t=>match Nat.beq i t with | true=>s | false=>tget l t
def mget:List (Nat×Blk)->Nat->Option Blk
 | [],_=>none
 | (i,b)::l,t=>match Nat.beq i t with | true=>some b | false=>mget l t
structure St where
 tm:List (Nat×SV)
 me:List (Nat×Blk)
 nx:Nat
def cSV:Value->SV
 | .int k n=>.val (.int k) n
 | .bool b=>.val .bool b
 | .string s=>.val .str s
 | .slice none 0 0=>.nil
 | _=>.dead
def opv (tm:List (Nat×SV)):Operand->SV
 | .tmp t=>tget tm t
 | .const v=>cSV v
 | .func f=>.fn f
 | .global _=>.dead
structure ARes where
 ok:Bool
 sv:SV
 wr:List (Nat×Blk)
 acc:List Nat
 nx:Nat
def Ix (np:Nat) (rd:Nat->Option Blk):SV->(k:Kd)->Option (k.T×List (Nat×Blk)×List Nat)
 | .val k' x,k=>match TV.as ⟨k',x⟩ k with | some y=>some (y,[],[]) | none=>none
 | .nil,.sl _=>some ([],[],[])
 | .own j ver,k=>match Nat.blt j np,rd j with
  | false,some (.row e l ver' _)=>match Nat.beq ver ver',TV.as ⟨.sl e,l⟩ k with
   | true,some y=>some (y,[(j,.row e l ver' true)],[j])
   | _,_=>none
  | _,_=>none
 | .win j ver lo n,k=>match Nat.blt j np,rd j with
  | false,some (.row e l ver' _)=>match Nat.beq ver ver',TV.as ⟨.sl e,(l.drop lo).take n⟩ k with
   | true,some y=>some (y,[(j,.row e l ver' true)],[j])
   | _,_=>none
  | _,_=>none
 | .asl b p lo n,k=>match Nat.blt b np,rd b with
  | false,some (.var kb x _)=>match getP kb x p with
   | some ⟨.arr _ e,l⟩=>match TV.as ⟨.sl e,(List.take n (List.drop lo l))⟩ k with
    | some y=>some (y,[(b,.var kb x true)],[b])
    | none=>none
   | _=>none
  | _,_=>none
 | .fn f,k=>match k with
  | .fn=>some (FnV.fn f,[],[])
  | _=>none
 | .clo f ps,k=>match k,ps with
  | .fn,[(b,_)]=>match Nat.blt b np,rd b with
   | false,some (.var kb x _)=>match TV.as ⟨kb,x⟩ .fn with
    | some y=>some (FnV.clo f y,[(b,.var .fn y true)],[b])
    | none=>none
   | _,_=>none
  | _,_=>none
 | _,_=>none
def rdSl (rd:Nat->Option Blk):SV->Option ((e:Kd)×List e.T×List Nat)
 | .val (.sl e) l=>some ⟨e,l,[]⟩
 | .nnv e l=>some ⟨e,l,[]⟩
 | .own j ver=>match rd j with
  | some (.row e l ver' _)=>match Nat.beq ver ver' with | true=>some ⟨e,l,[j]⟩ | false=>none
  | _=>none
 | .win j ver lo n=>match rd j with
  | some (.row e l ver' _)=>match Nat.beq ver ver' with | true=>some ⟨e,(l.drop lo).take n,[j]⟩ | false=>none
  | _=>none
 | .asl b p lo n=>match rd b with
  | some (.var kb x _)=>match getP kb x p with
   | some ⟨.arr _ e,l⟩=>some ⟨e,List.take n (List.drop lo l),[b]⟩
   | _=>none
  | _=>none
 | _=>none
def ok1 (sv:SV) (nx:Nat):Option ARes:=some ⟨true,sv,[],[],nx⟩
def iand (k:IntKind) (a b:Int):Int:=k.wrap ((BitVec.ofInt k.bits a&&& BitVec.ofInt k.bits b).toNat:Int)
def ior (k:IntKind) (a b:Int):Int:=k.wrap ((BitVec.ofInt k.bits a||| BitVec.ofInt k.bits b).toNat:Int)
def ixor (k:IntKind) (a b:Int):Int:=k.wrap ((BitVec.ofInt k.bits a^^^BitVec.ofInt k.bits b).toNat:Int)
def zz8 (k:IntKind) (a b:Int):Int:=k.wrap ((BitVec.ofInt k.bits a&&& ~~~ BitVec.ofInt k.bits b).toNat:Int)
def ishl (k:IntKind) (a b:Int):Int:=k.wrap (a*2^(min b.toNat k.bits))
def ishr (k:IntKind) (a b:Int):Int:=a.fdiv (2^(min b.toNat k.bits))
def K6 (op:BinOp) (k:IntKind) (a b:Int):Bool×TV:=
 match op with
 | .add=>(true,⟨.int k,k.wrap (a+b)⟩)
 | .sub=>(true,⟨.int k,k.wrap (a - b)⟩)
 | .mul=>(true,⟨.int k,k.wrap (a*b)⟩)
 | .quo=>(!(b==0),⟨.int k,k.wrap (a.tdiv b)⟩)
 | .rem=>(!(b==0),⟨.int k,a.tmod b⟩)
 | .and=>(true,⟨.int k,iand k a b⟩)
 | .or=>(true,⟨.int k,ior k a b⟩)
 | .xor=>(true,⟨.int k,ixor k a b⟩)
 | .andNot=>(true,⟨.int k,zz8 k a b⟩)
 | .shl=>(decide (0<=b),⟨.int k,ishl k a b⟩)
 | .shr=>(decide (0<=b),⟨.int k,ishr k a b⟩)
 | .eql=>(true,⟨.bool,a==b⟩)
 | .neq=>(true,⟨.bool,a !=b⟩)
 | .lss=>(true,⟨.bool,decide (a<b)⟩)
 | .leq=>(true,⟨.bool,decide (a<=b)⟩)
 | .gtr=>(true,⟨.bool,decide (a>b)⟩)
 | .geq=>(true,⟨.bool,decide (a>=b)⟩)
def eqvL {α:Type} (f:α->α->Bool):List α->List α->Bool
 | x::xs,y::ys=>f x y&&eqvL f xs ys
 | _,_=>true
def Kd.eqv:(k:Kd)->k.T->k.T->Bool
 | .int _,a,b=>(show Int from a)==(show Int from b)
 | .bool,a,b=>(show Bool from a)==(show Bool from b)
 | .str,a,b=>(show ByteArray from a).toList==(show ByteArray from b).toList
 | .unit,_,_=>true
 | .pair k l,a,b=>k.eqv a.1 b.1&&l.eqv a.2 b.2
 | .arr _ e,a,b=>eqvL e.eqv a b
 | .sl _,_,_=>true
 | .mp,_,_=>true
 | .fn,_,_=>true
def Om:BinOp->Bool | .shl | .shr=>true | _=>false
def aBin (T:Tab) (eqt:List Nat) (op:BinOp) (xt:TypeId) (x y:SV) (nx:Nat):Option ARes:=
 match x,y with
 | .val (.int k) a,.val (.int k') b=>match Om op,Kd.ikb k k' with
  | false,false=>none
  | _,_=>match K6 op k a b with | (c,v)=>some ⟨c,.val v.1 v.2,[],[],nx⟩
 | .val .bool a,.val .bool b=>match op,tkd T xt with
  | .eql,some .bool=>ok1 (.val .bool (a==b)) nx
  | .neq,some .bool=>ok1 (.val .bool (!(a==b))) nx
  | _,_=>none
 | .val .str a,.val .str b=>match op with
  | .add=>some ⟨decide (ByteArray.size a+ByteArray.size b<=9223372036854775807),.val .str (ByteArray.append a b),[],[],nx⟩
  | .eql=>ok1 (.val .bool (a.toList==b.toList)) nx
  | .neq=>ok1 (.val .bool (!(a.toList==b.toList))) nx
  | _=>none
 | .val k a,.val k' b=>match op,tkd T xt,TV.as ⟨k',b⟩ k,eqt.elem xt,k.agg with
  | .eql,some kt,some b',true,true=>match kt.same k with | true=>ok1 (.val .bool (k.eqv a b')) nx | false=>none
  | .neq,some kt,some b',true,true=>match kt.same k with | true=>ok1 (.val .bool (!(k.eqv a b'))) nx | false=>none
  | _,_,_,_,_=>none
 | _,_=>none
def aNil (T:Tab) (op:BinOp) (t:TypeId) (x y:SV) (nx:Nat):Option ARes:=
 match op,E0 T t,x,y with
 | .eql,some (.slice _),.nil,.nil=>ok1 (.val .bool true) nx
 | .eql,some (.slice _),.nnv _ _,.nil=>ok1 (.val .bool false) nx
 | _,_,_,_=>none
def aUn (op:UnOp) (x:SV) (nx:Nat):Option ARes:=
 match op,x with
 | .neg,.val (.int k) a=>ok1 (.val (.int k) (k.wrap (0 - a))) nx
 | .xor,.val (.int k) a=>ok1 (.val (.int k) (ixor k (if k.signed then -1 else k.max) a)) nx
 | .not,.val .bool a=>ok1 (.val .bool (!a)) nx
 | _,_=>none
def NO (l:List Int):ByteArray:=⟨(l.map λn=>UInt8.ofNat n.toNat).toArray⟩
def zok (T:Tab) (rd:Nat->Option Blk) (src dst:TypeId) (x:SV) (nx:Nat):Option ARes:=
 match E0 T src,E0 T dst,x with
 | some (.int _),some (.int k),.val (.int _) a=>ok1 (.val (.int k) (k.wrap a)) nx
 | some .string,some .string,.val .str a=>ok1 (.val .str a) nx
 | some (.slice _),some .string,x=>match tkd T src,rdSl rd x with
  | some (.sl (.int .u8)),some ⟨.int .u8,l,acc⟩=>some ⟨true,.val .str (NO l),[],acc,nx⟩
  | _,_=>none
 | _,_,_=>none
def VB (T:Tab) (rd:Nat->Option Blk) (t:TypeId) (x:SV) (nx:Nat):Option ARes:=
 match tkd T t with
 | none=>none
 | some kt=>
  match x with
  | .ptr b p k=>match kt.same k,rd b with
   | true,some (.var kb y _)=>match getP kb y p with
    | some ⟨k',z⟩=>match k'.same k with | true=>some ⟨true,.val k' z,[],[b],nx⟩ | false=>none
    | none=>none
   | _,_=>none
  | .pval k z=>match kt.same k with | true=>ok1 (.val k z) nx | false=>none
  | .rptr j ver i p k=>match kt.same k,rd j with
   | true,some (.row e l ver' _)=>match Nat.beq ver ver',getP e (l.getD i e.zero) p with
    | true,some ⟨k',z⟩=>match k'.same k with | true=>some ⟨true,.val k' z,[],[j],nx⟩ | false=>none
    | _,_=>none
   | _,_=>none
  | .pwin b p lo n=>match rd b with
   | some (.var kb y _)=>match getP kb y p with
    | some ⟨.arr _ e,l⟩=>match kt.same (.arr n e) with
     | true=>some ⟨true,.val (.arr n e) (List.take n (List.drop lo l)),[],[b],nx⟩
     | false=>none
    | _=>none
   | _=>none
  | _=>none
def Mn:List Kd->List Kd->Bool
 | [],[]=>true
 | a::l,b::m=>a.same b&&Mn l m
 | _,_=>false
def Ht (np:Nat) (k:Kd) (rd:Nat->Option Blk):List Cmp->Option (k.T×List (Nat×Blk)×List Nat×List Cmp)
 | .val k' x::cs=>match TV.as ⟨k',x⟩ k with
  | some y=>some (y,[],[],cs)
  | none=>none
 | .own j v::cs=>match Ix np rd (.own j v) k with
  | some (y,wr,acc)=>some (y,wr,acc,cs)
  | none=>none
 | _=>none
def T6 (np:Nat):(k:Kd)->(Nat->Option Blk)->List Cmp->Option (k.T×List (Nat×Blk)×List Nat×List Cmp)
 | .unit,_,cs=>some ((),[],[],cs)
 | .pair a b,rd,cs=>match T6 np a rd cs with
  | some (y,wr,acc,cs1)=>match T6 np b (λj=>match mget wr j with | some b=>some b | none=>rd j) cs1 with
   | some (z,wr',acc',cs2)=>some ((y,z),wr'++wr,acc++acc',cs2)
   | none=>none
  | none=>none
 | .int k,rd,cs=>Ht np (.int k) rd cs
 | .bool,rd,cs=>Ht np .bool rd cs
 | .str,rd,cs=>Ht np .str rd cs
 | .arr n e,rd,cs=>Ht np (.arr n e) rd cs
 | .sl e,rd,cs=>Ht np (.sl e) rd cs
 | .mp,rd,cs=>Ht np .mp rd cs
 | .fn,rd,cs=>Ht np .fn rd cs
def Uh (T:Tab) (np:Nat) (rd:Nat->Option Blk) (t:TypeId) (b i:Nat) (k:Kd) (nx:Nat):Option ARes:=
 match tkd T t,rd b with
 | some kt,some (.mix _ cs)=>match kt.same k,kt.isS with
  | true,true=>match T6 np kt rd (cs.drop i) with
   | some (x,wr,acc,_)=>some ⟨true,.val kt x,wr,b::acc,nx⟩
   | none=>none
  | true,false=>match cs[i]? with
   | some (.val k' x)=>match kt.same k' with
    | true=>some ⟨true,.val k' x,[],[b],nx⟩
    | false=>none
   | some (.own j ver)=>match kt with
    | .sl _=>some ⟨true,.own j ver,[],[b],nx⟩
    | _=>none
   | some (.mp j)=>match kt with
    | .mp=>some ⟨true,.mp j,[],[b],nx⟩
    | _=>none
   | _=>none
  | _,_=>none
 | _,_=>none
def RY:(k:Kd)->k.T->List Cmp
 | .unit,_=>[]
 | .pair a b,x=>RY a x.1++RY b x.2
 | .int k,x=>[.val (.int k) x]
 | .bool,x=>[.val .bool x]
 | .str,x=>[.val .str x]
 | .arr n e,x=>[.val (.arr n e) x]
 | .sl e,x=>[.val (.sl e) x]
 | .mp,x=>[.val .mp x]
 | .fn,x=>[.val .fn x]
def It (rd:Nat->Option Blk):List Cmp->Option (List Nat)
 | []=>some []
 | .val _ _::cs=>It rd cs
 | .mp _::cs=>It rd cs
 | .own j ver::cs=>match rd j,It rd cs with
  | some (.row _ _ ver' _),some acc=>match Nat.beq ver ver' with
   | true=>some (j::acc)
   | false=>none
  | _,_=>none
 | .junk::_=>none
def DU (T:Tab) (rd:Nat->Option Blk) (t:TypeId) (b i:Nat) (kp:Kd) (v:SV) (nx:Nat):Option ARes:=
 match tkd T t,rd b with
 | some kt,some (.mix fs cs)=>match kt.same kp,kt.isS with
  | true,false=>match v with
   | .own j ver=>match rd j with
    | some (.row e _ ver' false)=>match kt.same (.sl e),Nat.beq ver ver' with
     | true,true=>some ⟨true,.dead,[(b,.mix fs (cs.set i (.own j ver)))],[b,j],nx⟩
     | _,_=>none
    | _=>none
   | .val k' x=>match kt.same k' with
    | true=>some ⟨true,.dead,[(b,.mix fs (cs.set i (.val k' x)))],[b],nx⟩
    | false=>none
   | .mp j=>match kt with
    | .mp=>some ⟨true,.dead,[(b,.mix fs (cs.set i (.mp j)))],[b],nx⟩
    | _=>none
   | _=>none
  | true,true=>match v with
   | .strct fs' cs'=>match Mn kt.flat fs',It rd cs',Nat.ble i fs.length with
    | true,some acc,true=>some ⟨true,.dead,[(b,.mix fs (cs.take i++cs'++cs.drop (i+kt.flat.length)))],b::acc,nx⟩
    | _,_,_=>none
   | .val k' x=>match kt.same k',Nat.ble i fs.length with
    | true,true=>some ⟨true,.dead,[(b,.mix fs (cs.take i++RY k' x++cs.drop (i+k'.flat.length)))],[b],nx⟩
    | _,_=>none
   | _=>none
  | _,_=>none
 | _,_=>none
def UZ (T:Tab) (np:Nat) (rd:Nat->Option Blk) (t:TypeId) (x v:SV) (nx:Nat):Option ARes:=
 match tkd T t with
 | none=>none
 | some kt=>
  match Ix np rd v kt with
  | none=>none
  | some (y,wr,acc)=>
   match x with
   | .ptr b p k=>match kt.same k,rd b,acc with
    | true,some (.var kb z false),[]=>match setP kb z p ⟨kt,y⟩ with
     | some z'=>some ⟨true,.dead,[(b,.var kb z' false)],[b],nx⟩
     | none=>none
    | true,some (.var kb z false),[i]=>match Nat.beq i b,setP kb z p ⟨kt,y⟩ with
     | false,some z'=>some ⟨true,.dead,(b,.var kb z' false)::wr,[b,i],nx⟩
     | _,_=>none
    | _,_,_=>none
   | .rptr j ver i p k=>match kt.same k,rd j,acc with
    | true,some (.row e l ver' false),[]=>match Nat.beq ver ver',setP e (l.getD i e.zero) p ⟨kt,y⟩ with
     | true,some z'=>some ⟨true,.dead,[(j,.row e (l.set i z') ver' false)],[j],nx⟩
     | _,_=>none
    | _,_,_=>none
   | _=>none
def Kp (rd:Nat->Option Blk) (nx np:Nat):Bool:=match rd nx with | none=>Nat.ble np nx | some _=>false
def VF (T:Tab) (np:Nat) (rd:Nat->Option Blk) (t:TypeId) (nx:Nat):Option ARes:=
 match tkd T t,Kp rd nx np with
 | some k,true=>some ⟨true,.ptr nx [] k,[(nx,.var k k.zero false)],[nx],nx+1⟩
 | _,_=>none
def Fe (np:Nat) (rd:Nat->Option Blk):List Kd->Nat->Option (List Cmp×List (Nat×Blk)×Nat)
 | [],nx=>some ([],[],nx)
 | .sl e::fs,nx=>match Kp rd nx np,Fe np rd fs (nx+1) with
  | true,some (cs,wr,nx')=>some (.own nx 0::cs,(nx,.row e [] 0 false)::wr,nx')
  | _,_=>none
 | k::fs,nx=>match Fe np rd fs nx with
  | some (cs,wr,nx')=>some (.val k k.zero::cs,wr,nx')
  | none=>none
def EC (T:Tab) (np:Nat) (rd:Nat->Option Blk) (t:TypeId) (nx:Nat):Option ARes:=
 match tkd T t with
 | some k=>match Fe np rd k.flat nx with
  | some (cs,wr,nx')=>match Kp rd nx' np with
   | true=>some ⟨true,.mptr nx' 0 k,(nx',.mix k.flat cs)::wr,nx'::wr.map (·.1),nx'+1⟩
   | false=>none
  | none=>none
 | none=>none
def H2 (rd:Nat->Option Blk) (k:Kd) (cs:List Cmp):List (Nat×SV)->Option (List Cmp×List Nat)
 | []=>some (cs,[])
 | (j,v)::l=>match k.flatF j with
  | some (d,kf)=>match kf.isS,v with
   | false,.val k' x=>match kf.same k' with
    | true=>H2 rd k (cs.set d (.val k' x)) l
    | false=>none
   | false,.own jj ver=>match rd jj with
    | some (.row e _ ver' false)=>match kf.same (.sl e),Nat.beq ver ver' with
     | true,true=>match H2 rd k (cs.set d (.own jj ver)) l with
      | some (cs',acc)=>some (cs',jj::acc)
      | none=>none
     | _,_=>none
    | _=>none
   | false,.mp jj=>match kf with
    | .mp=>H2 rd k (cs.set d (.mp jj)) l
    | _=>none
   | true,.val k' x=>match kf.same k' with
    | true=>H2 rd k (cs.take d++RY k' x++cs.drop (d+k'.flat.length)) l
    | false=>none
   | _,_=>none
  | none=>none
def zt0:TypeDesc->Bool | .struct _=>true | _=>false
def DY (T:Tab) (np:Nat) (rd:Nat->Option Blk) (t:TypeId) (parts:List (Nat×SV)) (nx:Nat):Option ARes:=
 match Kj T t with
 | some d=>match d.kd,zt0 d.desc with
  | some k,true=>match Fe np rd k.flat nx with
   | some (cs,wr,nx')=>match H2 (λj=>match mget wr j with | some b=>some b | none=>rd j) k cs parts with
    | some (cs',acc)=>some ⟨true,.strct k.flat cs',wr,wr.map (·.1)++acc,nx'⟩
    | none=>none
   | none=>none
  | _,_=>none
 | none=>none
def zol (T:Tab) (np:Nat) (rd:Nat->Option Blk) (t:TypeId) (v:SV) (nx:Nat):Option ARes:=
 match tkd T t,Kp rd nx np,v with
 | some k,true,.strct fs cs=>match Mn k.flat fs with
  | true=>some ⟨true,.mptr nx 0 k,[(nx,.mix fs cs)],[nx],nx+1⟩
  | false=>none
 | _,_,_=>none
def UY (T:Tab) (np:Nat) (rd:Nat->Option Blk) (t:TypeId) (x:SV) (lo hi mx:Option SV) (nx:Nat):Option ARes:=
 match E0 T t,x,lo,hi,mx with
 | some (.slice _),.own j ver,none,some (.val (.int _) h),none=>match rd j,Nat.blt j np with
  | some (.row e l ver' false),false=>match Nat.beq ver ver',kdIs T t (.sl e) with
   | true,true=>some ⟨decide (0<=h/\h<=List.length l),.own j (ver'+1),[(j,.row e (List.take h.toNat l) (ver'+1) false)],[j],nx⟩
   | _,_=>none
  | _,_=>none
 | some (.slice _),.val (.sl e) z,none,some (.val (.int _) h),some (.val (.int _) m)=>match kdIs T t (.sl e) with
  | true=>some ⟨decide (h=m/\0<=h/\h<=List.length z),.cap e (List.take h.toNat z),[],[],nx⟩
  | false=>none
 | _,_,_,_,_=>none
def Yz (rd:Nat->Option Blk):List SV->Option (List (Nat×Kd)×List Nat)
 | []=>some ([],[])
 | .ptr b [] k::l=>match rd b,Yz rd l with
  | some (.var kb _ _),some (ps,acc)=>match kb.same k with
   | true=>some ((b,kb)::ps,b::acc)
   | false=>none
  | _,_=>none
 | _=>none
def Sl (rd:Nat->Option Blk) (fn:Fn) (first cap:List SV) (nx:Nat):Option ARes:=
 match fn,first,cap with
 | .func f,[],[]=>ok1 (.fn f) nx
 | .func f,[],cap=>match Yz rd cap with
  | some (ps,acc)=>some ⟨true,.clo f ps,[],acc,nx⟩
  | none=>none
 | _,_,_=>none
def aBox (T:Tab) (np:Nat) (rd:Nat->Option Blk) (t:TypeId) (v:SV) (nx:Nat):Option ARes:=
 match tkd T t,Kp rd nx np with
 | some k,true=>match Ix np rd v k with
  | some (y,wr,acc)=>some ⟨true,.ptr nx [] k,(nx,.var k y false)::wr,nx::acc,nx+1⟩
  | none=>none
 | _,_=>none
def Ln (np:Nat) (rd:Nat->Option Blk) (st:Bool) (k:Kd) (x:k.T):List (Nat×SV)->Option k.T
 | []=>some x
 | (i,v)::l=>
  match k.off1 (if st then .fld i else .idx i) with
  | some (_,k')=>match Ix np rd v k' with
   | some (y,[],[])=>match set1 k x (if st then .fld i else .idx i) ⟨k',y⟩ with
    | some x'=>Ln np rd st k x' l
    | none=>none
   | _=>none
  | none=>none
def DZ (T:Tab) (np:Nat) (rd:Nat->Option Blk) (t:TypeId) (parts:List (Nat×SV)) (nx:Nat):Option ARes:=
 match Kj T t with
 | some d=>match d.kd,d.desc with
  | some k,.struct _=>match Ln np rd true k k.zero parts with | some x=>ok1 (.val k x) nx | none=>none
  | some k,.array n _=>match parts.all λp=>Nat.blt p.1 n,Ln np rd false k k.zero parts with | true,some x=>ok1 (.val k x) nx | _,_=>none
  | _,_=>none
 | none=>none
def Ky (np:Nat) (rd:Nat->Option Blk) (st:Bool) (k:Kd):List (Nat×SV)->Option (List (Nat×SV)×List (Nat×Blk)×List Nat)
 | []=>some ([],[],[])
 | (i,v)::l=>
  match k.off1 (if st then .fld i else .idx i) with
  | some (_,k')=>match Ix np rd v k' with
   | some (y,wr,acc)=>match Ky np (λj=>match mget wr j with | some b=>some b | none=>rd j) st k l with
    | some (l',wr',acc')=>some ((i,.val k' y)::l',wr'++wr,acc++acc')
    | none=>none
   | none=>none
  | none=>none
def isSt:TypeDesc->Bool | .struct _=>true | _=>false
def VE (T:Tab) (np:Nat) (rd:Nat->Option Blk) (t:TypeId) (parts:List (Nat×SV)) (nx:Nat):Option ARes:=
 match Kj T t with
 | some d=>match d.kd with
  | some k=>match Ky np rd (isSt d.desc) k parts with
   | some (parts',wr,acc)=>match DZ T np rd t parts' nx with
    | some r=>some ⟨r.ok,r.sv,wr,acc,r.nx⟩
    | none=>none
   | none=>none
  | none=>none
 | none=>none
def Nb (np:Nat) (rd:Nat->Option Blk) (e:Kd) (l:List e.T):List (Nat×SV)->Option (List e.T×List (Nat×Blk)×List Nat)
 | []=>some (l,[],[])
 | (i,v)::r=>
  match Ix np rd v e with
  | some (y,wr,acc)=>match Nb np (λj=>match mget wr j with | some b=>some b | none=>rd j) e (l.set i y) r with
   | some (l',wr',acc')=>some (l',wr'++wr,acc++acc')
   | none=>none
  | none=>none
def Mr (T:Tab) (np:Nat) (own:Bool) (rd:Nat->Option Blk) (t:TypeId) (len:Nat) (parts:List (Nat×SV)) (nx:Nat):Option ARes:=
 match tkd T t,Kp rd nx np,parts.all (λp=>Nat.blt p.1 len) with
 | some (.sl e),true,true=>match Nat.ble (len*(e.size+1)) 16777216,Nb np rd e (List.replicate len e.zero) parts with
  | true,some (l,wr,acc)=>match own with
   | true=>some ⟨true,.own nx 0,(nx,.row e l 0 false)::wr,nx::acc,nx+1⟩
   | false=>some ⟨true,.val (.sl e) l,(nx,.row e l 0 true)::wr,nx::acc,nx+1⟩
  | _,_=>none
 | _,_,_=>none
def LIMB:Nat:=140737488355328
def O1 (T:Tab) (np:Nat) (rd:Nat->Option Blk) (t:TypeId) (len cap:SV) (nx:Nat):Option ARes:=
 match tkd T t,E0 T t,len,cap,Kp rd nx np with
 | some (.sl e),some (.slice et),.val (.int .i64) l,.val (.int .i64) c,true=>match Kj T et with
  | some d=>some ⟨decide (0<=l/\l<=c/\c<=((LIMB/d.bytes:Nat):Int)),.own nx 0,[(nx,.row e (List.replicate l.toNat e.zero) 0 false)],[nx],nx+1⟩
  | none=>none
 | _,_,_,_,_=>none
def live (rd:Nat->Option Blk) (j ver:Nat):Bool:=match rd j with
 | some (.row _ _ ver' _)=>Nat.beq ver ver'
 | _=>false
def O3 (T:Tab) (rd:Nat->Option Blk) (t:TypeId) (x:SV) (j:Nat) (nx:Nat):Option ARes:=
 match tkd T t,E0 T t with
 | some kt,some (.struct _)=>match kt.offF j,x with
  | some (_,kf),.ptr b p k=>match kt.same k with | true=>ok1 (.ptr b (p++[.fld j]) kf) nx | false=>none
  | some (_,kf),.rptr b ver i p k=>match kt.same k,live rd b ver with | true,true=>some ⟨true,.rptr b ver i (p++[.fld j]) kf,[],[b],nx⟩ | _,_=>none
  | some _,.pval k z=>match kt.same k,getF k z j with | true,some ⟨k',y⟩=>ok1 (.pval k' y) nx | _,_=>none
  | some _,.mptr b i k=>match kt.same k,kt.flatF j with
   | true,some (d,kf)=>ok1 (.mptr b (i+d) kf) nx
   | _,_=>none
  | _,_=>none
 | _,_=>none
def VD (T:Tab) (t:TypeId) (x:SV) (j:Nat) (nx:Nat):Option ARes:=
 match tkd T t,E0 T t,x with
 | some kt,some (.struct _),.val k z=>match kt.same k,getF k z j with | true,some ⟨k',y⟩=>ok1 (.val k' y) nx | _,_=>none
 | _,_,_=>none
def bnd (i:Int) (n:Int):Bool:=decide (0<=i)&&decide (i<n)
def O2 (T:Tab) (rd:Nat->Option Blk) (t:TypeId) (x ix:SV) (nx:Nat):Option ARes:=
 match ix with
 | .val (.int _) i=>
  match tkd T t,E0 T t,x with
  | some kt,some (.array n _),.ptr b p k=>match kt.same k,k with
   | true,.arr _ e=>some ⟨bnd i n,.ptr b (p++[.idx i.toNat]) e,[],[],nx⟩
   | _,_=>none
  | some kt,some (.array n _),.rptr j ver r p k=>match kt.same k,live rd j ver,k with
   | true,true,.arr _ e=>some ⟨bnd i n,.rptr j ver r (p++[.idx i.toNat]) e,[],[j],nx⟩
   | _,_,_=>none
  | some kt,some (.array n _),.pval k z=>match kt.same k,(⟨k,z⟩:TV) with
   | true,⟨.arr _ e,l⟩=>some ⟨bnd i n,.pval e (List.getD l i.toNat e.zero),[],[],nx⟩
   | _,_=>none
  | some kt,some (.slice _),.val k z=>match kt.same k,(⟨k,z⟩:TV) with
   | true,⟨.sl e,l⟩=>some ⟨bnd i (List.length l),.pval e (List.getD l i.toNat e.zero),[],[],nx⟩
   | _,_=>none
  | some kt,some (.slice _),.own j ver=>match rd j with
   | some (.row e l ver' _)=>match Nat.beq ver ver',kt.same (.sl e) with
    | true,true=>some ⟨bnd i l.length,.rptr j ver i.toNat [] e,[],[j],nx⟩
    | _,_=>none
   | _=>none
  | some kt,some (.slice _),.win j ver lo n=>match rd j with
   | some (.row e _ ver' _)=>match Nat.beq ver ver',kt.same (.sl e) with
    | true,true=>some ⟨bnd i n,.rptr j ver (lo+i.toNat) [] e,[],[j],nx⟩
    | _,_=>none
   | _=>none
  | some kt,some (.slice _),.asl b p lo n=>match rd b with
   | some (.var kb _ _)=>match kb.offP p with
    | some (_,.arr _ e)=>match kt.same (.sl e) with
     | true=>some ⟨bnd i n,.ptr b (p++[.idx (lo+i.toNat)]) e,[],[b],nx⟩
     | false=>none
    | _=>none
   | _=>none
  | _,_,_=>none
 | _=>none
def VC (T:Tab) (t:TypeId) (x ix:SV) (nx:Nat):Option ARes:=
 match ix with
 | .val (.int _) i=>
  match tkd T t,E0 T t,x with
  | some kt,some (.array n _),.val k z=>match kt.same k,(⟨k,z⟩:TV) with
   | true,⟨.arr _ e,l⟩=>some ⟨bnd i n,.val e (List.getD l i.toNat e.zero),[],[],nx⟩
   | _,_=>none
  | some .str,some .string,.val .str s=>some ⟨bnd i s.size,.val (.int .u8) ((s.data.toList.getD i.toNat 0).toNat:Int),[],[],nx⟩
  | _,_,_=>none
 | _=>none
def Kq (d:Int):Option SV->Option Int
 | none=>some d
 | some (.val (.int _) i)=>some i
 | _=>none
def mxok (hi mx:Option SV):Bool:=match mx,hi with | some _,none=>false | _,_=>true
def VA (T:Tab) (rd:Nat->Option Blk) (t:TypeId) (x:SV) (lo hi mx:Option SV) (nx:Nat):Option ARes:=
 match E0 T t,x with
 | some .string,.val .str s=>match Kq 0 lo,Kq s.size hi,mx with
  | some l,some h,none=>some ⟨decide (0<=l/\l<=h/\h<=s.size),.val .str (s.extract l.toNat h.toNat),[],[],nx⟩
  | _,_,_=>none
 | some (.array n _),.ptr b p k=>match tkd T t with
  | some kt=>match kt.same k,Kq 0 lo,Kq n hi,mx with
   | true,some l,some h,none=>some ⟨decide (0<=l/\l<=h/\h<=n),.asl b p l.toNat (h - l).toNat,[],[],nx⟩
   | _,_,_,_=>none
  | none=>none
 | some (.slice _),.val (.sl e) z=>match Kq 0 lo,Kq (List.length z) hi,tkd T t with
  | some l,some h,some kt=>match Kq h mx,mxok hi mx,kt.same (.sl e) with
   | some m,true,true=>some ⟨decide (0<=l/\l<=h/\h<=m/\m<=List.length z),.val (.sl e) (List.take (h - l).toNat (List.drop l.toNat z)),[],[],nx⟩
   | _,_,_=>none
  | _,_,_=>none
 | some (.slice _),.own j ver=>match rd j with
  | some (.row e z ver' _)=>match Nat.beq ver ver',Kq 0 lo,Kq (List.length z) hi,tkd T t with
   | true,some l,some h,some kt=>match Kq h mx,mxok hi mx,kt.same (.sl e) with
    | some m,true,true=>some ⟨decide (0<=l/\l<=h/\h<=m/\m<=List.length z),.win j ver l.toNat (h - l).toNat,[],[j],nx⟩
    | _,_,_=>none
   | _,_,_,_=>none
  | _=>none
 | some (.slice _),.win j ver lo' n=>match rd j with
  | some (.row e _ ver' _)=>match Nat.beq ver ver',Kq 0 lo,Kq n hi,mx with
   | true,some l,some h,none=>match tkd T t with
    | some kt=>match kt.same (.sl e) with
     | true=>some ⟨decide (0<=l/\l<=h/\h<=n),.win j ver (lo'+l.toNat) (h - l).toNat,[],[j],nx⟩
     | false=>none
    | none=>none
   | _,_,_,_=>none
  | _=>none
 | some (.slice _),.asl b p lo' n=>match Kq 0 lo,Kq n hi,mx with
  | some l,some h,none=>match rd b,tkd T t with
   | some (.var kb _ _),some kt=>match kb.offP p with
    | some (_,.arr _ e)=>match kt.same (.sl e) with
     | true=>some ⟨decide (0<=l/\l<=h/\h<=n),.asl b p (lo'+l.toNat) (h - l).toNat,[],[b],nx⟩
     | false=>none
    | _=>none
   | _,_=>none
  | _,_,_=>none
 | _,_=>none
def EB (T:Tab) (rd:Nat->Option Blk) (t:TypeId) (x:SV) (nx:Nat):Option ARes:=
 match tkd T t,x with
 | some (.arr n e),.val (.sl e') l=>match e.same e'&&Nat.blt 0 n with
  | true=>some ⟨decide ((n:Int)<=List.length l),.pval (.arr n e') (List.take n l),[],[],nx⟩
  | false=>none
 | some (.arr n e),.asl b p lo m=>match rd b with
  | some (.var kb _ _)=>match kb.offP p with
   | some (_,.arr _ e')=>match e.same e'&&Nat.blt 0 n with
    | true=>some ⟨decide ((n:Int)<=m),.pwin b p lo n,[],[b],nx⟩
    | false=>none
   | _=>none
  | _=>none
 | _,_=>none
def aLen (T:Tab) (rd:Nat->Option Blk) (t:TypeId) (x:SV) (nx:Nat):Option ARes:=
 match E0 T t,x with
 | some .string,.val .str s=>ok1 (.val (.int .i64) (s.size:Int)) nx
 | some (.array n _),_=>ok1 (.val (.int .i64) (n:Int)) nx
 | some (.slice _),.nil=>ok1 (.val (.int .i64) (0:Int)) nx
 | some (.slice _),.val (.sl _) l=>ok1 (.val (.int .i64) (List.length l:Int)) nx
 | some (.slice _),.own j ver=>match rd j with
  | some (.row _ l ver' _)=>match Nat.beq ver ver' with | true=>some ⟨true,.val (.int .i64) (l.length:Int),[],[j],nx⟩ | false=>none
  | _=>none
 | some (.slice _),.win j ver _ n=>match rd j with
  | some (.row _ _ ver' _)=>match Nat.beq ver ver' with | true=>some ⟨true,.val (.int .i64) (n:Int),[],[j],nx⟩ | false=>none
  | _=>none
 | some (.slice _),.asl _ _ _ n=>ok1 (.val (.int .i64) (n:Int)) nx
 | some (.map _ _),.mp j=>match rd j with
  | some (.map _ _ m)=>some ⟨true,.val (.int .i64) (m.length:Int),[],[j],nx⟩
  | _=>none
 | _,_=>none
def E9 {K V:Type} (eq:K->K->Bool):List (K×V)->K->Option V
 | [],_=>none
 | x::m,k=>match eq k x.1 with | true=>some x.2 | false=>E9 eq m k
def keyK:Kd->Bool
 | .int _ | .pair _ _ | .arr _ _=>true
 | _=>false
def SL:Option SV->Bool
 | none=>true
 | some (.val (.int _) _)=>true
 | _=>false
def Wa (T:Tab) (np:Nat) (rd:Nat->Option Blk) (t:TypeId) (hint:Option SV) (nx:Nat):Option ARes:=
 match E0 T t,SL hint,Kp rd nx np with
 | some (.map kt et),true,true=>match tkd T kt,tkd T et with
  | some kk,some kv=>some ⟨true,.mp nx,[(nx,.map kk kv [])],[nx],nx+1⟩
  | _,_=>none
 | _,_,_=>none
def DV (T:Tab) (eqt:List Nat) (rd:Nat->Option Blk) (t:TypeId) (x ix:SV) (co:Bool) (nx:Nat):Option ARes:=
 match E0 T t,x,ix with
 | some (.map kt et),.mp j,.val k' y=>match rd j with
  | some (.map kk kv m)=>match eqt.elem kt&&keyK kk,TV.as ⟨k',y⟩ kk,kdIs T kt kk,kdIs T et kv with
   | true,some z,true,true=>match co with
    | true=>some ⟨true,.tup [.val kv ((E9 kk.eqv m z).getD kv.zero),.val .bool (E9 kk.eqv m z).isSome],[],[j],nx⟩
    | false=>some ⟨true,.val kv ((E9 kk.eqv m z).getD kv.zero),[],[j],nx⟩
   | _,_,_,_=>none
  | _=>none
 | _,_,_=>none
def Lv (T:Tab) (eqt:List Nat) (np:Nat) (rd:Nat->Option Blk) (t:TypeId) (x ix v:SV) (nx:Nat):Option ARes:=
 match E0 T t,x,ix with
 | some (.map kt et),.mp j,.val k' y=>match rd j with
  | some (.map kk kv m)=>match eqt.elem kt&&keyK kk,TV.as ⟨k',y⟩ kk,kdIs T kt kk,kdIs T et kv with
   | true,some z,true,true=>match Ix np rd v kv with
    | some (u,wr,acc)=>some ⟨(E9 kk.eqv m z).isNone,.dead,(j,.map kk kv (m++[(z,u)]))::wr,j::acc,nx⟩
    | none=>none
   | _,_,_,_=>none
  | _=>none
 | _,_,_=>none
def lay {α:Type} (l:List α) (lo:Nat) (xs:List α):List α:=l.take lo++xs++l.drop (lo+xs.length)
def zoj (T:Tab) (rd:Nat->Option Blk) (t:TypeId) (d s:SV) (nx:Nat):Option ARes:=
 match tkd T t,rdSl rd s with
 | some (.sl ke),some ⟨e,xs,acc⟩=>
  match ke.same e with
  | false=>none
  | true=>
   match d with
   | .own j ver=>match rd j with
    | some (.row e' l ver' false)=>match Nat.beq ver ver',TV.as ⟨.sl e,xs⟩ (.sl e') with
     | true,some ys=>some ⟨true,.val (.int .i64) (min (List.length ys) l.length:Nat),[(j,.row e' (lay l 0 (List.take l.length ys)) ver' false)],j::acc,nx⟩
     | _,_=>none
    | _=>none
   | .win j ver lo n=>match rd j with
    | some (.row e' l ver' false)=>match Nat.beq ver ver',TV.as ⟨.sl e,xs⟩ (.sl e') with
     | true,some ys=>some ⟨true,.val (.int .i64) (min (List.length ys) n:Nat),[(j,.row e' (lay l lo (List.take n ys)) ver' false)],j::acc,nx⟩
     | _,_=>none
    | _=>none
   | .asl b p lo n=>match rd b with
    | some (.var kb x false)=>match getP kb x p with
     | some ⟨.arr m e',l⟩=>match TV.as ⟨.sl e,xs⟩ (.sl e') with
      | some ys=>match setP kb x p ⟨.arr m e',lay l lo (List.take n ys)⟩ with
       | some x'=>some ⟨true,.val (.int .i64) (min (List.length ys) n:Nat),[(b,.var kb x' false)],b::acc,nx⟩
       | none=>none
      | none=>none
     | _=>none
    | _=>none
   | _=>none
 | _,_=>none
def Wh (T:Tab) (np:Nat) (rd:Nat->Option Blk) (t:TypeId) (s x:SV) (nx:Nat):Option ARes:=
 match tkd T t,E0 T t with
 | some (.sl ke),some (.slice et)=>match Kj T et with
  | none=>none
  | some d=>
   match (match x with | .nil=>some ⟨ke,[],[]⟩ | x=>rdSl rd x:Option ((e:Kd)×List e.T×List Nat)) with
   | none=>none
   | some ⟨e,xs,acc⟩=>
    match TV.as ⟨.sl e,xs⟩ (.sl ke) with
    | none=>none
    | some ys=>
     match s with
     | .own j ver=>match rd j,Nat.blt j np with
      | some (.row e' l ver' false),false=>match Nat.beq ver ver',TV.as ⟨.sl ke,ys⟩ (.sl e') with
       | true,some zs=>some ⟨decide (l.length+List.length zs<=LIMB/d.bytes),.own j (ver'+1),[(j,.row e' (l++zs) (ver'+1) false)],j::acc,nx⟩
       | _,_=>none
      | _,_=>none
     | .nil=>match Kp rd nx np with
      | true=>some ⟨decide (List.length ys<=LIMB/d.bytes),.own nx 0,[(nx,.row ke ys 0 false)],nx::acc,nx+1⟩
      | false=>none
     | .cap e' l=>match Kp rd nx np,TV.as ⟨.sl e',l⟩ (.sl ke) with
      | true,some zs=>some ⟨decide (0<List.length ys/\List.length zs+List.length ys<=LIMB/d.bytes),.own nx 0,[(nx,.row ke (zs++ys) 0 false)],nx::acc,nx+1⟩
      | _,_=>none
     | _=>none
 | _,_=>none
def V9 (mx:Bool) (x y:SV) (nx:Nat):Option ARes:=
 match x,y with
 | .val (.int k) a,.val (.int _) b=>ok1 (.val (.int k) (if mx then (if b>a then b else a) else (if b<a then b else a))) nx
 | _,_=>none
def Wc (x:SV) (i:Nat) (nx:Nat):Option ARes:=
 match x with
 | .tup l=>match l[i]? with
  | some (.val k x)=>ok1 (.val k x) nx
  | some (.own j v)=>ok1 (.own j v) nx
  | some .junk=>ok1 .dead nx
  | _=>none
 | _=>none
def zux (c a b:SV) (nx:Nat):Option ARes:=
 match c with
 | .val .bool c=>match c with | true=>ok1 a nx | false=>ok1 b nx
 | _=>none
def zfb (T:Tab) (eqt:List Nat) (np:Nat) (own:Bool) (rd:Nat->Option Blk) (ρ:Operand->SV) (o:Oper) (nx:Nat):Option ARes:=
 match o.op with
 | .move x | .assign x=>match own,ρ x with
  | true,.nil=>match tkd T o.type,Kp rd nx np with
   | some (.sl e),true=>some ⟨true,.own nx 0,[(nx,.row e [] 0 false)],[nx],nx+1⟩
   | _,_=>none
  | _,sv=>ok1 sv nx
 | .pick c a b=>zux (ρ c) (ρ a) (ρ b) nx
 | .alloc t=>match own with | true=>EC T np rd t nx | false=>VF T np rd t nx
 | .box t x=>match own with | true=>zol T np rd t (ρ x) nx | false=>aBox T np rd t (ρ x) nx
 | .build t parts=>match own with
  | true=>DY T np rd t (parts.toList.map λp=>(p.1,ρ p.2)) nx
  | false=>VE T np rd t (parts.toList.map λp=>(p.1,ρ p.2)) nx
 | .makeFunc f fi cs=>Sl rd f (fi.toList.map ρ) (cs.toList.map ρ) nx
 | .buildSlice t len parts=>Mr T np own rd t len (parts.toList.map λp=>(p.1,ρ p.2)) nx
 | .load t x=>match ρ x with
  | .mptr b i k=>Uh T np rd t b i k nx
  | sv=>VB T rd t sv nx
 | .store t x v=>match ρ x with
  | .mptr b i k=>DU T rd t b i k (ρ v) nx
  | sv=>UZ T np rd t sv (ρ v) nx
 | .nilCheck x=>match ρ x with
  | .ptr b p k=>ok1 (.ptr b p k) nx
  | .pval k z=>ok1 (.pval k z) nx
  | .mptr b i k=>ok1 (.mptr b i k) nx
  | .rptr j v i p k=>match live rd j v with | true=>some ⟨true,.rptr j v i p k,[],[j],nx⟩ | false=>none
  | _=>none
 | .binOp op xt x y _=>match aNil T op xt (ρ x) (ρ y) nx with | some r=>some r | none=>aBin T eqt op xt (ρ x) (ρ y) nx
 | .unOp op _ x=>aUn op (ρ x) nx
 | .convert src dst x=>zok T rd src dst (ρ x) nx
 | .sliceToArrayPointer t x=>EB T rd t (ρ x) nx
 | .slice t x lo hi mx=>match own with
  | true=>UY T np rd t (ρ x) (lo.map ρ) (hi.map ρ) (mx.map ρ) nx
  | false=>VA T rd t (ρ x) (lo.map ρ) (hi.map ρ) (mx.map ρ) nx
 | .fieldAddr t x j=>O3 T rd t (ρ x) j nx
 | .field t x j=>VD T t (ρ x) j nx
 | .indexAddr t x i=>O2 T rd t (ρ x) (ρ i) nx
 | .index t x i=>VC T t (ρ x) (ρ i) nx
 | .makeSlice t l c=>O1 T np rd t (ρ l) (ρ c) nx
 | .makeMap t h=>Wa T np rd t (h.map ρ) nx
 | .lookup t x i co=>DV T eqt rd t (ρ x) (ρ i) co nx
 | .mapUpdate t x i v=>Lv T eqt np rd t (ρ x) (ρ i) (ρ v) nx
 | .insert t x i v=>Lv T eqt np rd t (ρ x) (ρ i) (ρ v) nx
 | .extract x i=>Wc (ρ x) i nx
 | .call c=>match c.callee with
  | .builtin .len=>match c.args.toList,c.argTypes.toList with
   | [x],[t]=>aLen T rd t (ρ x) nx
   | _,_=>none
  | .builtin .copy=>match c.args.toList,c.argTypes.toList with
   | [d,s],[t,_]=>zoj T rd t (ρ d) (ρ s) nx
   | _,_=>none
  | .builtin .append=>match c.args.toList,c.argTypes.toList with
   | [s,x],[t,t']=>match Nat.beq t t' with
    | true=>Wh T np rd t (ρ s) (ρ x) nx
    | false=>none
   | _,_=>none
  | .builtin .max=>match c.args.toList with
   | [x,y]=>V9 true (ρ x) (ρ y) nx
   | _=>none
  | .builtin .min=>match c.args.toList with
   | [x,y]=>V9 false (ρ x) (ρ y) nx
   | _=>none
  | _=>none
 | _=>none
inductive AV where
 | val (k:Kd) (x:k.T)
 | ptr (k:Kd) (x:k.T)
 | fn (f:FuncId)
 | clo (f:FuncId) (k:Kd) (x:k.T)
abbrev Acc:=List Nat×List Nat×Bool
inductive RV where
 | val (k:Kd) (x:k.T)
 | own (e:Kd) (l:List e.T)
abbrev Orc (R:Type):=FuncId->List AV->(List RV->List TV->Option R)->Option R
inductive XX where
 | normal
 | exit (id:Nat)
 | ret
structure Env (R:Type) where
 T:Tab
 eqt:List Nat
 np:Nat
 nt:NT
 own:Nat->Nat->Bool
 call:Orc R
 loop:Nat->St->(XX->St->Option R)->Option R
 ins:List (Nat×Kd×Nat)
 inl:FuncId->List SV->List (Nat×Blk)->Nat->(List SV->List (Nat×Blk)->Nat->Option R)->Option R
 cands:List FnV
 yl:List SV->List (Nat×Blk)->Nat->(List (Nat×Blk)->Nat->Option R)->Option R
def Vr:List (Nat×Kd×Nat)->FuncId->Option (Kd×Nat)
 | [],_=>none
 | (g,d)::l,f=>match Nat.beq g f with | true=>some d | false=>Vr l f
def Kk (nt:NT) (σ:St) (dst:Option Tmp) (sv:SV) (wr:List (Nat×Blk)) (nx:Nat):Option St:=
 match dst with
 | none=>some ⟨σ.tm,wr++σ.me,nx⟩
 | some d=>match NT.blt d nt with
  | true=>some ⟨(d,sv)::σ.tm,wr++σ.me,nx⟩
  | false=>none
def laid (wr:List (Nat×Blk)) (rd:Nat->Option Blk):Nat->Option Blk:=λj=>match mget wr j with | some b=>some b | none=>rd j
def Md (T:Tab) (np:Nat) (rd:Nat->Option Blk):List (SV×TypeId)->Option (List AV×List (Nat×Blk)×List Nat×List (Nat×List Step))
 | []=>some ([],[],[],[])
 | (sv,t)::l=>
  match sv with
  | .ptr b p k=>match rd b with
   | some (.var kb x _)=>match getP kb x p with
    | some ⟨k',z⟩=>match k'.same k,Md T np rd l with
     | true,some (as,wr',acc',ps)=>some (.ptr k' z::as,wr',b::acc',(b,p)::ps)
     | _,_=>none
    | none=>none
   | _=>none
  | .fn f=>match Md T np rd l with
   | some (as,wr',acc',ps)=>some (.fn f::as,wr',acc',ps)
   | none=>none
  | .clo f cs=>match cs with
   | [(b,k)]=>match rd b with
    | some (.var kb x _)=>match kb.same k,Md T np rd l with
     | true,some (as,wr',acc',ps)=>some (.clo f kb x::as,wr',b::acc',(b,[])::ps)
     | _,_=>none
    | _=>none
   | _=>none
  | sv=>match tkd T t with
   | some k=>match Ix np rd sv k with
    | some (y,wr,acc)=>match Md T np (laid wr rd) l with
     | some (as,wr',acc',ps)=>some (.val k y::as,wr'++wr,acc++acc',ps)
     | none=>none
    | none=>none
   | none=>none
def Oj (rd:Nat->Option Blk) (np:Nat):List RV->Nat->Option (List Cmp×List (Nat×Blk)×Nat)
 | [],nx=>some ([],[],nx)
 | .val k x::l,nx=>match Oj rd np l nx with
  | some (cs,wr,nx')=>some (.val k x::cs,wr,nx')
  | none=>none
 | .own e xs::l,nx=>match Kp rd nx np,Oj (laid [(nx,.row e xs 0 false)] rd) np l (nx+1) with
  | true,some (cs,wr,nx')=>some (.own nx 0::cs,wr++[(nx,.row e xs 0 false)],nx')
  | _,_=>none
def To:List Cmp->SV
 | [.val k x]=>.val k x
 | [.own j v]=>.own j v
 | [.junk]=>.dead
 | [.mp j]=>.mp j
 | l=>.tup l
def hasN:List Nat->Nat->Bool
 | [],_=>false
 | x::l,y=>match Nat.beq x y with | true=>true | false=>hasN l y
section
variable {R:Type} (E:Env R)
def xfin (σ:St) (o:Oper) (wr:List (Nat×Blk)) (acc:List Nat) (accs:List Acc) (K:St->List Acc->Option R) (rs:List RV) (wo:List (Nat×Blk)):Option R:=
 match Oj (laid (wo++wr) (mget σ.me)) E.np rs σ.nx with
 | none=>none
 | some (cs,wn,nx')=>match Kk E.nt σ o.dst (To cs) (wn++(wo++wr)) nx' with
  | some σ'=>K σ' (((wn++(wo++wr)).map (·.1),(wn++(wo++wr)).map (·.1)++acc,false)::accs)
  | none=>none
def Kd.noSl:Kd->Bool
 | .sl _=>false
 | .pair a b=>a.noSl&&b.noSl
 | .arr _ e=>e.noSl
 | .fn=>false
 | _=>true
def LP:List RV->Bool
 | []=>true
 | .val k _::l=>k.noSl&&LP l
 | .own _ _::_=>false
def zq3 (σ:St) (o:Oper) (acc:List Nat) (accs:List Acc) (K:St->List Acc->Option R) (rs:List RV):Option R:=
 match Oj (mget σ.me) E.np rs σ.nx with
 | some (cs,[],nx')=>match Kk E.nt σ o.dst (To cs) [] nx' with
  | some σ'=>K σ' (([],acc,false)::accs)
  | none=>none
 | _=>none
def za2 (σ:St) (o:Oper) (f:FuncId) (c:Call) (ex:List SV) (accs:List Acc) (K:St->List Acc->Option R):Option R:=
 match Md E.T E.np (mget σ.me) ((c.args.toList.map (opv σ.tm)).zip c.argTypes.toList++ex.map λs=>(s,0)),Nat.beq c.args.size c.argTypes.size with
 | some (as,wr,acc,ps),true=>match ps with
  | []=>E.call f as λrs outs=>match outs with
   | []=>match LP rs with
    | true=>zq3 E σ o acc accs K rs
    | false=>xfin E σ o wr acc accs K rs []
   | _=>none
  | [(b,p)]=>match laid wr (mget σ.me) b with
   | some (.var kb x false)=>E.call f as λrs outs=>match outs with
    | [v]=>match setP kb x p v with
     | some x'=>xfin E σ o wr acc accs K rs [(b,.var kb x' false)]
     | none=>none
    | _=>none
   | _=>none
  | _=>none
 | _,_=>none
def zob (p:Nat×Kd):SV:=.ptr p.1 [] p.2
def fnvF:FnV->Option (FuncId×List SV)
 | .nil=>none
 | .fn f=>some (f,[])
 | .clo f d=>some (f,[.pval .fn d])
def LW {R:Type} (x:FnV):List FnV->(FuncId->List SV->Option R)->Option R
 | [],_=>none
 | c::l,k=>match x.same c with
  | true=>match fnvF c with
   | some (f,ex)=>k f ex
   | none=>none
  | false=>LW x l k
def V6 (tm:List (Nat×SV)) (o:Oper):Option (FnV×Call):=
 match o.op with
 | .call c=>match c.callee with
  | .value x=>match opv tm x with
   | .val .fn x=>some (x,c)
   | _=>none
  | _=>none
 | _=>none
def Sc (tm:List (Nat×SV)) (o:Oper):Option (FuncId×Call×List SV):=
 match o.op with
 | .call c=>match c.callee with
  | .value x=>match opv tm x with
   | .fn f=>some (f,c,[])
   | .clo f ps=>some (f,c,ps.map zob)
   | _=>none
  | _=>none
 | _=>none
def aIns (ins:List (Nat×Kd×Nat)) (np:Nat) (rd:Nat->Option Blk) (ρ:Operand->SV) (f:FuncId) (c:Call) (nx:Nat):Option ARes:=
 match Vr ins f,c.args.toList with
 | some (e,lim),[s,ix,v]=>match ρ s,ρ ix,Ix np rd (ρ v) (.sl e),Nat.beq lim 0 with
  | .own j ver,.val (.int .i64) n,some (ys,[],[]),false=>match rd j,Nat.blt j np with
   | some (.row e' l ver' false),false=>match Nat.beq ver ver',TV.as ⟨.sl e',l⟩ (.sl e) with
    | true,some l'=>some ⟨decide (0<=n/\n<=List.length l'/\List.length l'+List.length ys<=lim),.own j (ver'+1),[(j,.row e (List.take n.toNat l'++ys++List.drop n.toNat l') (ver'+1) false)],[j],nx⟩
    | _,_=>none
   | _,_=>none
  | _,_,_,_=>none
 | some (e,lim),[s]=>match ρ s,Nat.beq lim 0 with
  | .val (.sl e') l,true=>match TV.as ⟨.sl e',l⟩ (.sl e) with
   | some l'=>some ⟨true,.cap e l',[],[],nx⟩
   | none=>none
  | _,_=>none
 | _,_=>none
def xop (rid:Nat) (σ:St) (o:Oper) (i:Nat) (accs:List Acc) (K:St->List Acc->Option R):Option R:=
 match Sc σ.tm o with
 | some (f,c,ex)=>match E.own rid i with
  | false=>za2 E σ o f c ex accs K
  | true=>match ex,aIns E.ins E.np (mget σ.me) (opv σ.tm) f c σ.nx with
   | [],some r=>match r.ok with
    | true=>match Kk E.nt σ o.dst r.sv r.wr r.nx with
     | some σ'=>K σ' ((r.wr.map (·.1),r.wr.map (·.1)++r.acc,false)::accs)
     | none=>none
    | false=>none
   | _,_=>none
 | none=>
  match V6 σ.tm o with
  | some (x,c)=>match E.own rid i with
   | false=>LW x E.cands λf ex=>match ex with
    | []=>za2 E σ o f c [] accs K
    | _=>none
   | true=>none
  | none=>
  match zfb E.T E.eqt E.np (E.own rid i) (mget σ.me) (opv σ.tm) o σ.nx with
  | none=>none
  | some r=>match r.ok with
   | true=>match Kk E.nt σ o.dst r.sv r.wr r.nx with
    | some σ'=>K σ' ((r.wr.map (·.1),r.wr.map (·.1)++r.acc,false)::accs)
    | none=>none
   | false=>none
def NA (σ:St) (o:Oper) (accs:List Acc) (K:St->List Acc->Option R):Option R:=
 match Kk E.nt σ o.dst (.tup []) [] σ.nx with
 | some σ'=>K σ' (([],[],false)::accs)
 | none=>none
def inlF (rid:Nat) (σ:St) (o:Oper) (i:Nat):Option (FuncId×Call×List SV):=
 match o.guard with
 | some _=>none
 | none=>match E.own rid i with
  | true=>match Sc σ.tm o with
   | some (f,c,ex)=>match Vr E.ins f with | none=>some (f,c,ex) | some _=>none
   | none=>none
  | false=>none
def inlG (rid:Nat) (σ:St) (o:Oper) (i:Nat):Option (FuncId×Call×List SV):=
 match E.own rid i with
 | true=>match Sc σ.tm o with
  | some (f,c,ex)=>match Vr E.ins f with | none=>some (f,c,ex) | some _=>none
  | none=>none
 | false=>none
def inlV (rid:Nat) (σ:St) (o:Oper) (i:Nat):Option (FnV×Call):=
 match o.guard with
 | some _=>none
 | none=>match E.own rid i with
  | true=>V6 σ.tm o
  | false=>none
def zrc:SV->Cmp
 | .val k x=>.val k x
 | .own j v=>.own j v
 | _=>.junk
def Mb:List SV->SV
 | [sv]=>sv
 | l=>.tup (l.map zrc)
def Ni (me' me:List (Nat×Blk)):List (Nat×Blk):=me'.take (Nat.sub me'.length me.length)
def ylF (rid:Nat) (σ:St) (o:Oper) (i:Nat):Option Call:=
 match E.nt.rd with
 | none=>none
 | some d=>match E.own rid i with
  | false=>none
  | true=>match o.op with
   | .call c=>match c.callee with
    | .value x=>match opv σ.tm x with
     | .yv j=>match Nat.beq j d.yi,mget σ.me j with
      | true,some (.row _ _ v _)=>match Nat.beq v 0 with
       | true=>some c
       | false=>none
      | _,_=>none
     | _=>none
    | _=>none
   | _=>none
def xops (rid:Nat) (all:Array Oper):List Oper->Nat->St->List Acc->(St->List Acc->Option R)->Option R
  | [],_,σ,accs,K=>K σ accs
  | o::rest,i,σ,accs,K=>
    match o.guard with
    | none=>match ylF E rid σ o i with
     | some c=>E.yl (c.args.toList.map (opv σ.tm)) σ.me σ.nx λme' nx'=>match Kk E.nt ⟨σ.tm,me',nx'⟩ o.dst (.val .bool true) [] nx' with
       | some σ'=>xops rid all rest (i+1) σ' (((Ni me' σ.me).map (·.1),(Ni me' σ.me).map (·.1),true)::accs) K
       | none=>none
     | none=>match inlF E rid σ o i with
      | none=>match inlV E rid σ o i with
        | none=>xop E rid σ o i accs λσ' accs'=>xops rid all rest (i+1) σ' accs' K
        | some (x,c)=>LW x E.cands λf ex=>E.inl f (c.args.toList.map (opv σ.tm)++ex) σ.me σ.nx λrs me' nx'=>match Kk E.nt ⟨σ.tm,me',nx'⟩ o.dst (Mb rs) [] nx' with
          | some σ'=>xops rid all rest (i+1) σ' (((Ni me' σ.me).map (·.1),(Ni me' σ.me).map (·.1),true)::accs) K
          | none=>none
      | some (f,c,ex)=>E.inl f (c.args.toList.map (opv σ.tm)++ex) σ.me σ.nx λrs me' nx'=>match Kk E.nt ⟨σ.tm,me',nx'⟩ o.dst (Mb rs) [] nx' with
        | some σ'=>xops rid all rest (i+1) σ' (((Ni me' σ.me).map (·.1),(Ni me' σ.me).map (·.1),true)::accs) K
        | none=>none
    | some (j,want)=>
      match (all[j]?).bind (·.dst) with
      | none=>none
      | some d=>match tget σ.tm d with
        | .val .bool c=>match c with
          | true=>match want with
            | true=>match inlG E rid ⟨(d,.val .bool true)::σ.tm,σ.me,σ.nx⟩ o i with
              | none=>xop E rid ⟨(d,.val .bool true)::σ.tm,σ.me,σ.nx⟩ o i accs λσ' accs'=>xops rid all rest (i+1) σ' accs' K
              | some (f,c,ex)=>E.inl f (c.args.toList.map (opv ((d,.val .bool true)::σ.tm))++ex) σ.me σ.nx λrs me' nx'=>match Kk E.nt ⟨(d,.val .bool true)::σ.tm,me',nx'⟩ o.dst (Mb rs) [] nx' with
                | some σ'=>xops rid all rest (i+1) σ' (((Ni me' σ.me).map (·.1),(Ni me' σ.me).map (·.1),true)::accs) K
                | none=>none
            | false=>NA E ⟨(d,.val .bool true)::σ.tm,σ.me,σ.nx⟩ o accs λσ' accs'=>xops rid all rest (i+1) σ' accs' K
          | false=>match want with
            | false=>xop E rid ⟨(d,.val .bool false)::σ.tm,σ.me,σ.nx⟩ o i accs λσ' accs'=>xops rid all rest (i+1) σ' accs' K
            | true=>NA E ⟨(d,.val .bool false)::σ.tm,σ.me,σ.nx⟩ o accs λσ' accs'=>xops rid all rest (i+1) σ' accs' K
        | .tup []=>NA E σ o accs λσ' accs'=>xops rid all rest (i+1) σ' accs' K
        | _=>none
def UL (acc:List Nat) (es:List Edge):Nat:=
 es.foldl (λs e=>match Region.binds .any e with | true=>s||| (2^e.on||| acc.getD e.on 0) | false=>s) 0
def DT:List Oper->List Nat->List Nat
 | [],acc=>acc
 | o::l,acc=>DT l (acc++[UL acc o.after.toList])
def looks (all:Array Oper) (o:Oper):List Tmp:=
 (o.op.operands.toList.filterMap fun | .tmp t=>some t | _=>none)++(match o.guard with | some (j,_)=>((all[j]?).bind (·.dst)).toList | none=>[])
def zcc (a b:List Nat):Bool:=a.any λx=>b.elem x
def SD {α:Type}:List α->Bool | []=>true | _::_=>false
def Hv (all:Array Oper) (x:Oper) (ax:Acc) (y:Oper) (ay:Acc):Bool:=
 (match x.dst with | some d=> !((looks all y).elem d)&& !(y.dst==some d) | none=>true)&&
 (match y.dst with | some d=> !((looks all x).elem d) | none=>true)&&
 !(zcc ax.1 ay.2.1)&& !(zcc ay.1 ax.2.1)&&(!ax.2.2||SD ay.1)&&(!ay.2.2||SD ax.1)
def Mk (all:Array Oper) (x:Oper) (ax:Acc) (i:Nat):List Oper->List Acc->List Nat->Bool
 | y::ys,ay::ays,b::bs=>(Nat.testBit b i||Hv all x ax y ay)&&Mk all x ax i ys ays bs
 | [],_,_=>true
 | _,_,_=>false
def T4 (all:Array Oper):Nat->List Oper->List Acc->List Nat->Bool
 | i,x::xs,ax::axs,_::bs=>Mk all x ax i xs axs bs&&T4 all (i+1) xs axs bs
 | _,[],_,_=>true
 | _,_,_,_=>false
def ze7:Nat->List Oper->Bool
 | _,[]=>true
 | i,o::l=>(o.after.toList.all λe=> !(Region.binds .any e)||Nat.blt e.on i)&&ze7 (i+1) l
def Yb (ops:Array Oper) (accs:List Acc):Bool:=
 ze7 0 ops.toList&&T4 ops 0 ops.toList accs (DT ops.toList [])
def xseq (rid:Nat) (all:Array Oper):List Oper->Nat->St->(St->Option R)->Option R
 | [],_,σ,K=>K σ
 | o::rest,i,σ,K=>match inlF E rid σ o i with
  | some (f,c,ex)=>E.inl f (c.args.toList.map (opv σ.tm)++ex) σ.me σ.nx λrs me' nx'=>match Kk E.nt ⟨σ.tm,me',nx'⟩ o.dst (Mb rs) [] nx' with
   | some σ'=>xseq rid all rest (i+1) σ' K
   | none=>none
  | none=>match inlV E rid σ o i with
   | some (x,c)=>LW x E.cands λf ex=>E.inl f (c.args.toList.map (opv σ.tm)++ex) σ.me σ.nx λrs me' nx'=>match Kk E.nt ⟨σ.tm,me',nx'⟩ o.dst (Mb rs) [] nx' with
    | some σ'=>xseq rid all rest (i+1) σ' K
    | none=>none
   | none=>xops E rid all [o] i σ [] λσ' _=>xseq rid all rest (i+1) σ' K
def xreg (rid:Nat) (ops:Array Oper) (draw:Bool) (σ:St) (K:St->Option R):Option R:=
 match draw with
 | false=>xseq E rid ops ops.toList 0 σ K
 | true=>xops E rid ops ops.toList 0 σ [] λσ' accs=>match Yb ops accs.reverse with
  | true=>K σ'
  | false=>none
def H3:Code->Nat
 | .region id _ _=>id
 | .seq a _=>H3 a
 | .block _ c=>H3 c
 | .loop c=>H3 c
 | .cond _ a _=>H3 a
 | _=>0
def setT (tm:List (Nat×SV)):Operand->Bool->List (Nat×SV)
 | .tmp t,b=>(t,.val .bool b)::tm
 | _,_=>tm
def exec:Code->St->(XX->St->Option R)->Option R
 | .skip,σ,K=>K .normal σ
 | .region id ops d,σ,K=>xreg E id ops d σ (K .normal)
 | .seq a b,σ,K=>exec a σ λe σ'=>match e with
  | .normal=>exec b σ' K
  | e=>K e σ'
 | .cond c t e,σ,K=>match opv σ.tm c with
  | .val .bool b=>match b with
   | true=>exec t ⟨setT σ.tm c true,σ.me,σ.nx⟩ K
   | false=>exec e ⟨setT σ.tm c false,σ.me,σ.nx⟩ K
  | _=>none
 | .block id c,σ,K=>exec c σ λe σ'=>match e with
  | .exit i=>match Nat.beq i id with | true=>K .normal σ' | false=>K (.exit i) σ'
  | e=>K e σ'
 | .loop c,σ,K=>E.loop (H3 c) σ K
 | .exit id,σ,K=>K (.exit id) σ
 | .ret,σ,K=>K .ret σ
 | _,_,_=>none
def KK:List SV->Nat->List (Nat×SV)
 | [],_=>[]
 | sv::l,i=>(i,sv)::KK l (i+1)
def Xu (rd:Nat->Option Blk) (tm:List (Nat×SV)):List ResultVar->Option (List SV)
 | []=>some []
 | .tmp t::l=>match Xu rd tm l with
  | some r=>some (tget tm t::r)
  | none=>none
 | .cell t ty::l=>match VB E.T rd ty (tget tm t) 0,Xu rd tm l with
  | some q,some r=>match q.ok with
   | true=>some (q.sv::r)
   | false=>none
  | _,_=>none
def xinl (body:Code) (res:List ResultVar) (n:Nat) (svs:List SV) (me:List (Nat×Blk)) (nx:Nat) (K:List SV->List (Nat×Blk)->Nat->Option R):Option R:=
 match Nat.beq svs.length n with
 | true=>exec E body ⟨KK svs 0,me,nx⟩ λe σ=>match e with
  | .exit _=>none
  | _=>match Xu E (mget σ.me) σ.tm res with
   | some rs=>K rs σ.me σ.nx
   | none=>none
 | false=>none
def xres (rd:Nat->Option Blk) (tm:List (Nat×SV)):List Nat->List (ResultVar×TypeId×Bool)->Option (List RV×List (Nat×Blk))
 | _,[]=>some ([],[])
 | used,(.tmp t,ty,own)::l=>match own with
  | true=>match tget tm t with
   | .own j ver=>match hasN used j,rd j with
    | false,some (.row e xs ver' false)=>match Nat.beq ver ver',xres rd tm (j::used) l with
     | true,some (rs,wr)=>some (.own e xs::rs,wr)
     | _,_=>none
    | _,_=>none
   | _=>none
  | false=>match tkd E.T ty with
   | some k=>match Ix E.np rd (tget tm t) k with
    | some (y,wr,acc)=>match acc.any (hasN used),xres (laid wr rd) tm used l with
     | false,some (rs,wr')=>some (.val k y::rs,wr'++wr)
     | _,_=>none
    | none=>none
   | none=>none
 | used,(.cell t ty,_,own)::l=>match own with
  | false=>match VB E.T rd ty (tget tm t) 0 with
   | some r=>match r.ok,r.sv,xres rd tm used l with
    | true,.val k y,some (rs,wr)=>some (.val k y::rs,wr)
    | _,_,_=>none
   | none=>none
  | true=>match tget tm t with
   | .mptr b i k=>match Uh E.T E.np rd ty b i k 0 with
    | some r=>match r.sv with
     | .own j ver=>match hasN used j,rd j with
      | false,some (.row e xs ver' false)=>match Nat.beq ver ver',xres rd tm (j::used) l with
       | true,some (rs,wr)=>some (.own e xs::rs,wr)
       | _,_=>none
      | _,_=>none
     | _=>none
    | none=>none
   | _=>none
def Tl (rd:Nat->Option Blk):Nat->Nat->Option (List TV)
 | _,0=>some []
 | i,n+1=>match rd i with
  | some (.var k x false)=>match Tl rd (i+1) n with
   | some l=>some (⟨k,x⟩::l)
   | none=>none
  | _=>none
def Qp:List AV->Nat->Nat->List (Nat×SV)->List (Nat×Blk)->List (Nat×SV)×List (Nat×Blk)
 | [],_,_,tm,me=>(tm,me)
 | .val k x::l,t,b,tm,me=>Qp l (t+1) b ((t,.val k x)::tm) me
 | .ptr k x::l,t,b,tm,me=>Qp l (t+1) (b+1) ((t,.ptr b [] k)::tm) ((b,.var k x false)::me)
 | .fn f::l,t,b,tm,me=>Qp l (t+1) b ((t,.fn f)::tm) me
 | .clo f k x::l,t,b,tm,me=>Qp l (t+1) (b+1) ((t,.clo f [(b,k)])::tm) ((b,.var k x false)::me)
def xfun (body:Code) (res:List (ResultVar×TypeId×Bool)) (as:List AV) (K:List RV->List TV->Option R):Option R:=
 match Qp as 0 0 [] [] with
 | (tm,me)=>exec E body ⟨tm,me,E.np⟩ λe σ=>match e with
  | .exit _=>none
  | _=>match xres E (mget σ.me) σ.tm [] res with
   | none=>none
   | some (rs,wr)=>match Tl (laid wr (mget σ.me)) 0 E.np with
    | some outs=>K rs outs
    | none=>none
def Ep:List (FuncId×(List SV->List (Nat×Blk)->Nat->(List SV->List (Nat×Blk)->Nat->Option R)->Option R))->FuncId->List SV->List (Nat×Blk)->Nat->(List SV->List (Nat×Blk)->Nat->Option R)->Option R
 | []=>λ_ _ _ _ _=>none
 | (f',run)::l=>λf svs me nx K=>match Nat.beq f' f with
  | true=>run svs me nx K
  | false=>Ep l f svs me nx K
end
def SE:TypeDesc->Bool
 | .struct _ | .array _ _=>true
 | _=>false
def D4 (T:Tab):List Field->Nat->Kd->Bool
 | [],_,.unit=>true
 | f::fs,off,.pair a b=>Nat.beq f.offset off&&kdIs T f.type a&& !(Nat.beq a.size 0)&&D4 T fs (off+a.size) b
 | _,_,_=>false
def Fk (T:Tab):TypeDesc->Kd->Bool
 | .int a,.int b=>Kd.ikb a b
 | .bool,.bool=>true
 | .string,.str=>true
 | .array n e,.arr m k=>Nat.beq n m&&kdIs T e k
 | .slice e,.sl k=>kdIs T e k
 | .struct fs,k=>D4 T fs.toList 0 k
 | .map _ _,.mp=>true
 | .func _ _ _,.fn=>true
 | _,_=>false
def aggV:Value->Bool
 | .agg _=>true
 | _=>false
structure TyOK (P:Program) (T:Tab) (t:TypeId) (d:TyD):Prop where
 und:P.underlying t=some d.desc
 info:∃i,P.info? t=some i/\i.size=d.size/\i.bytes=d.bytes/\∀k,d.kd=some k->∃z,i.zero=some z/\z.cells=k.zcells.toArray/\aggV z=k.agg
 kd:∀k,d.kd=some k->k.size=d.size/\Fk T d.desc k=true
def D3 (P:Program) (T:Tab):Prop:=∀t d,Kj T t=some d->TyOK P T t d
section
variable {P:Program} {T:Tab}
theorem Fb (hT:D3 P T) {t:TypeId} {k:Kd} (h:tkd T t=some k):∃d,Kj T t=some d/\d.kd=some k/\TyOK P T t d:=by
 unfold tkd at h;cases hd:Kj T t with
 | none=>simp [hd] at h
 | some d=>simp [hd] at h; exact ⟨d,rfl,h,hT t d hd⟩
theorem Dq (hT:D3 P T) {t:TypeId} {e:TypeDesc} (h:E0 T t=some e):P.underlying t=some e:=by
 unfold E0 at h;cases hd:Kj T t with
 | none=>simp [hd] at h
 | some d=>simp [hd] at h; rw [<-h]; exact (hT t d hd).und
theorem I0 (hT:D3 P T) {t:TypeId} {k:Kd} {e:TypeDesc} (h:tkd T t=some k) (h2:E0 T t=some e):Fk T e k=true:=by
 obtain ⟨d,h1,h3,h4⟩:=Fb hT h;simp [E0,h1] at h2;rw [<-h2]; exact (h4.kd k h3).2
theorem Ea {t:TypeId} {k:Kd} (h:kdIs T t k=true):tkd T t=some k:=by
 unfold kdIs at h;cases hk:tkd T t with
 | none=>simp [hk] at h
 | some k'=>simp [hk] at h; rw [Kd.same_eq h]
theorem E4 {fs:List Field} {off:Nat} {k:Kd} (h:D4 T fs off k=true):k.agg=true:=by
 cases fs<;>cases k<;>simp [D4] at h<;>rfl
theorem UT (hT:D3 P T) {t:TypeId} {k:Kd} (h:tkd T t=some k):∃e,P.underlying t=some e/\SE e=k.agg:=by
 obtain ⟨d,h1,h2,h3⟩:=Fb hT h;refine ⟨d.desc,h3.und,?_⟩;have:=(h3.kd k h2).2;cases hd:d.desc<;>cases k<;>simp [hd,Fk] at this<;>first | rfl | (have:=E4 this; simp [Kd.agg] at this)
theorem Jm (hT:D3 P T) (w:World) {t:TypeId} {k:Kd} (h:tkd T t=some k):(isAgg t).run P w=.ok k.agg w:=by
 obtain ⟨e,h1,h2⟩:=UT hT h;unfold isAgg;simp only [As,Au h1,Av];cases e<;>simp [SE] at h2<;>simp [<-h2]
theorem D1 (hT:D3 P T) (w:World) {t:TypeId} {k:Kd} (h:tkd T t=some k):(sizeOf t).run P w=.ok k.size w:=by
 obtain ⟨d,h1,h2,h3⟩:=Fb hT h;obtain ⟨i,h4,h5,_⟩:=h3.info;simp [sizeOf,typeInfo,h4,h5,(h3.kd k h2).1]
theorem Fy (hT:D3 P T) (w:World) {t:TypeId} {k:Kd} (h:tkd T t=some k):∃z,(zeroValue t).run P w=.ok z w/\z.cells=k.zcells.toArray:=by
 obtain ⟨d,h1,h2,h3⟩:=Fb hT h;obtain ⟨i,h4,_,_,h6⟩:=h3.info;obtain ⟨z,h7,h8,_⟩:=h6 k h2;exact ⟨z,by simp [zeroValue,typeInfo,h4,h7],h8⟩
theorem zaw {k:Kd} {z:Value} (h:z.cells=k.zcells.toArray) (h2:aggV z=k.agg):z=k.mkV k.zcells:=by
 unfold Kd.mkV;cases ha:k.agg with
 | true=>
  rw [ha] at h2;cases z<;>simp [aggV] at h2
  simp only [Value.cells] at h;rw [Aj rfl,h]
 | false=>
  rw [ha] at h2;have hz:z.cells=#[z]:=by cases z<;>first | rfl | simp [aggV] at h2
  rw [hz] at h;have hl:k.zcells=[z]:=by
   have:=Ac Array.toList h;simpa using this.symm
  rw [hl]; rfl
theorem OB (hT:D3 P T) (w:World) {t:TypeId} {k:Kd} (h:tkd T t=some k):(zeroValue t).run P w=.ok (k.mkV k.zcells) w:=by
 obtain ⟨d,h1,h2,h3⟩:=Fb hT h;obtain ⟨i,h4,_,_,h6⟩:=h3.info;obtain ⟨z,h7,h8,h9⟩:=h6 k h2;rw [<-zaw h8 h9];simp [zeroValue,typeInfo,h4,h7]
theorem add_eq (g off n:Nat):(⟨g,off,none⟩:Addr).add n=⟨g,off+n,none⟩:=by unfold Addr.add; split<;>simp_all
theorem G2 (hT:D3 P T) {S:Nat->Prop} {w:World} {t:TypeId} {k:Kd} {x:k.T} (h:tkd T t=some k) {g off:Nat} {c:Array Value} {ty:TypeId} {fr:Nat×Nat}
  (hc:w.heap[g]?=some (.cells c ty fr)) {cs:List Value} (hl:∀j v,cs[j]?=some v->c[off+j]?=some v) (hr:Rd S w k x cs):
  (loadVar t ⟨g,off,none⟩).run P w=.ok (k.mkV cs) w:=by
 have hcell:∀j v,cs[j]?=some v->w.cell? ((⟨g,off,none⟩:Addr).add j)=some v:=λj v hj=>by
  rw [add_eq,Aw w g (off+j) c ty fr hc]; exact hl j v hj
 unfold loadVar;simp only [As,Jm hT w h,Av]
 by_cases ha:k.agg=true
 ·have hlc:=run_loadCells_list (P:=P) w ⟨g,off,none⟩ cs hcell
  rw [Rd.length k x cs hr] at hlc;simp [ha,D1 hT w h,hlc,Kd.mkV]
 ·have hlen:=Rd.length k x cs hr
  have h1:k.size=1:=by cases k<;>simp [Kd.agg] at ha<;>rfl
  rw [h1] at hlen;obtain ⟨v,rfl⟩:=List.length_eq_one_iff.1 hlen;have:=hcell 0 v rfl;rw [add_eq,Ax] at this;simp [ha,run_load,this,Kd.mkV]
theorem G1 {c:Array Value} {off n:Nat} {cs:List Value} (h:(c.toList.drop off).take n=cs):∀j v,cs[j]?=some v->c[off+j]?=some v:=by
 intro j v hj;rw [<-h,List.getElem?_take] at hj;split at hj
 ·rw [Ay] at hj; simpa using hj
 ·cases hj
theorem NY {c:Array Value} {off n:Nat} {c1 c2 c3:List Value} (h:(c.toList.drop off).take n=c1++c2++c3):∀j v,c2[j]?=some v->c[off+c1.length+j]?=some v:=by
 intro j v hj;have:=G1 h (c1.length+j) v (by
  rw [Ah,Az (by omega),List.getElem?_append_left (by
   have:=(A0.1 (show c2[j]?=some v from hj)).1; omega)]
  simpa using hj)
 rw [<-this]; congr 1; omega
theorem Xo (hT:D3 P T) {S:Nat->Prop} {w:World} {t:TypeId} {k:Kd} {x:k.T} (h:tkd T t=some k) {g off:Nat} {c:Array Value} {ty:TypeId}
  (hc:w.heap[g]?=some (.cells c ty (0,0))) {cs:List Value} (hr:Rd S w k x cs) (hfit:off+k.size<=c.size):
  (storeVar t ⟨g,off,none⟩ (k.mkV cs)).run P w=.ok () (w.setRow g (c.toList.take off++cs++c.toList.drop (off+cs.length)).toArray):=by
 have hlen:=Rd.length k x cs hr;unfold storeVar;have hst:=run_storeCells_at P g off ty cs 0 c w hc (by omega) (Rd.one k x cs hr);simp only [Ax] at hst;simp [D1 hT w h,hr.cells,hlen,hst]
end
def Runs (P:Program) (o:Oper) (a:Act) (w:World) (post:Value->World->Prop):Prop:=
 match (execOp a.eval o).run P w with
 | .ok (.value v) w'=>post v w'
 | .ok .skip w'=>post undef w'
 | .ok (.enter f args) w'=>Calls P f args w' fun
  | .returned v,w''=>post v w''
  | _,_=>False
 | .ok (.round l f tmps as bd) w'=>RoundIn Fence.wide 0 P l f tmps as bd w' fun
  | .returned v,w''=>post v w''
  | _,_=>False
 | _=>False
abbrev fen:Option Nat->Fence
 | none=>.wide
 | some l=>Fence.wide.inRound l
abbrev Code.wpr (ρ:Option Nat) (P:Program) (c:Code) (Q:Exit->Act->World->Prop) (a:Act) (w:World):Prop:=c.wpIn (fen ρ) 0 P Q a w
theorem zf5 (ρ:Option Nat) (f:FuncId):(fen ρ).fn f:=by cases ρ<;>trivial
theorem SU {ρ:Option Nat} {n:Nat} {P:Program} {f:FuncId} {args:Array Value} {w:World} {R:Ending->World->Prop} (h:Calls P f args w R):CallsIn (fen ρ) n P f args w R:=by
 have h':CallsIn Fence.wide n P f args w R:=callsIn_wide.2 h;cases ρ with
 | none=>exact h'
 | some l=>exact h'
theorem Yq (ρ:Option Nat):(fen ρ).depth.isSome=true->1<=0:=by cases ρ<;>intro h<;>cases h
theorem SS (ρ:Option Nat):(fen ρ).round=ρ:=by cases ρ<;>rfl
theorem LR {ρ:Option Nat} {P:Program} {l:Nat} {f:FuncId} {tmps:Array Value} {as bd:Code} {w:World} {R:Ending->World->Prop} (h:RoundIn Fence.wide 0 P l f tmps as bd w R):RoundIn (fen ρ) (0 - 1) P l f tmps as bd w R:=by cases ρ<;>exact h
theorem Runs.wp {P:Program} {o:Oper} {a:Act} {w:World} {post:Value->World->Prop} (h:Runs P o a w post) {ρ:Option Nat} {K:Act->World->Prop} {Q:Exit->Act->World->Prop}
  (hk:∀v w',post v w'->K (a.put o.dst v) w'):o.wpIn (fen ρ) 0 P a w K Q:=by
 unfold Runs at h;refine ⟨λ_ _=>zf5 ρ _,?_⟩;have hd:(o.semAt (fen ρ).round a.eval).run P w=(execOp a.eval o).run P w:=by
  rw [SS];cases ρ with
  | none=>rw [Oper.semAt_none]
  | some l=>
   rw [Oper.semAt_some l a.eval o];intro c hc;unfold execOp at h;simp only [hc] at h
   revert h
   simp only [As];generalize (resolve a.eval c o.type).run P w=r;intro h;cases r with
   | ok d w'=>simp [A1] at h
   | halt x w'=>exact h
 rw [hd];generalize (execOp a.eval o).run P w=r at*;cases r with
 | ok n w'=>
  cases n<;>simp only [Oper.uponIn] at h ⊢<;>first | exact hk _ _ h | exact h.elim | skip
  ·exact ⟨Yq ρ,SU (h.mono λe w'' he=>by
    cases e<;>first | exact hk _ _ he | exact he.elim)⟩
  ·exact ⟨Yq ρ,LR (h.mono λe w'' he=>by
    cases e<;>first | exact hk _ _ he | exact he.elim)⟩
 | halt x w'=>exact h.elim
theorem Runs.value {P:Program} {o:Oper} {a:Act} {w w':World} {post:Value->World->Prop} {v:Value} (h:(execOp a.eval o).run P w=.ok (.value v) w') (hp:post v w'):Runs P o a w post:=by
 unfold Runs; rw [h]; exact hp
theorem Runs.skip {P:Program} {o:Oper} {a:Act} {w w':World} {post:Value->World->Prop} (h:(execOp a.eval o).run P w=.ok .skip w') (hp:post undef w'):Runs P o a w post:=by
 unfold Runs; rw [h]; exact hp
def F6 (C:Ctx) (tm:Nat->SV) (me:Nat->Option Blk) (sv:SV) (wr:List (Nat×Blk)) (a:Act) (v:Value) (w':World):Prop:=
 ∃pl' S',Inv C tm (laid wr me) pl' S' a w'/\G S' w' (laid wr me) pl' sv v
theorem Oi {i j:Nat} (h:i≠j):Nat.beq i j=false:=by
 cases hb:Nat.beq i j with
 | false=>rfl
 | true=>exact absurd (Aa hb) h
theorem Dn (me:Nat->Option Blk):laid [] me=me:=by funext j; rfl
theorem Do (i:Nat) (b:Blk) (wr:List (Nat×Blk)) (me:Nat->Option Blk):laid ((i,b)::wr) me=upd (laid wr me) i (some b):=by
 funext j
 simp only [laid,mget,upd]
 by_cases h:i=j
 ·subst h; simp
 ·have:Nat.beq i j=false:=Oi h
  simp only [this]; rw [Ak (λe=>h e.symm)]
theorem Em (w1 w2:List (Nat×Blk)) (me:Nat->Option Blk):laid (w1++w2) me=laid w1 (laid w2 me):=by
 induction w1 with
 | nil=>rw [A2,Dn]
 | cons p l ih=>obtain ⟨i,b⟩:=p; rw [A3,Do,Do,ih]
theorem Ft (w1 w2:List (Nat×Blk)):mget (w1++w2)=laid w1 (mget w2):=by
 induction w1 with
 | nil=>rw [A2,Dn]
 | cons p l ih=>
  obtain ⟨i,b⟩:=p;rw [A3,Do,<-ih]
  funext j
  simp only [mget,upd]
  by_cases h:i=j
  ·subst h; simp
  ·have:Nat.beq i j=false:=Oi h
   simp only [this]; rw [Ak (λe=>h e.symm)]
theorem E5 (i:Nat) (s:SV) (l:List (Nat×SV)):tget ((i,s)::l)=upd (tget l) i s:=by
 funext j
 simp only [tget,upd]
 by_cases h:i=j
 ·subst h; simp
 ·have:Nat.beq i j=false:=Oi h
  simp only [this]; rw [Ak (λe=>h e.symm)]
section
variable {C:Ctx} {tm:Nat->SV} {me:Nat->Option Blk} {pl:Nat->Plc} {S:Nat->Prop} {a:Act} {w:World}
theorem Inv.shutVar (h:Inv C tm me pl S a w) {i:Nat} {k:Kd} {x:k.T} {sh:Bool} (hi:me i=some (.var k x sh)) (hnp:C.pp.length<=i):
  ∃S',Inv C tm (upd me i (some (.var k x true))) pl S' a w/\Keeps S w me pl S' w (upd me i (some (.var k x true))) pl/\(∀g,(pl i).g=some g->S' g):=by
 have hb:=h.mem i _ hi;obtain ⟨g,c,t,hg,hc,hsz,hr,hsh⟩:=hb;have hS:∀b,S b->S b\/b=g:=λb hb=>.inl hb
 have hK:Keeps S w me pl (λb=>S b\/b=g) w (upd me i (some (.var k x true))) pl:=by
  refine ⟨λb hb=>⟨.inl hb,rfl⟩,λj bj hj=>?_⟩
  by_cases e:j=i
  ·subst e; rw [hi] at hj; cases hj; exact ⟨.var k x true,by simp,⟨rfl,rfl⟩⟩
  ·exact ⟨bj,by rw [Dm _ _ e]; exact hj,Compat.refl _ _⟩
 refine ⟨λb=>S b\/b=g,⟨h.nt,h.df,λt'=>(h.tms t').keeps hK,λj bj hj=>?_,λj bj hj=>?_,λj1 j2 b1 b2 g' hne hj1 hj2 hg'=>?_,λb hb=>.inl (h.s0 b hb),λb hb=>?_,h.fr,h.pd,λsv v hg=>(h.gho sv v hg).keeps hK⟩,hK,λg' hg'=>by rw [hg] at hg'; cases hg'; exact .inr rfl⟩
 ·by_cases e:j=i
  ·subst e; simp only [Dr,Ad] at hj; subst hj
   exact ⟨g,c,t,hg,hc,hsz,Rd.mono hK.s k x _ hr,by simp⟩
  ·rw [Dm _ _ e] at hj
   have hne:∀gj,(pl j).g=some gj->gj≠g:=λgj hgj e'=>by subst e'; exact h.dis j i bj _ gj e hj hi hgj hg
   exact (h.mem j bj hj).keeps hK (λ_ _=>rfl) (λgj hgj _=>by simp [hne gj hgj])
 ·by_cases e:j=i
  ·subst e; simp only [Dr,Ad] at hj; subst hj
   intro g' hg';rcases h.plcs j _ hi g' hg' with h1 | ⟨_,h1⟩
   ·exact .inl h1
   ·exact .inr ⟨⟨k,x,true,rfl⟩,h1⟩
  ·rw [Dm _ _ e] at hj; exact h.plcs j bj hj
 ·have q1:∃b,me j1=some b:=by
   by_cases e1:j1=i
   ·exact ⟨_,e1 ▸ hi⟩
   ·rw [Dm _ _ e1] at hj1; exact ⟨_,hj1⟩
  have q2:∃b,me j2=some b:=by
   by_cases e1:j2=i
   ·exact ⟨_,e1 ▸ hi⟩
   ·rw [Dm _ _ e1] at hj2; exact ⟨_,hj2⟩
  obtain ⟨b1',q1⟩:=q1;obtain ⟨b2',q2⟩:=q2;exact h.dis j1 j2 b1' b2' g' hne q1 q2 hg'
 ·rcases hb with hb | rfl
  ·exact h.sfr b hb
  ·refine ⟨(Ap.1 hc).1,.inr ?_⟩
   rcases h.plcs i _ hi b hg with ⟨h1,_⟩ | ⟨_,h1⟩
   ·exact h1.or
   ·have:=(A0.1 h1).1; omega
theorem Inv.shutRow (h:Inv C tm me pl S a w) {i:Nat} {e:Kd} {l:List e.T} {v:Nat} {sh:Bool} (hi:me i=some (.row e l v sh)) (_:C.pp.length<=i\/True):
  ∃S',Inv C tm (upd me i (some (.row e l v true))) pl S' a w/\Keeps S w me pl S' w (upd me i (some (.row e l v true))) pl/\(∀g,(pl i).g=some g->S' g):=by
 have hb:=h.mem i _ hi;have hK:Keeps S w me pl (λb=>S b\/(pl i).g=some b) w (upd me i (some (.row e l v true))) pl:=by
  refine ⟨λb hb=>⟨.inl hb,rfl⟩,λj bj hj=>?_⟩
  by_cases ee:j=i
  ·subst ee; rw [hi] at hj; cases hj; exact ⟨.row e l v true,by simp,⟨rfl,Al _,λ_=>⟨rfl,rfl⟩⟩⟩
  ·exact ⟨bj,by rw [Dm _ _ ee]; exact hj,Compat.refl _ _⟩
 refine ⟨λb=>S b\/(pl i).g=some b,⟨h.nt,h.df,λt'=>(h.tms t').keeps hK,λj bj hj=>?_,λj bj hj=>?_,λj1 j2 b1 b2 g' hne hj1 hj2 hg'=>?_,λb hb=>.inl (h.s0 b hb),λb hb=>?_,h.fr,h.pd,λsv v hg=>(h.gho sv v hg).keeps hK⟩,hK,λg' hg'=>.inr hg'⟩
 ·by_cases ee:j=i
  ·subst ee; simp only [Dr,Ad] at hj; subst hj
   rcases hb with h1 | ⟨gj,cj,tj,h1,h1',h2,h3,h3',h4,h5,h6⟩
   ·exact .inl h1
   ·exact .inr ⟨gj,cj,tj,h1,h1',h2,h3,h3',h4,RdL.imp (λx cs hx=>Rd.mono hK.s e x cs hx) h5,by simp [h1]⟩
  ·rw [Dm _ _ ee] at hj
   have hne:∀gj,(pl j).g=some gj->¬(pl i).g=some gj:=λgj hgj e'=>h.dis j i bj _ gj ee hj hi hgj e'
   exact (h.mem j bj hj).keeps hK (λ_ _=>rfl) (λgj hgj _=>by simp [hne gj hgj])
 ·by_cases ee:j=i
  ·subst ee; simp only [Dr,Ad] at hj; subst hj
   intro g' hg';rcases h.plcs j _ hi g' hg' with h1 | ⟨⟨k,x,s,h0⟩,_⟩
   ·exact .inl h1
   ·cases h0
  ·rw [Dm _ _ ee] at hj; exact h.plcs j bj hj
 ·have q1:∃b,me j1=some b:=by
   by_cases e1:j1=i
   ·exact ⟨_,e1 ▸ hi⟩
   ·rw [Dm _ _ e1] at hj1; exact ⟨_,hj1⟩
  have q2:∃b,me j2=some b:=by
   by_cases e1:j2=i
   ·exact ⟨_,e1 ▸ hi⟩
   ·rw [Dm _ _ e1] at hj2; exact ⟨_,hj2⟩
  obtain ⟨b1',q1⟩:=q1;obtain ⟨b2',q2⟩:=q2;exact h.dis j1 j2 b1' b2' g' hne q1 q2 hg'
 ·rcases hb with hb | hb
  ·exact h.sfr b hb
  ·refine ⟨?_,.inr ?_⟩
   ·rcases h.mem i _ hi with h1 | ⟨gj,cj,tj,h1,h1',h2,_⟩
    ·rw [hb] at h1; cases h1.1
    ·rw [hb] at h1; cases h1; exact (Ap.1 h2).1
   ·rcases h.plcs i _ hi b hb with ⟨h1,_⟩ | ⟨⟨k,x,s,h0⟩,_⟩
    ·exact h1.or
    ·cases h0
end
section
variable {C:Ctx} {tm:Nat->SV} {me:Nat->Option Blk} {pl:Nat->Plc} {S:Nat->Prop} {a:Act} {w:World}
theorem RdL.window {α:Type} {R:α->List Value->Prop} {sz:Nat} (hn:∀x cs,R x cs->cs.length=sz) {l:List α} {cs:List Value} (h:RdL R l cs) (lo n:Nat):
  RdL R ((l.drop lo).take n) ((cs.drop (lo*sz)).take (n*sz)):=by
 have aux:∀(n:Nat) (l:List α) (cs:List Value),RdL R l cs->RdL R (l.take n) (cs.take (n*sz))/\RdL R (l.drop n) (cs.drop (n*sz)):=by
  intro n l cs h
  by_cases hle:n<=l.length
  ·have h':RdL R (l.take n++l.drop n) cs:=by rw [A4]; exact h
   obtain ⟨c1,c2,e,h1,h2⟩:=RdL.split h';have hl:=RdL.length hn h1;rw [A5,A6 hle] at hl;subst e;rw [<-hl];simp [h1,h2]
  ·have hl:=RdL.length hn h
   have hle':l.length<=n:=by omega
   have hcs:cs.length<=n*sz:=by rw [hl]; exact A7 _ hle'
   rw [A8 hle',A8 hcs,List.drop_eq_nil_of_le hle',List.drop_eq_nil_of_le hcs];exact ⟨h,rfl⟩
 exact (aux n _ _ (aux lo _ _ h).2).1
theorem Mi {α:Type} {c:List α} {off n:Nat} {c1 c2 c3:List α} (h:(c.drop off).take n=c1++c2++c3) (x y:Nat) (hxy:x+y<=c2.length):
  (c.drop (off+c1.length+x)).take y=(c2.drop x).take y:=by
 have hn:c1.length+c2.length<=n:=by
  have:=Ac List.length h;simp at this; omega
 have e1:c.drop (off+c1.length+x)=(c.drop off).drop (c1.length+x):=by rw [A9]; congr 1; omega
 have e2:((c.drop off).drop (c1.length+x)).take y=(((c.drop off).take n).drop (c1.length+x)).take y:=by
  rw [Ba,Bb,A6 (by omega)]
 rw [e1,e2,h,Ah,<-A9,Bc];rw [List.drop_append_of_le_length (by omega),Bd (by simp; omega)]
theorem Inv.atPath (h:Inv C tm me pl S a w) {b:Nat} {kb k:Kd} {x:kb.T} {z:k.T} {sh:Bool} {p:List Step} {o:Nat} {k':Kd} (hm:me b=some (.var kb x sh))
  (hok:kb.okP p) (hoff:kb.offP p=some (o,k')) (hg:getP kb x p=some ⟨k,z⟩):k'=k/\∃g c t c1 c2 c3,(pl b).g=some g/\w.heap[g]?=some (.cells c t (0,0))/\
   (pl b).off+kb.size<=c.size/\(c.toList.drop (pl b).off).take kb.size=c1++c2++c3/\c1.length=o/\Rd S w k z c2/\(sh=true↔S g)/\
   (∀(y:k.T),∃z,setP kb x p ⟨k,y⟩=some z/\∀(S':Nat->Prop) (w':World) c2',(∀b,S b->S' b/\w'.heap[b]?=w.heap[b]?)->Rd S' w' k y c2'->Rd S' w' kb z (c1++c2'++c3)):=by
 obtain ⟨g,c,t,h1,h2,h3,h4,h5⟩:=h.mem b _ hm;obtain ⟨o',e,c1,c2,c3,e2,hl,hr,hset⟩:=zky p kb x _ k z h4 hok hg;rw [hoff] at e;cases e;exact ⟨rfl,g,c,t,c1,c2,c3,h1,h2,h3,e2,hl,hr,h5,hset⟩
theorem Ez {np:Nat} (hnp:np=C.pp.length) {rd:Nat->Option Blk} {sv:SV} {k:Kd} {y:k.T} {wr:List (Nat×Blk)} {acc:List Nat} {v:Value}
  (h:Ix np rd sv k=some (y,wr,acc)) (hacc:∀i∈acc,me i=rd i) (hI:Inv C tm me pl S a w) (hG:G S w me pl sv v):
  ∃S',Inv C tm (laid wr me) pl S' a w/\Keeps S w me pl S' w (laid wr me) pl/\VRd S' w k y v:=by
 have refl:Keeps S w me pl S w me pl:=⟨λ_ hb=>⟨hb,rfl⟩,λi b hi=>⟨b,hi,Compat.refl _ _⟩⟩
 cases sv<;>simp only [Ix] at h<;>try (cases h; done)
 case nil=>
  cases k<;>simp only [reduceCtorEq] at h
  simp only [Ad,Be] at h;obtain ⟨rfl,rfl,rfl⟩:=h;exact ⟨S,by rw [Dn]; exact hI,by rw [Dn]; exact refl,VRd.sl.2 (.inl ⟨hG,rfl⟩)⟩
 case val k' x=>
  split at h
  ·rename_i y' hy
   simp only [Ad,Be] at h;obtain ⟨rfl,rfl,rfl⟩:=h;have:=TV.as_some hy;cases this;exact ⟨S,by rw [Dn]; exact hI,by rw [Dn]; exact refl,hG⟩
  ·cases h
 case own j ver=>
  split at h<;>try (cases h; done)
  rename_i e l ver' sh hb hrd;split at h<;>try (cases h; done)
  rename_i y' hv hy;simp only [Ad,Be] at h;obtain ⟨rfl,rfl,rfl⟩:=h;have hm:me j=some (.row e l ver' sh):=by rw [hacc j (by simp)]; exact hrd
  have hjn:C.pp.length<=j:=by
   subst hnp;rcases Nat.lt_or_ge j C.pp.length with h1 | h1
   ·have:Nat.blt j C.pp.length=true:=by simpa [Nat.blt_eq] using h1
    rw [this] at hb; cases hb
   ·exact h1
  obtain ⟨S',h1,h2,h3⟩:=hI.shutRow hm (.inl hjn);rw [Do,Dn];refine ⟨S',h1,h2,?_⟩;have:=TV.as_some hy;cases this;obtain ⟨e',l',ver2,sh',hm',hle,hrow⟩:=hG;rw [hm] at hm';cases hm';have hrow:=hrow (Aa hv).symm;have hblk:=h1.mem j (.row e l ver' true) (Dr me j _);refine VRd.sl.2 ?_;rcases hrow with ⟨hg,rfl⟩ | ⟨g,hg,rfl⟩
  ·rcases hblk with ⟨_,hl,_⟩ | ⟨g,c,t,hg',_⟩
   ·exact .inl ⟨rfl,hl⟩
   ·rw [hg] at hg'; cases hg'
  ·rcases hblk with ⟨hg',hl,_⟩ | ⟨g',c,t,hg',h4,h5,h6,h7,h8,h9,h10⟩
   ·rw [hg] at hg'; cases hg'
   ·rw [hg] at hg'
    cases hg';exact .inr (.inl ⟨g,0,_,c,t,_,rfl,h6,h3 g hg,h5,by simpa using h9⟩)
 case win j ver lo n=>
  split at h<;>try (cases h; done)
  rename_i e l ver' sh hb hrd;split at h<;>try (cases h; done)
  rename_i y' hv hy;simp only [Ad,Be] at h;obtain ⟨rfl,rfl,rfl⟩:=h;have hm:me j=some (.row e l ver' sh):=by rw [hacc j (by simp)]; exact hrd
  have hjn:C.pp.length<=j:=by
   subst hnp;rcases Nat.lt_or_ge j C.pp.length with h1 | h1
   ·have:Nat.blt j C.pp.length=true:=by simpa [Nat.blt_eq] using h1
    rw [this] at hb; cases hb
   ·exact h1
  obtain ⟨S',h1,h2,h3⟩:=hI.shutRow hm (.inl hjn);rw [Do,Dn];refine ⟨S',h1,h2,?_⟩;have:=TV.as_some hy;cases this;obtain ⟨e',l',ver2,sh',hm',hle,hrow⟩:=hG;rw [hm] at hm';cases hm';obtain ⟨hlen,hwin⟩:=hrow (Aa hv).symm;have hblk:=h1.mem j (.row e l ver' true) (Dr me j _);have hll:(List.take n (List.drop lo l)).length=n:=by simp; omega
  refine VRd.sl.2 ?_;rcases hwin with ⟨hg,rfl,hn0⟩ | ⟨g,o,cap,hg,rfl,hcap,ho⟩
  ·subst hn0; exact .inl ⟨rfl,by simp⟩
  ·rcases hblk with ⟨hg',hl,_⟩ | ⟨g',c,t,hg',h4,h5,h6,h7,h8,h9,h10⟩
   ·rw [hg] at hg'; cases hg'
   ·rw [hg] at hg'
    cases hg';refine .inr (.inl ⟨g,o,cap,c,t,_,by rw [hll],by rw [hll]; exact hcap,h3 g hg,h5,?_⟩);rw [hll];rcases ho with rfl | rfl
    ·simp [RdL]
    ·have:=RdL.window (Rd.length e) h9 lo n
     rw [Bf];rw [Ba,Bb] at this
     rwa [A6 (by rw [<-Nat.mul_sub_right_distrib]; exact A7 _ (by omega))] at this
 case asl b p lo n=>
  split at h<;>try (cases h; done)
  rename_i kb x sh hb hrd;split at h<;>try (cases h; done)
  rename_i m e l hget;split at h<;>try (cases h; done)
  rename_i y' hy;simp only [Ad,Be] at h;obtain ⟨rfl,rfl,rfl⟩:=h;have hm:me b=some (.var kb x sh):=by rw [hacc b (by simp)]; exact hrd
  have hjn:C.pp.length<=b:=by
   subst hnp;rcases Nat.lt_or_ge b C.pp.length with h1 | h1
   ·have:Nat.blt b C.pp.length=true:=by simpa [Nat.blt_eq] using h1
    rw [this] at hb; cases hb
   ·exact h1
  obtain ⟨S',h1,h2,h3⟩:=hI.shutVar hm hjn;rw [Do,Dn];refine ⟨S',h1,h2,?_⟩;have:=TV.as_some hy;cases this;obtain ⟨kb',x',sh',o,m',e',hm',hok,hoff,hln,hgs,hwin⟩:=hG;rw [hm] at hm';cases hm';obtain ⟨ek,g,c,t,c1,c2,c3,hg,hc,hsz,hseg,hl1,hr2,_⟩:=h1.atPath (Dr me b (some (.var kb x true))) hok hoff hget;cases ek;obtain ⟨hlm,hrl⟩:=hr2;have hll:(List.take n (List.drop lo l)).length=n:=by simp; omega
  refine VRd.sl.2 ?_;rcases hwin with ⟨hg',rfl,hn0⟩ | ⟨g',o',cap,hg',rfl,hcap,ho⟩
  ·subst hn0; exact .inl ⟨rfl,by simp⟩
  ·rw [hg] at hg'
   cases hg';refine .inr (.inl ⟨g,o',cap,c,t,_,by rw [hll],by rw [hll]; exact hcap,h3 g hg,hc,?_⟩);rw [hll];rcases ho with rfl | rfl
   ·simp [RdL]
   ·have h9:=RdL.window (Rd.length e) hrl lo n
    have hc2:=RdL.length (Rd.length e) hrl;rw [<-hl1,Mi hseg (lo*e.size) (n*e.size) (by rw [hc2,<-Ag]; exact A7 _ (by omega))];exact h9
 case fn f=>
  cases k<;>simp only [reduceCtorEq] at h
  simp only [Ad,Be] at h;obtain ⟨rfl,rfl,rfl⟩:=h;exact ⟨S,by rw [Dn]; exact hI,by rw [Dn]; exact refl,VRd.fn.2 hG⟩
 case clo f ps=>
  split at h<;>try (cases h; done)
  rename_i b kc;split at h<;>try (cases h; done)
  rename_i kb x sh hb hrd;split at h<;>try (cases h; done)
  rename_i y' hy;simp only [Ad,Be] at h;obtain ⟨rfl,rfl,rfl⟩:=h;have hm:me b=some (.var kb x sh):=by rw [hacc b (by simp)]; exact hrd
  have hjn:C.pp.length<=b:=by
   subst hnp;rcases Nat.lt_or_ge b C.pp.length with h1 | h1
   ·have:Nat.blt b C.pp.length=true:=by simpa [Nat.blt_eq] using h1
    rw [this] at hb; cases hb
   ·exact h1
  have:=TV.as_some hy;cases this;obtain ⟨S',h1,h2,h3⟩:=hI.shutVar hm hjn;rw [Do,Dn];refine ⟨S',h1,h2,VRd.fn.2 ?_⟩;obtain ⟨vs,rfl,x2,sh2,g,vs',rfl,hm2,hg,hnil⟩:=hG;have hnil':vs'=[]:=hnil;subst hnil';obtain ⟨g',c,t,hg',hc,hsz,⟨u,hu,hr⟩,_⟩:=h1.mem b _ (Dr me b (some (.var .fn y' true)));rw [hg] at hg';cases hg';exact ⟨g,_,c,t,_,u,rfl,h3 g hg,hc,hu,hr⟩
end
section
variable {C:Ctx} {tm:Nat->SV} {me:Nat->Option Blk} {pl:Nat->Plc} {S:Nat->Prop} {a:Act} {w:World} {P:Program} {T:Tab}
theorem MA (hI:Inv C tm me pl S a w) {sv:SV} {v:Value} (hG:G S w me pl sv v):F6 C tm me sv [] a v w:=
 ⟨pl,S,by rw [Dn]; exact ⟨hI,hG⟩⟩
theorem D0 {a b:Kd} (h:a.same b=true):a=b:=Kd.same_eq h
theorem Rh {α:Type} {C:List α} {off n:Nat} {c1 c2 c3 c2':List α} (h:(C.drop off).take n=c1++c2++c3) (hn:off+n<=C.length) (hl:c2'.length=c2.length):
  C.take (off+c1.length)++c2'++C.drop (off+c1.length+c2'.length)=C.take off++(c1++c2'++c3)++C.drop (off+n):=by
 have hlen:n=c1.length+c2.length+c3.length:=by
  have:=Ac List.length h;simp at this; omega
 have e0:C=C.take off++(c1++c2++c3)++C.drop (off+n):=by
  rw [<-h,<-A9,Ah,A4,A4]
 have e1:C.take (off+c1.length)=C.take off++c1:=by
  have hto:(C.take off).length=off:=by simp; omega
  conv=>lhs; rw [e0]
  simp only [Ah];rw [<-Ah,Bd (by simp [hto]),A8 (by simp [hto])]
 have e2:C.drop (off+c1.length+c2'.length)=c3++C.drop (off+n):=by
  have hto:(C.take off++c1++c2).length=off+c1.length+c2'.length:=by simp; omega
  have e3:C=(C.take off++c1++c2)++(c3++C.drop (off+n)):=by
   conv=>lhs; rw [e0]
   simp only [Ah]
  conv=>lhs; rw [e3,<-hto]
  rw [Bc]
 rw [e1,e2];simp only [Ah]
theorem Kw {α:Type} {C X:List α} {off n:Nat} (hn:off+n<=C.length) (hX:X.length=n):
  ((C.take off++X++C.drop (off+n)).length=C.length)/\((C.take off++X++C.drop (off+n)).take off=C.take off)/\
  ((C.take off++X++C.drop (off+n)).drop (off+n)=C.drop (off+n))/\(((C.take off++X++C.drop (off+n)).drop off).take n=X):=by
 have hto:(C.take off).length=off:=by simp; omega
 refine ⟨by simp; omega,?_,?_,?_⟩
 ·rw [Ah,Bd (by omega),A8 (by omega)]
 ·rw [show off+n=(C.take off++X).length by simp; omega,Bc]
 ·rw [Ah,List.drop_append_of_le_length (by omega),Bg (by omega),A2,Bd (by omega),A8 (by omega)]
theorem P6:∀{k:Kd} {x:k.T} {j:Nat} {v:TV} {y:k.T},setF k x j v=some y->∃k' z,getF k x j=some ⟨k',z⟩/\(v.as k').isSome=true
 | .pair a b,x,0,v,y,h=>by
  simp only [setF] at h;cases hv:v.as a with
  | none=>simp [hv] at h
  | some u=>exact ⟨a,x.1,rfl,by simp [hv]⟩
 | .pair a b,x,j+1,v,y,h=>by
  simp only [setF] at h;cases hs:setF b x.2 j v with
  | none=>simp [hs] at h
  | some u=>exact P6 (k:=b) (x:=x.2) (j:=j) hs
theorem Yl {k:Kd} {x:k.T} {s:Step} {v:TV} {y:k.T} (h:set1 k x s v=some y):∃k' z,get1 k x s=some ⟨k',z⟩/\(v.as k').isSome=true:=by
 cases s with
 | fld j=>
  have:setF k x j v=some y:=by cases k<;>simpa [set1] using h
  obtain ⟨k',z,h1,h2⟩:=P6 this;exact ⟨k',z,by cases k<;>simpa [get1] using h1,h2⟩
 | idx i=>
  cases k<;>simp only [set1] at h<;>try (cases h; done)
  rename_i n e;cases hv:v.as e with
  | none=>simp [hv] at h
  | some u=>exact ⟨e,_,rfl,by simp [hv]⟩
theorem Ho:∀{p:List Step} {k:Kd} {x:k.T} {v:TV} {y:k.T},setP k x p v=some y->∃k' z,getP k x p=some ⟨k',z⟩/\(v.as k').isSome=true
 | [],k,x,v,y,h=>⟨k,x,rfl,by simp only [setP] at h; simp [h]⟩
 | s::p,k,x,v,y,h=>by
  simp only [setP] at h;cases h1:get1 k x s with
  | none=>simp [h1] at h
  | some u=>
   obtain ⟨k1,x1⟩:=u;simp only [h1] at h;cases h2:setP k1 x1 p v with
   | none=>simp [h2] at h
   | some y1=>
    obtain ⟨k',z,h3,h4⟩:=Ho h2;exact ⟨k',z,by simp [getP,h1,h3],h4⟩
theorem Sg {v:TV} {k:Kd} (h:(v.as k).isSome=true):v.1=k:=by
 cases hv:v.as k with
 | none=>simp [hv] at h
 | some x=>rw [TV.as_some hv]
theorem za7 {α:Type} (f:Nat->α) (i:Nat) (x y:α):upd (upd f i x) i y=upd f i y:=by
 funext j; simp only [upd]; split<;>rfl
theorem Inv.storePath (hI:Inv C tm me pl S a w) {b:Nat} {kb k:Kd} {x x':kb.T} {y:k.T} {p:List Step} {o:Nat} {cs:List Value} (hm:me b=some (.var kb x false))
  (hok:kb.okP p) (hoff:kb.offP p=some (o,k)) (hset:setP kb x p ⟨k,y⟩=some x') (hr:Rd S w k y cs):
  ∃g c t,(pl b).g=some g/\w.heap[g]?=some (.cells c t (0,0))/\(pl b).off+o+k.size<=c.size/\
   Inv C tm (upd me b (some (.var kb x' false))) pl S a (w.setRow g (c.toList.take ((pl b).off+o)++cs++c.toList.drop ((pl b).off+o+cs.length)).toArray):=by
 obtain ⟨k',z,hget,has⟩:=Ho hset;have ek:=Sg has;simp only at ek;subst ek;obtain ⟨_,g,c,t,c1,c2,c3,hg,hc,hsz,hseg,hl1,hr2,hsh,hs⟩:=hI.atPath hm hok hoff hget;obtain ⟨z',hz',hh⟩:=hs y;rw [hset] at hz';cases hz';have hlc:cs.length=c2.length:=by rw [Rd.length k y cs hr,Rd.length k z c2 hr2]
 have hsz':(pl b).off+kb.size<=c.toList.length:=by simpa using hsz
 have hlen:kb.size=c1.length+c2.length+c3.length:=by
  have:=Ac List.length hseg;simp at this; omega
 have hnS:¬S g:=λh=>by have:=hsh.2 h; cases this
 have hS:∀b,S b->S b/\(w.setRow g (c.toList.take ((pl b).off+o)++cs++c.toList.drop ((pl b).off+o+cs.length)).toArray).heap[b]?=w.heap[b]?:=
  λb hb=>⟨hb,Aq w g b _ (λe=>hnS (e ▸ hb))⟩
 refine ⟨g,c,t,hg,hc,by have:=Rd.length k z c2 hr2; simp at hsz'; omega,?_⟩;subst hl1;rw [Rh hseg hsz' hlc];obtain ⟨f1,f2,f3,f4⟩:=Kw (X:=c1++cs++c3) hsz' (by simp; omega);refine hI.write hm hg hnS hc (by simpa using f1) (by simpa using f2) (λ_=>by simpa [Blk.csize] using f3) rfl ⟨λ⟨k,x,s,e⟩=>⟨_,_,_,rfl⟩,λ_=>⟨_,_,_,rfl⟩⟩ ⟨rfl,rfl⟩ ?_;refine ⟨g,_,t,hg,setRow_heap w g c _ t (0,0) hc,by simpa using (by omega:(pl b).off+kb.size<=_),?_,hsh⟩;rw [Bh,f4]
 exact hh S _ cs (λb hb=>⟨hb,Aq w g b _ (λe=>hnS (e ▸ hb))⟩) (Rd.mono (λb hb=>⟨hb,Aq w g b _ (λe=>hnS (e ▸ hb))⟩) k y cs hr)
theorem Inv.atRow (h:Inv C tm me pl S a w) {j:Nat} {e k:Kd} {l:List e.T} {v:Nat} {z:k.T} {sh:Bool} {p:List Step} {o i:Nat} {k':Kd} (hm:me j=some (.row e l v sh))
  (hi:i<l.length) (hok:e.okP p) (hoff:e.offP p=some (o,k')) (hg:getP e (l.getD i e.zero) p=some ⟨k,z⟩):k'=k/\∃g c t c1 c2 c3,(pl j).g=some g/\w.heap[g]?=some (.cells c t (0,0))/\
   l.length*e.size<=c.size/\c.size=(pl j).cap*e.size/\l.length<=(pl j).cap/\(pl j).cap<=maxLen/\c.toList.take (l.length*e.size)=c1++c2++c3/\c1.length=i*e.size+o/\Rd S w k z c2/\(sh=true↔S g)/\
   (∀(y:k.T),∃z,setP e (l.getD i e.zero) p ⟨k,y⟩=some z/\∀(S':Nat->Prop) (w':World) c2',(∀b,S b->S' b/\w'.heap[b]?=w.heap[b]?)->Rd S' w' k y c2'->RdL (Rd S' w' e) (l.set i z) (c1++c2'++c3)):=by
 rcases h.mem j _ hm with ⟨_,hl,_⟩ | ⟨g,c,t,h1,h1',h2,h3,h4,h5,h6,h7⟩
 ·subst hl; simp at hi
 ·obtain ⟨d1,d2,d3,e2,hl2,hr2,hset⟩:=RdL.nth (Rd.length e) i e.zero h6 hi
  obtain ⟨o',ee,c1,c2,c3,e3,hl3,hr3,hset3⟩:=zky p e _ d2 k z hr2 hok hg;rw [hoff] at ee;cases ee;refine ⟨rfl,g,c,t,d1++c1,c2,c3++d3,h1,h2,by rw [h5]; exact A7 _ h3,h5,h3,h4,by rw [e2,e3]; simp,by simp [hl2,hl3],hr3,h7,λy=>?_⟩;obtain ⟨z',hz',hh⟩:=hset3 y;refine ⟨z',hz',λS' w' c2' hs hy=>?_⟩;have:=hset (Rd S' w' e) z' (c1++c2'++c3) (λx cs hx=>Rd.mono hs e x cs hx) (hh S' w' c2' hs hy);simpa using this
theorem Inv.writeRow (hI:Inv C tm me pl S a w) {j:Nat} {e:Kd} {l l':List e.T} {v:Nat} (hm:me j=some (.row e l v false)) {g:Nat} {c:Array Value} {t:TypeId} (hg:(pl j).g=some g)
  (hc:w.heap[g]?=some (.cells c t (0,0))) {cs:List Value} {lo:Nat} (hfit:lo+cs.length<=l.length*e.size) (hl:l'.length=l.length)
  (hr:∀w',(∀b,S b->S b/\w'.heap[b]?=w.heap[b]?)->RdL (Rd S w' e) l' ((c.toList.take lo++cs++c.toList.drop (lo+cs.length)).take (l.length*e.size))):
  Inv C tm (upd me j (some (.row e l' v false))) pl S a (w.setRow g (c.toList.take lo++cs++c.toList.drop (lo+cs.length)).toArray):=by
 rcases hI.mem j _ hm with ⟨h0,_⟩ | ⟨g',c',t',h1,h1',h2,h3,h4,h5,h6,h7⟩
 ·rw [hg] at h0; cases h0
 ·rw [hg] at h1
  cases h1;rw [hc] at h2;cases h2;have hnS:¬S g:=λh=>by have:=h7.2 h; cases this
  have hle:l.length*e.size<=c.size:=by rw [h5]; exact A7 _ h3
  have hcl:c.toList.length=c.size:=by simp
  have hs:∀b,S b->S b/\(w.setRow g (c.toList.take lo++cs++c.toList.drop (lo+cs.length)).toArray).heap[b]?=w.heap[b]?:=λb hb=>⟨hb,Aq w g b _ (λe=>hnS (e ▸ hb))⟩
  obtain ⟨f1,f2,f3,f4⟩:=Kw (C:=c.toList) (X:=cs) (off:=lo) (n:=cs.length) (by omega) rfl;refine hI.write hm hg hnS hc (by simpa using f1) (by rw [h1']; simp) (λh=>by obtain ⟨k,x,s,e⟩:=h; cases e) rfl ⟨λh=>(by obtain ⟨k,x,s,e⟩:=h; cases e),λh=>(by obtain ⟨k,x,s,e⟩:=h; cases e)⟩ ⟨rfl,Al _,λ_=>⟨hl,rfl⟩⟩ ?_;refine .inr ⟨g,_,t,hg,h1',setRow_heap w g c _ t (0,0) hc,by omega,h4,?_,?_,h7⟩
  ·rw [<-h5,Bi,f1]; simp
  ·rw [Bh,hl]; exact hr _ hs
theorem D5 (b:Addr):(Instr.sureAddr (.pointer (some b))).run P w=.ok b w:=rfl
theorem Mq (hT:D3 P T) {rd:Nat->Option Blk} {t:TypeId} {sv:SV} {nx:Nat} {r:ARes} {v:Value} (h:VB T rd t sv nx=some r) (hacc:∀i∈r.acc,me i=rd i)
  (hI:Inv C tm me pl S a w) (hG:G S w me pl sv v):∃u,(Instr.loadAt t v).run P w=.ok u w/\r.wr=[]/\G S w me pl r.sv u:=by
 unfold VB at h;split at h
 ·cases h
 rename_i kt hkt;cases sv<;>simp only [reduceCtorEq] at h
 case ptr b p k=>
  split at h<;>try (cases h; done)
  rename_i kb y sh hsame hrd;split at h<;>try (cases h; done)
  rename_i k' z hget;split at h<;>try (cases h; done)
  rename_i hsame2;simp only [Ad] at h;subst h;have e1:=D0 hsame;have e2:=D0 hsame2;subst e1 e2;have hm:me b=some (.var kb y sh):=by rw [hacc b (by simp)]; exact hrd
  obtain ⟨kb',x,sh',o,g,hm',hok,hoff,hg,rfl⟩:=hG;rw [hm] at hm';cases hm';obtain ⟨_,g',c,ty,c1,c2,c3,hg',hc,hsz,hseg,hl1,hr2,_⟩:=hI.atPath hm hok hoff hget;rw [hg] at hg';cases hg';refine ⟨_,?_,rfl,⟨c2,hr2,rfl⟩⟩;simp only [Instr.loadAt,As,D5,Av];exact G2 hT hkt hc (by subst hl1; exact NY hseg) hr2
 case pval k z=>
  split at h<;>try (cases h; done)
  rename_i hsame;simp only [ok1,Ad] at h;subst h;have e1:=D0 hsame;subst e1;obtain ⟨g,off,c,ty,fr,rfl,hS,hc,hr⟩:=hG;refine ⟨_,?_,rfl,⟨_,hr,rfl⟩⟩;simp only [Instr.loadAt,As,D5,Av];exact G2 hT hkt hc (G1 rfl) hr
 case rptr j ver i p k=>
  split at h<;>try (cases h; done)
  rename_i e l ver' sh hsame hrd;split at h<;>try (cases h; done)
  rename_i k' z hver hget;split at h<;>try (cases h; done)
  rename_i hsame2;simp only [Ad] at h;subst h;have e1:=D0 hsame;have e2:=D0 hsame2;subst e1 e2;have hm:me j=some (.row e l ver' sh):=by rw [hacc j (by simp)]; exact hrd
  obtain ⟨e',l',ver2,sh',hm',hle,hh⟩:=hG;rw [hm] at hm';cases hm';obtain ⟨hi,hok,o,g,hoff,hg,rfl⟩:=hh (Aa hver).symm;obtain ⟨_,g',c,ty,c1,c2,c3,hg',hc,hsz,_,_,_,hseg,hl1,hr2,_⟩:=hI.atRow hm hi hok hoff hget;rw [hg] at hg';cases hg';refine ⟨_,?_,rfl,⟨c2,hr2,rfl⟩⟩;simp only [Instr.loadAt,As,D5,Av];refine G2 hT hkt hc (λq u hq=>?_) hr2;have:=NY (c:=c) (off:=0) (n:=l.length*e.size) (c1:=c1) (c2:=c2) (c3:=c3) (by simpa using hseg) q u hq;rw [<-this,<-hl1]; congr 1; omega
 case pwin b p lo n=>
  split at h<;>try (cases h; done)
  rename_i kb y sh hrd;split at h<;>try (cases h; done)
  rename_i m e l hget;split at h<;>try (cases h; done)
  rename_i hsame;simp only [Ad] at h;subst h;have e1:=D0 hsame;subst e1;have hm:me b=some (.var kb y sh):=by rw [hacc b (by simp)]; exact hrd
  obtain ⟨kb',x,sh',o,m',e',g,hm',hok,hoff,hln,hg,rfl⟩:=hG;rw [hm] at hm';cases hm';obtain ⟨ek,g',c,ty,c1,c2,c3,hg',hc,hsz,hseg,hl1,hr2,_⟩:=hI.atPath hm hok hoff hget;rw [hg] at hg';cases hg';cases ek;obtain ⟨hlm,hrl⟩:=hr2;have hwin:=RdL.window (Rd.length e) hrl lo n;have hc2:=RdL.length (Rd.length e) hrl;have hfit:lo*e.size+n*e.size<=c2.length:=by rw [hc2,<-Ag]; exact A7 _ (by omega)
  have hrd2:Rd S w (.arr n e) (List.take n (List.drop lo l)) ((c2.drop (lo*e.size)).take (n*e.size)):=⟨by simp; omega,hwin⟩
  refine ⟨_,?_,rfl,⟨_,hrd2,rfl⟩⟩;simp only [Instr.loadAt,As,D5,Av];refine G2 hT hkt hc (G1 (n:=n*e.size) ?_) hrd2;exact (by subst hl1; exact Mi hseg (lo*e.size) (n*e.size) hfit)
theorem Lg {np:Nat} {rd:Nat->Option Blk} {sv:SV} {k:Kd} {y:k.T} {wr:List (Nat×Blk)} {acc:List Nat} (h:Ix np rd sv k=some (y,wr,acc)):
  (wr=[]/\acc=[])\/∃i b b',wr=[(i,b)]/\acc=[i]/\rd i=some b'/\Nat.blt i np=false:=by
 cases sv<;>simp only [Ix] at h<;>try (cases h; done)
 case nil=>
  cases k<;>simp only [reduceCtorEq] at h
  simp only [Ad,Be] at h;obtain ⟨_,rfl,rfl⟩:=h;exact .inl ⟨rfl,rfl⟩
 case val=>
  split at h<;>try (cases h; done)
  simp only [Ad,Be] at h;obtain ⟨_,rfl,rfl⟩:=h;exact .inl ⟨rfl,rfl⟩
 case own=>
  split at h<;>try (cases h; done)
  split at h<;>try (cases h; done)
  simp only [Ad,Be] at h;obtain ⟨_,rfl,rfl⟩:=h;exact .inr ⟨_,_,_,rfl,rfl,by assumption,by assumption⟩
 case win=>
  split at h<;>try (cases h; done)
  split at h<;>try (cases h; done)
  simp only [Ad,Be] at h;obtain ⟨_,rfl,rfl⟩:=h;exact .inr ⟨_,_,_,rfl,rfl,by assumption,by assumption⟩
 case asl=>
  split at h<;>try (cases h; done)
  split at h<;>try (cases h; done)
  split at h<;>try (cases h; done)
  simp only [Ad,Be] at h;obtain ⟨_,rfl,rfl⟩:=h;exact .inr ⟨_,_,_,rfl,rfl,by assumption,by assumption⟩
 case fn=>
  split at h<;>try (cases h; done)
  simp only [Ad,Be] at h;obtain ⟨_,rfl,rfl⟩:=h;exact .inl ⟨rfl,rfl⟩
 case clo=>
  split at h<;>try (cases h; done)
  split at h<;>try (cases h; done)
  split at h<;>try (cases h; done)
  simp only [Ad,Be] at h;obtain ⟨_,rfl,rfl⟩:=h;exact .inr ⟨_,_,_,rfl,rfl,by assumption,by assumption⟩
theorem Im (hT:D3 P T) {t:TypeId} {k:Kd} {y:k.T} {v:Value} (hkt:tkd T t=some k) {g off:Nat} {c:Array Value} {ty:TypeId} (hc:w.heap[g]?=some (.cells c ty (0,0)))
  {cs:List Value} (hr:Rd S w k y cs) (hv:v=k.mkV cs) (hfit:off+k.size<=c.size):
  (Instr.storeAt t (.pointer (some ⟨g,off,none⟩)) v).run P w=.ok () (w.setRow g (c.toList.take off++cs++c.toList.drop (off+cs.length)).toArray):=by
 subst hv;simp only [Instr.storeAt,As,D5,Av];exact Xo hT hkt hc hr hfit
theorem Za (hT:D3 P T) {np:Nat} (hnp:np=C.pp.length) {rd:Nat->Option Blk} {t:TypeId} {x v:SV} {nx:Nat} {r:ARes} {vx vv:Value} (h:UZ T np rd t x v nx=some r) (hacc:∀i∈r.acc,me i=rd i)
  (hI:Inv C tm me pl S a w) (hGx:G S w me pl x vx) (hGv:G S w me pl v vv):∃w',(Instr.storeAt t vx vv).run P w=.ok () w'/\F6 C tm me r.sv r.wr a undef w':=by
 unfold UZ at h;split at h
 ·cases h
 rename_i kt hkt;split at h
 ·cases h
 rename_i y wr acc hval;cases x<;>simp only [reduceCtorEq] at h
 case ptr b p k=>
  obtain ⟨kb',x0,sh0,o,g,hm0,hok,hoff,hg,rfl⟩:=hGx;split at h
  ·rename_i kb z hsame hrd
   split at h<;>try (cases h; done)
   rename_i z' hset;simp only [Ad] at h;subst h;have e1:=D0 hsame;subst e1;have hm:me b=some (.var kb z false):=by rw [hacc b (by simp)]; exact hrd
   rcases Lg hval with ⟨rfl,_⟩ | ⟨_,_,_,_,ha,_⟩
   ·obtain ⟨S',h1,h2,cs,h3,rfl⟩:=Ez hnp hval (by simp) hI hGv
    rw [Dn] at h1 h2;rw [hm] at hm0;cases hm0;obtain ⟨g',c,ty,hg',hc,hfit,hinv⟩:=h1.storePath hm hok hoff hset h3;rw [hg] at hg';cases hg';exact ⟨_,Im hT hkt hc h3 rfl hfit,pl,S',by rw [Do,Dn]; exact ⟨hinv,trivial⟩⟩
   ·cases ha
  ·rename_i kb z i hsame hrd
   split at h<;>try (cases h; done)
   rename_i z' hib hset;simp only [Ad] at h;subst h;have e1:=D0 hsame;subst e1;have hm:me b=some (.var kb z false):=by rw [hacc b (by simp)]; exact hrd
   obtain ⟨S',h1,h2,cs,h3,rfl⟩:=Ez hnp hval (λq hq=>hacc q (by simp at hq ⊢; exact .inr hq)) hI hGv;have hm1:laid wr me b=some (.var kb z false):=by
    rcases Lg hval with ⟨_,ha⟩ | ⟨i',bb,bb',rfl,ha,hri,_⟩
    ·cases ha
    ·cases ha
     have hne:b≠i:=λe=>by subst e; simp at hib
     rw [Do,Dm _ _ hne,Dn]; exact hm
   rw [hm] at hm0;cases hm0;obtain ⟨g',c,ty,hg',hc,hfit,hinv⟩:=h1.storePath hm1 hok hoff hset h3;rw [hg] at hg';cases hg';exact ⟨_,Im hT hkt hc h3 rfl hfit,pl,S',by rw [Do]; exact ⟨hinv,trivial⟩⟩
  ·cases h
 case rptr j ver i p k=>
  split at h<;>try (cases h; done)
  rename_i e l ver' hsame hrd;split at h<;>try (cases h; done)
  rename_i z' hver hset;simp only [Ad] at h;subst h;have e1:=D0 hsame;subst e1;have hm:me j=some (.row e l ver' false):=by rw [hacc j (by simp)]; exact hrd
  rcases Lg hval with ⟨rfl,_⟩ | ⟨_,_,_,_,ha,_⟩
  ·obtain ⟨S',h1,h2,cs,h3,rfl⟩:=Ez hnp hval (by simp) hI hGv
   rw [Dn] at h1 h2;obtain ⟨e',l',ver2,sh',hm',hle,hh⟩:=hGx;rw [hm] at hm';cases hm';obtain ⟨hi,hok,o,g,hoff,hg,rfl⟩:=hh (Aa hver).symm;obtain ⟨k',z0,hget,has⟩:=Ho hset;have ek:=Sg has;simp only at ek;subst ek;obtain ⟨_,g',c,ty,c1,c2,c3,hg',hc,hsz,_,_,_,hseg,hl1,hr2,hsh,hs⟩:=h1.atRow hm hi hok hoff hget;rw [hg] at hg';cases hg';obtain ⟨z2,hz2,hh2⟩:=hs y;rw [hset] at hz2;cases hz2;have hlc:cs.length=c2.length:=by rw [Rd.length _ y cs h3,Rd.length _ z0 c2 hr2]
   have hlen:l.length*e.size=c1.length+c2.length+c3.length:=by
    have:=Ac List.length hseg;simp at this;have hcl:c.toList.length=c.size:=by simp
    omega
   have hfit:i*e.size+o+kt.size<=c.size:=by rw [<-Rd.length kt y cs h3]; omega
   refine ⟨_,Im hT hkt hc h3 rfl hfit,pl,S',?_⟩;rw [Do,Dn];refine ⟨h1.writeRow hm hg hc (cs:=cs) (lo:=i*e.size+o) (by omega) (by simp) (λw' hw'=>?_),trivial⟩;have hcl:c.toList.length=c.size:=by simp
   have hsp:=Rh (C:=c.toList) (off:=0) (n:=l.length*e.size) (c1:=c1) (c2:=c2) (c3:=c3) (c2':=cs) (by simpa using hseg) (by omega) hlc;simp only [Bf,List.take_zero,A2] at hsp;rw [<-hl1,hsp,Bd (by simp; omega),A8 (by simp; omega)];exact hh2 S' w' cs hw' (Rd.mono hw' _ y cs h3)
  ·cases ha
theorem Ey {rd:Nat->Option Blk} {nx np:Nat} (h:Kp rd nx np=true):rd nx=none/\np<=nx:=by
 unfold Kp at h;split at h
 ·rename_i hr; exact ⟨hr,Bj h⟩
 ·cases h
theorem Lk (t:TypeId) (v:Value):(newVar t v).run P w=.ok ⟨w.heap.size,0,none⟩ (w.alloc (.cells v.cells t)):=by
 simp [newVar,newRow]
theorem Qc {S:Nat->Prop} {me2:Nat->Option Blk} {pl2:Nat->Plc} {k:Kd} {x:k.T} {cs:List Value} (hr:Rd S w k x cs) (hS:∀b,S b->b<w.heap.size) (t:TypeId):
  BlkAt S (w.alloc (.cells cs.toArray t)) me2 pl2 (.var k x false) ⟨some w.heap.size,0,0⟩:=by
 refine ⟨w.heap.size,cs.toArray,t,rfl,Bk w _,by have:=Rd.length k x cs hr; simp; omega,?_,by simp; intro h; exact absurd (hS _ h) (by omega)⟩;have e:(List.take k.size (List.drop 0 cs.toArray.toList))=cs:=by
  simp;rw [<-Rd.length k x cs hr,Bl]
 show Rd S _ k x (List.take k.size (List.drop 0 cs.toArray.toList));rw [e];exact Rd.mono (λb hb=>⟨hb,heap_alloc_old w _ b (hS b hb)⟩) k x cs hr
theorem Zg (hT:D3 P T) {np:Nat} (hnp:np=C.pp.length) {rd:Nat->Option Blk} {t:TypeId} {nx:Nat} {r:ARes} (h:VF T np rd t nx=some r) (hacc:∀i∈r.acc,me i=rd i)
  (hI:Inv C tm me pl S a w):∃u w',(Instr.alloc t true (.tuple #[])).run P w=.ok u w'/\F6 C tm me r.sv r.wr a u w':=by
 unfold VF at h;split at h<;>try (cases h; done)
 rename_i k hkt hfr;simp only [Ad] at h;subst h;obtain ⟨hfr1,hfr2⟩:=Ey hfr;obtain ⟨z,hz,hzc⟩:=Fy hT w hkt;refine ⟨.pointer (some ⟨w.heap.size,0,none⟩),w.alloc (.cells k.zcells.toArray t),by simp [Instr.alloc,hz,Lk,hzc],?_⟩;have hb:=λme2 pl2=>Qc (me2:=me2) (pl2:=pl2) (S:=S) (w:=w) (Rd.zero k) (λb hb=>(hI.sfr b hb).1) t
 have hmn:me nx=none:=by rw [hacc nx (by simp)]; exact hfr1
 refine ⟨_,S,by rw [Do,Dn]; exact hI.alloc hmn (by omega) (hb _ _),?_⟩;rw [Do,Dn];exact ⟨k,_,false,0,w.heap.size,Dr _ _ _,trivial,rfl,by simp,by simp⟩
theorem MF (hT:D3 P T) {np:Nat} (hnp:np=C.pp.length) {rd:Nat->Option Blk} {t:TypeId} {sv:SV} {v:Value} {nx:Nat} {r:ARes} (h:aBox T np rd t sv nx=some r) (hacc:∀i∈r.acc,me i=rd i)
  (hI:Inv C tm me pl S a w) (hG:G S w me pl sv v):∃u w',(Instr.box t v).run P w=.ok u w'/\F6 C tm me r.sv r.wr a u w':=by
 unfold aBox at h;split at h<;>try (cases h; done)
 rename_i k hkt hfr;split at h<;>try (cases h; done)
 rename_i y wr acc hval;simp only [Ad] at h;subst h;obtain ⟨hfr1,hfr2⟩:=Ey hfr;obtain ⟨S',h1,h2,cs,h3,rfl⟩:=Ez hnp hval (λq hq=>hacc q (by simp; exact .inr hq)) hI hG;have hmn:me nx=none:=by rw [hacc nx (by simp)]; exact hfr1
 have hmn':laid wr me nx=none:=by
  rcases Lg hval with ⟨rfl,_⟩ | ⟨i,b,b',rfl,_,hri,_⟩
  ·rw [Dn]; exact hmn
  ·have:nx≠i:=λe=>by subst e; rw [hfr1] at hri; cases hri
   rw [Do,Dm _ _ this,Dn]; exact hmn
 refine ⟨.pointer (some ⟨w.heap.size,0,none⟩),w.alloc (.cells cs.toArray t),by simp [Instr.box,Lk,h3.cells],?_⟩;have hb:=λme2 pl2=>Qc (me2:=me2) (pl2:=pl2) (S:=S') (w:=w) h3 (λb hb=>(h1.sfr b hb).1) t
 refine ⟨_,S',by rw [Do]; exact h1.alloc hmn' (by omega) (hb _ _),?_⟩;rw [Do];exact ⟨k,_,false,0,w.heap.size,Dr _ _ _,trivial,rfl,by simp,by simp⟩
theorem LQ {fs:List Field} {k:Kd}:∀{off:Nat} {j:Nat} {o:Nat} {kf:Kd},D4 T fs off k=true->k.offF j=some (o,kf)->
  ∃f,fs[j]?=some f/\f.offset=off+o/\tkd T f.type=some kf/\kf.size≠0:=by
 induction fs generalizing k with
 | nil=>intro off j o kf h ho; cases k<;>simp [D4] at h; simp [Kd.offF] at ho
 | cons f fs ih=>
  intro off j o kf h ho;cases k<;>simp only [D4] at h<;>try (cases h; done)
  rename_i a b;simp only [Ab] at h;obtain ⟨⟨⟨h1,h2⟩,h3⟩,h4⟩:=h;cases j with
  | zero=>
   simp only [Kd.offF,Ad,Be] at ho;obtain ⟨rfl,rfl⟩:=ho;exact ⟨f,rfl,by rw [Aa h1]; rfl,Ea h2,λe=>by rw [e] at h3; cases h3⟩
  | succ j=>
   simp only [Kd.offF] at ho;split at ho<;>try (cases ho; done)
   rename_i o' k' ho';simp only [Ad,Be] at ho;obtain ⟨rfl,rfl⟩:=ho;obtain ⟨f',e1,e2,e3,e4⟩:=ih h4 ho';exact ⟨f',by simpa using e1,by omega,e3,e4⟩
theorem P2 (hT:D3 P T) {t:TypeId} {k:Kd} {fs:Array Field} (hk:tkd T t=some k) (hd:E0 T t=some (.struct fs)) {j o:Nat} {kf:Kd} (ho:k.offF j=some (o,kf)):
  ∃f,fs[j]?=some f/\f.offset=o/\tkd T f.type=some kf/\kf.size≠0:=by
 have:=I0 hT hk hd;simp only [Fk] at this;obtain ⟨f,e1,e2,e3,e4⟩:=LQ this ho;exact ⟨f,by simpa using e1,by omega,e3,e4⟩
theorem Jx (hT:D3 P T) {t:TypeId} {k:Kd} {fs:Array Field} (hk:tkd T t=some k) (hd:E0 T t=some (.struct fs)) {j o:Nat} {kf:Kd} (ho:k.offF j=some (o,kf)) (g off:Nat):
  (Instr.fieldAt t (.pointer (some ⟨g,off,none⟩)) j).run P w=.ok (.pointer (some ⟨g,off+o,none⟩)) w:=by
 obtain ⟨f,e1,e2,e3,e4⟩:=P2 hT hk hd ho;have hz:(sizeOf f.type).run P w=.ok kf.size w:=D1 hT w e3;simp [Instr.fieldAt,Au (Dq hT hd),e1,D5,Instr.fieldAt,fieldPlace,hz,e4,e2,add_eq]
theorem Ip {k:Kd} {p:List Step} {o:Nat} {k':Kd} {s:Step} {o':Nat} {k'':Kd} (h:k.offP p=some (o,k')) (h':k'.off1 s=some (o',k'')):k.offP (p++[s])=some (o+o',k''):=by
 induction p generalizing k o with
 | nil=>simp only [Kd.offP,Ad,Be] at h; obtain ⟨rfl,rfl⟩:=h; simp [Kd.offP,h']
 | cons s' p ih=>
  simp only [Kd.offP,A3] at h ⊢;cases h1:k.off1 s' with
  | none=>simp [h1] at h
  | some q=>
   obtain ⟨o1,k1⟩:=q;simp only [h1] at h ⊢;cases h2:k1.offP p with
   | none=>simp [h2] at h
   | some q=>
    obtain ⟨o2,k2⟩:=q;simp only [h2,Ad,Be] at h;obtain ⟨rfl,rfl⟩:=h;rw [ih h2];simp; omega
theorem Jr {k:Kd} {p:List Step} {o:Nat} {k':Kd} {s:Step} (h:k.offP p=some (o,k')) (hk:k.okP p) (h':k'.ok1 s):k.okP (p++[s]):=by
 induction p generalizing k o with
 | nil=>
  simp only [Kd.offP,Ad,Be] at h; obtain ⟨rfl,rfl⟩:=h;refine ⟨h',?_⟩;cases k.off1 s<;>trivial
 | cons s' p ih=>
  simp only [Kd.offP] at h;split at h<;>try (cases h; done)
  rename_i o1 k1 h1;split at h<;>try (cases h; done)
  rename_i o2 k2 h2;simp only [Ad,Be] at h;obtain ⟨rfl,rfl⟩:=h;have:=hk.2;simp only [h1] at this;exact ⟨hk.1,by simp only [h1]; exact ih h2 this⟩
theorem Vm {k:Kd} {j:Nat}:k.off1 (.fld j)=k.offF j:=by cases k<;>rfl
theorem BH {k:Kd} {j:Nat}:k.ok1 (.fld j):=by cases k<;>trivial
theorem Rw {rd:Nat->Option Blk} {j ver:Nat} (h:live rd j ver=true):∃e l sh,rd j=some (.row e l ver sh):=by
 unfold live at h;split at h
 ·rename_i e l ver' sh hr
  have:=Aa h;subst this;exact ⟨e,l,sh,hr⟩
 ·cases h
theorem Ok:∀{l m:List Kd},Mn l m=true->l=m
 | [],[],_=>rfl
 | [],_::_,h=>by simp [Mn] at h
 | _::_,[],h=>by simp [Mn] at h
 | a::l,b::m,h=>by
  simp only [Mn,Ab] at h;rw [Kd.same_eq h.1,Ok h.2]
theorem Lh:∀(l m:List Kd),szs (l++m)=szs l+szs m
 | [],m=>by simp [szs]
 | k::l,m=>by simp only [A3,szs,Lh l m]; omega
theorem Ir:∀(k:Kd),k.size=szs k.flat/\k.zcells=(k.flat.map Kd.zcells).flatten
 | .unit=>⟨rfl,rfl⟩
 | .pair a b=>by
  obtain ⟨h1,h2⟩:=Ir a;obtain ⟨h3,h4⟩:=Ir b;exact ⟨by simp only [Kd.size,Kd.flat,Lh,h1,h3],by simp only [Kd.zcells,Kd.flat,Bm,List.flatten_append,h2,h4]⟩
 | .int _=>⟨rfl,by simp [Kd.flat]⟩
 | .bool=>⟨rfl,by simp [Kd.flat]⟩
 | .str=>⟨rfl,by simp [Kd.flat]⟩
 | .arr _ _=>⟨by simp [Kd.flat,szs],by simp [Kd.flat]⟩
 | .sl _=>⟨rfl,by simp [Kd.flat]⟩
 | .mp=>⟨rfl,by simp [Kd.flat]⟩
 | .fn=>⟨rfl,by simp [Kd.flat]⟩
theorem R4:∀{k:Kd} {j o:Nat} {kf:Kd},k.offF j=some (o,kf)->∃pre post,k.flat=pre++kf.flat++post/\k.flatF j=some (pre.length,kf)/\o=szs pre
 | .pair a b,0,o,kf,h=>by
  simp only [Kd.offF,Ad,Be] at h;obtain ⟨rfl,rfl⟩:=h;exact ⟨[],b.flat,by simp [Kd.flat],rfl,rfl⟩
 | .pair a b,j+1,o,kf,h=>by
  simp only [Kd.offF] at h;split at h<;>try (cases h; done)
  rename_i o' k' ho;simp only [Ad,Be] at h;obtain ⟨rfl,rfl⟩:=h;obtain ⟨pre,post,h1,h2,h3⟩:=R4 ho;exact ⟨a.flat++pre,post,by simp [Kd.flat,h1],by simp [Kd.flatF,h2],by rw [Lh,<-(Ir a).1,h3]⟩
 | .int _,_,_,_,h=>by simp [Kd.offF] at h
 | .bool,_,_,_,h=>by simp [Kd.offF] at h
 | .str,_,_,_,h=>by simp [Kd.offF] at h
 | .unit,_,_,_,h=>by simp [Kd.offF] at h
 | .arr _ _,_,_,_,h=>by simp [Kd.offF] at h
 | .sl _,_,_,_,h=>by simp [Kd.offF] at h
 | .mp,_,_,_,h=>by simp [Kd.offF] at h
 | .fn,_,_,_,h=>by simp [Kd.offF] at h
theorem Qu (hT:D3 P T) {rd:Nat->Option Blk} {t:TypeId} {sv:SV} {j:Nat} {nx:Nat} {r:ARes} {v:Value} (h:O3 T rd t sv j nx=some r) (hacc:∀i∈r.acc,me i=rd i)
  (hG:G S w me pl sv v):∃u,(Instr.fieldAt t v j).run P w=.ok u w/\r.wr=[]/\G S w me pl r.sv u:=by
 unfold O3 at h;split at h<;>try (cases h; done)
 rename_i kt fs hkt hd;split at h<;>try (cases h; done)
 ·rename_i o1 kf b p k ho
  split at h<;>try (cases h; done)
  rename_i hsame;simp only [ok1,Ad] at h;subst h;have e1:=D0 hsame;subst e1;obtain ⟨kb,x,sh,o,g,hm,hok,hoff,hg,rfl⟩:=hG;refine ⟨_,Jx hT hkt hd ho _ _,rfl,?_⟩;exact ⟨kb,x,sh,o+o1,g,hm,Jr hoff hok BH,Ip hoff (by rw [Vm]; exact ho),hg,by rw [Bn]⟩
 ·rename_i o1 kf b ver i p k ho
  split at h<;>try (cases h; done)
  rename_i hsame hlive;simp only [Ad] at h;subst h;have e1:=D0 hsame;subst e1;obtain ⟨e,l,sh,hrd⟩:=Rw hlive;have hm:me b=some (.row e l ver sh):=by rw [hacc b (by simp)]; exact hrd
  obtain ⟨e',l',ver',sh',hm',hle,hh⟩:=hG;rw [hm] at hm';cases hm';obtain ⟨hi,hok,o,g,hoff,hg,rfl⟩:=hh rfl;exact ⟨_,Jx hT hkt hd ho _ _,rfl,e,l,ver,sh,hm,hle,λ_=>⟨hi,Jr hoff hok BH,o+o1,g,Ip hoff (by rw [Vm]; exact ho),hg,by rw [Bn]⟩⟩
 ·rename_i q k z ho
  split at h<;>try (cases h; done)
  rename_i k' y hsame hget;simp only [ok1,Ad] at h;subst h;have e1:=D0 hsame;subst e1;obtain ⟨g,off,c,ty,fr,rfl,hS,hc,hr⟩:=hG;obtain ⟨o,hoff,c1,c2,c3,e,hl,hr2,_⟩:=zdi _ z _ j k' y hr hget;refine ⟨_,Jx hT hkt hd hoff _ _,rfl,g,off+o,c,ty,fr,rfl,hS,hc,?_⟩
  ·have h2:=Rd.length _ y _ hr2
   have:=Mi (c:=c.toList) (off:=off) (n:=Kd.size _) e 0 k'.size (by omega);rw [hl,Ax] at this;rw [this,Bo,A8 (by omega)];exact hr2
 ·rename_i q b i k ho
  split at h<;>try (cases h; done)
  rename_i d kf hsame hfl;simp only [ok1,Ad] at h;subst h;obtain ⟨o,kf2⟩:=q;obtain ⟨pre,post,h1,h2,h3⟩:=R4 ho;rw [h2] at hfl;cases hfl;obtain ⟨fs,cs,g,post2,hm,hg,hfs,rfl⟩:=hG;rw [<-D0 hsame,h1,Ah,Ah] at hfs;refine ⟨_,Jx hT hkt hd ho _ _,rfl,fs,cs,g,post++post2,hm,hg,?_,?_⟩
  ·rw [<-A9,hfs,Bc]
  ·simp only [moff,List.take_add,hfs,Bp,Lh,h3]
theorem HW (hT:D3 P T) {S:Nat->Prop} {t:TypeId} {k:Kd} {x:k.T} {cs:Array Value} {o:Nat} {c1 c2 c3:List Value} (hk:tkd T t=some k) (hcs:cs.toList=c1++c2++c3) (ho:c1.length=o) (hr:Rd S w k x c2):
  (part t cs o).run P w=.ok (k.mkV c2) w:=by
 have hl:=Rd.length k x c2 hr;unfold part;simp only [As,Jm hT w hk,Av]
 by_cases ha:k.agg=true
 ·have e:cs.extract o (o+k.size)=c2.toArray:=by
   apply Bq;simp only [Array.toList_extract,hcs,Bh,List.extract_eq_take_drop];rw [<-ho,Ah,Bc,Nat.add_sub_cancel_left,<-hl,Bp]
  simp [ha,D1 hT w hk,e,Kd.mkV]
 ·have h1:k.size=1:=by cases k<;>simp [Kd.agg] at ha<;>rfl
  rw [h1] at hl;obtain ⟨v,rfl⟩:=List.length_eq_one_iff.1 hl;have:cs[o]?=some v:=by
   have e:cs.toList[o]?=some v:=by rw [hcs,<-ho]; simp
   simpa using e
  simp [ha,this,Kd.mkV]
theorem Ze (hT:D3 P T) {t:TypeId} {sv:SV} {j:Nat} {nx:Nat} {r:ARes} {v:Value} (h:VD T t sv j nx=some r)
  (hG:G S w me pl sv v):∃u,(Instr.field t v j).run P w=.ok u w/\r.wr=[]/\G S w me pl r.sv u:=by
 unfold VD at h;split at h<;>try (cases h; done)
 rename_i kt fs k z hkt hd;split at h<;>try (cases h; done)
 rename_i k' y hsame hget;simp only [ok1,Ad] at h;subst h;have e1:=D0 hsame;subst e1;obtain ⟨cs,hr,rfl⟩:=hG;obtain ⟨o,hoff,c1,c2,c3,e,hl,hr2,_⟩:=zdi _ z _ j k' y hr hget;obtain ⟨f,f1,f2,f3,f4⟩:=P2 hT hkt hd hoff;have hagg:kt.agg=true:=by
  have:=I0 hT hkt hd;exact E4 this
 refine ⟨_,?_,rfl,c2,hr2,rfl⟩;have hp:=HW (w:=w) hT (cs:=cs.toArray) (o:=o) f3 (by simpa using e) hl hr2;simp [Instr.field,Au (Dq hT hd),f1,f2,Kd.mkV,hagg,asAgg,hp]
theorem Ik (hT:D3 P T) {t:TypeId} {e:Kd} {et:TypeId} (h:tkd T t=some (.sl e)) (h2:E0 T t=some (.slice et)):tkd T et=some e:=by
 have:=I0 hT h h2;exact Ea this
theorem Ra (hT:D3 P T) {t:TypeId} {e:Kd} {n m:Nat} {et:TypeId} (h:tkd T t=some (.arr m e)) (h2:E0 T t=some (.array n et)):m=n/\tkd T et=some e:=by
 have:=I0 hT h h2;simp only [Fk,Ab] at this;exact ⟨(Aa this.1).symm,Ea this.2⟩
theorem Gr {i:Int} {n:Int} (h:bnd i n=true):0<=i/\i<n:=by simpa [bnd] using h
theorem Io (hT:D3 P T) {t:TypeId} {e:Kd} {n m:Nat} {et:TypeId} (hk:tkd T t=some (.arr m e)) (hd:E0 T t=some (.array n et)) {ik:IntKind} {i:Int} (hi:bnd i n=true) (g off:Nat):
  (Instr.indexAt t (.pointer (some ⟨g,off,none⟩)) (.int ik i)).run P w=.ok (.pointer (some ⟨g,off+i.toNat*e.size,none⟩)) w:=by
 have h1:=(Ra hT hk hd).2;have hz:=D1 hT w h1;have hb:=Gr hi;have hu:=Dq hT hd;simp [Instr.indexAt,asIntOf,Au hu,D5,hb,hz,add_eq]
theorem Hi (hT:D3 P T) {t:TypeId} {e:Kd} {et:TypeId} (hk:tkd T t=some (.sl e)) (hd:E0 T t=some (.slice et)) {ik:IntKind} {i:Int} {n cap:Nat} (hi:bnd i n=true) (g off:Nat):
  (Instr.indexAt t (.slice (some ⟨g,off,none⟩) n cap) (.int ik i)).run P w=.ok (.pointer (some ⟨g,off+i.toNat*e.size,none⟩)) w:=by
 have h1:=Ik hT hk hd;have hz:=D1 hT w h1;have hb:=Gr hi;have hu:=Dq hT hd;simp [Instr.indexAt,asIntOf,Au hu,hb,hz,add_eq]
theorem RdL.seg {α:Type} {R:α->List Value->Prop} {sz:Nat} (hn:∀x cs,R x cs->cs.length=sz) {l:List α} {cs:List Value} (h:RdL R l cs) {i:Nat} (hi:i<l.length) (d:α):
  R (l.getD i d) ((cs.drop (i*sz)).take sz)/\i*sz+sz<=cs.length:=by
 obtain ⟨c1,c2,c3,e,hl,hr,_⟩:=RdL.nth hn i d h hi;subst e;have h2:=hn _ _ hr;refine ⟨?_,by simp; omega⟩;rw [<-hl,Ah,Bc,<-h2,Bp];exact hr
theorem Qt (hT:D3 P T) {rd:Nat->Option Blk} {t:TypeId} {sv si:SV} {nx:Nat} {r:ARes} {v vi:Value} (h:O2 T rd t sv si nx=some r) (hok:r.ok=true) (hacc:∀i∈r.acc,me i=rd i)
  (hI:Inv C tm me pl S a w) (hG:G S w me pl sv v) (hGi:G S w me pl si vi):∃u,(Instr.indexAt t v vi).run P w=.ok u w/\r.wr=[]/\G S w me pl r.sv u:=by
 unfold O2 at h;split at h<;>try (cases h; done)
 rename_i ik i;rw [VRd.int.1 hGi];split at h<;>try (cases h; done)
 ·rename_i kt n et b p k hkt hd
  split at h<;>try (cases h; done)
  rename_i m e hsame;simp only [Ad] at h;subst h;have e1:=D0 hsame;subst e1;obtain ⟨kb,x,sh,o,g,hm,hok',hoff,hg,rfl⟩:=hG;have hmn:=(Ra hT hkt hd).1;have hb:=Gr hok;refine ⟨_,Io hT hkt hd hok _ _,rfl,kb,x,sh,o+i.toNat*e.size,g,hm,Jr hoff hok' (by show i.toNat<m; omega),Ip hoff rfl,hg,by rw [Bn]⟩
 ·rename_i kt n et j ver q p k hkt hd
  split at h<;>try (cases h; done)
  rename_i m e _ _;have hlive:live rd j ver=true:=by assumption
  simp only [Ad] at h;subst h;have e1:=D0 (by assumption:kt.same (.arr m e)=true);subst e1;obtain ⟨e',l,sh,hrd⟩:=Rw hlive;have hm:me j=some (.row e' l ver sh):=by rw [hacc j (by simp)]; exact hrd
  obtain ⟨e'',l',ver',sh',hm',hle,hh⟩:=hG;rw [hm] at hm';cases hm';obtain ⟨hi,hok',o,g,hoff,hg,rfl⟩:=hh rfl;have hmn:=(Ra hT hkt hd).1;have hb:=Gr hok;exact ⟨_,Io hT hkt hd hok _ _,rfl,e',l,ver,sh,hm,hle,λ_=>⟨hi,Jr hoff hok' (by show i.toNat<m; omega),o+i.toNat*e.size,g,Ip hoff rfl,hg,by rw [Bn]⟩⟩
 ·rename_i kt n et k z hkt hd
  split at h<;>try (cases h; done)
  rename_i m e l hsame heq;simp only [Ad] at h;subst h;cases heq;have e1:=D0 hsame;subst e1;obtain ⟨g,off,c,ty,fr,rfl,hS,hc,hlm,hr⟩:=hG;have hmn:=(Ra hT hkt hd).1;have hb:=Gr hok;obtain ⟨h1,h2⟩:=RdL.seg (Rd.length e) hr (i:=i.toNat) (by omega) e.zero;have hlen:((c.toList.drop off).take (Kd.arr m e).size).length<=m*e.size:=by simp [Kd.size]; omega
  refine ⟨_,Io hT hkt hd hok _ _,rfl,g,_,c,ty,fr,rfl,hS,hc,?_⟩;rw [Ba,A9,Bb,A6 (by simp [Kd.size]; omega)] at h1;exact h1
 ·rename_i kt et k z hkt hd
  split at h<;>try (cases h; done)
  rename_i e l hsame heq;simp only [Ad] at h;subst h;cases heq;have e1:=D0 hsame;subst e1;have hb:=Gr hok;rcases VRd.sl.1 hG with ⟨rfl,hl⟩ | ⟨g,off,cap,c,ty,fr,rfl,hcap,hS,hc,hr⟩ | ⟨a0,rfl,hl⟩
  rotate_left 2
  ·subst hl; simp at hb; omega
  ·subst hl; simp at hb; omega
  ·obtain ⟨h1,h2⟩:=RdL.seg (Rd.length e) hr (i:=i.toNat) (by omega) e.zero
   have hlc:((c.toList.drop off).take (List.length l*e.size)).length<=List.length l*e.size:=by simp; omega
   refine ⟨_,Hi hT hkt hd hok _ _,rfl,g,_,c,ty,fr,rfl,hS,hc,?_⟩;rw [Ba,A9,Bb,A6 (by omega)] at h1;exact h1
 ·rename_i kt et j ver hkt hd
  split at h<;>try (cases h; done)
  rename_i e l ver' sh hrd;split at h<;>try (cases h; done)
  rename_i hver hsame;simp only [Ad] at h;subst h;have e1:=D0 hsame;subst e1;have hm:me j=some (.row e l ver' sh):=by rw [hacc j (by simp)]; exact hrd
  obtain ⟨e',l',ver2,sh',hm',hle,hh⟩:=hG;rw [hm] at hm';cases hm';have hb:=Gr hok;rcases hh (Aa hver).symm with ⟨hg,rfl⟩ | ⟨g,hg,rfl⟩
  ·rcases hI.mem j _ hm with ⟨_,hl,_⟩ | ⟨g,c,t,hg',_⟩
   ·subst hl; simp at hb; omega
   ·rw [hg] at hg'; cases hg'
  ·exact ⟨_,Hi hT hkt hd hok _ _,rfl,e,l,ver',sh,hm,hle,λ_=>⟨by omega,trivial,0,g,rfl,hg,by simp⟩⟩
 ·rename_i kt et j ver lo n hkt hd
  split at h<;>try (cases h; done)
  rename_i e l ver' sh hrd;split at h<;>try (cases h; done)
  rename_i hver hsame;simp only [Ad] at h;subst h;have e1:=D0 hsame;subst e1;have hm:me j=some (.row e l ver' sh):=by rw [hacc j (by simp)]; exact hrd
  obtain ⟨e',l',ver2,sh',hm',hle,hh⟩:=hG;rw [hm] at hm';cases hm';have hb:=Gr hok;obtain ⟨hln,hwin⟩:=hh (Aa hver).symm;rcases hwin with ⟨hg,rfl,hn0⟩ | ⟨g,o,cap,hg,rfl,hcap,ho⟩
  ·omega
  ·have ho':o=0+lo*e.size:=by rcases ho with h0 | h0; (exfalso; omega); exact h0
   subst ho';exact ⟨_,Hi hT hkt hd hok _ _,rfl,e,l,ver',sh,hm,hle,λ_=>⟨by omega,trivial,0,g,rfl,hg,by rw [Ag]; simp⟩⟩
 ·rename_i kt et b p lo n hkt hd
  split at h<;>try (cases h; done)
  rename_i kb y sh hrd;split at h<;>try (cases h; done)
  rename_i o' m e hoff';split at h<;>try (cases h; done)
  rename_i hsame;simp only [Ad] at h;subst h;have e1:=D0 hsame;subst e1;have hm:me b=some (.var kb y sh):=by rw [hacc b (by simp)]; exact hrd
  obtain ⟨kb',x,sh',o,m',e',hm',hok',hoff,hln,hgs,hwin⟩:=hG;rw [hm] at hm';cases hm';rw [hoff'] at hoff;cases hoff;have hb:=Gr hok;rcases hwin with ⟨hg,rfl,hn0⟩ | ⟨g,oo,cap,hg,rfl,hcap,ho⟩
  ·omega
  ·have ho':oo=(pl b).off+o'+lo*e.size:=by rcases ho with h0 | h0; (exfalso; omega); exact h0
   subst ho';refine ⟨_,Hi hT hkt hd hok _ _,rfl,kb,y,sh,o'+(lo+i.toNat)*e.size,g,hm,Jr hoff' hok' (by show lo+i.toNat<m; omega),Ip hoff' rfl,hg,by rw [Ag]; simp; omega⟩
theorem Zd (hT:D3 P T) {t:TypeId} {sv si:SV} {nx:Nat} {r:ARes} {v vi:Value} (h:VC T t sv si nx=some r) (hok:r.ok=true)
  (hG:G S w me pl sv v) (hGi:G S w me pl si vi):∃u,(Instr.index t v vi).run P w=.ok u w/\r.wr=[]/\G S w me pl r.sv u:=by
 unfold VC at h;split at h<;>try (cases h; done)
 rename_i ik i;rw [VRd.int.1 hGi];split at h<;>try (cases h; done)
 ·rename_i kt n et k z hkt hd
  split at h<;>try (cases h; done)
  rename_i m e l hsame heq;simp only [Ad] at h;subst h;cases heq;have e1:=D0 hsame;subst e1;obtain ⟨hmn,het⟩:=Ra hT hkt hd;have hb:=Gr hok;obtain ⟨cs,⟨hlm,hr⟩,rfl⟩:=hG;obtain ⟨c1,c2,c3,ee,hl,hr2,_⟩:=RdL.nth (Rd.length e) i.toNat e.zero hr (by omega);refine ⟨_,?_,rfl,c2,hr2,rfl⟩;have hp:=HW (w:=w) hT (cs:=cs.toArray) het (by simpa using ee) hl hr2;have hag:(Kd.arr m e).mkV cs=.agg cs.toArray:=rfl;rw [hag];simp [Instr.index,asIntOf,Au (Dq hT hd),hb,D1 hT w het];exact hp
 ·rename_i s hkt hd
  simp only [Ad] at h;subst h;have hb:=Gr hok;rw [VRd.str.1 hG];have hlt:i.toNat<s.size:=by omega
  refine ⟨.int .u8 ((s.data.toList.getD i.toNat 0).toNat:Int),?_,rfl,VRd.int.2 rfl⟩;have:s[i.toNat]?=some (s.data.toList.getD i.toNat 0):=by
   have h1:s[i.toNat]?=some s[i.toNat]:=by simp [hlt]
   rw [h1]
   congr 1
   have h2:i.toNat<s.data.toList.length:=by simpa using hlt
   rw [Br,Bs h2];rfl
  simp [Instr.index,asIntOf,Au (Dq hT hd),hb.1,this]
theorem ME (hT:D3 P T) {rd:Nat->Option Blk} {t ty:TypeId} {sv:SV} {nx:Nat} {r:ARes} {v:Value} (h:aLen T rd t sv nx=some r) (hacc:∀i∈r.acc,me i=rd i)
  (hI:Inv C tm me pl S a w) (hG:G S w me pl sv v):∃u,(Builtin.len_ #[t] ty #[v]).run P w=.ok u w/\r.wr=[]/\G S w me pl r.sv u:=by
 unfold aLen at h;split at h<;>try (cases h; done)
 ·rename_i s hd
  simp only [ok1,Ad] at h;subst h;rw [VRd.str.1 hG];exact ⟨_,by simp [Builtin.len_,Au (Dq hT hd)]; rfl,rfl,VRd.int.2 rfl⟩
 ·rename_i n et hd
  simp only [ok1,Ad] at h;subst h;exact ⟨_,by simp [Builtin.len_,Au (Dq hT hd)]; rfl,rfl,VRd.int.2 rfl⟩
 ·rename_i et hd
  simp only [ok1,Ad] at h;subst h;rw [show v=_ from hG];exact ⟨_,by simp [Builtin.len_,Au (Dq hT hd)]; rfl,rfl,VRd.int.2 rfl⟩
 ·rename_i et e l hd
  simp only [ok1,Ad] at h;subst h;rcases VRd.sl.1 hG with ⟨rfl,hl⟩ | ⟨g,off,cap,c,ty',fr,rfl,_⟩ | ⟨a0,rfl,hl⟩
  rotate_left 2
  ·subst hl
   exact ⟨_,by simp [Builtin.len_,Au (Dq hT hd)]; rfl,rfl,VRd.int.2 rfl⟩
  ·subst hl
   exact ⟨_,by simp [Builtin.len_,Au (Dq hT hd)]; rfl,rfl,VRd.int.2 rfl⟩
  ·exact ⟨_,by simp [Builtin.len_,Au (Dq hT hd)]; rfl,rfl,VRd.int.2 rfl⟩
 ·rename_i et j ver hd
  split at h<;>try (cases h; done)
  rename_i e l ver' sh hrd;split at h<;>try (cases h; done)
  rename_i hver;simp only [Ad] at h;subst h;have hm:me j=some (.row e l ver' sh):=by rw [hacc j (by simp)]; exact hrd
  obtain ⟨e',l',ver2,sh',hm',hle,hh⟩:=hG;rw [hm] at hm';cases hm';rcases hh (Aa hver).symm with ⟨hg,rfl⟩ | ⟨g,hg,rfl⟩
  ·rcases hI.mem j _ hm with ⟨_,hl,_⟩ | ⟨g,c,t,hg',_⟩
   ·subst hl
    exact ⟨_,by simp [Builtin.len_,Au (Dq hT hd)]; rfl,rfl,VRd.int.2 rfl⟩
   ·rw [hg] at hg'; cases hg'
  ·exact ⟨_,by simp [Builtin.len_,Au (Dq hT hd)]; rfl,rfl,VRd.int.2 rfl⟩
 ·rename_i et j ver lo n hd
  split at h<;>try (cases h; done)
  rename_i e l ver' sh hrd;split at h<;>try (cases h; done)
  rename_i hver;simp only [Ad] at h;subst h;have hm:me j=some (.row e l ver' sh):=by rw [hacc j (by simp)]; exact hrd
  obtain ⟨e',l',ver2,sh',hm',hle,hh⟩:=hG;rw [hm] at hm';cases hm';obtain ⟨hln,hwin⟩:=hh (Aa hver).symm;rcases hwin with ⟨hg,rfl,hn0⟩ | ⟨g,o,cap,hg,rfl,hcap,ho⟩
  ·subst hn0
   exact ⟨_,by simp [Builtin.len_,Au (Dq hT hd)]; rfl,rfl,VRd.int.2 rfl⟩
  ·exact ⟨_,by simp [Builtin.len_,Au (Dq hT hd)]; rfl,rfl,VRd.int.2 rfl⟩
 ·rename_i et b p lo n hd
  simp only [ok1,Ad] at h;subst h;obtain ⟨kb',x,sh',o,m',e',hm',hok',hoff,hln,hgs,hwin⟩:=hG;rcases hwin with ⟨hg,rfl,hn0⟩ | ⟨g,oo,cap,hg,rfl,hcap,ho⟩
  ·subst hn0
   exact ⟨_,by simp [Builtin.len_,Au (Dq hT hd)]; rfl,rfl,VRd.int.2 rfl⟩
  ·exact ⟨_,by simp [Builtin.len_,Au (Dq hT hd)]; rfl,rfl,VRd.int.2 rfl⟩
 ·rename_i kt et j hd
  split at h<;>try (cases h; done)
  rename_i kk kv m hrd;simp only [Ad] at h;subst h;have hm:me j=some (.map kk kv m):=by rw [hacc j (by simp)]; exact hrd
  obtain ⟨kk',kv',m',g,hm',hg,rfl⟩:=hG;rw [hm] at hm';cases hm';obtain ⟨g',es,t',hg',_,hes,_,hmg⟩:=hI.mem j _ hm;rw [hg] at hg';cases hg';have hl:=hmg.length;simp only [Bt] at hl;refine ⟨.int .i64 (es.size:Int),?_,rfl,?_⟩
  ·have hgo:(getObj g).run P w=.ok (.map es t') w:=by simp [getObj,Sem.run,hes]
   simp [Builtin.len_,Au (Dq hT hd),hgo];rfl
  ·exact VRd.int.2 (by rw [hl])
def OG (S:Nat->Prop) (w:World) (me:Nat->Option Blk) (pl:Nat->Plc):Option SV->Option Value->Prop
 | none,v=>v=none
 | some sv,v=>∃u,v=some u/\G S w me pl sv u
def OV (d:Int) (o:Option Value) (x:Int):Prop:=(o=none/\x=d)\/∃k,o=some (.int k x)
theorem Eb {d x:Int} {o:Option SV} {v:Option Value} (h:Kq d o=some x) (hG:OG S w me pl o v):OV d v x:=by
 unfold Kq at h;split at h
 ·cases h; exact .inl ⟨hG,rfl⟩
 ·cases h
  obtain ⟨u,rfl,hu⟩:=hG;rw [VRd.int.1 hu];exact .inr ⟨_,rfl⟩
 ·cases h
theorem Fq (k:IntKind) (i:Int) (y:Nat) (c:BoundsCode) (h0:0<=i) (h1:i<=y):(Instr.sliceBound (.int k i) y c).run P w=.ok i.toNat w:=by
 simp [Instr.sliceBound,asIntOf,h0,h1]
theorem In {b:Bool} {len cap:Nat} {lo hi mx:Option Value} {l h m:Int} (hl:OV 0 lo l) (hh:OV len hi h) (hm:(mx=none/\m=cap)\/((∃k,mx=some (.int k m))/\∃u,hi=some u))
  (h0:0<=l) (h1:l<=h) (h2:h<=m) (h3:m<=cap):(Instr.sliceBounds b len cap lo hi mx).run P w=.ok (l.toNat,h.toNat,m.toNat) w:=by
 have e0:0<=h:=by omega
 have e1:0<=m:=by omega
 have em:((m.toNat:Nat):Int)=m:=by omega
 rcases hm with ⟨rfl,rfl⟩ | ⟨⟨km,rfl⟩,u,hu⟩
 ·rcases hh with ⟨rfl,rfl⟩ | ⟨kh,rfl⟩
  ·rcases hl with ⟨rfl,rfl⟩ | ⟨kl,rfl⟩
   ·simp [Instr.sliceBounds]
   ·have:=Fq (P:=P) (w:=w) kl l len .sliceB h0 (by simpa using h1)
    simp [Instr.sliceBounds,this]
  ·have a1:=λc=>Fq (P:=P) (w:=w) kh h cap c e0 (by simpa using h2)
   rcases hl with ⟨rfl,rfl⟩ | ⟨kl,rfl⟩
   ·simp [Instr.sliceBounds,a1]
   ·have:=Fq (P:=P) (w:=w) kl l h.toNat .sliceB h0 (by omega)
    simp [Instr.sliceBounds,a1,this]
 ·rcases hh with ⟨rfl,rfl⟩ | ⟨kh,rfl⟩
  ·cases hu
  ·have a0:=λc=>Fq (P:=P) (w:=w) km m cap c e1 h3
   have a1:=λc=>Fq (P:=P) (w:=w) kh h m.toNat c e0 (by omega)
   rcases hl with ⟨rfl,rfl⟩ | ⟨kl,rfl⟩
   ·simp [Instr.sliceBounds,a0,a1]
   ·have:=Fq (P:=P) (w:=w) kl l h.toNat .slice3C h0 (by omega)
    simp [Instr.sliceBounds,a0,a1,this]
theorem Eo (hT:D3 P T) {t et:TypeId} {sz:Nat} (hd:E0 T t=some (.slice et)) (hz:(sizeOf et).run P w=.ok sz w) {a0:Option Addr} {len cap:Nat} {lo hi mx:Option Value} {l h m:Int} (hl:OV 0 lo l) (hh:OV len hi h)
  (hm:(mx=none/\m=cap)\/((∃k,mx=some (.int k m))/\∃u,hi=some u)) (h0:0<=l) (h1:l<=h) (h2:h<=m) (h3:m<=cap):
  (Instr.sliceAt t (.slice a0 len cap) lo hi mx).run P w=.ok (.slice (if m.toNat=l.toNat then a0 else a0.map (·.add (l.toNat*sz))) (h.toNat - l.toNat) (m.toNat - l.toNat)) w:=by
 have hu:=Dq hT hd;simp only [Instr.sliceAt,As,Au hu,Av,Instr.slice,In (P:=P) (w:=w) hl hh hm h0 h1 h2 h3,hz,A1]
theorem Rj (hT:D3 P T) {t et:TypeId} {sz n:Nat} (hd:E0 T t=some (.array n et)) (hz:(sizeOf et).run P w=.ok sz w) {a0:Addr} {lo hi:Option Value} {l h:Int} (hl:OV 0 lo l) (hh:OV n hi h)
  (h0:0<=l) (h1:l<=h) (h2:h<=n):
  (Instr.sliceAt t (.pointer (some a0)) lo hi none).run P w=.ok (.slice (some (if n=l.toNat then a0 else a0.add (l.toNat*sz))) (h.toNat - l.toNat) (n - l.toNat)) w:=by
 have hu:=Dq hT hd;have hb:=In (P:=P) (w:=w) (b:=false) (mx:=none) (m:=n) hl hh (.inl ⟨rfl,rfl⟩) h0 h1 h2 (Bu _);simp only [Bv] at hb;simp only [Instr.sliceAt,As,Au hu,Av,D5,hb,hz,A1]
theorem Sh {g o sz:Nat} {l h m:Int} (h0:0<=l) (h1:l<=h) (h2:h<=m):
  ∃o',(if m.toNat=l.toNat then (some ⟨g,o,none⟩:Option Addr) else (some (⟨g,o,none⟩:Addr)).map (·.add (l.toNat*sz)))=some ⟨g,o',none⟩/\((h - l).toNat=0\/o'=o+l.toNat*sz):=by
 split
 ·exact ⟨o,rfl,.inl (by omega)⟩
 ·exact ⟨o+l.toNat*sz,by simp [add_eq],.inr rfl⟩
theorem WinV.sub (hT:D3 P T) {t et:TypeId} {sz:Nat} (hd:E0 T t=some (.slice et)) (hz:(sizeOf et).run P w=.ok sz w) {g:Option Nat} {off lo0 n:Nat} {v:Value} (hw:WinV g off sz lo0 n v)
  {lo hi mx:Option Value} {l h m:Int} (hl:OV 0 lo l) (hh:OV n hi h) (hm:(mx=none/\m=h)\/((∃k,mx=some (.int k m))/\∃u,hi=some u)) (h0:0<=l) (h1:l<=h) (h2:h<=m) (h3:m<=n):
  ∃u,(Instr.sliceAt t v lo hi mx).run P w=.ok u w/\WinV g off sz (lo0+l.toNat) (h - l).toNat u:=by
 rcases hw with ⟨rfl,rfl,rfl⟩ | ⟨b,o,cap,rfl,rfl,hc,ho⟩
 ·have e1:l=0:=by omega
  have e2:h=0:=by omega
  have e3:m=0:=by omega
  subst e1 e2 e3;have hm':(mx=none/\(0:Int)=(0:Nat))\/((∃k,mx=some (.int k 0))/\∃u,hi=some u):=hm.imp (λx=>⟨x.1,rfl⟩) id;exact ⟨_,Eo hT hd hz hl hh hm' (by omega) (by omega) (by omega) (by omega),.inl ⟨rfl,by simp,rfl⟩⟩
 ·rcases hm with ⟨rfl,rfl⟩ | hm
  ·obtain ⟨o',ho',hoo⟩:=Sh (g:=b) (o:=o) (sz:=sz) (l:=l) (h:=m) (m:=cap) h0 h1 (by omega)
   refine ⟨_,Eo hT hd hz hl hh (.inl ⟨rfl,rfl⟩) h0 h1 (by omega) (by omega),?_⟩;rw [ho'];refine .inr ⟨b,o',_,rfl,by congr 1; omega,by simp; omega,?_⟩;rcases hoo with hoo | hoo
   ·exact .inl hoo
   ·rcases ho with ho | ho
    ·exact .inl (by omega)
    ·exact .inr (by rw [hoo,ho,Ag]; omega)
  ·obtain ⟨o',ho',hoo⟩:=Sh (g:=b) (o:=o) (sz:=sz) (l:=l) (h:=h) (m:=m) h0 h1 h2
   refine ⟨_,Eo hT hd hz hl hh (.inr hm) h0 h1 h2 (by omega),?_⟩;rw [ho'];refine .inr ⟨b,o',_,rfl,by congr 1; omega,by omega,?_⟩;rcases hoo with hoo | hoo
   ·exact .inl hoo
   ·rcases ho with ho | ho
    ·exact .inl (by omega)
    ·exact .inr (by rw [hoo,ho,Ag]; omega)
theorem Zb (hT:D3 P T) {rd:Nat->Option Blk} {t:TypeId} {sv:SV} {slo shi smx:Option SV} {nx:Nat} {r:ARes} {v:Value} {vlo vhi vmx:Option Value} (h:VA T rd t sv slo shi smx nx=some r) (hok:r.ok=true) (hacc:∀i∈r.acc,me i=rd i)
  (hI:Inv C tm me pl S a w) (hG:G S w me pl sv v) (hlo:OG S w me pl slo vlo) (hhi:OG S w me pl shi vhi) (hmx:OG S w me pl smx vmx):
  ∃u,(Instr.sliceAt t v vlo vhi vmx).run P w=.ok u w/\r.wr=[]/\G S w me pl r.sv u:=by
 have mxcase:∀{h m:Int},Kq h smx=some m->mxok shi smx=true->(vmx=none/\m=h)\/((∃k,vmx=some (.int k m))/\∃u,vhi=some u):=by
  intro h m h1 h2;cases smx with
  | none=>simp only [Kq,Ad] at h1; exact .inl ⟨hmx,h1.symm⟩
  | some s=>
   rcases Eb h1 hmx with ⟨h3,_⟩ | ⟨k,h3⟩
   ·obtain ⟨u,hu,_⟩:=hmx; rw [h3] at hu; cases hu
   ·refine .inr ⟨⟨k,h3⟩,?_⟩
    cases shi with
    | none=>simp [mxok] at h2
    | some s'=>obtain ⟨u,hu,_⟩:=hhi; exact ⟨u,hu⟩
 unfold VA at h;split at h<;>try (cases h; done)
 ·rename_i s hd
  split at h<;>try (cases h; done)
  rename_i l hh e1 e2;simp only [Ad] at h;subst h;have hc:=Bw hok;have hv:=VRd.str.1 hG;subst hv;simp only [OG] at hmx;subst hmx;have hb:=In (P:=P) (w:=w) (b:=false) (mx:=none) (m:=s.size) (Eb e1 hlo) (Eb e2 hhi) (.inl ⟨rfl,rfl⟩) hc.1 hc.2.1 hc.2.2 (Bu _);refine ⟨_,?_,rfl,VRd.str.2 rfl⟩;simp only [Instr.sliceAt,As,Au (Dq hT hd),Av,Instr.slice,Option.isSome_none,Bx,By,A1,hb]
 ·rename_i n et b p k hd
  split at h<;>try (cases h; done)
  rename_i kt hkt;split at h<;>try (cases h; done)
  rename_i l hh hsame e1 e2;simp only [Ad] at h;subst h;have es:=D0 hsame;subst es;have hc:=Bw hok;simp only [OG] at hmx;subst hmx;obtain ⟨kb,x,sh,o,g,hm,hok',hoff,hg,rfl⟩:=hG;have hdo:=I0 hT hkt hd;cases kt<;>simp [Fk] at hdo
  rename_i m e;obtain ⟨rfl,het⟩:=hdo;have hz:=D1 hT w (Ea het);obtain ⟨o',ho',hoo⟩:=Sh (g:=g) (o:=(pl b).off+o) (sz:=e.size) (l:=l) (h:=hh) (m:=n) hc.1 hc.2.1 hc.2.2;refine ⟨_,Rj hT hd hz (Eb e1 hlo) (Eb e2 hhi) hc.1 hc.2.1 hc.2.2,rfl,kb,x,sh,o,_,e,hm,hok',hoff,by omega,by simp [hg],?_⟩;refine .inr ⟨g,o',n - l.toNat,hg,?_,by omega,hoo⟩;have:(some (if n=l.toNat then (⟨g,(pl b).off+o,none⟩:Addr) else (⟨g,(pl b).off+o,none⟩:Addr).add (l.toNat*e.size)))=some ⟨g,o',none⟩:=by
   rw [<-ho'];simp only [Bv];split<;>rfl
  rw [this]
  congr 1; omega
 ·rename_i et e z hd
  split at h<;>try (cases h; done)
  rename_i l hh kt e1 e2 hkt;split at h<;>try (cases h; done)
  rename_i m e3 e4 hsame;simp only [Ad] at h;subst h;have es:=D0 hsame;subst es;have hc:=Bw hok;have hz:=D1 hT w (Ik hT hkt hd);have hll:(List.take (hh - l).toNat (List.drop l.toNat z)).length=(hh - l).toNat:=by simp; omega
  rcases VRd.sl.1 hG with ⟨rfl,hz0⟩ | ⟨g,off,cap,c,ty,fr,rfl,hcap,hS,hc2,hr⟩ | ⟨a0,rfl,hz0⟩
  rotate_left 2
  ·subst hz0
   have hc0:=hc;simp only [Bz] at hc0;have q1:l=0:=by omega
   have q2:hh=0:=by omega
   have q3:m=0:=by omega
   subst q1 q2 q3;refine ⟨_,Eo (w:=w) hT hd hz (a0:=some a0) (len:=0) (cap:=0) (Eb e1 hlo) (Eb e2 hhi) ((mxcase e3 e4).imp (λx=>⟨x.1,rfl⟩) id) (by omega) (by omega) (by omega) (by omega),rfl,VRd.sl.2 (.inr (.inr ⟨a0,?_,by simp⟩))⟩;simp
  ·subst hz0
   obtain ⟨u,h1,h2⟩:=WinV.sub hT hd hz (g:=none) (off:=0) (lo0:=0) (n:=0) (.inl ⟨rfl,rfl,rfl⟩) (Eb e1 hlo) (Eb e2 hhi) (mxcase e3 e4) hc.1 hc.2.1 hc.2.2.1 hc.2.2.2;refine ⟨u,h1,rfl,VRd.sl.2 (.inl ?_)⟩;rcases h2 with ⟨_,rfl,h3⟩ | ⟨b,o,cap,hb,_⟩
   ·exact ⟨rfl,by simp⟩
   ·cases hb
  ·obtain ⟨u,h1,h2⟩:=WinV.sub hT hd hz (g:=some g) (off:=off) (lo0:=0) (n:=List.length z) (.inr ⟨g,off,cap,rfl,rfl,hcap,.inr (by simp)⟩) (Eb e1 hlo) (Eb e2 hhi) (mxcase e3 e4) hc.1 hc.2.1 hc.2.2.1 hc.2.2.2
   refine ⟨u,h1,rfl,VRd.sl.2 ?_⟩;rcases h2 with ⟨hb,_⟩ | ⟨b,o,cap',hb,rfl,hcap',ho⟩
   ·cases hb
   ·cases hb
    refine .inr (.inl ⟨g,o,cap',c,ty,fr,by rw [hll],by rw [hll]; exact hcap',hS,hc2,?_⟩);rw [hll];rcases ho with ho | ho
    ·rw [ho]; simp [RdL]
    ·have:=RdL.window (Rd.length e) hr l.toNat (hh - l).toNat
     rw [Ba,A9,Bb,A6 (by rw [<-Nat.mul_sub_right_distrib]; exact A7 _ (by omega))] at this;rw [ho,Bf]; exact this
 ·rename_i et j ver hd
  split at h<;>try (cases h; done)
  rename_i e z ver' sh hrd;split at h<;>try (cases h; done)
  rename_i l hh kt hver e1 e2 hkt;split at h<;>try (cases h; done)
  rename_i m e3 e4 hsame;simp only [Ad] at h;subst h;have es:=D0 hsame;subst es;have hc:=Bw hok;have hz:=D1 hT w (Ik hT hkt hd);have hm:me j=some (.row e z ver' sh):=by rw [hacc j (by simp)]; exact hrd
  obtain ⟨e',l',ver2,sh',hm',hle,hh'⟩:=hG;rw [hm] at hm';cases hm';have hrow:=hh' (Aa hver).symm;have hwin:WinV (pl j).g 0 e.size 0 z.length v:=by
   rcases hI.mem j _ hm with ⟨hg,hl,_⟩ | ⟨g,c,t,hg',_,_,h6,_⟩
   ·subst hl
    rcases hrow with ⟨_,rfl⟩ | ⟨g,hg',_⟩
    ·exact .inl ⟨hg,rfl,rfl⟩
    ·rw [hg] at hg'; cases hg'
   ·rcases hrow with ⟨hg,_⟩ | ⟨g,hg,rfl⟩
    ·rw [hg] at hg'; cases hg'
    ·exact .inr ⟨g,0,_,hg,rfl,h6,.inr (by simp)⟩
  obtain ⟨u,h1,h2⟩:=WinV.sub hT hd hz hwin (Eb e1 hlo) (Eb e2 hhi) (mxcase e3 e4) hc.1 hc.2.1 hc.2.2.1 hc.2.2.2;rw [Bf] at h2;exact ⟨u,h1,rfl,e,z,ver',sh,hm,hle,λ_=>⟨by omega,h2⟩⟩
 ·rename_i et j ver lo' n hd
  split at h<;>try (cases h; done)
  rename_i e z ver' sh hrd;split at h<;>try (cases h; done)
  rename_i l hh hver e1 e2;split at h<;>try (cases h; done)
  rename_i kt hkt;split at h<;>try (cases h; done)
  rename_i hsame;simp only [Ad] at h;subst h;have es:=D0 hsame;subst es;have hc:=Bw hok;have hz:=D1 hT w (Ik hT hkt hd);have hm:me j=some (.row e z ver' sh):=by rw [hacc j (by simp)]; exact hrd
  obtain ⟨e',l',ver2,sh',hm',hle,hh'⟩:=hG;rw [hm] at hm';cases hm';obtain ⟨hln,hwin⟩:=hh' (Aa hver).symm;simp only [OG] at hmx;subst hmx;obtain ⟨u,h1,h2⟩:=WinV.sub hT hd hz hwin (mx:=none) (m:=hh) (Eb e1 hlo) (Eb e2 hhi) (.inl ⟨rfl,rfl⟩) hc.1 hc.2.1 (Bu _) hc.2.2;exact ⟨u,h1,rfl,e,z,ver',sh,hm,hle,λ_=>⟨by omega,h2⟩⟩
 ·rename_i et b p lo' n hd
  split at h<;>try (cases h; done)
  rename_i l hh e1 e2;split at h<;>try (cases h; done)
  rename_i kb y sh kt hrd hkt;split at h<;>try (cases h; done)
  rename_i o' m e hoff';split at h<;>try (cases h; done)
  rename_i hsame;simp only [Ad] at h;subst h;have es:=D0 hsame;subst es;have hc:=Bw hok;have hz:=D1 hT w (Ik hT hkt hd);have hm:me b=some (.var kb y sh):=by rw [hacc b (by simp)]; exact hrd
  obtain ⟨kb',x,sh',o,m',e',hm',hok',hoff,hln,hgs,hwin⟩:=hG;rw [hm] at hm';cases hm';rw [hoff'] at hoff;cases hoff;simp only [OG] at hmx;subst hmx;obtain ⟨u,h1,h2⟩:=WinV.sub hT hd hz hwin (mx:=none) (m:=hh) (Eb e1 hlo) (Eb e2 hhi) (.inl ⟨rfl,rfl⟩) hc.1 hc.2.1 (Bu _) hc.2.2;exact ⟨u,h1,rfl,kb,y,sh,o',m,e,hm,hok',hoff',by omega,hgs,h2⟩
theorem Wg (hT:D3 P T) {rd:Nat->Option Blk} {t:TypeId} {sv:SV} {nx:Nat} {r:ARes} {v:Value} (h:EB T rd t sv nx=some r) (hok:r.ok=true) (hacc:∀i∈r.acc,me i=rd i)
  (hG:G S w me pl sv v):∃u,(Instr.arrayAt t v).run P w=.ok u w/\r.wr=[]/\G S w me pl r.sv u:=by
 unfold EB at h;split at h<;>try (cases h; done)
 ·rename_i n e e' l hkt
  split at h<;>try (cases h; done)
  rename_i hs;simp only [Ab] at hs;simp only [Ad] at h;subst h;have es:=D0 hs.1;subst es;have hn:0<n:=by simpa [Nat.blt_eq] using hs.2
  have hle:n<=List.length l:=by have:=Bw hok; omega
  obtain ⟨d,e1,e2⟩:=UT hT hkt;have hdo:∃et,P.underlying t=some (.array n et):=by
   obtain ⟨dd,h1,h2,h3⟩:=Fb hT hkt;have h4:=(h3.kd _ h2).2;have h5:=h3.und;cases hdd:dd.desc<;>simp [hdd,Fk] at h4
   ·rw [hdd] at h5; exact ⟨_,by rw [h5,h4.1]⟩
   ·rename_i fs; cases hfs:fs.toList<;>simp [hfs,D4] at h4
  obtain ⟨et,hu⟩:=hdo;rcases VRd.sl.1 hG with ⟨rfl,hl⟩ | ⟨g,off,cap,c,ty,fr,rfl,hcap,hS,hc,hr⟩ | ⟨a0,rfl,hl⟩
  rotate_left 2
  ·subst hl; simp at hle; omega
  ·subst hl; simp at hle; omega
  ·refine ⟨.pointer (some ⟨g,off,none⟩),?_,rfl,g,off,c,ty,fr,rfl,hS,hc,by simp; omega,?_⟩
   ·simp [Instr.arrayAt,Au hu]
    intro h; omega
   ·have:=RdL.window (Rd.length e) hr 0 n
    rw [Nat.zero_mul,Bo,Bo,Bb,A6 (A7 _ hle)] at this;exact this
 ·rename_i n e b p lo m hkt
  split at h<;>try (cases h; done)
  rename_i kb y sh hrd;split at h<;>try (cases h; done)
  rename_i o' m' e' hoff';split at h<;>try (cases h; done)
  rename_i hs;simp only [Ab] at hs;simp only [Ad] at h;subst h;have es:=D0 hs.1;subst es;have hn:0<n:=by simpa [Nat.blt_eq] using hs.2
  have hle:n<=m:=by have:=Bw hok; omega
  have hdo:∃et,P.underlying t=some (.array n et):=by
   obtain ⟨dd,h1,h2,h3⟩:=Fb hT hkt;have h4:=(h3.kd _ h2).2;have h5:=h3.und;cases hdd:dd.desc<;>simp [hdd,Fk] at h4
   ·rw [hdd] at h5; exact ⟨_,by rw [h5,h4.1]⟩
   ·rename_i fs; cases hfs:fs.toList<;>simp [hfs,D4] at h4
  obtain ⟨et,hu⟩:=hdo;have hm:me b=some (.var kb y sh):=by rw [hacc b (by simp)]; exact hrd
  obtain ⟨kb',x,sh',o,m2,e2,hm',hok',hoff,hln,hgs,hwin⟩:=hG;rw [hm] at hm';cases hm';rw [hoff'] at hoff;cases hoff;rcases hwin with ⟨hg,rfl,hn0⟩ | ⟨g,oo,cap,hg,rfl,hcap,ho⟩
  ·omega
  ·have ho':oo=(pl b).off+o'+lo*e.size:=by rcases ho with h0 | h0; (exfalso; omega); exact h0
   subst ho';refine ⟨_,?_,rfl,kb,y,sh,o',m',e,g,hm,hok',hoff',by omega,hg,rfl⟩;simp [Instr.arrayAt,Au hu];intro h; omega
theorem Jp {rd:Nat->Option Blk} {sv:SV} {e:Kd} {xs:List e.T} {acc:List Nat} {v:Value} (h:rdSl rd sv=some ⟨e,xs,acc⟩) (hacc:∀i∈acc,me i=rd i)
  (hI:Inv C tm me pl S a w) (hG:G S w me pl sv v):RdSl (Rd S w e) (λ_=>True) w e.size xs v:=by
 cases sv<;>simp only [rdSl] at h<;>try (cases h; done)
 case val k x=>
  cases k<;>simp only [reduceCtorEq] at h
  simp only [Ad] at h;cases h;exact RdSl.mono (λb _=>⟨trivial,rfl⟩) (λ_ _ h=>h) (VRd.sl.1 hG)
 case nnv e' l=>
  simp only [Ad] at h;cases h;exact RdSl.mono (λb _=>⟨trivial,rfl⟩) (λ_ _ h=>h) (VRd.sl.1 hG.2)
 case own j ver=>
  split at h<;>try (cases h; done)
  rename_i e' l ver' sh hrd;split at h<;>try (cases h; done)
  rename_i hver;simp only [Ad] at h;cases h;have hm:me j=some (.row e xs ver' sh):=by rw [hacc j (by simp)]; exact hrd
  obtain ⟨e',l',ver2,sh',hm',hle,hh⟩:=hG;rw [hm] at hm';cases hm';rcases hh (Aa hver).symm with ⟨hg,rfl⟩ | ⟨g,hg,rfl⟩
  ·rcases hI.mem j _ hm with ⟨_,hl,_⟩ | ⟨g,c,t,hg',_⟩
   ·exact .inl ⟨rfl,hl⟩
   ·rw [hg] at hg'; cases hg'
  ·rcases hI.mem j _ hm with ⟨hg',hl,_⟩ | ⟨g',c,t,hg',h4,h5,h6,h7,h8,h9,h10⟩
   ·rw [hg] at hg'; cases hg'
   ·rw [hg] at hg'
    cases hg';exact .inr (.inl ⟨g,0,_,c,t,_,rfl,h6,trivial,h5,by simpa using h9⟩)
 case win j ver lo n=>
  split at h<;>try (cases h; done)
  rename_i e' l ver' sh hrd;split at h<;>try (cases h; done)
  rename_i hver;simp only [Ad] at h;cases h;have hm:me j=some (.row e l ver' sh):=by rw [hacc j (by simp)]; exact hrd
  obtain ⟨e',l',ver2,sh',hm',hle,hh⟩:=hG;rw [hm] at hm';cases hm';obtain ⟨hlen,hwin⟩:=hh (Aa hver).symm;have hll:(List.take n (List.drop lo l)).length=n:=by simp; omega
  rcases hwin with ⟨hg,rfl,hn0⟩ | ⟨g,o,cap,hg,rfl,hcap,ho⟩
  ·subst hn0; exact .inl ⟨rfl,by simp⟩
  ·rcases hI.mem j _ hm with ⟨hg',hl,_⟩ | ⟨g',c,t,hg',h4,h5,h6,h7,h8,h9,h10⟩
   ·rw [hg] at hg'; cases hg'
   ·rw [hg] at hg'
    cases hg';refine .inr (.inl ⟨g,o,cap,c,t,_,by rw [hll],by rw [hll]; exact hcap,trivial,h5,?_⟩);rw [hll];rcases ho with rfl | rfl
    ·simp [RdL]
    ·have:=RdL.window (Rd.length e) h9 lo n
     rw [Bf];rw [Ba,Bb] at this
     rwa [A6 (by rw [<-Nat.mul_sub_right_distrib]; exact A7 _ (by omega))] at this
 case asl b p lo n=>
  split at h<;>try (cases h; done)
  rename_i kb x sh hrd;split at h<;>try (cases h; done)
  rename_i m e' l hget;simp only [Ad] at h;cases h;have hm:me b=some (.var kb x sh):=by rw [hacc b (by simp)]; exact hrd
  obtain ⟨kb',x',sh',o,m',e',hm',hok,hoff,hln,hgs,hwin⟩:=hG;rw [hm] at hm';cases hm';obtain ⟨ek,g,c,t,c1,c2,c3,hg,hc,hsz,hseg,hl1,hr2,_⟩:=hI.atPath hm hok hoff hget;cases ek;obtain ⟨hlm,hrl⟩:=hr2;have hll:(List.take n (List.drop lo l)).length=n:=by simp; omega
  rcases hwin with ⟨hg',rfl,hn0⟩ | ⟨g',o',cap,hg',rfl,hcap,ho⟩
  ·subst hn0; exact .inl ⟨rfl,by simp⟩
  ·rw [hg] at hg'
   cases hg';refine .inr (.inl ⟨g,o',cap,c,t,_,by rw [hll],by rw [hll]; exact hcap,trivial,hc,?_⟩);rw [hll];rcases ho with rfl | rfl
   ·simp [RdL]
   ·have h9:=RdL.window (Rd.length e) hrl lo n
    have hc2:=RdL.length (Rd.length e) hrl;rw [<-hl1,Mi hseg (lo*e.size) (n*e.size) (by rw [hc2,<-Ag]; exact A7 _ (by omega))];exact h9
theorem RdSl.len {α:Type} {R:α->List Value->Prop} {S:Nat->Prop} {sz:Nat} {xs:List α} {v:Value} (h:RdSl R S w sz xs v):(Builtin.lenOf v).run P w=.ok xs.length w:=by
 rcases h with ⟨rfl,rfl⟩ | ⟨g,off,cap,c,t,fr,rfl,_⟩ | ⟨a0,rfl,rfl⟩<;>simp [Builtin.lenOf]
theorem RdSl.first {α:Type} {R:α->List Value->Prop} {S:Nat->Prop} {sz:Nat} (hn:∀x cs,R x cs->cs.length=sz) {xs:List α} {v:Value} (h:RdSl R S w sz xs v) {n:Nat} (hle:n<=xs.length):
  ∃cs,(Builtin.firstCells sz n v).run P w=.ok cs.toArray w/\RdL R (xs.take n) cs:=by
 rcases h with ⟨rfl,rfl⟩ | ⟨g,off,cap,c,t,fr,rfl,hcap,_,hc,hr⟩ | ⟨a0,rfl,rfl⟩
 rotate_left 2
 ·have h0:n=0:=by simpa using hle
  subst h0;exact ⟨[],run_firstCells_some (P:=P) w sz 0 a0 0 0 [] (by simp) (by simp),by simp [RdL]⟩
 ·exact ⟨[],by simp [Builtin.firstCells],by simp [RdL]⟩
 ·have hw:=RdL.window hn hr 0 n
  rw [Nat.zero_mul,Bo,Bo,Bb,A6 (A7 _ hle)] at hw;refine ⟨_,run_firstCells_some (P:=P) w sz n ⟨g,off,none⟩ xs.length cap _ ?_ ?_,hw⟩
  ·have:=RdL.length hn hw
   have e2:(xs.take n).length=n:=by simp; omega
   rw [e2] at this;exact this
  ·intro j u hj
   rw [add_eq,Aw w g (off+j) c t fr hc];exact G1 rfl j u hj
theorem RdL.one {S:Nat->Prop} {e:Kd} {xs:List e.T} {cs:List Value} (h:RdL (Rd S w e) xs cs):∀v∈cs,v.oneCell'=true:=RdL.all (Rd.one e) h
theorem RdL.take_drop {α:Type} {R:α->List Value->Prop} {sz:Nat} (hn:∀x cs,R x cs->cs.length=sz) {l:List α} {cs:List Value} (h:RdL R l cs) (n:Nat):
  RdL R (l.take n) (cs.take (n*sz))/\RdL R (l.drop n) (cs.drop (n*sz)):=by
 have h1:=RdL.window hn h 0 n;have h2:=RdL.window hn h n l.length;rw [Nat.zero_mul,Bo,Bo] at h1;refine ⟨h1,?_⟩;have hl:=RdL.length hn h;rw [A8 (by simp),A8 (by simp; rw [hl]; omega)] at h2;exact h2
theorem RdL.lay {α:Type} {R:α->List Value->Prop} {sz:Nat} (hn:∀x cs,R x cs->cs.length=sz) {l ys:List α} {cs ds:List Value} (h:RdL R l cs) (hy:RdL R ys ds) (lo:Nat):
  RdL R (lay l lo ys) (cs.take (lo*sz)++ds++cs.drop (lo*sz+ds.length)):=by
 unfold PG.lay;have h1:=(RdL.take_drop hn h lo).1;have h2:=(RdL.take_drop hn h (lo+ys.length)).2;have hd:=RdL.length hn hy;rw [hd,<-Ag];exact RdL.append (RdL.append h1 hy) h2
theorem T7 {α:Type} {l ys:List α} {lo:Nat} (h:lo+ys.length<=l.length):(lay l lo ys).length=l.length:=by
 unfold lay; simp; omega
theorem GY {α:Type} {f:Nat->α} {i:Nat} {v:α} (h:f i=v):upd f i v=f:=by
 funext j; simp only [upd]; split
 ·subst_vars; rfl
 ·rfl
theorem zk1 {α:Type} (l:List α) (lo:Nat):lay l lo []=l:=by unfold lay; simp
theorem RdL.mono {S S':Nat->Prop} {w w':World} (hs:∀b,S b->S' b/\w'.heap[b]?=w.heap[b]?) {e:Kd} {l:List e.T} {cs:List Value} (h:RdL (Rd S w e) l cs):RdL (Rd S' w' e) l cs:=
 RdL.imp (λx cs hx=>Rd.mono hs e x cs hx) h
theorem Inv.copyRow (hI:Inv C tm me pl S a w) {j:Nat} {e:Kd} {l ys:List e.T} {v lo:Nat} (hm:me j=some (.row e l v false)) {ds:List Value} (hy:RdL (Rd S w e) ys ds) (hfit:lo+ys.length<=l.length)
  {b:Option Addr} (hb:ys=[]\/∃g,(pl j).g=some g/\b=some ⟨g,lo*e.size,none⟩):
  ∃w',(match b with | some a=>storeCells a ds | none=>pure ()).run P w=.ok () w'/\Inv C tm (upd me j (some (.row e (lay l lo ys) v false))) pl S a w':=by
 rcases hb with rfl | ⟨g,hg,rfl⟩
 ·simp only [RdL] at hy
  subst hy;refine ⟨w,?_,?_⟩
  ·cases b<;>simp [storeCells]
  ·rw [zk1,GY hm]; exact hI
 ·rcases hI.mem j _ hm with ⟨h0,_⟩ | ⟨g',c,t,hg',h1',h2,h3,h4,h5,h6,h7⟩
  ·rw [hg] at h0; cases h0
  ·rw [hg] at hg'
   cases hg';have hd:=RdL.length (Rd.length e) hy;have hle:l.length*e.size<=c.size:=by rw [h5]; exact A7 _ h3
   have hfit':lo*e.size+ds.length<=l.length*e.size:=by rw [hd,<-Ag]; exact A7 _ hfit
   have hst:=run_storeCells_at P g (lo*e.size) t ds 0 c w h2 (by omega) hy.one;simp only [Ax] at hst;refine ⟨_,hst,hI.writeRow hm hg h2 hfit' (T7 hfit) (λw' hw'=>?_)⟩;have h8:=RdL.lay (Rd.length e) (RdL.mono hw' h6) (RdL.mono hw' hy) lo;have hcl:c.toList.length=c.size:=by simp
   have e1:(c.toList.take (lo*e.size)++ds++c.toList.drop (lo*e.size+ds.length)).take (l.length*e.size)=
     (c.toList.take (l.length*e.size)).take (lo*e.size)++ds++(c.toList.take (l.length*e.size)).drop (lo*e.size+ds.length):=by
    rw [List.take_append,Bb,A6 (by omega),A8 (by simp; omega)]
    congr 1
    rw [Ba]
    congr 1
    simp; omega
   rw [e1]; exact h8
theorem Inv.copyVar (hI:Inv C tm me pl S a w) {b:Nat} {kb e:Kd} {x x':kb.T} {l ys:List e.T} {p:List Step} {o m lo:Nat} (hm:me b=some (.var kb x false))
  (hok:kb.okP p) (hoff:kb.offP p=some (o,.arr m e)) (hget:getP kb x p=some ⟨.arr m e,l⟩) (hset:setP kb x p ⟨.arr m e,lay l lo ys⟩=some x') {ds:List Value} (hy:RdL (Rd S w e) ys ds) (hfit:lo+ys.length<=m)
  {bb:Option Addr} (hb:ys=[]\/∃g,(pl b).g=some g/\bb=some ⟨g,(pl b).off+o+lo*e.size,none⟩):
  ∃w',(match bb with | some a=>storeCells a ds | none=>pure ()).run P w=.ok () w'/\Inv C tm (upd me b (some (.var kb x' false))) pl S a w':=by
 obtain ⟨_,g,c,t,c1,c2,c3,hg,hc,hsz,hseg,hl1,⟨hlm,hrl⟩,hsh,hs⟩:=hI.atPath hm hok hoff hget;have hcl:c.toList.length=c.size:=by simp
 have hc2:=RdL.length (Rd.length e) hrl;have hlay:=RdL.lay (Rd.length e) hrl hy lo;have hrd:Rd S w (.arr m e) (lay l lo ys) (c2.take (lo*e.size)++ds++c2.drop (lo*e.size+ds.length)):=⟨by rw [T7 (by omega)]; exact hlm,hlay⟩
 obtain ⟨g',c',t',hg',hc',hfit2,hinv⟩:=hI.storePath hm hok hoff hset hrd;rw [hg] at hg';cases hg';rw [hc] at hc';cases hc';have hd:=RdL.length (Rd.length e) hy;have hfit':lo*e.size+ds.length<=c2.length:=by rw [hd,hc2,<-Ag]; exact A7 _ (by omega)
 have hseg2:(c.toList.drop ((pl b).off+o)).take c2.length=c2.take (lo*e.size)++(c2.drop (lo*e.size)).take ds.length++c2.drop (lo*e.size+ds.length):=by
  have:=Mi hseg 0 c2.length (by omega);rw [Ax,Bo,Bl,hl1] at this;rw [this,<-A9,Ah,A4,A4]
 have hlens:(pl b).off+kb.size<=c.toList.length:=by omega
 have hlen:kb.size=c1.length+c2.length+c3.length:=by
  have:=Ac List.length hseg;simp at this; omega
 have hsp:=Rh (c2':=ds) hseg2 (by omega) (by simp; omega);have hta:(c2.take (lo*e.size)).length=lo*e.size:=by simp; omega
 rw [hta] at hsp;have hcells:c.toList.take ((pl b).off+o)++(c2.take (lo*e.size)++ds++c2.drop (lo*e.size+ds.length))++c.toList.drop ((pl b).off+o+(c2.take (lo*e.size)++ds++c2.drop (lo*e.size+ds.length)).length)=
   c.toList.take ((pl b).off+o+lo*e.size)++ds++c.toList.drop ((pl b).off+o+lo*e.size+ds.length):=by
  rw [hsp]
  congr 2
  simp; omega
 rw [hcells] at hinv;rcases hb with rfl | ⟨g'',hg'',rfl⟩
 ·simp only [RdL] at hy
  subst hy;refine ⟨w,by cases bb<;>simp [storeCells],?_⟩;have hself:w.setRow g (c.toList.take ((pl b).off+o+lo*e.size)++[]++c.toList.drop ((pl b).off+o+lo*e.size+([]:List Value).length)).toArray=w:=by
   simp only [B0,Bz,Ax,A4,B1];exact setRow_self w g c t (0,0) hc
  rw [hself] at hinv;exact hinv
 ·rw [hg] at hg''
  cases hg'';have hst:=run_storeCells_at P g ((pl b).off+o+lo*e.size) t ds 0 c w hc (by omega) hy.one;simp only [Ax] at hst;exact ⟨_,hst,hinv⟩
theorem K2 {fs:List Field} {n:Nat} {k:Kd} (h:k.agg=false):D4 T fs n k=false:=by
 cases hh:D4 T fs n k with
 | false=>rfl
 | true=>rw [E4 hh] at h; cases h
theorem UA (hT:D3 P T) {t:TypeId} {ke:Kd} (hkt:tkd T t=some (.sl ke)):∃et,E0 T t=some (.slice et):=by
 obtain ⟨dd,h1,h2,h3⟩:=Fb hT hkt;have h4:=(h3.kd _ h2).2;obtain ⟨desc,sz,by_,kd⟩:=dd;simp only at h4;cases desc<;>simp only [Fk,Bx] at h4
 ·exact ⟨_,by simp [E0,h1]; rfl⟩
 ·rw [K2 rfl] at h4; cases h4
theorem U4 {α:Type} (xs:List α) (n:Nat):xs.take (min xs.length n)=xs.take n:=by
 rw [List.take_eq_take_iff]; omega
theorem Ll (hT:D3 P T) {t ts ty et:TypeId} {sz:Nat} (hd:E0 T t=some (.slice et)) (hz:∀w,(sizeOf et).run P w=.ok sz w) {bd:Option Addr} {dl dc sl:Nat} {vs:Value} {ds:List Value} {w':World}
  (hl:(Builtin.lenOf vs).run P w=.ok sl w) (hf:(Builtin.firstCells sz (min sl dl) vs).run P w=.ok ds.toArray w) (hs:(match bd with | some a=>storeCells a ds | none=>pure ()).run P w=.ok () w'):
  (Builtin.copy_ #[t,ts] ty #[.slice bd dl dc,vs]).run P w=.ok (goInt (min sl dl:Nat)) w':=by
 have e:Nat.min sl dl=min sl dl:=rfl;cases bd with
 | none=>
  simp only [A1,Result.ok.injEq] at hs;obtain ⟨_,rfl⟩:=hs;simp [Builtin.copy_,Au (Dq hT hd),hl,hz w,e,hf]
 | some b=>
  simp only at hs;simp [Builtin.copy_,Au (Dq hT hd),hl,hz w,e,hf,hs]
theorem DW (hT:D3 P T) {rd:Nat->Option Blk} {t ts ty:TypeId} {d s:SV} {nx:Nat} {r:ARes} {vd vs:Value} (h:zoj T rd t d s nx=some r) (hacc:∀i∈r.acc,me i=rd i)
  (hI:Inv C tm me pl S a w) (hGd:G S w me pl d vd) (hGs:G S w me pl s vs):∃u w',(Builtin.copy_ #[t,ts] ty #[vd,vs]).run P w=.ok u w'/\F6 C tm me r.sv r.wr a u w':=by
 unfold zoj at h;split at h<;>try (cases h; done)
 rename_i ke e xs acc hkt hrs;split at h<;>try (cases h; done)
 rename_i hsame;have es:=D0 hsame;subst es;obtain ⟨et,hd⟩:=UA hT hkt;have hz:∀w,(sizeOf et).run P w=.ok ke.size w:=λw=>D1 hT w (Ik hT hkt hd)
 cases d<;>simp only [reduceCtorEq] at h
 case own j ver=>
  split at h<;>try (cases h; done)
  rename_i e' l ver' hrd;split at h<;>try (cases h; done)
  rename_i ys hver hys;simp only [Ad] at h;subst h;have:=TV.as_some hys;cases this;have hm:me j=some (.row ke l ver' false):=by rw [hacc j (by simp)]; exact hrd
  have hS:=Jp hrs (λq hq=>hacc q (by simp; exact .inr hq)) hI hGs;obtain ⟨ds,hf,hr⟩:=hS.first (P:=P) (Rd.length ke) (n:=min (List.length xs) l.length) (Nat.min_le_left _ _);rw [U4] at hr;obtain ⟨e2,l2,ver2,sh2,hm2,hle,hh⟩:=hGd;rw [hm] at hm2;cases hm2;rcases hh (Aa hver).symm with ⟨hg,rfl⟩ | ⟨g,hg,rfl⟩
  ·have hl0:l=[]:=by
    rcases hI.mem j _ hm with ⟨_,hl,_⟩ | ⟨g,c,t,hg',_⟩
    ·exact hl
    ·rw [hg] at hg'; cases hg'
   subst hl0;obtain ⟨w',h1,h2⟩:=hI.copyRow (P:=P) hm (lo:=0) hr (by simp) (b:=none) (.inl (by simp));exact ⟨_,w',Ll hT hd hz hS.len hf h1,pl,S,by rw [Do,Dn]; exact ⟨h2,VRd.int.2 rfl⟩⟩
  ·obtain ⟨w',h1,h2⟩:=hI.copyRow (P:=P) hm (lo:=0) hr (by simp; omega) (b:=some ⟨g,0,none⟩) (.inr ⟨g,hg,by simp⟩)
   exact ⟨_,w',Ll hT hd hz hS.len hf h1,pl,S,by rw [Do,Dn]; exact ⟨h2,VRd.int.2 rfl⟩⟩
 case win j ver lo n=>
  split at h<;>try (cases h; done)
  rename_i e' l ver' hrd;split at h<;>try (cases h; done)
  rename_i ys hver hys;simp only [Ad] at h;subst h;have:=TV.as_some hys;cases this;have hm:me j=some (.row ke l ver' false):=by rw [hacc j (by simp)]; exact hrd
  have hS:=Jp hrs (λq hq=>hacc q (by simp; exact .inr hq)) hI hGs;obtain ⟨ds,hf,hr⟩:=hS.first (P:=P) (Rd.length ke) (n:=min (List.length xs) n) (Nat.min_le_left _ _);rw [U4] at hr;obtain ⟨e2,l2,ver2,sh2,hm2,hle,hh⟩:=hGd;rw [hm] at hm2;cases hm2;obtain ⟨hln,hwin⟩:=hh (Aa hver).symm;rcases hwin with ⟨hg,rfl,hn0⟩ | ⟨g,oo,cap,hg,rfl,hcap,ho⟩
  ·subst hn0
   obtain ⟨w',h1,h2⟩:=hI.copyRow (P:=P) hm (lo:=lo) hr (by simp; omega) (b:=none) (.inl (by simp));exact ⟨_,w',Ll hT hd hz hS.len hf h1,pl,S,by rw [Do,Dn]; exact ⟨h2,VRd.int.2 rfl⟩⟩
  ·obtain ⟨w',h1,h2⟩:=hI.copyRow (P:=P) hm (lo:=lo) hr (by simp; omega) (b:=some ⟨g,oo,none⟩) (by
    rcases ho with ho | ho
    ·subst ho; exact .inl (by simp)
    ·exact .inr ⟨g,hg,by rw [ho,Bf]⟩)
   exact ⟨_,w',Ll hT hd hz hS.len hf h1,pl,S,by rw [Do,Dn]; exact ⟨h2,VRd.int.2 rfl⟩⟩
 case asl b p lo n=>
  split at h<;>try (cases h; done)
  rename_i kb x hrd;split at h<;>try (cases h; done)
  rename_i m e' l hget;split at h<;>try (cases h; done)
  rename_i ys hys;split at h<;>try (cases h; done)
  rename_i x' hset;simp only [Ad] at h;subst h;have:=TV.as_some hys;cases this;have hm:me b=some (.var kb x false):=by rw [hacc b (by simp)]; exact hrd
  have hS:=Jp hrs (λq hq=>hacc q (by simp; exact .inr hq)) hI hGs;obtain ⟨ds,hf,hr⟩:=hS.first (P:=P) (Rd.length ke) (n:=min (List.length xs) n) (Nat.min_le_left _ _);rw [U4] at hr;obtain ⟨kb',x0,sh',o,m',e2,hm',hok',hoff,hln,hgs,hwin⟩:=hGd;rw [hm] at hm';cases hm';obtain ⟨ek,_⟩:=hI.atPath hm hok' hoff hget;cases ek;rcases hwin with ⟨hg,rfl,hn0⟩ | ⟨g,oo,cap,hg,rfl,hcap,ho⟩
  ·rw [hg] at hgs; cases hgs
  ·obtain ⟨w',h1,h2⟩:=hI.copyVar (P:=P) hm hok' hoff hget hset hr (by simp; omega) (bb:=some ⟨g,oo,none⟩) (by
    rcases ho with ho | ho
    ·subst ho; exact .inl (by simp)
    ·exact .inr ⟨g,hg,by rw [ho]⟩)
   exact ⟨_,w',Ll hT hd hz hS.len hf h1,pl,S,by rw [Do,Dn]; exact ⟨h2,VRd.int.2 rfl⟩⟩
theorem Inv.drew (h:Inv C tm me pl S a w):Inv C tm me pl S a w.drew:=
 h.world (λ_ hb=>hb) (λb hb=>⟨(h.sfr b hb).1,.inl hb⟩) rfl rfl rfl (Al _) (λ_ _=>rfl)
theorem Inv.bump (h:Inv C tm me pl S a w) {i:Nat} {e:Kd} {l:List e.T} {v v':Nat} {sh:Bool} (hi:me i=some (.row e l v sh)) (hv:v<=v'):
  Inv C tm (upd me i (some (.row e l v' sh))) pl S a w:=by
 have hK:Keeps S w me pl S w (upd me i (some (.row e l v' sh))) pl:=by
  refine ⟨λb hb=>⟨hb,rfl⟩,λj bj hj=>?_⟩
  by_cases ee:j=i
  ·subst ee; rw [hi] at hj; cases hj; exact ⟨.row e l v' sh,by simp,⟨rfl,hv,λ_=>⟨rfl,rfl⟩⟩⟩
  ·exact ⟨bj,by rw [Dm _ _ ee]; exact hj,Compat.refl _ _⟩
 have q:∀{j:Nat} {b:Blk},upd me i (some (.row e l v' sh)) j=some b->∃b,me j=some b:=by
  intro j b hj
  by_cases e1:j=i
  ·exact ⟨_,e1 ▸ hi⟩
  ·rw [Dm _ _ e1] at hj; exact ⟨_,hj⟩
 refine ⟨h.nt,h.df,λt'=>(h.tms t').keeps hK,λj bj hj=>?_,λj bj hj=>?_,λj1 j2 b1 b2 g' hne hj1 hj2 hg'=>?_,h.s0,h.sfr,h.fr,h.pd,λsv v hg=>(h.gho sv v hg).keeps hK⟩
 ·by_cases ee:j=i
  ·subst ee; simp only [Dr,Ad] at hj; subst hj; have h5:=h.mem j (.row e l v sh) hi; exact h5
  ·rw [Dm _ _ ee] at hj; exact (h.mem j bj hj).keeps hK (λ_ _=>rfl) (λ_ _ _=>Iff.rfl)
 ·by_cases ee:j=i
  ·subst ee; simp only [Dr,Ad] at hj; subst hj
   intro g' hg';rcases h.plcs j _ hi g' hg' with h1 | ⟨⟨k,x,s,h0⟩,_⟩
   ·exact .inl h1
   ·cases h0
  ·rw [Dm _ _ ee] at hj; exact h.plcs j bj hj
 ·obtain ⟨b1',q1⟩:=q hj1
  obtain ⟨b2',q2⟩:=q hj2;exact h.dis j1 j2 b1' b2' g' hne q1 q2 hg'
theorem Kz (hT:D3 P T) {t et ty:TypeId} {sz:Nat} (hd:E0 T t=some (.slice et)) (hz:∀w,(sizeOf et).run P w=.ok sz w) {b:Option Addr} {n cap:Nat} (hc:n<=cap) {vx:Value}
  (hl:(Builtin.lenOf vx).run P w=.ok 0 w) (hf:(Builtin.firstCells sz 0 vx).run P w=.ok #[] w):(Builtin.append_ #[t,t] ty #[.slice b n cap,vx]).run P w=.ok (.slice b n cap) w:=by
 cases b<;>simp [Builtin.append_,Au (Dq hT hd),hz w,hl,hc,hf,storeCells]
theorem Ve (hT:D3 P T) {t et ty:TypeId} {sz:Nat} (hd:E0 T t=some (.slice et)) (hz:∀w,(sizeOf et).run P w=.ok sz w) {g n cap m:Nat} {vx:Value} {news:List Value} {c:Array Value} {tb:TypeId}
  (hg:w.heap[g]?=some (.cells c tb (0,0))) (hl:(Builtin.lenOf vx).run P w=.ok m w) (hf:(Builtin.firstCells sz m vx).run P w=.ok news.toArray w) (h1:∀u∈news,u.oneCell'=true)
  (hroom:n+m<=cap) (hfit:n*sz+news.length<=c.size):
  (Builtin.append_ #[t,t] ty #[.slice (some ⟨g,0,none⟩) n cap,vx]).run P w=.ok (.slice (some ⟨g,0,none⟩) (n+m) cap) (w.setRow g (c.toList.take (n*sz)++news++c.toList.drop (n*sz+news.length)).toArray):=by
 have hst:=run_storeCells_at P g (n*sz) tb news 0 c w hg (by omega) h1;simp only [Ax] at hst;simp [Builtin.append_,Au (Dq hT hd),hz w,hl,hroom,hf,add_eq,hst]
theorem Ju (k:Kd) {z:Value} (h:z.cells=k.zcells.toArray):z.cells.size=k.size:=by rw [h]; simp [Kd.zcells_length]
theorem limb {n m b:Nat} (h:n+m<=LIMB/b):(n+m)*b<=140737488355328/\(b=0->n+m=0):=by
 refine ⟨Am (A7 b h) (Nat.div_mul_le_self _ _),λhb=>?_⟩;subst hb; simpa using h
theorem Inv.grownRow (hI:Inv C tm me pl S a w) {i:Nat} {e:Kd} {l:List e.T} {v:Nat} {c:Array Value} {t:TypeId} {cap:Nat} (hi:∀b0,me i=some b0->∃l0 v0 sh0,b0=.row e l0 v0 sh0/\v0<v) (hnp:C.pp.length<=i)
  (hcap:l.length<=cap) (hcm:cap<=maxLen) (hcs:c.size=cap*e.size) (hr:RdL (Rd S w e) l (c.toList.take (l.length*e.size))):
  Inv C tm (upd me i (some (.row e l v false))) (upd pl i ⟨some w.heap.size,0,cap⟩) S a (w.alloc (.cells c t)):=by
 refine hI.allocAt (λb0 hb0=>?_) hnp ?_
 ·obtain ⟨l0,v0,sh0,rfl,hlt⟩:=hi b0 hb0
  exact ⟨rfl,by omega,λh=>by omega⟩
 ·refine .inr ⟨w.heap.size,c,t,rfl,rfl,Bk w _,hcap,hcm,hcs,RdL.mono (λb hb=>⟨hb,heap_alloc_old w _ b (hI.sfr b hb).1⟩) hr,?_⟩
  simp;intro h;have:=(hI.sfr _ h).1;omega
theorem RdSl.cases' {α:Type} {R:α->List Value->Prop} {S:Nat->Prop} {sz:Nat} (hn:∀x cs,R x cs->cs.length=sz) {xs:List α} {v:Value} (h:RdSl R S w sz xs v) (hx:xs≠[]):
  ∃ad c news,v=.slice (some ad) xs.length c/\news.length=xs.length*sz/\RdL R xs news/\∀j u,news[j]?=some u->w.cell? (ad.add j)=some u:=by
 rcases h with ⟨_,h⟩ | ⟨g,off,cap,c,t,fr,rfl,hcap,_,hc,hr⟩ | ⟨a0,_,h⟩
 rotate_left 2
 ·exact absurd h hx
 ·exact absurd h hx
 ·exact ⟨_,cap,_,rfl,RdL.length hn hr,hr,λj u hj=>by rw [add_eq,Aw w g (off+j) c t fr hc]; exact G1 rfl j u hj⟩
theorem Nx (hT:D3 P T) {np:Nat} (hnp:np=C.pp.length) {rd:Nat->Option Blk} {t ty:TypeId} {s x:SV} {nx:Nat} {r:ARes} {vs vx:Value} (h:Wh T np rd t s x nx=some r) (hok:r.ok=true) (hacc:∀i∈r.acc,me i=rd i)
  (hI:Inv C tm me pl S a w) (hGs:G S w me pl s vs) (hGx:G S w me pl x vx):∃u w',(Builtin.append_ #[t,t] ty #[vs,vx]).run P w=.ok u w'/\F6 C tm me r.sv r.wr a u w':=by
 unfold Wh at h;split at h<;>try (cases h; done)
 rename_i ke et hkt hd;split at h<;>try (cases h; done)
 rename_i dd hdd;split at h<;>try (cases h; done)
 rename_i e xs acc hsrc;split at h<;>try (cases h; done)
 rename_i ys hys;have:=TV.as_some hys;cases this;have hz:∀w,(sizeOf et).run P w=.ok ke.size w:=λw=>D1 hT w (Ik hT hkt hd)
 have hS:(∀i∈acc,me i=rd i)->RdSl (Rd S w ke) (λ_=>True) w ke.size ys vx:=by
  intro ha;split at hsrc
  ·simp only [Ad] at hsrc
   cases hsrc;exact .inl ⟨hGx,rfl⟩
  ·exact Jp hsrc ha hI hGx
 obtain ⟨i,hi,hi2,hi3,hi4⟩:=(hT et dd hdd).info;have hkd:dd.kd=some ke:=by
  have:=Ik hT hkt hd;simpa [tkd,hdd] using this
 obtain ⟨z,hz1,hz2,_⟩:=hi4 ke hkd;have hisz:i.size=ke.size:=by rw [hi2,((hT et dd hdd).kd ke hkd).1]
 have hzs:=Ju ke hz2;cases s<;>simp only [reduceCtorEq] at h
 case nil=>
  split at h<;>try (cases h; done)
  rename_i hfr;simp only [Ad] at h;subst h;obtain ⟨hfr1,hfr2⟩:=Ey hfr;have hSx:=hS (λq hq=>hacc q (by simp; exact .inr hq));have hmn:me nx=none:=by rw [hacc nx (by simp)]; exact hfr1
  have hlim:=limb (n:=0) (m:=ys.length) (b:=dd.bytes) (by rw [Bf]; exact Bw hok);simp only [Bf] at hlim;simp only [G] at hGs;subst hGs
  by_cases hy:ys=[]
  ·subst hy
   obtain ⟨ds,hf,hr⟩:=hSx.first (P:=P) (Rd.length ke) (n:=0) (by simp);simp only [List.take_nil,RdL] at hr;subst hr;refine ⟨_,w,Kz hT hd hz (Al _) (by simpa using hSx.len (P:=P)) hf,_,S,by rw [Do,Dn]; exact hI.nilrow ke hmn,?_⟩;rw [Do,Dn];exact ⟨ke,[],0,false,Dr _ _ _,Al _,λ_=>.inl ⟨by simp,rfl⟩⟩
  ·obtain ⟨ad,c,news,rfl,hnl,hnr,hnews⟩:=hSx.cases' (Rd.length ke) hy
   have hpos:0<ys.length:=List.length_pos_iff.2 hy;have hb1:1<=dd.bytes:=by
    rcases B2 dd.bytes with h0 | h0
    ·have:=hlim.2 h0; omega
    ·exact h0
   have hylt:ys.length<=140737488355328:=Am (B3 _ hb1) hlim.1;have hrun:=run_append_nil (P:=P) w t ty et i z (Dq hT hd) hi hz1 ad ys.length c news (by rw [hisz]; exact hnl) hnews hpos (by omega) (by rw [hi3]; omega);refine ⟨_,_,hrun,upd pl nx ⟨some w.drew.heap.size,0,grownCap w ys.length 0 et⟩,S,?_,?_⟩
   ·rw [Do,Dn]
    refine (hI.drew).grownRow (λb0 hb0=>by rw [hmn] at hb0; cases hb0) (by omega) (B4 w _ _ _) (grownCap_le_maxLen w _ _ _ (by simp only [maxLen]; omega)) ?_ ?_
    ·simp only [B5,Bi,hnl,size_zeroCells,hzs]
     rw [<-Ag]
     congr 1
     have:=B4 w ys.length 0 et;omega
    ·have e1:(news.toArray++Builtin.zeroCells z.cells (grownCap w ys.length 0 et - ys.length)).toList.take (ys.length*ke.size)=news:=by
      rw [B6,<-hnl]; simp
     rw [e1]; exact RdL.mono (S:=S) (S':=S) (w:=w) (w':=w.drew) (λb hb=>⟨hb,rfl⟩) hnr
   ·rw [Do,Dn]
    exact ⟨ke,ys,0,false,Dr _ _ _,Al _,λ_=>.inr ⟨w.heap.size,by simp,by simp⟩⟩
 case own j ver=>
  split at h<;>try (cases h; done)
  rename_i e' l ver' hrd hjn;split at h<;>try (cases h; done)
  rename_i zs hver hzs';simp only [Ad] at h;subst h;have:=TV.as_some hzs';cases this;have hjn':C.pp.length<=j:=by
   subst hnp;rcases Nat.lt_or_ge j C.pp.length with h1 | h1
   ·have:Nat.blt j C.pp.length=true:=by simpa [Nat.blt_eq] using h1
    rw [this] at hjn; cases hjn
   ·exact h1
  have hSx:=hS (λq hq=>hacc q (by simp; exact .inr hq));have hm:me j=some (.row ke l ver' false):=by rw [hacc j (by simp)]; exact hrd
  have hlim:=limb (b:=dd.bytes) (Bw hok);obtain ⟨e2,l2,ver2,sh2,hm2,hle,hh⟩:=hGs;rw [hm] at hm2;cases hm2;have hrow:=hh (Aa hver).symm
  by_cases hy:ys=[]
  ·subst hy
   obtain ⟨ds,hf,hr⟩:=hSx.first (P:=P) (Rd.length ke) (n:=0) (by simp);simp only [List.take_nil,RdL] at hr;subst hr;have hcap:∃b n cap,vs=.slice b n cap/\n<=cap:=by
    rcases hrow with ⟨_,rfl⟩ | ⟨g,hg,rfl⟩
    ·exact ⟨_,_,_,rfl,Al _⟩
    ·rcases hI.mem j _ hm with ⟨hg',_⟩ | ⟨g',c,t,hg',h4,h5,h6,_⟩
     ·rw [hg] at hg'; cases hg'
     ·exact ⟨_,_,_,rfl,h6⟩
   obtain ⟨b,n,cap,rfl,hcap⟩:=hcap;refine ⟨_,w,Kz hT hd hz hcap (by simpa using hSx.len (P:=P)) hf,pl,S,?_,?_⟩
   ·rw [Do,Dn,B0]; exact hI.bump hm (Nat.le_succ _)
   ·rw [Do,Dn]
    exact ⟨ke,l++[],ver'+1,false,Dr _ _ _,Al _,λ_=>by rw [B0]; exact hrow⟩
  ·obtain ⟨ad,cc,news,rfl,hnl,hnr,hnews⟩:=hSx.cases' (Rd.length ke) hy
   have hpos:0<ys.length:=List.length_pos_iff.2 hy;have hb1:1<=dd.bytes:=by
    rcases B2 dd.bytes with h0 | h0
    ·have:=hlim.2 h0; omega
    ·exact h0
   have hylt:l.length+ys.length<=140737488355328:=Am (B3 _ hb1) hlim.1;rcases hI.mem j _ hm with ⟨hg,hl0,hc0⟩ | ⟨g,c,tb,hg,hoff,hc,h6,h7,h8,h9,h10⟩
   ·subst hl0
    have hvs:vs=.slice none 0 0:=by
     rcases hrow with ⟨_,h⟩ | ⟨g,hg',_⟩
     ·exact h
     ·rw [hg] at hg'; cases hg'
    subst hvs;simp only [Bz,Bf] at hlim hylt;have hrun:=run_append_nil (P:=P) w t ty et i z (Dq hT hd) hi hz1 ad ys.length cc news (by rw [hisz]; exact hnl) hnews hpos (by omega) (by rw [hi3]; omega);refine ⟨_,_,hrun,upd pl j ⟨some w.drew.heap.size,0,grownCap w ys.length 0 et⟩,S,?_,?_⟩
    ·rw [Do,Dn,A2]
     refine (hI.drew).grownRow (λb0 hb0=>by rw [hm] at hb0; cases hb0; exact ⟨_,_,_,rfl,Nat.lt_succ_self _⟩) hjn' (B4 w _ _ _) (grownCap_le_maxLen w _ _ _ (by simp only [maxLen]; omega)) ?_ ?_
     ·simp only [B5,Bi,hnl,size_zeroCells,hzs]
      rw [<-Ag]
      congr 1
      have:=B4 w ys.length 0 et;omega
     ·have e1:(news.toArray++Builtin.zeroCells z.cells (grownCap w ys.length 0 et - ys.length)).toList.take (ys.length*ke.size)=news:=by
       rw [B6,<-hnl]; simp
      rw [e1]; exact RdL.mono (S:=S) (S':=S) (w:=w) (w':=w.drew) (λb hb=>⟨hb,rfl⟩) hnr
    ·rw [Do,Dn]
     exact ⟨ke,ys,ver'+1,false,Dr _ _ _,Al _,λ_=>.inr ⟨w.heap.size,by simp,by simp⟩⟩
   ·have hvs:vs=.slice (some ⟨g,0,none⟩) l.length (pl j).cap:=by
     rcases hrow with ⟨hg',_⟩ | ⟨g',hg',h⟩
     ·rw [hg] at hg'; cases hg'
     ·rw [hg] at hg'; cases hg'; exact h
    subst hvs;have hcl:c.toList.length=c.size:=by simp
    have hlsz:l.length*ke.size<=c.size:=by rw [h8]; exact A7 _ h6
    by_cases hroom:l.length+ys.length<=(pl j).cap
    ·have hfit:l.length*ke.size+news.length<=c.size:=by rw [hnl,h8,<-Ag]; exact A7 _ hroom
     have hrun:=Ve (ty:=ty) hT hd hz hc (hSx.len (P:=P)) (run_firstCells_some w ke.size ys.length ad ys.length cc news hnl hnews) hnr.one hroom hfit;obtain ⟨f1,f2,f3,f4⟩:=Kw (C:=c.toList) (X:=news) (off:=l.length*ke.size) (n:=news.length) (by omega) rfl;have hnS:¬S g:=λh=>by have:=h10.2 h; cases this
     refine ⟨_,_,hrun,pl,S,?_,?_⟩
     ·rw [Do,Dn]
      refine hI.write hm hg hnS hc (by simpa using f1) (by rw [hoff]; simp) (λh=>by obtain ⟨k,x,s,e⟩:=h; cases e) rfl ⟨λh=>(by obtain ⟨k,x,s,e⟩:=h; cases e),λh=>(by obtain ⟨k,x,s,e⟩:=h; cases e)⟩ ⟨rfl,Nat.le_succ _,λh=>absurd h (by omega)⟩ ?_;refine .inr ⟨g,_,tb,hg,hoff,setRow_heap w g c _ tb (0,0) hc,by simpa using hroom,h7,?_,?_,by simp; exact hnS⟩
      ·rw [<-h8,Bi,f1]; simp
      ·rw [Bh]
       have hs:∀b,S b->S b/\(w.setRow g (c.toList.take (l.length*ke.size)++news++c.toList.drop (l.length*ke.size+news.length)).toArray).heap[b]?=w.heap[b]?:=λb hb=>⟨hb,Aq w g b _ (λe=>hnS (e ▸ hb))⟩
       have e1:(c.toList.take (l.length*ke.size)++news++c.toList.drop (l.length*ke.size+news.length)).take ((l++ys).length*ke.size)=c.toList.take (l.length*ke.size)++news:=by
        have:(c.toList.take (l.length*ke.size)++news).length=(l++ys).length*ke.size:=by
         simp [hnl,Ag]; omega
        rw [<-this,Bp]
       rw [e1];exact RdL.append (RdL.mono hs h9) (RdL.mono hs hnr)
     ·rw [Do,Dn]
      exact ⟨ke,l++ys,ver'+1,false,Dr _ _ _,Al _,λ_=>.inr ⟨g,hg,by simp⟩⟩
    ·have holds:∀q u,(c.toList.take (l.length*ke.size))[q]?=some u->w.cell? ((⟨g,0,none⟩:Addr).add q)=some u:=λq u hq=>by
      rw [add_eq,Aw w g (0+q) c tb (0,0) hc];exact G1 (off:=0) (by rw [Bo]) q u hq
     have hrun:=run_append_grow (P:=P) w t ty et i z (Dq hT hd) hi hz1 ⟨g,0,none⟩ l.length (pl j).cap (c.toList.take (l.length*ke.size)) (by rw [hisz]; simp; omega) holds ad ys.length cc news (by rw [hisz]; exact hnl) hnews (by omega) (by omega) (growslice_fits (by omega) (by rw [hi3]; exact hlim.1));refine ⟨_,_,hrun,upd pl j ⟨some w.drew.heap.size,0,grownCap w (l.length+ys.length) (pl j).cap et⟩,S,?_,?_⟩
     ·rw [Do,Dn]
      refine (hI.drew).grownRow (λb0 hb0=>by rw [hm] at hb0; cases hb0; exact ⟨_,_,_,rfl,Nat.lt_succ_self _⟩) hjn' (by rw [Ae]; exact B4 w _ _ _) (grownCap_le_maxLen w _ _ _ (by simp only [maxLen]; omega)) ?_ ?_
      ·simp only [B5,Bi,hnl,size_zeroCells,hzs,A5,hcl,A6 hlsz]
       rw [<-Ag,<-Ag]
       congr 1
       have:=B4 w (l.length+ys.length) (pl j).cap et;omega
      ·have e1:((c.toList.take (l.length*ke.size)).toArray++news.toArray++Builtin.zeroCells z.cells (grownCap w (l.length+ys.length) (pl j).cap et - (l.length+ys.length))).toList.take ((l++ys).length*ke.size)=c.toList.take (l.length*ke.size)++news:=by
        have:(c.toList.take (l.length*ke.size)++news).length=(l++ys).length*ke.size:=by
         simp [hnl,Ag]; omega
        simp only [B6,Bh];rw [<-this,Bp]
       rw [e1]; exact RdL.append (RdL.mono (S:=S) (S':=S) (w:=w) (w':=w.drew) (λb hb=>⟨hb,rfl⟩) h9) (RdL.mono (S:=S) (S':=S) (w:=w) (w':=w.drew) (λb hb=>⟨hb,rfl⟩) hnr)
     ·rw [Do,Dn]
      exact ⟨ke,l++ys,ver'+1,false,Dr _ _ _,Al _,λ_=>.inr ⟨w.heap.size,by simp,by simp⟩⟩
 case cap e' l=>
  split at h<;>try (cases h; done)
  rename_i zs hfr hzs';have:=TV.as_some hzs';cases this;simp only [Ad] at h;subst h;obtain ⟨hfr1,hfr2⟩:=Ey hfr;have hSx:=hS (λq hq=>hacc q (by simp; exact .inr hq));have hmn:me nx=none:=by rw [hacc nx (by simp)]; exact hfr1
  have hdec:=Bw hok;have hlim:=limb (b:=dd.bytes) hdec.2;have hy:ys≠[]:=List.length_pos_iff.1 hdec.1;obtain ⟨hv,ca,cn,hcap⟩:=hGs;obtain ⟨ad,cc,news,rfl,hnl,hnr,hnews⟩:=hSx.cases' (Rd.length ke) hy;have hpos:=hdec.1;have hb1:1<=dd.bytes:=by
   rcases B2 dd.bytes with h0 | h0
   ·have:=hlim.2 h0; omega
   ·exact h0
  have hylt:zs.length+ys.length<=140737488355328:=Am (B3 _ hb1) hlim.1;rcases VRd.sl.1 hv with ⟨rfl,rfl⟩ | ⟨g,off,cap,c,tb,fr,rfl,hcl0,hSg,hc,h9⟩ | ⟨a0,rfl,rfl⟩
  rotate_left 2
  ·simp only [Bz,Bf] at hlim hylt
   have hrun:=run_append_grow (P:=P) w t ty et i z (Dq hT hd) hi hz1 a0 0 0 [] (by simp) (by simp) ad ys.length cc news (by rw [hisz]; exact hnl) hnews (by omega) (by omega) (growslice_fits (by omega) (by rw [hi3,Bf]; exact hlim.1));refine ⟨_,_,hrun,upd pl nx ⟨some w.drew.heap.size,0,grownCap w (0+ys.length) 0 et⟩,S,?_,?_⟩
   ·rw [Do,Dn,A2]
    refine (hI.drew).grownRow (λb0 hb0=>by rw [hmn] at hb0; cases hb0) (by omega) (by rw [Bf]; exact B4 w _ _ _) (grownCap_le_maxLen w _ _ _ (by simp only [maxLen]; omega)) ?_ ?_
    ·simp only [B5,Bi,hnl,size_zeroCells,hzs,Bz,Bf]
     rw [<-Ag]
     congr 1
     have:=B4 w ys.length 0 et;omega
    ·have e1:(([]:List Value).toArray++news.toArray++Builtin.zeroCells z.cells (grownCap w (0+ys.length) 0 et - (0+ys.length))).toList.take (ys.length*ke.size)=news:=by
      rw [B6,B6,<-hnl]; simp
     rw [e1]; exact RdL.mono (S:=S) (S':=S) (w:=w) (w':=w.drew) (λb hb=>⟨hb,rfl⟩) hnr
   ·rw [Do,Dn,A2]
    exact ⟨ke,ys,0,false,Dr _ _ _,Al _,λ_=>.inr ⟨w.heap.size,by simp,by simp⟩⟩
  ·simp only [Bz,Bf] at hlim hylt
   have hrun:=run_append_nil (P:=P) w t ty et i z (Dq hT hd) hi hz1 ad ys.length cc news (by rw [hisz]; exact hnl) hnews hpos (by omega) (by rw [hi3]; omega);refine ⟨_,_,hrun,upd pl nx ⟨some w.drew.heap.size,0,grownCap w ys.length 0 et⟩,S,?_,?_⟩
   ·rw [Do,Dn,A2]
    refine (hI.drew).grownRow (λb0 hb0=>by rw [hmn] at hb0; cases hb0) (by omega) (B4 w _ _ _) (grownCap_le_maxLen w _ _ _ (by simp only [maxLen]; omega)) ?_ ?_
    ·simp only [B5,Bi,hnl,size_zeroCells,hzs]
     rw [<-Ag]
     congr 1
     have:=B4 w ys.length 0 et;omega
    ·have e1:(news.toArray++Builtin.zeroCells z.cells (grownCap w ys.length 0 et - ys.length)).toList.take (ys.length*ke.size)=news:=by
      rw [B6,<-hnl]; simp
     rw [e1]; exact RdL.mono (S:=S) (S':=S) (w:=w) (w':=w.drew) (λb hb=>⟨hb,rfl⟩) hnr
   ·rw [Do,Dn,A2]
    exact ⟨ke,ys,0,false,Dr _ _ _,Al _,λ_=>.inr ⟨w.heap.size,by simp,by simp⟩⟩
  ·have hcn:cap=zs.length:=by
    injection hcap with _ h1 h2
    omega
   subst hcn;obtain ⟨olds,hold⟩:∃olds,olds=(c.toList.drop off).take (zs.length*ke.size):=⟨_,rfl⟩
   rw [<-hold] at h9;have hol:=RdL.length (Rd.length ke) h9;have holds:∀q u,olds[q]?=some u->w.cell? ((⟨g,off,none⟩:Addr).add q)=some u:=λq u hq=>by
    rw [add_eq,Aw w g (off+q) c tb fr hc];exact G1 (n:=zs.length*ke.size) hold.symm q u hq
   have hrun:=run_append_grow (P:=P) w t ty et i z (Dq hT hd) hi hz1 ⟨g,off,none⟩ zs.length zs.length olds (by rw [hisz]; exact hol) holds ad ys.length cc news (by rw [hisz]; exact hnl) hnews (by omega) (by omega) (growslice_fits (by omega) (by rw [hi3]; exact hlim.1));refine ⟨_,_,hrun,upd pl nx ⟨some w.drew.heap.size,0,grownCap w (zs.length+ys.length) zs.length et⟩,S,?_,?_⟩
   ·rw [Do,Dn]
    refine (hI.drew).grownRow (λb0 hb0=>by rw [hmn] at hb0; cases hb0) (by omega) (by rw [Ae]; exact B4 w _ _ _) (grownCap_le_maxLen w _ _ _ (by simp only [maxLen]; omega)) ?_ ?_
    ·simp only [B5,Bi,hnl,hol,size_zeroCells,hzs]
     rw [<-Ag,<-Ag]
     congr 1
     have:=B4 w (zs.length+ys.length) zs.length et;omega
    ·have e1:(olds.toArray++news.toArray++Builtin.zeroCells z.cells (grownCap w (zs.length+ys.length) zs.length et - (zs.length+ys.length))).toList.take ((zs++ys).length*ke.size)=olds++news:=by
      have:(olds++news).length=(zs++ys).length*ke.size:=by
       simp [hnl,hol,Ag]
      simp only [B6,Bh];rw [<-this,Bp]
     rw [e1]; exact RdL.append (RdL.mono (S:=S) (S':=S) (w:=w) (w':=w.drew) (λb hb=>⟨hb,rfl⟩) h9) (RdL.mono (S:=S) (S':=S) (w:=w) (w':=w.drew) (λb hb=>⟨hb,rfl⟩) hnr)
   ·rw [Do,Dn]
    exact ⟨ke,zs++ys,0,false,Dr _ _ _,Al _,λ_=>.inr ⟨w.heap.size,by simp,by simp⟩⟩
theorem QS (z:Array Value) (n:Nat):(madeCells z ((n+1)*z.size)).toList=z.toList++(madeCells z (n*z.size)).toList:=by
 have hl:(madeCells z ((n+1)*z.size)).toList.length=(z.toList++(madeCells z (n*z.size)).toList).length:=by
  simp [size_madeCells,Ag]; omega
 apply List.ext_getElem hl;intro i h1 h2;rw [List.getElem_append];have hN:i<(n+1)*z.size:=by simpa [size_madeCells] using h1
 simp only [madeCells,Array.getElem_toList,Array.getElem_map,Array.getElem_range];split
 ·rename_i hi
  have hi':i<z.size:=by simpa using hi
  rw [B7 hi'];simp [hi']
 ·rename_i hi
  have hi':z.size<=i:=by simpa using hi
  have e:(i - z.toList.length) % z.size=i % z.size:=by
   simp only [Bt];rw [<-Nat.mod_eq_sub_mod hi']
  rw [e]
theorem RdL.made {α:Type} {R:α->List Value->Prop} {x:α} {z:Array Value} (h:R x z.toList):∀n,RdL R (List.replicate n x) (madeCells z (n*z.size)).toList
 | 0=>by simp [madeCells,RdL]
 | n+1=>by
  rw [QS,List.replicate_succ];exact ⟨_,_,rfl,h,RdL.made h n⟩
theorem QR (hT:D3 P T) {np:Nat} (hnp:np=C.pp.length) {t et:TypeId} {e:Kd} {dd:TyD} {nx:Nat} (hkt:tkd T t=some (.sl e)) (hd:E0 T t=some (.slice et)) (hdd:Kj T et=some dd) (hmn:me nx=none) (hfr2:np<=nx)
  (hI:Inv C tm me pl S a w) (l c:Int) (h0:0<=l) (h1:l<=c) (h2:c<=((LIMB/dd.bytes:Nat):Int)):
  ∃u w',(Instr.makeSlice t (.int .i64 l) (.int .i64 c)).run P w=.ok u w'/\F6 C tm me (.own nx 0) [(nx,.row e (List.replicate l.toNat e.zero) 0 false)] a u w':=by
 obtain ⟨i,hi,hi2,hi3,hi4⟩:=(hT et dd hdd).info;have hkd:dd.kd=some e:=by
  have:=Ik hT hkt hd;simpa [tkd,hdd] using this
 obtain ⟨z,hz1,hz2,_⟩:=hi4 e hkd;have hisz:i.size=e.size:=by rw [hi2,((hT et dd hdd).kd e hkd).1]
 have hzs:=Ju e hz2;have hcn:c.toNat<=LIMB/dd.bytes:=by omega
 have hb:c.toNat*dd.bytes<=140737488355328:=by
  have:=(limb (n:=0) (m:=c.toNat) (b:=dd.bytes) (by rw [Bf]; exact hcn)).1;simpa using this
 have hc2:c.toNat<=140737488355328:=by
  rcases B2 dd.bytes with h3 | h3
  ·rw [h3] at hcn; simp at hcn; omega
  ·exact Am (B3 _ h3) hb
 have hbi:(i.bytes:Int)*c<=281474976710656:=by
  have:(c:Int)=(c.toNat:Int):=by omega
  rw [this,hi3,<-Int.natCast_mul,Nat.mul_comm];omega
 have hrun:=run_make (P:=P) w t et i z (Dq hT hd) hi hz1 .i64 .i64 l c h0 h1 hbi (by omega);refine ⟨_,_,hrun,upd pl nx ⟨some w.heap.size,0,c.toNat⟩,S,?_,?_⟩
 ·rw [Do,Dn]
  refine hI.grownRow (λb0 hb0=>by rw [hmn] at hb0; cases hb0) (by omega) (by simp; omega) (by simp only [maxLen]; omega) (by rw [size_madeCells,hisz]) ?_;have hR:=RdL.made (R:=Rd S w e) (x:=e.zero) (z:=z.cells) (by rw [hz2]; exact Rd.zero e) c.toNat;have:=(RdL.take_drop (Rd.length e) hR l.toNat).1;rw [hisz,<-hzs];rw [List.take_replicate,A6 (by omega)] at this;simpa [hzs] using this
 ·rw [Do,Dn]
  exact ⟨e,_,0,false,Dr _ _ _,Al _,λ_=>.inr ⟨w.heap.size,by simp,by simp⟩⟩
theorem Qs (hT:D3 P T) {np:Nat} (hnp:np=C.pp.length) {rd:Nat->Option Blk} {t:TypeId} {sl sc:SV} {nx:Nat} {r:ARes} {vl vc:Value} (h:O1 T np rd t sl sc nx=some r) (hok:r.ok=true) (hacc:∀i∈r.acc,me i=rd i)
  (hI:Inv C tm me pl S a w) (hGl:G S w me pl sl vl) (hGc:G S w me pl sc vc):∃u w',(Instr.makeSlice t vl vc).run P w=.ok u w'/\F6 C tm me r.sv r.wr a u w':=by
 unfold O1 at h;split at h<;>try (cases h; done)
 rename_i e et l c hkt hd hfr;split at h<;>try (cases h; done)
 rename_i dd hdd;simp only [Ad] at h;subst h;rw [VRd.int.1 hGl,VRd.int.1 hGc];obtain ⟨hfr1,hfr2⟩:=Ey hfr;have hmn:me nx=none:=by rw [hacc nx (by simp)]; exact hfr1
 obtain ⟨h0,h1,h2⟩:=Bw hok;exact QR hT hnp hkt hd hdd hmn hfr2 hI l c h0 h1 h2
theorem Yn (off:Nat):∀(vs:List Value) (k:Nat) (cs:Array Value),off+k+vs.length<=cs.size->
  ((vs.zipIdx k).foldl (λcs (c,j)=>cs.setIfInBounds (off+j) c) cs).toList=cs.toList.take (off+k)++vs++cs.toList.drop (off+k+vs.length)
 | [],k,cs,h=>by simp
 | v::vs,k,cs,h=>by
  simp only [Af] at h;simp only [List.zipIdx_cons,B8];rw [Yn off vs (k+1) (cs.setIfInBounds (off+k) v) (by simp; omega)];rw [Array.toList_setIfInBounds];have:=list_seg_step cs.toList (off+k) v vs (by simp; omega);have e:off+k+(v::vs).length=off+k+(vs.length+1):=rfl;rw [e,<-this]
  congr 2
theorem Ns {place:Nat->Option (Nat×Nat)} {cells:Array Value} {i off size:Nat} {v:Value} {rest:List (Nat×Value)} (hp:place i=some (off,size)) (hs:v.cells.size=size) (hfit:off+size<=cells.size):
  Instr.fill place cells ((i,v)::rest)=Instr.fill place (cells.toList.take off++v.cells.toList++cells.toList.drop (off+size)).toArray rest:=by
 subst hs;simp only [Instr.fill,hp];rw [Ak (by simp; omega)]
 congr 1
 apply Bq;have:=Yn off v.cells.toList 0 cells (by simp; omega);simp only [Ax,Bt] at this;rw [Bh,<-this,<-Array.foldl_toList]
 congr 1
 simp [Array.toList_zipIdx]
def PartsG (S:Nat->Prop) (w:World) (me:Nat->Option Blk) (pl:Nat->Plc):List (Nat×SV)->List (Nat×Value)->Prop
 | [],vs=>vs=[]
 | (i,s)::l,vs=>∃v vs',vs=(i,v)::vs'/\G S w me pl s v/\PartsG S w me pl l vs'
theorem PartsG.keeps {S':Nat->Prop} {w':World} {me':Nat->Option Blk} {pl':Nat->Plc} (h:Keeps S w me pl S' w' me' pl'):∀{l:List (Nat×SV)} {vs:List (Nat×Value)},PartsG S w me pl l vs->PartsG S' w' me' pl' l vs
 | [],_,hh=>hh
 | _::_,_,⟨v,vs',e,h1,h2⟩=>⟨v,vs',e,h1.keeps h,PartsG.keeps h h2⟩
theorem NX {S:Nat->Prop} {k:Kd} {x x':k.T} {s:Step} {k':Kd} {y:k'.T} {o:Nat} {cs cy:List Value} (hr:Rd S w k x cs) (hok:k.ok1 s) (ho:k.off1 s=some (o,k')) (hset:set1 k x s ⟨k',y⟩=some x') (hy:Rd S w k' y cy):
  Rd S w k x' (cs.take o++cy++cs.drop (o+k'.size))/\o+k'.size<=cs.length:=by
 obtain ⟨k2,z,hget,has⟩:=Yl hset;have ek:=Sg has;simp only at ek;subst ek;obtain ⟨o',ho',c1,c2,c3,e,hl,hr2,hs⟩:=zty k x cs s k' z hr hok hget;rw [ho] at ho';cases ho';obtain ⟨z',hz',hh⟩:=hs y;rw [hset] at hz';cases hz';have h2:=Rd.length _ z c2 hr2;have h3:=hh S w cy (λb hb=>⟨hb,rfl⟩) hy;subst e;have e1:(c1++c2++c3).take o=c1:=by rw [<-hl,Ah,Bp]
 have e2:(c1++c2++c3).drop (o+k'.size)=c3:=by
  have:o+k'.size=(c1++c2).length:=by simp; omega
  rw [this,Bc]
 rw [e1,e2];exact ⟨h3,by simp; omega⟩
theorem Jc {np:Nat} (hnp:np=C.pp.length) {rd:Nat->Option Blk} (st:Bool) {k:Kd} {place:Nat->Option (Nat×Nat)} (hplace:∀i o k',k.off1 (if st then .fld i else .idx i)=some (o,k')->(k.ok1 (if st then .fld i else .idx i))->place i=some (o,k'.size))
  (hI:Inv C tm me pl S a w):
  ∀(parts:List (Nat×SV)) (x x':k.T) (cs:Array Value) (vs:List (Nat×Value)),(∀p∈parts,k.ok1 (if st then .fld p.1 else .idx p.1))->Ln np rd st k x parts=some x'->Rd S w k x cs.toList->PartsG S w me pl parts vs->
   ∃cs',Instr.fill place cs vs=some cs'/\Rd S w k x' cs'.toList
 | [],x,x',cs,vs,_,h,hr,hp=>by
  simp only [Ln,Ad] at h;subst h;simp only [PartsG] at hp;subst hp;exact ⟨cs,rfl,hr⟩
 | (i,sv)::l,x,x',cs,vs,hall,h,hr,hp=>by
  obtain ⟨v,vs',rfl,hG,hp2⟩:=hp;simp only [Ln] at h;split at h<;>try (cases h; done)
  rename_i o k' ho;split at h<;>try (cases h; done)
  rename_i y hval;split at h<;>try (cases h; done)
  rename_i x1 hset;obtain ⟨S',h1,h2,cy,h3,rfl⟩:=Ez hnp hval (by simp) hI hG;have hS:∃cy',Rd S w k' y cy'/\k'.mkV cy=k'.mkV cy':=by
   cases sv<;>simp only [Ix] at hval<;>try (cases hval; done)
   case nil=>
    cases k'<;>simp only [reduceCtorEq] at hval
    simp only [Ad,Be] at hval;obtain ⟨rfl,_,_⟩:=hval;refine ⟨[.slice none 0 0],⟨_,rfl,.inl ⟨rfl,rfl⟩⟩,?_⟩;simp only [G] at hG;rw [hG]; rfl
   case val k0 x0=>
    split at hval<;>try (cases hval; done)
    rename_i y' hy';simp only [Ad,Be] at hval;obtain ⟨rfl,_,_⟩:=hval;have:=TV.as_some hy';cases this;obtain ⟨c,hc1,hc2⟩:=hG;exact ⟨c,hc1,hc2⟩
   case own=>
    split at hval<;>try (cases hval; done)
    split at hval<;>try (cases hval; done)
   case win=>
    split at hval<;>try (cases hval; done)
    split at hval<;>try (cases hval; done)
   case asl=>
    split at hval<;>try (cases hval; done)
    split at hval<;>try (cases hval; done)
    split at hval<;>try (cases hval; done)
   case fn f=>
    cases k'<;>simp only [reduceCtorEq] at hval
    simp only [Ad,Be] at hval;obtain ⟨rfl,_,_⟩:=hval;exact (VRd.fn (S:=S) (w:=w) (x:=.fn f)).2 hG
   case clo=>
    split at hval<;>try (cases hval; done)
    split at hval<;>try (cases hval; done)
    split at hval<;>try (cases hval; done)
  obtain ⟨cy',hy,ev⟩:=hS;rw [ev];have hok1:=hall (i,sv) (by simp);obtain ⟨hr2,hfit⟩:=NX hr hok1 ho hset hy;have hcl:cs.toList.length=cs.size:=by simp
  have hys:(k'.mkV cy').cells.size=k'.size:=by rw [hy.cells]; simpa using Rd.length k' y cy' hy
  rw [Ns (hplace i o k' ho hok1) hys (by omega)];refine Jc hnp st hplace hI l x1 x' _ vs' (λp hp=>hall p (by simp [hp])) h ?_ hp2;rw [Bh,hy.cells,Bh];exact hr2
theorem Wf (hT:D3 P T) {np:Nat} (hnp:np=C.pp.length) {rd:Nat->Option Blk} {t:TypeId} {parts:List (Nat×SV)} {nx:Nat} {r:ARes} {vs:List (Nat×Value)} (h:DZ T np rd t parts nx=some r)
  (hI:Inv C tm me pl S a w) (hp:PartsG S w me pl parts vs):∃u,(Instr.build t vs.toArray).run P w=.ok u w/\r.wr=[]/\G S w me pl r.sv u:=by
 unfold DZ at h;split at h<;>try (cases h; done)
 rename_i d hd;split at h<;>try (cases h; done)
 ·rename_i k fs hk hdesc
  split at h<;>try (cases h; done)
  rename_i x hx;simp only [ok1,Ad] at h;subst h;have hkt:tkd T t=some k:=by simp [tkd,hd,hk]
  have hdt:E0 T t=some (.struct fs):=by simp [E0,hd,hdesc]
  obtain ⟨z,hz,hzc⟩:=Fy hT w hkt;have hfo:D4 T fs.toList 0 k=true:=I0 hT hkt hdt;have hmap:∃places:Array (Nat×Nat),(fs.mapM (m:=Sem) λf=>do pure (f.offset,<-sizeOf f.type)).run P w=.ok places w/\∀i o k',k.offF i=some (o,k')->places[i]?=some (o,k'.size):=by
   have aux:∀(l:List Field) (off:Nat) (k:Kd) (acc:Array (Nat×Nat)),D4 T l off k=true->∃q:List (Nat×Nat),(l.foldlM (m:=Sem) (λ(b:Array (Nat×Nat)) (f:Field)=>do let r <-(do pure (f.offset,<-sizeOf f.type):Sem (Nat×Nat)); pure (b.push r)) acc).run P w=.ok (acc++q.toArray) w/\∀i o k',k.offF i=some (o,k')->q[i]?=some (off+o,k'.size):=by
    intro l
    induction l with
    | nil=>intro off k acc hf; exact ⟨[],by simp,λi o k' ho=>by cases k<;>simp [D4] at hf; simp [Kd.offF] at ho⟩
    | cons f l ih=>
     intro off k acc hf;cases k<;>simp only [D4,Bx] at hf
     rename_i ka kb;simp only [Ab] at hf;obtain ⟨⟨⟨f1,f2⟩,f3⟩,f4⟩:=hf;obtain ⟨q,hq1,hq2⟩:=ih (off+ka.size) kb (acc.push (f.offset,ka.size)) f4;have hsz:=D1 hT w (Ea f2);refine ⟨(f.offset,ka.size)::q,?_,λi o k' ho=>?_⟩
     ·simp only [List.foldlM_cons,As,hsz,Av,A1,hq1]
      simp
     ·cases i with
      | zero=>simp only [Kd.offF,Ad,Be] at ho; obtain ⟨rfl,rfl⟩:=ho; simp [Aa f1]
      | succ i=>
       simp only [Kd.offF] at ho;split at ho<;>try (cases ho; done)
       rename_i o' k2 ho';simp only [Ad,Be] at ho;obtain ⟨rfl,rfl⟩:=ho;have:=hq2 i o' k2 ho';simpa [Bn] using this
   obtain ⟨q,hq1,hq2⟩:=aux fs.toList 0 k #[] hfo;refine ⟨q.toArray,?_,λi o k' ho=>by simpa using hq2 i o k' ho⟩;rw [Array.mapM_eq_foldlM,<-Array.foldlM_toList];simpa using hq1
  obtain ⟨places,hm1,hm2⟩:=hmap;obtain ⟨cs',hf,hr⟩:=Jc hnp true (place:=(places[·]?)) (λi o k' ho _=>hm2 i o k' (by rw [<-Vm]; exact ho)) hI parts k.zero x z.cells vs (λp _=>BH) hx (by rw [hzc]; exact Rd.zero k) hp;have hag:k.agg=true:=E4 hfo;refine ⟨.agg cs',?_,rfl,cs'.toList,hr,by simp [Kd.mkV,hag]⟩;simp only [Instr.build,As,hz,Av,Au (Dq hT hdt),hm1];simp only [hf,A1]
 ·rename_i k n et hk hdesc
  split at h<;>try (cases h; done)
  rename_i x hall hx;simp only [ok1,Ad] at h;subst h;have hkt:tkd T t=some k:=by simp [tkd,hd,hk]
  have hdt:E0 T t=some (.array n et):=by simp [E0,hd,hdesc]
  obtain ⟨z,hz,hzc⟩:=Fy hT w hkt;have hdo:=I0 hT hkt hdt;obtain ⟨m,e,rfl⟩:∃m e,k=.arr m e:=by
   cases k<;>simp only [Fk,Bx] at hdo
   exact ⟨_,_,rfl⟩
  simp only [Fk,Ab] at hdo;obtain ⟨hnm,het⟩:=hdo;have:=Aa hnm;subst this;have hsz:=D1 hT w (Ea het);obtain ⟨cs',hf,hr⟩:=Jc hnp false (place:=λi=>some (i*e.size,e.size)) (λi o k' ho _=>by simp [Kd.off1] at ho; obtain ⟨rfl,rfl⟩:=ho; rfl) hI parts (Kd.zero _) x z.cells vs
   (λp hp=>by
    have:=B9.1 hall p hp;show p.1<n;simpa [Nat.blt_eq] using this) hx (by rw [hzc]; exact Rd.zero _) hp
  refine ⟨.agg cs',?_,rfl,cs'.toList,hr,by simp [Kd.mkV,Kd.agg]⟩;simp only [Instr.build,As,hz,Av,Au (Dq hT hdt),hsz];simp only [hf,A1]
end
end Go.PG
end
