/- A part of the proof; no condition of its own. -/
import Derived.Test.YtlbchnapmipbhaaGreatDoorXF1
import Derived.Laws.BytesString
import Derived.Laws.Cover3
set_option linter.unusedVariables false
set_option linter.unusedSimpArgs false
set_option linter.unusedSectionVars false
open Go.IntKind (i64 u64 u8 u32 u16)
open List (replicate)
theorem Ca:type_of% @_root_.if_true:=@_root_.if_true
theorem Cb:type_of% @_root_.not_true_eq_false:=@_root_.not_true_eq_false
theorem Cc:type_of% @_root_.List.map_cons:=@_root_.List.map_cons
theorem Cd:type_of% @_root_.List.mem_cons:=@_root_.List.mem_cons
theorem Ce:type_of% @_root_.List.mem_singleton:=@_root_.List.mem_singleton
theorem Cf:type_of% @_root_.List.mem_cons_of_mem:=@_root_.List.mem_cons_of_mem
theorem Cg:type_of% @_root_.Array.getElem?_eq_getElem:=@_root_.Array.getElem?_eq_getElem
theorem Ch:type_of% @_root_.Nat.add_sub_cancel:=@_root_.Nat.add_sub_cancel
theorem Ci:type_of% @_root_.Nat.lt_trichotomy:=@_root_.Nat.lt_trichotomy
theorem Cj:type_of% @_root_.List.getElem?_eq_none:=@_root_.List.getElem?_eq_none
theorem Ck:type_of% @_root_.List.getElem?_zip_eq_some:=@_root_.List.getElem?_zip_eq_some
theorem Cl:type_of% @_root_.List.getElem?_map:=@_root_.List.getElem?_map
theorem Cn:type_of% @_root_.List.append_eq_nil_iff:=@_root_.List.append_eq_nil_iff
theorem Co:type_of% @_root_.List.drop_eq_getElem_cons:=@_root_.List.drop_eq_getElem_cons
theorem Cp:type_of% @_root_.Array.size_replicate:=@_root_.Array.size_replicate
theorem Cq:type_of% @_root_.List.getElem_of_mem:=@_root_.List.getElem_of_mem
theorem Cr:type_of% @_root_.Array.getElem?_append_left:=@_root_.Array.getElem?_append_left
noncomputable section
namespace Go.PG
section
variable {C:Ctx} {tm:Nat->SV} {me:Nat->Option Blk} {pl:Nat->Plc} {S:Nat->Prop} {a:Act} {w:World} {P:Program} {T:Tab}
theorem Keeps.refl:Keeps S w me pl S w me pl:=⟨λ_ hb=>⟨hb,rfl⟩,λi b hi=>⟨b,hi,Compat.refl _ _⟩⟩
theorem Compat.trans {p q r:Plc} {x y z:Blk} (h:Compat p q x y) (h':Compat q r y z):Compat p r x z:=by
 cases x<;>cases y<;>cases z<;>simp only [Compat] at*
 ·exact ⟨h.1.trans h'.1,h'.2.trans h.2⟩
 ·obtain ⟨h1,h2,h3⟩:=h
  obtain ⟨g1,g2,g3⟩:=h';refine ⟨h1.trans g1,by omega,λe=>?_⟩;obtain ⟨a1,a2⟩:=g3 (by omega);obtain ⟨b1,b2⟩:=h3 (by omega);exact ⟨a1.trans b1,a2.trans b2⟩
 ·exact ⟨h.1.trans h'.1,h'.2.trans h.2⟩
 ·exact ⟨h.1.trans h'.1,h.2.1.trans h'.2.1,h'.2.2.trans h.2.2⟩
theorem Keeps.trans {S1 S2:Nat->Prop} {w1 w2:World} {m1 m2:Nat->Option Blk} {p1 p2:Nat->Plc} (h:Keeps S w me pl S1 w1 m1 p1) (h':Keeps S1 w1 m1 p1 S2 w2 m2 p2):Keeps S w me pl S2 w2 m2 p2:=
 ⟨λb hb=>⟨(h'.s b (h.s b hb).1).1,(h'.s b (h.s b hb).1).2.trans (h.s b hb).2⟩,λi b hi=>by
  obtain ⟨b',h1,h2⟩:=h.m i b hi;obtain ⟨b'',h3,h4⟩:=h'.m i b' h1;exact ⟨b'',h3,h2.trans h4⟩⟩
theorem Ia {wr:List (Nat×Blk)} {me rd:Nat->Option Blk} {i:Nat} (h:me i=rd i):laid wr me i=laid wr rd i:=by
 unfold laid; rw [h]
theorem Mc {np:Nat} (hnp:np=C.pp.length) {e:Kd}:
  ∀(parts:List (Nat×SV)) (rd me:Nat->Option Blk) (S:Nat->Prop) (l l':List e.T) (wr:List (Nat×Blk)) (acc:List Nat) (cs:Array Value) (vs:List (Nat×Value)),
   Nb np rd e l parts=some (l',wr,acc)->(∀i∈acc,me i=rd i)->Inv C tm me pl S a w->PartsG S w me pl parts vs->RdL (Rd S w e) l cs.toList->(∀p∈parts,p.1<l.length)->
   ∃S' cs',Inv C tm (laid wr me) pl S' a w/\Keeps S w me pl S' w (laid wr me) pl/\Instr.fill (λi=>some (i*e.size,e.size)) cs vs=some cs'/\RdL (Rd S' w e) l' cs'.toList/\cs'.size=cs.size/\l'.length=l.length/\
    (∀i,mget wr i≠none->rd i≠none)
 | [],rd,me,S,l,l',wr,acc,cs,vs,h,_,hI,hp,hr,_=>by
  simp only [Nb,Ad,Be] at h;obtain ⟨rfl,rfl,rfl⟩:=h;simp only [PartsG] at hp;subst hp;exact ⟨S,cs,by rw [Dn]; exact hI,by rw [Dn]; exact Keeps.refl,rfl,hr,rfl,rfl,λi hi=>absurd rfl hi⟩
 | (i,sv)::parts,rd,me,S,l,l',wr,acc,cs,vs,h,hacc,hI,hp,hr,hlt=>by
  obtain ⟨v,vs',rfl,hG,hp2⟩:=hp;simp only [Nb] at h;split at h<;>try (cases h; done)
  rename_i y wr1 acc1 hval;split at h<;>try (cases h; done)
  rename_i l2 wr2 acc2 hrest;simp only [Ad,Be] at h;obtain ⟨rfl,rfl,rfl⟩:=h;obtain ⟨S1,h1,h2,cy,h3,rfl⟩:=Ez hnp hval (λq hq=>hacc q (by simp [hq])) hI hG;have hi:i<l.length:=hlt (i,sv) (by simp);have hr1:=RdL.mono (λb hb=>h2.s b hb) hr;obtain ⟨c1,c2,c3,e1,hl,hr2,hset⟩:=RdL.nth (Rd.length e) i e.zero hr1 hi;have hcy:=Rd.length e y cy h3;have hc2:=Rd.length e _ c2 hr2;have hcl:cs.toList.length=cs.size:=by simp
  have hfit:i*e.size+e.size<=cs.size:=by
   rw [<-hcl,e1]; simp; omega
  have hys:(e.mkV cy).cells.size=e.size:=by rw [h3.cells]; simpa using hcy
  have ht:cs.toList.take (i*e.size)=c1:=by rw [e1,<-hl,Ah,Bp]
  have hd:cs.toList.drop (i*e.size+e.size)=c3:=by
   have:i*e.size+e.size=(c1++c2).length:=by simp; omega
   rw [e1,this,Bc]
  have hnew:=hset (Rd S1 w e) y cy (λ_ _ h=>h) h3;have hstep:=Ns (place:=λi=>some (i*e.size,e.size)) (cells:=cs) (i:=i) (rest:=vs') rfl hys hfit;obtain ⟨S2,cs',g1,g2,g3,g4,g5,g6,g7⟩:=Mc hnp parts (laid wr1 rd) (laid wr1 me) S1 (l.set i y) l2 wr2 acc2 (cs.toList.take (i*e.size)++(e.mkV cy).cells.toList++cs.toList.drop (i*e.size+e.size)).toArray vs' hrest
   (λq hq=>Ia (hacc q (by simp [hq]))) h1 (hp2.keeps h2) (by rw [Bh,h3.cells,ht,hd]; exact hnew) (λp hp=>by simpa using hlt p (by simp [hp]))
  refine ⟨S2,cs',by rw [Em]; exact g1,by rw [Em]; exact h2.trans g2,by rw [hstep]; exact g3,g4,?_,by simpa using g6,λq hq=>?_⟩
  ·rw [g5,h3.cells,Bh,Bi,ht,hd,<-hcl,e1]; simp; omega
  ·rw [Ft] at hq
   unfold laid at hq;have hq1:mget wr2 q≠none\/mget wr1 q≠none:=by
    cases h5:mget wr2 q with
    | some b=>exact .inl (by simp)
    | none=>right; intro h6; rw [h5] at hq; exact hq h6
   have w1:mget wr1 q≠none->rd q≠none:=λhw=>by
    rcases Lg hval with ⟨rfl,_⟩ | ⟨i',b,b',rfl,_,hri,_⟩
    ·exact absurd rfl hw
    ·simp only [mget] at hw
     split at hw
     ·rename_i hb; have:=Aa hb; subst this; rw [hri]; simp
     ·exact absurd rfl hw
   rcases hq1 with hq1 | hq1
   ·have:=g7 q hq1
    unfold laid at this;cases h6:mget wr1 q with
    | some b=>exact w1 (by rw [h6]; simp)
    | none=>rw [h6] at this; exact this
   ·exact w1 hq1
theorem O4 (hT:D3 P T) {np:Nat} (hnp:np=C.pp.length) {own:Bool} {rd:Nat->Option Blk} {t:TypeId} {len:Nat} {parts:List (Nat×SV)} {nx:Nat} {r:ARes} {vs:List (Nat×Value)} (h:Mr T np own rd t len parts nx=some r) (hacc:∀i∈r.acc,me i=rd i)
  (hI:Inv C tm me pl S a w) (hp:PartsG S w me pl parts vs):∃u w',(Instr.buildSlice t len vs.toArray).run P w=.ok u w'/\F6 C tm me r.sv r.wr a u w':=by
 unfold Mr at h;split at h<;>try (cases h; done)
 rename_i e hkt hfr hall;split at h<;>try (cases h; done)
 rename_i l wr acc hlim hput;obtain ⟨hfr1,hfr2⟩:=Ey hfr;have hlim0:len*(e.size+1)<=16777216:=Bj hlim;have hlim':len*e.size<=16777216:=Am (Nat.mul_le_mul_left _ (Nat.le_succ _)) hlim0;have hlim2:len<=16777216:=Am (B3 _ (Nat.succ_pos _)) hlim0;obtain ⟨et,hd⟩:=UA hT hkt;have het:=Ik hT hkt hd;have hsz:=D1 hT w het;obtain ⟨z,hz,hzc⟩:=Fy hT w het;have hzs:=Ju e hzc;have hra:∃q,r.acc=nx::q/\q=acc/\∃b,r.wr=(nx,b)::wr:=by
  cases own<;>simp only [Ad] at h<;>subst h<;>exact ⟨_,rfl,rfl,_,rfl⟩
 obtain ⟨q,hq1,rfl,bb,hq2⟩:=hra;have hmn:me nx=none:=by rw [hacc nx (by rw [hq1]; simp)]; exact hfr1
 have hzero:RdL (Rd S w e) (List.replicate len e.zero) (madeCells z.cells (len*z.cells.size)).toList:=RdL.made (R:=Rd S w e) (by rw [hzc]; exact Rd.zero e) len;obtain ⟨S1,cs',h1,h2,h3,h4,h5,h6,h7⟩:=Mc hnp parts rd me S (List.replicate len e.zero) l wr q (madeCells z.cells (len*z.cells.size)) vs hput (λi hi=>hacc i (by rw [hq1]; simp [hi])) hI hp hzero
  (λp hp=>by have:=B9.1 hall p hp; simpa [Nat.blt_eq] using this)
 have hll:l.length=len:=by simpa using h6
 have hmn':laid wr me nx=none:=by
  unfold laid;cases h8:mget wr nx with
  | some b=>exact absurd hfr1 (h7 nx (by rw [h8]; simp))
  | none=>exact hmn
 have hmade:(madeCells z.cells (len*z.cells.size))=((Array.range (len*e.size)).map ((if len*e.size=0 then #[] else z.cells)[· % (if len*e.size=0 then #[] else z.cells).size]!)):=by
  rw [hzs]
  by_cases h0:len*e.size=0
  ·simp [madeCells,h0]
  ·simp only [madeCells,h0,By]
 have hrun:(Instr.buildSlice t len vs.toArray).run P w=.ok (.slice (some ⟨w.heap.size,0,none⟩) len len) (w.alloc (.cells cs' et)):=by
  rw [hmade] at h3;have hn:¬(len*e.size>2^24):=by omega
  simp only [Instr.buildSlice,As,Au (Dq hT hd),Av,hsz];rw [Ak hn]
  by_cases h0:len*e.size=0
  ·simp only [h0,Ca] at h3
   simp at h3;simp [h0,h3,newRow]
  ·simp only [h0,By] at h3
   simp [h0,hz,h3,newRow]
 have hcsz:cs'.size=len*e.size:=by rw [h5,size_madeCells,hzs]
 have hg:=h1.grownRow (i:=nx) (v:=0) (c:=cs') (t:=et) (cap:=len) (e:=e) (l:=l) (λb0 hb0=>by rw [hmn'] at hb0; cases hb0) (by omega) (by omega) (by
   simp only [maxLen];omega) hcsz (by
   rw [hll,<-hcsz];have:cs'.size=cs'.toList.length:=by simp
   rw [this,Bl]; exact h4)
 cases own
 ·simp only [Ad] at h
  subst h;obtain ⟨S2,g1,g2,g3⟩:=hg.shutRow (Dr _ _ _) (.inr trivial);refine ⟨_,_,hrun,_,S2,by rw [Do]; rw [za7] at g1; exact g1,?_⟩;refine VRd.sl.2 (.inr (.inl ⟨w.heap.size,0,len,cs',et,(0,0),by rw [hll],by omega,g3 _ (by simp),Bk w _,?_⟩));rw [Bo,hll,<-hcsz];have:cs'.size=cs'.toList.length:=by simp
  rw [this,Bl];exact RdL.mono (λb hb=>⟨(g2.s b hb).1,heap_alloc_old w _ b (h1.sfr b hb).1⟩) h4
 ·simp only [Ad] at h
  subst h;refine ⟨_,_,hrun,_,S1,by rw [Do]; exact hg,?_⟩;rw [Do];exact ⟨e,l,0,false,Dr _ _ _,Al _,λ_=>.inr ⟨w.heap.size,by simp,by simp [hll]⟩⟩
theorem Kx {np:Nat} (hnp:np=C.pp.length) {st:Bool} {k:Kd}:
  ∀(parts:List (Nat×SV)) (rd me:Nat->Option Blk) (S:Nat->Prop) (parts':List (Nat×SV)) (wr:List (Nat×Blk)) (acc:List Nat) (vs:List (Nat×Value)),
   Ky np rd st k parts=some (parts',wr,acc)->(∀i∈acc,me i=rd i)->Inv C tm me pl S a w->PartsG S w me pl parts vs->
   ∃S',Inv C tm (laid wr me) pl S' a w/\Keeps S w me pl S' w (laid wr me) pl/\PartsG S' w (laid wr me) pl parts' vs
 | [],rd,me,S,parts',wr,acc,vs,h,_,hI,hp=>by
  simp only [Ky,Ad,Be] at h;obtain ⟨rfl,rfl,rfl⟩:=h;exact ⟨S,by rw [Dn]; exact hI,by rw [Dn]; exact Keeps.refl,hp⟩
 | (i,sv)::l,rd,me,S,parts',wr,acc,vs,h,hacc,hI,hp=>by
  obtain ⟨v,vs',rfl,hG,hp2⟩:=hp;simp only [Ky] at h;split at h<;>try (cases h; done)
  rename_i o k' ho;split at h<;>try (cases h; done)
  rename_i y wr1 acc1 hval;split at h<;>try (cases h; done)
  rename_i l2 wr2 acc2 hrest;simp only [Ad,Be] at h;obtain ⟨rfl,rfl,rfl⟩:=h;obtain ⟨S1,h1,h2,h3⟩:=Ez hnp hval (λq hq=>hacc q (by simp [hq])) hI hG;obtain ⟨S2,g1,g2,g3⟩:=Kx hnp l (laid wr1 rd) (laid wr1 me) S1 l2 wr2 acc2 vs' hrest (λq hq=>Ia (hacc q (by simp [hq]))) h1 (hp2.keeps h2);rw [Em];exact ⟨S2,g1,h2.trans g2,⟨v,vs',rfl,VRd.mono g2.s h3,g3⟩⟩
theorem Zf (hT:D3 P T) {np:Nat} (hnp:np=C.pp.length) {rd:Nat->Option Blk} {t:TypeId} {parts:List (Nat×SV)} {nx:Nat} {r:ARes} {vs:List (Nat×Value)} (h:VE T np rd t parts nx=some r)
  (hacc:∀i∈r.acc,me i=rd i) (hI:Inv C tm me pl S a w) (hp:PartsG S w me pl parts vs):∃u,(Instr.build t vs.toArray).run P w=.ok u w/\F6 C tm me r.sv r.wr a u w:=by
 unfold VE at h;split at h<;>try (cases h; done)
 rename_i d hd;split at h<;>try (cases h; done)
 rename_i k hk;split at h<;>try (cases h; done)
 rename_i parts' wr acc hsh;split at h<;>try (cases h; done)
 rename_i r0 hr0;simp only [Ad] at h;subst h;obtain ⟨S',g1,_,g3⟩:=Kx hnp parts rd me S parts' wr acc vs hsh hacc hI hp;obtain ⟨u,h1,_,h3⟩:=Wf hT hnp hr0 g1 g3;exact ⟨u,h1,pl,S',g1,h3⟩
end
section
variable {C:Ctx} {tm:Nat->SV} {me:Nat->Option Blk} {pl:Nat->Plc} {S:Nat->Prop} {a:Act} {w:World} {P:Program} {T:Tab}
def EqOK (P:Program) (t:TypeId) (k:Kd):Prop:=(∀(em:Bool) (S:Nat->Prop) (w:World) (x:k.T) (cx:List Value),Rd S w k x cx->(Instr.checkKey em 10000 t (k.mkV cx)).run P w=.ok () w)/\P.eqGuardType P.depth t=false/\∀(S:Nat->Prop) (w:World) (x y:k.T) (cx cy:List Value),Rd S w k x cx->Rd S w k y cy->
 (Op.equalIn 10000 t (k.mkV cx) (k.mkV cy)).run P w=.ok (k.eqv x y) w
theorem KQ {op:BinOp} {t:TypeId} {k k':IntKind} {x y:Int} (hk:Om op=true\/Kd.ikb k k'=true) (hc:(K6 op k x y).1=true):
  ∃u,(binOp op t (.int k x) (.int k' y)).run P w=.ok u w/\G S w me pl (.val (K6 op k x y).2.1 (K6 op k x y).2.2) u:=by
 have hkk:Om op=false->k=k':=λh=>by
  rcases hk with h1 | h1
  ·rw [h] at h1; cases h1
  ·exact Kd.ikb_eq h1
 cases op<;>simp only [K6] at hc ⊢
 case add=>obtain rfl:=hkk rfl; exact ⟨_,by simp only [binOp,ne_eq,Cb,By]; rfl,VRd.int.2 rfl⟩
 case sub=>obtain rfl:=hkk rfl; exact ⟨_,by simp only [binOp,ne_eq,Cb,By]; rfl,VRd.int.2 rfl⟩
 case mul=>obtain rfl:=hkk rfl; exact ⟨_,by simp only [binOp,ne_eq,Cb,By]; rfl,VRd.int.2 rfl⟩
 case quo=>
  obtain rfl:=hkk rfl;have hy:¬y=0:=by simpa using hc
  exact ⟨_,by simp [binOp,Op.intDiv,hy],VRd.int.2 rfl⟩
 case rem=>
  obtain rfl:=hkk rfl;have hy:¬y=0:=by simpa using hc
  exact ⟨_,by simp [binOp,Op.intDiv,hy],VRd.int.2 rfl⟩
 case and=>obtain rfl:=hkk rfl; exact ⟨_,by simp only [binOp,ne_eq,Cb,By]; rfl,VRd.int.2 rfl⟩
 case or=>obtain rfl:=hkk rfl; exact ⟨_,by simp only [binOp,ne_eq,Cb,By]; rfl,VRd.int.2 rfl⟩
 case xor=>obtain rfl:=hkk rfl; exact ⟨_,by simp only [binOp,ne_eq,Cb,By]; rfl,VRd.int.2 rfl⟩
 case andNot=>obtain rfl:=hkk rfl; exact ⟨_,by simp only [binOp,ne_eq,Cb,By]; rfl,VRd.int.2 rfl⟩
 case shl=>
  have hy:¬y<0:=by have:=Bw hc; omega
  exact ⟨_,by simp [binOp,Op.shift,hy]; rfl,VRd.int.2 rfl⟩
 case shr=>
  have hy:¬y<0:=by have:=Bw hc; omega
  exact ⟨_,by simp [binOp,Op.shift,hy]; rfl,VRd.int.2 rfl⟩
 case eql=>obtain rfl:=hkk rfl; exact ⟨_,by simp only [binOp,ne_eq,Cb,By]; rfl,VRd.bool.2 rfl⟩
 case neq=>obtain rfl:=hkk rfl; exact ⟨_,by simp only [binOp,ne_eq,Cb,By]; rfl,VRd.bool.2 rfl⟩
 case lss=>obtain rfl:=hkk rfl; exact ⟨_,by simp only [binOp,ne_eq,Cb,By]; rfl,VRd.bool.2 rfl⟩
 case leq=>obtain rfl:=hkk rfl; exact ⟨_,by simp only [binOp,ne_eq,Cb,By]; rfl,VRd.bool.2 rfl⟩
 case gtr=>obtain rfl:=hkk rfl; exact ⟨_,by simp only [binOp,ne_eq,Cb,By]; rfl,VRd.bool.2 rfl⟩
 case geq=>obtain rfl:=hkk rfl; exact ⟨_,by simp only [binOp,ne_eq,Cb,By]; rfl,VRd.bool.2 rfl⟩
theorem Gk (op:BinOp) (t:TypeId) (x y:Operand) (u v:Value) (h:(∀cs,u≠.agg cs)) (h2:u≠.nilIface):(eqGuard op t x y u v).run P w=.ok () w:=by
 unfold eqGuard;cases op<;>simp<;>(cases u<;>first | (exfalso; exact h _ rfl) | (exfalso; exact h2 rfl) | simp)
theorem GZ (hT:D3 P T) {t:TypeId} (h:tkd T t=some .bool):P.underlying t=some .bool:=by
 obtain ⟨dd,h1,h2,h3⟩:=Fb hT h;have h4:=(h3.kd _ h2).2;have h5:=h3.und;obtain ⟨desc,sz,by_,kd⟩:=dd;simp only at h4 h5;cases desc<;>simp only [Fk,Bx] at h4
 ·exact h5
 ·rw [K2 rfl] at h4; cases h4
theorem MD (hT:D3 P T) {op:BinOp} {t:TypeId} {x y:SV} {ox oy:Operand} {nx:Nat} {r:ARes} {vx vy:Value} (h:aNil T op t x y nx=some r) (hGx:G S w me pl x vx) (hGy:G S w me pl y vy):
  ∃u,(do eqGuard op t ox oy vx vy; binOp op t vx vy:Sem Value).run P w=.ok u w/\r.wr=[]/\G S w me pl r.sv u:=by
 unfold aNil at h;split at h<;>try (cases h; done)
 ·rename_i e hd
  simp only [ok1,Ad] at h;subst h;have e1:vx=.slice none 0 0:=hGx;have e2:vy=.slice none 0 0:=hGy;subst e1 e2;refine ⟨.bool true,?_,rfl,VRd.bool.2 rfl⟩;rw [As,Gk _ _ _ _ _ _ (by simp) (by simp)];simp [binOp,run_equal_slice_nil w t e none 0 0 (Dq hT hd)]
 ·rename_i e e' l hd
  simp only [ok1,Ad] at h;subst h;have e2:vy=.slice none 0 0:=hGy;subst e2;obtain ⟨hne,hv⟩:=hGx;rcases VRd.sl.1 hv with ⟨h1,_⟩ | ⟨g,off,cap,c,t',fr,rfl,_⟩ | ⟨a0,rfl,rfl⟩
  rotate_left 2
  ·refine ⟨.bool false,?_,rfl,VRd.bool.2 rfl⟩
   rw [As,Gk _ _ _ _ _ _ (by simp) (by simp)];simp [binOp,run_equal_slice_nil w t e (some a0) 0 0 (Dq hT hd)]
  ·exact absurd h1 hne
  ·refine ⟨.bool false,?_,rfl,VRd.bool.2 rfl⟩
   rw [As,Gk _ _ _ _ _ _ (by simp) (by simp)];simp [binOp,run_equal_slice_nil w t e (some ⟨g,off,none⟩) l.length cap (Dq hT hd)]
theorem MG (hT:D3 P T) {eqt:List Nat} (hEq:∀t∈eqt,∀k,tkd T t=some k->EqOK P t k) {op:BinOp} {t:TypeId} {x y:SV} {ox oy:Operand} {nx:Nat} {r:ARes} {vx vy:Value} (h:aBin T eqt op t x y nx=some r) (hok:r.ok=true)
  (hGx:G S w me pl x vx) (hGy:G S w me pl y vy):∃u,(do eqGuard op t ox oy vx vy; binOp op t vx vy:Sem Value).run P w=.ok u w/\r.wr=[]/\G S w me pl r.sv u:=by
 have guard:∀{u:Value},(∀cs,vx≠.agg cs)->vx≠.nilIface->(binOp op t vx vy).run P w=.ok u w->(do eqGuard op t ox oy vx vy; binOp op t vx vy:Sem Value).run P w=.ok u w:=λh1 h2 h3=>by
  simp only [As,Gk op t ox oy vx vy h1 h2,Av,h3]
 unfold aBin at h;split at h<;>try (cases h; done)
 ·rename_i k x' k' y'
  have hk:Om op=true\/Kd.ikb k k'=true:=by
   cases h1:Om op
   ·cases h2:Kd.ikb k k'
    ·rw [h1,h2] at h; cases h
    ·exact .inr rfl
   ·exact .inl rfl
  have h:some (⟨(K6 op k x' y').1,.val (K6 op k x' y').2.1 (K6 op k x' y').2.2,[],[],nx⟩:ARes)=some r:=by
   rcases hk with h1 | h1
   ·rw [h1] at h; simpa using h
   ·rw [h1] at h; cases h2:Om op<;>(rw [h2] at h; simpa using h)
  simp only [Ad] at h;subst h;have e1:=VRd.int.1 hGx;have e2:=VRd.int.1 hGy;obtain ⟨u,hu,hg⟩:=KQ (P:=P) (t:=t) (w:=w) (S:=S) (me:=me) (pl:=pl) hk hok;refine ⟨u,guard (by rw [e1]; intro cs hh; cases hh) (by rw [e1]; intro hh; cases hh) (by rw [e1,e2]; exact hu),rfl,hg⟩
 ·rename_i x' y'
  have e1:=VRd.bool.1 hGx;have e2:=VRd.bool.1 hGy;have hg1:∀cs,vx≠.agg cs:=by rw [e1]; intro cs hh; cases hh
  have hg2:vx≠.nilIface:=by rw [e1]; intro hh; cases hh
  split at h<;>try (cases h; done)
  ·rename_i hkt
   simp only [ok1,Ad] at h;subst h;have hu:=GZ hT hkt;refine ⟨.bool (x'==y'),guard hg1 hg2 ?_,rfl,VRd.bool.2 rfl⟩;rw [e1,e2];simp [binOp,Op.equal,Op.maxDepth,run_equalIn_bool' w 9999 t x' y' hu]
  ·rename_i hkt
   simp only [ok1,Ad] at h;subst h;have hu:=GZ hT hkt;refine ⟨.bool (!(x'==y')),guard hg1 hg2 ?_,rfl,VRd.bool.2 rfl⟩;rw [e1,e2];simp [binOp,Op.equal,Op.maxDepth,run_equalIn_bool' w 9999 t x' y' hu]
 ·rename_i x' y'
  have e1:=VRd.str.1 hGx;have e2:=VRd.str.1 hGy;have hg1:∀cs,vx≠.agg cs:=by rw [e1]; intro cs hh; cases hh
  have hg2:vx≠.nilIface:=by rw [e1]; intro hh; cases hh
  split at h<;>try (cases h; done)
  ·simp only [Ad] at h
   subst h;have hs:=Bw hok;refine ⟨.string (ByteArray.append x' y'),guard hg1 hg2 ?_,rfl,VRd.str.2 rfl⟩;rw [e1,e2];have hb:¬(((ByteArray.size x'+ByteArray.size y':Nat):Int)>IntKind.i64.max):=by
    show ¬(_>(9223372036854775807:Int));omega
   simp only [binOp,Op.stringOp];rw [Ak hb];rfl
  ·simp only [ok1,Ad] at h
   subst h;refine ⟨.bool (x'.toList==y'.toList),guard hg1 hg2 ?_,rfl,VRd.bool.2 rfl⟩;rw [e1,e2];simp [binOp,Op.stringOp]
  ·simp only [ok1,Ad] at h
   subst h;refine ⟨.bool (!(x'.toList==y'.toList)),guard hg1 hg2 ?_,rfl,VRd.bool.2 rfl⟩;rw [e1,e2];simp [binOp,Op.stringOp]
 ·rename_i k x' k' y' _ _ _
  have core:∀kt (b':k.T),tkd T t=some kt->TV.as ⟨k',y'⟩ k=some b'->eqt.elem t=true->k.agg=true->kt.same k=true->
    ∃xs ys,vx=.agg xs/\vy=.agg ys/\(eqGuard op t ox oy vx vy).run P w=.ok () w/\(Op.equalIn 10000 t vx vy).run P w=.ok (k.eqv x' b') w:=by
   intro kt b' hkt hb hel hag hsame;have e1:=D0 hsame;rw [e1] at hkt;have:=TV.as_some hb;cases this;obtain ⟨cx,hx,rfl⟩:=hGx;obtain ⟨cy,hy,rfl⟩:=hGy;obtain ⟨_,hE1,hE2⟩:=hEq t (by simpa using hel) _ hkt;have ex:k.mkV cx=.agg cx.toArray:=by simp [Kd.mkV,hag]
   have ey:k.mkV cy=.agg cy.toArray:=by simp [Kd.mkV,hag]
   refine ⟨_,_,ex,ey,?_,hE2 S w x' _ cx cy hx hy⟩;rw [ex,ey];exact run_eqGuard_agg w op t ox oy _ _ hE1
  split at h<;>try (cases h; done)
  ·rename_i kt b' hkt hb hel hag
   split at h<;>try (cases h; done)
   rename_i hsame;simp only [ok1,Ad] at h;subst h;obtain ⟨xs,ys,e1,e2,h1,h2⟩:=core kt b' hkt hb hel hag hsame;refine ⟨.bool (k.eqv x' b'),?_,rfl,VRd.bool.2 rfl⟩;simp only [As,h1,Av];rw [e1,e2] at h2 ⊢;rw [run_eql_struct,h2]; rfl
  ·rename_i kt b' hkt hb hel hag
   split at h<;>try (cases h; done)
   rename_i hsame;simp only [ok1,Ad] at h;subst h;obtain ⟨xs,ys,e1,e2,h1,h2⟩:=core kt b' hkt hb hel hag hsame;refine ⟨.bool (!(k.eqv x' b')),?_,rfl,VRd.bool.2 rfl⟩;simp only [As,h1,Av];rw [e1,e2] at h2 ⊢;rw [run_neq_struct,h2]; rfl
theorem UX {op:UnOp} {x:SV} {nx:Nat} {r:ARes} {vx:Value} (h:aUn op x nx=some r) (hGx:G S w me pl x vx):∃u,(Op.unary op vx).run P w=.ok u w/\r.wr=[]/\G S w me pl r.sv u:=by
 unfold aUn at h;split at h<;>try (cases h; done)
 ·rename_i k x'
  simp only [ok1,Ad] at h;subst h;rw [VRd.int.1 hGx];exact ⟨.int k (k.wrap (0 - x')),by simp [Op.unary,Op.intArith],rfl,VRd.int.2 rfl⟩
 ·rename_i k x'
  simp only [ok1,Ad] at h;subst h;rw [VRd.int.1 hGx];exact ⟨.int k (ixor k (if k.signed then -1 else k.max) x'),rfl,rfl,VRd.int.2 rfl⟩
 ·rename_i x'
  simp only [ok1,Ad] at h;subst h;rw [VRd.bool.1 hGx];exact ⟨.bool (!x'),rfl,rfl,VRd.bool.2 rfl⟩
theorem zuz {ns:List Int} {cs:List Value} (h:RdL (Rd S w (.int .u8)) ns cs):cs=ns.map (Value.int .u8):=by
 induction ns generalizing cs with
 | nil=>exact h
 | cons n ns ih=>
  obtain ⟨c1,c2,e,h1,h2⟩:=h;simp only [Rd] at h1;rw [e,h1,ih h2]; rfl
theorem zbc (l:List Int):l.foldl (λr n=>r.push (UInt8.ofNat n.toNat)) ByteArray.empty=NO l:=by
 have aux:∀(l:List Int) (b:ByteArray),l.foldl (λr n=>r.push (UInt8.ofNat n.toNat)) b=⟨b.data++(l.map λn=>UInt8.ofNat n.toNat).toArray⟩:=by
  intro l
  induction l with
  | nil=>intro b; simp
  | cons n l ih=>
   intro b;rw [B8,ih];obtain ⟨d⟩:=b;show ByteArray.mk _=ByteArray.mk _
   congr 1
   show d.push _++_=_;apply Bq;simp
 rw [aux];show ByteArray.mk _=ByteArray.mk _
 congr 1
 apply Bq;simp [ByteArray.empty,ByteArray.emptyWithCapacity];rfl
theorem DX (hT:D3 P T) {rd:Nat->Option Blk} {src dst:TypeId} {x:SV} {nx:Nat} {r:ARes} {vx:Value} (h:zok T rd src dst x nx=some r) (hacc:∀i∈r.acc,me i=rd i)
  (hI:Inv C tm me pl S a w) (hGx:G S w me pl x vx):∃u,(convert src dst vx).run P w=.ok u w/\r.wr=[]/\G S w me pl r.sv u:=by
 unfold zok at h;split at h<;>try (cases h; done)
 ·rename_i k1 k k2 x' hs hd
  simp only [ok1,Ad] at h;subst h;rw [VRd.int.1 hGx];exact ⟨.int k (k.wrap x'),by simp [convert,Au (Dq hT hs),Au (Dq hT hd),Conv.intToInt],rfl,VRd.int.2 rfl⟩
 ·rename_i x' hs hd
  simp only [ok1,Ad] at h;subst h;rw [VRd.str.1 hGx];exact ⟨.string x',by simp [convert,Au (Dq hT hs),Au (Dq hT hd)],rfl,VRd.str.2 rfl⟩
 ·rename_i et hs hd
  split at h<;>try (cases h; done)
  rename_i l acc hkt hrs;simp only [Ad] at h;subst h;have hS:=Jp hrs hacc hI hGx;have het:P.underlying et=some (.int .u8):=by
   have h1:=Ik hT hkt hs;obtain ⟨dd,h1,h2,h3⟩:=Fb hT h1;have h4:=(h3.kd _ h2).2;have h5:=h3.und;obtain ⟨desc,sz,by_,kd⟩:=dd;simp only at h4 h5;cases desc<;>simp only [Fk,Bx] at h4
   ·rw [h5,Kd.ikb_eq h4]
   ·rw [K2 rfl] at h4; cases h4
  rcases hS with ⟨rfl,rfl⟩ | ⟨g,off,cap,c,t,fr,rfl,hcap,_,hc,hr⟩ | ⟨a0,rfl,rfl⟩
  rotate_left 2
  ·refine ⟨.string .empty,?_,rfl,VRd.str.2 rfl⟩
   rw [run_convert_bytes_string w src dst et _ _ _ (Dq hT hs) het (Dq hT hd)];rfl
  ·refine ⟨.string .empty,?_,rfl,VRd.str.2 rfl⟩
   rw [run_convert_bytes_string w src dst et none 0 0 (Dq hT hs) het (Dq hT hd)];rfl
  ·have hcells:=zuz hr
   have hl:(loadCells ⟨g,off,none⟩ (List.length l)).run P w=.ok (l.map (Value.int .u8)).toArray w:=by
    have:=run_loadCells_list (P:=P) w ⟨g,off,none⟩ (l.map (Value.int .u8)) (λj v hj=>by
     rw [add_eq,Aw w g (off+j) c t fr hc];rw [<-hcells] at hj;exact G1 rfl j v hj)
    simpa using this
   refine ⟨.string (NO l),?_,rfl,VRd.str.2 rfl⟩;rw [run_convert_bytes_string w src dst et _ _ _ (Dq hT hs) het (Dq hT hd),run_bytesToString w _ _ _ l hl,zbc]
theorem Nw {mx:Bool} {x y:SV} {nx:Nat} {r:ARes} {vx vy:Value} {ts:Array TypeId} {ty:TypeId} (h:V9 mx x y nx=some r) (hGx:G S w me pl x vx) (hGy:G S w me pl y vy):
  ∃u,(if mx then Builtin.max_ ts ty #[vx,vy] else Builtin.min_ ts ty #[vx,vy]).run P w=.ok u w/\r.wr=[]/\G S w me pl r.sv u:=by
 unfold V9 at h;split at h<;>try (cases h; done)
 rename_i k x' k' y';simp only [ok1,Ad] at h;subst h;rw [VRd.int.1 hGx,VRd.int.1 hGy];cases mx
 ·exact ⟨.int k (if y'<x' then y' else x'),by simp [Builtin.min_,Builtin.min2],rfl,VRd.int.2 rfl⟩
 ·exact ⟨.int k (if y'>x' then y' else x'),by simp [Builtin.max_,Builtin.max2],rfl,VRd.int.2 rfl⟩
theorem CmpsG.nth:∀{l:List Cmp} {vs:List Value} {i:Nat} {c:Cmp},CmpsG S w me pl l vs->l[i]?=some c->∃v,vs[i]?=some v/\CmpG S w me pl c v
 | c::cs,_,0,c',⟨v,vs',e,h1,h2⟩,h=>by simp at h; subst h; exact ⟨v,by simp [e],h1⟩
 | c::cs,_,i+1,c',⟨v,vs',e,h1,h2⟩,h=>by
  obtain ⟨u,hu,hg⟩:=CmpsG.nth h2 (by simpa using h);exact ⟨u,by simp [e,hu],hg⟩
theorem Ts {x:SV} {i:Nat} {nx:Nat} {r:ARes} {vx:Value} (h:Wc x i nx=some r) (hGx:G S w me pl x vx):∃u,(Instr.extract vx i).run P w=.ok u w/\r.wr=[]/\G S w me pl r.sv u:=by
 unfold Wc at h;split at h<;>try (cases h; done)
 rename_i l;obtain ⟨vs,rfl,hg⟩:=hGx;split at h<;>try (cases h; done)
 ·rename_i k x' hl
  simp only [ok1,Ad] at h;subst h;obtain ⟨v,hv,hc⟩:=hg.nth hl;exact ⟨v,by simp [Instr.extract,hv],rfl,hc⟩
 ·rename_i j ver hl
  simp only [ok1,Ad] at h;subst h;obtain ⟨v,hv,hc⟩:=hg.nth hl;exact ⟨v,by simp [Instr.extract,hv],rfl,hc⟩
 ·rename_i hl
  simp only [ok1,Ad] at h;subst h;obtain ⟨v,hv,hc⟩:=hg.nth hl;exact ⟨v,by simp [Instr.extract,hv],rfl,trivial⟩
theorem Ry {i:Nat} {b:Blk} {p:Plc} (hi:me i=none):Keeps S w me pl S w (upd me i (some b)) (upd pl i p):=
 ⟨λ_ hb=>⟨hb,rfl⟩,λj b' hj=>by
  have e:j≠i:=λe=>by subst e; rw [hi] at hj; cases hj
  exact ⟨b',by rw [Dm _ _ e]; exact hj,by rw [Dm _ _ e]; exact Compat.refl _ _⟩⟩
theorem Hj {np:Nat} {rd:Nat->Option Blk}:∀(fs:List Kd) (nx:Nat) (cs:List Cmp) (wr:List (Nat×Blk)) (nx':Nat),Fe np rd fs nx=some (cs,wr,nx')->(∀i∈wr.map (·.1),me i=rd i)->Inv C tm me pl S a w->
  ∃pl',Inv C tm (laid wr me) pl' S a w/\Keeps S w me pl S w (laid wr me) pl'/\MixG S w (laid wr me) pl' fs cs (fs.map Kd.zcells).flatten/\nx<=nx'/\(∀i∈wr.map (·.1),nx<=i/\i<nx')/\(∀j,j<nx\/nx'<=j->laid wr me j=me j)
 | [],nx,cs,wr,nx',h,_,hI=>by
  simp only [Fe,Ad,Be] at h;obtain ⟨rfl,rfl,rfl⟩:=h;exact ⟨pl,by rw [Dn]; exact hI,by rw [Dn]; exact Keeps.refl,⟨rfl,rfl⟩,Al _,λi hi=>(by simp at hi),λj _=>by rw [Dn]⟩
 | k::fs,nx,cs,wr,nx',h,hacc,hI=>by
  have plain:∀(cs0:List Cmp),Fe np rd fs nx=some (cs0,wr,nx')->cs=.val k k.zero::cs0->
    ∃pl',Inv C tm (laid wr me) pl' S a w/\Keeps S w me pl S w (laid wr me) pl'/\MixG S w (laid wr me) pl' (k::fs) cs ((k::fs).map Kd.zcells).flatten/\nx<=nx'/\(∀i∈wr.map (·.1),nx<=i/\i<nx')/\(∀j,j<nx\/nx'<=j->laid wr me j=me j):=by
   intro cs0 h0 hcs;obtain ⟨pl',g1,g2,g3,g4,g5,g6⟩:=Hj fs nx cs0 wr nx' h0 hacc hI;refine ⟨pl',g1,g2,⟨_,cs0,k.zcells,_,hcs,by simp,Kd.zcells_length k,λk' x hc=>?_,RefG.val,g3⟩,g4,g5,g6⟩;cases hc;exact ⟨rfl,Rd.zero k⟩
  cases k with
  | sl e=>
   simp only [Fe] at h;split at h<;>try (cases h; done)
   rename_i cs0 wr0 nx0 hfr hrec;simp only [Ad,Be] at h;obtain ⟨rfl,rfl,rfl⟩:=h;obtain ⟨pl1,g1,g2,g3,g4,g5,g6⟩:=Hj fs (nx+1) cs0 wr0 nx0 hrec (λi hi=>hacc i (by simp only [Cc,Cd]; exact .inr hi)) hI;obtain ⟨hfr1,hfr2⟩:=Ey hfr;have hmn:laid wr0 me nx=none:=by
    rw [g6 nx (.inl (by omega)),hacc nx (by simp)]; exact hfr1
   have hK:=Ry (S:=S) (w:=w) (pl:=pl1) (b:=.row e [] 0 false) (p:=⟨none,0,0⟩) hmn;refine ⟨_,by rw [Do]; exact g1.nilrow e hmn,by rw [Do]; exact g2.trans hK,?_,by omega,λi hi=>?_,λj hj=>?_⟩
   ·rw [Do]
    refine ⟨_,cs0,[.slice none 0 0],_,rfl,by simp [Kd.zcells],rfl,λk' x hc=>(by cases hc),⟨λj ver hc=>?_,λj hc=>(by cases hc)⟩,g3.keeps hK⟩;cases hc;exact ⟨_,rfl,e,[],0,false,Dr _ _ _,Al _,λ_=>.inl ⟨by simp,rfl⟩⟩
   ·simp only [Cc,Cd] at hi
    rcases hi with rfl | hi
    ·omega
    ·have:=g5 i hi; omega
   ·rw [Do,Dm _ _ (by omega)]
    exact g6 j (by omega)
  | int ik=>
   simp only [Fe] at h;split at h<;>try (cases h; done)
   rename_i cs0 wr0 nx0 hrec;simp only [Ad,Be] at h;obtain ⟨h1,rfl,rfl⟩:=h;exact plain cs0 hrec h1.symm
  | mp=>
   simp only [Fe] at h;split at h<;>try (cases h; done)
   rename_i cs0 wr0 nx0 hrec;simp only [Ad,Be] at h;obtain ⟨h1,rfl,rfl⟩:=h;exact plain cs0 hrec h1.symm
  | fn=>
   simp only [Fe] at h;split at h<;>try (cases h; done)
   rename_i cs0 wr0 nx0 hrec;simp only [Ad,Be] at h;obtain ⟨h1,rfl,rfl⟩:=h;exact plain cs0 hrec h1.symm
  | bool=>
   simp only [Fe] at h;split at h<;>try (cases h; done)
   rename_i cs0 wr0 nx0 hrec;simp only [Ad,Be] at h;obtain ⟨h1,rfl,rfl⟩:=h;exact plain cs0 hrec h1.symm
  | str=>
   simp only [Fe] at h;split at h<;>try (cases h; done)
   rename_i cs0 wr0 nx0 hrec;simp only [Ad,Be] at h;obtain ⟨h1,rfl,rfl⟩:=h;exact plain cs0 hrec h1.symm
  | unit=>
   simp only [Fe] at h;split at h<;>try (cases h; done)
   rename_i cs0 wr0 nx0 hrec;simp only [Ad,Be] at h;obtain ⟨h1,rfl,rfl⟩:=h;exact plain cs0 hrec h1.symm
  | pair x y=>
   simp only [Fe] at h;split at h<;>try (cases h; done)
   rename_i cs0 wr0 nx0 hrec;simp only [Ad,Be] at h;obtain ⟨h1,rfl,rfl⟩:=h;exact plain cs0 hrec h1.symm
  | arr n y=>
   simp only [Fe] at h;split at h<;>try (cases h; done)
   rename_i cs0 wr0 nx0 hrec;simp only [Ad,Be] at h;obtain ⟨h1,rfl,rfl⟩:=h;exact plain cs0 hrec h1.symm
theorem Wi (hT:D3 P T) {np:Nat} (hnp:np=C.pp.length) {rd:Nat->Option Blk} {t:TypeId} {nx:Nat} {r:ARes} (h:EC T np rd t nx=some r) (hacc:∀i∈r.acc,me i=rd i)
  (hI:Inv C tm me pl S a w):∃u w',(Instr.alloc t true (.tuple #[])).run P w=.ok u w'/\F6 C tm me r.sv r.wr a u w':=by
 unfold EC at h;split at h<;>try (cases h; done)
 rename_i k hkt;split at h<;>try (cases h; done)
 rename_i cs wr nx' hmp;split at h<;>try (cases h; done)
 rename_i hfr;simp only [Ad] at h;subst h;obtain ⟨hfr1,hfr2⟩:=Ey hfr;obtain ⟨z,hz,hzc⟩:=Fy hT w hkt;obtain ⟨pl1,g1,g2,g3,g4,g5,g6⟩:=Hj k.flat nx cs wr nx' hmp (λi hi=>hacc i (by simp only [Cd]; exact .inr hi)) hI;obtain ⟨s1,s2⟩:=Ir k;refine ⟨.pointer (some ⟨w.heap.size,0,none⟩),w.alloc (.cells k.zcells.toArray t),by simp [Instr.alloc,hz,Lk,hzc],?_⟩;have hmn:laid wr me nx'=none:=by
  rw [g6 nx' (.inr (Al _)),hacc nx' (by simp)]; exact hfr1
 have hK:Keeps S w (laid wr me) pl1 S (w.alloc (.cells k.zcells.toArray t)) (upd (laid wr me) nx' (some (.mix k.flat cs))) (upd pl1 nx' ⟨some w.heap.size,0,0⟩):=
  ⟨λb hb=>⟨hb,heap_alloc_old w _ b (g1.sfr b hb).1⟩,(Ry (S:=S) (w:=w) hmn).m⟩
 have hb:BlkAt S (w.alloc (.cells k.zcells.toArray t)) (upd (laid wr me) nx' (some (.mix k.flat cs))) (upd pl1 nx' ⟨some w.heap.size,0,0⟩) (.mix k.flat cs) ⟨some w.heap.size,0,0⟩:=
  ⟨w.heap.size,k.zcells.toArray,t,rfl,rfl,Bk w _,by simp [Kd.zcells_length,s1],λhh=>absurd (g1.sfr _ hh).1 (by omega),by
   rw [s2] at*;simpa using g3.keeps hK⟩
 refine ⟨_,S,by rw [Do]; exact g1.alloc hmn (by omega) hb,?_⟩;rw [Do];exact ⟨k.flat,cs,w.heap.size,[],Dr _ _ _,by simp,by simp,rfl⟩
theorem Fm {np:Nat} (hnp:np=C.pp.length) {k:Kd} {fs:List Kd} {cs:List Cmp} {cells:List Value} {rd me:Nat->Option Blk} {S:Nat->Prop} {x:k.T} {wr:List (Nat×Blk)} {acc:List Nat} {cs':List Cmp}
  (h:Ht np k rd cs=some (x,wr,acc,cs')) (hacc:∀i∈acc,me i=rd i) (hI:Inv C tm me pl S a w) (hm:MixG S w me pl (k::fs) cs cells):
  ∃S' c1 c2,Inv C tm (laid wr me) pl S' a w/\Keeps S w me pl S' w (laid wr me) pl/\cells=c1++c2/\Rd S' w k x c1/\MixG S' w (laid wr me) pl fs cs' c2:=by
 obtain ⟨c,cs1,seg,rest,rfl,rfl,hseg,hv,ho,hm'⟩:=hm;cases c with
 | junk=>simp [Ht] at h
 | mp j=>simp [Ht] at h
 | val k' y=>
  simp only [Ht] at h;split at h<;>try (cases h; done)
  rename_i y' hy;simp only [Ad,Be] at h;obtain ⟨rfl,rfl,rfl,rfl⟩:=h;have:=TV.as_some hy;cases this;obtain ⟨_,hr⟩:=hv _ _ rfl;exact ⟨S,seg,rest,by rw [Dn]; exact hI,by rw [Dn]; exact Keeps.refl,rfl,hr,by rw [Dn]; exact hm'⟩
 | own j ver=>
  simp only [Ht] at h;split at h<;>try (cases h; done)
  rename_i y wr1 acc1 hy;simp only [Ad,Be] at h;obtain ⟨rfl,rfl,rfl,rfl⟩:=h;obtain ⟨u,rfl,hG⟩:=ho.1 _ _ rfl;obtain ⟨S1,g1,g2,g3⟩:=Ez hnp hy hacc hI (show G S w me pl (.own j ver) u from hG);refine ⟨S1,[u],rest,g1,g2,rfl,?_,hm'.keeps g2⟩;obtain ⟨cc,hcc,hu⟩:=g3;have hcl:=Rd.length _ _ _ hcc;have e1:k.size=1:=by simpa using hseg.symm
  have hagg:k.agg=false:=by
   simp only [Ix] at hy;split at hy<;>try (cases hy; done)
   split at hy<;>try (cases hy; done)
   rename_i hyy;have:=TV.as_some hyy;cases this;rfl
  rw [e1] at hcl;obtain ⟨v0,rfl⟩:=List.length_eq_one_iff.1 hcl;rw [Kd.mkV,hagg] at hu;simp at hu;subst hu;exact hcc
theorem Yg {np:Nat} (hnp:np=C.pp.length):∀(k:Kd) (fs:List Kd) (cs:List Cmp) (cells:List Value) (rd me:Nat->Option Blk) (S:Nat->Prop) (x:k.T) (wr:List (Nat×Blk)) (acc:List Nat) (cs':List Cmp),
  T6 np k rd cs=some (x,wr,acc,cs')->(∀i∈acc,me i=rd i)->Inv C tm me pl S a w->MixG S w me pl (k.flat++fs) cs cells->
  ∃S' c1 c2,Inv C tm (laid wr me) pl S' a w/\Keeps S w me pl S' w (laid wr me) pl/\cells=c1++c2/\Rd S' w k x c1/\MixG S' w (laid wr me) pl fs cs' c2:=by
 intro k
 induction k with
 | unit=>
  intro fs cs cells rd me S x wr acc cs' h hacc hI hm;simp only [T6,Ad,Be] at h;obtain ⟨_,rfl,rfl,rfl⟩:=h;exact ⟨S,[],cells,by rw [Dn]; exact hI,by rw [Dn]; exact Keeps.refl,rfl,rfl,by rw [Dn]; exact hm⟩
 | pair k1 k2 ih1 ih2=>
  intro fs cs cells rd me S x wr acc cs' h hacc hI hm;simp only [T6] at h;split at h<;>try (cases h; done)
  rename_i y wr1 acc1 cs1 h1;split at h<;>try (cases h; done)
  rename_i z wr2 acc2 cs2 h2;simp only [Ad,Be] at h;obtain ⟨rfl,rfl,rfl,rfl⟩:=h;simp only [Kd.flat,Ah] at hm;obtain ⟨S1,c1,c2,g1,g2,rfl,g3,g4⟩:=ih1 _ cs cells rd me S y wr1 acc1 cs1 h1 (λi hi=>hacc i (List.mem_append_left _ hi)) hI hm;obtain ⟨S2,d1,d2,q1,q2,rfl,q3,q4⟩:=ih2 fs cs1 c2 (laid wr1 rd) (laid wr1 me) S1 z wr2 acc2 cs2 h2 (λi hi=>Ia (hacc i (List.mem_append_right _ hi))) g1 g4;exact ⟨S2,c1++d1,d2,by rw [Em]; exact q1,by rw [Em]; exact g2.trans q2,by simp,⟨c1,d1,rfl,Rd.mono q2.s _ _ _ g3,q3⟩,by rw [Em]; exact q4⟩
 | int ik=>intro fs cs cells rd me S x wr acc cs' h hacc hI hm; exact Fm hnp h hacc hI hm
 | bool=>intro fs cs cells rd me S x wr acc cs' h hacc hI hm; exact Fm hnp h hacc hI hm
 | str=>intro fs cs cells rd me S x wr acc cs' h hacc hI hm; exact Fm hnp h hacc hI hm
 | arr n e _=>intro fs cs cells rd me S x wr acc cs' h hacc hI hm; exact Fm hnp h hacc hI hm
 | sl e _=>intro fs cs cells rd me S x wr acc cs' h hacc hI hm; exact Fm hnp h hacc hI hm
 | mp=>intro fs cs cells rd me S x wr acc cs' h hacc hI hm; exact Fm hnp h hacc hI hm
 | fn=>intro fs cs cells rd me S x wr acc cs' h hacc hI hm; exact Fm hnp h hacc hI hm
theorem MixG.split:∀{fs:List Kd} {cs:List Cmp} {vs:List Value} (i:Nat),MixG S w me pl fs cs vs->∃v1 v2,vs=v1++v2/\v1.length=szs (fs.take i)/\MixG S w me pl (fs.drop i) (cs.drop i) v2
 | fs,cs,vs,0,h=>⟨[],vs,rfl,by simp [szs],h⟩
 | [],cs,vs,i+1,h=>by
  obtain ⟨rfl,rfl⟩:=h;exact ⟨[],[],rfl,rfl,rfl,rfl⟩
 | k::fs,_,_,i+1,⟨c,cs',seg,rest,e1,e2,e3,h1,h2,h3⟩=>by
  subst e1 e2;obtain ⟨v1,v2,rfl,q1,q2⟩:=h3.split i;exact ⟨seg++v1,v2,by simp,by simp [szs,e3,q1],q2⟩
theorem Nq {k:Kd} (h:k.isS=false):k.flat=[k]:=by cases k<;>simp_all [Kd.isS,Kd.flat]
theorem Zc (hT:D3 P T) {np:Nat} (hnp:np=C.pp.length) {rd:Nat->Option Blk} {t:TypeId} {b i nx:Nat} {kp:Kd} {r:ARes} {v:Value} (h:Uh T np rd t b i kp nx=some r) (hacc:∀i∈r.acc,me i=rd i)
  (hI:Inv C tm me pl S a w) (hG:G S w me pl (.mptr b i kp) v):∃u,(Instr.loadAt t v).run P w=.ok u w/\F6 C tm me r.sv r.wr a u w:=by
 unfold Uh at h;split at h<;>try (cases h; done)
 rename_i kt fs cs hkt hrd;obtain ⟨fs2,cs2,g,post,hm',hg,hfs,rfl⟩:=hG;have hm:∀(hb:b∈r.acc),me b=some (.mix fs cs):=λhb=>by rw [hacc b hb]; exact hrd
 split at h<;>try (cases h; done)
 ·rename_i hsame hS
  split at h<;>try (cases h; done)
  rename_i x wr acc rest hmv;simp only [Ad] at h;subst h;have e1:=D0 hsame;subst e1;have hm:=hm (by simp);rw [hm] at hm';cases hm';obtain ⟨g',c,ty,hg',_,hc,hsz,_,hmix⟩:=hI.mem b _ hm;rw [hg] at hg';cases hg';obtain ⟨v1,v2,e2,q1,q2⟩:=hmix.split i;rw [hfs] at q2;obtain ⟨S',c1,c2,g1,g2,rfl,g3,_⟩:=Yg hnp kt post (cs.drop i) v2 rd me S x wr acc rest hmv (λi hi=>hacc i (by simp [hi])) hI q2;refine ⟨kt.mkV c1,?_,pl,S',g1,c1,g3,rfl⟩;simp only [Instr.loadAt,As,D5,Av];refine G2 hT hkt hc (λj v hj=>?_) g3;have:c.toList[moff fs i+j]?=some v:=by
   rw [e2,show moff fs i=v1.length from q1.symm,Az (by omega),Nat.add_sub_cancel_left,List.getElem?_append_left (A0.1 hj).1];exact hj
  simpa using this
 ·rename_i hsame hS
  have e1:=D0 hsame;subst e1;rw [Nq hS] at hfs;have hfk:fs2[i]?=some kt:=by
   have:(fs2.drop i)[0]?=some kt:=by rw [hfs]; rfl
   rw [Ay] at this;simpa using this
  split at h<;>try (cases h; done)
  ·rename_i k' x hck
   split at h<;>try (cases h; done)
   rename_i hs2;simp only [Ad] at h;subst h;have e2:=D0 hs2;subst e2;have hm:=hm (by simp);rw [hm] at hm';cases hm';obtain ⟨g',c,ty,hg',_,hc,_,_,hmix⟩:=hI.mem b _ hm;rw [hg] at hg';cases hg';obtain ⟨pre,seg,post,q1,q2,q3,q4,_,_⟩:=hmix.at hfk hck;obtain ⟨_,hr⟩:=q4 _ _ rfl;refine ⟨_,?_,pl,S,by rw [Dn]; exact hI,by rw [Dn]; exact ⟨seg,hr,rfl⟩⟩;simp only [Instr.loadAt,As,D5,Av];refine G2 hT hkt hc (λj v hj=>?_) hr;have:c.toList[moff fs i+j]?=some v:=by
    rw [q1,show moff fs i=pre.length from q2.symm,Ah,Az (by omega),Nat.add_sub_cancel_left,List.getElem?_append_left (by
     have:=(A0.1 hj).1; omega)]
    exact hj
   simpa using this
  ·rename_i j ver hck
   split at h<;>try (cases h; done)
   rename_i e;simp only [Ad] at h;subst h;have hm:=hm (by simp);rw [hm] at hm';cases hm';obtain ⟨g',c,ty,hg',_,hc,_,_,hmix⟩:=hI.mem b _ hm;rw [hg] at hg';cases hg';obtain ⟨pre,seg,post,q1,q2,q3,_,q5,_⟩:=hmix.at hfk hck;obtain ⟨v,rfl,hv⟩:=q5.1 _ _ rfl;refine ⟨v,?_,pl,S,by rw [Dn]; exact hI,by rw [Dn]; exact hv⟩;simp only [Instr.loadAt,As,D5,Av];have hcell:w.cell? (⟨g,moff fs i,none⟩:Addr)=some v:=by
    rw [Aw w g _ c ty (0,0) hc];have:c.toList[moff fs i]?=some v:=by
     rw [q1,show moff fs i=pre.length from q2.symm];simp
    simpa using this
   unfold loadVar;simp only [As,Jm hT w hkt,Av];simp [Kd.agg,run_load,hcell]
  ·rename_i j hck
   split at h<;>try (cases h; done)
   simp only [Ad] at h;subst h;have hm:=hm (by simp);rw [hm] at hm';cases hm';obtain ⟨g',c,ty,hg',_,hc,_,_,hmix⟩:=hI.mem b _ hm;rw [hg] at hg';cases hg';obtain ⟨pre,seg,post,q1,q2,q3,_,q5,_⟩:=hmix.at hfk hck;obtain ⟨v,rfl,hv⟩:=q5.2 _ rfl;refine ⟨v,?_,pl,S,by rw [Dn]; exact hI,by rw [Dn]; exact hv⟩;simp only [Instr.loadAt,As,D5,Av];have hcell:w.cell? (⟨g,moff fs i,none⟩:Addr)=some v:=by
    rw [Aw w g _ c ty (0,0) hc];have:c.toList[moff fs i]?=some v:=by
     rw [q1,show moff fs i=pre.length from q2.symm];simp
    simpa using this
   unfold loadVar;simp only [As,Jm hT w hkt,Av];simp [Kd.agg,run_load,hcell]
theorem MixG.cut:∀{f1 f2:List Kd} {cs:List Cmp} {vs:List Value},MixG S w me pl (f1++f2) cs vs->∃c1 c2 v1 v2,cs=c1++c2/\vs=v1++v2/\c1.length=f1.length/\v1.length=szs f1/\MixG S w me pl f1 c1 v1/\MixG S w me pl f2 c2 v2
 | [],f2,cs,vs,h=>⟨[],cs,[],vs,rfl,rfl,rfl,rfl,⟨rfl,rfl⟩,h⟩
 | k::f1,f2,_,_,⟨c,cs',seg,rest,e1,e2,e3,h1,h2,h3⟩=>by
  subst e1 e2;obtain ⟨c1,c2,v1,v2,rfl,rfl,q1,q2,q3,q4⟩:=MixG.cut (f1:=f1) (f2:=f2) h3;exact ⟨c::c1,c2,seg++v1,v2,by simp,by simp,by simp [q1],by simp [szs,e3,q2],⟨c,c1,seg,v1,rfl,rfl,e3,h1,h2,q3⟩,q4⟩
theorem MixG.append:∀{f1 f2:List Kd} {c1 c2:List Cmp} {v1 v2:List Value},MixG S w me pl f1 c1 v1->MixG S w me pl f2 c2 v2->MixG S w me pl (f1++f2) (c1++c2) (v1++v2)
 | [],_,_,_,_,_,⟨e1,e2⟩,h=>by subst e1 e2; exact h
 | k::f1,_,_,_,_,_,⟨c,cs',seg,rest,e1,e2,e3,h1,h2,h3⟩,h=>by
  subst e1 e2;exact ⟨c,_,seg,_,by simp,by simp,e3,h1,h2,h3.append h⟩
theorem MixG.splice {f1 f2 f3:List Kd} {cs c':List Cmp} {vs v':List Value} (h:MixG S w me pl (f1++f2++f3) cs vs) (h':MixG S w me pl f2 c' v'):
  ∃v1 seg v3,vs=v1++seg++v3/\v1.length=szs f1/\seg.length=szs f2/\v'.length=szs f2/\MixG S w me pl (f1++f2++f3) (cs.take f1.length++c'++cs.drop (f1.length+f2.length)) (v1++v'++v3):=by
 obtain ⟨c12,c3,v12,v3,rfl,rfl,q1,q2,q3,q4⟩:=h.cut;obtain ⟨c1,c2,v1,v2,rfl,rfl,p1,p2,p3,p4⟩:=q3.cut;refine ⟨v1,v2,v3,rfl,p2,p4.size.1,h'.size.1,?_⟩;have l2:c2.length=f2.length:=p4.size.2;have e1:(c1++c2++c3).take f1.length=c1:=by rw [Ah,<-p1,Bp]
 have e2:(c1++c2++c3).drop (f1.length+f2.length)=c3:=by rw [<-p1,<-l2,<-Ae,Bc]
 rw [e1,e2];exact (p3.append h').append q4
theorem RX:∀{k:Kd} {x:k.T} {cells:List Value},Rd S w k x cells->MixG S w me pl k.flat (RY k x) cells:=by
 have leaf:∀{k:Kd} {x:k.T} {cells:List Value},Rd S w k x cells->MixG S w me pl [k] [.val k x] cells:=λ{k x cells} h=>
  ⟨_,[],cells,[],rfl,by simp,Rd.length k x cells h,λk' y hc=>by cases hc; exact ⟨rfl,h⟩,RefG.val,rfl,rfl⟩
 intro k
 induction k with
 | unit=>intro x cells h; exact ⟨rfl,h⟩
 | pair a b ih1 ih2=>
  intro x cells h;obtain ⟨c1,c2,rfl,h1,h2⟩:=h;exact (ih1 h1).append (ih2 h2)
 | int ik=>intro x cells h; exact leaf h
 | bool=>intro x cells h; exact leaf h
 | str=>intro x cells h; exact leaf h
 | arr n e _=>intro x cells h; exact leaf h
 | sl e _=>intro x cells h; exact leaf h
 | mp=>intro x cells h; exact leaf h
 | fn=>intro x cells h; exact leaf h
theorem J4 {rd:Nat->Option Blk}:∀{fs:List Kd} {cs:List Cmp} {vs:List Value} {acc:List Nat},It rd cs=some acc->(∀i∈acc,me i=rd i)->MixG S w me pl fs cs vs->∀v∈vs,v.oneCell'=true
 | [],_,_,_,_,_,⟨_,e2⟩=>by subst e2; simp
 | k::fs,_,_,acc,h,hacc,⟨c,cs',seg,rest,e1,e2,e3,h1,h2,h3⟩=>by
  subst e1 e2;intro v hv;rcases Ai.1 hv with hv | hv
  ·cases c with
   | junk=>simp [It] at h
   | val k' x=>exact Rd.one k' x seg (h1 k' x rfl).2 v hv
   | mp j=>
    obtain ⟨u,rfl,kk,kv,m,g,_,_,rfl⟩:=h2.2 j rfl;simp only [Ce] at hv;subst hv;rfl
   | own j ver=>
    obtain ⟨u,rfl,e,l,ver',sh,hm,_,hr⟩:=h2.1 j ver rfl;simp only [Ce] at hv;subst hv;simp only [It] at h;split at h<;>try (cases h; done)
    rename_i e0 l0 v0 sh0 acc0 hrd hrec;split at h<;>try (cases h; done)
    rename_i hver;simp only [Ad] at h;subst h;have:=hacc j (by simp);rw [hm,hrd] at this;cases this;rcases hr (Aa hver).symm with ⟨_,h4⟩ | ⟨g,_,h4⟩<;>rw [h4]<;>rfl
  ·cases c with
   | junk=>simp [It] at h
   | val k' x=>exact J4 (by simpa [It] using h) hacc h3 v hv
   | mp j=>exact J4 (by simpa [It] using h) hacc h3 v hv
   | own j ver=>
    simp only [It] at h;split at h<;>try (cases h; done)
    rename_i e0 l0 v0 sh0 acc0 hrd hrec;split at h<;>try (cases h; done)
    simp only [Ad] at h;subst h;exact J4 hrec (λi hi=>hacc i (by simp [hi])) h3 v hv
theorem HO (hT:D3 P T) {t:TypeId} {b i:Nat} {kt:Kd} {v:Value} {fs:List Kd} {cs cs':List Cmp} {seg':List Value} (hkt:tkd T t=some kt) (hi:i<=fs.length) (hm:me b=some (.mix fs cs)) (hI:Inv C tm me pl S a w)
  (hG:G S w me pl (.mptr b i kt) v) (hone:∀x∈seg',x.oneCell'=true) (hn:MixG S w me pl kt.flat cs' seg'):
  ∃w',(Instr.storeAt t v (.agg seg'.toArray)).run P w=.ok () w'/\F6 C tm me .dead [(b,.mix fs (cs.take i++cs'++cs.drop (i+kt.flat.length)))] a undef w':=by
 obtain ⟨fs2,cs2,g,post2,hm',hg,hfs,rfl⟩:=hG;rw [hm] at hm';cases hm';obtain ⟨g',c,ty,hg',hoff,hc,hsz,hnS,hmix⟩:=hI.mem b _ hm;rw [hg] at hg';cases hg';have hfe:fs=fs.take i++kt.flat++post2:=by rw [Ah,<-hfs,A4]
 have hmi:(fs.take i).length=i:=by rw [A5,A6 hi]
 have hmix':=hmix;rw [hfe] at hmix';obtain ⟨pre,seg,post,q1,q2,q3,q4,q5⟩:=hmix'.splice hn;rw [<-hfe,hmi] at q5;have hsl:seg'.length=kt.size:=by rw [q4,<-(Ir kt).1]
 have hpre:pre.length=moff fs i:=q2;have hcl:c.toList.length=c.size:=by simp
 have htot:pre.length+seg.length+post.length=c.size:=by rw [<-hcl,q1]; simp; omega
 have hst:=run_storeCells_at P g pre.length ty seg' 0 c w hc (by omega) hone;simp only [Ax] at hst;have hrun:(Instr.storeAt t (.pointer (some ⟨g,moff fs i,none⟩)) (.agg seg'.toArray)).run P w=.ok () (w.setRow g (pre++seg'++post).toArray):=by
  simp only [Instr.storeAt,As,D5,Av];unfold storeVar;rw [<-hpre];have e2:c.toList.take pre.length++seg'++c.toList.drop (pre.length+seg'.length)=pre++seg'++post:=by
   rw [q1,Ah pre,Bp,show pre.length+seg'.length=(pre++seg).length by simp; omega,<-Ah pre seg post,Bc]
  rw [e2] at hst;simp [D1 hT w hkt,Value.cells,hsl,hst]
  try omega
 refine ⟨_,hrun,pl,S,?_,trivial⟩;rw [Do,Dn];generalize cs.take i++cs'++cs.drop (i+kt.flat.length)=csn at*;have hs:∀q,S q->S q/\(w.setRow g (pre++seg'++post).toArray).heap[q]?=w.heap[q]?:=λq hq=>⟨hq,Aq w g q _ (λe=>hnS (e ▸ hq))⟩
 have hK:Keeps S w me pl S (w.setRow g (pre++seg'++post).toArray) (upd me b (some (.mix fs csn))) pl:=by
  refine ⟨hs,λj bj hj=>?_⟩
  by_cases e:j=b
  ·subst e; rw [hm] at hj; cases hj; exact ⟨.mix fs csn,by simp,rfl,rfl⟩
  ·exact ⟨bj,by rw [Dm _ _ e]; exact hj,Compat.refl _ _⟩
 have hnv:∀(fs:List Kd) (cs:List Cmp),¬∃k x sh,Blk.mix fs cs=.var k x sh:=λ_ _ ⟨_,_,_,h⟩=>by cases h
 refine hI.write (b':=.mix fs csn) hm hg hnS hc (by simp; omega) (by rw [hoff]; simp) (λh=>absurd h (hnv _ _)) rfl ⟨λh=>absurd h (hnv _ _),λh=>absurd h (hnv _ _)⟩ ⟨rfl,rfl⟩ ?_;exact ⟨g,_,ty,hg,hoff,setRow_heap w g c _ ty (0,0) hc,by simp; omega,hnS,by simpa using q5.keeps hK⟩
theorem V8 (hT:D3 P T) {rd:Nat->Option Blk} {t:TypeId} {b i nx:Nat} {kp:Kd} {sv:SV} {r:ARes} {v vv:Value} (h:DU T rd t b i kp sv nx=some r) (hacc:∀i∈r.acc,me i=rd i)
  (hI:Inv C tm me pl S a w) (hG:G S w me pl (.mptr b i kp) v) (hGv:G S w me pl sv vv):∃w',(Instr.storeAt t v vv).run P w=.ok () w'/\F6 C tm me r.sv r.wr a undef w':=by
 unfold DU at h;split at h<;>try (cases h; done)
 rename_i kt fs cs hkt hrd;split at h<;>try (cases h; done)
 case h_2=>
  rename_i hkp hS;have e0:=D0 hkp;subst e0;split at h<;>try (cases h; done)
  ·rename_i fs' cs'
   split at h<;>try (cases h; done)
   rename_i acc hfs hno hle;simp only [Ad] at h;subst h;have hm:me b=some (.mix fs cs):=by rw [hacc b (by simp)]; exact hrd
   have e1:=Ok hfs;subst e1;obtain ⟨cells,rfl,hmx⟩:=hGv;exact HO hT hkt (Bj hle) hm hI hG (J4 hno (λi hi=>hacc i (by simp [hi])) hmx) hmx
  ·rename_i k' x
   split at h<;>try (cases h; done)
   rename_i hs2 hle;simp only [Ad] at h;subst h;have e2:=D0 hs2;subst e2;have hm:me b=some (.mix fs cs):=by rw [hacc b (by simp)]; exact hrd
   obtain ⟨cc,hcc,rfl⟩:=(show VRd S w kt x vv from hGv)
   have hag:kt.agg=true:=by cases kt<;>simp_all [Kd.isS,Kd.agg]
   have:=HO hT hkt (Bj hle) hm hI hG (Rd.one kt x cc hcc) (RX hcc);simpa [Kd.mkV,hag] using this
 rename_i hkp hS;have e0:=D0 hkp;subst e0;have key:∀(c':Cmp) (seg':List Value),me b=some (.mix fs cs)->vv=kt.mkV seg'->seg'.length=kt.size->(∀x∈seg',x.oneCell'=true)->(kt.mkV seg').cells=seg'.toArray->
   (∀k' x,c'=.val k' x->k'=kt/\Rd S w k' x seg')->RefG S w me pl c' seg'->
   ∃w',(Instr.storeAt t v vv).run P w=.ok () w'/\F6 C tm me .dead [(b,.mix fs (cs.set i c'))] a undef w':=by
  intro c' seg' hm hvv hsl hone hcells hcv hco;subst hvv;obtain ⟨fs2,cs2,g,post2,hm',hg,hfs,rfl⟩:=hG;rw [hm] at hm';cases hm';rw [Nq hS] at hfs;have hfk:fs[i]?=some kt:=by
   have:(fs.drop i)[0]?=some kt:=by rw [hfs]; rfl
   rw [Ay] at this;simpa using this
  obtain ⟨g',c,ty,hg',hoff,hc,hsz,hnS,hmix⟩:=hI.mem b _ hm;rw [hg] at hg';cases hg';have hlen:=hmix.size;have hi:i<cs.length:=by
   have:=(A0.1 hfk).1;omega
  obtain ⟨pre,seg,post,q1,q2,q3,_,_,q6⟩:=hmix.at hfk (Bs hi);have hnew:=q6 c' seg' hsl hcv hco;have hpre:pre.length=moff fs i:=q2;have hcl:c.toList.length=c.size:=by simp
  have htot:pre.length+seg.length+post.length=c.size:=by rw [<-hcl,q1]; simp; omega
  have hst:=run_storeCells_at P g pre.length ty seg' 0 c w hc (by omega) hone;simp only [Ax] at hst;have hrun:(Instr.storeAt t (.pointer (some ⟨g,moff fs i,none⟩)) (kt.mkV seg')).run P w=.ok () (w.setRow g (pre++seg'++post).toArray):=by
   simp only [Instr.storeAt,As,D5,Av];unfold storeVar;rw [<-hpre];have e2:c.toList.take pre.length++seg'++c.toList.drop (pre.length+seg'.length)=pre++seg'++post:=by
    rw [q1,Ah pre,Bp,show pre.length+seg'.length=(pre++seg).length by simp; omega,<-Ah pre seg post,Bc]
   rw [e2] at hst;simp [D1 hT w hkt,hcells,hsl,hst]
   try omega
  refine ⟨_,hrun,pl,S,?_,trivial⟩;rw [Do,Dn];have hs:∀q,S q->S q/\(w.setRow g (pre++seg'++post).toArray).heap[q]?=w.heap[q]?:=λq hq=>⟨hq,Aq w g q _ (λe=>hnS (e ▸ hq))⟩
  have hK:Keeps S w me pl S (w.setRow g (pre++seg'++post).toArray) (upd me b (some (.mix fs (cs.set i c')))) pl:=by
   refine ⟨hs,λj bj hj=>?_⟩
   by_cases e:j=b
   ·subst e; rw [hm] at hj; cases hj; exact ⟨.mix fs (cs.set i c'),by simp,rfl,rfl⟩
   ·exact ⟨bj,by rw [Dm _ _ e]; exact hj,Compat.refl _ _⟩
  have hnv:∀(fs:List Kd) (cs:List Cmp),¬∃k x sh,Blk.mix fs cs=.var k x sh:=λ_ _ ⟨_,_,_,h⟩=>by cases h
  refine hI.write (b':=.mix fs (cs.set i c')) hm hg hnS hc (by simp; omega) (by rw [hoff]; simp) (λh=>absurd h (hnv _ _)) rfl ⟨λh=>absurd h (hnv _ _),λh=>absurd h (hnv _ _)⟩ ⟨rfl,rfl⟩ ?_;exact ⟨g,_,ty,hg,hoff,setRow_heap w g c _ ty (0,0) hc,by simp; omega,hnS,by simpa using hnew.keeps hK⟩
 split at h<;>try (cases h; done)
 ·rename_i j ver
  split at h<;>try (cases h; done)
  rename_i e l ver' hrj;split at h<;>try (cases h; done)
  rename_i hs2 hver;simp only [Ad] at h;subst h;have e2:=D0 hs2;have e3:=Aa hver;subst e2 e3;have hm:me b=some (.mix fs cs):=by rw [hacc b (by simp)]; exact hrd
  have hj:me j=some (.row e l ver false):=by rw [hacc j (by simp)]; exact hrj
  have hGo:CmpG S w me pl (.own j ver) vv:=hGv;have hsl:∃g n cap,vv=.slice g n cap:=by
   obtain ⟨e',l',v',sh',h1,h2,h3⟩:=hGo;rw [hj] at h1;cases h1;rcases h3 rfl with ⟨_,h4⟩ | ⟨g,_,h4⟩
   ·exact ⟨_,_,_,h4⟩
   ·exact ⟨_,_,_,h4⟩
  obtain ⟨sg,sn,sc,rfl⟩:=hsl;exact key (.own j ver) [.slice sg sn sc] hm rfl rfl (λx hx=>by simp only [Ce] at hx; subst hx; rfl) rfl (λk' x hc=>by cases hc) ⟨λj' ver' hc=>by cases hc; exact ⟨_,rfl,hGo⟩,λj' hc=>by cases hc⟩
 ·rename_i k' x
  split at h<;>try (cases h; done)
  rename_i hs2;simp only [Ad] at h;subst h;have e2:=D0 hs2;subst e2;have hm:me b=some (.mix fs cs):=by rw [hacc b (by simp)]; exact hrd
  obtain ⟨cc,hcc,rfl⟩:=(show VRd S w kt x vv from hGv)
  exact key (.val kt x) cc hm rfl (Rd.length kt x cc hcc) (Rd.one kt x cc hcc) hcc.cells (λk' y hc=>by cases hc; exact ⟨rfl,hcc⟩) RefG.val
 ·rename_i j
  split at h<;>try (cases h; done)
  simp only [Ad] at h;subst h;have hm:me b=some (.mix fs cs):=by rw [hacc b (by simp)]; exact hrd
  have hGo:CmpG S w me pl (.mp j) vv:=hGv;obtain ⟨kk,kv,mm,gm,h1,h2,rfl⟩:=hGo;exact key (.mp j) [.map (some gm)] hm rfl rfl (λx hx=>by simp only [Ce] at hx; subst hx; rfl) rfl (λk' x hc=>by cases hc) ⟨λj' ver' hc=>(by cases hc),λj' hc=>by cases hc; exact ⟨_,rfl,hGv⟩⟩
theorem IU:∀{k:Kd} {j d:Nat} {kf:Kd},k.flatF j=some (d,kf)->∃o,k.offF j=some (o,kf)
 | .pair a b,0,d,kf,h=>by
  simp only [Kd.flatF,Ad,Be] at h;obtain ⟨_,rfl⟩:=h;exact ⟨0,rfl⟩
 | .pair a b,j+1,d,kf,h=>by
  simp only [Kd.flatF] at h;split at h<;>try (cases h; done)
  rename_i d' k' ho;simp only [Ad,Be] at h;obtain ⟨_,rfl⟩:=h;obtain ⟨o,h1⟩:=IU ho;exact ⟨_,by simp [Kd.offF,h1]; rfl⟩
 | .int _,_,_,_,h=>by simp [Kd.flatF] at h
 | .bool,_,_,_,h=>by simp [Kd.flatF] at h
 | .str,_,_,_,h=>by simp [Kd.flatF] at h
 | .unit,_,_,_,h=>by simp [Kd.flatF] at h
 | .arr _ _,_,_,_,h=>by simp [Kd.flatF] at h
 | .sl _,_,_,_,h=>by simp [Kd.flatF] at h
 | .mp,_,_,_,h=>by simp [Kd.flatF] at h
 | .fn,_,_,_,h=>by simp [Kd.flatF] at h
theorem Jb {rd:Nat->Option Blk} {k:Kd} {place:Nat->Option (Nat×Nat)} (hplace:∀i o k',k.offF i=some (o,k')->place i=some (o,k'.size)):
  ∀(parts:List (Nat×SV)) (cs cs':List Cmp) (acc:List Nat) (cells:Array Value) (vs:List (Nat×Value)),H2 rd k cs parts=some (cs',acc)->(∀i∈acc,me i=rd i)->MixG S w me pl k.flat cs cells.toList->PartsG S w me pl parts vs->
   ∃cells',Instr.fill place cells vs=some cells'/\MixG S w me pl k.flat cs' cells'.toList
 | [],cs,cs',acc,cells,vs,h,_,hm,hp=>by
  simp only [H2,Ad,Be] at h;obtain ⟨rfl,rfl⟩:=h;simp only [PartsG] at hp;subst hp;exact ⟨cells,rfl,hm⟩
 | (j,sv)::l,cs,cs',acc,cells,vs,h,hacc,hm,hp=>by
  obtain ⟨v,vs',rfl,hG,hp2⟩:=hp;simp only [H2] at h;split at h<;>try (cases h; done)
  rename_i d kf hd;obtain ⟨o,ho⟩:=IU hd;obtain ⟨pre,post,f1,f2,f3⟩:=R4 ho;rw [hd] at f2;cases f2;have key:∀(c':Cmp) (seg':List Value) (acc1:List Nat),kf.isS=false->v.cells=seg'.toArray->seg'.length=kf.size->(∀k' x,c'=.val k' x->k'=kf/\Rd S w k' x seg')->RefG S w me pl c' seg'->
    H2 rd k (cs.set pre.length c') l=some (cs',acc1)->(∀i∈acc1,me i=rd i)->∃cells',Instr.fill place cells ((j,v)::vs')=some cells'/\MixG S w me pl k.flat cs' cells'.toList:=by
   intro c' seg' acc1 hS hvc hsl hcv hco hrest hacc1;rw [Nq hS] at f1;have hfk:k.flat[pre.length]?=some kf:=by rw [f1]; simp
   have hlen:=hm.size;have hi:pre.length<cs.length:=by
    have:=(A0.1 hfk).1;omega
   obtain ⟨p1,seg,p3,q1,q2,q3,_,_,q6⟩:=hm.at hfk (Bs hi);have hnew:=q6 c' seg' hsl hcv hco;have ho2:o=p1.length:=by rw [f3,q2,f1]; simp
   have hcl:cells.toList.length=cells.size:=by simp
   rw [q1] at hcl;simp only [Ae] at hcl;rw [Ns (hplace j o kf ho) (by rw [hvc]; simpa using hsl) (by omega)];refine Jb hplace l _ cs' acc1 _ vs' hrest hacc1 ?_ hp2;have e2:cells.toList.take o++v.cells.toList++cells.toList.drop (o+kf.size)=p1++seg'++p3:=by
    rw [q1,hvc,ho2,Ah p1,Bp,show p1.length+kf.size=(p1++seg).length by simp; omega,<-Ah p1 seg p3,Bc]
   rw [Bh,e2];exact hnew
  split at h<;>try (cases h; done)
  ·rename_i k' x hS
   split at h<;>try (cases h; done)
   rename_i hs;have e1:=D0 hs;subst e1;obtain ⟨cc,hcc,rfl⟩:=(show VRd S w kf x v from hG)
   exact key (.val kf x) cc acc hS hcc.cells (Rd.length kf x cc hcc) (λk' y hc=>by cases hc; exact ⟨rfl,hcc⟩) RefG.val h hacc
  ·rename_i jj ver hS
   split at h<;>try (cases h; done)
   rename_i e l' ver' hrj;split at h<;>try (cases h; done)
   rename_i hs hver;split at h<;>try (cases h; done)
   rename_i cs2 acc2 hrest;simp only [Ad,Be] at h;obtain ⟨rfl,rfl⟩:=h;have e1:=D0 hs;subst e1;have hj:me jj=some (.row e l' ver' false):=by rw [hacc jj (by simp)]; exact hrj
   have hGo:CmpG S w me pl (.own jj ver) v:=hG;have hsl:∃g n cap,v=.slice g n cap:=by
    obtain ⟨e',l'',v',sh',h1,h2,h3⟩:=hGo;rw [hj] at h1;cases h1;rcases h3 (Aa hver).symm with ⟨_,h4⟩ | ⟨g,_,h4⟩
    ·exact ⟨_,_,_,h4⟩
    ·exact ⟨_,_,_,h4⟩
   obtain ⟨sg,sn,sc,rfl⟩:=hsl;exact key (.own jj ver) [.slice sg sn sc] acc2 hS rfl rfl (λk' x hc=>by cases hc) ⟨λj' ver' hc=>by cases hc; exact ⟨_,rfl,hGo⟩,λj' hc=>by cases hc⟩ hrest (λi hi=>hacc i (by simp [hi]))
  ·rename_i jj hS
   split at h<;>try (cases h; done)
   have hGo:CmpG S w me pl (.mp jj) v:=hG;obtain ⟨kk,kv,mm,gm,h1,h2,rfl⟩:=hGo;exact key (.mp jj) [.map (some gm)] acc hS rfl rfl (λk' x hc=>by cases hc) ⟨λj' ver' hc=>(by cases hc),λj' hc=>by cases hc; exact ⟨_,rfl,hG⟩⟩ h hacc
  ·rename_i k' x hS
   split at h<;>try (cases h; done)
   rename_i hs;have e1:=D0 hs;subst e1;obtain ⟨cc,hcc,rfl⟩:=(show VRd S w kf x v from hG)
   have hm':=hm;rw [f1] at hm';obtain ⟨p1,seg,p3,q1,q2,q3,q4,q5⟩:=hm'.splice (RX hcc);rw [<-f1] at q5;have ho2:o=p1.length:=by rw [f3,q2]
   have hsz:kf.size=szs kf.flat:=(Ir kf).1;have hcl:cells.toList.length=cells.size:=by simp
   rw [q1] at hcl;simp only [Ae] at hcl;rw [Ns (hplace j o kf ho) (by rw [hcc.cells]; simp; omega) (by omega)];refine Jb hplace l _ cs' acc _ vs' h hacc ?_ hp2;have e2:cells.toList.take o++(kf.mkV cc).cells.toList++cells.toList.drop (o+kf.size)=p1++cc++p3:=by
    rw [q1,hcc.cells,ho2,Ah p1,Bp,show p1.length+kf.size=(p1++seg).length by simp; omega,<-Ah p1 seg p3,Bc]
   rw [Bh,e2];exact q5
theorem KP (hT:D3 P T) {fs:Array Field} {k:Kd} (hfo:D4 T fs.toList 0 k=true):∃places:Array (Nat×Nat),(fs.mapM (m:=Sem) λf=>do pure (f.offset,<-sizeOf f.type)).run P w=.ok places w/\∀i o k',k.offF i=some (o,k')->places[i]?=some (o,k'.size):=by
 have aux:∀(l:List Field) (off:Nat) (k:Kd) (acc:Array (Nat×Nat)),D4 T l off k=true->∃q:List (Nat×Nat),(l.foldlM (m:=Sem) (λ(b:Array (Nat×Nat)) (f:Field)=>do let r <-(do pure (f.offset,<-sizeOf f.type):Sem (Nat×Nat)); pure (b.push r)) acc).run P w=.ok (acc++q.toArray) w/\∀i o k',k.offF i=some (o,k')->q[i]?=some (off+o,k'.size):=by
  intro l
  induction l with
  | nil=>intro off k acc hf; exact ⟨[],by simp,λi o k' ho=>by cases k<;>simp [D4] at hf; simp [Kd.offF] at ho⟩
  | cons f l ih=>
   intro off k acc hf;cases k<;>simp only [D4,Bx] at hf
   rename_i ka kb;simp only [Ab] at hf;obtain ⟨⟨⟨f1,f2⟩,f3⟩,f4⟩:=hf;obtain ⟨q,hq1,hq2⟩:=ih (off+ka.size) kb (acc.push (f.offset,ka.size)) f4;have hsz:=D1 hT w (Ea f2);refine ⟨(f.offset,ka.size)::q,?_,λi o k' ho=>?_⟩
   ·simp only [List.foldlM_cons,As,hsz,Av,A1,hq1]
    simp
   ·cases i with
    | zero=>simp only [Kd.offF,Ad,Be] at ho; obtain ⟨rfl,rfl⟩:=ho; simp [Aa f1]
    | succ i=>
     simp only [Kd.offF] at ho;split at ho<;>try (cases ho; done)
     rename_i o' k2 ho';simp only [Ad,Be] at ho;obtain ⟨rfl,rfl⟩:=ho;have:=hq2 i o' k2 ho';simpa [Bn] using this
 obtain ⟨q,hq1,hq2⟩:=aux fs.toList 0 k #[] hfo;refine ⟨q.toArray,?_,λi o k' ho=>by simpa using hq2 i o k' ho⟩;rw [Array.mapM_eq_foldlM,<-Array.foldlM_toList];simpa using hq1
theorem We (hT:D3 P T) {np:Nat} {rd:Nat->Option Blk} {t:TypeId} {parts:List (Nat×SV)} {nx:Nat} {r:ARes} {vs:List (Nat×Value)} (h:DY T np rd t parts nx=some r) (hacc:∀i∈r.acc,me i=rd i)
  (hI:Inv C tm me pl S a w) (hp:PartsG S w me pl parts vs):∃u,(Instr.build t vs.toArray).run P w=.ok u w/\F6 C tm me r.sv r.wr a u w:=by
 unfold DY at h;split at h<;>try (cases h; done)
 rename_i d hd;split at h<;>try (cases h; done)
 rename_i k hk hst;split at h<;>try (cases h; done)
 rename_i cs wr nx' hmp;split at h<;>try (cases h; done)
 rename_i cs' acc hsp;simp only [Ad] at h;subst h;obtain ⟨fs,hdesc⟩:∃fs,d.desc=.struct fs:=by
  cases hdd:d.desc<;>rw [hdd] at hst<;>simp [zt0] at hst
  exact ⟨_,rfl⟩
 have hkt:tkd T t=some k:=by simp [tkd,hd,hk]
 have hdt:E0 T t=some (.struct fs):=by simp [E0,hd,hdesc]
 have hfo:D4 T fs.toList 0 k=true:=I0 hT hkt hdt;obtain ⟨z,hz,hzc⟩:=Fy hT w hkt;obtain ⟨places,hm1,hm2⟩:=KP (w:=w) hT hfo;obtain ⟨pl1,g1,g2,g3,g4,g5,g6⟩:=Hj k.flat nx cs wr nx' hmp (λi hi=>hacc i (List.mem_append_left _ hi)) hI;obtain ⟨s1,s2⟩:=Ir k;rw [<-s2] at g3;obtain ⟨cells',hf,hm'⟩:=Jb (place:=(places[·]?)) hm2 parts cs cs' acc z.cells vs hsp (λi hi=>Ia (hacc i (List.mem_append_right _ hi))) (by rw [hzc]; exact g3) (hp.keeps g2);refine ⟨.agg cells',?_,pl1,S,g1,cells'.toList,by simp,hm'⟩;simp only [Instr.build,As,hz,Av,Au (Dq hT hdt),hm1]
 simp only [hf,A1]
theorem EA (hT:D3 P T) {np:Nat} (hnp:np=C.pp.length) {rd:Nat->Option Blk} {t:TypeId} {sv:SV} {v:Value} {nx:Nat} {r:ARes} (h:zol T np rd t sv nx=some r) (hacc:∀i∈r.acc,me i=rd i)
  (hI:Inv C tm me pl S a w) (hG:G S w me pl sv v):∃u w',(Instr.box t v).run P w=.ok u w'/\F6 C tm me r.sv r.wr a u w':=by
 unfold zol at h;split at h<;>try (cases h; done)
 rename_i k fs cs hkt hfr;split at h<;>try (cases h; done)
 rename_i hsame;simp only [Ad] at h;subst h;have e1:=Ok hsame;subst e1;obtain ⟨cells,rfl,hm⟩:=hG;obtain ⟨hfr1,hfr2⟩:=Ey hfr;have hmn:me nx=none:=by rw [hacc nx (by simp)]; exact hfr1
 have hsz:=hm.size.1;refine ⟨.pointer (some ⟨w.heap.size,0,none⟩),w.alloc (.cells cells.toArray t),by simp [Instr.box,Lk,Value.cells],?_⟩;have hK:Keeps S w me pl S (w.alloc (.cells cells.toArray t)) (upd me nx (some (.mix k.flat cs))) (upd pl nx ⟨some w.heap.size,0,0⟩):=
  ⟨λb hb=>⟨hb,heap_alloc_old w _ b (hI.sfr b hb).1⟩,(Ry (S:=S) (w:=w) hmn).m⟩
 have hb:BlkAt S (w.alloc (.cells cells.toArray t)) (upd me nx (some (.mix k.flat cs))) (upd pl nx ⟨some w.heap.size,0,0⟩) (.mix k.flat cs) ⟨some w.heap.size,0,0⟩:=
  ⟨w.heap.size,cells.toArray,t,rfl,rfl,Bk w _,by simpa using hsz,λhh=>absurd (hI.sfr _ hh).1 (by omega),by simpa using hm.keeps hK⟩
 refine ⟨_,S,by rw [Do,Dn]; exact hI.alloc hmn (by omega) hb,?_⟩;rw [Do,Dn];exact ⟨k.flat,cs,w.heap.size,[],Dr _ _ _,by simp,by simp,rfl⟩
theorem Inv.cutRow (h:Inv C tm me pl S a w) {i:Nat} {e:Kd} {l:List e.T} {v v' n:Nat} (hi:me i=some (.row e l v false)) (hv:v<v'):
  Inv C tm (upd me i (some (.row e (l.take n) v' false))) pl S a w:=by
 have hK:Keeps S w me pl S w (upd me i (some (.row e (l.take n) v' false))) pl:=by
  refine ⟨λb hb=>⟨hb,rfl⟩,λj bj hj=>?_⟩
  by_cases ee:j=i
  ·subst ee; rw [hi] at hj; cases hj; exact ⟨.row e (l.take n) v' false,by simp,⟨rfl,Nat.le_of_lt hv,λh=>by omega⟩⟩
  ·exact ⟨bj,by rw [Dm _ _ ee]; exact hj,Compat.refl _ _⟩
 have q:∀{j:Nat} {b:Blk},upd me i (some (.row e (l.take n) v' false)) j=some b->∃b,me j=some b:=by
  intro j b hj
  by_cases e1:j=i
  ·exact ⟨_,e1 ▸ hi⟩
  ·rw [Dm _ _ e1] at hj; exact ⟨_,hj⟩
 refine ⟨h.nt,h.df,λt'=>(h.tms t').keeps hK,λj bj hj=>?_,λj bj hj=>?_,λj1 j2 b1 b2 g' hne hj1 hj2 hg'=>?_,h.s0,h.sfr,h.fr,h.pd,λsv v hg=>(h.gho sv v hg).keeps hK⟩
 ·by_cases ee:j=i
  ·subst ee; simp only [Dr,Ad] at hj; subst hj
   rcases h.mem j _ hi with ⟨h1,h2,h3⟩ | ⟨g,c,t,h1,h1',h2,h3,h3',h4,h5,h6⟩
   ·exact .inl ⟨h1,by rw [h2]; simp,h3⟩
   ·refine .inr ⟨g,c,t,h1,h1',h2,by simp; omega,h3',h4,?_,h6⟩
    have:=RdL.window (Rd.length e) h5 0 (min n l.length);simp only [Nat.zero_mul,Bo] at this;rw [Bb,A6 (A7 _ (Nat.min_le_right _ _))] at this;rw [A5];have e1:l.take (min n l.length)=l.take n:=by
     rcases Nat.le_total n l.length with hh | hh
     ·rw [A6 hh]
     ·rw [Nat.min_eq_right hh,A8 (Al _),A8 hh]
    rw [e1] at this;exact this
  ·rw [Dm _ _ ee] at hj; exact (h.mem j bj hj).keeps hK (λ_ _=>rfl) (λ_ _ _=>Iff.rfl)
 ·by_cases ee:j=i
  ·subst ee; simp only [Dr,Ad] at hj; subst hj
   intro g' hg';rcases h.plcs j _ hi g' hg' with h1 | ⟨⟨k,x,s,h0⟩,_⟩
   ·exact .inl h1
   ·cases h0
  ·rw [Dm _ _ ee] at hj; exact h.plcs j bj hj
 ·obtain ⟨b1',q1⟩:=q hj1
  obtain ⟨b2',q2⟩:=q hj2;exact h.dis j1 j2 b1' b2' g' hne q1 q2 hg'
theorem Y9 (hT:D3 P T) {np:Nat} (hnp:np=C.pp.length) {rd:Nat->Option Blk} {t:TypeId} {sv:SV} {slo shi smx:Option SV} {nx:Nat} {r:ARes} {v:Value} {vlo vhi vmx:Option Value} (h:UY T np rd t sv slo shi smx nx=some r) (hok:r.ok=true) (hacc:∀i∈r.acc,me i=rd i)
  (hI:Inv C tm me pl S a w) (hG:G S w me pl sv v) (hlo:OG S w me pl slo vlo) (hhi:OG S w me pl shi vhi) (hmx:OG S w me pl smx vmx):
  ∃u,(Instr.sliceAt t v vlo vhi vmx).run P w=.ok u w/\F6 C tm me r.sv r.wr a u w:=by
 unfold UY at h;split at h<;>try (cases h; done)
 case h_2=>
  rename_i et e l0 ik hh0 ik2 mm0 hd;obtain ⟨hh,rfl⟩:∃z:Int,z=hh0:=⟨hh0,rfl⟩
  obtain ⟨mm,rfl⟩:∃z:Int,z=mm0:=⟨mm0,rfl⟩
  obtain ⟨l,rfl⟩:∃z:List e.T,z=l0:=⟨l0,rfl⟩
  split at h<;>try (cases h; done)
  rename_i hkd;simp only [Ad] at h;subst h;have hc:hh=mm/\(0:Int)<=hh/\hh<=(List.length l:Int):=Bw hok;obtain ⟨rfl,hc1,hc2⟩:=hc;simp only [OG] at hlo;subst hlo;obtain ⟨vh,rfl,hvh⟩:=hhi;have hvi:=VRd.int.1 hvh;subst hvi;obtain ⟨vm,rfl,hvm⟩:=hmx;have hvi:=VRd.int.1 hvm;subst hvi;have hz:=D1 hT w (Ik hT (Ea hkd) hd);rcases VRd.sl.1 hG with ⟨rfl,rfl⟩ | ⟨g,off,cap,c,tb,fr,rfl,hcl0,hSg,hcc,h9⟩ | ⟨a0,rfl,rfl⟩
  rotate_left 2
  ·have h0:hh=0:=by simp at hc2; omega
   subst h0;have hrun:=Eo (w:=w) hT hd hz (a0:=some a0) (len:=0) (cap:=0) (lo:=none) (hi:=some (.int ik 0)) (mx:=some (.int ik2 0)) (l:=0) (h:=0) (m:=0) (.inl ⟨rfl,rfl⟩) (.inr ⟨_,rfl⟩) (.inr ⟨⟨_,rfl⟩,_,rfl⟩) (Bu _) (Bu _) (Bu _) (Bu _);refine ⟨.slice (some a0) 0 0,by simpa using hrun,pl,S,by rw [Dn]; exact hI,?_⟩;rw [Dn];exact ⟨VRd.sl.2 (.inr (.inr ⟨a0,rfl,by simp⟩)),_,_,rfl⟩
  ·have h0:hh=0:=by simp at hc2; omega
   subst h0;have hrun:=Eo (w:=w) hT hd hz (a0:=none) (len:=0) (cap:=0) (lo:=none) (hi:=some (.int ik 0)) (mx:=some (.int ik2 0)) (l:=0) (h:=0) (m:=0) (.inl ⟨rfl,rfl⟩) (.inr ⟨_,rfl⟩) (.inr ⟨⟨_,rfl⟩,_,rfl⟩) (Bu _) (Bu _) (Bu _) (Bu _);refine ⟨.slice none 0 0,by simpa using hrun,pl,S,by rw [Dn]; exact hI,?_⟩;rw [Dn];exact ⟨VRd.sl.2 (.inl ⟨rfl,by simp⟩),_,_,rfl⟩
  ·have hrun:=Eo (w:=w) hT hd hz (a0:=some ⟨g,off,none⟩) (len:=l.length) (cap:=cap) (lo:=none) (hi:=some (.int ik hh)) (mx:=some (.int ik2 hh)) (l:=0) (h:=hh) (m:=hh) (.inl ⟨rfl,rfl⟩) (.inr ⟨_,rfl⟩) (.inr ⟨⟨_,rfl⟩,_,rfl⟩) (Bu _) hc1 (Bu _) (by omega)
   refine ⟨_,hrun,pl,S,by rw [Dn]; exact hI,?_⟩;rw [Dn];refine ⟨VRd.sl.2 (.inr (.inl ⟨g,off,hh.toNat,c,tb,fr,?_,?_,hSg,hcc,?_⟩)),_,_,rfl⟩
   ·have:(List.take hh.toNat l).length=hh.toNat:=by simp; omega
    rw [this];simp [add_eq]
   ·simp only [A5]; omega
   ·have h8:=RdL.window (Rd.length e) h9 0 hh.toNat
    have hl9:=RdL.length (Rd.length e) h9;rw [Bo,Nat.zero_mul,Bo,Bb] at h8;have:(List.take hh.toNat l).length=hh.toNat:=by simp; omega
    rw [this]
    rwa [A6 (A7 _ (by omega))] at h8
 rename_i et j ver ik hh0 hd;obtain ⟨hh,rfl⟩:∃z:Int,z=hh0:=⟨hh0,rfl⟩
 split at h<;>try (cases h; done)
 rename_i e l ver' hrd hblt;split at h<;>try (cases h; done)
 rename_i hver hkd;simp only [Ad] at h;subst h;have ev:=Aa hver;subst ev;have hc:(0:Int)<=hh/\hh<=(l.length:Int):=Bw hok;have hm:me j=some (.row e l ver false):=by rw [hacc j (by simp)]; exact hrd
 simp only [OG] at hlo hmx;subst hlo hmx;obtain ⟨vh,rfl,hvh⟩:=hhi;have hvi:=VRd.int.1 hvh;subst hvi;obtain ⟨e2,l2,ver2,sh2,hm2,_,hrow⟩:=hG;rw [hm] at hm2;cases hm2;have hrow:=hrow rfl;have hz:=D1 hT w (Ik hT (Ea hkd) hd);have hI2:=hI.cutRow (n:=hh.toNat) hm (Nat.lt_succ_self ver);have hlt:(List.take hh.toNat l).length=hh.toNat:=by simp; omega
 rcases hrow with ⟨hg,rfl⟩ | ⟨g,hg,rfl⟩
 ·have hl0:l=[]:=by
   rcases hI.mem j _ hm with ⟨_,h2,_⟩ | ⟨g,c,ty,h1,_⟩
   ·exact h2
   ·rw [hg] at h1; cases h1
  subst hl0;have h0:hh=0:=by have:=hc.2; simp at this; omega
  subst h0;refine ⟨.slice none 0 0,?_,pl,S,by rw [Do,Dn]; exact hI2,?_⟩
  ·have hrun:=Eo (w:=w) hT hd hz (a0:=none) (len:=0) (cap:=0) (lo:=none) (hi:=some (.int ik 0)) (mx:=none) (l:=0) (h:=0) (m:=(0:Nat)) (.inl ⟨rfl,rfl⟩) (.inr ⟨_,rfl⟩) (.inl ⟨rfl,rfl⟩) (Bu _) (Bu _) (Bu _) (Bu _)
   simpa using hrun
  ·rw [Do,Dn]
   exact ⟨e,_,ver+1,false,Dr _ _ _,Al _,λ_=>.inl ⟨hg,rfl⟩⟩
 ·have hcap:l.length<=(pl j).cap:=by
   rcases hI.mem j _ hm with ⟨h1,_,_⟩ | ⟨g',c,ty,_,_,_,h1,_⟩
   ·rw [hg] at h1; cases h1
   ·exact h1
  have hrun:=Eo hT hd hz (a0:=some ⟨g,0,none⟩) (len:=l.length) (cap:=(pl j).cap) (lo:=none) (hi:=some (.int ik hh)) (mx:=none) (l:=0) (h:=hh) (m:=(pl j).cap) (.inl ⟨rfl,rfl⟩) (.inr ⟨_,rfl⟩) (.inl ⟨rfl,rfl⟩) (Bu _) hc.1 (by omega) (Bu _);refine ⟨_,hrun,pl,S,by rw [Do,Dn]; exact hI2,?_⟩;rw [Do,Dn];refine ⟨e,_,ver+1,false,Dr _ _ _,Al _,λ_=>.inr ⟨g,hg,?_⟩⟩;rw [hlt];simp [add_eq]
theorem P8 {rd:Nat->Option Blk} {ρ:Operand->SV}:∀(l:List Operand) (ps:List (Nat×Kd)) (acc:List Nat),Yz rd (l.map ρ)=some (ps,acc)->(∀i∈acc,me i=rd i)->(∀x∈l,G S w me pl (ρ x) (a.eval x))->CapsG me pl ps (l.map a.eval)
 | [],ps,acc,h,_,_=>by
  simp only [List.map_nil,Yz,Ad,Be] at h;obtain ⟨rfl,rfl⟩:=h;rfl
 | x::l,ps,acc,h,hacc,hG=>by
  have hx:=hG x (by simp);rw [Cc] at h;generalize ρ x=sv at*;unfold Yz at h;split at h<;>try (cases h; done)
  ·rename_i heq
   cases heq
  rename_i b k l' heq;simp only [List.cons.injEq] at heq;obtain ⟨rfl,rfl⟩:=heq;split at h<;>try (cases h; done)
  rename_i kb y sh ps' acc' hrd hrest;split at h<;>try (cases h; done)
  rename_i hsame;simp only [Ad,Be] at h;obtain ⟨rfl,rfl⟩:=h;have hm:me b=some (.var kb y sh):=by rw [hacc b (by simp)]; exact hrd
  obtain ⟨kb',x',sh',o,g,hm',_,hoff,hg,he⟩:=hx;rw [hm] at hm';cases hm';simp only [Kd.offP,Ad,Be] at hoff;obtain ⟨rfl,rfl⟩:=hoff;rw [Cc,he];exact ⟨y,sh,g,_,rfl,hm,hg,P8 l ps' acc' hrest (λi hi=>hacc i (by simp [hi])) (λx hx=>hG x (by simp [hx]))⟩
theorem Sk {rd:Nat->Option Blk} {ρ:Operand->SV} {f:Fn} {fi cs:Array Operand} {nx:Nat} {r:ARes} (h:Sl rd f (fi.toList.map ρ) (cs.toList.map ρ) nx=some r) (hacc:∀i∈r.acc,me i=rd i)
  (hG:∀x∈fi++cs,G S w me pl (ρ x) (a.eval x)):∃u,(Instr.makeFunc f (fi.map a.eval) (cs.map a.eval)).run P w=.ok u w/\r.wr=[]/\G S w me pl r.sv u:=by
 unfold Sl at h;split at h<;>try (cases h; done)
 ·rename_i f' h1 h2
  simp only [ok1,Ad] at h;subst h;have e1:fi=#[]:=by
   have:fi.toList=[]:=by simpa using h1
   exact Bq this
  have e2:cs=#[]:=by
   have:cs.toList=[]:=by simpa using h2
   exact Bq this
  subst e1 e2;exact ⟨_,by simp [Instr.makeFunc],rfl,rfl⟩
 ·rename_i cap f' h1 h3
  split at h<;>try (cases h; done)
  rename_i ps acc hc;simp only [Ad] at h;subst h;have e1:fi=#[]:=by
   have:fi.toList=[]:=by simpa using h1
   exact Bq this
  subst e1;refine ⟨.func (.func f') #[] (cs.map a.eval),by simp [Instr.makeFunc],rfl,cs.toList.map a.eval,?_,P8 cs.toList ps acc hc hacc (λx hx=>hG x (by simpa using hx))⟩
  congr 1
  apply Bq;simp
theorem Tr {np:Nat} (hnp:np=C.pp.length) (hT:D3 P T) {rd:Nat->Option Blk} {t:TypeId} {h0:Option SV} {hv:Option Value} {nx:Nat} {r:ARes} (h:Wa T np rd t h0 nx=some r) (hacc:∀i∈r.acc,me i=rd i)
  (hI:Inv C tm me pl S a w) (hh:(h0=none/\hv=none)\/∃sv v,h0=some sv/\hv=some v/\G S w me pl sv v):∃u w',(Instr.makeMap t hv).run P w=.ok u w'/\F6 C tm me r.sv r.wr a u w':=by
 unfold Wa at h;split at h<;>try (cases h; done)
 rename_i kt et hd hho hfr;split at h<;>try (cases h; done)
 rename_i kk kv hkk hkv;simp only [Ad] at h;subst h;obtain ⟨hfr1,hfr2⟩:=Ey hfr;have hmn:me nx=none:=by rw [hacc nx (by simp)]; exact hfr1
 have hrun:(Instr.makeMap t hv).run P w=.ok (.map (some w.heap.size)) (w.alloc (.map #[] 0)):=by
  rcases hh with ⟨_,rfl⟩ | ⟨sv,v,rfl,rfl,hG⟩
  ·rfl
  ·cases sv<;>simp [SL] at hho
   rename_i k x;cases k<;>simp [SL] at hho
   have:=VRd.int.1 hG;subst this;simp only [Instr.makeMap,As,Au (Dq hT hd),Av];rfl
 refine ⟨_,_,hrun,upd pl nx ⟨some w.heap.size,0,0⟩,S,?_,?_⟩
 ·rw [Do,Dn]
  exact hI.alloc hmn (by omega) ⟨w.heap.size,#[],0,rfl,rfl,Bk w _,λhh=>absurd (hI.sfr _ hh).1 (by omega),rfl⟩
 ·rw [Do,Dn]
  exact ⟨kk,kv,[],w.heap.size,Dr _ _ _,by simp,rfl⟩
theorem R5 {kt:TypeId} {kk kv:Kd} (hq:EqOK P kt kk) {x:kk.T} {v:Value} (hx:VRd S w kk x v):∀{m:List (kk.T×kv.T)} {es:List MapEntry} (i:Nat),MapG S w kk kv m es->
  ∃r,(Instr.findAsking kt v es i).run P w=.ok r w/\(match E9 kk.eqv m x with | some y=>∃j u,r=some (j,u)/\VRd S w kv y u | none=>r=none)
 | [],es,i,h=>by
  rw [show es=[] from h];exact ⟨none,by simp [Instr.findAsking],rfl⟩
 | p::m,es,i,⟨e,es',he,h1,h2,h3⟩=>by
  subst he;obtain ⟨cx,hcx,rfl⟩:=hx;obtain ⟨ck,hck,hk⟩:=h1;have heq:(Op.equal kt (kk.mkV cx) e.key).run P w=.ok (kk.eqv x p.1) w:=by
   rw [hk]; exact hq.2.2 S w x p.1 cx ck hcx hck
  simp only [E9];cases hb:kk.eqv x p.1 with
  | true=>
   refine ⟨some (i,e.val),?_,⟨i,e.val,rfl,h2⟩⟩;simp [Instr.findAsking,heq,hb]
  | false=>
   obtain ⟨r,g1,g2⟩:=R5 hq ⟨cx,hcx,rfl⟩ (i+1) h3;refine ⟨r,?_,g2⟩;simp [Instr.findAsking,heq,hb,g1]
theorem IV {kk kv:Kd} (hkk:keyK kk=true) {d:TypeDesc} {x:kk.T} {v:Value} (hx:VRd S w kk x v):∀{m:List (kk.T×kv.T)} {es:List MapEntry} (i:Nat) (r:Option (Nat×Value)),MapG S w kk kv m es->
  Instr.findNow d v es i=some r->(match E9 kk.eqv m x with | some y=>∃j u,r=some (j,u)/\VRd S w kv y u | none=>r=none)
 | [],es,i,r,h,hf=>by
  rw [show es=[] from h] at hf;simp only [Instr.findNow,Ad] at hf;simp only [E9];exact hf.symm
 | p::m,es,i,r,⟨e,es',he,h1,h2,h3⟩,hf=>by
  subst he;have hsame:∀b,Instr.sameNow d v e.key=some b->b=kk.eqv x p.1:=by
   intro b hb;cases kk<;>simp only [keyK,Bx] at hkk
   ·rename_i ik
    rw [VRd.int.1 hx,VRd.int.1 h1] at hb;unfold Instr.sameNow at hb;split at hb<;>try (cases hb; done)
    ·rename_i q1 q2
     cases q1;cases q2;simp only [Ca,Ad] at hb;rw [<-hb]; rfl
    ·rename_i q1 q2; cases q1
    ·rename_i q1 q2; cases q1
   ·obtain ⟨cx,hcx,rfl⟩:=hx
    unfold Instr.sameNow at hb;simp only [Kd.mkV,Kd.agg,Ca] at hb;cases hb
   ·obtain ⟨cx,hcx,rfl⟩:=hx
    unfold Instr.sameNow at hb;simp only [Kd.mkV,Kd.agg,Ca] at hb;cases hb
  simp only [Instr.findNow] at hf;simp only [E9];split at hf
  ·rename_i hs
   rw [<-hsame _ hs];simp only [Ad] at hf;exact ⟨i,e.val,hf.symm,h2⟩
  ·rename_i hs
   rw [<-hsame _ hs];exact IV hkk hx (i+1) r h3 hf
  ·cases hf
theorem IW (hT:D3 P T) {kt:TypeId} {kk kv:Kd} (hkk:keyK kk=true) (hkt:tkd T kt=some kk) (hq:EqOK P kt kk) {x:kk.T} {v:Value} (hx:VRd S w kk x v) {m:List (kk.T×kv.T)} {es:List MapEntry} (h:MapG S w kk kv m es):
  ∃r,(Instr.findKey kt v es).run P w=.ok r w/\(match E9 kk.eqv m x with | some y=>∃j u,r=some (j,u)/\VRd S w kv y u | none=>r=none):=by
 obtain ⟨dd,q1,q2,q3⟩:=Fb hT hkt;have hu:=q3.und;unfold Instr.findKey;simp only [As,Au hu,Av];cases hf:Instr.findNow dd.desc v es 0 with
 | some r=>exact ⟨r,by simp,IV hkk hx 0 r h hf⟩
 | none=>exact R5 hq hx 0 h
theorem Wb (hT:D3 P T) {eqt:List Nat} (hEq:∀t∈eqt,∀k,tkd T t=some k->EqOK P t k) {rd:Nat->Option Blk} {t:TypeId} {x ix:SV} {co:Bool} {nx:Nat} {r:ARes} {vx vi:Value} (h:DV T eqt rd t x ix co nx=some r) (hacc:∀i∈r.acc,me i=rd i)
  (hI:Inv C tm me pl S a w) (hGx:G S w me pl x vx) (hGi:G S w me pl ix vi):∃u,(Instr.lookup t vx vi co).run P w=.ok u w/\r.wr=[]/\G S w me pl r.sv u:=by
 unfold DV at h;split at h<;>try (cases h; done)
 rename_i kt et j k' y hd;split at h<;>try (cases h; done)
 rename_i kk kv m hrd;split at h<;>try (cases h; done)
 rename_i z hel hz hkk hkv;have:=TV.as_some hz;cases this;simp only [Ab] at hel;have hjacc:j∈r.acc:=by
  cases co<;>simp only [Ad] at h<;>subst h<;>simp
 have hm:me j=some (.map k' kv m):=by rw [hacc j hjacc]; exact hrd
 obtain ⟨kk',kv',m',g,hm',hg,rfl⟩:=hGx;rw [hm] at hm';cases hm';obtain ⟨g',es,cl,hg',_,hes,hnS,hmg⟩:=hI.mem j _ hm;rw [hg] at hg';cases hg';have hkt:=Ea hkk;have hq:=hEq kt (by simpa using hel.1) _ hkt;obtain ⟨fr,f1,f2⟩:=IW hT hel.2 hkt hq hGi hmg;obtain ⟨cx,hcx,rfl⟩:=hGi;have hck:=hq.1 es.isEmpty S w y cx hcx;have hgo:(getObj g).run P w=.ok (.map es cl) w:=by simp [getObj,Sem.run,hes]
 have hzv:=OB hT w (Ea hkv);have hcase:(∃q jj u,E9 k'.eqv m y=some q/\fr=some (jj,u)/\VRd S w kv q u)\/(E9 k'.eqv m y=none/\fr=none):=by
  revert f2
  cases E9 k'.eqv m y with
  | some q=>intro ⟨jj,u,h1,h2⟩; exact .inl ⟨q,jj,u,rfl,h1,h2⟩
  | none=>intro h1; exact .inr ⟨rfl,h1⟩
 clear f2;rcases hcase with ⟨q,jj,u,hf,rfl,hu⟩ | ⟨hf,rfl⟩
 ·rw [hf] at h
  cases co with
  | true=>
   simp only [Ad] at h;subst h;refine ⟨.tuple #[u,.bool true],?_,rfl,⟨[u,.bool true],rfl,⟨_,_,rfl,hu,_,_,rfl,VRd.bool.2 rfl,rfl⟩⟩⟩;simp [Instr.lookup,Au (Dq hT hd),hgo,hck,f1]
  | false=>
   simp only [Ad] at h;subst h;refine ⟨u,?_,rfl,hu⟩;simp [Instr.lookup,Au (Dq hT hd),hgo,hck,f1]
 ·rw [hf] at h
  have hu:VRd S w kv kv.zero (kv.mkV kv.zcells):=⟨_,Rd.zero kv,rfl⟩
  cases co with
  | true=>
   simp only [Ad] at h;subst h;refine ⟨.tuple #[kv.mkV kv.zcells,.bool false],?_,rfl,⟨[kv.mkV kv.zcells,.bool false],rfl,⟨_,_,rfl,hu,_,_,rfl,VRd.bool.2 rfl,rfl⟩⟩⟩;simp [Instr.lookup,Au (Dq hT hd),hgo,hck,f1,hzv]
  | false=>
   simp only [Ad] at h;subst h;refine ⟨_,?_,rfl,hu⟩;simp [Instr.lookup,Au (Dq hT hd),hgo,hck,f1,hzv]
theorem AK {np:Nat} {rd:Nat->Option Blk} {sv:SV} {k:Kd} {y:k.T} {wr:List (Nat×Blk)} {acc:List Nat} (h:Ix np rd sv k=some (y,wr,acc)) {i:Nat} {kk kv:Kd} {m:List (kk.T×kv.T)} (hr:rd i=some (.map kk kv m)):i∉acc:=by
 cases sv<;>simp only [Ix] at h<;>try (cases h; done)
 case nil=>
  cases k<;>simp only [reduceCtorEq] at h
  simp only [Ad,Be] at h;obtain ⟨_,rfl,rfl⟩:=h;simp
 case val=>
  split at h<;>try (cases h; done)
  simp only [Ad,Be] at h;obtain ⟨_,rfl,rfl⟩:=h;simp
 case own j ver=>
  split at h<;>try (cases h; done)
  rename_i hrd;split at h<;>try (cases h; done)
  simp only [Ad,Be] at h;obtain ⟨_,rfl,rfl⟩:=h;intro hi;simp only [Ce] at hi;subst hi;rw [hr] at hrd;cases hrd
 case win j ver lo n=>
  split at h<;>try (cases h; done)
  rename_i hrd;split at h<;>try (cases h; done)
  simp only [Ad,Be] at h;obtain ⟨_,rfl,rfl⟩:=h;intro hi;simp only [Ce] at hi;subst hi;rw [hr] at hrd;cases hrd
 case asl b p lo n=>
  split at h<;>try (cases h; done)
  rename_i hrd;split at h<;>try (cases h; done)
  split at h<;>try (cases h; done)
  simp only [Ad,Be] at h;obtain ⟨_,rfl,rfl⟩:=h;intro hi;simp only [Ce] at hi;subst hi;rw [hr] at hrd;cases hrd
 case fn=>
  split at h<;>try (cases h; done)
  simp only [Ad,Be] at h;obtain ⟨_,rfl,rfl⟩:=h;simp
 case clo=>
  split at h<;>try (cases h; done)
  split at h<;>try (cases h; done)
  rename_i hrd;split at h<;>try (cases h; done)
  simp only [Ad,Be] at h;obtain ⟨_,rfl,rfl⟩:=h;intro hi;simp only [Ce] at hi;subst hi;rw [hr] at hrd;cases hrd
theorem MapG.push {kk kv:Kd} {x:kk.T} {y:kv.T} {e:MapEntry} (h1:VRd S w kk x e.key) (h2:VRd S w kv y e.val):∀{m:List (kk.T×kv.T)} {es:List MapEntry},MapG S w kk kv m es->MapG S w kk kv (m++[(x,y)]) (es++[e])
 | [],es,h=>by rw [show es=[] from h]; exact ⟨e,[],rfl,h1,h2,rfl⟩
 | _::_,_,⟨e0,es',he,g1,g2,g3⟩=>by subst he; exact ⟨e0,es'++[e],rfl,g1,g2,MapG.push h1 h2 g3⟩
theorem Ki (hT:D3 P T) {eqt:List Nat} (hEq:∀t∈eqt,∀k,tkd T t=some k->EqOK P t k) {np:Nat} (hnp:np=C.pp.length) {rd:Nat->Option Blk} {t:TypeId} {x ix sv:SV} {nx:Nat} {r:ARes} {vx vi vv:Value} (h:Lv T eqt np rd t x ix sv nx=some r) (hok:r.ok=true) (hacc:∀i∈r.acc,me i=rd i)
  (hI:Inv C tm me pl S a w) (hGx:G S w me pl x vx) (hGi:G S w me pl ix vi) (hGv:G S w me pl sv vv):∃w',(Instr.mapUpdate t vx vi vv).run P w=.ok () w'/\F6 C tm me r.sv r.wr a undef w':=by
 unfold Lv at h;split at h<;>try (cases h; done)
 rename_i kt et j k' y hd;split at h<;>try (cases h; done)
 rename_i kk kv m hrd;split at h<;>try (cases h; done)
 rename_i z hel hz hkk hkv;split at h<;>try (cases h; done)
 rename_i u wr acc hval;have:=TV.as_some hz;cases this;simp only [Ad] at h;subst h;simp only [Ab] at hel;have hm:me j=some (.map k' kv m):=by rw [hacc j (by simp)]; exact hrd
 obtain ⟨S',g1,g2,g3⟩:=Ez hnp hval (λq hq=>hacc q (by simp [hq])) hI hGv;have hm2:laid wr me j=some (.map k' kv m):=by
  have hnm:=AK hval hrd;rcases Lg hval with ⟨rfl,_⟩ | ⟨i,b,b',rfl,ha,hri,hb⟩
  ·rw [Dn]; exact hm
  ·have hne:j≠i:=λe=>by
    subst e;exact hnm (by rw [ha]; simp)
   rw [Do,Dm _ _ hne,Dn]; exact hm
 obtain ⟨kk',kv',m',g,hm',hg,rfl⟩:=hGx;rw [hm] at hm';cases hm';obtain ⟨g',es,cl,hg',_,hes,hnS,hmg⟩:=g1.mem j _ hm2;rw [hg] at hg';cases hg';have hkt:=Ea hkk;have hq:=hEq kt (by simpa using hel.1) _ hkt;have hGi':VRd S' w k' y vi:=VRd.mono g2.s hGi;obtain ⟨fr,f1,f2⟩:=IW hT hel.2 hkt hq hGi' hmg;have hfn:E9 k'.eqv m y=none:=by simpa using hok
 rw [hfn] at f2;have f2':fr=none:=f2;subst f2';obtain ⟨cx,hcx,hvi⟩:=hGi';have hck:=hq.1 false S' w y cx hcx;rw [<-hvi] at hck;have hgo:(getObj g).run P w=.ok (.map es cl) w:=by simp [getObj,Sem.run,hes]
 have hpush:MapG S' w k' kv (m++[(y,u)]) (es.push {key:=vi,val:=vv,born:=cl}).toList:=by
  rw [Array.toList_push];exact MapG.push (e:={key:=vi,val:=vv,born:=cl}) ⟨cx,hcx,hvi⟩ g3 hmg
 obtain ⟨q1,q2⟩:=g1.writeMap (t':=cl+1) hm2 hg hnS hes hpush;refine ⟨{w with heap:=w.heap.setIfInBounds g (.map (es.push {key:=vi,val:=vv,born:=cl}) (cl+1))},?_,pl,S',by rw [Do]; exact q1,trivial⟩;have hso:∀o,(setObj g o).run P w=.ok () {w with heap:=w.heap.setIfInBounds g o}:=λo=>by simp [setObj,Sem.run,hes]
 simp [Instr.mapUpdate,Au (Dq hT hd),hgo,hck,f1,hso]
theorem X7 {ρ:Operand->SV} (parts:Array (Nat×Operand)) (h:∀x∈(parts.toList.map (·.2)).toArray,G S w me pl (ρ x) (a.eval x)):
  ∃vs:List (Nat×Value),(parts.map λ(i,x)=>(i,a.eval x))=vs.toArray/\PartsG S w me pl (parts.toList.map λp=>(p.1,ρ p.2)) vs:=by
 obtain ⟨l⟩:=parts;simp only [List.map_toArray] at*;refine ⟨_,rfl,?_⟩;have h':∀x∈l.map (·.2),G S w me pl (ρ x) (a.eval x):=λx hx=>h x (by simpa using hx)
 clear h
 induction l with
 | nil=>rfl
 | cons p l ih=>exact ⟨_,_,rfl,h' _ (by simp),ih (λx hx=>h' x (by simp at hx ⊢; exact .inr hx))⟩
theorem Sj (hT:D3 P T) {eqt:List Nat} (hEq:∀t∈eqt,∀k,tkd T t=some k->EqOK P t k) {np:Nat} (hnp:np=C.pp.length) {own:Bool} {rd:Nat->Option Blk} {ρ:Operand->SV} {o:Oper} {nx:Nat} {r:ARes}
  (h:zfb T eqt np own rd ρ o nx=some r) (hok:r.ok=true) (hacc:∀i∈r.acc,me i=rd i) (hI:Inv C tm me pl S a w) (hρ:∀x∈o.op.operands,G S w me pl (ρ x) (a.eval x)):
  Runs P o a w (F6 C tm me r.sv r.wr a):=by
 have same:∀{u:Value},r.wr=[]->G S w me pl r.sv u->F6 C tm me r.sv r.wr a u w:=λh1 h2=>by rw [h1]; exact MA hI h2
 obtain ⟨dst,op,type,pos,after,guard⟩:=o;cases op<;>simp only [zfb] at h<;>try (cases h; done)
 case move x=>
  have hx:=hρ x (by simp [Op.operands]);split at h
  ·rename_i hnil
   split at h<;>try (cases h; done)
   rename_i e hkt hfr;simp only [Ad] at h;subst h;obtain ⟨hfr1,hfr2⟩:=Ey hfr;have hmn:me nx=none:=by rw [hacc nx (by simp)]; exact hfr1
   rw [hnil] at hx;refine Runs.value (w':=w) (v:=a.eval x) (by simp [execOp]) ⟨_,S,by rw [Do,Dn]; exact hI.nilrow e hmn,?_⟩;rw [Do,Dn];exact ⟨e,[],0,false,Dr _ _ _,Al _,λ_=>.inl ⟨by simp,hx⟩⟩
  ·simp only [ok1,Ad] at h
   subst h;exact Runs.value (w':=w) (v:=a.eval x) (by simp [execOp]) (same rfl hx)
 case assign x=>
  have hx:=hρ x (by simp [Op.operands]);split at h
  ·rename_i hnil
   split at h<;>try (cases h; done)
   rename_i e hkt hfr;simp only [Ad] at h;subst h;obtain ⟨hfr1,hfr2⟩:=Ey hfr;have hmn:me nx=none:=by rw [hacc nx (by simp)]; exact hfr1
   rw [hnil] at hx;refine Runs.value (w':=w) (v:=a.eval x) (by simp [execOp]) ⟨_,S,by rw [Do,Dn]; exact hI.nilrow e hmn,?_⟩;rw [Do,Dn];exact ⟨e,[],0,false,Dr _ _ _,Al _,λ_=>.inl ⟨by simp,hx⟩⟩
  ·simp only [ok1,Ad] at h
   subst h;exact Runs.value (w':=w) (v:=a.eval x) (by simp [execOp]) (same rfl hx)
 case pick c x y=>
  have hc:=hρ c (by simp [Op.operands]);have hx:=hρ x (by simp [Op.operands]);have hy:=hρ y (by simp [Op.operands]);unfold zux at h;split at h<;>try (cases h; done)
  rename_i cb hcb;rw [hcb] at hc;have ec:=VRd.bool.1 hc;cases cb<;>simp only [ok1,Ad] at h<;>subst h
  ·exact Runs.value (w':=w) (v:=a.eval y) (by simp [execOp,ec,asBool]) (same rfl hy)
  ·exact Runs.value (w':=w) (v:=a.eval x) (by simp [execOp,ec,asBool]) (same rfl hx)
 case alloc t=>
  cases own with
  | false=>
   obtain ⟨u,w',h1,h2⟩:=Zg hT hnp h hacc hI;exact Runs.value (by simp [execOp,h1]) h2
  | true=>
   obtain ⟨u,w',h1,h2⟩:=Wi hT hnp h hacc hI;exact Runs.value (by simp [execOp,h1]) h2
 case box t x=>
  cases own with
  | false=>
   obtain ⟨u,w',h1,h2⟩:=MF (P:=P) hT hnp h hacc hI (hρ x (by simp [Op.operands]));exact Runs.value (by simp [execOp,h1]) h2
  | true=>
   obtain ⟨u,w',h1,h2⟩:=EA (P:=P) hT hnp h hacc hI (hρ x (by simp [Op.operands]));exact Runs.value (by simp [execOp,h1]) h2
 case build t parts=>
  obtain ⟨vs,e,hp⟩:=X7 (ρ:=ρ) (a:=a) parts (λx hx=>hρ x (by simpa [Op.operands] using hx));cases own with
  | false=>
   obtain ⟨u,h1,h2⟩:=Zf hT hnp h hacc hI hp;exact Runs.value (w':=w) (v:=u) (by simp only [execOp,e,As,h1,Av,A1]) h2
  | true=>
   obtain ⟨u,h1,h2⟩:=We hT h hacc hI hp;exact Runs.value (w':=w) (v:=u) (by simp only [execOp,e,As,h1,Av,A1]) h2
 case makeFunc f fi cs=>
  obtain ⟨u,h1,h2,h3⟩:=Sk (P:=P) (w:=w) h hacc (λx hx=>hρ x (by simpa [Op.operands] using hx));exact Runs.value (w':=w) (v:=u) (by simp [execOp,h1]) (same h2 h3)
 case buildSlice t len parts=>
  obtain ⟨vs,e,hp⟩:=X7 (ρ:=ρ) (a:=a) parts (λx hx=>hρ x (by simpa [Op.operands] using hx));obtain ⟨u,w',h1,h2⟩:=O4 hT hnp h hacc hI hp;exact Runs.value (w':=w') (v:=u) (by simp only [execOp,e,As,h1,Av,A1]) h2
 case load t x=>
  have hx:=hρ x (by simp [Op.operands]);split at h
  ·rename_i b i kp hsv
   rw [hsv] at hx;obtain ⟨u,h1,h2⟩:=Zc hT hnp h hacc hI hx;exact Runs.value (by simp [execOp,h1]) h2
  ·obtain ⟨u,h1,h2,h3⟩:=Mq hT h hacc hI hx
   exact Runs.value (by simp [execOp,h1]) (same h2 h3)
 case store t x v=>
  have hx:=hρ x (by simp [Op.operands]);split at h
  ·rename_i b i kp hsv
   rw [hsv] at hx;obtain ⟨w',h1,h2⟩:=V8 hT h hacc hI hx (hρ v (by simp [Op.operands]));exact Runs.skip (by simp [execOp,h1]) h2
  ·obtain ⟨w',h1,h2⟩:=Za hT hnp h hacc hI hx (hρ v (by simp [Op.operands]))
   exact Runs.skip (by simp [execOp,h1]) h2
 case nilCheck x=>
  have hx:=hρ x (by simp [Op.operands]);split at h<;>try (cases h; done)
  ·rename_i b p k hsv
   rw [hsv] at hx;simp only [ok1,Ad] at h;subst h;have hx':=hx;obtain ⟨kb,y,sh,o,g,_,_,_,_,e⟩:=hx;exact Runs.value (w':=w) (v:=a.eval x) (by simp [execOp,e]) (same rfl hx')
  ·rename_i k z hsv
   rw [hsv] at hx;simp only [ok1,Ad] at h;subst h;have hx':=hx;obtain ⟨g,off,c,t,fr,e,_⟩:=hx;exact Runs.value (w':=w) (v:=a.eval x) (by simp [execOp,e]) (same rfl hx')
  ·rename_i b i k hsv
   rw [hsv] at hx;simp only [ok1,Ad] at h;subst h;have hx':=hx;obtain ⟨fs,cs,g,post,_,_,_,e⟩:=hx;exact Runs.value (w':=w) (v:=a.eval x) (by simp [execOp,e]) (same rfl hx')
  ·rename_i j v i p k hsv
   rw [hsv] at hx;split at h<;>try (cases h; done)
   rename_i hlive;simp only [Ad] at h;subst h;obtain ⟨e,l,sh,hrd⟩:=Rw hlive;have hm:me j=some (.row e l v sh):=by rw [hacc j (by simp)]; exact hrd
   have hx':=hx;obtain ⟨e',l',ver',sh',hm',hle,hh⟩:=hx;rw [hm] at hm';cases hm';obtain ⟨_,_,o,g,_,_,e⟩:=hh rfl;exact Runs.value (w':=w) (v:=a.eval x) (by simp [execOp,e]) (same rfl hx')
 case binOp op xt x y yt=>
  split at h
  ·rename_i r' hr'
   cases h;obtain ⟨u,h1,h2,h3⟩:=MD (ox:=x) (oy:=y) hT hr' (hρ x (by simp [Op.operands])) (hρ y (by simp [Op.operands]));exact Runs.value (w':=w) (v:=u) (by simp only [execOp]; rw [As,h1]; rfl) (same h2 h3)
  obtain ⟨u,h1,h2,h3⟩:=MG (ox:=x) (oy:=y) hT hEq h hok (hρ x (by simp [Op.operands])) (hρ y (by simp [Op.operands]));exact Runs.value (w':=w) (v:=u) (by simp only [execOp]; rw [As,h1]; rfl) (same h2 h3)
 case unOp op xt x=>
  obtain ⟨u,h1,h2,h3⟩:=UX (P:=P) h (hρ x (by simp [Op.operands]));exact Runs.value (by simp [execOp,h1]) (same h2 h3)
 case convert src d x=>
  obtain ⟨u,h1,h2,h3⟩:=DX hT h hacc hI (hρ x (by simp [Op.operands]));exact Runs.value (by simp [execOp,h1]) (same h2 h3)
 case sliceToArrayPointer t x=>
  obtain ⟨u,h1,h2,h3⟩:=Wg hT h hok hacc (hρ x (by simp [Op.operands]));exact Runs.value (by simp [execOp,h1]) (same h2 h3)
 case makeMap t h0=>
  have hh:(h0.map ρ=none/\h0.map a.eval=none)\/∃sv v,h0.map ρ=some sv/\h0.map a.eval=some v/\G S w me pl sv v:=by
   cases h0 with
   | none=>exact .inl ⟨rfl,rfl⟩
   | some x=>exact .inr ⟨ρ x,a.eval x,rfl,rfl,hρ x (by simp [Op.operands])⟩
  obtain ⟨u,w',h1,h2⟩:=Tr (P:=P) hnp hT h hacc hI hh;exact Runs.value (by simp [execOp,h1]) h2
 case lookup t x i co=>
  obtain ⟨u,h1,h2,h3⟩:=Wb hT hEq h hacc hI (hρ x (by simp [Op.operands])) (hρ i (by simp [Op.operands]));exact Runs.value (by simp [execOp,h1]) (same h2 h3)
 case mapUpdate t x i v=>
  obtain ⟨w',h1,h2⟩:=Ki hT hEq hnp h hok hacc hI (hρ x (by simp [Op.operands])) (hρ i (by simp [Op.operands])) (hρ v (by simp [Op.operands]));exact Runs.skip (by simp [execOp,h1]) h2
 case insert t x i v=>
  obtain ⟨w',h1,h2⟩:=Ki hT hEq hnp h hok hacc hI (hρ x (by simp [Op.operands])) (hρ i (by simp [Op.operands])) (hρ v (by simp [Op.operands]));exact Runs.skip (by simp [execOp,h1]) h2
 case makeSlice t l c=>
  obtain ⟨u,w',h1,h2⟩:=Qs hT hnp h hok hacc hI (hρ l (by simp [Op.operands])) (hρ c (by simp [Op.operands]));exact Runs.value (by simp [execOp,h1]) h2
 case slice t x lo hi mx=>
  have og:∀(o:Option Operand),(∀x∈o.toArray,G S w me pl (ρ x) (a.eval x))->OG S w me pl (o.map ρ) (o.map a.eval):=by
   intro o h;cases o with
   | none=>rfl
   | some x=>exact ⟨_,rfl,h x (by simp)⟩
  cases own with
  | false=>
   obtain ⟨u,h1,h2,h3⟩:=Zb hT h hok hacc hI (hρ x (by simp [Op.operands])) (og lo (λx hx=>hρ x (by simp [Op.operands] at hx ⊢; simp [hx]))) (og hi (λx hx=>hρ x (by simp [Op.operands] at hx ⊢; simp [hx]))) (og mx (λx hx=>hρ x (by simp [Op.operands] at hx ⊢; simp [hx])));exact Runs.value (by simp [execOp,h1]) (same h2 h3)
  | true=>
   obtain ⟨u,h1,h2⟩:=Y9 hT hnp h hok hacc hI (hρ x (by simp [Op.operands])) (og lo (λx hx=>hρ x (by simp [Op.operands] at hx ⊢; simp [hx]))) (og hi (λx hx=>hρ x (by simp [Op.operands] at hx ⊢; simp [hx]))) (og mx (λx hx=>hρ x (by simp [Op.operands] at hx ⊢; simp [hx])));exact Runs.value (by simp [execOp,h1]) h2
 case fieldAddr t x j=>
  obtain ⟨u,h1,h2,h3⟩:=Qu hT h hacc (hρ x (by simp [Op.operands]));exact Runs.value (by simp [execOp,h1]) (same h2 h3)
 case field t x j=>
  obtain ⟨u,h1,h2,h3⟩:=Ze hT h (hρ x (by simp [Op.operands]));exact Runs.value (by simp [execOp,h1]) (same h2 h3)
 case indexAddr t x i=>
  obtain ⟨u,h1,h2,h3⟩:=Qt hT h hok hacc hI (hρ x (by simp [Op.operands])) (hρ i (by simp [Op.operands]));exact Runs.value (by simp [execOp,h1]) (same h2 h3)
 case index t x i=>
  obtain ⟨u,h1,h2,h3⟩:=Zd hT h hok (hρ x (by simp [Op.operands])) (hρ i (by simp [Op.operands]));exact Runs.value (by simp [execOp,h1]) (same h2 h3)
 case extract x i=>
  obtain ⟨u,h1,h2,h3⟩:=Ts (P:=P) h (hρ x (by simp [Op.operands]));exact Runs.value (by simp [execOp,h1]) (same h2 h3)
 case call c=>
  obtain ⟨callee,args,argTypes⟩:=c;simp only at h;split at h<;>try (cases h; done)
  ·split at h<;>try (cases h; done)
   rename_i x t hargs htypes;have ea:args=#[x]:=by rw [<-B1 (xs:=args),hargs]
   have et:argTypes=#[t]:=by rw [<-B1 (xs:=argTypes),htypes]
   subst ea et;obtain ⟨u,h1,h2,h3⟩:=ME (ty:=type) hT h hacc hI (hρ x (by simp [Op.operands,Call.operands]));exact Runs.value (w':=w) (v:=u) (by simp [execOp,resolve,invoke,builtin,h1]) (same h2 h3)
  ·split at h<;>try (cases h; done)
   rename_i d s t ts hargs htypes;have ea:args=#[d,s]:=by rw [<-B1 (xs:=args),hargs]
   have et:argTypes=#[t,ts]:=by rw [<-B1 (xs:=argTypes),htypes]
   subst ea et;obtain ⟨u,w',h1,h2⟩:=DW (ts:=ts) (ty:=type) hT h hacc hI (hρ d (by simp [Op.operands,Call.operands])) (hρ s (by simp [Op.operands,Call.operands]));exact Runs.value (w':=w') (v:=u) (by simp [execOp,resolve,invoke,builtin,h1]) h2
  ·split at h<;>try (cases h; done)
   rename_i s x t t' hargs htypes;split at h<;>try (cases h; done)
   rename_i htt;have:=Aa htt;subst this;have ea:args=#[s,x]:=by rw [<-B1 (xs:=args),hargs]
   have et:argTypes=#[t,t]:=by rw [<-B1 (xs:=argTypes),htypes]
   subst ea et;obtain ⟨u,w',h1,h2⟩:=Nx (ty:=type) hT hnp h hok hacc hI (hρ s (by simp [Op.operands,Call.operands])) (hρ x (by simp [Op.operands,Call.operands]));exact Runs.value (w':=w') (v:=u) (by simp [execOp,resolve,invoke,builtin,h1]) h2
  ·split at h<;>try (cases h; done)
   rename_i x y hargs;have ea:args=#[x,y]:=by rw [<-B1 (xs:=args),hargs]
   subst ea;obtain ⟨u,h1,h2,h3⟩:=Nw (P:=P) (w:=w) (ts:=argTypes) (ty:=type) h (hρ x (by simp [Op.operands,Call.operands])) (hρ y (by simp [Op.operands,Call.operands]));simp only [Ca] at h1;exact Runs.value (w':=w) (v:=u) (by simp [execOp,resolve,invoke,builtin,h1]) (same h2 h3)
  ·split at h<;>try (cases h; done)
   rename_i x y hargs;have ea:args=#[x,y]:=by rw [<-B1 (xs:=args),hargs]
   subst ea;obtain ⟨u,h1,h2,h3⟩:=Nw (P:=P) (w:=w) (ts:=argTypes) (ty:=type) h (hρ x (by simp [Op.operands,Call.operands])) (hρ y (by simp [Op.operands,Call.operands]));simp only [Bx,By] at h1;exact Runs.value (w':=w) (v:=u) (by simp [execOp,resolve,invoke,builtin,h1]) (same h2 h3)
end
def ArgsG (S:Nat->Prop) (w:World):List AV->List (Nat×Nat×Nat)->List Value->Prop
 | [],pp,vs=>pp=[]/\vs=[]
 | .val k x::as,pp,vs=>∃v vs',vs=v::vs'/\VRd S w k x v/\ArgsG S w as pp vs'
 | .fn f::as,pp,vs=>∃vs',vs=.func (.func f) #[] #[]::vs'/\ArgsG S w as pp vs'
 | .clo f k x::as,pp,vs=>∃v vs' g off pp',vs=v::vs'/\pp=(g,off,k.size)::pp'/\v=.func (.func f) #[] #[.pointer (some ⟨g,off,none⟩)]/\¬S g/\
   (∃c t,w.heap[g]?=some (.cells c t (0,0))/\off+k.size<=c.size/\Rd S w k x ((c.toList.drop off).take k.size))/\ArgsG S w as pp' vs'
 | .ptr k x::as,pp,vs=>∃v vs' g off pp',vs=v::vs'/\pp=(g,off,k.size)::pp'/\v=.pointer (some ⟨g,off,none⟩)/\¬S g/\
   (∃c t,w.heap[g]?=some (.cells c t (0,0))/\off+k.size<=c.size/\Rd S w k x ((c.toList.drop off).take k.size))/\ArgsG S w as pp' vs'
theorem ArgsG.off {S:Nat->Prop} {w:World}:∀{as:List AV} {pp:List (Nat×Nat×Nat)} {vs:List Value},ArgsG S w as pp vs->∀e∈pp,¬S e.1
 | [],pp,vs,h,e,he=>by rw [h.1] at he; cases he
 | .val k x::as,pp,vs,⟨_,_,_,_,h2⟩,e,he=>ArgsG.off h2 e he
 | .fn f::as,pp,vs,⟨_,_,h2⟩,e,he=>ArgsG.off h2 e he
 | .clo f k x::as,pp,vs,⟨_,_,_,_,_,_,hp,_,hn,_,h2⟩,e,he=>by
  rw [hp] at he;rcases Cd.1 he with rfl | he
  ·exact hn
  ·exact ArgsG.off h2 e he
 | .ptr k x::as,pp,vs,⟨_,_,_,_,_,_,hp,_,hn,_,h2⟩,e,he=>by
  rw [hp] at he;rcases Cd.1 he with rfl | he
  ·exact hn
  ·exact ArgsG.off h2 e he
def zfd (S:Nat->Prop) (w:World):List (Nat×Nat×Nat)->List TV->Prop
 | [],outs=>outs=[]
 | (g,off,sz)::pp,outs=>∃k x outs',outs=⟨k,x⟩::outs'/\sz=k.size/\(∃c t,w.heap[g]?=some (.cells c t (0,0))/\Rd S w k x ((c.toList.drop off).take k.size))/\zfd S w pp outs'
def ResG (S:Nat->Prop) (w:World) (B:Nat):List RV->List Value->List Nat->Prop
  | [],vs,gs=>vs=[]/\gs=[]
  | .val k x::rs,vs,gs=>∃v vs',vs=v::vs'/\VRd S w k x v/\ResG S w B rs vs' gs
  | .own e l::rs,vs,gs=>∃v vs',vs=v::vs'/\
      ((v=.slice none 0 0/\l=[]/\ResG S w B rs vs' gs)\/
       ∃g gs' cap c t,gs=g::gs'/\v=.slice (some ⟨g,0,none⟩) l.length cap/\B<=g/\¬S g/\w.heap[g]?=some (.cells c t (0,0))/\l.length<=cap/\cap<=maxLen/\c.size=cap*e.size/\
         RdL (Rd S w e) l (c.toList.take (l.length*e.size))/\ResG S w B rs vs' gs')
def Km (vs:List Value):Value:=match vs with
 | [v]=>v
 | vs=>.tuple vs.toArray
def Post (S:Nat->Prop) (w:World) (pp:List (Nat×Nat×Nat)) (rs:List RV) (outs:List TV) (v:Value) (w':World):Prop:=
 ∃S' vs gs,v=Km vs/\(∀b,S b->S' b)/\(∀b,S' b->b<w'.heap.size/\(S b\/w.heap.size<=b))/\Ji w pp w'/\ResG S' w' w.heap.size rs vs gs/\gs.Nodup/\zfd S' w' pp outs
def JL (P:Program) (f:FuncId) (as:List AV) (rs:List RV) (outs:List TV):Prop:=
 (∀args w,(callFunc f args).run P w=.ok (.enter f args) w)/\
 ∀(w:World) (S:Nat->Prop) (pp:List (Nat×Nat×Nat)) (vs:List Value),ShOK S w->(pp.map (·.1)).Nodup->ArgsG S w as pp vs->
  Calls P f vs.toArray w fun
   | .returned v,w'=>Post S w pp rs outs v w'
   | _,_=>False
def zu0 (P:Program) (f:FuncId) (as:List AV) (rs:List RV) (outs:List TV):Prop:=
 outs=[]/\∀(w:World) (S:Nat->Prop) (vs:List Value),ShOK S w->ArgsG S w as [] vs->
  ∃v w',(callFunc f vs.toArray).run P w=.ok (.value v) w'/\Post S w [] rs [] v w'
def Holds (P:Program) (f:FuncId) (as:List AV) (rs:List RV) (outs:List TV):Prop:=JL P f as rs outs\/zu0 P f as rs outs
def zfe {R:Type} (P:Program) (call:Orc R):Prop:=∀f as K r,call f as K=some r->∃rs outs,Holds P f as rs outs/\K rs outs=some r
section
variable {C:Ctx} {tm:Nat->SV} {me:Nat->Option Blk} {pl:Nat->Plc} {S:Nat->Prop} {a:Act} {w:World} {P:Program} {T:Tab}
def SVsG (S:Nat->Prop) (w:World) (me:Nat->Option Blk) (pl:Nat->Plc):List (SV×TypeId)->List Value->Prop
 | [],vs=>vs=[]
 | (s,_)::l,vs=>∃v vs',vs=v::vs'/\G S w me pl s v/\SVsG S w me pl l vs'
theorem SVsG.keeps {S':Nat->Prop} {w':World} {me':Nat->Option Blk} {pl':Nat->Plc} (h:Keeps S w me pl S' w' me' pl'):∀{l:List (SV×TypeId)} {vs:List Value},SVsG S w me pl l vs->SVsG S' w' me' pl' l vs
 | [],_,hh=>hh
 | _::_,_,⟨v,vs',e,h1,h2⟩=>⟨v,vs',e,h1.keeps h,SVsG.keeps h h2⟩
def PlG (me:Nat->Option Blk) (pl:Nat->Plc):List (Nat×List Step)->List (Nat×Nat×Nat)->Prop
 | [],pp=>pp=[]
 | (b,p)::ps,pp=>∃g o k kb x sh pp',pp=(g,(pl b).off+o,k.size)::pp'/\(pl b).g=some g/\me b=some (.var kb x sh)/\kb.okP p/\kb.offP p=some (o,k)/\PlG me pl ps pp'
theorem Ge {np:Nat} (hnp:np=C.pp.length):
  ∀(l:List (SV×TypeId)) (rd me:Nat->Option Blk) (S:Nat->Prop) (as:List AV) (wr:List (Nat×Blk)) (acc:List Nat) (ps:List (Nat×List Step)) (vs:List Value),
   Md T np rd l=some (as,wr,acc,ps)->(∀i∈acc,me i=rd i)->Inv C tm me pl S a w->SVsG S w me pl l vs->
   ∃S' pp,Inv C tm (laid wr me) pl S' a w/\Keeps S w me pl S' w (laid wr me) pl/\PlG (laid wr me) pl ps pp/\(∀q∈ps,q.1∈acc)/\
    ((∀q∈ps,∃kb x,laid wr me q.1=some (.var kb x false))->ArgsG S' w as pp vs)
 | [],rd,me,S,as,wr,acc,ps,vs,h,_,hI,hv=>by
  simp only [Md,Ad,Be] at h;obtain ⟨rfl,rfl,rfl,rfl⟩:=h;exact ⟨S,[],by rw [Dn]; exact hI,by rw [Dn]; exact Keeps.refl,rfl,λq hq=>(by cases hq),λ_=>⟨rfl,hv⟩⟩
 | (sv,t)::l,rd,me,S,as,wr,acc,ps,vs,h,hacc,hI,hv=>by
  obtain ⟨v,vs',rfl,hG,hv2⟩:=hv;simp only [Md] at h;split at h
  ·rename_i b p k
   split at h<;>try (cases h; done)
   rename_i kb x sh hrd;split at h<;>try (cases h; done)
   rename_i k' z hget;split at h<;>try (cases h; done)
   rename_i as2 wr2 acc2 ps2 hsame hrest;simp only [Ad,Be] at h;obtain ⟨rfl,rfl,rfl,rfl⟩:=h;have ek:=D0 hsame;subst ek;have hm:me b=some (.var kb x sh):=by rw [hacc b (by simp)]; exact hrd
   obtain ⟨S2,pp,g1,g2,g3,g4,g5⟩:=Ge hnp l rd me S as2 wr2 acc2 ps2 vs' hrest (λq hq=>hacc q (by simp [hq])) hI hv2;obtain ⟨kb',x',sh',o,g,hm',hok,hoff,hg,rfl⟩:=hG;rw [hm] at hm';cases hm';obtain ⟨x2,sh2,hm2,hp2⟩:=g2.var hm;refine ⟨S2,(g,(pl b).off+o,k'.size)::pp,g1,g2,⟨g,o,k',kb,x2,sh2,pp,rfl,hg,hm2,hok,hoff,g3⟩,λq hq=>?_,λhq=>?_⟩
   ·rcases Cd.1 hq with rfl | hq
    ·simp
    ·simp [g4 q hq]
   ·obtain ⟨kb3,x3,hm3⟩:=hq (b,p) (by simp)
    simp only at hm3;obtain ⟨_,g',c,tt,c1,c2,c3,hg',hc,hsz,hseg,hl1,hr2,hsh,_⟩:=hI.atPath hm hok hoff hget;rw [hg] at hg';cases hg';have hnS:¬S2 g:=by
     obtain ⟨g'',c'',t'',e1,e2,e3,e4,e5⟩:=g1.mem b _ hm3;rw [hg] at e1;cases e1;intro hh;have:=e5.2 hh;cases this
    refine ⟨_,vs',g,_,pp,rfl,rfl,rfl,hnS,⟨c,tt,hc,?_,?_⟩,g5 (λq hq'=>hq q (by simp [hq']))⟩
    ·have h2:=Rd.length _ z c2 hr2
     have h3:=Ac List.length hseg;simp at h3;omega
    ·have h2:=Rd.length _ z c2 hr2
     have:=Mi hseg 0 k'.size (by omega);rw [hl1,Ax,Bo,A8 (l:=c2) (by omega)] at this;rw [this];exact Rd.mono g2.s _ z c2 hr2
  ·rename_i fid
   split at h<;>try (cases h; done)
   rename_i as2 wr2 acc2 ps2 hrest;simp only [Ad,Be] at h;obtain ⟨rfl,rfl,rfl,rfl⟩:=h;obtain ⟨S2,pp,g1,g2,g3,g4,g5⟩:=Ge hnp l rd me S as2 wr2 acc2 ps2 vs' hrest hacc hI hv2;have hv':v=.func (.func fid) #[] #[]:=hG;subst hv';exact ⟨S2,pp,g1,g2,g3,g4,λhq=>⟨vs',rfl,g5 hq⟩⟩
  ·rename_i fid cs
   split at h<;>try (cases h; done)
   rename_i b k;split at h<;>try (cases h; done)
   rename_i kb x sh hrd;split at h<;>try (cases h; done)
   rename_i as2 wr2 acc2 ps2 hsame hrest;simp only [Ad,Be] at h;obtain ⟨rfl,rfl,rfl,rfl⟩:=h;have ek:=D0 hsame;subst ek;have hm:me b=some (.var kb x sh):=by rw [hacc b (by simp)]; exact hrd
   obtain ⟨S2,pp,g1,g2,g3,g4,g5⟩:=Ge hnp l rd me S as2 wr2 acc2 ps2 vs' hrest (λq hq=>hacc q (by simp [hq])) hI hv2;obtain ⟨caps,hv',hcap⟩:=hG;obtain ⟨x0,sh0,g,caps',rfl,hm',hg,hcap2⟩:=hcap;simp only [CapsG] at hcap2;subst hcap2;have hoff:kb.offP []=some (0,kb):=rfl;have hget:getP kb x []=some ⟨kb,x⟩:=rfl;obtain ⟨x2,sh2,hm2,hp2⟩:=g2.var hm;refine ⟨S2,(g,(pl b).off+0,kb.size)::pp,g1,g2,⟨g,0,kb,kb,x2,sh2,pp,rfl,hg,hm2,trivial,hoff,g3⟩,λq hq=>?_,λhq=>?_⟩
   ·rcases Cd.1 hq with rfl | hq
    ·simp
    ·simp [g4 q hq]
   ·obtain ⟨kb3,x3,hm3⟩:=hq (b,[]) (by simp)
    simp only at hm3;obtain ⟨_,g',c,tt,c1,c2,c3,hg',hc,hsz,hseg,hl1,hr2,hsh,_⟩:=hI.atPath hm (p:=[]) trivial hoff hget;rw [hg] at hg';cases hg';have hnS:¬S2 g:=by
     obtain ⟨g'',c'',t'',e1,e2,e3,e4,e5⟩:=g1.mem b _ hm3;rw [hg] at e1;cases e1;intro hh;have:=e5.2 hh;cases this
    refine ⟨_,vs',g,(pl b).off+0,pp,rfl,rfl,by rw [hv',Ax],hnS,⟨c,tt,hc,?_,?_⟩,g5 (λq hq'=>hq q (by simp [hq']))⟩
    ·have h2:=Rd.length _ x c2 hr2
     have h3:=Ac List.length hseg;simp at h3;omega
    ·have h2:=Rd.length _ x c2 hr2
     have:=Mi hseg 0 kb.size (by omega);rw [hl1,Ax,Bo,A8 (l:=c2) (by omega)] at this;rw [Ax,this];exact Rd.mono g2.s _ x c2 hr2
  ·rename_i sv' hsv' hsv'' hsv3
   split at h<;>try (cases h; done)
   rename_i k hkt;split at h<;>try (cases h; done)
   rename_i y wr1 acc1 hval;split at h<;>try (cases h; done)
   rename_i as2 wr2 acc2 ps2 hrest;simp only [Ad,Be] at h;obtain ⟨rfl,rfl,rfl,rfl⟩:=h;obtain ⟨S1,h1,h2,h3⟩:=Ez hnp hval (λq hq=>hacc q (by simp [hq])) hI hG;obtain ⟨S2,pp,g1,g2,g3,g4,g5⟩:=Ge hnp l (laid wr1 rd) (laid wr1 me) S1 as2 wr2 acc2 ps2 vs' hrest (λq hq=>Ia (hacc q (by simp [hq]))) h1 (hv2.keeps h2);rw [Em];exact ⟨S2,pp,g1,h2.trans g2,g3,λq hq=>by simp [g4 q hq],λhq=>⟨v,vs',rfl,VRd.mono g2.s h3,g5 hq⟩⟩
end
section
variable {C:Ctx} {tm:Nat->SV} {me:Nat->Option Blk} {pl:Nat->Plc} {S:Nat->Prop} {a:Act} {w:World} {P:Program} {T:Tab}
theorem Inv.afterCall0 (h:Inv C tm me pl S a w) {S':Nat->Prop} {w':World} (hS:∀b,S b->S' b) (hSn:∀b,S' b->b<w'.heap.size/\(S b\/w.heap.size<=b)) (hf:Ji w [] w'):Inv C tm me pl S' a w':=
 h.world hS hSn hf.os hf.tape hf.output hf.size (λb hb=>hf.block b hb (λe he=>by cases he) id)
theorem Inv.afterCall1 (h:Inv C tm me pl S a w) {S':Nat->Prop} {w':World} (hS:∀b,S b->S' b) (hSn:∀b,S' b->b<w'.heap.size/\(S b\/w.heap.size<=b))
  {b:Nat} {kb k:Kd} {x x':kb.T} {y:k.T} {p:List Step} {o g:Nat} (hm:me b=some (.var kb x false)) (hok:kb.okP p) (hoff:kb.offP p=some (o,k)) (hg:(pl b).g=some g) (hset:setP kb x p ⟨k,y⟩=some x')
  (hf:Ji w [(g,(pl b).off+o,k.size)] w') {c':Array Value} {t':TypeId} (hc':w'.heap[g]?=some (.cells c' t' (0,0))) (hr':Rd S' w' k y ((c'.toList.drop ((pl b).off+o)).take k.size)):
  Inv C tm (upd me b (some (.var kb x' false))) pl S' a w':=by
 obtain ⟨k',z,hget,has⟩:=Ho hset;have ek:=Sg has;simp only at ek;subst ek;obtain ⟨_,g',c,t,c1,c2,c3,hg',hc,hsz,hseg,hl1,hr2,hsh,hs⟩:=h.atPath hm hok hoff hget;rw [hg] at hg';cases hg';obtain ⟨z',hz',hh⟩:=hs y;rw [hset] at hz';cases hz';have hglt:=(Ap.1 hc).1;have hnS:¬S g:=λh=>by have:=hsh.2 h; cases this
 have hnS':¬S' g:=λhh=>by rcases (hSn g hh).2 with h1 | h1; exact hnS h1; omega
 have hbl:∀q,q<w.heap.size->q≠g->w'.heap[q]?=w.heap[q]?:=λq hq hne=>hf.block q hq (λe he=>by simp at he; subst he; exact λe=>hne e.symm) id
 have hsS:∀b,S b->S' b/\w'.heap[b]?=w.heap[b]?:=λq hq=>⟨hS q hq,hbl q (h.sfr q hq).1 (λe=>hnS (e ▸ hq))⟩
 obtain ⟨cc0,cc,tt,e1,e2,e3,e4,e5⟩:=hf.part (g,(pl b).off+o,k.size) (by simp) id;simp only at e1 e2 e4 e5;rw [hc] at e1;cases e1;rw [hc'] at e2;cases e2;have hK:Keeps S w me pl S' w' (upd me b (some (.var kb x' false))) pl:=by
  refine ⟨hsS,λj bj hj=>?_⟩
  by_cases e:j=b
  ·subst e; rw [hm] at hj; cases hj; exact ⟨.var kb x' false,by simp,⟨rfl,rfl⟩⟩
  ·exact ⟨bj,by rw [Dm _ _ e]; exact hj,Compat.refl _ _⟩
 have lt:∀{g:Nat} {o:Obj},w.heap[g]?=some o->g<w.heap.size:=λhh=>(Ap.1 hh).1
 have hiff:∀g,g<w.heap.size->(S' g↔S g):=λg hg=>⟨λhh=>by rcases (hSn g hh).2 with h1 | h1; exact h1; omega,hS g⟩
 have hk2:c2.length=k.size:=Rd.length k z c2 hr2;have hlen:kb.size=c1.length+c2.length+c3.length:=by
  have:=Ac List.length hseg;simp at this; omega
 have hcl:c.toList.length=c.size:=by simp
 have hcl':c'.toList.length=c'.size:=by simp
 -- the variable's cells now
 have hnew:(c'.toList.drop (pl b).off).take kb.size=c1++(c'.toList.drop ((pl b).off+o)).take k.size++c3:=by
  have a1:c1=(c.toList.drop (pl b).off).take o:=by
   have:=Ac (List.take o) hseg;rw [Bb,A6 (by omega),Ah,<-hl1,Bp] at this;rw [<-hl1]; exact this.symm
  have a3:c3=((c.toList.drop (pl b).off).take kb.size).drop (o+k.size):=by
   rw [hseg,show o+k.size=(c1++c2).length by simp; omega,Bc]
  have b1:(c'.toList.drop (pl b).off).take o=(c.toList.drop (pl b).off).take o:=by
   have:=Ac (List.drop (pl b).off) e4;rw [Ba,Ba,Nat.add_sub_cancel_left] at this;exact this
  have b3:((c'.toList.drop (pl b).off).take kb.size).drop (o+k.size)=((c.toList.drop (pl b).off).take kb.size).drop (o+k.size):=by
   rw [Ba,Ba,A9,A9,<-Bn,e5]
  rw [a1,a3,<-b1,<-b3];have d1:(c'.toList.drop ((pl b).off+o)).take k.size=((c'.toList.drop (pl b).off).drop o).take k.size:=by rw [A9]
  rw [d1];have hko:o+k.size<=kb.size:=by omega
  generalize c'.toList.drop (pl b).off=L
  conv=>lhs; rw [<-A4 (o+k.size) (L.take kb.size)]
  rw [Bb,A6 hko,List.take_add]
 refine ⟨h.nt,h.df,λt'=>(h.tms t').keeps hK,λj bj hj=>?_,λj bj hj=>?_,λj1 j2 b1 b2 g' hne hj1 hj2 hg'=>?_,λq hq=>hS q (h.s0 q hq),λq hq=>?_,?_,h.pd,λsv v hg=>(h.gho sv v hg).keeps hK⟩
 ·by_cases e:j=b
  ·subst e
   simp only [Dr,Ad] at hj; subst hj;refine ⟨g,c',_,hg,hc',by omega,?_,by simp; exact hnS'⟩;rw [hnew];exact hh S' w' _ hsS hr'
  ·rw [Dm _ _ e] at hj
   have hne:∀gj,(pl j).g=some gj->gj≠g:=λgj hgj e'=>by subst e'; exact h.dis j b bj _ gj e hj hm hgj hg
   exact (h.mem j bj hj).keeps hK (λgj hgj=>hbl gj (place_lt h hj hgj) (hne gj hgj)) (λgj hgj _=>hiff gj (place_lt h hj hgj))
 ·by_cases e:j=b
  ·subst e
   simp only [Dr,Ad] at hj; subst hj;intro g' hg';rcases h.plcs j _ hm g' hg' with h1 | ⟨_,h1⟩
   ·exact .inl h1
   ·exact .inr ⟨⟨kb,x',false,rfl⟩,h1⟩
  ·rw [Dm _ _ e] at hj; exact h.plcs j bj hj
 ·have q:∀{j:Nat} {b':Blk},upd me b (some (.var kb x' false)) j=some b'->∃b',me j=some b':=by
   intro j b' hj
   by_cases e1:j=b
   ·exact ⟨_,e1 ▸ hm⟩
   ·rw [Dm _ _ e1] at hj; exact ⟨_,hj⟩
  obtain ⟨b1',q1⟩:=q hj1;obtain ⟨b2',q2⟩:=q hj2;exact h.dis j1 j2 b1' b2' g' hne q1 q2 hg'
 ·obtain ⟨h1,h2⟩:=hSn q hq
  refine ⟨h1,?_⟩;rcases h2 with h2 | h2
  ·exact (h.sfr q h2).2
  ·exact .inr (.inl (Am h.fr.size h2))
 ·refine ⟨hf.os.trans h.fr.os,hf.tape.trans h.fr.tape,hf.output.trans h.fr.output,Am h.fr.size hf.size,λq hq hn ho=>?_,λe he hoe=>?_⟩
  ·have hne:q≠g:=by
    rcases h.plcs b _ hm g hg with ⟨h1,_⟩ | ⟨_,h1⟩
    ·exact h1.ne hq ho
    ·intro ee
     subst ee;exact hn _ (Ar h1) rfl
   rw [hbl q (Nat.lt_of_lt_of_le hq h.fr.size) hne]; exact h.fr.block q hq hn ho
  ·obtain ⟨d0,d,td,f1,f2,f3,f4,f5⟩:=h.fr.part e he hoe
   by_cases heg:e.1=g
   ·rcases h.plcs b _ hm g hg with ⟨h6,_⟩ | ⟨_,h6⟩
    ·exact absurd heg (h6.pp hoe (Ap.1 f1).1)
    ·have ee:=h.pd.1 e he _ (Ar h6) heg
     subst ee;rw [hc] at f2;cases f2;refine ⟨d0,c',_,f1,hc',by omega,?_,?_⟩
     ·rw [<-f4]
      have:=Ac (List.take (pl b).off) e4;rw [Bb,Bb,A6 (by omega)] at this;exact this
     ·rw [<-f5]
      simp only [Blk.csize];have:=Ac (List.drop (kb.size - (o+k.size))) e5;rw [A9,A9,show (pl b).off+o+k.size+(kb.size - (o+k.size))=(pl b).off+kb.size by omega] at this;exact this
   ·exact ⟨d0,d,td,f1,by rw [hbl _ (lt f2) heg]; exact f2,f3,f4,f5⟩
theorem Inv.adopt (h:Inv C tm me pl S a w) {i:Nat} {e:Kd} {l:List e.T} {g cap:Nat} {c:Array Value} {t:TypeId} (hi:me i=none) (hnp:C.pp.length<=i) (hnS:¬S g) (hw0:C.w0.heap.size<=g)
  (hdis:∀j b,me j=some b->(pl j).g≠some g) (hc:w.heap[g]?=some (.cells c t (0,0))) (hl:l.length<=cap) (hcm:cap<=maxLen) (hcs:c.size=cap*e.size) (hr:RdL (Rd S w e) l (c.toList.take (l.length*e.size))):
  Inv C tm (upd me i (some (.row e l 0 false))) (upd pl i ⟨some g,0,cap⟩) S a w:=by
 have hK:Keeps S w me pl S w (upd me i (some (.row e l 0 false))) (upd pl i ⟨some g,0,cap⟩):=
  ⟨λ_ hb=>⟨hb,rfl⟩,λj b' hj=>by
   have e:j≠i:=λe=>by subst e; rw [hi] at hj; cases hj
   exact ⟨b',by rw [Dm _ _ e]; exact hj,by rw [Dm _ _ e]; exact Compat.refl _ _⟩⟩
 refine ⟨h.nt,h.df,λt'=>(h.tms t').keeps hK,λj b' hj=>?_,λj b' hj=>?_,λj1 j2 b1 b2 g' hne' hj1 hj2 hg=>?_,h.s0,h.sfr,h.fr,h.pd,λsv v hg=>(h.gho sv v hg).keeps hK⟩
 ·by_cases e:j=i
  ·subst e; simp only [Dr,Ad] at hj; subst hj
   exact .inr ⟨g,c,t,by simp,by simp,hc,by simpa using hl,by simpa using hcm,by simpa using hcs,hr,by simp; exact hnS⟩
  ·rw [Dm _ _ e] at hj; rw [Dm _ _ e]; exact (h.mem j b' hj).keeps hK (λ_ _=>rfl) (λ_ _ _=>Iff.rfl)
 ·by_cases e:j=i
  ·subst e
   intro g' hg';simp at hg';exact .inl ⟨.inl ⟨hnp,.inl (by rw [<-hg']; exact hw0)⟩,by simp⟩
  ·rw [Dm _ _ e] at hj; rw [Dm _ _ e]; exact h.plcs j b' hj
 ·by_cases e1:j1=i
  ·subst e1
   have e2:j2≠j1:=λe=>hne' e.symm
   rw [Dm _ _ e2] at hj2;rw [Dm _ _ e2];simp at hg;subst hg;exact hdis j2 b2 hj2
  ·rw [Dm _ _ e1] at hj1 hg
   by_cases e2:j2=i
   ·subst e2
    simp;intro hh;exact hdis j1 b1 hj1 (by rw [hg,hh])
   ·rw [Dm _ _ e2] at hj2; rw [Dm _ _ e2]
    exact h.dis j1 j2 b1 b2 g' hne' hj1 hj2 hg
theorem Jz {np B:Nat} (hnp:np=C.pp.length) (hB:C.w0.heap.size<=B):
  ∀(rs:List RV) (rd me:Nat->Option Blk) (pl:Nat->Plc) (vs:List Value) (gs:List Nat) (nx nx':Nat) (cs:List Cmp) (wn:List (Nat×Blk)),
   Oj rd np rs nx=some (cs,wn,nx')->(∀i∈wn.map (·.1),me i=rd i)->Inv C tm me pl S a w->ResG S w B rs vs gs->gs.Nodup->(∀i b g,me i=some b->(pl i).g=some g->g∉gs)->
   ∃pl',Inv C tm (laid wn me) pl' S a w/\Keeps S w me pl S w (laid wn me) pl'/\CmpsG S w (laid wn me) pl' cs vs
 | [],rd,me,pl,vs,gs,nx,nx',cs,wn,h,_,hI,hr,_,_=>by
  simp only [Oj,Ad,Be] at h;obtain ⟨rfl,rfl,rfl⟩:=h;exact ⟨pl,by rw [Dn]; exact hI,by rw [Dn]; exact Keeps.refl,hr.1⟩
 | .val k x::rs,rd,me,pl,vs,gs,nx,nx',cs,wn,h,hacc,hI,hr,hnd,hd=>by
  obtain ⟨v,vs',rfl,hv,hr2⟩:=hr;simp only [Oj] at h;split at h<;>try (cases h; done)
  rename_i cs2 wn2 nx2 hrest;simp only [Ad,Be] at h;obtain ⟨rfl,rfl,rfl⟩:=h;obtain ⟨pl',h1,h2,h3⟩:=Jz hnp hB rs rd me pl vs' gs nx nx2 cs2 wn2 hrest hacc hI hr2 hnd hd;exact ⟨pl',h1,h2,v,vs',rfl,hv,h3⟩
 | .own e l::rs,rd,me,pl,vs,gs,nx,nx',cs,wn,h,hacc,hI,hr,hnd,hd=>by
  obtain ⟨v,vs',rfl,hr2⟩:=hr;simp only [Oj] at h;split at h<;>try (cases h; done)
  rename_i cs2 wn2 nx2 hfr hrest;simp only [Ad,Be] at h;obtain ⟨rfl,rfl,rfl⟩:=h;obtain ⟨hfr1,hfr2⟩:=Ey hfr;have hmn:me nx=none:=by rw [hacc nx (by simp)]; exact hfr1
  have hagree:∀i∈wn2.map (·.1),upd me nx (some (.row e l 0 false)) i=laid [(nx,.row e l 0 false)] rd i:=λi hi=>by
   rw [Do,Dn]
   by_cases e1:i=nx
   ·subst e1; simp
   ·rw [Dm _ _ e1,Dm _ _ e1]; exact hacc i (by simp at hi ⊢; exact .inl hi)
  have hlaid:laid (wn2++[(nx,.row e l 0 false)]) me=laid wn2 (upd me nx (some (.row e l 0 false))):=by
   rw [Em,Do,Dn]
  rw [hlaid];rcases hr2 with ⟨rfl,rfl,hr3⟩ | ⟨g,gs',cap,c,t,rfl,rfl,hBg,hnS,hc,h1,h2,h3,h4,hr3⟩
  ·have hI1:=hI.nilrow e hmn
   have hK1:Keeps S w me pl S w (upd me nx (some (.row e [] 0 false))) (upd pl nx ⟨none,0,0⟩):=
    ⟨λ_ hb=>⟨hb,rfl⟩,λj b' hj=>by
     have e1:j≠nx:=λe=>by subst e; rw [hmn] at hj; cases hj
     exact ⟨b',by rw [Dm _ _ e1]; exact hj,by rw [Dm _ _ e1]; exact Compat.refl _ _⟩⟩
   obtain ⟨pl',g1,g2,g3⟩:=Jz hnp hB rs _ _ _ vs' gs (nx+1) nx2 cs2 wn2 hrest hagree hI1 hr3 hnd (λi b g hi hg=>by
    by_cases e1:i=nx
    ·subst e1; simp at hg
    ·rw [Dm _ _ e1] at hi hg; exact hd i b g hi hg)
   exact ⟨pl',g1,hK1.trans g2,_,vs',rfl,CmpG.keeps g2 (c:=.own nx 0) ⟨e,[],0,false,Dr _ _ _,Al _,λ_=>.inl ⟨by simp,rfl⟩⟩,g3⟩
  ·have hI1:=hI.adopt hmn (by omega) hnS (by omega) (λj b hj hh=>hd j b g hj hh (by simp)) hc h1 h2 h3 h4
   have hK1:Keeps S w me pl S w (upd me nx (some (.row e l 0 false))) (upd pl nx ⟨some g,0,cap⟩):=
    ⟨λ_ hb=>⟨hb,rfl⟩,λj b' hj=>by
     have e1:j≠nx:=λe=>by subst e; rw [hmn] at hj; cases hj
     exact ⟨b',by rw [Dm _ _ e1]; exact hj,by rw [Dm _ _ e1]; exact Compat.refl _ _⟩⟩
   have hnd':=List.nodup_cons.1 hnd;obtain ⟨pl',g1,g2,g3⟩:=Jz hnp hB rs _ _ _ vs' gs' (nx+1) nx2 cs2 wn2 hrest hagree hI1 hr3 hnd'.2 (λi b g' hi hg=>by
    by_cases e1:i=nx
    ·subst e1; simp at hg; subst hg; exact hnd'.1
    ·rw [Dm _ _ e1] at hi hg
     intro hh;exact hd i b g' hi hg (by simp [hh]))
   exact ⟨pl',g1,hK1.trans g2,_,vs',rfl,CmpG.keeps g2 (c:=.own nx 0) ⟨e,l,0,false,Dr _ _ _,Al _,λ_=>.inr ⟨g,by simp,by simp⟩⟩,g3⟩
theorem CmpsG.len:∀{cs:List Cmp} {vs:List Value},CmpsG S w me pl cs vs->vs.length=cs.length
 | [],_,h=>by simp only [CmpsG] at h; simp [h]
 | _::_,_,⟨v,vs',e,_,h2⟩=>by simp [e,CmpsG.len h2]
theorem Rn {cs:List Cmp} {vs:List Value} (h:CmpsG S w me pl cs vs):G S w me pl (To cs) (Km vs):=by
 have hl:=h.len;unfold To;split
 ·obtain ⟨v,vs',rfl,hc,h2⟩:=h
  simp only [CmpsG] at h2; subst h2;exact hc
 ·obtain ⟨v,vs',rfl,hc,h2⟩:=h
  simp only [CmpsG] at h2; subst h2;exact hc
 ·trivial
 ·obtain ⟨v,vs',rfl,hc,h2⟩:=h
  simp only [CmpsG] at h2; subst h2;exact hc
 ·rename_i l n1 n2 n3 n4
  refine ⟨vs,?_,h⟩;unfold Km;split
  ·rename_i v
   exfalso;cases cs with
   | nil=>simp at hl
   | cons c cs=>
    cases cs with
    | nil=>cases c with
     | val k x=>exact n1 _ _ rfl
     | own j v=>exact n2 _ _ rfl
     | junk=>exact n3 rfl
     | mp j=>exact n4 _ rfl
    | cons _ _=>simp at hl
  ·rfl
end
structure Cert where
 sv:SV
 wr:List (Nat×Blk)
 acc:List Nat
 all:Bool
def putO (tm:Nat->SV):Option Tmp->SV->(Nat->SV)
 | none,_=>tm
 | some d,sv=>upd tm d sv
def MI (C:Ctx) (P:Program) (ops:Array Oper) (i:Nat) (o:Oper) (tm0:Nat->SV) (me0:Nat->Option Blk) (c:Cert):Prop:=
 (∀j,mget c.wr j≠none->j∈c.acc)/\
 ∀(tm:Nat->SV) (me:Nat->Option Blk) (pl:Nat->Plc) (S:Nat->Prop) (a:Act) (w:World),Inv C tm me pl S a w->(∀t∈looks ops o,tm t=tm0 t)->(∀j∈c.acc,me j=me0 j)->(c.all=true->me=me0)->
  ∀(Q:Exit->Act->World->Prop) (K:Act->World->Prop),(∀pl' S' a' w',Inv C (putO tm o.dst c.sv) (laid c.wr me) pl' S' a' w'->K a' w')->wpOpIn (fen C.ro) 0 P ops Q i K a w
def Aao (P:Program) (f:FuncId) (e:Kd):Prop:=
 ∀(w:World) (S:Nat->Prop) (l:List e.T) (v:Value),ShOK S w->VRd S w (.sl e) l v->
  Calls P f #[v] w fun
   | .returned u,w'=>∃S':Nat->Prop,(∀b,S b->S' b)/\(∀b,S' b->b<w'.heap.size/\(S b\/w.heap.size<=b))/\Ji w [] w'/\VRd S' w' (.sl e) l u/\∃a n,u=.slice a n n
   | _,_=>False
def Wj (P:Program) (f:FuncId) (e:Kd) (lim:Nat):Prop:=
 (∀args w,(callFunc f args).run P w=.ok (.enter f args) w)/\(lim=0->Aao P f e)/\(lim≠0->
 ∀(C:Ctx) (tm:Nat->SV) (me:Nat->Option Blk) (pl:Nat->Plc) (S:Nat->Prop) (a:Act) (w:World) (j ver:Nat) (l vs:List e.T) (i:Nat) (v0 vv:Value),
  C.pp.length<=j->Inv C tm me pl S a w->me j=some (.row e l ver false)->RowV (pl j) l.length v0->RdSl (Rd S w e) S w e.size vs vv->i<=l.length->l.length+vs.length<=lim->
  Calls P f #[v0,.int .i64 i,vv] w fun
   | .returned u,w'=>F6 C tm me (.own j (ver+1)) [(j,.row e (l.take i++vs++l.drop i) (ver+1) false)] a u w'
   | _,_=>False)
def SVL (S:Nat->Prop) (w:World) (me:Nat->Option Blk) (pl:Nat->Plc):List SV->List Value->Prop
 | [],vs=>vs=[]
 | sv::l,vs=>∃v vs',vs=v::vs'/\G S w me pl sv v/\SVL S w me pl l vs'
def MJ {R:Type} (P:Program) (np:Nat) (inl:FuncId->List SV->List (Nat×Blk)->Nat->(List SV->List (Nat×Blk)->Nat->Option R)->Option R):Prop:=
 ∀f svs me nx K r,inl f svs me nx K=some r->∃rs me' nx',K rs me' nx'=some r/\(∃n,me'=n++me)/\(∀args w,(callFunc f args).run P w=.ok (.enter f args) w)/\
  ∀(C:Ctx) (tm:Nat->SV) (pl:Nat->Plc) (S:Nat->Prop) (a:Act) (w:World) (vs:List Value),np=C.pp.length->Inv C tm (mget me) pl S a w->SVL S w (mget me) pl svs vs->
   Calls P f vs.toArray w fun
    | .returned v,w'=>∃pl' S' vs',Inv C tm (mget me') pl' S' a w'/\v=Km vs'/\SVL S' w' (mget me') pl' rs vs'
    | _,_=>False
def YlOK {R:Type} (P:Program) (np:Nat) (nt:NT) (yl:List SV->List (Nat×Blk)->Nat->(List (Nat×Blk)->Nat->Option R)->Option R):Prop:=
 ∀svs me nx K r,yl svs me nx K=some r->∃me' nx',K me' nx'=some r/\(∃n,me'=n++me)/\
  ∀(C:Ctx) (tm:Nat->SV) (pl:Nat->Plc) (S:Nat->Prop) (a:Act) (w:World) (vs:List Value),np=C.pp.length->nt=C.nt->Inv C tm (mget me) pl S a w->SVL S w (mget me) pl svs vs->
   ∃l f tmps as bd,C.pv=.func (.yield l) #[] #[]/\(∃d,nt.rd=some d/\C.gh (.yv d.yi) C.pv)/\(Instr.yield l vs.toArray).run P w=.ok (.round l f tmps as bd) w/\
    RoundIn Fence.wide 0 P l f tmps as bd w fun
     | .returned v,w'=>v=.bool true/\∃pl' S',Inv C tm (mget me') pl' S' a w'
     | _,_=>False
theorem noYl {R:Type} {P:Program} {np:Nat} {nt:NT}:YlOK (R:=R) P np nt (λ_ _ _ _=>none):=λ_ _ _ _ _ h=>by cases h
structure D7 {R:Type} (P:Program) (E:Env R):Prop where
 tab:D3 P E.T
 eq:∀t∈E.eqt,∀k,tkd E.T t=some k->EqOK P t k
 call:zfe P E.call
 ins:∀f e lim,Vr E.ins f=some (e,lim)->Wj P f e lim
 inl:MJ P E.np E.inl
 yl:YlOK P E.np E.nt E.yl
theorem E7 {P:Program}:∀f e lim,Vr [] f=some (e,lim)->Wj P f e lim:=λ_ _ _ h=>by cases h
section
variable {C:Ctx} {P:Program} {R:Type} {E:Env R}
theorem UI {S:Nat->Prop} {w:World} {me:Nat->Option Blk} {pl:Nat->Plc} (v:Value):G S w me pl (cSV v) v:=by
 unfold cSV;split
 ·exact VRd.int.2 rfl
 ·exact VRd.bool.2 rfl
 ·exact VRd.str.2 rfl
 ·rfl
 ·trivial
theorem Jq {tm0:List (Nat×SV)} {tm:Nat->SV} {me:Nat->Option Blk} {pl:Nat->Plc} {S:Nat->Prop} {a:Act} {w:World} (hI:Inv C tm me pl S a w) {x:Operand} (h:∀t,x=.tmp t->tm t=tget tm0 t):
  G S w me pl (opv tm0 x) (a.eval x):=by
 cases x with
 | tmp t=>simp only [opv]; rw [<-h t rfl]; exact hI.tms t
 | const v=>exact UI v
 | global g=>trivial
 | func f=>rfl
theorem Q0 {ops:Array Oper} {o:Oper} {x:Operand} {t:Tmp} (hx:x∈o.op.operands) (ht:x=.tmp t):t∈looks ops o:=by
 subst ht;unfold looks;refine Ai.2 (.inl (List.mem_filterMap.2 ⟨.tmp t,by simpa using hx,rfl⟩))
theorem Inv.putO {tm:Nat->SV} {me:Nat->Option Blk} {pl:Nat->Plc} {S:Nat->Prop} {a:Act} {w:World} (h:Inv C tm me pl S a w) {dst:Option Tmp} {sv:SV} {v:Value} (hd:∀d,dst=some d->NT.lt d C.nt) (hg:G S w me pl sv v):
  Inv C (PG.putO tm dst sv) me pl S (a.put dst v) w:=by
 cases dst with
 | none=>exact h
 | some d=>exact h.put (hd d rfl) hg
theorem Gd {nt:NT} {σ σ':St} {dst:Option Tmp} {sv:SV} {wr:List (Nat×Blk)} {nx:Nat} (h:Kk nt σ dst sv wr nx=some σ'):
  (∀d,dst=some d->NT.lt d nt)/\tget σ'.tm=PG.putO (tget σ.tm) dst sv/\mget σ'.me=laid wr (mget σ.me):=by
 unfold Kk at h;cases dst with
 | none=>simp only [Ad] at h; subst h; exact ⟨λd hd=>(by cases hd),rfl,Ft _ _⟩
 | some d=>
  simp only at h;split at h<;>try (cases h; done)
  rename_i hb;simp only [Ad] at h;subst h;exact ⟨λd' hd=>by cases hd; exact NT.lt_of hb,E5 _ _ _,Ft _ _⟩
theorem Hm {nt:NT} {σ σ':St} {dst:Option Tmp} {sv:SV} {wr:List (Nat×Blk)} {nx:Nat} (h:Kk nt σ dst sv wr nx=some σ'):σ'.me=wr++σ.me:=by
 unfold Kk at h;cases dst with
 | none=>simp only [Ad] at h; subst h; rfl
 | some d=>
  simp only at h;split at h<;>try (cases h; done)
  simp only [Ad] at h;subst h;rfl
theorem Gl {l:List (Nat×Blk)} {j:Nat} (h:mget l j≠none):j∈l.map (·.1):=by
 induction l with
 | nil=>exact absurd rfl h
 | cons p l ih=>
  obtain ⟨i,b⟩:=p;simp only [mget] at h;cases hb:Nat.beq i j with
  | true=>have:=Aa hb; subst this; simp
  | false=>rw [hb] at h; simp at h; exact Cf _ (ih h)
theorem Gy {ops:Array Oper} {o:Oper} {a:Act} (hg:o.guard=none):Region.wanted o (yielded ops a.tmps)=true:=by
 unfold Region.wanted; rw [hg]
theorem zdw {a:Act} {d:Nat} {v:Value} (h:a.tmps.getD d undef=v) (hd:d<a.tmps.size):a.tmps[d]?=some v:=by
 rw [Ao] at h;rw [Cg hd] at h ⊢;simpa using h
theorem AG {ops:Array Oper} {o:Oper} {a:Act} {j d:Nat} {want b:Bool} (hg:o.guard=some (j,want)) (hd:(ops[j]?).bind (·.dst)=some d) (hv:a.tmps.getD d undef=.bool b):
  Region.wanted o (yielded ops a.tmps)=(b==want):=by
 have hlt:d<a.tmps.size:=by
  rcases Nat.lt_or_ge d a.tmps.size with h | h
  ·exact h
  ·rw [Ao,Array.getElem?_eq_none h] at hv; simp [undef] at hv
 unfold Region.wanted;rw [hg];simp only [yielded,hd,Option.bind_some,zdw hv hlt];cases b<;>cases want<;>rfl
theorem AH {ops:Array Oper} {o:Oper} {a:Act} {j d:Nat} {want:Bool} (hg:o.guard=some (j,want)) (hd:(ops[j]?).bind (·.dst)=some d) (hv:a.tmps.getD d undef=.tuple #[]):
  Region.wanted o (yielded ops a.tmps)=false:=by
 unfold Region.wanted;rw [hg];simp only [yielded,hd,Option.bind_some];cases h:a.tmps[d]? with
 | none=>rfl
 | some v=>
  have:a.tmps.getD d undef=v:=by rw [Ao,h]; rfl
  rw [hv] at this;subst this;rfl
theorem ResG.ge {S:Nat->Prop} {w:World} {B:Nat}:∀{rs:List RV} {vs:List Value} {gs:List Nat},ResG S w B rs vs gs->∀g∈gs,B<=g
 | [],_,_,h,g,hg=>by rw [h.2] at hg; cases hg
 | .val k x::rs,_,_,⟨v,vs',_,_,h2⟩,g,hg=>ResG.ge h2 g hg
 | .own e l::rs,_,_,⟨v,vs',_,h2⟩,g,hg=>by
  rcases h2 with ⟨_,_,h3⟩ | ⟨g0,gs',cap,c,t,rfl,_,hB,_,_,_,_,_,_,h3⟩
  ·exact ResG.ge h3 g hg
  ·rcases Cd.1 hg with rfl | hg
   ·exact hB
   ·exact ResG.ge h3 g hg
theorem Inv.place_lt {tm:Nat->SV} {me:Nat->Option Blk} {pl:Nat->Plc} {S:Nat->Prop} {a:Act} {w:World} (h:Inv C tm me pl S a w) {i:Nat} {b:Blk} {g:Nat} (hi:me i=some b) (hg:(pl i).g=some g):g<w.heap.size:=
 Go.PG.place_lt h hi hg
theorem SVsG.append {S:Nat->Prop} {w:World} {me:Nat->Option Blk} {pl:Nat->Plc}:∀{l l':List (SV×TypeId)} {vs vs':List Value},SVsG S w me pl l vs->SVsG S w me pl l' vs'->SVsG S w me pl (l++l') (vs++vs')
 | [],_,_,_,h,h'=>by
  simp only [SVsG] at h;subst h;exact h'
 | _::_,_,_,_,⟨v,vs1,e,h1,h2⟩,h'=>by
  subst e;exact ⟨v,vs1++_,rfl,h1,h2.append h'⟩
theorem CapsG.svs {S:Nat->Prop} {w:World} {me:Nat->Option Blk} {pl:Nat->Plc}:∀{ps:List (Nat×Kd)} {vs:List Value},CapsG me pl ps vs->SVsG S w me pl ((ps.map zob).map λs=>(s,0)) vs
 | [],_,h=>h
 | _::_,_,⟨x,sh,g,vs',e,hm,hg,h2⟩=>⟨_,vs',e,⟨_,x,sh,0,g,hm,trivial,rfl,hg,rfl⟩,h2.svs⟩
def CalG (tm:List (Nat×SV)) (c:Call) (f:FuncId) (ex:List SV):Prop:=∃cal,c.callee=.value cal/\((opv tm cal=.fn f/\ex=[])\/(∃ps,opv tm cal=.clo f ps/\ex=ps.map zob)\/∃x,opv tm cal=.val .fn x/\fnvF x=some (f,ex))
theorem Mp {tm:List (Nat×SV)} {o:Oper} {f:FuncId} {c:Call} {ex:List SV} (h:Sc tm o=some (f,c,ex)):o.op=.call c/\CalG tm c f ex:=by
 unfold Sc at h;split at h<;>try (cases h; done)
 rename_i c' hop;split at h<;>try (cases h; done)
 rename_i x hcc;split at h<;>try (cases h; done)
 ·rename_i f' hv
  simp only [Ad,Be] at h;obtain ⟨rfl,rfl,rfl⟩:=h;exact ⟨hop,x,hcc,.inl ⟨hv,rfl⟩⟩
 ·rename_i f' ps hv
  simp only [Ad,Be] at h;obtain ⟨rfl,rfl,rfl⟩:=h;exact ⟨hop,x,hcc,.inr (.inl ⟨ps,hv,rfl⟩)⟩
theorem P9 {tm:List (Nat×SV)} {o:Oper} {x:FnV} {c:Call} (h:V6 tm o=some (x,c)):o.op=.call c/\∀f ex,fnvF x=some (f,ex)->CalG tm c f ex:=by
 unfold V6 at h;split at h<;>try (cases h; done)
 rename_i c' hop;split at h<;>try (cases h; done)
 rename_i y hcc;split at h<;>try (cases h; done)
 rename_i x' hv;simp only [Ad,Be] at h;obtain ⟨rfl,rfl⟩:=h;exact ⟨hop,λf ex hf=>⟨y,hcc,.inr (.inr ⟨_,hv,hf⟩)⟩⟩
theorem Lr {R:Type} {x:FnV} {k:FuncId->List SV->Option R} {r:R}:∀{l:List FnV},LW x l k=some r->∃f ex,fnvF x=some (f,ex)/\k f ex=some r
 | [],h=>by cases h
 | c::l,h=>by
  simp only [LW] at h;split at h
  ·rename_i hs
   have e:=FnV.same_eq hs;subst e;split at h<;>try (cases h; done)
   rename_i f ex hf;exact ⟨f,ex,hf,h⟩
  ·exact Lr h
theorem CalG.val {tm:List (Nat×SV)} {c:Call} {f:FuncId} {ex:List SV} (h:CalG tm c f ex) {S:Nat->Prop} {w:World} {me:Nat->Option Blk} {pl:Nat->Plc} {a:Act} (hG:∀cal,c.callee=.value cal->G S w me pl (opv tm cal) (a.eval cal)):
  ∃cal caps,c.callee=.value cal/\a.eval cal=.func (.func f) #[] (caps:List Value).toArray/\SVsG S w me pl (ex.map λs=>(s,0)) caps:=by
 obtain ⟨cal,hc,h⟩:=h;have hg:=hG cal hc;rcases h with ⟨hv,rfl⟩ | ⟨ps,hv,rfl⟩ | ⟨x,hv,hf⟩
 ·rw [hv] at hg
  exact ⟨cal,[],hc,hg,rfl⟩
 ·rw [hv] at hg
  obtain ⟨vs,e,h2⟩:=hg;exact ⟨cal,vs,hc,e,h2.svs⟩
 ·rw [hv] at hg
  have hr:=VRd.fn.1 hg;cases x with
  | nil=>cases hf
  | fn g=>
   simp only [fnvF,Ad,Be] at hf;obtain ⟨rfl,rfl⟩:=hf;exact ⟨cal,[],hc,hr,rfl⟩
  | clo g d=>
   simp only [fnvF,Ad,Be] at hf;obtain ⟨rfl,rfl⟩:=hf;obtain ⟨b,off,cs,ty,fr,u,e1,e2,e3,e4,e5⟩:=hr;exact ⟨cal,[.pointer (some ⟨b,off,none⟩)],hc,e1,_,[],rfl,⟨b,off,cs,ty,fr,rfl,e2,e3,u,e4,e5⟩,rfl⟩
theorem OA (hT:D3 P E.T) (hnp:E.np=C.pp.length) {σ:St} {o:Oper} {f:FuncId} {c:Call} {ex:List SV} (hop:o.op=.call c) (hcalG:CalG σ.tm c f ex) {as:List AV} {wr:List (Nat×Blk)} {acc:List Nat} {ps:List (Nat×List Step)}
  (hargs:Md E.T E.np (mget σ.me) ((c.args.toList.map (opv σ.tm)).zip c.argTypes.toList++ex.map λs=>(s,0))=some (as,wr,acc,ps)) (hlen:c.args.size=c.argTypes.size) {rs:List RV} {outs:List TV} (hH:Holds P f as rs outs)
  {wo:List (Nat×Blk)} (hps:(ps=[]/\outs=[]/\wo=[])\/∃b p kb x v x',ps=[(b,p)]/\outs=[v]/\laid wr (mget σ.me) b=some (.var kb x false)/\setP kb x p v=some x'/\wo=[(b,.var kb x' false)])
  {cs:List Cmp} {wn:List (Nat×Blk)} {nx':Nat} (hres:Oj (laid (wo++wr) (mget σ.me)) E.np rs σ.nx=some (cs,wn,nx'))
  {tm:Nat->SV} {me:Nat->Option Blk} {pl:Nat->Plc} {S:Nat->Prop} {a:Act} {w:World} (hI:Inv C tm me pl S a w) (hρ:∀x∈o.op.operands,G S w me pl (opv σ.tm x) (a.eval x))
  (hacc:∀j∈(wn++(wo++wr)).map (·.1)++acc,me j=mget σ.me j):
  Runs P o a w (F6 C tm me (To cs) (wn++(wo++wr)) a):=by
 obtain ⟨cal,caps,hcal,hce,hcaps⟩:=hcalG.val (a:=a) (λcal hcal=>hρ cal (by simp [hop,Op.operands,Call.operands,hcal]));have hSV:SVsG S w me pl ((c.args.toList.map (opv σ.tm)).zip c.argTypes.toList) (c.args.toList.map a.eval):=by
  have hx:∀x∈c.args.toList,G S w me pl (opv σ.tm x) (a.eval x):=λx hx=>hρ x (by simp [hop,Op.operands,Call.operands,hcal]; exact .inr (by simpa using hx))
  have hl:c.args.toList.length=c.argTypes.toList.length:=by simpa using hlen
  clear hargs;generalize c.args.toList=l at*;generalize c.argTypes.toList=ts at*
  induction l generalizing ts with
  | nil=>rfl
  | cons x l ih=>
   cases ts with
   | nil=>simp at hl
   | cons t ts=>exact ⟨_,_,rfl,hx x (by simp),ih (λy hy=>hx y (Cf _ hy)) ts (by simpa using hl)⟩
 obtain ⟨S1,pp,h1,h2,h3,h4,h5⟩:=Ge hnp _ (mget σ.me) me S as wr acc ps _ hargs (λi hi=>hacc i (by simp [hi])) hI (hSV.append hcaps);have harr:((c.args.toList.map a.eval)++caps).toArray=c.args.map a.eval++caps.toArray:=by apply Bq; simp
 have hlag:∀j,j∈(wn++(wo++wr)).map (·.1)++acc->∀l,laid l me j=laid l (mget σ.me) j:=λj hj l=>Ia (hacc j hj)
 have fin:∀(S2:Nat->Prop) (w':World) (vs:List Value) (gs:List Nat) (wo':List (Nat×Blk)),Inv C tm (laid (wo'++wr) me) pl S2 a w'->ResG S2 w' w.heap.size rs vs gs->gs.Nodup->wo'=wo->
   (∀i b,laid (wo'++wr) me i=some b->∃b',laid wr me i=some b')->F6 C tm me (To cs) (wn++(wo++wr)) a (Km vs) w':=by
  intro S2 w' vs gs wo' hI2 g4 g5 e hk;subst e;obtain ⟨pl',q1,q2,q3⟩:=Jz hnp h1.fr.size rs _ (laid (wo'++wr) me) pl vs gs σ.nx nx' cs wn hres (λi hi=>hlag i (by simp only [Bm,Ai]; exact .inl (.inl hi)) (wo'++wr)) hI2 g4 g5 (λi b g hi hg hh=>by
   obtain ⟨b',hb'⟩:=hk i b hi;have h8:=h1.place_lt hb' hg;have h9:=g4.ge g hh;omega)
  refine ⟨pl',S2,?_,?_⟩
  ·rw [Em]; exact q1
  ·rw [Em]; exact Rn q3
 rcases hH with hH | ⟨hout,hH⟩
 ·have hrun:(execOp a.eval o).run P w=.ok (.enter f (c.args.map a.eval++caps.toArray)) w:=by
   simp only [execOp,hop];simp only [resolve,hcal,hce,Deferred.ofValue];simp [As,invoke,hH.1]
  unfold Runs;rw [hrun];simp only;rcases hps with ⟨rfl,rfl,rfl⟩ | ⟨b,p,kb,x,v,x',rfl,rfl,hb,hset,rfl⟩
  ·simp only [PlG] at h3
   subst h3;have hA:=h5 (λq hq=>by cases hq);have hC:=hH.2 w S1 [] _ h1.shok (by simp) hA;rw [harr] at hC;refine hC.mono λe w' he=>?_
   cases e with
   | returned v=>
    simp only at he ⊢;obtain ⟨S2,vs,gs,rfl,g1,g2,g3,g4,g5,g6⟩:=he;exact fin S2 w' vs gs [] (h1.afterCall0 g1 g2 g3) g4 g5 rfl (λi b h=>⟨b,h⟩)
   | panicked _=>exact he
   | outgrown=>exact he
  ·obtain ⟨g,o',k,kb',x2,sh2,pp',rfl,hg,hm2,hok,hoff,hpp⟩:=h3
   simp only [PlG] at hpp;subst hpp;have hbacc:b∈acc:=h4 (b,p) (by simp);have hmb:laid wr me b=some (.var kb x false):=by rw [hlag b (by simp [hbacc]) wr]; exact hb
   rw [hmb] at hm2;cases hm2;have hA:=h5 (λq hq=>by simp at hq; subst hq; exact ⟨kb,x,hmb⟩);have hC:=hH.2 w S1 [(g,(pl b).off+o',k.size)] _ h1.shok (by simp) hA;rw [harr] at hC;refine hC.mono λe w' he=>?_
   cases e with
   | returned v'=>
    simp only at he ⊢;obtain ⟨S2,vs,gs,rfl,g1,g2,g3,g4,g5,g6⟩:=he;obtain ⟨k2,y,outs',e1,e2,⟨c',t',hc',hr'⟩,e3⟩:=g6;simp only [zfd] at e3;subst e3;have ev:v=⟨k2,y⟩:=by simpa using e1
    subst ev;have hkk:k2=k:=by
     obtain ⟨k3,z,hget,has⟩:=Ho hset;have e4:=Sg has;simp only at e4;subst e4;exact (h1.atPath hmb hok hoff hget).1.symm
    subst hkk;have hI2:=h1.afterCall1 g1 g2 hmb hok hoff hg hset g3 hc' hr';refine fin S2 w' vs gs [(b,.var kb x' false)] (by rw [Em,Do,Dn]; exact hI2) g4 g5 rfl (λi b' h=>?_);rw [Em,Do,Dn] at h
    by_cases e5:i=b
    ·subst e5; exact ⟨_,hmb⟩
    ·rw [Dm _ _ e5] at h; exact ⟨_,h⟩
   | panicked _=>exact he
   | outgrown=>exact he
 ·subst hout
  rcases hps with ⟨rfl,_,rfl⟩ | ⟨_,_,_,_,_,_,_,hcon,_⟩
  ·simp only [PlG] at h3
   subst h3;have hA:=h5 (λq hq=>by cases hq);obtain ⟨v,w',hr,hpost⟩:=hH w S1 _ h1.shok hA;rw [harr] at hr;have hrun:(execOp a.eval o).run P w=.ok (.value v) w':=by
    simp only [execOp,hop];simp only [resolve,hcal,hce,Deferred.ofValue];simp [As,invoke,hr]
   unfold Runs;rw [hrun];obtain ⟨S2,vs,gs,rfl,g1,g2,g3,g4,g5,g6⟩:=hpost;exact fin S2 w' vs gs [] (h1.afterCall0 g1 g2 g3) g4 g5 rfl (λi b h=>⟨b,h⟩)
  ·cases hcon
theorem Rd.noSl:∀(k:Kd),k.noSl=true->∀{S S':Nat->Prop} {w w':World} {x:k.T} {cs:List Value},Rd S w k x cs->Rd S' w' k x cs
 | .int _,_,_,_,_,_,_,_,h=>h
 | .bool,_,_,_,_,_,_,_,h=>h
 | .str,_,_,_,_,_,_,_,h=>h
 | .unit,_,_,_,_,_,_,_,h=>h
 | .mp,_,_,_,_,_,_,_,h=>h
 | .pair a b,hk,_,_,_,_,_,_,⟨c1,c2,e,h1,h2⟩=>by
  have hk':(a.noSl&&b.noSl)=true:=hk;rw [Ab] at hk';exact ⟨c1,c2,e,Rd.noSl a hk'.1 h1,Rd.noSl b hk'.2 h2⟩
 | .arr _ e,hk,_,_,_,_,_,_,⟨hl,h⟩=>⟨hl,RdL.imp (λx cs h=>Rd.noSl e hk h) h⟩
 | .sl e,hk,_,_,_,_,_,_,_=>by cases hk
 | .fn,hk,_,_,_,_,_,_,_=>by cases hk
theorem Yo {S S2:Nat->Prop} {w':World} {B:Nat} {rd:Nat->Option Blk} {np:Nat}:∀{rs:List RV} {vs:List Value} {gs:List Nat} {nx nx':Nat} {cs:List Cmp} {wn:List (Nat×Blk)},LP rs=true->ResG S2 w' B rs vs gs->Oj rd np rs nx=some (cs,wn,nx')->
  wn=[]/\∀(me:Nat->Option Blk) (pl:Nat->Plc),CmpsG S w' me pl cs vs
 | [],vs,gs,nx,nx',cs,wn,_,hr,hm=>by
  simp only [Oj,Ad,Be] at hm;obtain ⟨rfl,rfl,rfl⟩:=hm;exact ⟨rfl,λ_ _=>hr.1⟩
 | .val k x::rs,vs,gs,nx,nx',cs,wn,hf,hr,hm=>by
  simp only [LP,Ab] at hf;obtain ⟨v,vs',rfl,hv,hr2⟩:=hr;simp only [Oj] at hm;split at hm<;>try (cases hm; done)
  rename_i cs2 wn2 nx2 hrest;simp only [Ad,Be] at hm;obtain ⟨rfl,rfl,rfl⟩:=hm;obtain ⟨h1,h2⟩:=Yo (S:=S) hf.2 hr2 hrest;obtain ⟨cc,hc,hv2⟩:=hv;exact ⟨h1,λme pl=>⟨v,vs',rfl,⟨cc,Rd.noSl k hf.1 hc,hv2⟩,h2 me pl⟩⟩
 | .own e l::rs,_,_,_,_,_,_,hf,_,_=>by simp [LP] at hf
theorem KO (hnp:E.np=C.pp.length) {σ:St} {o:Oper} {f:FuncId} {c:Call} {ex:List SV} (hop:o.op=.call c) (hcalG:CalG σ.tm c f ex) {as:List AV} {wr:List (Nat×Blk)} {acc:List Nat}
  (hargs:Md E.T E.np (mget σ.me) ((c.args.toList.map (opv σ.tm)).zip c.argTypes.toList++ex.map λs=>(s,0))=some (as,wr,acc,[])) (hlen:c.args.size=c.argTypes.size) {rs:List RV} (hH:Holds P f as rs []) (hflat:LP rs=true)
  {cs:List Cmp} {nx':Nat} (hres:Oj (mget σ.me) E.np rs σ.nx=some (cs,[],nx'))
  {tm:Nat->SV} {me:Nat->Option Blk} {pl:Nat->Plc} {S:Nat->Prop} {a:Act} {w:World} (hI:Inv C tm me pl S a w) (hρ:∀x∈o.op.operands,G S w me pl (opv σ.tm x) (a.eval x))
  (hacc:∀j∈acc,me j=mget σ.me j):
  Runs P o a w (F6 C tm me (To cs) [] a):=by
 obtain ⟨cal,caps,hcal,hce,hcaps⟩:=hcalG.val (a:=a) (λcal hcal=>hρ cal (by simp [hop,Op.operands,Call.operands,hcal]));have hSV:SVsG S w me pl ((c.args.toList.map (opv σ.tm)).zip c.argTypes.toList) (c.args.toList.map a.eval):=by
  have hx:∀x∈c.args.toList,G S w me pl (opv σ.tm x) (a.eval x):=λx hx=>hρ x (by simp [hop,Op.operands,Call.operands,hcal]; exact .inr (by simpa using hx))
  have hl:c.args.toList.length=c.argTypes.toList.length:=by simpa using hlen
  clear hargs;generalize c.args.toList=l at*;generalize c.argTypes.toList=ts at*
  induction l generalizing ts with
  | nil=>rfl
  | cons x l ih=>
   cases ts with
   | nil=>simp at hl
   | cons t ts=>exact ⟨_,_,rfl,hx x (by simp),ih (λy hy=>hx y (Cf _ hy)) ts (by simpa using hl)⟩
 obtain ⟨S1,pp,h1,h2,h3,h4,h5⟩:=Ge hnp _ (mget σ.me) me S as wr acc [] _ hargs hacc hI (hSV.append hcaps);have harr:((c.args.toList.map a.eval)++caps).toArray=c.args.map a.eval++caps.toArray:=by apply Bq; simp
 simp only [PlG] at h3;subst h3;have hA:=h5 (λq hq=>by cases hq);have fin:∀(v:Value) (w':World),Post S1 w [] rs [] v w'->F6 C tm me (To cs) [] a v w':=by
  intro v w' hp;obtain ⟨S2,vs,gs,rfl,g1,g2,g3,g4,g5,g6⟩:=hp;obtain ⟨_,q2⟩:=Yo (S:=S) hflat g4 hres;refine ⟨pl,S,?_,?_⟩
  ·rw [Dn]
   exact hI.world (λ_ h=>h) (λb hb=>⟨Nat.lt_of_lt_of_le (hI.sfr b hb).1 g3.size,.inl hb⟩) g3.os g3.tape g3.output g3.size (λb hb=>g3.block b hb (λe he=>by cases he) id)
  ·rw [Dn]
   exact Rn (q2 me pl)
 rcases hH with hH | ⟨_,hH⟩
 ·have hrun:(execOp a.eval o).run P w=.ok (.enter f (c.args.map a.eval++caps.toArray)) w:=by
   simp only [execOp,hop];simp only [resolve,hcal,hce,Deferred.ofValue];simp [As,invoke,hH.1]
  unfold Runs;rw [hrun];have hC:=hH.2 w S1 [] _ h1.shok (by simp) hA;rw [harr] at hC;refine hC.mono λe w' he=>?_
  cases e with
  | returned v=>exact fin v w' he
  | panicked _=>exact he
  | outgrown=>exact he
 ·obtain ⟨v,w',hr,hpost⟩:=hH w S1 _ h1.shok hA
  rw [harr] at hr;have hrun:(execOp a.eval o).run P w=.ok (.value v) w':=by
   simp only [execOp,hop];simp only [resolve,hcal,hce,Deferred.ofValue];simp [As,invoke,hr]
  unfold Runs;rw [hrun];exact fin v w' hpost
end
section
variable {P:Program} {R:Type} {E:Env R}
def Good (E:Env R) (P:Program) (ops:Array Oper) (i:Nat) (o:Oper) (σ σ':St) (c:Cert):Prop:=
 tget σ'.tm=putO (tget σ.tm) o.dst c.sv/\mget σ'.me=laid c.wr (mget σ.me)/\(∃n,σ'.me=n++σ.me)/\∀C:Ctx,E.np=C.pp.length->E.nt=C.nt->MI C P ops i o (tget σ.tm) (mget σ.me) c
theorem Fv {C:Ctx} {ops:Array Oper} {i:Nat} {o:Oper} (ho:ops[i]?=some o) {tm0:Nat->SV} {me0:Nat->Option Blk} {c:Cert} (hd:∀d,o.dst=some d->NT.lt d C.nt) (hw:∀j,mget c.wr j≠none->j∈c.acc)
  (hwant:∀(tm:Nat->SV) (me:Nat->Option Blk) (pl:Nat->Plc) (S:Nat->Prop) (a:Act) (w:World),Inv C tm me pl S a w->(∀t∈looks ops o,tm t=tm0 t)->Region.wanted o (yielded ops a.tmps)=true)
  (hr:∀(tm:Nat->SV) (me:Nat->Option Blk) (pl:Nat->Plc) (S:Nat->Prop) (a:Act) (w:World),Inv C tm me pl S a w->(∀t∈looks ops o,tm t=tm0 t)->(∀j∈c.acc,me j=me0 j)->(c.all=true->me=me0)->Runs P o a w (F6 C tm me c.sv c.wr a)):
  MI C P ops i o tm0 me0 c:=by
 refine ⟨hw,λtm me pl S a w hI hl hacc hall Q K hK=>?_⟩;unfold wpOpIn;simp only [ho,hwant tm me pl S a w hI hl,Ca];exact (hr tm me pl S a w hI hl hacc hall).wp λv w' ⟨pl',S',h1,h2⟩=>hK pl' S' _ w' (h1.putO hd h2)
theorem zia {wr:List (Nat×Blk)} {acc:List Nat}:∀j,mget wr j≠none->j∈wr.map (·.1)++acc:=λj h=>Ai.2 (.inl (Gl h))
theorem zbm {ins:List (Nat×Kd×Nat)} (hins:∀f e lim,Vr ins f=some (e,lim)->Wj P f e lim) {C:Ctx} {np:Nat} (hnp:np=C.pp.length) {rd:Nat->Option Blk} {tm0:List (Nat×SV)} {o:Oper} {f:FuncId} {c:Call} (hop:o.op=.call c) (hcalG:CalG tm0 c f [])
  {nx:Nat} {q:ARes} (hq:aIns ins np rd (opv tm0) f c nx=some q) (hok:q.ok=true)
  {tm:Nat->SV} {me:Nat->Option Blk} {pl:Nat->Plc} {S:Nat->Prop} {a:Act} {w:World} (hacc:∀j∈q.acc,me j=rd j) (hI:Inv C tm me pl S a w) (hρ:∀x∈o.op.operands,G S w me pl (opv tm0 x) (a.eval x)):
  Runs P o a w (F6 C tm me q.sv q.wr a):=by
 obtain ⟨cal,caps,hcal,hce,hcaps⟩:=hcalG.val (a:=a) (λcal hcal=>hρ cal (by simp [hop,Op.operands,Call.operands,hcal]));have hcaps':caps=[]:=hcaps;subst hcaps';unfold aIns at hq;split at hq<;>try (cases hq; done)
 case h_2=>
  rename_i e lim s hlook hargs;split at hq<;>try (cases hq; done)
  rename_i e' l hs hlim;split at hq<;>try (cases hq; done)
  rename_i l' hl';simp only [Ad] at hq;subst hq;have:=TV.as_some hl';cases this;have hGs:G S w me pl (opv tm0 s) (a.eval s):=hρ s (by
   have:s∈c.args:=by rw [<-Array.mem_toList_iff,hargs]; simp
   simp [hop,Op.operands,Call.operands,hcal]; exact .inr (by simpa using this))
  rw [hs] at hGs;have hC:=(hins f _ lim hlook).2.1 (Aa hlim) w S l' (a.eval s) hI.shok hGs;have hrun:(execOp a.eval o).run P w=.ok (.enter f #[a.eval s]) w:=by
   have he:c.args=#[s]:=by apply Bq; simpa using hargs
   simp only [execOp,hop];simp only [resolve,hcal,hce,Deferred.ofValue];simp [As,invoke,(hins f _ lim hlook).1,he]
  unfold Runs;rw [hrun];refine Calls.mono hC (λen w' hen=>?_);cases en with
  | returned u=>
   obtain ⟨S',h1,h2,h3,h4,h5⟩:=hen;exact ⟨pl,S',by rw [Dn]; exact hI.afterCall0 h1 h2 h3,by rw [Dn]; exact ⟨h4,h5⟩⟩
  | panicked _=>exact hen
  | outgrown=>exact hen
 rename_i e lim s ix v hlook hargs;split at hq<;>try (cases hq; done)
 rename_i j ver n ys hs hix hv hlim;split at hq<;>try (cases hq; done)
 rename_i e' l ver' hrd hblt;split at hq<;>try (cases hq; done)
 rename_i l' hver hl';simp only [Ad] at hq;subst hq;have:=TV.as_some hl';cases this;have hm:me j=some (.row e l' ver' false):=by rw [hacc j (by simp)]; exact hrd
 have hjn:C.pp.length<=j:=by
  rw [<-hnp];rcases Nat.lt_or_ge j np with h | h
  ·have:Nat.blt j np=true:=by rw [Nat.blt_eq]; exact h
   rw [this] at hblt; cases hblt
  ·exact h
 obtain ⟨h0,h1,h2⟩:=Bw hok;have hn0:((Int.toNat n:Nat):Int)=n:=Int.toNat_of_nonneg h0;have hn1:Int.toNat n<=List.length l':=by
  have:((Int.toNat n:Nat):Int)<=(List.length l':Int):=by rw [hn0]; exact h1
  exact Int.ofNat_le.1 this
 have hmem:∀x∈[s,ix,v],G S w me pl (opv tm0 x) (a.eval x):=λx hx=>hρ x (by
  rw [<-hargs] at hx;simp [hop,Op.operands,Call.operands,hcal]; exact .inr (by simpa using hx))
 have hGs:=hmem s (by simp);have hGi:=hmem ix (by simp);have hGv:=hmem v (by simp);rw [hs] at hGs;rw [hix] at hGi;have hi:=VRd.int.1 hGi;obtain ⟨S1,g1,g2,g3⟩:=Ez hnp hv (λ_ h=>(by cases h)) hI hGv;rw [Dn] at g1 g2;obtain ⟨e2,l2,ver2,sh2,hm2,hle,hh⟩:=hGs;rw [hm] at hm2;cases hm2;have hrow:=hh (Aa hver).symm;have hC:=(hins f e lim hlook).2.2 (λh=>by rw [h] at hlim; cases hlim) C tm me pl S1 a w j ver' l' ys n.toNat (a.eval s) (a.eval v) hjn g1 hm hrow (VRd.sl.1 g3) hn1 h2;rw [hn0,<-hi] at hC
 have hrun:(execOp a.eval o).run P w=.ok (.enter f #[a.eval s,a.eval ix,a.eval v]) w:=by
  have he:c.args=#[s,ix,v]:=by apply Bq; simpa using hargs
  simp only [execOp,hop];simp only [resolve,hcal,hce,Deferred.ofValue];simp [As,invoke,(hins f e lim hlook).1,he]
 unfold Runs;rw [hrun];exact hC
theorem Q7 (hE:D7 P E) {ops:Array Oper} {σ:St} {o:Oper} {i:Nat} {f:FuncId} {c:Call} {ex:List SV} {accs:List Acc} {K:St->List Acc->Option R} {r:R} (ho:ops[i]?=some o)
  (hwant:∀(C:Ctx) (tm:Nat->SV) (me:Nat->Option Blk) (pl:Nat->Plc) (S:Nat->Prop) (a:Act) (w:World),Inv C tm me pl S a w->(∀t∈looks ops o,tm t=tget σ.tm t)->Region.wanted o (yielded ops a.tmps)=true)
  (hop:o.op=.call c) (hcalG:CalG σ.tm c f ex) (h:za2 E σ o f c ex accs K=some r):∃c σ',K σ' ((c.wr.map (·.1),c.acc,c.all)::accs)=some r/\Good E P ops i o σ σ' c:=by
 have hρ:∀{C:Ctx} {tm:Nat->SV} {me:Nat->Option Blk} {pl:Nat->Plc} {S:Nat->Prop} {a:Act} {w:World},Inv C tm me pl S a w->(∀t∈looks ops o,tm t=tget σ.tm t)->∀x∈o.op.operands,G S w me pl (opv σ.tm x) (a.eval x):=
  λhI hl x hx=>Jq hI (λt ht=>hl t (Q0 hx ht))
 unfold za2 at h;split at h<;>try (cases h; done)
 rename_i as wr acc ps hargs hsz;have hlen:=Aa hsz;have fin:∀(rs:List RV) (outs:List TV) (wo:List (Nat×Blk)),Holds P f as rs outs->
   ((ps=[]/\outs=[]/\wo=[])\/∃b p kb x v x',ps=[(b,p)]/\outs=[v]/\laid wr (mget σ.me) b=some (.var kb x false)/\setP kb x p v=some x'/\wo=[(b,.var kb x' false)])->
   xfin E σ o wr acc accs K rs wo=some r->∃c σ',K σ' ((c.wr.map (·.1),c.acc,c.all)::accs)=some r/\Good E P ops i o σ σ' c:=by
  intro rs outs wo hH hps hfin;unfold xfin at hfin;split at hfin<;>try (cases hfin; done)
  rename_i cs wn nx' hres;split at hfin<;>try (cases hfin; done)
  rename_i σ' hput;obtain ⟨p1,p2,p3⟩:=Gd hput;refine ⟨⟨To cs,wn++(wo++wr),(wn++(wo++wr)).map (·.1)++acc,false⟩,σ',hfin,p2,p3,⟨_,Hm hput⟩,λC hnp hnt=>?_⟩;refine Fv ho (λd hd=>by rw [<-hnt]; exact p1 d hd) zia (hwant C) (λtm me pl S a w hI hl hacc _=>?_);exact OA hE.tab hnp hop hcalG hargs hlen hH hps hres hI (hρ hI hl) hacc
 split at h<;>try (cases h; done)
 ·obtain ⟨rs,outs,hH,hK⟩:=hE.call _ _ _ _ h
  split at hK<;>try (cases hK; done)
  split at hK
  ·rename_i hflat
   unfold zq3 at hK;split at hK<;>try (cases hK; done)
   rename_i cs nx' hres;split at hK<;>try (cases hK; done)
   rename_i σ' hput;obtain ⟨p1,p2,p3⟩:=Gd hput;refine ⟨⟨To cs,[],acc,false⟩,σ',hK,p2,p3,⟨_,Hm hput⟩,λC hnp hnt=>?_⟩;refine Fv ho (λd hd=>by rw [<-hnt]; exact p1 d hd) (λj hj=>absurd rfl hj) (hwant C) (λtm me pl S a w hI hl hacc _=>?_);exact KO hnp hop hcalG hargs hlen hH hflat hres hI (hρ hI hl) hacc
  ·exact fin rs [] [] hH (.inl ⟨rfl,rfl,rfl⟩) hK
 ·rename_i b p
  split at h<;>try (cases h; done)
  rename_i kb x hb;obtain ⟨rs,outs,hH,hK⟩:=hE.call _ _ _ _ h;split at hK<;>try (cases hK; done)
  rename_i v;split at hK<;>try (cases hK; done)
  rename_i x' hset;exact fin rs [v] _ hH (.inr ⟨b,p,kb,x,v,x',rfl,rfl,hb,hset,rfl⟩) hK
theorem Q5 (hE:D7 P E) {rid:Nat} {ops:Array Oper} {σ:St} {o:Oper} {i:Nat} {accs:List Acc} {K:St->List Acc->Option R} {r:R} (ho:ops[i]?=some o)
  (hwant:∀(C:Ctx) (tm:Nat->SV) (me:Nat->Option Blk) (pl:Nat->Plc) (S:Nat->Prop) (a:Act) (w:World),Inv C tm me pl S a w->(∀t∈looks ops o,tm t=tget σ.tm t)->Region.wanted o (yielded ops a.tmps)=true)
  (h:xop E rid σ o i accs K=some r):∃c σ',K σ' ((c.wr.map (·.1),c.acc,c.all)::accs)=some r/\Good E P ops i o σ σ' c:=by
 have hρ:∀{C:Ctx} {tm:Nat->SV} {me:Nat->Option Blk} {pl:Nat->Plc} {S:Nat->Prop} {a:Act} {w:World},Inv C tm me pl S a w->(∀t∈looks ops o,tm t=tget σ.tm t)->∀x∈o.op.operands,G S w me pl (opv σ.tm x) (a.eval x):=
  λhI hl x hx=>Jq hI (λt ht=>hl t (Q0 hx ht))
 unfold xop at h;split at h
 ·rename_i f c ex hc
  obtain ⟨hop,hcalG⟩:=Mp hc;split at h
  case h_2=>
   split at h<;>try (cases h; done)
   rename_i q hq;split at h<;>try (cases h; done)
   rename_i hok;split at h<;>try (cases h; done)
   rename_i σ' hput;obtain ⟨p1,p2,p3⟩:=Gd hput;refine ⟨⟨q.sv,q.wr,q.wr.map (·.1)++q.acc,false⟩,σ',h,p2,p3,⟨_,Hm hput⟩,λC hnp hnt=>?_⟩;refine Fv ho (λd hd=>by rw [<-hnt]; exact p1 d hd) zia (hwant C) (λtm me pl S a w hI hl hacc _=>?_);exact zbm hE.ins hnp hop hcalG hq hok (λj hj=>hacc j (by simp [hj])) hI (hρ hI hl)
  exact Q7 hE ho hwant hop hcalG h
 ·split at h
  ·rename_i x c hv
   obtain ⟨hop,hcal⟩:=P9 hv;split at h<;>try (cases h; done)
   obtain ⟨f,ex,hf,h2⟩:=Lr h;split at h2<;>try (cases h2; done)
   exact Q7 hE ho hwant hop (hcal f _ hf) h2
  split at h<;>try (cases h; done)
  rename_i q hq;split at h<;>try (cases h; done)
  rename_i hok;split at h<;>try (cases h; done)
  rename_i σ' hput;obtain ⟨p1,p2,p3⟩:=Gd hput;refine ⟨⟨q.sv,q.wr,q.wr.map (·.1)++q.acc,false⟩,σ',h,p2,p3,⟨_,Hm hput⟩,λC hnp hnt=>?_⟩;refine Fv ho (λd hd=>by rw [<-hnt]; exact p1 d hd) zia (hwant C) (λtm me pl S a w hI hl hacc _=>?_);exact Sj hE.tab hE.eq hnp hq hok (λj hj=>hacc j (by simp [hj])) hI (hρ hI hl)
theorem Mf {ops:Array Oper} {σ:St} {o:Oper} {i:Nat} {accs:List Acc} {K:St->List Acc->Option R} {r:R} (ho:ops[i]?=some o)
  (hwant:∀(C:Ctx) (tm:Nat->SV) (me:Nat->Option Blk) (pl:Nat->Plc) (S:Nat->Prop) (a:Act) (w:World),Inv C tm me pl S a w->(∀t∈looks ops o,tm t=tget σ.tm t)->Region.wanted o (yielded ops a.tmps)=false)
  (h:NA E σ o accs K=some r):∃c σ',K σ' ((c.wr.map (·.1),c.acc,c.all)::accs)=some r/\Good E P ops i o σ σ' c:=by
 unfold NA at h;split at h<;>try (cases h; done)
 rename_i σ' hput;obtain ⟨p1,p2,p3⟩:=Gd hput;refine ⟨⟨.tup [],[],[],false⟩,σ',h,p2,p3,⟨_,Hm hput⟩,λC _ hnt=>⟨λj hj=>absurd rfl hj,λtm me pl S a w hI hl hacc _ Q K hK=>?_⟩⟩;unfold wpOpIn;simp only [ho,hwant C tm me pl S a w hI hl,Bx,By];refine ⟨λ_ _=>zf5 _ _,hK pl S _ w ?_⟩;rw [Dn];exact hI.putO (λd hd=>by rw [<-hnt]; exact p1 d hd) ⟨[],rfl,rfl⟩
inductive Chain (C:Ctx) (P:Program) (ops:Array Oper):Nat->List Oper->(Nat->SV)->(Nat->Option Blk)->List Cert->(Nat->SV)->(Nat->Option Blk)->Prop
 | nil (i:Nat) (tm:Nat->SV) (me:Nat->Option Blk):Chain C P ops i [] tm me [] tm me
 | cons {i:Nat} {o:Oper} {rest:List Oper} {tm:Nat->SV} {me:Nat->Option Blk} {c:Cert} {cs:List Cert} {tm':Nat->SV} {me':Nat->Option Blk}:
   ops[i]?=some o->MI C P ops i o tm me c->Chain C P ops (i+1) rest (putO tm o.dst c.sv) (laid c.wr me) cs tm' me'->Chain C P ops i (o::rest) tm me (c::cs) tm' me'
inductive ChainA (E:Env R) (P:Program) (ops:Array Oper):Nat->List Oper->(Nat->SV)->(Nat->Option Blk)->List Cert->(Nat->SV)->(Nat->Option Blk)->Prop
 | nil (i:Nat) (tm:Nat->SV) (me:Nat->Option Blk):ChainA E P ops i [] tm me [] tm me
 | cons {i:Nat} {o:Oper} {rest:List Oper} {tm:Nat->SV} {me:Nat->Option Blk} {c:Cert} {cs:List Cert} {tm':Nat->SV} {me':Nat->Option Blk}:
   ops[i]?=some o->(∀C:Ctx,E.np=C.pp.length->E.nt=C.nt->MI C P ops i o tm me c)->ChainA E P ops (i+1) rest (putO tm o.dst c.sv) (laid c.wr me) cs tm' me'->ChainA E P ops i (o::rest) tm me (c::cs) tm' me'
theorem ChainA.at {C:Ctx} (hnp:E.np=C.pp.length) (hnt:E.nt=C.nt) {ops:Array Oper} {i:Nat} {rest:List Oper} {tm:Nat->SV} {me:Nat->Option Blk} {cs:List Cert} {tm':Nat->SV} {me':Nat->Option Blk} (h:ChainA E P ops i rest tm me cs tm' me'):Chain C P ops i rest tm me cs tm' me':=by
 induction h with
 | nil i tm me=>exact .nil i tm me
 | cons ho hj _ ih=>exact .cons ho (hj C hnp hnt) ih
theorem Rc {tm:List (Nat×SV)} {d:Nat} {b:Bool} (h:tget tm d=.val .bool b):tget ((d,.val .bool b)::tm)=tget tm:=by
 rw [E5]; exact GY h
theorem Xl {tm:List (Nat×SV)} {x:Operand} {b:Bool} (h:opv tm x=.val .bool b):tget (setT tm x b)=tget tm:=by
 cases x with
 | tmp t=>exact Rc h
 | _=>rfl
theorem BN {ops:Array Oper} {o:Oper} {j d:Nat} {want:Bool} (hg:o.guard=some (j,want)) (hd:(ops[j]?).bind (·.dst)=some d):d∈looks ops o:=by
 unfold looks;rw [hg];refine Ai.2 (.inr ?_);simp only [hd];simp
theorem SVL.of_eval {C:Ctx} {tm0:List (Nat×SV)} {tm:Nat->SV} {me:Nat->Option Blk} {pl:Nat->Plc} {S:Nat->Prop} {a:Act} {w:World} (hI:Inv C tm me pl S a w):∀l:List Operand,(∀x∈l,G S w me pl (opv tm0 x) (a.eval x))->SVL S w me pl (l.map (opv tm0)) (l.map a.eval)
 | [],_=>rfl
 | x::l,h=>⟨_,_,rfl,h x (by simp),SVL.of_eval hI l (λy hy=>h y (by simp [hy]))⟩
theorem SVL.append {S:Nat->Prop} {w:World} {me:Nat->Option Blk} {pl:Nat->Plc}:∀{l l':List SV} {vs vs':List Value},SVL S w me pl l vs->SVL S w me pl l' vs'->SVL S w me pl (l++l') (vs++vs')
 | [],_,_,_,h,h'=>by
  have h0:_=[]:=h;subst h0;exact h'
 | _::_,_,_,_,⟨v,vs1,e,h1,h2⟩,h'=>by
  subst e;exact ⟨v,vs1++_,rfl,h1,h2.append h'⟩
theorem SVsG.svl {S:Nat->Prop} {w:World} {me:Nat->Option Blk} {pl:Nat->Plc}:∀{l:List SV} {vs:List Value},SVsG S w me pl (l.map λs=>(s,0)) vs->SVL S w me pl l vs
 | [],_,h=>h
 | _::_,_,⟨v,vs1,e,h1,h2⟩=>⟨v,vs1,e,h1,SVsG.svl h2⟩
theorem Xt {S:Nat->Prop} {w:World} {me:Nat->Option Blk} {pl:Nat->Plc} {rs:List SV} {vs:List Value} (h:SVL S w me pl rs vs):G S w me pl (Mb rs) (Km vs):=by
 have key:∀(l:List SV) (vs:List Value),SVL S w me pl l vs->CmpsG S w me pl (l.map zrc) vs:=by
  intro l
  induction l with
  | nil=>intro vs h; exact h
  | cons sv l ih=>
   intro vs h;obtain ⟨v,vs',rfl,h1,h2⟩:=h;refine ⟨v,vs',rfl,?_,ih vs' h2⟩;cases sv<;>first | exact h1 | trivial
 match rs,h with
 | [],h=>
  have:vs=[]:=h;subst this;exact ⟨[],rfl,rfl⟩
 | [sv],h=>
  obtain ⟨v,vs',rfl,h1,h2⟩:=h;have:vs'=[]:=h2;subst this;exact h1
 | s1::s2::l,h=>
  have hk:=key _ _ h;obtain ⟨v1,vs1,rfl,_,h2⟩:=h;obtain ⟨v2,vs2,rfl,_,_⟩:=h2;exact ⟨v1::v2::vs2,rfl,hk⟩
theorem Yj {rid:Nat} {σ:St} {o:Oper} {i:Nat} {f:FuncId} {c:Call} {ex:List SV} (h:inlF E rid σ o i=some (f,c,ex)):o.guard=none/\o.op=.call c/\CalG σ.tm c f ex:=by
 unfold inlF at h;split at h<;>try (cases h; done)
 rename_i hg;split at h<;>try (cases h; done)
 split at h<;>try (cases h; done)
 rename_i f' c' ex' hc;split at h<;>try (cases h; done)
 cases h;exact ⟨hg,Mp hc⟩
theorem SI {rid:Nat} {σ:St} {o:Oper} {i:Nat} {f:FuncId} {c:Call} {ex:List SV} (h:inlG E rid σ o i=some (f,c,ex)):o.op=.call c/\CalG σ.tm c f ex:=by
 unfold inlG at h;split at h<;>try (cases h; done)
 split at h<;>try (cases h; done)
 rename_i f' c' ex' hc;split at h<;>try (cases h; done)
 cases h;exact Mp hc
theorem Yi {rid:Nat} {σ:St} {o:Oper} {i:Nat} {x:FnV} {c:Call} (h:inlV E rid σ o i=some (x,c)):o.op=.call c/\∀f ex,fnvF x=some (f,ex)->CalG σ.tm c f ex:=by
 unfold inlV at h;split at h<;>try (cases h; done)
 split at h<;>try (cases h; done)
 exact P9 h
theorem LM {rid:Nat} {σ:St} {o:Oper} {i:Nat} {x:FnV} {c:Call} (h:inlV E rid σ o i=some (x,c)):o.guard=none:=by
 unfold inlV at h;split at h<;>first | assumption | cases h
theorem HR {σ:St} {o:Oper} {f:FuncId} {c:Call} {ex:List SV} (hop:o.op=.call c) (hcalG:CalG σ.tm c f ex) {rs:List SV} {me':List (Nat×Blk)} (hent:∀args w,(callFunc f args).run P w=.ok (.enter f args) w)
  (hcall:∀(C:Ctx) (tm:Nat->SV) (pl:Nat->Plc) (S:Nat->Prop) (a:Act) (w:World) (vs:List Value),E.np=C.pp.length->Inv C tm (mget σ.me) pl S a w->SVL S w (mget σ.me) pl (c.args.toList.map (opv σ.tm)++ex) vs->
   Calls P f vs.toArray w fun
    | .returned v,w'=>∃pl' S' vs',Inv C tm (mget me') pl' S' a w'/\v=Km vs'/\SVL S' w' (mget me') pl' rs vs'
    | _,_=>False)
  {C:Ctx} (hnp:E.np=C.pp.length) {tm:Nat->SV} {pl:Nat->Plc} {S:Nat->Prop} {a:Act} {w:World} (hI:Inv C tm (mget σ.me) pl S a w) (hρ:∀x∈o.op.operands,G S w (mget σ.me) pl (opv σ.tm x) (a.eval x)):
  Runs P o a w (λv w'=>∃pl' S',Inv C tm (mget me') pl' S' a w'/\G S' w' (mget me') pl' (Mb rs) v):=by
 obtain ⟨cal,caps,hcal,hce,hcaps⟩:=hcalG.val (a:=a) (λcal hcal=>hρ cal (by simp [hop,Op.operands,Call.operands,hcal]));have hrun:(execOp a.eval o).run P w=.ok (.enter f (c.args.map a.eval++caps.toArray)) w:=by
  simp only [execOp,hop];simp only [resolve,hcal,hce,Deferred.ofValue];simp [As,invoke,hent]
 unfold Runs;rw [hrun];have hsv:=(SVL.of_eval (tm0:=σ.tm) hI c.args.toList (λx hx=>hρ x (by simp [hop,Op.operands,Call.operands,hcal]; exact .inr (by simpa using hx)))).append hcaps.svl;have:=hcall C tm pl S a w _ hnp hI hsv;rw [show ((c.args.toList.map a.eval)++caps).toArray=c.args.map a.eval++caps.toArray by apply Bq; simp] at this;refine this.mono λe w' he=>?_
 cases e with
 | returned v=>
  obtain ⟨pl',S',vs',g1,rfl,g3⟩:=he;exact ⟨pl',S',g1,Xt g3⟩
 | panicked _=>exact he
 | outgrown=>exact he
theorem Ye (n me:List (Nat×Blk)):Ni (n++me) me=n:=by
 unfold Ni;rw [Ae,show Nat.sub (n.length+me.length) me.length=n.length from Ch _ _];simp
theorem Q6 (hE:D7 P E) {ops:Array Oper} {σ:St} {o:Oper} {i:Nat} {accs:List Acc} {K:St->List Acc->Option R} {r:R} {f:FuncId} {c:Call} {ex:List SV} (ho:ops[i]?=some o)
  (hwant:∀(C:Ctx) (tm:Nat->SV) (me:Nat->Option Blk) (pl:Nat->Plc) (S:Nat->Prop) (a:Act) (w:World),Inv C tm me pl S a w->(∀t∈looks ops o,tm t=tget σ.tm t)->Region.wanted o (yielded ops a.tmps)=true)
  (hop:o.op=.call c) (hcalG:CalG σ.tm c f ex)
  (h:(E.inl f (c.args.toList.map (opv σ.tm)++ex) σ.me σ.nx λrs me' nx'=>match Kk E.nt ⟨σ.tm,me',nx'⟩ o.dst (Mb rs) [] nx' with
    | some σ'=>K σ' (((Ni me' σ.me).map (·.1),(Ni me' σ.me).map (·.1),true)::accs)
    | none=>none)=some r):∃c σ',K σ' ((c.wr.map (·.1),c.acc,c.all)::accs)=some r/\Good E P ops i o σ σ' c:=by
 obtain ⟨rs,me',nx',hK,⟨nw,rfl⟩,hent,hcall⟩:=hE.inl _ _ _ _ _ _ h;split at hK<;>try (cases hK; done)
 rename_i σ1 hput;obtain ⟨p1,p2,p3⟩:=Gd hput;rw [Ye] at hK;refine ⟨⟨Mb rs,nw,nw.map (·.1),true⟩,σ1,hK,p2,?_,⟨nw,by rw [Hm hput]; rfl⟩,λC hnp hnt=>?_⟩
 ·rw [p3,Dn]; exact Ft _ _
 ·refine Fv ho (λd hd=>by rw [<-hnt]; exact p1 d hd) (λj hj=>Gl hj) (λtm me pl S a w=>hwant C tm me pl S a w) (λtm me pl S a w hI hl hacc hme=>?_)
  have hme:=hme rfl;subst hme;have hR:=HR hop hcalG hent hcall hnp hI (λx hx=>Jq hI (λt ht=>hl t (Q0 hx ht)));unfold Runs at hR ⊢;unfold F6;rw [Ft] at hR;exact hR
theorem zaz {rid:Nat} {σ:St} {o:Oper} {i:Nat} {c:Call} (h:ylF E rid σ o i=some c):∃d x e l sh,E.nt.rd=some d/\o.op=.call c/\c.callee=.value x/\opv σ.tm x=.yv d.yi/\mget σ.me d.yi=some (.row e l 0 sh):=by
 unfold ylF at h;split at h<;>try (cases h; done)
 rename_i d hd;split at h<;>try (cases h; done)
 split at h<;>try (cases h; done)
 rename_i c' hop;split at h<;>try (cases h; done)
 rename_i x hcal;split at h<;>try (cases h; done)
 rename_i j hx;split at h<;>try (cases h; done)
 rename_i e l v sh hj hm;split at h<;>try (cases h; done)
 rename_i hv;cases h;have e1:=Aa hj;have e2:=Aa hv;subst e1 e2;exact ⟨d,x,e,l,sh,hd,hop,hcal,hx,hm⟩
theorem ziq {σ:St} {o:Oper} {c:Call} {d:RD} {x:Operand} {e:Kd} {l0:List e.T} {sh:Bool} (hrd:E.nt.rd=some d) (hop:o.op=.call c) (hcal:c.callee=.value x) (hx:opv σ.tm x=.yv d.yi) (hm:mget σ.me d.yi=some (.row e l0 0 sh))
  {me':List (Nat×Blk)}
  (hrun:∀(C:Ctx) (tm:Nat->SV) (pl:Nat->Plc) (S:Nat->Prop) (a:Act) (w:World) (vs:List Value),E.np=C.pp.length->E.nt=C.nt->Inv C tm (mget σ.me) pl S a w->SVL S w (mget σ.me) pl (c.args.toList.map (opv σ.tm)) vs->
   ∃l f tmps as bd,C.pv=.func (.yield l) #[] #[]/\(∃d,E.nt.rd=some d/\C.gh (.yv d.yi) C.pv)/\(Instr.yield l vs.toArray).run P w=.ok (.round l f tmps as bd) w/\
    RoundIn Fence.wide 0 P l f tmps as bd w fun
     | .returned v,w'=>v=.bool true/\∃pl' S',Inv C tm (mget me') pl' S' a w'
     | _,_=>False)
  {C:Ctx} (hnp:E.np=C.pp.length) (hnt:E.nt=C.nt) {tm:Nat->SV} {pl:Nat->Plc} {S:Nat->Prop} {a:Act} {w:World} (hI:Inv C tm (mget σ.me) pl S a w) (hρ:∀x∈o.op.operands,G S w (mget σ.me) pl (opv σ.tm x) (a.eval x)):
  Runs P o a w (λv w'=>∃pl' S',Inv C tm (mget me') pl' S' a w'/\G S' w' (mget me') pl' (.val .bool true) v):=by
 have hsv:=SVL.of_eval (tm0:=σ.tm) hI c.args.toList (λy hy=>hρ y (by simp [hop,Op.operands,Call.operands,hcal]; exact .inr (by simpa using hy)));obtain ⟨l,f,tmps,as,bd,e1,⟨d',hd',hgh⟩,e2,e3⟩:=hrun C tm pl S a w _ hnp hnt hI hsv;rw [hrd] at hd';cases hd';have h1:=hρ x (by simp [hop,Op.operands,Call.operands,hcal]);rw [hx] at h1;obtain ⟨ea,la,va,sa,h1a,h1b⟩:=h1;obtain ⟨eb,lb,vb,sb,h2a,h2b⟩:=hI.gho _ _ hgh;rw [hm] at h1a h2a;cases h1a;cases h2a;have hev:a.eval x=.func (.yield l) #[] #[]:=by rw [h1b rfl,<-h2b rfl,e1]
 have hex:(execOp a.eval o).run P w=.ok (.round l f tmps as bd) w:=by
  simp only [execOp,hop];simp only [resolve,hcal,hev,Deferred.ofValue];have e:(c.args.toList.map a.eval).toArray=c.args.map a.eval:=by apply Bq; simp
  rw [e] at e2;simp [As,invoke,e2]
 unfold Runs;rw [hex];refine e3.mono λe w' he=>?_
 cases e with
 | returned v=>
  obtain ⟨rfl,pl',S',g1⟩:=he;exact ⟨pl',S',g1,VRd.bool.2 rfl⟩
 | panicked _=>exact he
 | outgrown=>exact he
theorem za0 (hE:D7 P E) {rid:Nat} {ops:Array Oper} {σ:St} {o:Oper} {i:Nat} {accs:List Acc} {K:St->List Acc->Option R} {r:R} {c:Call} (ho:ops[i]?=some o)
  (hwant:∀(C:Ctx) (tm:Nat->SV) (me:Nat->Option Blk) (pl:Nat->Plc) (S:Nat->Prop) (a:Act) (w:World),Inv C tm me pl S a w->(∀t∈looks ops o,tm t=tget σ.tm t)->Region.wanted o (yielded ops a.tmps)=true)
  (hy:ylF E rid σ o i=some c)
  (h:(E.yl (c.args.toList.map (opv σ.tm)) σ.me σ.nx λme' nx'=>match Kk E.nt ⟨σ.tm,me',nx'⟩ o.dst (.val .bool true) [] nx' with
    | some σ'=>K σ' (((Ni me' σ.me).map (·.1),(Ni me' σ.me).map (·.1),true)::accs)
    | none=>none)=some r):∃c σ',K σ' ((c.wr.map (·.1),c.acc,c.all)::accs)=some r/\Good E P ops i o σ σ' c:=by
 obtain ⟨d,x,e,l,sh,hrd,hop,hcal,hx,hm⟩:=zaz hy;obtain ⟨me',nx',hK,⟨nw,rfl⟩,hrun⟩:=hE.yl _ _ _ _ _ h;split at hK<;>try (cases hK; done)
 rename_i σ1 hput;obtain ⟨p1,p2,p3⟩:=Gd hput;rw [Ye] at hK;refine ⟨⟨.val .bool true,nw,nw.map (·.1),true⟩,σ1,hK,p2,?_,⟨nw,by rw [Hm hput]; rfl⟩,λC hnp hnt=>?_⟩
 ·rw [p3,Dn]; exact Ft _ _
 ·refine Fv ho (λd hd=>by rw [<-hnt]; exact p1 d hd) (λj hj=>Gl hj) (λtm me pl S a w=>hwant C tm me pl S a w) (λtm me pl S a w hI hl hacc hme=>?_)
  have hme:=hme rfl;subst hme;have hR:=ziq hrd hop hcal hx hm hrun hnp hnt hI (λx hx=>Jq hI (λt ht=>hl t (Q0 hx ht)));unfold Runs at hR ⊢;unfold F6;rw [Ft] at hR;exact hR
theorem Lf (hE:D7 P E) {rid:Nat} {ops:Array Oper} {r:R}:
  ∀(rest:List Oper) (i:Nat) (σ:St) (accs:List Acc) (K:St->List Acc->Option R),(∀j x,rest[j]?=some x->ops[i+j]?=some x)->xops E rid ops rest i σ accs K=some r->
   ∃cs σ',K σ' ((cs.map λc=>(c.wr.map (·.1),c.acc,c.all)).reverse++accs)=some r/\ChainA E P ops i rest (tget σ.tm) (mget σ.me) cs (tget σ'.tm) (mget σ'.me)/\∃n,σ'.me=n++σ.me
 | [],i,σ,accs,K,_,h=>⟨[],σ,h,.nil i _ _,[],rfl⟩
 | o::rest,i,σ,accs,K,hr,h=>by
  have ho:ops[i]?=some o:=by simpa using hr 0 o rfl
  have hr':∀j x,rest[j]?=some x->ops[i+1+j]?=some x:=λj x hx=>by have:=hr (j+1) x (by simpa using hx); simpa [Bn,Nat.add_comm 1 j] using this
  have step:∀(σ1:St),tget σ1.tm=tget σ.tm->σ1.me=σ.me->(∃c σ',(λσ' accs'=>xops E rid ops rest (i+1) σ' accs' K) σ' ((c.wr.map (·.1),c.acc,c.all)::accs)=some r/\Good E P ops i o σ1 σ' c)->
    ∃cs σ',K σ' ((cs.map λc=>(c.wr.map (·.1),c.acc,c.all)).reverse++accs)=some r/\ChainA E P ops i (o::rest) (tget σ.tm) (mget σ.me) cs (tget σ'.tm) (mget σ'.me)/\∃n,σ'.me=n++σ.me:=by
   intro σ1 e1 e2 ⟨c,σ2,h1,g1,g2,⟨n1,gx⟩,g3⟩;obtain ⟨cs,σ3,h2,h3,n2,hx⟩:=Lf hE rest (i+1) σ2 ((c.wr.map (·.1),c.acc,c.all)::accs) K hr' h1;rw [g1,g2,e1,e2] at h3;rw [e1,e2] at g3;exact ⟨c::cs,σ3,by simpa using h2,.cons ho g3 h3,n2++n1,by rw [hx,gx,e2,Ah]⟩
  simp only [xops] at h;split at h
  ·rename_i hg
   split at h
   ·rename_i c hy
    exact step σ rfl rfl (za0 (K:=λσ' accs'=>xops E rid ops rest (i+1) σ' accs' K) hE ho (λ_ _ _ _ _ _ _ _ _=>Gy hg) hy h)
   split at h
   ·split at h
    ·exact step σ rfl rfl (Q5 hE ho (λ_ _ _ _ _ _ _ _ _=>Gy hg) h)
    ·rename_i x c hv
     obtain ⟨hop,hcal⟩:=Yi hv;obtain ⟨f,ex,hf,h2⟩:=Lr h;exact step σ rfl rfl (Q6 (K:=λσ' accs'=>xops E rid ops rest (i+1) σ' accs' K) hE ho (λ_ _ _ _ _ _ _ _ _=>Gy hg) hop (hcal f ex hf) h2)
   ·rename_i f c ex hf
    obtain ⟨_,hop,hcalG⟩:=Yj hf;exact step σ rfl rfl (Q6 (K:=λσ' accs'=>xops E rid ops rest (i+1) σ' accs' K) hE ho (λ_ _ _ _ _ _ _ _ _=>Gy hg) hop hcalG h)
  ·rename_i j want hg
   split at h<;>try (cases h; done)
   rename_i d hd;have hlk:=BN hg hd;split at h<;>try (cases h; done)
   ·rename_i c hc
    have key:∀(b:Bool),tget σ.tm d=.val .bool b->∀{C:Ctx} {tm:Nat->SV} {me:Nat->Option Blk} {pl:Nat->Plc} {S:Nat->Prop} {a:Act} {w:World},Inv C tm me pl S a w->(∀t∈looks ops o,tm t=tget σ.tm t)->Region.wanted o (yielded ops a.tmps)=(b==want):=by
     intro b hb C tm me pl S a w hI hl;have h1:=hI.tms d;rw [hl d hlk,hb] at h1;exact AG hg hd (VRd.bool.1 h1)
    cases c
    ·simp only at h
     have e1:=Rc hc;split at h
     ·exact step ⟨(d,.val .bool false)::σ.tm,σ.me,σ.nx⟩ e1 rfl (Q5 hE ho (λC tm me pl S a w hI hl=>by rw [key false hc hI (by rw [<-e1]; exact hl)]; rfl) h)
     ·exact step ⟨(d,.val .bool false)::σ.tm,σ.me,σ.nx⟩ e1 rfl (Mf ho (λC tm me pl S a w hI hl=>by rw [key false hc hI (by rw [<-e1]; exact hl)]; rfl) h)
    ·simp only at h
     have e1:=Rc hc;split at h
     ·split at h
      ·exact step ⟨(d,.val .bool true)::σ.tm,σ.me,σ.nx⟩ e1 rfl (Q5 hE ho (λC tm me pl S a w hI hl=>by rw [key true hc hI (by rw [<-e1]; exact hl)]; rfl) h)
      ·rename_i f c ex hf
       obtain ⟨hop,hcalG⟩:=SI hf;exact step ⟨(d,.val .bool true)::σ.tm,σ.me,σ.nx⟩ e1 rfl (Q6 (K:=λσ' accs'=>xops E rid ops rest (i+1) σ' accs' K) hE ho (λC tm me pl S a w hI hl=>by rw [key true hc hI (by rw [<-e1]; exact hl)]; rfl) hop hcalG h)
     ·exact step ⟨(d,.val .bool true)::σ.tm,σ.me,σ.nx⟩ e1 rfl (Mf ho (λC tm me pl S a w hI hl=>by rw [key true hc hI (by rw [<-e1]; exact hl)]; rfl) h)
   ·rename_i hc
    refine step σ rfl rfl (Mf ho (λC tm me pl S a w hI hl=>?_) h);have h1:=hI.tms d;rw [hl d hlk,hc] at h1;obtain ⟨vs,e1,e2⟩:=h1;simp only [CmpsG] at e2;subst e2;exact AH hg hd e1
end
inductive Reach (ops:Array Oper):Nat->Nat->Prop
 | one {j:Nat} {o:Oper} {e:Edge}:ops[j]?=some o->e∈o.after->Region.binds .any e=true->Reach ops j e.on
 | more {j m:Nat} {o:Oper} {e:Edge}:ops[j]?=some o->e∈o.after->Region.binds .any e=true->Reach ops e.on m->Reach ops j m
def KE (ops:Array Oper) (D:Nat->Bool):Prop:=∀j,D j=true->∀o,ops[j]?=some o->∀e∈o.after,Region.binds .any e=true->D e.on=true
theorem Reach.closed {ops:Array Oper} {D:Nat->Bool} (hD:KE ops D) {j m:Nat} (h:Reach ops j m) (hj:D j=true):D m=true:=by
 induction h with
 | one ho he hb=>exact hD _ hj _ ho _ he hb
 | more ho he hb _ ih=>exact ih (hD _ hj _ ho _ he hb)
theorem Reach.ready {ops:Array Oper} {D:Nat->Bool} (hD:KE ops D) {j m:Nat} (h:Reach ops j m) (hj:∀o,ops[j]?=some o->∀e∈o.after,Region.binds .any e=true->D e.on=true):D m=true:=by
 cases h with
 | one ho he hb=>exact hj _ ho _ he hb
 | more ho he hb h=>exact h.closed hD (hj _ ho _ he hb)
section
variable {C:Ctx} {P:Program} {ops:Array Oper}
theorem Qd {acc:List Nat} {i:Nat} (hacc:∀j m,Nat.testBit (acc.getD j 0) m=true->Reach ops j m) {o:Oper} (ho:ops[i]?=some o):
  ∀(es:List Edge) (s:Nat),(∀e∈es,e∈o.after)->(∀m,Nat.testBit s m=true->Reach ops i m)->
   ∀m,Nat.testBit (es.foldl (λs e=>match Region.binds .any e with | true=>s||| (2^e.on||| acc.getD e.on 0) | false=>s) s) m=true->Reach ops i m
 | [],s,_,hs,m,h=>hs m h
 | e::es,s,hes,hs,m,h=>by
  rw [B8] at h;refine Qd hacc ho es _ (λe' he'=>hes e' (Cf _ he')) (λm' hm'=>?_) m h;have hmem:=hes e (by simp);cases hb:Region.binds .any e with
  | false=>rw [hb] at hm'; exact hs m' hm'
  | true=>
   rw [hb] at hm';simp only [Nat.testBit_or,Bool.or_eq_true] at hm';rcases hm' with h1 | h1 | h1
   ·exact hs m' h1
   ·rw [Nat.testBit_two_pow] at h1
    have:=Bw h1;subst this;exact .one ho hmem hb
   ·exact .more ho hmem hb (hacc _ _ h1)
theorem K4:∀(l:List Oper) (acc:List Nat),(∀j,l[j]?=ops[acc.length+j]?)->(∀j m,Nat.testBit (acc.getD j 0) m=true->Reach ops j m)->∀j m,Nat.testBit ((DT l acc).getD j 0) m=true->Reach ops j m
 | [],acc,_,h,j,m,hm=>h j m hm
 | o::l,acc,hl,h,j,m,hm=>by
  have ho:ops[acc.length]?=some o:=by simpa using (hl 0).symm
  refine K4 l (acc++[UL acc o.after.toList]) (λj=>?_) (λj m hm=>?_) j m hm
  ·have:=hl (j+1)
   simpa [Bn,Nat.add_comm 1 j] using this
  ·rcases Ci j acc.length with h1 | h1 | h1
   ·rw [Br,List.getElem?_append_left h1,<-Br] at hm; exact h j m hm
   ·subst h1
    rw [Br,Az (Al _)] at hm;simp at hm;exact Qd h ho o.after.toList 0 (λe he=>by simpa using he) (λm hm=>by simp at hm) m hm
   ·rw [Br,Az (by omega),Cj (by simp; omega)] at hm
    simp at hm
theorem Oy:∀(l:List Oper) (i:Nat),ze7 i l=true->∀j o,l[j]?=some o->∀e∈o.after,Region.binds .any e=true->e.on<i+j
 | [],i,_,j,o,h,e,he,hb=>by simp at h
 | o'::l,i,hh,j,o,h,e,he,hb=>by
  simp only [ze7,Ab] at hh;cases j with
  | zero=>
   simp at h;subst h;have:=B9.1 hh.1 e (by simpa using he);rw [hb] at this;simpa [Nat.blt_eq] using this
  | succ j=>
   have:=Oy l (i+1) hh.2 j o (by simpa using h) e he hb;omega
theorem P4 {x:Oper} {ax:Acc} {i:Nat}:∀{ys:List Oper} {ays:List Acc} {bs:List Nat},Mk ops x ax i ys ays bs=true->∀j y,ys[j]?=some y->
  ∃ay,ays[j]?=some ay/\(Nat.testBit (bs.getD j 0) i=true\/Hv ops x ax y ay=true)
 | y::ys,ay::ays,b::bs,h,0,y',hy=>by
  simp only [Mk,Ab,Bool.or_eq_true] at h;simp at hy; subst hy;exact ⟨ay,rfl,by simpa using h.1⟩
 | y::ys,ay::ays,b::bs,h,j+1,y',hy=>by
  simp only [Mk,Ab,Bool.or_eq_true] at h;obtain ⟨ay',h1,h2⟩:=P4 h.2 j y' (by simpa using hy);exact ⟨ay',by simpa using h1,by simpa using h2⟩
 | [],_,_,_,j,y',hy=>by simp at hy
 | y::ys,[],_,h,_,_,_=>by simp [Mk] at h
 | y::ys,ay::ays,[],h,_,_,_=>by simp [Mk] at h
theorem Ml:∀{xs:List Oper} {axs:List Acc} {bs:List Nat} {n:Nat},T4 ops n xs axs bs=true->∀i j x y,xs[i]?=some x->xs[j]?=some y->i<j->
  ∃ax ay,axs[i]?=some ax/\axs[j]?=some ay/\(Nat.testBit (bs.getD j 0) (n+i)=true\/Hv ops x ax y ay=true)
 | x::xs,ax::axs,b::bs,n,h,i,j,x',y',hx,hy,hij=>by
  simp only [T4,Ab] at h;cases j with
  | zero=>omega
  | succ j=>
   cases i with
   | zero=>
    simp at hx; subst hx;obtain ⟨ay,h1,h2⟩:=P4 h.1 j y' (by simpa using hy);exact ⟨ax,ay,rfl,by simpa using h1,by simpa using h2⟩
   | succ i=>
    obtain ⟨ax',ay,h1,h2,h3⟩:=Ml h.2 i j x' y' (by simpa using hx) (by simpa using hy) (by omega);exact ⟨ax',ay,by simpa using h1,by simpa using h2,by rw [show n+(i+1)=n+1+i by omega]; simpa using h3⟩
 | [],_,_,_,_,i,j,x,y,hx,_,_=>by simp at hx
 | x::xs,[],_,_,h,_,_,_,_,_,_,_=>by simp [T4] at h
 | x::xs,ax::axs,[],_,h,_,_,_,_,_,_,_=>by simp [T4] at h
def tmD (D:Nat->Bool):Nat->List (Oper×Cert)->(Nat->SV)->(Nat->SV)
 | _,[],tm=>tm
 | i,p::l,tm=>tmD D (i+1) l (if D i then putO tm p.1.dst p.2.sv else tm)
def meD (D:Nat->Bool):Nat->List (Oper×Cert)->(Nat->Option Blk)->(Nat->Option Blk)
 | _,[],me=>me
 | i,p::l,me=>meD D (i+1) l (if D i then laid p.2.wr me else me)
theorem Lo {tm:Nat->SV} {dst:Option Tmp} {sv:SV} {t:Nat} (h:dst≠some t):putO tm dst sv t=tm t:=by
 cases dst with
 | none=>rfl
 | some d=>exact Dm _ _ (λe=>h (by rw [e]))
theorem H9 {wr:List (Nat×Blk)} {me:Nat->Option Blk} {q:Nat} (h:mget wr q=none):laid wr me q=me q:=by unfold laid; rw [h]
theorem Gh {D D':Nat->Bool} {t:Nat}:∀{l:List (Oper×Cert)} {i:Nat} {tm tm':Nat->SV},tm t=tm' t->(∀j p,l[j]?=some p->p.1.dst=some t->D (i+j)=D' (i+j))->tmD D i l tm t=tmD D' i l tm' t
 | [],_,_,_,h,_=>h
 | p::l,i,tm,tm',h,hD=>by
  simp only [tmD];refine Gh ?_ (λj p' hj hd=>by have:=hD (j+1) p' (by simpa using hj) hd; rwa [show i+(j+1)=i+1+j by omega] at this)
  by_cases hd:p.1.dst=some t
  ·have:=hD 0 p rfl hd
   rw [Ax] at this;rw [this];split
   ·rw [hd]; simp [putO]
   ·exact h
  ·have e1:(if D i then putO tm p.1.dst p.2.sv else tm) t=tm t:=by split; exact Lo hd; rfl
   have e2:(if D' i then putO tm' p.1.dst p.2.sv else tm') t=tm' t:=by split; exact Lo hd; rfl
   rw [e1,e2,h]
theorem Fo {D D':Nat->Bool} {q:Nat}:∀{l:List (Oper×Cert)} {i:Nat} {me me':Nat->Option Blk},me q=me' q->(∀j p,l[j]?=some p->mget p.2.wr q≠none->D (i+j)=D' (i+j))->meD D i l me q=meD D' i l me' q
 | [],_,_,_,h,_=>h
 | p::l,i,me,me',h,hD=>by
  simp only [meD];refine Fo ?_ (λj p' hj hd=>by have:=hD (j+1) p' (by simpa using hj) hd; rwa [show i+(j+1)=i+1+j by omega] at this)
  by_cases hd:mget p.2.wr q=none
  ·have e1:(if D i then laid p.2.wr me else me) q=me q:=by split; exact H9 hd; rfl
   have e2:(if D' i then laid p.2.wr me' else me') q=me' q:=by split; exact H9 hd; rfl
   rw [e1,e2,h]
  ·have:=hD 0 p rfl hd
   rw [Ax] at this;rw [this];split
   ·unfold laid; split<;>simp_all
   ·exact h
theorem Qy {D:Nat->Bool} {t:Nat}:∀{l:List (Oper×Cert)} {i i0:Nat} {tm:Nat->SV} {p:Oper×Cert},l[i0]?=some p->p.1.dst=some t->D (i+i0)=true->(∀j p',l[j]?=some p'->i0<j->D (i+j)=true->p'.1.dst≠some t)->tmD D i l tm t=p.2.sv
 | p'::l,i,0,tm,p,h,hd,hD,hlast=>by
  simp at h; subst h;simp only [tmD];rw [Ax] at hD;rw [hD];have:=Gh (D:=D) (D':=λ_=>false) (t:=t) (l:=l) (i:=i+1) (tm:=putO tm p'.1.dst p'.2.sv) (tm':=putO tm p'.1.dst p'.2.sv) rfl (λj p2 hj hd2=>by
   cases hDj:D (i+1+j) with
   | false=>rfl
   | true=>exact absurd hd2 (hlast (j+1) p2 (by simpa using hj) (by omega) (by rwa [show i+(j+1)=i+1+j by omega])))
  simp only [Ca];rw [this];have hno:∀(l:List (Oper×Cert)) (i:Nat) (tm:Nat->SV),tmD (λ_=>false) i l tm=tm:=by
   intro l; induction l with
   | nil=>intro i tm; rfl
   | cons p l ih=>intro i tm; simp only [tmD]; exact ih _ _
  rw [hno,hd];simp [putO]
 | p'::l,i,i0+1,tm,p,h,hd,hD,hlast=>by
  simp only [tmD];exact Qy (i0:=i0) (by simpa using h) hd (by rwa [show i+(i0+1)=i+1+i0 by omega] at hD) (λj p2 hj hlt hDj=>hlast (j+1) p2 (by simpa using hj) (by omega) (by rwa [show i+(j+1)=i+1+j by omega]))
 | [],_,_,_,_,h,_,_,_=>by simp at h
theorem Vp {D:Nat->Bool} {q:Nat} {b:Blk}:∀{l:List (Oper×Cert)} {i i0:Nat} {me:Nat->Option Blk} {p:Oper×Cert},l[i0]?=some p->mget p.2.wr q=some b->D (i+i0)=true->(∀j p',l[j]?=some p'->i0<j->D (i+j)=true->mget p'.2.wr q=none)->meD D i l me q=some b
 | p'::l,i,0,me,p,h,hd,hD,hlast=>by
  simp at h; subst h;simp only [meD];rw [Ax] at hD;rw [hD];have:=Fo (D:=D) (D':=λ_=>false) (q:=q) (l:=l) (i:=i+1) (me:=laid p'.2.wr me) (me':=laid p'.2.wr me) rfl (λj p2 hj hd2=>by
   cases hDj:D (i+1+j) with
   | false=>rfl
   | true=>exact absurd (hlast (j+1) p2 (by simpa using hj) (by omega) (by rwa [show i+(j+1)=i+1+j by omega])) hd2)
  simp only [Ca];rw [this];have hno:∀(l:List (Oper×Cert)) (i:Nat) (me:Nat->Option Blk),meD (λ_=>false) i l me=me:=by
   intro l; induction l with
   | nil=>intro i me; rfl
   | cons p l ih=>intro i me; simp only [meD]; exact ih _ _
  rw [hno];unfold laid; rw [hd]
 | p'::l,i,i0+1,me,p,h,hd,hD,hlast=>by
  simp only [meD];exact Vp (i0:=i0) (by simpa using h) hd (by rwa [show i+(i0+1)=i+1+i0 by omega] at hD) (λj p2 hj hlt hDj=>hlast (j+1) p2 (by simpa using hj) (by omega) (by rwa [show i+(j+1)=i+1+j by omega]))
 | [],_,_,_,_,h,_,_,_=>by simp at h
theorem Chain.len {i:Nat} {rest:List Oper} {tm:Nat->SV} {me:Nat->Option Blk} {cs:List Cert} {tm':Nat->SV} {me':Nat->Option Blk} (h:Chain C P ops i rest tm me cs tm' me'):cs.length=rest.length:=by
 induction h with
 | nil=>rfl
 | cons _ _ _ ih=>simp [ih]
theorem Chain.states {i:Nat} {rest:List Oper} {tm:Nat->SV} {me:Nat->Option Blk} {cs:List Cert} {tm':Nat->SV} {me':Nat->Option Blk} (h:Chain C P ops i rest tm me cs tm' me'):
  (∀j p,(rest.zip cs)[j]?=some p->MI C P ops (i+j) p.1 (tmD (λm=>decide (m<i+j)) i (rest.zip cs) tm) (meD (λm=>decide (m<i+j)) i (rest.zip cs) me) p.2/\ops[i+j]?=some p.1)/\
  tmD (λ_=>true) i (rest.zip cs) tm=tm'/\meD (λ_=>true) i (rest.zip cs) me=me':=by
 induction h with
 | nil i tm me=>exact ⟨λj p h=>by simp at h,rfl,rfl⟩
 | cons ho hj _ ih=>
  rename_i i o rest tm me c cs tm' me' _;obtain ⟨h1,h2,h3⟩:=ih;refine ⟨λj p hp=>?_,by simpa [tmD] using h2,by simpa [meD] using h3⟩;cases j with
  | zero=>
   simp at hp; subst hp;refine ⟨?_,ho⟩;have hno:∀(l:List (Oper×Cert)) (n:Nat) (tm:Nat->SV) (k:Nat),n<=k->tmD (λm=>decide (m<n)) k l tm=tm:=by
    intro l; induction l with
    | nil=>intro n tm k _; rfl
    | cons p l ih=>intro n tm k hk; simp only [tmD]; rw [Ak (by simp; omega)]; exact ih _ _ _ (by omega)
   have hno2:∀(l:List (Oper×Cert)) (n:Nat) (me:Nat->Option Blk) (k:Nat),n<=k->meD (λm=>decide (m<n)) k l me=me:=by
    intro l; induction l with
    | nil=>intro n me k _; rfl
    | cons p l ih=>intro n me k hk; simp only [meD]; rw [Ak (by simp; omega)]; exact ih _ _ _ (by omega)
   rw [Ax,hno _ _ _ _ (Al _),hno2 _ _ _ _ (Al _)];exact hj
  | succ j=>
   have:=h1 j p (by simpa using hp);rw [show i+(j+1)=i+1+j by omega];simp only [List.zip_cons_cons,tmD,meD];rw [Aj (by simp; omega),Aj (by simp; omega)];exact this
end
section
variable {C:Ctx} {P:Program} {ops:Array Oper}
theorem zgh {D D':Nat->Bool} (hD:∀j,D j=true->D' j=true):∀(l:List Nat),l.countP (λj=> !D' j)<=l.countP (λj=> !D j)
 | []=>Al _
 | x::l=>by
  rw [List.countP_cons,List.countP_cons];have:=zgh hD l;have h2:=hD x;cases h:D x<;>cases h':D' x<;>simp_all<;>omega
theorem UF {D D':Nat->Bool} (hD:∀j,D j=true->D' j=true) {i:Nat} (hi:D i=false) (hi':D' i=true):∀(l:List Nat),i∈l->l.countP (λj=> !D' j)+1<=l.countP (λj=> !D j)
 | [],h=>by cases h
 | x::l,h=>by
  rw [List.countP_cons,List.countP_cons]
  by_cases e:i=x
  ·subst e
   have:=zgh hD l;simp [hi,hi']; exact this
  ·have:=UF hD hi hi' l (by simpa [e] using h)
   have h2:=hD x;cases h:D x<;>cases h':D' x<;>simp_all<;>omega
def UW (cs:List Cert):List Acc:=cs.map λc=>(c.wr.map (·.1),c.acc,c.all)
theorem Lp {a b:List Nat} {x:Nat} (h1:x∈a) (h2:x∈b):zcc a b=true:=by
 unfold zcc;rw [List.any_eq_true];exact ⟨x,h1,by simpa using h2⟩
theorem IG {cs:List Cert} (hok:Yb ops (UW cs)=true) (hlen:cs.length=ops.toList.length) {i j:Nat} {p q:Oper×Cert} (hp:(ops.toList.zip cs)[i]?=some p) (hq:(ops.toList.zip cs)[j]?=some q) (hij:i<j):
  Reach ops j i\/Hv ops p.1 (p.2.wr.map (·.1),p.2.acc,p.2.all) q.1 (q.2.wr.map (·.1),q.2.acc,q.2.all)=true:=by
 unfold Yb at hok;rw [Ab] at hok;rw [Ck] at hp hq;obtain ⟨ax,ay,h1,h2,h3⟩:=Ml hok.2 i j p.1 q.1 hp.1 hq.1 hij;unfold UW at h1 h2;rw [Cl,hp.2] at h1;rw [Cl,hq.2] at h2;simp only [Option.map_some,Ad] at h1 h2;subst h1 h2;rcases h3 with h3 | h3
 ·left
  refine K4 ops.toList [] (λj=>by simp) (λj m h=>by simp at h) j i ?_;simpa using h3
 ·exact .inr h3
theorem zq5 {tm:Nat->SV} {me:Nat->Option Blk} {cs:List Cert} {tm':Nat->SV} {me':Nat->Option Blk} (hch:Chain C P ops 0 ops.toList tm me cs tm' me') (hok:Yb ops (UW cs)=true)
  {Q:Exit->Act->World->Prop} (hQ:∀pl S a w,Inv C tm' me' pl S a w->Q .normal a w):
  ∀(fuel:Nat) (listed:Array Bool) (a:Act) (w:World) (pl:Nat->Plc) (S:Nat->Prop),listed.size=ops.size->KE ops (λj=>listed.getD j false)->
   (List.range ops.size).countP (λj=> !listed.getD j false)<=fuel->Inv C (tmD (λj=>listed.getD j false) 0 (ops.toList.zip cs) tm) (meD (λj=>listed.getD j false) 0 (ops.toList.zip cs) me) pl S a w->
   wpAnyIn (fen C.ro) 0 P .any ops Q fuel listed a w:=by
 have hlen:=hch.len;obtain ⟨hst,hT,hM⟩:=hch.states;have hbk:=(Ab _ _ ▸ hok:_/\_).1;intro fuel;have alldone:∀(listed:Array Bool) (a:Act) (w:World) (pl:Nat->Plc) (S:Nat->Prop),(∀j,j<ops.size->listed.getD j false=true)->Inv C (tmD (λj=>listed.getD j false) 0 (ops.toList.zip cs) tm) (meD (λj=>listed.getD j false) 0 (ops.toList.zip cs) me) pl S a w->Q .normal a w:=by
  intro listed a w pl S hall hI;have hlt:∀j p,(ops.toList.zip cs)[j]?=some p->j<ops.size:=λj p h=>by
   have:=(A0.1 h).1;simp at this; omega
  have e1:tmD (λj=>listed.getD j false) 0 (ops.toList.zip cs) tm=tm':=by
   rw [<-hT]; funext t;exact Gh rfl (λj p hj _=>by rw [Bf]; exact hall j (hlt j p hj))
  have e2:meD (λj=>listed.getD j false) 0 (ops.toList.zip cs) me=me':=by
   rw [<-hM]; funext t;exact Fo rfl (λj p hj _=>by rw [Bf]; exact hall j (hlt j p hj))
  rw [e1,e2] at hI;exact hQ pl S a w hI
 have noready:∀(listed:Array Bool),listed.size=ops.size->Region.ready .any ops listed=[]->∀j,j<ops.size->listed.getD j false=true:=by
  intro listed hsz hr j
  induction j using Nat.strongRecOn with
  | ind j ih=>
   intro hj;cases hd:listed.getD j false with
   | true=>rfl
   | false=>
    have:j∈Region.ready .any ops listed:=by
     rw [mem_ready];refine ⟨?_,ops[j],Cg hj,λe he hb=>?_⟩
     ·have hj':j<listed.size:=by omega
      rw [Ao,Cg hj'] at hd ⊢;simpa using hd
     ·have:=Oy ops.toList 0 hbk j ops[j] (by simp [hj]) e he hb
      rw [Bf] at this;exact ih e.on this (by omega)
    rw [hr] at this; cases this
 induction fuel with
 | zero=>
  intro listed a w pl S hsz hcl hcnt hI;have hall:∀j,j<ops.size->listed.getD j false=true:=by
   intro j hj;have h0:(List.range ops.size).countP (λj=> !listed.getD j false)=0:=by omega
   rw [List.countP_eq_zero] at h0;have:=h0 j (by simpa using hj);simpa using this
  refine ⟨?_,alldone listed a w pl S hall hI⟩;cases hr:Region.ready .any ops listed with
  | nil=>rfl
  | cons i l=>
   have hi:i∈Region.ready .any ops listed:=by rw [hr]; simp
   obtain ⟨h1,o,ho,_⟩:=mem_ready.1 hi;have hlt:=(Ap.1 ho).1;have h2:=hall i hlt;have hlt':i<listed.size:=by omega
   rw [Ao,Cg hlt'] at h1 h2;simp at h1 h2; rw [h1] at h2; cases h2
 | succ fuel ih=>
  intro listed a w pl S hsz hcl hcnt hI;refine ⟨λhr=>alldone listed a w pl S (noready listed hsz hr) hI,λi hi=>?_⟩;obtain ⟨hun,o,ho,hrd⟩:=mem_ready.1 hi;have hlt:=(Ap.1 ho).1;have hlt':i<listed.size:=by omega
  have hDi:listed.getD i false=false:=by
   rw [Ao,Cg hlt'] at hun ⊢;simpa using hun
  have hcl':i<cs.length:=by rw [hlen]; simpa using hlt
  obtain ⟨c,hc⟩:∃c,(ops.toList.zip cs)[i]?=some (o,c):=by
   refine ⟨cs[i],Ck.2 ⟨by simpa using ho,Bs hcl'⟩⟩
  obtain ⟨⟨hwa,hJ⟩,_⟩:=hst i (o,c) hc;simp only [Bf] at hJ;have hrdy:∀o',ops[i]?=some o'->∀e∈o'.after,Region.binds .any e=true->(λj=>listed.getD j false) e.on=true:=λo' ho' e he hb=>by
   rw [ho] at ho'; cases ho'; exact hrd e he hb
  have ahead:∀j p,(ops.toList.zip cs)[j]?=some p->j<i->listed.getD j false=true\/Hv ops p.1 (p.2.wr.map (·.1),p.2.acc,p.2.all) o (c.wr.map (·.1),c.acc,c.all)=true:=λj p hp hji=>by
   rcases IG hok hlen hp hc hji with h | h
   ·exact .inl (h.ready hcl hrdy)
   ·exact .inr h
  have behind:∀j p,(ops.toList.zip cs)[j]?=some p->i<j->listed.getD j false=true->Hv ops o (c.wr.map (·.1),c.acc,c.all) p.1 (p.2.wr.map (·.1),p.2.acc,p.2.all)=true:=λj p hp hij hDj=>by
   rcases IG hok hlen hc hp hij with h | h
   ·have:=h.closed hcl hDj
    rw [hDi] at this; cases this
   ·exact h
  refine hJ _ _ pl S a w hI (λt ht=>Gh rfl (λj p hj hd=>?_)) (λq hq=>Fo rfl (λj p hj hd=>?_)) (λhall=>funext λq=>Fo rfl (λj p hj hd=>?_)) Q _ (λpl' S' a' w' hI'=>?_)
  ·simp only [Bf]
   rcases Ci j i with h | h | h
   ·rcases ahead j p hj h with h1 | h1
    ·simp [h,h1]
    ·simp only [Hv,hd,Ab] at h1
     simp [ht] at h1
   ·subst h; simp [hDi]
   ·cases hDj:listed.getD j false with
    | false=>symm; simp; omega
    | true=>
     have h1:=behind j p hj h hDj;simp only [Hv,hd,Ab] at h1;simp [ht] at h1
  ·simp only [Bf]
   rcases Ci j i with h | h | h
   ·rcases ahead j p hj h with h1 | h1
    ·simp [h,h1]
    ·simp only [Hv,Ab] at h1
     have:=Lp (Gl hd) hq;simp [this] at h1
   ·subst h; simp [hDi]
   ·cases hDj:listed.getD j false with
    | false=>symm; simp; omega
    | true=>
     have h1:=behind j p hj h hDj;simp only [Hv,Ab] at h1;have:=Lp (Gl hd) hq;simp [this] at h1
  ·simp only [Bf]
   have hne:SD (p.2.wr.map (·.1))=false:=by
    have:=Gl hd;cases hw:p.2.wr.map (·.1) with
    | nil=>rw [hw] at this; cases this
    | cons _ _=>rfl
   rcases Ci j i with h | h | h
   ·rcases ahead j p hj h with h1 | h1
    ·simp [h,h1]
    ·simp [Hv,hne,hall] at h1
   ·subst h; simp [hDi]
   ·cases hDj:listed.getD j false with
    | false=>symm; simp; omega
    | true=>
     have h1:=behind j p hj h hDj;simp [Hv,hne,hall] at h1
  ·have hne:∀j,j≠i->(listed.setIfInBounds i true).getD j false=listed.getD j false:=λj hj=>getD_set_ne false (Ne.symm hj)
   have hii:(listed.setIfInBounds i true).getD i false=true:=by simp [hlt']
   have hmono:∀j,listed.getD j false=true->(listed.setIfInBounds i true).getD j false=true:=λj h=>getD_set_true h
   refine ih (listed.setIfInBounds i true) a' w' pl' S' (by simpa using hsz) (λj hj o' ho' e he hb=>?_) ?_ ?_
   ·by_cases hji:j=i
    ·subst hji
     exact hmono _ (hrdy o' ho' e he hb)
    ·simp only [hne j hji] at hj
     exact hmono _ (hcl j hj o' ho' e he hb)
   ·have:=UF (D:=λj=>listed.getD j false) (D':=λj=>(listed.setIfInBounds i true).getD j false) hmono hDi hii (List.range ops.size) (by simpa using hlt)
    omega
   ·have e1:tmD (λj=>(listed.setIfInBounds i true).getD j false) 0 (ops.toList.zip cs) tm=putO (tmD (λj=>listed.getD j false) 0 (ops.toList.zip cs) tm) o.dst c.sv:=by
     funext t
     by_cases hd:o.dst=some t
     ·rw [Qy hc hd (by rw [Bf]; exact hii) (λj p hj hij hDj he=>?_)]
      ·rw [hd]; simp [putO]
      ·rw [Bf,hne j (by omega)] at hDj
       have h1:=behind j p hj hij hDj;simp only [Hv,hd,he,Ab] at h1;simp at h1
     ·rw [Lo hd]
      refine Gh rfl (λj p hj hdj=>?_);rw [Bf];refine hne j (λe=>hd ?_);subst e;rw [hc] at hj; cases hj; exact hdj
    have e2:meD (λj=>(listed.setIfInBounds i true).getD j false) 0 (ops.toList.zip cs) me=laid c.wr (meD (λj=>listed.getD j false) 0 (ops.toList.zip cs) me):=by
     funext q
     cases hd:mget c.wr q with
     | some b=>
      rw [Vp hc hd (by rw [Bf]; exact hii) (λj p hj hij hDj=>?_)]
      ·unfold laid; rw [hd]
      ·rw [Bf,hne j (by omega)] at hDj
       have h1:=behind j p hj hij hDj;simp only [Hv,Ab] at h1;cases hm:mget p.2.wr q with
       | none=>rfl
       | some b'=>
        have:=Lp (Gl (by rw [hm]; simp):q∈_) (hwa q (by rw [hd]; simp));simp [this] at h1
     | none=>
      rw [H9 hd];refine Fo rfl (λj p hj hdj=>?_);rw [Bf];refine hne j (λe=>?_);subst e;rw [hc] at hj; cases hj; exact hdj hd
    rw [e1,e2];exact hI'
end
def XX.ex:XX->Exit
 | .normal=>.normal
 | .exit i=>.exit i
 | .ret=>.ret
def Dy:Code->List Code
 | .seq a b=>Dy a++Dy b
 | .cond _ a b=>Dy a++Dy b
 | .block _ c=>Dy c
 | .loop c=>[c]
 | _=>[]
def Leads (np:Nat) (nt:NT) (P:Program) (c:Code) (σ:St) (e:XX) (σ':St):Prop:=
 ∀C:Ctx,np=C.pp.length->nt=C.nt->(Dy c≠[]->∀sv v,C.gh sv v->C.nt.gs sv=true)->∀Q:Exit->Act->World->Prop,(∀pl S a w,Inv C (tget σ'.tm) (mget σ'.me) pl S a w->Q e.ex a w)->
  ∀pl S a w,Inv C (tget σ.tm) (mget σ.me) pl S a w->Code.wpr C.ro P c Q a w
section
variable {P:Program} {R:Type} {E:Env R}
def Ja (E:Env R) (P:Program) (c:Code):Prop:=∀σ K r,E.loop (H3 c) σ K=some r->∃e σ',K e σ'=some r/\Leads E.np E.nt P (.loop c) σ e σ'
theorem U3:∀(l:List (Oper×Cert)) (i:Nat) (tm:Nat->SV),tmD (λ_=>false) i l tm=tm
 | [],_,_=>rfl
 | _::l,i,tm=>by simp only [tmD]; exact U3 l _ _
theorem Qz:∀(l:List (Oper×Cert)) (i:Nat) (me:Nat->Option Blk),meD (λ_=>false) i l me=me
 | [],_,_=>rfl
 | _::l,i,me=>by simp only [meD]; exact Qz l _ _
theorem Ob (hE:D7 P E) {rid:Nat} {ops:Array Oper} {r:R}:
  ∀(rest:List Oper) (i:Nat) (σ:St) (K:St->Option R),(∀j,rest[j]?=ops[i+j]?)->xseq E rid ops rest i σ K=some r->
   ∃σ',K σ'=some r/\(∃n,σ'.me=n++σ.me)/\∀C:Ctx,E.np=C.pp.length->E.nt=C.nt->∀Q:Exit->Act->World->Prop,(∀pl S a w,Inv C (tget σ'.tm) (mget σ'.me) pl S a w->Q .normal a w)->
    ∀pl S a w,Inv C (tget σ.tm) (mget σ.me) pl S a w->wpOpsIn (fen C.ro) 0 P ops Q ((List.range rest.length).map (·+i)) a w
 | [],i,σ,K,_,h=>⟨σ,h,⟨[],rfl⟩,λC _ _ Q hQ pl S a w hI=>by simpa [wpOpsIn] using hQ pl S a w hI⟩
 | o::rest,i,σ,K,hr,h=>by
  have ho:ops[i]?=some o:=by simpa using (hr 0).symm
  have hr':∀j,rest[j]?=ops[i+1+j]?:=λj=>by have:=hr (j+1); simpa [Bn,Nat.add_comm 1 j] using this
  have e:(List.range rest.length).map ((λx=>x+i) ∘ Nat.succ)=(List.range rest.length).map (·+(i+1)):=by
   apply List.map_congr_left; intro x _; simp; omega
  simp only [xseq] at h;have step:∀(f:FuncId) (c:Call) (ex:List SV),o.guard=none->o.op=.call c->CalG σ.tm c f ex->
    (E.inl f (c.args.toList.map (opv σ.tm)++ex) σ.me σ.nx λrs me' nx'=>match Kk E.nt ⟨σ.tm,me',nx'⟩ o.dst (Mb rs) [] nx' with
     | some σ'=>xseq E rid ops rest (i+1) σ' K
     | none=>none)=some r->
    ∃σ',K σ'=some r/\(∃n,σ'.me=n++σ.me)/\∀C:Ctx,E.np=C.pp.length->E.nt=C.nt->∀Q:Exit->Act->World->Prop,(∀pl S a w,Inv C (tget σ'.tm) (mget σ'.me) pl S a w->Q .normal a w)->
     ∀pl S a w,Inv C (tget σ.tm) (mget σ.me) pl S a w->wpOpsIn (fen C.ro) 0 P ops Q ((List.range (o::rest).length).map (·+i)) a w:=by
   intro f c ex hg hop hcalG h;obtain ⟨rs,me',nx',hK,⟨nw,hnw⟩,hent,hcall⟩:=hE.inl _ _ _ _ _ _ h;split at hK<;>try (cases hK; done)
   rename_i σ1 hput;obtain ⟨p1,p2,p3⟩:=Gd hput;obtain ⟨σ',h1,⟨n2,hx⟩,h2⟩:=Ob hE rest (i+1) σ1 K hr' hK;refine ⟨σ',h1,⟨n2++nw,by rw [hx,Hm hput,hnw,Ah]; rfl⟩,λC hnp hnt Q hQ pl S a w hI=>?_⟩;rw [Af,List.range_succ_eq_map,Cc,wpOpsIn_cons,Bf,List.map_map];unfold wpOpIn;simp only [ho,Gy hg,Ca];have hR:=HR hop hcalG hent hcall hnp hI (λx hx=>Jq hI (λ_ _=>rfl));refine (hR.wp λv w' ⟨pl',S',g1,g3⟩=>?_);rw [e];refine h2 C hnp hnt Q hQ pl' S' _ w' ?_;rw [p2,p3,Dn];exact g1.putO (λd hd=>by rw [<-hnt]; exact p1 d hd) g3
  split at h
  ·rename_i f c ex hf
   obtain ⟨hg,hop,hcalG⟩:=Yj hf;exact step f c ex hg hop hcalG h
  ·split at h
   ·rename_i x c hv
    obtain ⟨hop,hcal⟩:=Yi hv;obtain ⟨f,ex,hf,h2⟩:=Lr h;exact step f c ex (LM hv) hop (hcal f ex hf) h2
   ·obtain ⟨cs,σ1,h1,h2,n1,hx1⟩:=Lf hE [o] i σ [] _ (λj x hx=>by
     cases j with
     | zero=>simp only [List.getElem?_cons_zero,Ad] at hx; subst hx; exact ho
     | succ j=>simp at hx) h
    obtain ⟨σ',h3,⟨n2,hx2⟩,h4⟩:=Ob hE rest (i+1) σ1 K hr' h1;refine ⟨σ',h3,⟨n2++n1,by rw [hx2,hx1,Ah]⟩,λC hnp hnt Q hQ pl S a w hI=>?_⟩;rw [Af,List.range_succ_eq_map,Cc,wpOpsIn_cons,Bf,List.map_map,e];have hch:=h2.at hnp hnt;generalize tget σ1.tm=tmx at*;generalize mget σ1.me=mex at*;cases hch with
    | cons ho2 hj hrest=>
     cases hrest with
     | nil=>
      rw [ho] at ho2;exact hj.2 (tget σ.tm) (mget σ.me) pl S a w hI (λ_ _=>rfl) (λ_ _=>rfl) (λ_=>rfl) Q _ (λpl' S' a' w' hI'=>h4 C hnp hnt Q hQ pl' S' a' w' hI')
theorem KG (hE:D7 P E) (hm:P.follows .mixedOrders=true) {rid:Nat} {ops:Array Oper} {draw:Bool} {σ:St} {K:St->Option R} {r:R} (h:xreg E rid ops draw σ K=some r):
  ∃σ',K σ'=some r/\(∃n,σ'.me=n++σ.me)/\Leads E.np E.nt P (.region rid ops draw) σ .normal σ':=by
 unfold xreg at h;cases draw with
 | false=>
  obtain ⟨σ',h1,hx,h2⟩:=Ob hE ops.toList 0 σ _ (λj=>by simp) h;refine ⟨σ',h1,hx,λC hnp hnt _ Q hQ pl S a w hI=>wpIn_region ?_⟩;have:=h2 C hnp hnt Q hQ pl S a w hI;simpa using this
 | true=>
  obtain ⟨cs,σ',h1,h2,hx⟩:=Lf hE ops.toList 0 σ [] _ (λj x hx=>by simpa using hx) h;split at h1<;>try (cases h1; done)
  rename_i hok;simp only [B0,List.reverse_reverse] at hok;refine ⟨σ',h1,hx,λC hnp hnt _ Q hQ pl S a w hI=>wpIn_region_any hm ?_⟩;have hf:(λj=>(Array.replicate ops.size false).getD j false)=λ_=>false:=by
   funext j
   rw [Ao,Array.getElem?_replicate];split<;>rfl
  refine zq5 (h2.at hnp hnt) hok hQ ops.size _ a _ pl S (by simp) ?_ ?_ ?_
  ·rw [hf]; intro j hj; cases hj
  ·exact Am List.countP_le_length (by simp)
  ·rw [hf,U3,Qz]
   exact Inv.drew hI
theorem Gg (hE:D7 P E) (hm:P.follows .mixedOrders=true):∀(c:Code),(∀l∈Dy c,Ja E P l)->∀(σ:St) (K:XX->St->Option R) (r:R),exec E c σ K=some r->
  ∃e σ',K e σ'=some r/\(Dy c=[]->∃n,σ'.me=n++σ.me)/\Leads E.np E.nt P c σ e σ':=by
 intro c
 induction c with
 | skip=>intro _ σ K r h; exact ⟨.normal,σ,h,λ_=>⟨[],rfl⟩,λC _ _ _ Q hQ pl S a w hI=>wpIn_skip (hQ pl S a w hI)⟩
 | region id ops d=>intro _ σ K r h; obtain ⟨σ',h1,hx,h2⟩:=KG hE hm h; exact ⟨.normal,σ',h1,λ_=>hx,h2⟩
 | seq a b iha ihb=>
  intro hl σ K r h;obtain ⟨e,σ1,h1,hx1,h2⟩:=iha (λl hl'=>hl l (by simp [Dy,hl'])) σ _ r h;cases e with
  | normal=>
   obtain ⟨e,σ2,h3,hx2,h4⟩:=ihb (λl hl'=>hl l (by simp [Dy,hl'])) σ1 K r h1;exact ⟨e,σ2,h3,λhl0=>(by obtain ⟨n1,q1⟩:=hx1 (Cn.1 hl0).1; obtain ⟨n2,q2⟩:=hx2 (Cn.1 hl0).2; exact ⟨n2++n1,by rw [q2,q1,Ah]⟩),λC hnp hnt hg Q hQ pl S a w hI=>wpIn_seq (h2 C hnp hnt (λhl=>hg (λh0=>hl (Cn.1 h0).1)) (Exit.then (Code.wpr C.ro P b Q) Q) (λpl S a w hI=>h4 C hnp hnt (λhl=>hg (λh0=>hl (Cn.1 h0).2)) Q hQ pl S a w hI) pl S a w hI)⟩
  | exit i=>exact ⟨.exit i,σ1,h1,λhl0=>hx1 (Cn.1 hl0).1,λC hnp hnt hg Q hQ pl S a w hI=>wpIn_seq (h2 C hnp hnt (λhl=>hg (λh0=>hl (Cn.1 h0).1)) (Exit.then (Code.wpr C.ro P b Q) Q) (λpl S a w hI=>hQ pl S a w hI) pl S a w hI)⟩
  | ret=>exact ⟨.ret,σ1,h1,λhl0=>hx1 (Cn.1 hl0).1,λC hnp hnt hg Q hQ pl S a w hI=>wpIn_seq (h2 C hnp hnt (λhl=>hg (λh0=>hl (Cn.1 h0).1)) (Exit.then (Code.wpr C.ro P b Q) Q) (λpl S a w hI=>hQ pl S a w hI) pl S a w hI)⟩
 | cond x t e iht ihe=>
  intro hl σ K r h;simp only [exec] at h;split at h<;>try (cases h; done)
  rename_i b hb;have hv:∀{C:Ctx} {pl:Nat->Plc} {S:Nat->Prop} {a:Act} {w:World},Inv C (tget σ.tm) (mget σ.me) pl S a w->a.eval x=.bool b:=by
   intro C pl S a w hI;have:=Jq (tm0:=σ.tm) hI (x:=x) (λ_ _=>rfl);rw [hb] at this;exact VRd.bool.1 this
  cases b with
  | true=>
   obtain ⟨e,σ1,h1,hx1,h2⟩:=iht (λl hl'=>hl l (by simp [Dy,hl'])) _ K r h;unfold Leads at h2 ⊢;rw [show tget (St.tm ⟨setT σ.tm x true,σ.me,σ.nx⟩)=tget σ.tm from Xl hb] at h2;exact ⟨e,σ1,h1,λhl0=>hx1 (Cn.1 hl0).1,λC hnp hnt hg Q hQ pl S a w hI=>wpIn_cond_true (hv hI) (h2 C hnp hnt (λhl=>hg (λh0=>hl (Cn.1 h0).1)) Q hQ pl S a w hI)⟩
  | false=>
   obtain ⟨e,σ1,h1,hx1,h2⟩:=ihe (λl hl'=>hl l (by simp [Dy,hl'])) _ K r h;unfold Leads at h2 ⊢;rw [show tget (St.tm ⟨setT σ.tm x false,σ.me,σ.nx⟩)=tget σ.tm from Xl hb] at h2;exact ⟨e,σ1,h1,λhl0=>hx1 (Cn.1 hl0).2,λC hnp hnt hg Q hQ pl S a w hI=>wpIn_cond_false (hv hI) (h2 C hnp hnt (λhl=>hg (λh0=>hl (Cn.1 h0).2)) Q hQ pl S a w hI)⟩
 | block id c ih=>
  intro hl σ K r h;obtain ⟨e,σ1,h1,hx1,h2⟩:=ih (λl hl'=>hl l (by simpa [Dy] using hl')) σ _ r h;cases e with
  | normal=>exact ⟨.normal,σ1,h1,hx1,λC hnp hnt hg Q hQ pl S a w hI=>wpIn_block (h2 C hnp hnt hg (Exit.inBlock id Q) (λpl S a w hI=>hQ pl S a w hI) pl S a w hI)⟩
  | ret=>exact ⟨.ret,σ1,h1,hx1,λC hnp hnt hg Q hQ pl S a w hI=>wpIn_block (h2 C hnp hnt hg (Exit.inBlock id Q) (λpl S a w hI=>hQ pl S a w hI) pl S a w hI)⟩
  | exit i=>
   simp only at h1;split at h1
   ·rename_i hb
    have:=Aa hb;subst this;exact ⟨.normal,σ1,h1,hx1,λC hnp hnt hg Q hQ pl S a w hI=>wpIn_block (h2 C hnp hnt hg (Exit.inBlock i Q) (λpl S a w hI=>by simp only [XX.ex,Exit.inBlock,Ca]; exact hQ pl S a w hI) pl S a w hI)⟩
   ·rename_i hb
    have hne:i≠id:=λe=>by subst e; rw [Nat.beq_refl] at hb; cases hb
    exact ⟨.exit i,σ1,h1,hx1,λC hnp hnt hg Q hQ pl S a w hI=>wpIn_block (h2 C hnp hnt hg (Exit.inBlock id Q) (λpl S a w hI=>by simp only [XX.ex,Exit.inBlock,Ak hne]; exact hQ pl S a w hI) pl S a w hI)⟩
 | loop c _=>
  intro hl σ K r h;obtain ⟨e,σ',h1,h2⟩:=hl c (by simp [Dy]) σ K r h;exact ⟨e,σ',h1,λhl0=>(by cases hl0),h2⟩
 | exit i=>intro _ σ K r h; exact ⟨.exit i,σ,h,λ_=>⟨[],rfl⟩,λC _ _ _ Q hQ pl S a w hI=>wpIn_exit (hQ pl S a w hI)⟩
 | ret=>intro _ σ K r h; exact ⟨.ret,σ,h,λ_=>⟨[],rfl⟩,λC _ _ _ Q hQ pl S a w hI=>wpIn_ret (hQ pl S a w hI)⟩
 | _=>intro _ σ K r h; simp [exec] at h
end
section
variable {C:Ctx} {P:Program} {R:Type} {E:Env R} {tm:Nat->SV} {pl:Nat->Plc} {a:Act} {w:World}
theorem Vy {l:List Nat} {x:Nat}:hasN l x=true↔x∈l:=by
 induction l with
 | nil=>simp [hasN]
 | cons y l ih=>
  simp only [hasN,Cd];cases h:Nat.beq y x with
  | true=>have:=Aa h; simp [this]
  | false=>
   have:x≠y:=λe=>by subst e; rw [Nat.beq_refl] at h; cases h
   simp only [ih]; simp [this]
theorem NK {np:Nat} {rd:Nat->Option Blk} {sv:SV} {k:Kd} {y:k.T} {wr:List (Nat×Blk)} {acc:List Nat} (h:Ix np rd sv k=some (y,wr,acc)) {j:Nat} (hj:j∉acc):mget wr j=none:=by
 have one:∀{i:Nat} {b:Blk},j∉[i]->mget [(i,b)] j=none:=by
  intro i b h;simp only [mget];cases hb:Nat.beq i j with
  | true=>have:=Aa hb; subst this; simp at h
  | false=>rfl
 cases sv<;>simp only [Ix] at h<;>try (cases h; done)
 case nil=>
  cases k<;>simp only [reduceCtorEq] at h
  simp only [Ad,Be] at h;obtain ⟨_,rfl,rfl⟩:=h;rfl
 case val=>
  split at h<;>try (cases h; done)
  simp only [Ad,Be] at h;obtain ⟨_,rfl,rfl⟩:=h;rfl
 case fn=>
  split at h<;>try (cases h; done)
  simp only [Ad,Be] at h;obtain ⟨_,rfl,rfl⟩:=h;rfl
 all_goals
  split at h<;>try (cases h; done)
  split at h<;>try (cases h; done)
  try (split at h<;>try (cases h; done))
  simp only [Ad,Be] at h;obtain ⟨_,rfl,rfl⟩:=h;exact one hj
theorem NJ {np:Nat} {rd:Nat->Option Blk} {sv:SV} {k:Kd} {y:k.T} {wr:List (Nat×Blk)} {acc:List Nat} (h:Ix np rd sv k=some (y,wr,acc)) {j:Nat} {b:Blk} (hj:mget wr j=some b):∃b0,rd j=some b0:=by
 have one:∀{i:Nat} {b1 b0:Blk},rd i=some b0->mget [(i,b1)] j=some b->∃b0,rd j=some b0:=by
  intro i b1 b0 h0 h;simp only [mget] at h;cases hb:Nat.beq i j with
  | true=>have:=Aa hb; subst this; exact ⟨_,h0⟩
  | false=>rw [hb] at h; cases h
 cases sv<;>simp only [Ix] at h<;>try (cases h; done)
 case nil=>
  cases k<;>simp only [reduceCtorEq] at h
  simp only [Ad,Be] at h;obtain ⟨_,rfl,rfl⟩:=h;cases hj
 case val=>
  split at h<;>try (cases h; done)
  simp only [Ad,Be] at h;obtain ⟨_,rfl,rfl⟩:=h;cases hj
 case fn=>
  split at h<;>try (cases h; done)
  simp only [Ad,Be] at h;obtain ⟨_,rfl,rfl⟩:=h;cases hj
 all_goals
  split at h<;>try (cases h; done)
  split at h<;>try (cases h; done)
  try (split at h<;>try (cases h; done))
  simp only [Ad,Be] at h;obtain ⟨_,rfl,rfl⟩:=h;rename_i hrd _ _ _ 
  first | exact one hrd hj | exact one (by assumption) hj
def ResV (P:Program) (w:World) (t:Array Value):List (ResultVar×TypeId×Bool)->List Value->Prop
 | [],vs=>vs=[]
 | (.tmp i,_)::l,vs=>∃vs',vs=t.getD i undef::vs'/\ResV P w t l vs'
 | (.cell a ty,_)::l,vs=>∃v vs',vs=v::vs'/\(do loadVar ty (<-asAddr (t.getD a undef)):Sem Value).run P w=.ok v w/\ResV P w t l vs'
theorem Nk {t:TypeId} {v u:Value} (h:(Instr.loadAt t v).run P w=.ok u w):(do loadVar t (<-asAddr v):Sem Value).run P w=.ok u w:=by
 unfold Instr.loadAt Instr.sureAddr at h;cases v<;>try (simp [As,Result.andThen] at h; done)
 rename_i x;cases x with
 | none=>simp [As,Result.andThen] at h
 | some a=>simpa [asAddr] using h
theorem QW {S:Nat->Prop} (hT:D3 P E.T) {np:Nat} {rd:Nat->Option Blk} {t:TypeId} {b i nx:Nat} {kp:Kd} {r:ARes} {j ver:Nat} {v:Value} (h:Uh E.T np rd t b i kp nx=some r) (hsv:r.sv=.own j ver)
  (hI:Inv C tm rd pl S a w) (hG:G S w rd pl (.mptr b i kp) v):∃u,(Instr.loadAt t v).run P w=.ok u w/\G S w rd pl (.own j ver) u:=by
 unfold Uh at h;split at h<;>try (cases h; done)
 rename_i kt fs cs hkt hm;obtain ⟨fs2,cs2,g,post,hm',hg,hfs,rfl⟩:=hG;split at h<;>try (cases h; done)
 ·split at h<;>try (cases h; done)
  simp only [Ad] at h;subst h;cases hsv
 ·rename_i hsame hS
  have e1:=D0 hsame;subst e1;rw [Nq hS] at hfs;have hfk:fs2[i]?=some kt:=by
   have:(fs2.drop i)[0]?=some kt:=by rw [hfs]; rfl
   rw [Ay] at this;simpa using this
  split at h<;>try (cases h; done)
  ·split at h<;>try (cases h; done)
   simp only [Ad] at h;subst h;cases hsv
  ·rename_i j' ver' hck
   split at h<;>try (cases h; done)
   rename_i e;simp only [Ad] at h;subst h;cases hsv;rw [hm] at hm';cases hm';obtain ⟨g',c,ty,hg',_,hc,_,_,hmix⟩:=hI.mem b _ hm;rw [hg] at hg';cases hg';obtain ⟨pre,seg,post,q1,q2,q3,_,q5,_⟩:=hmix.at hfk hck;obtain ⟨v,rfl,hv⟩:=q5.1 _ _ rfl;refine ⟨v,?_,hv⟩;simp only [Instr.loadAt,As,D5,Av];have hcell:w.cell? (⟨g,moff fs i,none⟩:Addr)=some v:=by
    rw [Aw w g _ c ty (0,0) hc];have:c.toList[moff fs i]?=some v:=by
     rw [q1,show moff fs i=pre.length from q2.symm];simp
    simpa using this
   unfold loadVar;simp only [As,Jm hT w hkt,Av];simp [Kd.agg,run_load,hcell]
  ·split at h<;>try (cases h; done)
   simp only [Ad] at h;subst h;cases hsv
theorem Gw (how:∀g,¬C.ow g) (hT:D3 P E.T) (hnp:E.np=C.pp.length) {tm0:List (Nat×SV)} (htm:tm=tget tm0):∀(res:List (ResultVar×TypeId×Bool)) (used:List Nat) (rd:Nat->Option Blk) (rs:List RV) (wr:List (Nat×Blk)) (me:Nat->Option Blk) (S:Nat->Prop),
  xres E rd tm0 used res=some (rs,wr)->me=rd->Inv C tm me pl S a w->
  ∃S' vs gs,Inv C tm (laid wr me) pl S' a w/\Keeps S w me pl S' w (laid wr me) pl/\(ResV P w a.tmps res vs/\ResG S' w C.w0.heap.size rs vs gs)/\gs.Nodup/\
   (∀j∈used,mget wr j=none)/\(∀g∈gs,∃j,j∉used/\(pl j).g=some g/\∃b,me j=some b)
 | [],used,rd,rs,wr,me,S,h,_,hI=>by
  simp only [xres,Ad,Be] at h;obtain ⟨rfl,rfl⟩:=h;exact ⟨S,[],[],by rw [Dn]; exact hI,by rw [Dn]; exact Keeps.refl,⟨rfl,rfl,rfl⟩,List.nodup_nil,λ_ _=>rfl,λg hg=>(by cases hg)⟩
 | (.cell t ty,ty',own)::l,used,rd,rs,wr,me,S,h,e,hI=>by
  subst e;have hG:=hI.tms t;rw [htm] at hG;cases own with
  | false=>
   simp only [xres] at h;split at h<;>try (cases h; done)
   rename_i r hld;split at h<;>try (cases h; done)
   rename_i k y rs' wr' hok hsv hrest;simp only [Ad,Be] at h;obtain ⟨rfl,rfl⟩:=h;obtain ⟨u,hu,_,hGu⟩:=Mq hT hld (λ_ _=>rfl) hI hG;obtain ⟨S',vs,gs,h1,h2,⟨h3a,h3⟩,h4,h5,h6⟩:=Gw how hT hnp htm l used me rs' wr' me S hrest rfl hI;rw [hsv] at hGu;exact ⟨S',u::vs,gs,h1,h2,⟨⟨u,vs,rfl,Nk hu,h3a⟩,⟨u,vs,rfl,VRd.mono h2.s hGu,h3⟩⟩,h4,h5,h6⟩
  | true=>
   simp only [xres] at h;split at h<;>try (cases h; done)
   rename_i b i k htj;split at h<;>try (cases h; done)
   rename_i r hld;split at h<;>try (cases h; done)
   rename_i j ver hsv;split at h<;>try (cases h; done)
   rename_i e xs ver' hu hrd;split at h<;>try (cases h; done)
   rename_i rs' wr' hv hrest;simp only [Ad,Be] at h;obtain ⟨rfl,rfl⟩:=h;rw [htj] at hG;obtain ⟨u,hu0,hGu⟩:=QW hT hld hsv hI hG;obtain ⟨S',vs,gs,h1,h2,⟨h3a,h3⟩,h4,h5,h6⟩:=Gw how hT hnp htm l (j::used) me rs' wr' me S hrest rfl hI;have hver:=Aa hv;subst hver;obtain ⟨e',l',ver2,sh,hm,_,hrow⟩:=hGu;rw [hrd] at hm;cases hm;have hrow:=hrow rfl;have hu':j∉used:=λhh=>by rw [Vy.2 hh] at hu; cases hu
   have hm':laid wr' me j=some (.row e xs ver false):=by rw [H9 (h5 j (by simp))]; exact hrd
   have hb:=h1.mem j _ hm';rcases hb with ⟨hg,hl,hcap⟩ | ⟨g,c,tt,hg,hoff,hc,hlc,hcm,hcs,hR,hsh⟩
   ·refine ⟨S',u::vs,gs,h1,h2,⟨⟨_,vs,rfl,Nk hu0,h3a⟩,⟨_,_,rfl,.inl ⟨?_,hl,h3⟩⟩⟩,h4,λi hi=>h5 i (by simp [hi]),λg' hg'=>?_⟩
    ·rcases hrow with ⟨_,h⟩ | ⟨g,hg2,_⟩
     ·exact h
     ·rw [hg] at hg2; cases hg2
    ·obtain ⟨j',h8,h9,h10⟩:=h6 g' hg'
     exact ⟨j',λhh=>h8 (by simp [hh]),h9,h10⟩
   ·refine ⟨S',u::vs,g::gs,h1,h2,⟨⟨_,vs,rfl,Nk hu0,h3a⟩,⟨_,_,rfl,.inr ⟨g,gs,(pl j).cap,c,tt,rfl,?_,?_,?_,hc,hlc,hcm,hcs,hR,h3⟩⟩⟩,?_,λi hi=>h5 i (by simp [hi]),λg' hg'=>?_⟩
    ·rcases hrow with ⟨hg2,_⟩ | ⟨g',hg2,h⟩
     ·rw [hg] at hg2; cases hg2
     ·rw [hg] at hg2; cases hg2; exact h
    ·rcases hI.plcs j _ hrd g hg with ⟨h,_⟩ | ⟨⟨_,_,_,h⟩,_⟩
     ·exact h.or.resolve_right (how g)
     ·cases h
    ·intro hh; have:=hsh.2 hh; cases this
    ·refine List.nodup_cons.2 ⟨λhgg=>?_,h4⟩
     obtain ⟨j',h8,h9,b',h10⟩:=h6 g hgg;have hne:j≠j':=λe=>h8 (by simp [e])
     exact hI.dis j j' _ b' g hne hrd h10 hg h9
    ·rcases Cd.1 hg' with rfl | hg'
     ·exact ⟨j,hu',hg,_,hrd⟩
     ·obtain ⟨j',h8,h9,h10⟩:=h6 g' hg'
      exact ⟨j',λhh=>h8 (by simp [hh]),h9,h10⟩
 | (.tmp t,ty,own)::l,used,rd,rs,wr,me,S,h,e,hI=>by
  subst e;have hG:=hI.tms t;rw [htm] at hG;cases own with
  | true=>
   simp only [xres] at h;split at h<;>try (cases h; done)
   rename_i j ver htj;split at h<;>try (cases h; done)
   rename_i e xs ver' hu hrd;split at h<;>try (cases h; done)
   rename_i rs' wr' hv hrest;simp only [Ad,Be] at h;obtain ⟨rfl,rfl⟩:=h;obtain ⟨S',vs,gs,h1,h2,⟨h3a,h3⟩,h4,h5,h6⟩:=Gw how hT hnp htm l (j::used) me rs' wr' me S hrest rfl hI;have hver:=Aa hv;subst hver;rw [htj] at hG;obtain ⟨e',l',ver2,sh,hm,_,hrow⟩:=hG;rw [hrd] at hm;cases hm;have hrow:=hrow rfl;have hu':j∉used:=λhh=>by rw [Vy.2 hh] at hu; cases hu
   have hm':laid wr' me j=some (.row e xs ver false):=by rw [H9 (h5 j (by simp))]; exact hrd
   have hb:=h1.mem j _ hm';rcases hb with ⟨hg,hl,hcap⟩ | ⟨g,c,tt,hg,hoff,hc,hlc,hcm,hcs,hR,hsh⟩
   ·refine ⟨S',_::vs,gs,h1,h2,⟨⟨vs,rfl,h3a⟩,⟨_,_,rfl,.inl ⟨?_,hl,h3⟩⟩⟩,h4,λi hi=>h5 i (by simp [hi]),λg' hg'=>?_⟩
    ·rcases hrow with ⟨_,h⟩ | ⟨g,hg2,_⟩
     ·exact h
     ·rw [hg] at hg2; cases hg2
    ·obtain ⟨j',h8,h9,h10⟩:=h6 g' hg'
     exact ⟨j',λhh=>h8 (by simp [hh]),h9,h10⟩
   ·refine ⟨S',_::vs,g::gs,h1,h2,⟨⟨vs,rfl,h3a⟩,⟨_,_,rfl,.inr ⟨g,gs,(pl j).cap,c,tt,rfl,?_,?_,?_,hc,hlc,hcm,hcs,hR,h3⟩⟩⟩,?_,λi hi=>h5 i (by simp [hi]),λg' hg'=>?_⟩
    ·rcases hrow with ⟨hg2,_⟩ | ⟨g',hg2,h⟩
     ·rw [hg] at hg2; cases hg2
     ·rw [hg] at hg2; cases hg2; exact h
    ·rcases hI.plcs j _ hrd g hg with ⟨h,_⟩ | ⟨⟨_,_,_,h⟩,_⟩
     ·exact h.or.resolve_right (how g)
     ·cases h
    ·intro hh; have:=hsh.2 hh; cases this
    ·refine List.nodup_cons.2 ⟨λhgg=>?_,h4⟩
     obtain ⟨j',h8,h9,b',h10⟩:=h6 g hgg;have hne:j≠j':=λe=>h8 (by simp [e])
     exact hI.dis j j' _ b' g hne hrd h10 hg h9
    ·rcases Cd.1 hg' with rfl | hg'
     ·exact ⟨j,hu',hg,_,hrd⟩
     ·obtain ⟨j',h8,h9,h10⟩:=h6 g' hg'
      exact ⟨j',λhh=>h8 (by simp [hh]),h9,h10⟩
  | false=>
   simp only [xres] at h;split at h<;>try (cases h; done)
   rename_i k hk;split at h<;>try (cases h; done)
   rename_i y wr1 acc hval;split at h<;>try (cases h; done)
   rename_i rs' wr' hany hrest;simp only [Ad,Be] at h;obtain ⟨rfl,rfl⟩:=h;obtain ⟨S1,g1,g2,g3⟩:=Ez hnp hval (λ_ _=>rfl) hI hG;obtain ⟨S',vs,gs,h1,h2,⟨h3a,h3⟩,h4,h5,h6⟩:=Gw how hT hnp htm l used (laid wr1 me) rs' wr' (laid wr1 me) S1 hrest rfl g1;rw [Em];have hfar:∀j∈used,mget wr1 j=none:=λj hj=>NK hval (λhh=>by
    have:acc.any (hasN used)=true:=List.any_eq_true.2 ⟨j,hh,Vy.2 hj⟩;rw [this] at hany; cases hany)
   refine ⟨S',_::vs,gs,h1,g2.trans h2,⟨⟨vs,rfl,h3a⟩,⟨_,_,rfl,VRd.mono h2.s g3,h3⟩⟩,h4,λj hj=>?_,λg hg=>?_⟩
   ·rw [Ft]
    unfold laid;rw [h5 j hj]; exact hfar j hj
   ·obtain ⟨j,h8,h9,b,h10⟩:=h6 g hg
    refine ⟨j,h8,h9,?_⟩;unfold laid at h10;cases hm:mget wr1 j with
    | none=>rw [hm] at h10; exact ⟨b,h10⟩
    | some b'=>
     obtain ⟨b0,hb0⟩:=NJ hval hm;exact ⟨b0,hb0⟩
theorem Vq {f:ResultVar->Sem Value} {tmps:Array Value} (hf:∀t,(f (.tmp t)).run P w=.ok (tmps.getD t undef) w) (hc:∀t ty v,(do loadVar ty (<-asAddr (tmps.getD t undef)):Sem Value).run P w=.ok v w->(f (.cell t ty)).run P w=.ok v w):
  ∀(l:List (ResultVar×TypeId×Bool)) (vs:List Value),ResV P w tmps l vs->((l.map (·.1)).mapM f).run P w=.ok vs w
 | [],vs,h=>by have h':vs=[]:=h; subst h'; simp
 | (.cell a ty,_)::l,vs,h=>by
  obtain ⟨v,vs',rfl,h1,h2⟩:=h;have ih:=Vq hf hc l vs' h2;rw [Cc,List.mapM_cons,As,hc a ty v h1];simp only [Result.andThen];rw [As,ih];rfl
 | (.tmp t,_)::l,vs,h=>by
  obtain ⟨vs',rfl,h2⟩:=h;have ih:=Vq hf hc l vs' h2;rw [Cc,List.mapM_cons,As,hf t];simp only [Result.andThen];rw [As,ih];rfl
theorem G6 {fn:Func} {res:List (ResultVar×TypeId×Bool)} (hres:fn.results.toList=res.map (·.1)) {tmps:Array Value} {vs:List Value} (h:ResV P w tmps res vs):
  (results fn tmps).run P w=.ok (Km vs) w:=by
 unfold results;rw [Array.mapM_eq_mapM_toList,hres,As,Sem.run_map,Vq (tmps:=tmps) (λt=>rfl) (λt ty v h=>h) res vs h];simp only [Result.andThen,A1]
 congr 1
 match vs with
 | []=>rfl
 | [v]=>rfl
 | _::_::_=>rfl
end
section
variable {C:Ctx} {P:Program} {R:Type} {E:Env R} {tm:Nat->SV} {me:Nat->Option Blk} {pl:Nat->Plc} {S:Nat->Prop} {a:Act} {w:World}
theorem Inv.know (h:Inv C tm me pl S a w) {t:Nat} {sv:SV} (hg:G S w me pl sv (a.tmps.getD t undef)):Inv C (upd tm t sv) me pl S a w:=by
 refine ⟨h.nt,h.df,λt'=>?_,h.mem,h.plcs,h.dis,h.s0,h.sfr,h.fr,h.pd,h.gho⟩
 by_cases e:t'=t
 ·subst e; simpa using hg
 ·rw [Dm _ _ e]; exact h.tms t'
theorem Inv.newVar (h:Inv C tm me pl S a w) {i:Nat} {k:Kd} {x:k.T} (hi:me i=none) (hb:BlkAt S w (upd me i (some (.var k x false))) pl (.var k x false) (pl i)) (hp:zgl C i (.var k x false) (pl i))
  (hd:∀j bj g,j≠i->me j=some bj->(pl i).g=some g->(pl j).g≠some g):Inv C tm (upd me i (some (.var k x false))) pl S a w:=by
 have hne:∀j b',me j=some b'->j≠i:=λj b' hj e=>by subst e; rw [hi] at hj; cases hj
 have hK:Keeps S w me pl S w (upd me i (some (.var k x false))) pl:=
  ⟨λ_ hb=>⟨hb,rfl⟩,λj b' hj=>⟨b',by rw [Dm _ _ (hne j b' hj)]; exact hj,Compat.refl _ _⟩⟩
 refine ⟨h.nt,h.df,λt'=>(h.tms t').keeps hK,λj b' hj=>?_,λj b' hj=>?_,λj1 j2 b1 b2 g hne' hj1 hj2 hg=>?_,h.s0,h.sfr,h.fr,h.pd,λsv v hg=>(h.gho sv v hg).keeps hK⟩
 ·by_cases e:j=i
  ·subst e; simp only [Dr,Ad] at hj; subst hj; exact hb
  ·rw [Dm _ _ e] at hj; exact (h.mem j b' hj).keeps hK (λ_ _=>rfl) (λ_ _ _=>Iff.rfl)
 ·by_cases e:j=i
  ·subst e; simp only [Dr,Ad] at hj; subst hj; exact hp
  ·rw [Dm _ _ e] at hj; exact h.plcs j b' hj
 ·by_cases e1:j1=i
  ·subst e1
   have e2:j2≠j1:=λe=>hne' e.symm
   rw [Dm _ _ e2] at hj2;exact hd j2 b2 g e2 hj2 hg
  ·rw [Dm _ _ e1] at hj1
   by_cases e2:j2=i
   ·subst e2
    intro hh;exact hd j1 b1 g e1 hj1 hh hg
   ·rw [Dm _ _ e2] at hj2
    exact h.dis j1 j2 b1 b2 g hne' hj1 hj2 hg
theorem D9 (i:Nat) (b:Blk) (l:List (Nat×Blk)):mget ((i,b)::l)=upd (mget l) i (some b):=by
 funext j
 simp only [mget];cases h:Nat.beq i j with
 | true=>have:=Aa h; subst this; simp
 | false=>rw [Dm _ _ (λe=>by subst e; rw [Nat.beq_refl] at h; cases h)]
theorem Xj (how:∀g,¬C.ow g) (hnd:(C.pp.map (·.1)).Nodup) (hpl:∀i g off sz,C.pp[i]?=some (g,off,sz)->(pl i).g=some g/\(pl i).off=off) {tm:Nat->SV} {me:Nat->Option Blk} {b g off:Nat} {k:Kd} {x:k.T} {c:Array Value} {tt:TypeId} (hb:C.pp[b]?=some (g,off,k.size))
  (hnS:¬S g) (hc:w.heap[g]?=some (.cells c tt (0,0))) (hsz:off+k.size<=c.size) (hr:Rd S w k x ((c.toList.drop off).take k.size)) (hme:me b=none) (hI:Inv C tm me pl S a w):
  Inv C tm (upd me b (some (.var k x false))) pl S a w:=by
 obtain ⟨hg,ho⟩:=hpl b g off k.size hb;refine hI.newVar hme ⟨g,c,tt,hg,hc,by rw [ho]; exact hsz,by rw [ho]; exact hr,by simp [hnS]⟩ (λg' hg'=>?_) (λj bj g' hne hj hg' hh=>?_)
 ·rw [hg] at hg'; cases hg'
  exact .inr ⟨⟨_,_,_,rfl⟩,by rw [ho]; exact hb⟩
 ·rw [hg] at hg'; cases hg'
  rcases hI.plcs j bj hj g hh with ⟨h5,_⟩ | ⟨_,h4⟩
  ·have:=(A0.1 hb).1
   have:=hI.fr.part (g,off,k.size) (Ar hb) (how _);obtain ⟨c0,_,_,e1,_⟩:=this;have:=(Ap.1 e1).1;exact h5.pp (e:=(g,off,k.size)) (how _) this rfl
  ·have e1:(C.pp.map (·.1))[j]?=some g:=by rw [Cl,h4]; rfl
   have e2:(C.pp.map (·.1))[b]?=some g:=by rw [Cl,hb]; rfl
   exact hne ((List.getElem?_inj (by have:=(A0.1 e1).1; exact this) hnd).1 (e1.trans e2.symm))
theorem Gz (how:∀g,¬C.ow g) (hnd:(C.pp.map (·.1)).Nodup) (hpl:∀i g off sz,C.pp[i]?=some (g,off,sz)->(pl i).g=some g/\(pl i).off=off):
  ∀(as:List AV) (t b:Nat) (tm0:List (Nat×SV)) (me0:List (Nat×Blk)) (vs:List Value) (pp':List (Nat×Nat×Nat)),ArgsG S w as pp' vs->(∀i,C.pp[b+i]?=pp'[i]?)->
   (∀i v,vs[i]?=some v->a.tmps.getD (t+i) undef=v)->(∀i,b<=i->mget me0 i=none)->Inv C (tget tm0) (mget me0) pl S a w->
   Inv C (tget (Qp as t b tm0 me0).1) (mget (Qp as t b tm0 me0).2) pl S a w
 | [],t,b,tm0,me0,vs,pp',_,_,_,_,hI=>hI
 | .val k x::as,t,b,tm0,me0,vs,pp',h,hpp,hv,hme,hI=>by
  obtain ⟨v,vs',rfl,h1,h2⟩:=h;simp only [Qp];refine Gz how hnd hpl as (t+1) b _ me0 vs' pp' h2 hpp (λi v' hi=>by have:=hv (i+1) v' (by simpa using hi); rwa [show t+(i+1)=t+1+i by omega] at this) hme ?_;rw [E5];exact hI.know (by have:=hv 0 v rfl; rw [Ax] at this; rw [this]; exact h1)
 | .fn f::as,t,b,tm0,me0,vs,pp',h,hpp,hv,hme,hI=>by
  obtain ⟨vs',rfl,h2⟩:=h;simp only [Qp];refine Gz how hnd hpl as (t+1) b _ me0 vs' pp' h2 hpp (λi v' hi=>by have:=hv (i+1) v' (by simpa using hi); rwa [show t+(i+1)=t+1+i by omega] at this) hme ?_;rw [E5];exact hI.know (by have:=hv 0 _ rfl; rw [Ax] at this; rw [this]; exact rfl)
 | .clo f k x::as,t,b,tm0,me0,vs,pp',h,hpp,hv,hme,hI=>by
  obtain ⟨v,vs',g,off,pp'',rfl,rfl,rfl,hnS,⟨c,tt,hc,hsz,hr⟩,h2⟩:=h;have hb:C.pp[b]?=some (g,off,k.size):=by have:=hpp 0; simpa using this
  obtain ⟨hg,ho⟩:=hpl b g off k.size hb;simp only [Qp];refine Gz how hnd hpl as (t+1) (b+1) _ _ vs' pp'' h2 (λi=>by have:=hpp (i+1); simpa [Bn,Nat.add_comm 1 i] using this) (λi v' hi=>by have:=hv (i+1) v' (by simpa using hi); rwa [show t+(i+1)=t+1+i by omega] at this) (λi hi=>?_) ?_
  ·rw [D9,Dm _ _ (by omega)]; exact hme i (by omega)
  ·rw [E5,D9]
   have h3:=Xj (k:=k) (x:=x) how hnd hpl hb hnS hc hsz hr (hme b (Al _)) hI;refine h3.know ?_;have:=hv 0 _ rfl;rw [Ax] at this;rw [this];exact ⟨_,rfl,x,false,g,[],by rw [ho],by simp,hg,rfl⟩
 | .ptr k x::as,t,b,tm0,me0,vs,pp',h,hpp,hv,hme,hI=>by
  obtain ⟨v,vs',g,off,pp'',rfl,rfl,rfl,hnS,⟨c,tt,hc,hsz,hr⟩,h2⟩:=h;have hb:C.pp[b]?=some (g,off,k.size):=by have:=hpp 0; simpa using this
  obtain ⟨hg,ho⟩:=hpl b g off k.size hb;simp only [Qp];refine Gz how hnd hpl as (t+1) (b+1) _ _ vs' pp'' h2 (λi=>by have:=hpp (i+1); simpa [Bn,Nat.add_comm 1 i] using this) (λi v' hi=>by have:=hv (i+1) v' (by simpa using hi); rwa [show t+(i+1)=t+1+i by omega] at this) (λi hi=>?_) ?_
  ·rw [D9,Dm _ _ (by omega)]; exact hme i (by omega)
  ·rw [E5,D9]
   have h3:=Xj (k:=k) (x:=x) how hnd hpl hb hnS hc hsz hr (hme b (Al _)) hI;refine h3.know ?_;have:=hv 0 _ rfl;rw [Ax] at this;rw [this];exact ⟨k,x,false,0,g,by simp,trivial,rfl,hg,by rw [ho,Ax]⟩
theorem Jv (how:∀g,¬C.ow g) (hI:Inv C tm me pl S a w):∀(n i:Nat) (outs:List TV),Tl me i n=some outs->C.pp.length=i+n->zfd S w (C.pp.drop i) outs
 | 0,i,outs,h,hl=>by
  simp only [Tl,Ad] at h;subst h;rw [Bg (by omega)];rfl
 | n+1,i,outs,h,hl=>by
  simp only [Tl] at h;split at h<;>try (cases h; done)
  rename_i k x hm;split at h<;>try (cases h; done)
  rename_i l hrest;simp only [Ad] at h;subst h;obtain ⟨g,c,t,hg,hc,hsz,hr,_⟩:=hI.mem i _ hm;rcases hI.plcs i _ hm g hg with ⟨h1,_⟩ | ⟨_,h1⟩
  ·rcases h1 with ⟨h1,_⟩ | ⟨h1,_⟩
   ·omega
   ·exact absurd h1 (how _)
  ·have hlt:i<C.pp.length:=by omega
   rw [Co hlt];rw [Bs hlt] at h1;simp only [Ad] at h1;rw [h1];exact ⟨k,x,l,rfl,rfl,⟨c,t,hc,hr⟩,Jv how hI n (i+1) l hrest (by omega)⟩
def nptr:List AV->Nat
 | []=>0
 | .val _ _::l=>nptr l
 | .ptr _ _::l=>nptr l+1
 | .fn _::l=>nptr l
 | .clo _ _ _::l=>nptr l+1
theorem ArgsG.lens {S:Nat->Prop} {w:World}:∀{as:List AV} {pp:List (Nat×Nat×Nat)} {vs:List Value},ArgsG S w as pp vs->vs.length=as.length/\pp.length=nptr as/\∀e∈pp,∃c t,w.heap[e.1]?=some (.cells c t (0,0))
 | [],pp,vs,h=>by obtain ⟨rfl,rfl⟩:=h; exact ⟨rfl,rfl,λe he=>by cases he⟩
 | .val k x::as,pp,vs,h=>by
  obtain ⟨v,vs',rfl,_,h2⟩:=h;obtain ⟨h3,h4,h5⟩:=h2.lens;exact ⟨by simp [h3],h4,h5⟩
 | .fn f::as,pp,vs,h=>by
  obtain ⟨vs',rfl,h2⟩:=h;obtain ⟨h3,h4,h5⟩:=h2.lens;exact ⟨by simp [h3],h4,h5⟩
 | .clo f k x::as,pp,vs,h=>by
  obtain ⟨v,vs',g,off,pp',rfl,rfl,_,_,⟨c,t,hc,_⟩,h2⟩:=h;obtain ⟨h3,h4,h5⟩:=h2.lens;refine ⟨by simp [h3],by simp [h4,nptr],λe he=>?_⟩;rcases Cd.1 he with rfl | he
  ·exact ⟨c,t,hc⟩
  ·exact h5 e he
 | .ptr k x::as,pp,vs,h=>by
  obtain ⟨v,vs',g,off,pp',rfl,rfl,_,_,⟨c,t,hc,_⟩,h2⟩:=h;obtain ⟨h3,h4,h5⟩:=h2.lens;refine ⟨by simp [h3],by simp [h4,nptr],λe he=>?_⟩;rcases Cd.1 he with rfl | he
  ·exact ⟨c,t,hc⟩
  ·exact h5 e he
theorem Oc (hE:D7 P E) (hm:P.follows .mixedOrders=true) {f:FuncId} {fn:Func} {body:Code} (hf:P.funcs[f]?=some fn) (hb:fn.body=some body) (hent:∀args w,(callFunc f args).run P w=.ok (.enter f args) w)
  (hnt:fn.ntmps=E.nt) {res:List (ResultVar×TypeId×Bool)} (hres:fn.results.toList=res.map (·.1)) {as:List AV} (hnp:E.np=nptr as) (hle:as.length<=E.nt.n) (hl:∀l∈Dy body,Ja E P l)
  {K:List RV->List TV->Option R} {r:R} (h:xfun E body res as K=some r):∃rs outs,Holds P f as rs outs/\K rs outs=some r:=by
 unfold xfun at h;split at h;rename_i tm0 me0 hst;obtain ⟨e,σ,h1,_,h2⟩:=Gg hE hm body hl _ _ _ h;have h1':e≠.exit 0/\(e=.normal\/e=.ret)/\∃rs wr outs,xres E (mget σ.me) σ.tm [] res=some (rs,wr)/\Tl (laid wr (mget σ.me)) 0 E.np=some outs/\K rs outs=some r:=by
  cases e with
  | exit i=>simp at h1
  | normal=>
   simp only at h1;split at h1<;>try (cases h1; done)
   rename_i rs wr hx;split at h1<;>try (cases h1; done)
   rename_i outs ho;exact ⟨by simp,.inl rfl,rs,wr,outs,hx,ho,h1⟩
  | ret=>
   simp only at h1;split at h1<;>try (cases h1; done)
   rename_i rs wr hx;split at h1<;>try (cases h1; done)
   rename_i outs ho;exact ⟨by simp,.inr rfl,rs,wr,outs,hx,ho,h1⟩
 obtain ⟨_,he,rs,wr,outs,hx,ho,hK⟩:=h1';refine ⟨rs,outs,.inl ⟨hent,λw S pp vs hS hnd hA=>?_⟩,hK⟩;obtain ⟨hvl,hpl,hcell⟩:=hA.lens;refine calls_of_wp hf hb ((wpIn_wide (n:=0)).1 ?_)
 let C:Ctx:=⟨w,S,E.nt,pp,λ_ _=>False,λ_=>False,none,[],undef⟩
 let pl:Nat->Plc:=λi=>match pp[i]? with | some (g,off,_)=>⟨some g,off,0⟩ | none=>⟨none,0,0⟩
 refine h2 C (hnp.trans hpl.symm) rfl (λ_ _ _ h=>h.elim) (bodyPost P fn _) (λpl' S' a' w' hI'=>?_) pl S _ w ?_
 ·obtain ⟨S2,vs2,gs,g1,g2,⟨g3a,g3⟩,g4,_,_⟩:=Gw (C:=C) (λ_ h=>h) hE.tab (hnp.trans hpl.symm) rfl res [] (mget σ.me) rs wr (mget σ.me) S' hx rfl hI'
  have hrun:=G6 hres g3a;have hpost:Post S w pp rs outs (Km vs2) w':=by
   refine ⟨S2,_,gs,rfl,g1.s0,λb hb=>⟨(g1.sfr b hb).1,(g1.sfr b hb).2.imp id (λh=>h.resolve_right id)⟩,g1.fr,g3,g4,?_⟩;have:=Jv (C:=C) (λ_ h=>h) g1 E.np 0 outs ho (by rw [Bf]; exact (hnp.trans hpl.symm).symm);simpa using this
  rcases he with rfl | rfl
  ·exact ⟨hI'.df,_,hrun,hpost⟩
  ·exact ⟨hI'.df,_,hrun,hpost⟩
 ·have hpl':∀i g off sz,C.pp[i]?=some (g,off,sz)->(pl i).g=some g/\(pl i).off=off:=by
   intro i g off sz hi;have hi':pp[i]?=some (g,off,sz):=hi;simp only [pl,hi'];exact ⟨trivial,trivial⟩
  have h0:Inv C (tget []) (mget []) pl S ⟨vs.toArray++Array.replicate (fn.ntmps - vs.toArray.size) undef,[]⟩ w:=by
   refine ⟨?_,rfl,λt=>trivial,λi b hi=>(by cases hi),λi b hi=>(by cases hi),λi j bi bj g _ hi=>(by cases hi),λ_ h=>h,λb hb=>⟨hS.1 b hb,.inl hb⟩,⟨rfl,rfl,rfl,Al _,λ_ _ _ _=>rfl,λe he _=>?_⟩,⟨λe he e' he' hee=>?_,hS.2,λg hg=>⟨λe he heq=>hA.off e he (heq ▸ (hS.2 g hg).1),λh=>h⟩⟩,λ_ _ h=>h.elim⟩
   ·refine ⟨?_,λd hd=>?_⟩
    ·have hnn:E.nt.n=fn.ntmps:=by rw [<-hnt]
     have:vs.length<=fn.ntmps:=by omega
     simp only [B5,Cp,Bi,C];omega
    ·have hd':E.nt.rd=some d:=hd
     rw [<-hnt] at hd'; cases hd'
   ·obtain ⟨c,t,hc⟩:=hcell e he
    exact ⟨c,c,t,hc,hc,rfl,rfl,rfl⟩
   ·obtain ⟨i,hi,rfl⟩:=Cq he
    obtain ⟨j,hj,rfl⟩:=Cq he';have hi':i<pp.length:=hi;have hj':j<pp.length:=hj;have:i=j:=(List.getElem_inj (h₀:=by simpa using hi') (h₁:=by simpa using hj') hnd).1 (by simpa using hee);subst this; rfl
  have:=Gz (C:=C) (a:=⟨vs.toArray++Array.replicate (fn.ntmps - vs.toArray.size) undef,[]⟩) (λ_ h=>h) hnd hpl' as 0 0 [] [] vs pp hA (λi=>by rw [Bf]) (λi v hi=>?_) (λi _=>rfl) h0
  ·rw [hst] at this; exact this
  ·have hlt:=(A0.1 hi).1
   rw [Bf,Ao,Cr (by simpa using hlt)];simp [hi]
theorem enters {f:FuncId} {fn:Func} (hf:P.funcs[f]?=some fn) (hn:(fn.name== "runtime.NumGoroutine")=false) (hb:fn.body.isNone=false):∀args w,(callFunc f args).run P w=.ok (.enter f args) w:=by
 intro args w;have hn':fn.name≠ "runtime.NumGoroutine":=by simpa using hn
 have hb':fn.body≠none:=λh=>by simp [h] at hb
 simp [callFunc,hf,hn',hb']
end
end Go.PG
end
