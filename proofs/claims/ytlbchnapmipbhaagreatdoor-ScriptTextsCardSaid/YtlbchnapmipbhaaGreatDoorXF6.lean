/- A part of the proof; no condition of its own. -/
import Derived.Test.YtlbchnapmipbhaaGreatDoorXF5
import Derived.Test.YtlbchnapmipbhaaGreatDoorProg
import Derived.KernelRfl
set_option linter.unusedVariables false
set_option linter.unusedSimpArgs false
set_option linter.unusedSectionVars false
open Go.IntKind (i64 u64 u8 u32 u16)
open List (replicate)
theorem Cy:type_of% @_root_.BitVec.ofInt_natCast:=@_root_.BitVec.ofInt_natCast
theorem Cz:type_of% @_root_.Int.fdiv_eq_ediv_of_nonneg:=@_root_.Int.fdiv_eq_ediv_of_nonneg
theorem C0:type_of% @_root_.BitVec.toNat_ofNat:=@_root_.BitVec.toNat_ofNat
theorem C1:type_of% @_root_.decide_eq_true:=@_root_.decide_eq_true
theorem C2:type_of% @_root_.Int.tmod_eq_emod_of_nonneg:=@_root_.Int.tmod_eq_emod_of_nonneg
theorem C3:type_of% @_root_.Int.tdiv_eq_ediv_of_nonneg:=@_root_.Int.tdiv_eq_ediv_of_nonneg
theorem C4:type_of% @_root_.beq_eq_false_iff_ne:=@_root_.beq_eq_false_iff_ne
theorem C5:type_of% @_root_.decide_eq_false:=@_root_.decide_eq_false
theorem C6:type_of% @_root_.List.length_map:=@_root_.List.length_map
theorem C7:type_of% @_root_.Bool.true_and:=@_root_.Bool.true_and
theorem C8:type_of% @_root_.List.not_mem_nil:=@_root_.List.not_mem_nil
theorem C9:type_of% @_root_.List.set_append_right:=@_root_.List.set_append_right
theorem Da:type_of% @_root_.Nat.sub_self:=@_root_.Nat.sub_self
theorem Db:type_of% @_root_.Bool.not_true:=@_root_.Bool.not_true
theorem Dc:type_of% @_root_.List.length_set:=@_root_.List.length_set
theorem Dd:type_of% @_root_.Bool.false_and:=@_root_.Bool.false_and
theorem De:type_of% @_root_.Bool.not_false:=@_root_.Bool.not_false
theorem Df:type_of% @_root_.decide_eq_true_eq:=@_root_.decide_eq_true_eq
theorem Dg:type_of% @_root_.Bool.true_eq_false:=@_root_.Bool.true_eq_false
theorem Dh:type_of% @_root_.List.filter_append:=@_root_.List.filter_append
noncomputable section
set_option maxRecDepth 100000
namespace Go.PG
open Go.Proofs
abbrev WG:=(R:Type)->(LI×Unit)->Int->(Int->Int->Option R)->Option R
def zlv (F:WG):Ent:=eV 309 [(.pair (.sl (.int .u64)) .unit),(.int .u64)] [(.int .i64),(.int .i64)] F
abbrev ZI (Z:Type):=Int->Int->Int->(LI×Unit)->Z
abbrev zhb (R:Type):=(Int->Int->Int->(LI×Unit)->Option R)->Option R
abbrev Mt:=(R:Type)->ZI (zhb R)
def BX (L:Mt):LEnt:=lM 4 [.val 1 (.int .u64),.fix 2 (.ptr 0 [] (.pair (.sl (.int .u64)) .unit)),.val 6 (.int .i64),.val 7 (.int .i64),.var 0 (.pair (.sl (.int .u64)) .unit) false] 1 [(.exit 0,[.val 1 (.int .u64),.fix 2 (.ptr 0 [] (.pair (.sl (.int .u64)) .unit)),.val 6 (.int .i64),.val 7 (.int .i64),.var 0 (.pair (.sl (.int .u64)) .unit) false])] L
abbrev ZH (Z:Type):=Int->Int->Int->(LI×Unit)->Z
abbrev zha (R:Type):=(Int->Option R)->Option R
abbrev Ms:=(R:Type)->ZH (zha R)
def BW (L:Ms):LEnt:=lM 6 [.val 1 (.int .u64),.fix 2 (.ptr 0 [] (.pair (.sl (.int .u64)) .unit)),.val 6 (.int .i64),.val 7 (.int .i64),.var 0 (.pair (.sl (.int .u64)) .unit) false] 1 [(.exit 2,[.val 6 (.int .i64)])] L
def e309 (F308:N5) (F325:Pz) (L4:Mt) (L6:Ms):=sE 0 51 [] [TI F308,TH F325] [BX L4,BW L6]
def PB (F325:Pz) (R:Type):ZI (ZI (Option R)->zhb R):=λx1 x2 x3 x4 kc k0=>
F325 R x4 λy6=>
(match decide ((ishl .i64 x3 (1:Int))<=y6) with
|true=>kc x1 x2 (ishl .i64 x3 (1:Int)) x4
|false=>k0 x1 x2 x3 x4)
theorem zrk (F308:N5) (F325:Pz) (L4:Mt) (L6:Ms):LEQ (BX L4) (e309 F308 F325 L4 L6) Tryz.f309 (PB F325):=λ_ _ _ _=>by kernel_rfl
def Qh:Nat->Mt
 | 0=>λ_ _ _ _ _ _=>none
 | n+1=>λR x1 x2 x3 x4 k0=>PB F325 R x1 x2 x3 x4 (λx1 x2 x3 x4=>Qh n R x1 x2 x3 x4 k0) k0
def HY (F325:Pz) (R:Type):ZH (ZH (Option R)->zha R):=λx1 x2 x3 x4 kc k0=>
(match decide (x3>0) with
|true=>let v6:=i64.wrap (x2+x3);F325 R x4 λy7=>
(match decide (v6<=y7) with
|true=>let v9:=i64.wrap (v6 - 1);(match bnd v9 x4.1.length with
|true=>(match decide ((x4.1.getD v9.toNat 0)<=x1) with
|true=>let v12:=i64.wrap (v6 - 1);(match bnd v12 x4.1.length with
|true=>kc (u64.wrap (x1 - (x4.1.getD v12.toNat 0))) v6 (ishr .i64 x3 (1:Int)) x4
|false=>none)
|false=>kc x1 x2 (ishr .i64 x3 (1:Int)) x4)
|false=>none)
|false=>kc x1 x2 (ishr .i64 x3 (1:Int)) x4)
|false=>k0 x2)
theorem zrj (F308:N5) (F325:Pz) (L4:Mt) (L6:Ms):LEQ (BW L6) (e309 F308 F325 L4 L6) Tryz.f309 (HY F325):=λ_ _ _ _=>by kernel_rfl
def Lc:Nat->Ms
 | 0=>λ_ _ _ _ _ _=>none
 | n+1=>λR x1 x2 x3 x4 k0=>HY F325 R x1 x2 x3 x4 (λx1 x2 x3 x4=>Lc n R x1 x2 x3 x4 k0) k0
def p309 (F308:N5) (L4:Mt) (L6:Ms):WG:=λR a0 a1 k=>
F308 R a0 λy1=>
(match decide (a1>=y1) with
|true=>k (0:Int) (3:Int)
|false=>L4 R a1 (0:Int) (1:Int) a0 (λx3 x4 x5 x6=>
L6 R x3 x4 x5 x6 (λx7=>
k x7 (0:Int))))
theorem q309 (F308:N5) (F325:Pz) (L4:Mt) (L6:Ms):EQ (zlv (p309 F308 L4 L6)) (e309 F308 F325 L4 L6) Tryz.f309 [(.tmp 4,3,false),(.tmp 5,40,false)]:=λ_ _ _=>by kernel_rfl
def F309:WG:=p309 F308 (Qh FUEL) (Lc FUEL)
theorem zck:LKP (BX (Qh FUEL)) 0 51 4 Tryz.f309:=ST.lok (zrk F308 F325 (Qh FUEL) (Lc FUEL)) (Dk KV (Dk QH Dl)) [] trivial
theorem zcj:LKP (BW (Lc FUEL)) 0 51 6 Tryz.f309:=ST.lok (zrj F308 F325 (Qh FUEL) (Lc FUEL)) (Dk KV (Dk QH Dl)) [] trivial
theorem zyd:OKP (zlv F309):=ST.ok1 (q309 F308 F325 (Qh FUEL) (Lc FUEL)) (Dk KV (Dk QH Dl)) Tryz.func309 [4,6] ⟨⟨_,rfl,zck⟩,⟨⟨_,rfl,zcj⟩,trivial⟩⟩
abbrev Wn:=(R:Type)->(LI×Unit)->Tq40->Int->(Int->Tq40->Int->Option R)->Option R
def zeh (F:Wn):Ent:=eV 291 [(.pair (.sl (.int .u64)) .unit),Kq40,(.int .i64)] [(.int .i64),Kq40,(.int .i64)] F
def p291 (F296:FL) (F308:N5) (F309:WG):Wn:=λR a0 a1 a2 k=>
F308 R a0 λy1=>
(match y1==0 with
|true=>k (0:Int) a1 (10:Int)
|false=>F296 R a1 y1 a2 λy3 y4 y5=>
(match y5 !=0 with
|true=>k (0:Int) y4 y5
|false=>F309 R a0 y3 λy7 y8=>
k y7 y4 y8))
theorem q291 (F296:FL) (F308:N5) (F309:WG):EQ (zeh (p291 F296 F308 F309)) (sE 0 40 [] [zeg F296,TI F308,zlv F309] []) Tryz.f291 [(.tmp 6,3,false),(.cell 7 225,225,false),(.tmp 8,40,false)]:=λ_ _ _=>by kernel_rfl
def F291:Wn:=p291 F296 F308 F309
theorem zjq:OKP (zeh F291):=ST.ok0 (q291 F296 F308 F309) (Dk zs3 (Dk KV (Dk zyd Dl))) Tryz.func291
abbrev FM:=(R:Type)->Tq8->(LI×Unit)->Int->(Int->Int->Option R)->Option R
def zmf (F:FM):Ent:=eV 273 [Kq8,(.pair (.sl (.int .u64)) .unit),(.int .i64)] [(.int .i64),(.int .i64)] F
def p273 (F245:Wq) (F291:Wn):FM:=λR a0 a1 a2 k=>
F245 R a0 (1:Int) a2 λy1=>
F291 R a1 y1 a0.2.1 λy2 y3 y4=>
k y2 y4
theorem q273 (F245:Wq) (F291:Wn):EQ (zmf (p273 F245 F291)) (sE 0 24 [] [TK F245,zeh F291] []) Tryz.f273 [(.tmp 6,3,false),(.tmp 7,40,false)]:=λ_ _ _=>by kernel_rfl
def F273:FM:=p273 F245 F291
theorem zs4:OKP (zmf F273):=ST.ok0 (q273 F245 F291) (Dk zjx (Dk zjq Dl)) Tryz.func273
abbrev WW:=(R:Type)->LI->Int->Int->LI->(LI->Int->Option R)->Option R
def zms (F:WW):Ent:=eV 240 [(.arr 32 (.int .u8)),(.int .i64),(.int .i64),(.sl (.int .u64))] [(.sl (.int .i64)),(.int .i64)] F
abbrev ZW (Z:Type):=Int->Int->Tq8->(LI×Unit)->LI->Z
abbrev zhp (R:Type):=(LI->Option R)->Option R
abbrev Pj:=(R:Type)->ZW (zhp R)
def CL (L:Pj):LEnt:=lM 9 [.fix 10 (.ptr 1 [] Kq8),.fix 11 (.ptr 2 [] (.pair (.sl (.int .u64)) .unit)),.fix 13 (.own 3 0),.val 38 (.int .i64),.val 39 (.int .i64),.var 1 Kq8 false,.var 2 (.pair (.sl (.int .u64)) .unit) false,.row 3 (.int .i64) false] 4 [(.exit 0,[.fix 13 (.own 3 0),.row 3 (.int .i64) false])] L
def e240 (F243:Th) (F272:Wo) (F273:FM) (L9:Pj):=sE 0 59 [] [TL F243,zej F272,zmf F273] [CL L9]
def PO (F273:FM) (R:Type):ZW (ZW (Option R)->zhp R):=λx1 x2 x3 x4 x5 kc k0=>
(match decide (x2<x1) with
|true=>F273 R x3 x4 x2 λy7 y8=>
(match bnd x2 x5.length with
|true=>let v9:=x5.set x2.toNat y7;(match y8 !=0 with
|true=>(match bnd x2 v9.length with
|true=>kc x1 (i64.wrap (x2+1)) x3 x4 (v9.set x2.toNat (-1:Int))
|false=>none)
|false=>kc x1 (i64.wrap (x2+1)) x3 x4 v9)
|false=>none)
|false=>k0 x5)
theorem zry (F243:Th) (F272:Wo) (F273:FM) (L9:Pj):LEQ (CL L9) (e240 F243 F272 F273 L9) Tryz.f240 (PO F273):=λ_ _ _ _=>by kernel_rfl
def S6:Nat->Pj
 | 0=>λ_ _ _ _ _ _ _=>none
 | n+1=>λR x1 x2 x3 x4 x5 k0=>PO F273 R x1 x2 x3 x4 x5 (λx1 x2 x3 x4 x5=>S6 n R x1 x2 x3 x4 x5 k0) k0
def p240 (F243:Th) (F272:Wo) (L9:Pj):WW:=λR a0 a1 a2 a3 k=>
(match decide (a1<1) with
|true=>k ([]:LI) (1:Int)
|false=>F243 R (a0,a2,()) (i64.wrap (a1 - 1)) λy3=>
(match (!y3) with
|true=>k ([]:LI) (1:Int)
|false=>F272 R a3 λy4 y5=>
(match y5 !=0 with
|true=>k ([]:LI) y5
|false=>(match (decide (0<=a1/\a1<=a1/\a1<=17592186044416)) with
|true=>let v7:=replicate a1.toNat (0:Int);L9 R (v7.length:Int) (0:Int) (a0,a2,()) y4 v7 (λx9=>
k x9 (0:Int))
|false=>none))))
theorem q240 (F243:Th) (F272:Wo) (F273:FM) (L9:Pj):EQ (zms (p240 F243 F272 L9)) (e240 F243 F272 F273 L9) Tryz.f240 [(.tmp 8,36,false),(.tmp 9,40,false)]:=λ_ _ _=>by kernel_rfl
def F240:WW:=p240 F243 F272 (S6 FUEL)
theorem zcy:LKP (CL (S6 FUEL)) 0 59 9 Tryz.f240:=ST.lok (zry F243 F272 F273 (S6 FUEL)) (Dk zb0 (Dk zju (Dk zs4 Dl))) [] trivial
theorem zyz:OKP (zms F240):=ST.ok1 (q240 F243 F272 F273 (S6 FUEL)) (Dk zb0 (Dk zju (Dk zs4 Dl))) Tryz.func240 [9] ⟨⟨_,rfl,zcy⟩,trivial⟩
abbrev XH:=(R:Type)->Tq31->(Int->Tq31->Option R)->Option R
def zm8 (F:XH):Ent:=eM 187 [(true,Kq31)] [(false,(.int .i64))] F
def p187 (F190:N8) (F237:WY) (F238:WX) (F239:zfh) (F240:WW):XH:=λR a0 k=>
F237 R a0.1.2.2.2.1 λy1 y2 y3 y4=>
(match y4 !=0 with
|true=>k y4 ((a0.1.1,a0.1.2.1,a0.1.2.2.1,y1,a0.1.2.2.2.2.1,y3,a0.1.2.2.2.2.2.2),a0.2)
|false=>F238 R a0.1.2.2.1 λy6=>
F239 R y3 λy7=>
F190 R y6 λy8=>
F240 R y1.2.1 a0.1.1.1 a0.1.1.2.2.2.1 y8 λy9 y10=>
k y10 ((a0.1.1,a0.1.2.1,y6,y1,y9,y3,a0.1.2.2.2.2.2.2),(a0.2.1.1,a0.2.1.2.1,y7,y1.2.1,a0.2.1.2.2.2.2),a0.2.2))
theorem q187 (F190:N8) (F237:WY) (F238:WX) (F239:zfh) (F240:WW):EQ (zm8 (p187 F190 F237 F238 F239 F240)) (sE 1 88 [] [DJ F190,zmu F237,zmt F238,zul F239,zms F240] []) Tryz.f187 [(.tmp 2,40,false)]:=λ_ _ _=>by kernel_rfl
def F187:XH:=p187 F190 F237 F238 F239 F240
theorem zzd:OKP (zm8 F187):=ST.ok0 (q187 F190 F237 F238 F239 F240) (Dk QL (Dk zy2 (Dk zy1 (Dk zy0 (Dk zyz Dl))))) Tryz.func187
abbrev MR:=(R:Type)->Tq31->Tq11->(Int->Tq31->Option R)->Option R
def znr (F:MR):Ent:=eM 134 [(true,Kq31),(false,Kq11)] [(false,(.int .i64))] F
def p134 (F186:XI) (F187:XH):MR:=λR a0 a1 k=>
F186 R a0.1.1 a0.1.2.1 λy1 y2=>
let v3:=u64.wrap y1;(match y2 with
|true=>F187 R ((a0.1.1,y1,a0.1.2.2),(a0.2.1.1,v3,a0.2.1.2.2),a0.2.2) λy4 p5=>
k y4 p5
|false=>k (0:Int) ((a0.1.1,y1,a0.1.2.2),(a0.2.1.1,v3,a0.2.1.2.2),a0.2.2))
theorem q134 (F186:XI) (F187:XH):EQ (znr (p134 F186 F187)) (sE 1 35 [] [zm9 F186,zm8 F187] []) Tryz.f134 [(.tmp 4,40,false)]:=λ_ _ _=>by kernel_rfl
def F134:MR:=p134 F186 F187
theorem zzs:OKP (znr F134):=ST.ok0 (q134 F186 F187) (Dk zze (Dk zzd Dl)) Tryz.func134
abbrev Wu:=(R:Type)->Tq31->Int->(Int->Tq31->Option R)->Option R
def TR (F:Wu):Ent:=eM 188 [(true,Kq31),(false,(.int .i64))] [(false,(.int .i64))] F
def p188:Wu:=λR a0 a1 k=>
(match decide (a1<0) with
|true=>k (3:Int) a0
|false=>(match decide (a1>=a0.1.1.1) with
|true=>k (3:Int) a0
|false=>k (0:Int) a0))
theorem q188:EQ (TR p188) (sE 1 17 [] [] []) Tryz.f188 [(.tmp 4,40,false)]:=λ_ _ _=>by kernel_rfl
def F188:Wu:=p188
theorem zj3:OKP (TR F188):=ST.ok0 q188 Dl Tryz.func188
abbrev Wt:=(R:Type)->LI->(Int->Option R)->Option R
def zev (F:Wt):Ent:=eV 189 [(.sl (.int .u64))] [(.int .i64)] F
abbrev zal (Z:Type):=Int->LI->Int->Int->Z
abbrev zhx (R:Type):=(Int->Option R)->Option R
abbrev Ps:=(R:Type)->zal (zhx R)
def CT (L:Ps):LEnt:=lM 2 [.val 2 (.int .i64),.val 5 (.sl (.int .u64)),.val 6 (.int .i64),.val 7 (.int .i64)] 0 [(.exit 0,[.val 2 (.int .i64)])] L
def e189 (L2:Ps):=sE 0 17 [] [] [CT L2]
def PX (R:Type):zal (zal (Option R)->zhx R):=λx1 x2 x3 x4 kc k0=>
(match decide (x4<x3) with
|true=>(match bnd x4 x2.length with
|true=>(match decide ((x2.getD x4.toNat 0)>0) with
|true=>kc (i64.wrap (x1+1)) x2 x3 (i64.wrap (x4+1))
|false=>kc x1 x2 x3 (i64.wrap (x4+1)))
|false=>none)
|false=>k0 x1)
theorem zr7 (L2:Ps):LEQ (CT L2) (e189 L2) Tryz.f189 PX:=λ_ _ _ _=>by kernel_rfl
def Td:Nat->Ps
 | 0=>λ_ _ _ _ _ _=>none
 | n+1=>λR x1 x2 x3 x4 k0=>PX R x1 x2 x3 x4 (λx1 x2 x3 x4=>Td n R x1 x2 x3 x4 k0) k0
def p189 (L2:Ps):Wt:=λR a0 k=>
L2 R (0:Int) a0 (a0.length:Int) (0:Int) (λx2=>
k x2)
theorem q189 (L2:Ps):EQ (zev (p189 L2)) (e189 L2) Tryz.f189 [(.tmp 2,3,false)]:=λ_ _ _=>by kernel_rfl
def F189:Wt:=p189 (Td FUEL)
theorem zc7:LKP (CT (Td FUEL)) 0 17 2 Tryz.f189:=ST.lok (zr7 (Td FUEL)) Dl [] trivial
theorem zj2:OKP (zev F189):=ST.ok1 (q189 (Td FUEL)) Dl Tryz.func189 [2] ⟨⟨_,rfl,zc7⟩,trivial⟩
abbrev MQ:=(R:Type)->Tq31->Tq11->(Int->Tq31->Option R)->Option R
def znq (F:MQ):Ent:=eM 135 [(true,Kq31),(false,Kq11)] [(false,(.int .i64))] F
def p135 (F188:Wu) (F189:Wt) (F190:N8):MQ:=λR a0 a1 k=>
F188 R a0 a1.2.2.2.2.1 λy1 p2=>
(match y1 !=0 with
|true=>k y1 p2
|false=>F190 R p2.1.2.2.1 λy4=>
F189 R y4 λy5=>
(match y5==0 with
|true=>k (10:Int) p2
|false=>(match bnd a1.2.2.2.2.1 p2.1.2.2.2.2.1.length with
|true=>(match (p2.1.2.2.2.2.1.getD a1.2.2.2.2.1.toNat 0)==(-1:Int) with
|true=>k (9:Int) p2
|false=>(match bnd a1.2.2.2.2.1 p2.1.2.2.2.2.1.length with
|true=>k (0:Int) (p2.1,(p2.2.1.1,p2.2.1.2.1,([(p2.1.2.2.2.2.1.getD a1.2.2.2.2.1.toNat 0)]:LI),p2.2.1.2.2.2),p2.2.2)
|false=>none))
|false=>none)))
theorem q135 (F188:Wu) (F189:Wt) (F190:N8):EQ (znq (p135 F188 F189 F190)) (sE 1 45 [] [TR F188,zev F189,DJ F190] []) Tryz.f135 [(.tmp 4,40,false)]:=λ_ _ _=>by kernel_rfl
def F135:MQ:=p135 F188 F189 F190
theorem zzr:OKP (znq F135):=ST.ok0 (q135 F188 F189 F190) (Dk zj3 (Dk zj2 (Dk QL Dl))) Tryz.func135
abbrev Z0:=(R:Type)->Int->Int->(Int->Bool->Option R)->Option R
def zee (F:Z0):Ent:=eV 310 [(.int .u64),(.int .u64)] [(.int .u64),.bool] F
def p310 (F120:GG) (F262:FO):Z0:=λR a0 a1 k=>
F120 R a0 a1 λy1 y2=>
F262 R y2 y1 λy3 y4=>
k y3 y4
theorem q310 (F120:GG) (F262:FO):EQ (zee (p310 F120 F262)) (sE 0 19 [] [ze0 F120,zek F262] []) Tryz.f310 [(.tmp 4,32,false),(.tmp 5,4,false)]:=λ_ _ _=>by kernel_rfl
def F310:Z0:=p310 F120 F262
theorem zsw:OKP (zee F310):=ST.ok0 (q310 F120 F262) (Dk zts (Dk zs6 Dl)) Tryz.func310
abbrev Z1:=(R:Type)->LI->(Int->Int->Option R)->Option R
def zl4 (F:Z1):Ent:=eV 292 [(.sl (.int .u64))] [(.int .u64),(.int .i64)] F
def p292 (F223:M3) (F310:Z0):Z1:=λR a0 k=>
let v2:=u64.wrap (a0.length:Int);(match v2==0 with
|true=>k (0:Int) (10:Int)
|false=>F223 R a0 λy4 y5=>
(match (!y5) with
|true=>k (0:Int) (11:Int)
|false=>(match y4==0 with
|true=>k (0:Int) (10:Int)
|false=>F310 R v2 y4 λy7 y8=>
(match (!y8) with
|true=>k (0:Int) (11:Int)
|false=>k y4 (0:Int)))))
theorem q292 (F223:M3) (F310:Z0):EQ (zl4 (p292 F223 F310)) (sE 0 32 [] [LV F223,zee F310] []) Tryz.f292 [(.tmp 2,32,false),(.tmp 3,40,false)]:=λ_ _ _=>by kernel_rfl
def F292:Z1:=p292 F223 F310
theorem zyh:OKP (zl4 F292):=ST.ok0 (q292 F223 F310) (Dk QK (Dk zsw Dl)) Tryz.func292
abbrev WQ:=(R:Type)->LI->(Tq44->Int->Option R)->Option R
def zme (F:WQ):Ent:=eV 274 [(.sl (.int .u64))] [Kq44,(.int .i64)] F
abbrev ZO (Z:Type):=LI->Int->LI->Int->Int->Tq44->LI->(List Tq13)->LI->LI->(Int×Unit)->Z
abbrev zhh (R:Type):=(Tq44->LI->(List Tq13)->LI->LI->(Int×Unit)->Option R)->Option R
abbrev Mu:=(R:Type)->ZO (zhh R)
def CD (L:Mu):LEnt:=lM 7 [.val 0 (.sl (.int .u64)),.fix 2 (.ptr 0 [] Kq44),.val 4 (.int .u64),.fix 6 (.mptr 6 0 Kq46),.val 28 (.sl (.int .u64)),.val 29 (.int .i64),.val 30 (.int .i64),.var 0 Kq44 false,.row 1 (.int .u64) false,.row 2 Kq13 false,.row 4 (.int .i64) false,.row 5 (.int .i64) false,.mix 6 [((.int .u64),none),((.sl Kq13),some 2),((.sl (.int .u64)),some 1),((.sl (.int .i64)),some 4),((.sl (.int .i64)),some 5)]] 7 [(.exit 0,[.fix 2 (.ptr 0 [] Kq44),.fix 6 (.mptr 6 0 Kq46),.var 0 Kq44 false,.row 1 (.int .u64) false,.row 2 Kq13 false,.row 4 (.int .i64) false,.row 5 (.int .i64) false,.mix 6 [((.int .u64),none),((.sl Kq13),some 2),((.sl (.int .u64)),some 1),((.sl (.int .i64)),some 4),((.sl (.int .i64)),some 5)]])] L
abbrev GR (Z:Type):=Tq44->LI->(List Tq13)->LI->LI->(Int×Unit)->Z
abbrev ZC (R:Type):=(Tq44->LI->(List Tq13)->LI->LI->(Int×Unit)->Option R)->Option R
abbrev J5:=(R:Type)->GR (ZC R)
def Vt (L:J5):LEnt:=lM 13 [.fix 2 (.ptr 0 [] Kq44),.fix 6 (.mptr 6 0 Kq46),.var 0 Kq44 false,.row 1 (.int .u64) false,.row 2 Kq13 false,.row 4 (.int .i64) false,.row 5 (.int .i64) false,.mix 6 [((.int .u64),none),((.sl Kq13),some 2),((.sl (.int .u64)),some 1),((.sl (.int .i64)),some 4),((.sl (.int .i64)),some 5)]] 7 [(.exit 2,[.fix 2 (.ptr 0 [] Kq44),.fix 6 (.mptr 6 0 Kq46),.var 0 Kq44 false,.row 1 (.int .u64) false,.row 2 Kq13 false,.row 4 (.int .i64) false,.row 5 (.int .i64) false,.mix 6 [((.int .u64),none),((.sl Kq13),some 2),((.sl (.int .u64)),some 1),((.sl (.int .i64)),some 4),((.sl (.int .i64)),some 5)]])] L
def TW (R:Type):Env R:=⟨TT,EQT,0,37,E2 [],En [] R,λ_ _ _=>none,[],Ep [],[],λ_ _ _ _=>none⟩
theorem IZ (R:Type):D7 Tryz.prog (TW R):=⟨tabOK,eqOK,Dz Dl,E7,Du,noYl⟩
def zf9 (R:Type):Env R:=⟨TT,EQT,0,26,E2 [(2,9)],En [] R,λ_ _ _=>none,[],Ep [],[],λ_ _ _ _=>none⟩
theorem zd0 (R:Type):D7 Tryz.prog (zf9 R):=⟨tabOK,eqOK,Dz Dl,E7,Du,noYl⟩
def zga (R:Type):Env R:=⟨TT,EQT,0,53,E2 [(0,3),(0,7),(3,2)],En [] R,λ_ _ _=>none,[],Ep [(293,xinl (TW R) (Ds Tryz.f293) [] 2),(311,xinl (zf9 R) (Ds Tryz.f311) [.tmp 2] 1)],[],λ_ _ _ _=>none⟩
theorem zd1 (R:Type):D7 Tryz.prog (zga R):=⟨tabOK,eqOK,Dz Dl,E7,(Ed (El (IZ R) mixed Tryz.func293 (body:=Ds Tryz.f293) (by kernel_rfl) (by kernel_rfl) (by kernel_rfl) (res:=[]) (by kernel_rfl) (n:=2) (Bj rfl) (by kernel_rfl)) (Ed (El (zd0 R) mixed Tryz.func311 (body:=Ds Tryz.f311) (by kernel_rfl) (by kernel_rfl) (by kernel_rfl) (res:=[.tmp 2]) (by kernel_rfl) (n:=1) (Bj rfl) (by kernel_rfl)) Du)),noYl⟩
def e274 (F292:Z1) (L7:Mu) (L13:J5) (R:Type):Env R:=⟨TT,EQT,0,84,E2 [(4,3),(4,4),(11,2),(14,1)],En [zl4 F292] R,Et [CD L7,Vt L13] R,[],Ep [(293,xinl (TW R) (Ds Tryz.f293) [] 2),(294,xinl (zga R) (Ds Tryz.f294) [] 1)],[],λ_ _ _ _=>none⟩
def PF (R:Type):ZO (ZO (Option R)->zhh R):=λx1 x2 x3 x4 x5 x6 x7 x8 x9 x10 x11 kc k0=>
(match decide (x5<x4) with
|true=>(match bnd x5 x3.length with
|true=>(match bnd x5 x7.length with
|true=>let v17:=x7.set x5.toNat (u64.wrap ((x3.getD x5.toNat 0)*(u64.wrap (x1.length:Int))));let v18:=([(x2,x5,())]:(List Tq13));(match (decide (x8.length+v18.length<=8796093022208)) with
|true=>let v19:=x8++v18;(match bnd x5 v17.length with
|true=>(match decide ((v17.getD x5.toNat 0)<x11.1) with
|true=>let v22:=([x5]:LI);(match (decide (x9.length+v22.length<=17592186044416)) with
|true=>kc x1 x2 x3 x4 (i64.wrap (x5+1)) x6 v17 v19 (x9++v22) x10 (x11.1,())
|false=>none)
|false=>let v25:=([x5]:LI);(match (decide (x10.length+v25.length<=17592186044416)) with
|true=>kc x1 x2 x3 x4 (i64.wrap (x5+1)) x6 v17 v19 x9 (x10++v25) (x11.1,())
|false=>none))
|false=>none)
|false=>none)
|false=>none)
|false=>none)
|false=>k0 x6 x7 x8 x9 x10 (x11.1,()))
theorem zrq (F292:Z1) (L7:Mu) (L13:J5):LEQ (CD L7) (e274 F292 L7 L13) Tryz.f274 PF:=λ_ _ _ _=>by kernel_rfl
def Ny:Nat->Mu
 | 0=>λ_ _ _ _ _ _ _ _ _ _ _ _ _=>none
 | n+1=>λR x1 x2 x3 x4 x5 x6 x7 x8 x9 x10 x11 k0=>PF R x1 x2 x3 x4 x5 x6 x7 x8 x9 x10 x11 (λx1 x2 x3 x4 x5 x6 x7 x8 x9 x10 x11=>Ny n R x1 x2 x3 x4 x5 x6 x7 x8 x9 x10 x11 k0) k0
def AY (R:Type):GR (GR (Option R)->ZC R):=λx1 x2 x3 x4 x5 x6 kc k0=>
(match decide ((x4.length:Int)>0) with
|true=>(match decide ((x5.length:Int)>0) with
|true=>let v12:=i64.wrap ((x4.length:Int) - 1);(match bnd v12 x4.length with
|true=>let v13:=x4.getD v12.toNat 0;let v15:=i64.wrap ((x4.length:Int) - 1);(match (decide (0<=v15/\v15<=(x4.length:Int))) with
|true=>let v16:=List.take v15.toNat x4;let v18:=i64.wrap ((x5.length:Int) - 1);(match bnd v18 x5.length with
|true=>let v19:=x5.getD v18.toNat 0;let v21:=i64.wrap ((x5.length:Int) - 1);(match (decide (0<=v21/\v21<=(x5.length:Int))) with
|true=>let v22:=List.take v21.toNat x5;(match bnd v13 x2.length with
|true=>(match bnd v13 x3.length with
|true=>let v24:=x3.set v13.toNat ((x2.getD v13.toNat 0),v19,());(match bnd v19 x2.length with
|true=>(match bnd v13 x2.length with
|true=>(match bnd v19 x2.length with
|true=>let v29:=x2.set v19.toNat (u64.wrap ((x2.getD v19.toNat 0) - (u64.wrap (x6.1 - (x2.getD v13.toNat 0)))));(match bnd v19 v29.length with
|true=>(match decide ((v29.getD v19.toNat 0)<x6.1) with
|true=>let v32:=([v19]:LI);(match (decide (v16.length+v32.length<=17592186044416)) with
|true=>kc x1 v29 v24 (v16++v32) v22 (x6.1,())
|false=>none)
|false=>let v34:=([v19]:LI);(match (decide (v22.length+v34.length<=17592186044416)) with
|true=>kc x1 v29 v24 v16 (v22++v34) (x6.1,())
|false=>none))
|false=>none)
|false=>none)
|false=>none)
|false=>none)
|false=>none)
|false=>none)
|false=>none)
|false=>none)
|false=>none)
|false=>none)
|false=>k0 x1 x2 x3 x4 x5 (x6.1,()))
|false=>k0 x1 x2 x3 x4 x5 (x6.1,()))
theorem ziu (F292:Z1) (L7:Mu) (L13:J5):LEQ (Vt L13) (e274 F292 L7 L13) Tryz.f274 AY:=λ_ _ _ _=>by kernel_rfl
def Jh:Nat->J5
 | 0=>λ_ _ _ _ _ _ _ _=>none
 | n+1=>λR x1 x2 x3 x4 x5 x6 k0=>AY R x1 x2 x3 x4 x5 x6 (λx1 x2 x3 x4 x5 x6=>Jh n R x1 x2 x3 x4 x5 x6 k0) k0
def p274 (F292:Z1) (L7:Mu) (L13:J5):WQ:=λR a0 k=>
F292 R a0 λy1 y2=>
(match y2 !=0 with
|true=>k ((0:Int),([]:(List Tq13)),()) y2
|false=>let v4:=(a0.length:Int);(match (decide (0<=v4/\v4<=v4/\v4<=17592186044416)) with
|true=>L7 R a0 y1 a0 (a0.length:Int) (0:Int) ((0:Int),([]:(List Tq13)),()) (replicate v4.toNat (0:Int)) ([]:(List Tq13)) ([]:LI) ([]:LI) (y1,()) (λx7 x8 x9 x10 x11 x12=>
L13 R x7 x8 x9 x10 x11 (x12.1,()) (λx13 x14 x15 x16 x17 x18=>
k (x18.1,x15,()) (0:Int)))
|false=>none))
theorem q274 (F292:Z1) (L7:Mu) (L13:J5):EQ (zme (p274 F292 L7 L13)) (e274 F292 L7 L13) Tryz.f274 [(.cell 2 267,267,false),(.tmp 3,40,false)]:=λ_ _ _=>by kernel_rfl
def F274:WQ:=p274 F292 (Ny FUEL) (Jh FUEL)
theorem SY (R:Type):D7 Tryz.prog (e274 F292 (Ny FUEL) (Jh FUEL) R):=⟨tabOK,eqOK,Dz (Dk zyh Dl),E7,(Ed (El (IZ R) mixed Tryz.func293 (body:=Ds Tryz.f293) (by kernel_rfl) (by kernel_rfl) (by kernel_rfl) (res:=[]) (by kernel_rfl) (n:=2) (Bj rfl) (by kernel_rfl)) (Ed (El (zd1 R) mixed Tryz.func294 (body:=Ds Tryz.f294) (by kernel_rfl) (by kernel_rfl) (by kernel_rfl) (res:=[]) (by kernel_rfl) (n:=1) (Bj rfl) (by kernel_rfl)) Du)),noYl⟩
theorem zcq:LKP (CD (Ny FUEL)) 0 84 7 Tryz.f274:=ST.lok3 (zrq F292 (Ny FUEL) (Jh FUEL)) SY (λ_=>rfl) (λ_=>rfl) (λ_=>rfl) [] trivial
theorem QV:LKP (Vt (Jh FUEL)) 0 84 13 Tryz.f274:=ST.lok3 (ziu F292 (Ny FUEL) (Jh FUEL)) SY (λ_=>rfl) (λ_=>rfl) (λ_=>rfl) [] trivial
theorem zyo:OKP (zme F274):=ST.ok3 (q274 F292 (Ny FUEL) (Jh FUEL)) SY Tryz.func274 (λ_=>rfl) (λ_=>rfl) (λ_=>rfl) [7,13] ⟨⟨_,rfl,zcq⟩,⟨⟨_,rfl,QV⟩,trivial⟩⟩
abbrev FE:=(R:Type)->Tq13->Tq44->(Bool->Tq44->Option R)->Option R
def zlu (F:FE):Ent:=eM 313 [(false,Kq13),(true,Kq44)] [(false,.bool)] F
def p313:FE:=λR a0 a1 k=>
(match decide (a0.1>a1.1) with
|true=>k true a1
|false=>(match decide (a0.2.1<0) with
|true=>k true a1
|false=>k (decide (a0.2.1>=(a1.2.1.length:Int))) a1))
theorem q313:EQ (zlu p313) (sE 1 22 [] [] []) Tryz.f313 [(.tmp 3,4,false)]:=λ_ _ _=>by kernel_rfl
def F313:FE:=p313
theorem zyc:OKP (zlu F313):=ST.ok0 q313 Dl Tryz.func313
abbrev J6:Type 1:=(R:Type)->(List Tq13)->Tq44->(Int->Tq44->Option R)->Option R
def F7 (F:J6):EntC:=⟨326,313,Kq44,[(false,(.sl Kq13))],[(false,(.int .i64))],λR x c k=>F R x.1 c (λy1 c1=>k (y1,()) () c1)⟩
def Xv:List (ResultVar×TypeId×Bool):=[(.tmp 4,3,false)]
abbrev Ie:Type 1:=(R:Type)->(List Tq13)->Int->Int->Tq44->(Int->Tq44->Option R)->(Tq44->Option R)->Option R
def Eu (L:Ie):LEnt:=⟨2,[.val 0 (.sl Kq13),.fix 1 (.clo 313 [(0,Kq44)]),.val 7 (.int .i64),.val 8 (.int .i64),.var 0 Kq44 false],1,[(.ret,[.val 4 (.int .i64),.var 0 Kq44 false]),(.exit 0,[.var 0 Kq44 false])],λR x ke=>L R x.1 x.2.1 x.2.2.1 x.2.2.2.1 (λy1 y2=>ke.1 (y1,y2,())) (λy1=>ke.2.1 (y1,()))⟩
def R7 (F313:FE) (L2:Ie) (R:Type):Env R:=⟨TT,EQT,1,19,E2 [],En [zlu F313] R,Et [Eu L2] R,[],Ep [],[],λ_ _ _ _=>none⟩
def Nd (F313:FE):(R:Type)->(List Tq13)->Int->Int->Tq44->((List Tq13)->Int->Int->Tq44->Option R)->(Int->Tq44->Option R)->(Tq44->Option R)->Option R:=λR x1 x2 x3 x4 kc k0 k1=>
(match decide (x3<x2) with
|true=>(match bnd x3 x1.length with
|true=>F313 R (x1.getD x3.toNat (0,0,())) x4 λy7 p8=>
(match y7 with
|true=>k0 x3 p8
|false=>kc x1 x2 (i64.wrap (x3+1)) p8)
|false=>none)
|false=>k1 x4)
theorem OL (F313:FE) (L2:Ie) (R:Type) (x:HT (Eu L2).H) (kc:HT (Eu L2).H->Option R) (ke:KT R (Eu L2).exs):
 exec (R7 F313 L2 R) (Fu 2 (Ds Tryz.f326)) (stOf (Eu L2).H x 1) (P3 (Eu L2).H (Eu L2).exs kc ke)=
  Nd F313 R x.1 x.2.1 x.2.2.1 x.2.2.2.1 (λx1 x2 x3 x4=>kc (x1,x2,x3,x4,())) (λy1 y2=>ke.1 (y1,y2,())) (λy1=>ke.2.1 (y1,())):=by kernel_rfl
def Eh:Nat->Ie
 | 0=>λ_ _ _ _ _ _ _=>none
 | n+1=>λR x1 x2 x3 x4 k0 k1=>Nd F313 R x1 x2 x3 x4 (λx1 x2 x3 x4=>Eh n R x1 x2 x3 x4 k0 k1) k0 k1
def AW (L2:Ie):J6:=λR a0 c0 k=>
L2 R a0 (a0.length:Int) (0:Int) c0 (λx2 x3=>
k x2 x3) (λx4=>
k (-1:Int) x4)
theorem zis (F313:FE) (L2:Ie) (F:J6) (R:Type) (x:AT (F7 F).ins) (c:(F7 F).ck.T) (k:RT (F7 F).outs->PT (F7 F).ins->(F7 F).ck.T->Option R):
 xfun (R7 F313 L2 R) (Ds Tryz.f326) Xv (avs (F7 F).ins x++[AV.clo 313 (F7 F).ck c]) (zdz (F7 F).outs (F7 F).ins (F7 F).ck k)=AW L2 R x.1 c (λy1 c1=>k (y1,()) () c1):=by kernel_rfl
def Gu:J6:=AW (Eh FUEL)
theorem Ys (R:Type):D7 Tryz.prog (R7 F313 (Eh FUEL) R):=⟨tabOK,eqOK,Dz (Dk zyc Dl),E7,Du,noYl⟩
def K7:(R:Type)->HT (Eu (Eh FUEL)).H->(HT (Eu (Eh FUEL)).H->Option R)->KT R (Eu (Eh FUEL)).exs->Option R:=λR x kc ke=>Nd F313 R x.1 x.2.1 x.2.2.1 x.2.2.2.1 (λx1 x2 x3 x4=>kc (x1,x2,x3,x4,())) (λy1 y2=>ke.1 (y1,y2,())) (λy1=>ke.2.1 (y1,()))
theorem LF:∀(n:Nat) (R:Type) (x:HT (Eu (Eh FUEL)).H) (ke:KT R (Eu (Eh FUEL)).exs),iter K7 n R x ke=Eh n R x.1 x.2.1 x.2.2.1 x.2.2.2.1 (λy1 y2=>ke.1 (y1,y2,())) (λy1=>ke.2.1 (y1,())):=by
 intro n
 induction n with
 | zero=>intro R x ke; rfl
 | succ n ih=>
  intro R x ke;show K7 R x (λx'=>iter K7 n R x' ke) ke=_
  rw [show (λx'=>iter K7 n R x' ke)=λx=>Eh n R x.1 x.2.1 x.2.2.1 x.2.2.2.1 (λy1 y2=>ke.1 (y1,y2,())) (λy1=>ke.2.1 (y1,())) from funext λx'=>ih R x' ke];rfl
theorem BO:(Eu (Eh FUEL)).OK Tryz.prog 1 19 (Fu 2 (Ds Tryz.f326)):=⟨⟨λ_ h=>(by cases h),by kernel_rfl⟩,λR x ke r h=>
 Ib (λR=>R7 F313 (Eh FUEL) R) 1 19 (λ_=>rfl) (λ_=>rfl) (λR=>Ys R) mixed (by
  intro R;rw [show Dy (Fu 2 (Ds Tryz.f326))=[] from by kernel_rfl];exact E3) (λ_ h=>(by cases h)) (Rt (by kernel_rfl)) (T:=K7) (λR x kc ke=>OL F313 (Eh FUEL) R x kc ke) FUEL R x ke r ((LF FUEL R x ke).trans h)⟩
theorem zbw:(F7 Gu).OK Tryz.prog:=
 TF (Ef:=λR=>R7 F313 (Eh FUEL) R) (λR=>Ys R) mixed Tryz.func326 (body:=Ds Tryz.f326) (by kernel_rfl) (by kernel_rfl) (np:=1) (nt:=19) (λ_=>rfl) (λ_=>rfl) (by kernel_rfl) (res:=Xv) (by kernel_rfl) (λ_ _=>rfl) (λ_ _=>Bj rfl) (by
  intro R;rw [show Dy (Ds Tryz.f326)=[Fu 2 (Ds Tryz.f326)] from by kernel_rfl];exact (Dp (Lq (e:=Eu (Eh FUEL)) rfl rfl BO) E3)) (λR x c k=>zis F313 (Eh FUEL) Gu R x c k)
abbrev J7:Type 1:=(R:Type)->(List Tq13)->Tq44->(Bool->Tq44->Option R)->Option R
def F9 (F:J7):EntC:=⟨312,313,Kq44,[(false,(.sl Kq13))],[(false,.bool)],λR x c k=>F R x.1 c (λy1 c1=>k (y1,()) () c1)⟩
def Xw:List (ResultVar×TypeId×Bool):=[(.tmp 4,4,false)]
def DL (Gu:J6) (R:Type):Env R:=⟨TT,EQT,1,9,E2 [],Ov [F7 Gu] [] [] R,Et [] R,[],Ep [],[],λ_ _ _ _=>none⟩
def AX (Gu:J6):J7:=λR a0 c0 k=>
Gu R a0 c0 λy1 p2=>
k (decide (y1>=0)) p2
theorem zit (Gu:J6) (F:J7) (R:Type) (x:AT (F9 F).ins) (c:(F9 F).ck.T) (k:RT (F9 F).outs->PT (F9 F).ins->(F9 F).ck.T->Option R):
 xfun (DL Gu R) (Ds Tryz.f312) Xw (avs (F9 F).ins x++[AV.clo 313 (F9 F).ck c]) (zdz (F9 F).outs (F9 F).ins (F9 F).ck k)=AX Gu R x.1 c (λy1 c1=>k (y1,()) () c1):=by kernel_rfl
def G9:J7:=AX Gu
theorem SX (R:Type):D7 Tryz.prog (DL Gu R):=⟨tabOK,eqOK,Ou (Y8 zbw JI) H5 Dl,E7,Du,noYl⟩
theorem zbx:(F9 G9).OK Tryz.prog:=
 TF (Ef:=λR=>DL Gu R) (λR=>SX R) mixed Tryz.func312 (body:=Ds Tryz.f312) (by kernel_rfl) (by kernel_rfl) (np:=1) (nt:=9) (λ_=>rfl) (λ_=>rfl) (by kernel_rfl) (res:=Xw) (by kernel_rfl) (λ_ _=>rfl) (λ_ _=>Bj rfl) (by
  intro R;rw [show Dy (Ds Tryz.f312)=[] from by kernel_rfl];exact E3) (λR x c k=>zit Gu G9 R x c k)
abbrev Tg:=(R:Type)->Tq44->(Bool->Option R)->Option R
def LT (F:Tg):Ent:=eV 295 [Kq44] [.bool] F
def e295 (F310:Z0) (G9:J7) (R:Type):Env R:=⟨TT,EQT,0,33,E2 [],Ov [F9 G9] [] [zee F310] R,Et [] R,[],Ep [],[],λ_ _ _ _=>none⟩
def p295 (F310:Z0) (G9:J7):Tg:=λR a0 k=>
F310 R (u64.wrap (a0.2.1.length:Int)) a0.1 λy3 y4=>
(match (!y4) with
|true=>k false
|false=>(match (a0.2.1.length:Int)==0 with
|true=>k false
|false=>(match a0.1==0 with
|true=>k false
|false=>G9 R a0.2.1 a0 λy8 p9=>
k (!y8))))
theorem q295 (F310:Z0) (G9:J7):EQ (LT (p295 F310 G9)) (e295 F310 G9) Tryz.f295 [(.tmp 2,4,false)]:=λ_ _ _=>by kernel_rfl
def F295:Tg:=p295 F310 G9
theorem zt5 (R:Type):D7 Tryz.prog (e295 F310 G9 R):=⟨tabOK,eqOK,Ou (Y8 zbx JI) H5 (Dk zsw Dl),E7,Du,noYl⟩
theorem zby:OKP (LT F295):=ST.ok3 (q295 F310 G9) zt5 Tryz.func295 (λ_=>rfl) (λ_=>rfl) (λ_=>rfl) [] trivial
abbrev FK:=(R:Type)->Tq44->(Int->Option R)->Option R
def zef (F:FK):Ent:=eV 297 [Kq44] [(.int .u64)] F
def p297 (F295:Tg):FK:=λR a0 k=>
F295 R a0 λy1=>
(match (!y1) with
|true=>k (0:Int)
|false=>k (u64.wrap ((u64.wrap (a0.2.1.length:Int))*a0.1)))
theorem q297 (F295:Tg):EQ (zef (p297 F295)) (sE 0 13 [] [LT F295] []) Tryz.f297 [(.tmp 2,32,false)]:=λ_ _ _=>by kernel_rfl
def F297:FK:=p297 F295
theorem zs2:OKP (zef F297):=ST.ok0 (q297 F295) (Dk zby Dl) Tryz.func297
abbrev WD:=(R:Type)->Tq44->Int->(Int->Option R)->Option R
def zlm (F:WD):Ent:=eV 330 [Kq44,(.int .i64)] [(.int .i64)] F
def p330 (F295:Tg):WD:=λR a0 a1 k=>
F295 R a0 λy1=>
(match (!y1) with
|true=>k (1:Int)
|false=>(match decide (a1<0) with
|true=>k (3:Int)
|false=>(match decide (a1>=(a0.2.1.length:Int)) with
|true=>k (3:Int)
|false=>k (0:Int))))
theorem q330 (F295:Tg):EQ (zlm (p330 F295)) (sE 0 19 [] [LT F295] []) Tryz.f330 [(.tmp 4,40,false)]:=λ_ _ _=>by kernel_rfl
def F330:WD:=p330 F295
theorem zx9:OKP (zlm F330):=ST.ok0 (q330 F295) (Dk zby Dl) Tryz.func330
abbrev WF:=(R:Type)->Tq44->Int->Int->(Int->Int->Option R)->Option R
def zlq (F:WF):Ent:=eV 317 [Kq44,(.int .i64),(.int .u64)] [(.int .i64),(.int .i64)] F
def p317 (F330:WD):WF:=λR a0 a1 a2 k=>
F330 R a0 a1 λy1=>
(match y1 !=0 with
|true=>k (0:Int) y1
|false=>(match decide (a2>=a0.1) with
|true=>k (0:Int) (3:Int)
|false=>(match bnd a1 a0.2.1.length with
|true=>let v4:=a0.2.1.getD a1.toNat (0,0,());(match decide (a2>=v4.1) with
|true=>k v4.2.1 (0:Int)
|false=>k a1 (0:Int))
|false=>none)))
theorem q317 (F330:WD):EQ (zlq (p317 F330)) (sE 0 32 [] [zlm F330] []) Tryz.f317 [(.tmp 6,3,false),(.tmp 7,40,false)]:=λ_ _ _=>by kernel_rfl
def F317:WF:=p317 F330
theorem zyb:OKP (zlq F317):=ST.ok0 (q317 F330) (Dk zx9 Dl) Tryz.func317
abbrev WJ:=(R:Type)->Tq44->Int->(Int->Int->Option R)->Option R
def zl3 (F:WJ):Ent:=eV 298 [Kq44,(.int .u64)] [(.int .i64),(.int .i64)] F
def p298 (F295:Tg) (F297:FK) (F317:WF):WJ:=λR a0 a1 k=>
F295 R a0 λy1=>
(match (!y1) with
|true=>k (0:Int) (1:Int)
|false=>F297 R a0 λy2=>
(match decide (a1>=y2) with
|true=>k (0:Int) (3:Int)
|false=>(match (!(a0.1==0)) with
|true=>(match (!(a0.1==0)) with
|true=>F317 R a0 (i64.wrap (u64.wrap (Int.tdiv a1 a0.1))) (Int.tmod a1 a0.1) λy7 y8=>
k y7 y8
|false=>none)
|false=>none)))
theorem q298 (F295:Tg) (F297:FK) (F317:WF):EQ (zl3 (p298 F295 F297 F317)) (sE 0 28 [] [LT F295,zef F297,zlq F317] []) Tryz.f298 [(.tmp 4,3,false),(.tmp 5,40,false)]:=λ_ _ _=>by kernel_rfl
def F298:WJ:=p298 F295 F297 F317
theorem zyg:OKP (zl3 F298):=ST.ok0 (q298 F295 F297 F317) (Dk zby (Dk zs2 (Dk zyb Dl))) Tryz.func298
abbrev WP:=(R:Type)->Tq44->Tq40->Int->(Int->Tq40->Int->Option R)->Option R
def zmd (F:WP):Ent:=eV 275 [Kq44,Kq40,(.int .i64)] [(.int .i64),Kq40,(.int .i64)] F
def p275 (F295:Tg) (F296:FL) (F297:FK) (F298:WJ):WP:=λR a0 a1 a2 k=>
F295 R a0 λy1=>
(match (!y1) with
|true=>k (0:Int) a1 (1:Int)
|false=>F297 R a0 λy2=>
F296 R a1 y2 a2 λy3 y4 y5=>
(match y5 !=0 with
|true=>k (0:Int) y4 y5
|false=>F298 R a0 y3 λy7 y8=>
k y7 y4 y8))
theorem q275 (F295:Tg) (F296:FL) (F297:FK) (F298:WJ):EQ (zmd (p275 F295 F296 F297 F298)) (sE 0 39 [] [LT F295,zeg F296,zef F297,zl3 F298] []) Tryz.f275 [(.tmp 6,3,false),(.cell 7 225,225,false),(.tmp 8,40,false)]:=λ_ _ _=>by kernel_rfl
def F275:WP:=p275 F295 F296 F297 F298
theorem zyn:OKP (zmd F275):=ST.ok0 (q275 F295 F296 F297 F298) (Dk zby (Dk zs3 (Dk zs2 (Dk zyg Dl)))) Tryz.func275
abbrev WV:=(R:Type)->Tq40->Int->LI->(Int->Tq40->Int->Option R)->Option R
def zmq (F:WV):Ent:=eV 244 [Kq40,(.int .i64),(.sl (.int .u64))] [(.int .i64),Kq40,(.int .i64)] F
def p244 (F274:WQ) (F275:WP):WV:=λR a0 a1 a2 k=>
F274 R a2 λy1 y2=>
(match y2 !=0 with
|true=>k (0:Int) a0 y2
|false=>F275 R y1 a0 a1 λy4 y5 y6=>
k y4 y5 y6)
theorem q244 (F274:WQ) (F275:WP):EQ (zmq (p244 F274 F275)) (sE 0 27 [] [zme F274,zmd F275] []) Tryz.f244 [(.tmp 6,3,false),(.cell 7 225,225,false),(.tmp 8,40,false)]:=λ_ _ _=>by kernel_rfl
def F244:WV:=p244 F274 F275
theorem zyx:OKP (zmq F244):=ST.ok0 (q244 F274 F275) (Dk zyo (Dk zyn Dl)) Tryz.func244
abbrev XG:=(R:Type)->LI->Int->Int->LI->(Int->Int->Option R)->Option R
def zm7 (F:XG):Ent:=eV 191 [(.arr 32 (.int .u8)),(.int .i64),(.int .i64),(.sl (.int .u64))] [(.int .i64),(.int .i64)] F
def p191 (F243:Th) (F244:WV) (F245:Wq):XG:=λR a0 a1 a2 a3 k=>
F243 R (a0,a2,()) a1 λy1=>
(match (!y1) with
|true=>k (0:Int) (1:Int)
|false=>F245 R (a0,a2,()) (2:Int) a1 λy2=>
F244 R y2 a2 a3 λy3 y4 y5=>
k y3 y5)
theorem q191 (F243:Th) (F244:WV) (F245:Wq):EQ (zm7 (p191 F243 F244 F245)) (sE 0 33 [] [TL F243,zmq F244,TK F245] []) Tryz.f191 [(.tmp 8,3,false),(.tmp 9,40,false)]:=λ_ _ _=>by kernel_rfl
def F191:XG:=p191 F243 F244 F245
theorem zzc:OKP (zm7 F191):=ST.ok0 (q191 F243 F244 F245) (Dk zb0 (Dk zyx (Dk zjx Dl))) Tryz.func191
abbrev MP:=(R:Type)->Tq31->Tq11->(Int->Tq31->Option R)->Option R
def znp (F:MP):Ent:=eM 136 [(true,Kq31),(false,Kq11)] [(false,(.int .i64))] F
def p136 (F188:Wu) (F190:N8) (F191:XG):MP:=λR a0 a1 k=>
F188 R a0 a1.2.2.2.2.1 λy1 p2=>
(match y1 !=0 with
|true=>k y1 p2
|false=>F190 R p2.1.2.2.1 λy4=>
F191 R p2.1.2.2.2.1.2.1 a1.2.2.2.2.1 p2.1.1.2.2.2.1 y4 λy5 y6=>
k y6 (p2.1,(p2.2.1.1,p2.2.1.2.1,([y5]:LI),p2.2.1.2.2.2),p2.2.2))
theorem q136 (F188:Wu) (F190:N8) (F191:XG):EQ (znp (p136 F188 F190 F191)) (sE 1 46 [] [TR F188,DJ F190,zm7 F191] []) Tryz.f136 [(.tmp 4,40,false)]:=λ_ _ _=>by kernel_rfl
def F136:MP:=p136 F188 F190 F191
theorem zzq:OKP (znp F136):=ST.ok0 (q136 F188 F190 F191) (Dk zj3 (Dk QL (Dk zzc Dl))) Tryz.func136
abbrev FJ:=(R:Type)->Int->Tq40->Int->(Bool->Option R)->Option R
def zl2 (F:FJ):Ent:=eV 299 [(.int .i64),Kq40,(.int .i64)] [.bool] F
def p299 (F318:P0):FJ:=λR a0 a1 a2 k=>
(match decide (a0>=0) with
|true=>(match decide (a0<=256) with
|true=>F318 R a1 λy3=>
(match y3 with
|true=>(match decide (a2>0) with
|true=>k (decide (a2<=64))
|false=>k false)
|false=>k false)
|false=>k false)
|false=>k false)
theorem q299 (F318:P0):EQ (zl2 (p299 F318)) (sE 0 25 [] [LS F318] []) Tryz.f299 [(.tmp 6,4,false)]:=λ_ _ _=>by kernel_rfl
def F299:FJ:=p299 F318
theorem zs1:OKP (zl2 F299):=ST.ok0 (q299 F318) (Dk QI Dl) Tryz.func299
abbrev FI:=(R:Type)->(LI×Unit)->(LI->Option R)->Option R
def zl1 (F:FI):Ent:=eV 300 [(.pair (.sl (.int .u64)) .unit)] [(.sl (.int .u64))] F
abbrev ZK (Z:Type):=Int->LI->Z
abbrev zhd (R:Type):=(LI->Option R)->Option R
abbrev Pa:=(R:Type)->ZK (zhd R)
def BZ (L:Pa):LEnt:=lM 3 [.fix 3 (.own 1 0),.val 4 (.int .i64),.row 1 (.int .u64) false] 2 [(.exit 0,[.fix 3 (.own 1 0),.row 1 (.int .u64) false])] L
def e300 (F289:N6) (F290:J8) (L3:Pa):=sE 0 36 [] [zei F289,LU F290] [BZ L3]
def HZ (F290:J8) (R:Type):ZK (ZK (Option R)->zhd R):=λx1 x2 kc k0=>
(match decide (x1>0) with
|true=>F290 R x1 λy4=>
let v5:=i64.wrap (x1+y4);(match decide (v5<=(x2.length:Int)) with
|true=>let v8:=i64.wrap (v5 - 1);(match bnd v8 x2.length with
|true=>let v10:=i64.wrap (x1 - 1);(match bnd v10 x2.length with
|true=>(match bnd v8 x2.length with
|true=>kc (i64.wrap (x1 - 1)) (x2.set v8.toNat (u64.wrap ((x2.getD v8.toNat 0) - (x2.getD v10.toNat 0))))
|false=>none)
|false=>none)
|false=>none)
|false=>kc (i64.wrap (x1 - 1)) x2)
|false=>k0 x2)
theorem zrm (F289:N6) (F290:J8) (L3:Pa):LEQ (BZ L3) (e300 F289 F290 L3) Tryz.f300 (HZ F290):=λ_ _ _ _=>by kernel_rfl
def Qi:Nat->Pa
 | 0=>λ_ _ _ _=>none
 | n+1=>λR x1 x2 k0=>HZ F290 R x1 x2 (λx1 x2=>Qi n R x1 x2 k0) k0
def p300 (F289:N6) (L3:Pa):FI:=λR a0 k=>
F289 R a0.1 λy1=>
L3 R (y1.length:Int) y1 (λx3=>
k x3)
theorem q300 (F289:N6) (F290:J8) (L3:Pa):EQ (zl1 (p300 F289 L3)) (e300 F289 F290 L3) Tryz.f300 [(.tmp 2,182,false)]:=λ_ _ _=>by kernel_rfl
def F300:FI:=p300 F289 (Qi FUEL)
theorem zcm:LKP (BZ (Qi FUEL)) 0 36 3 Tryz.f300:=ST.lok (zrm F289 F290 (Qi FUEL)) (Dk KW (Dk Yc Dl)) [] trivial
theorem zs0:OKP (zl1 F300):=ST.ok1 (q300 F289 F290 (Qi FUEL)) (Dk KW (Dk Yc Dl)) Tryz.func300 [3] ⟨⟨_,rfl,zcm⟩,trivial⟩
abbrev FA:=(R:Type)->(LI×Unit)->Int->(Int->Int->Option R)->Option R
def zlp (F:FA):Ent:=eV 319 [(.pair (.sl (.int .u64)) .unit),(.int .i64)] [(.int .u64),(.int .i64)] F
def p319 (F324:EX) (F325:Pz):FA:=λR a0 a1 k=>
(match decide (a1<0) with
|true=>k (0:Int) (3:Int)
|false=>F325 R a0 λy2=>
(match decide (a1>=y2) with
|true=>k (0:Int) (3:Int)
|false=>F324 R a0 (i64.wrap (a1+1)) λy5=>
F324 R a0 a1 λy6=>
k (u64.wrap (y5 - y6)) (0:Int)))
theorem q319 (F324:EX) (F325:Pz):EQ (zlp (p319 F324 F325)) (sE 0 22 [] [zeb F324,TH F325] []) Tryz.f319 [(.tmp 4,32,false),(.tmp 5,40,false)]:=λ_ _ _=>by kernel_rfl
def F319:FA:=p319 F324 F325
theorem zss:OKP (zlp F319):=ST.ok0 (q319 F324 F325) (Dk zsp (Dk QH Dl)) Tryz.func319
abbrev FH:=(R:Type)->(LI×Unit)->Int->Int->((LI×Unit)->Int->Option R)->Option R
def zl0 (F:FH):Ent:=eV 301 [(.pair (.sl (.int .u64)) .unit),(.int .i64),(.int .u64)] [(.pair (.sl (.int .u64)) .unit),(.int .i64)] F
abbrev ZJ (Z:Type):=Int->Int->Int->(LI×Unit)->LI->Z
abbrev zhc (R:Type):=((LI×Unit)->LI->Option R)->Option R
abbrev O9:=(R:Type)->ZJ (zhc R)
def BY (L:O9):LEnt:=lM 9 [.val 2 (.int .u64),.fix 6 (.ptr 1 [] (.pair (.sl (.int .u64)) .unit)),.val 8 (.int .u64),.fix 12 (.own 2 0),.val 13 (.int .i64),.var 1 (.pair (.sl (.int .u64)) .unit) false,.row 2 (.int .u64) false] 3 [(.exit 0,[.fix 6 (.ptr 1 [] (.pair (.sl (.int .u64)) .unit)),.fix 12 (.own 2 0),.var 1 (.pair (.sl (.int .u64)) .unit) false,.row 2 (.int .u64) false])] L
def e301 (F225:N7) (F289:N6) (F290:J8) (F308:N5) (F319:FA) (L9:O9):=sE 0 64 [] [TO F225,zei F289,LU F290,TI F308,zlp F319] [BY L9]
def PC (F290:J8) (R:Type):ZJ (ZJ (Option R)->zhc R):=λx1 x2 x3 x4 x5 kc k0=>
(match decide (x3<=(x5.length:Int)) with
|true=>let v8:=i64.wrap (x3 - 1);let v9:=i64.wrap (x3 - 1);(match bnd v9 x5.length with
|true=>(match bnd v8 x5.length with
|true=>F290 R x3 λy14=>
kc x1 x2 (i64.wrap (x3+y14)) x4 (x5.set v8.toNat (u64.wrap ((u64.wrap ((x5.getD v9.toNat 0) - x2))+x1)))
|false=>none)
|false=>none)
|false=>k0 x4 x5)
theorem zrl (F225:N7) (F289:N6) (F290:J8) (F308:N5) (F319:FA) (L9:O9):LEQ (BY L9) (e301 F225 F289 F290 F308 F319 L9) Tryz.f301 (PC F290):=λ_ _ _ _=>by kernel_rfl
def Su:Nat->O9
 | 0=>λ_ _ _ _ _ _ _=>none
 | n+1=>λR x1 x2 x3 x4 x5 k0=>PC F290 R x1 x2 x3 x4 x5 (λx1 x2 x3 x4 x5=>Su n R x1 x2 x3 x4 x5 k0) k0
def p301 (F225:N7) (F289:N6) (F308:N5) (F319:FA) (L9:O9):FH:=λR a0 a1 a2 k=>
F319 R a0 a1 λy1 y2=>
(match y2 !=0 with
|true=>k (([]:LI),()) y2
|false=>F308 R a0 λy4=>
F225 R (u64.wrap (y4 - y1)) a2 λy6 y7=>
(match (!y7) with
|true=>k (([]:LI),()) (11:Int)
|false=>F289 R a0.1 λy8=>
L9 R a2 y1 (i64.wrap (a1+1)) (([]:LI),()) y8 (λx10 x11=>
k (x11,()) (0:Int))))
theorem q301 (F225:N7) (F289:N6) (F290:J8) (F308:N5) (F319:FA) (L9:O9):EQ (zl0 (p301 F225 F289 F308 F319 L9)) (e301 F225 F289 F290 F308 F319 L9) Tryz.f301 [(.cell 6 221,221,false),(.tmp 7,40,false)]:=λ_ _ _=>by kernel_rfl
def F301:FH:=p301 F225 F289 F308 F319 (Su FUEL)
theorem zcl:LKP (BY (Su FUEL)) 0 64 9 Tryz.f301:=ST.lok (zrl F225 F289 F290 F308 F319 (Su FUEL)) (Dk QJ (Dk KW (Dk Yc (Dk KV (Dk zss Dl))))) [] trivial
theorem zsz:OKP (zl0 F301):=ST.ok1 (q301 F225 F289 F290 F308 F319 (Su FUEL)) (Dk QJ (Dk KW (Dk Yc (Dk KV (Dk zss Dl))))) Tryz.func301 [9] ⟨⟨_,rfl,zcl⟩,trivial⟩
abbrev WM:=(R:Type)->(LI×Unit)->Int->Tq40->Int->(LI->Tq40->Int->Option R)->Option R
def zma (F:WM):Ent:=eV 278 [(.pair (.sl (.int .u64)) .unit),(.int .i64),Kq40,(.int .i64)] [(.sl (.int .i64)),Kq40,(.int .i64)] F
abbrev ZN (Z:Type):=Int->Int->(LI×Unit)->Tq40->LI->Tq40->Z
abbrev zhg (R:Type):=(Int->Tq40->Option R)->(Tq40->LI->Tq40->Option R)->Option R
abbrev Pd:=(R:Type)->ZN (zhg R)
def CC (L:Pd):LEnt:=lM 5 [.val 1 (.int .i64),.val 3 (.int .i64),.fix 4 (.ptr 0 [] (.pair (.sl (.int .u64)) .unit)),.fix 6 (.ptr 1 [] Kq40),.fix 8 (.own 2 0),.fix 9 (.ptr 3 [] Kq40),.var 0 (.pair (.sl (.int .u64)) .unit) false,.var 1 Kq40 false,.row 2 (.int .i64) false,.var 3 Kq40 false] 4 [(.ret,[.fix 8 .nil,.fix 9 (.ptr 3 [] Kq40),.val 10 (.int .i64),.var 3 Kq40 false]),(.exit 1,[.fix 6 (.ptr 1 [] Kq40),.fix 8 (.own 2 0),.fix 9 (.ptr 3 [] Kq40),.var 1 Kq40 false,.row 2 (.int .i64) false,.var 3 Kq40 false])] L
def e278 (F189:Wt) (F291:Wn) (F299:FJ) (F300:FI) (F301:FH) (L5:Pd):=sE 0 61 [(0,2)] [zev F189,zeh F291,zl2 F299,zl1 F300,zl0 F301] [CC L5]
def IB (F291:Wn) (F301:FH) (R:Type):ZN (ZN (Option R)->zhg R):=λx1 x2 x3 x4 x5 x6 kc k0 k1=>
(match decide ((x5.length:Int)<x1) with
|true=>F291 R x3 x4 x2 λy9 y10 y11=>
(match y11 !=0 with
|true=>k0 y11 y10
|false=>let v13:=([y9]:LI);(match (decide (x5.length+v13.length<=17592186044416)) with
|true=>F301 R x3 y9 (0:Int) λy15 y16=>
(match y16 !=0 with
|true=>k0 y16 y10
|false=>kc x1 x2 y15 y10 (x5++v13) x6)
|false=>none))
|false=>k1 x4 x5 x6)
theorem zrp (F189:Wt) (F291:Wn) (F299:FJ) (F300:FI) (F301:FH) (L5:Pd):LEQ (CC L5) (e278 F189 F291 F299 F300 F301 L5) Tryz.f278 (IB F291 F301):=λ_ _ _ _=>by kernel_rfl
def Qj:Nat->Pd
 | 0=>λ_ _ _ _ _ _ _ _ _=>none
 | n+1=>λR x1 x2 x3 x4 x5 x6 k0 k1=>IB F291 F301 R x1 x2 x3 x4 x5 x6 (λx1 x2 x3 x4 x5 x6=>Qj n R x1 x2 x3 x4 x5 x6 k0 k1) k0 k1
def p278 (F189:Wt) (F299:FJ) (F300:FI) (L5:Pd):WM:=λR a0 a1 a2 a3 k=>
F299 R a1 a2 a3 λy1=>
(match (!y1) with
|true=>k ([]:LI) a2 (1:Int)
|false=>F300 R a0 λy2=>
F189 R y2 λy3=>
(match decide (y3<a1) with
|true=>k ([]:LI) a2 (12:Int)
|false=>L5 R a1 a3 a0 a2 ([]:LI) ((0:Int),([]:LI),(0:Int),(replicate 32 (0:Int)),(0:Int),(0:Int),()) (λx5 x6=>
k ([]:LI) x6 x5) (λx7 x8 x9=>
k x8 x7 (0:Int))))
theorem q278 (F189:Wt) (F291:Wn) (F299:FJ) (F300:FI) (F301:FH) (L5:Pd):EQ (zma (p278 F189 F299 F300 L5)) (e278 F189 F291 F299 F300 F301 L5) Tryz.f278 [(.tmp 8,36,false),(.cell 9 225,225,false),(.tmp 10,40,false)]:=λ_ _ _=>by kernel_rfl
def F278:WM:=p278 F189 F299 F300 (Qj FUEL)
theorem zcp:LKP (CC (Qj FUEL)) 0 61 5 Tryz.f278:=ST.lok (zrp F189 F291 F299 F300 F301 (Qj FUEL)) (Dk zj2 (Dk zjq (Dk zs1 (Dk zs0 (Dk zsz Dl))))) [] trivial
theorem zyk:OKP (zma F278):=ST.ok1 (q278 F189 F291 F299 F300 F301 (Qj FUEL)) (Dk zj2 (Dk zjq (Dk zs1 (Dk zs0 (Dk zsz Dl))))) Tryz.func278 [5] ⟨⟨_,rfl,zcp⟩,trivial⟩
abbrev WU:=(R:Type)->Int->Tq40->Int->LI->(LI->Tq40->Int->Option R)->Option R
def zmp (F:WU):Ent:=eV 246 [(.int .i64),Kq40,(.int .i64),(.sl (.int .u64))] [(.sl (.int .i64)),Kq40,(.int .i64)] F
def p246 (F272:Wo) (F278:WM):WU:=λR a0 a1 a2 a3 k=>
F272 R a3 λy1 y2=>
(match y2 !=0 with
|true=>k ([]:LI) a1 y2
|false=>F278 R y1 a0 a1 a2 λy4 y5 y6=>
k y4 y5 y6)
theorem q246 (F272:Wo) (F278:WM):EQ (zmp (p246 F272 F278)) (sE 0 30 [] [zej F272,zma F278] []) Tryz.f246 [(.tmp 8,36,false),(.cell 9 225,225,false),(.tmp 10,40,false)]:=λ_ _ _=>by kernel_rfl
def F246:WU:=p246 F272 F278
theorem zyw:OKP (zmp F246):=ST.ok0 (q246 F272 F278) (Dk zju (Dk zyk Dl)) Tryz.func246
abbrev XF:=(R:Type)->LI->Int->Int->Int->LI->(LI->Int->Option R)->Option R
def zm6 (F:XF):Ent:=eV 192 [(.arr 32 (.int .u8)),(.int .i64),(.int .i64),(.int .i64),(.sl (.int .u64))] [(.sl (.int .i64)),(.int .i64)] F
def p192 (F243:Th) (F245:Wq) (F246:WU):XF:=λR a0 a1 a2 a3 a4 k=>
F243 R (a0,a3,()) a1 λy1=>
(match (!y1) with
|true=>k ([]:LI) (1:Int)
|false=>F245 R (a0,a3,()) (3:Int) a1 λy2=>
F246 R a2 y2 a3 a4 λy3 y4 y5=>
k y3 y5)
theorem q192 (F243:Th) (F245:Wq) (F246:WU):EQ (zm6 (p192 F243 F245 F246)) (sE 0 36 [] [TL F243,TK F245,zmp F246] []) Tryz.f192 [(.tmp 10,36,false),(.tmp 11,40,false)]:=λ_ _ _=>by kernel_rfl
def F192:XF:=p192 F243 F245 F246
theorem zzb:OKP (zm6 F192):=ST.ok0 (q192 F243 F245 F246) (Dk zb0 (Dk zjx (Dk zyw Dl))) Tryz.func192
abbrev MO:=(R:Type)->Tq31->Tq11->(Int->Tq31->Option R)->Option R
def zno (F:MO):Ent:=eM 137 [(true,Kq31),(false,Kq11)] [(false,(.int .i64))] F
def p137 (F188:Wu) (F190:N8) (F192:XF):MO:=λR a0 a1 k=>
F188 R a0 a1.2.2.2.2.1 λy1 p2=>
(match y1 !=0 with
|true=>k y1 p2
|false=>F190 R p2.1.2.2.1 λy4=>
F192 R p2.1.2.2.2.1.2.1 a1.2.2.2.2.1 a1.2.1 p2.1.1.2.2.2.1 y4 λy5 y6=>
k y6 (p2.1,(p2.2.1.1,p2.2.1.2.1,y5,p2.2.1.2.2.2),p2.2.2))
theorem q137 (F188:Wu) (F190:N8) (F192:XF):EQ (zno (p137 F188 F190 F192)) (sE 1 44 [] [TR F188,DJ F190,zm6 F192] []) Tryz.f137 [(.tmp 4,40,false)]:=λ_ _ _=>by kernel_rfl
def F137:MO:=p137 F188 F190 F192
theorem zzp:OKP (zno F137):=ST.ok0 (q137 F188 F190 F192) (Dk zj3 (Dk QL (Dk zzb Dl))) Tryz.func137
abbrev MN:=(R:Type)->Tq31->Tq11->(Int->Tq31->Option R)->Option R
def znn (F:MN):Ent:=eM 138 [(true,Kq31),(false,Kq11)] [(false,(.int .i64))] F
def p138 (F180:Ti):MN:=λR a0 a1 k=>
F180 R a0 a1.2.1 λy1 p2=>
(match y1 !=0 with
|true=>k y1 p2
|false=>(match bnd a1.2.1 p2.1.2.2.1.length with
|true=>let v4:=p2.1.2.2.1.getD a1.2.1.toNat ((replicate 32 0),0,0,());(match a1.2.2.2.2.1==0 with
|true=>k (0:Int) (p2.1,(p2.2.1.1,v4.2.1,p2.2.1.2.2),p2.2.2)
|false=>k (0:Int) (p2.1,(p2.2.1.1,v4.2.2.1,p2.2.1.2.2),p2.2.2))
|false=>none))
theorem q138 (F180:Ti):EQ (znn (p138 F180)) (sE 1 38 [] [TS F180] []) Tryz.f138 [(.tmp 4,40,false)]:=λ_ _ _=>by kernel_rfl
def F138:MN:=p138 F180
theorem zzo:OKP (znn F138):=ST.ok0 (q138 F180) (Dk zj4 Dl) Tryz.func138
abbrev MM:=(R:Type)->Tq31->Tq11->(Int->Tq31->Option R)->Option R
def znm (F:MM):Ent:=eM 139 [(true,Kq31),(false,Kq11)] [(false,(.int .i64))] F
def p139:MM:=λR a0 a1 k=>
k (0:Int) (a0.1,(a0.2.1.1,a0.1.2.2.2.1.1,a0.2.1.2.2.1,a0.1.2.2.2.1.2.1,a0.2.1.2.2.2.2),a0.2.2)
theorem q139:EQ (znm p139) (sE 1 25 [] [] []) Tryz.f139 [(.tmp 4,40,false)]:=λ_ _ _=>by kernel_rfl
def F139:MM:=p139
theorem zzn:OKP (znm F139):=ST.ok0 q139 Dl Tryz.func139
abbrev FT77:=(R:Type)->Tq11->(LI->Option R)->Option R
def en77 (F:FT77):Ent:=eV 77 [Kq11] [(.sl (.int .u8))] F
abbrev zqp (Z:Type):=(List Tq7)->Int->Int->Tq11->LI->Z
abbrev zvw (R:Type):=(LI->Option R)->Option R
abbrev Uj:=(R:Type)->zqp (zvw R)
def RF (L:Uj):LEnt:=lM 6 [.fix 1 (.ptr 0 [] Kq11),.fix 5 (.own 1 0),.val 24 (.sl Kq7),.val 25 (.int .i64),.val 26 (.int .i64),.var 0 Kq11 false,.row 1 (.int .u8) false] 2 [(.exit 0,[.fix 5 (.own 1 0),.row 1 (.int .u8) false])] L
def zgg (F169:GF) (R:Type):Env R:=⟨TT,EQT,0,6,E2 [],En [znf F169] R,λ_ _ _=>none,[],Ep [],[],λ_ _ _ _=>none⟩
theorem zd7 (R:Type):D7 Tryz.prog (zgg F169 R):=⟨tabOK,eqOK,Dz (Dk ztr Dl),E7,Du,noYl⟩
def zge (F115:N9) (R:Type):Env R:=⟨TT,EQT,0,8,E2 [],En [DK F115] R,λ_ _ _=>none,[],Ep [],[],λ_ _ _ _=>none⟩
theorem zd5 (R:Type):D7 Tryz.prog (zge F115 R):=⟨tabOK,eqOK,Dz (Dk QM Dl),E7,Du,noYl⟩
def zgc (F218:Qx) (R:Type):Env R:=⟨TT,EQT,0,12,E2 [(1,1)],En [TQ F218] R,λ_ _ _=>none,[],Ep [(175,xinl (TY R) (Ds Tryz.f175) [.tmp 2] 1),(176,xinl (TX R) (Ds Tryz.f176) [.tmp 2] 1)],[(FnV.fn 175),(FnV.fn 176)],λ_ _ _ _=>none⟩
theorem zd3 (R:Type):D7 Tryz.prog (zgc F218 R):=⟨tabOK,eqOK,Dz (Dk zb4 Dl),E7,(Ed (El (JB R) mixed Tryz.func175 (body:=Ds Tryz.f175) (by kernel_rfl) (by kernel_rfl) (by kernel_rfl) (res:=[.tmp 2]) (by kernel_rfl) (n:=1) (Bj rfl) (by kernel_rfl)) (Ed (El (JA R) mixed Tryz.func176 (body:=Ds Tryz.f176) (by kernel_rfl) (by kernel_rfl) (by kernel_rfl) (res:=[.tmp 2]) (by kernel_rfl) (n:=1) (Bj rfl) (by kernel_rfl)) Du)),noYl⟩
def e77 (F88:FT88) (F115:N9) (F169:GF) (F218:Qx) (L6:Uj) (R:Type):Env R:=⟨TT,EQT,0,38,E2 [(4,3),(8,4)],En [en88 F88,DK F115,znf F169,TQ F218] R,Et [RF L6] R,[],Ep [(168,xinl (zgg F169 R) (Ds Tryz.f168) [.tmp 2] 1),(171,xinl (zge F115 R) (Ds Tryz.f171) [.tmp 2] 1),(217,xinl (zgc F218 R) (Ds Tryz.f217) [.tmp 3] 2)],[(FnV.fn 168),(FnV.fn 171),(FnV.clo 217 (FnV.fn 175)),(FnV.clo 217 (FnV.fn 176))],λ_ _ _ _=>none⟩
def zjc (F115:N9) (F169:GF) (F218:Qx) (R:Type):zqp (zqp (Option R)->zvw R):=λx1 x2 x3 x4 x5 kc k0=>
(match decide (x3<x2) with
|true=>(match bnd x3 x1.length with
|true=>let v7:=x1.getD x3.toNat (0,FnV.nil,FnV.nil,());(match (FnV.same v7.2.1 (FnV.fn 168)) with
|true=>F169 R (List.take 32 (List.drop 0 x4.2.2.2.1)) λy8=>
(match (decide (x5.length+y8.length<=140737488355328)) with
|true=>kc x1 x2 (i64.wrap (x3+1)) x4 (x5++y8)
|false=>none)
|false=>(match (FnV.same v7.2.1 (FnV.fn 171)) with
|true=>F115 R x4.2.2.1 λy11=>
(match (decide (x5.length+List.length (List.take 8 (List.drop 0 y11))<=140737488355328)) with
|true=>kc x1 x2 (i64.wrap (x3+1)) x4 (x5++(List.take 8 (List.drop 0 y11)))
|false=>none)
|false=>(match (FnV.same v7.2.1 (FnV.clo 217 (FnV.fn 175))) with
|true=>F218 R (u32.wrap x4.2.1) λy15=>
(match (decide (x5.length+List.length (List.take 4 (List.drop 0 y15))<=140737488355328)) with
|true=>kc x1 x2 (i64.wrap (x3+1)) x4 (x5++(List.take 4 (List.drop 0 y15)))
|false=>none)
|false=>(match (FnV.same v7.2.1 (FnV.clo 217 (FnV.fn 176))) with
|true=>F218 R (u32.wrap x4.2.2.2.2.1) λy19=>
(match (decide (x5.length+List.length (List.take 4 (List.drop 0 y19))<=140737488355328)) with
|true=>kc x1 x2 (i64.wrap (x3+1)) x4 (x5++(List.take 4 (List.drop 0 y19)))
|false=>none)
|false=>none))))
|false=>none)
|false=>k0 x5)
theorem zxr (F88:FT88) (F115:N9) (F169:GF) (F218:Qx) (L6:Uj):LEQ (RF L6) (e77 F88 F115 F169 F218 L6) Tryz.f77 (zjc F115 F169 F218):=λ_ _ _ _=>by kernel_rfl
def Zn:Nat->Uj
 | 0=>λ_ _ _ _ _ _ _=>none
 | n+1=>λR x1 x2 x3 x4 x5 k0=>zjc F115 F169 F218 R x1 x2 x3 x4 x5 (λx1 x2 x3 x4 x5=>Zn n R x1 x2 x3 x4 x5 k0) k0
def p77 (F88:FT88) (L6:Uj):FT77:=λR a0 k=>
F88 R a0.1 λy1 y2=>
(match (!y2) with
|true=>k ([(u8.wrap a0.2.2.2.2.1)]:LI)
|false=>L6 R y1 (y1.length:Int) (0:Int) a0 ([(u8.wrap a0.1)]:LI) (λx8=>
k x8))
theorem q77 (F88:FT88) (F115:N9) (F169:GF) (F218:Qx) (L6:Uj):EQ (en77 (p77 F88 L6)) (e77 F88 F115 F169 F218 L6) Tryz.f77 [(.tmp 2,25,false)]:=λ_ _ _=>by kernel_rfl
def F77:FT77:=p77 F88 (Zn FUEL)
theorem zt3 (R:Type):D7 Tryz.prog (e77 F88 F115 F169 F218 (Zn FUEL) R):=⟨tabOK,eqOK,Dz (Dk ok88 (Dk QM (Dk ztr (Dk zb4 Dl)))),E7,(Ed (El (zd7 R) mixed Tryz.func168 (body:=Ds Tryz.f168) (by kernel_rfl) (by kernel_rfl) (by kernel_rfl) (res:=[.tmp 2]) (by kernel_rfl) (n:=1) (Bj rfl) (by kernel_rfl)) (Ed (El (zd5 R) mixed Tryz.func171 (body:=Ds Tryz.f171) (by kernel_rfl) (by kernel_rfl) (by kernel_rfl) (res:=[.tmp 2]) (by kernel_rfl) (n:=1) (Bj rfl) (by kernel_rfl)) (Ed (El (zd3 R) mixed Tryz.func217 (body:=Ds Tryz.f217) (by kernel_rfl) (by kernel_rfl) (by kernel_rfl) (res:=[.tmp 3]) (by kernel_rfl) (n:=2) (Bj rfl) (by kernel_rfl)) Du))),noYl⟩
theorem zkj:LKP (RF (Zn FUEL)) 0 38 6 Tryz.f77:=ST.lok3 (zxr F88 F115 F169 F218 (Zn FUEL)) zt3 (λ_=>rfl) (λ_=>rfl) (λ_=>rfl) [] trivial
theorem ok77:OKP (en77 F77):=ST.ok3 (q77 F88 F115 F169 F218 (Zn FUEL)) zt3 Tryz.func77 (λ_=>rfl) (λ_=>rfl) (λ_=>rfl) [6] ⟨⟨_,rfl,zkj⟩,trivial⟩
abbrev FT76:=(R:Type)->Tq11->(Bool->Option R)->Option R
def en76 (F:FT76):Ent:=eV 76 [Kq11] [.bool] F
def p76 (F61:FT61) (F77:FT77) (F89:FT89):FT76:=λR a0 k=>
(match decide (a0.2.1<0) with
|true=>k false
|false=>(match decide (a0.2.1>4294967295) with
|true=>k false
|false=>(match decide (a0.2.2.2.2.1<0) with
|true=>k false
|false=>(match decide (a0.2.2.2.2.1>4294967295) with
|true=>k false
|false=>F77 R a0 λy5=>
F61 R y5 λy6 y7=>
(match Kd.eqv Kq11 y6 a0 with
|true=>(match (y7.length:Int)==0 with
|true=>F89 R y5 λy11=>
k y11
|false=>k false)
|false=>k false)))))
theorem q76 (F61:FT61) (F77:FT77) (F89:FT89):EQ (en76 (p76 F61 F77 F89)) (sE 0 43 [] [en61 F61,en77 F77,en89 F89] []) Tryz.f76 [(.tmp 2,4,false)]:=λ_ _ _=>by kernel_rfl
def F76:FT76:=p76 F61 F77 F89
theorem ok76:OKP (en76 F76):=ST.ok0 (q76 F61 F77 F89) (Dk ok61 (Dk ok77 (Dk ok89 Dl))) Tryz.func76
abbrev FT62:=(R:Type)->Tq29->Tq11->(Tq29->Tq17->Option R)->Option R
def en62 (F:FT62):Ent:=eV 62 [Kq29,Kq11] [Kq29,Kq17] F
def zum (R:Type):Env R:=⟨TT,EQT,0,3,E2 [],En [] R,λ_ _ _=>none,[],Ep [],[],λ_ _ _ _=>none⟩
theorem zli (R:Type):D7 Tryz.prog (zum R):=⟨tabOK,eqOK,Dz Dl,E7,Du,noYl⟩
def e62 (F76:FT76) (F126:MZ) (F127:MY) (F128:MX) (F129:MW) (F132:MU) (F134:MR) (F135:MQ) (F136:MP) (F137:MO) (F138:MN) (F139:MM) (R:Type):Env R:=⟨TT,EQT,0,46,E2 [(1,0)],En [en76 F76,zny F126,znx F127,znw F128,znv F129,znt F132,znr F134,znq F135,znp F136,zno F137,znn F138,znm F139] R,Et [] R,[],Ep [(90,xinl (zum R) (Ds Tryz.f90) [.tmp 0] 0)],[(FnV.fn 126),(FnV.fn 127),(FnV.fn 128),(FnV.fn 129),(FnV.fn 132),(FnV.fn 134),(FnV.fn 135),(FnV.fn 136),(FnV.fn 137),(FnV.fn 138),(FnV.fn 139)],λ_ _ _ _=>none⟩
def p62 (F76:FT76) (F126:MZ) (F127:MY) (F128:MX) (F129:MW) (F132:MU) (F134:MR) (F135:MQ) (F136:MP) (F137:MO) (F138:MN) (F139:MM):FT62:=λR a0 a1 k=>
(match (Option.isNone (E9 (Kd.eqv (.int .i64)) ([]:List (Int×FnV)) (1:Int))) with
|true=>let v1:=([]:List (Int×FnV))++[((1:Int),(FnV.fn 126))];(match (Option.isNone (E9 (Kd.eqv (.int .i64)) v1 (2:Int))) with
|true=>let v2:=v1++[((2:Int),(FnV.fn 127))];(match (Option.isNone (E9 (Kd.eqv (.int .i64)) v2 (3:Int))) with
|true=>let v3:=v2++[((3:Int),(FnV.fn 128))];(match (Option.isNone (E9 (Kd.eqv (.int .i64)) v3 (4:Int))) with
|true=>let v4:=v3++[((4:Int),(FnV.fn 129))];(match (Option.isNone (E9 (Kd.eqv (.int .i64)) v4 (5:Int))) with
|true=>let v5:=v4++[((5:Int),(FnV.fn 132))];(match (Option.isNone (E9 (Kd.eqv (.int .i64)) v5 (6:Int))) with
|true=>let v6:=v5++[((6:Int),(FnV.fn 134))];(match (Option.isNone (E9 (Kd.eqv (.int .i64)) v6 (7:Int))) with
|true=>let v7:=v6++[((7:Int),(FnV.fn 135))];(match (Option.isNone (E9 (Kd.eqv (.int .i64)) v7 (8:Int))) with
|true=>let v8:=v7++[((8:Int),(FnV.fn 136))];(match (Option.isNone (E9 (Kd.eqv (.int .i64)) v8 (9:Int))) with
|true=>let v9:=v8++[((9:Int),(FnV.fn 137))];(match (Option.isNone (E9 (Kd.eqv (.int .i64)) v9 (10:Int))) with
|true=>let v10:=v9++[((10:Int),(FnV.fn 138))];(match (Option.isNone (E9 (Kd.eqv (.int .i64)) v10 (11:Int))) with
|true=>let v11:=v10++[((11:Int),(FnV.fn 139))];let v12:=Option.getD (E9 (Kd.eqv (.int .i64)) v11 a1.1) FnV.nil;(match (!(Option.isSome (E9 (Kd.eqv (.int .i64)) v11 a1.1))) with
|true=>k a0 ((2:Int),(0:Int),([]:LI),(replicate 32 (0:Int)),())
|false=>F76 R a1 λy14=>
(match (!y14) with
|true=>k a0 ((2:Int),(0:Int),([]:LI),(replicate 32 (0:Int)),())
|false=>(match (FnV.same v12 (FnV.fn 126)) with
|true=>F126 R (a0,((0:Int),(0:Int),([]:LI),(replicate 32 (0:Int)),()),()) a1 λy15 p16=>
(match y15 !=0 with
|true=>k a0 (y15,(0:Int),([]:LI),(replicate 32 (0:Int)),())
|false=>k p16.1 p16.2.1)
|false=>(match (FnV.same v12 (FnV.fn 127)) with
|true=>F127 R (a0,((0:Int),(0:Int),([]:LI),(replicate 32 (0:Int)),()),()) a1 λy18 p19=>
(match y18 !=0 with
|true=>k a0 (y18,(0:Int),([]:LI),(replicate 32 (0:Int)),())
|false=>k p19.1 p19.2.1)
|false=>(match (FnV.same v12 (FnV.fn 128)) with
|true=>F128 R (a0,((0:Int),(0:Int),([]:LI),(replicate 32 (0:Int)),()),()) a1 λy21 p22=>
(match y21 !=0 with
|true=>k a0 (y21,(0:Int),([]:LI),(replicate 32 (0:Int)),())
|false=>k p22.1 p22.2.1)
|false=>(match (FnV.same v12 (FnV.fn 129)) with
|true=>F129 R (a0,((0:Int),(0:Int),([]:LI),(replicate 32 (0:Int)),()),()) a1 λy24 p25=>
(match y24 !=0 with
|true=>k a0 (y24,(0:Int),([]:LI),(replicate 32 (0:Int)),())
|false=>k p25.1 p25.2.1)
|false=>(match (FnV.same v12 (FnV.fn 132)) with
|true=>F132 R (a0,((0:Int),(0:Int),([]:LI),(replicate 32 (0:Int)),()),()) a1 λy27 p28=>
(match y27 !=0 with
|true=>k a0 (y27,(0:Int),([]:LI),(replicate 32 (0:Int)),())
|false=>k p28.1 p28.2.1)
|false=>(match (FnV.same v12 (FnV.fn 134)) with
|true=>F134 R (a0,((0:Int),(0:Int),([]:LI),(replicate 32 (0:Int)),()),()) a1 λy30 p31=>
(match y30 !=0 with
|true=>k a0 (y30,(0:Int),([]:LI),(replicate 32 (0:Int)),())
|false=>k p31.1 p31.2.1)
|false=>(match (FnV.same v12 (FnV.fn 135)) with
|true=>F135 R (a0,((0:Int),(0:Int),([]:LI),(replicate 32 (0:Int)),()),()) a1 λy33 p34=>
(match y33 !=0 with
|true=>k a0 (y33,(0:Int),([]:LI),(replicate 32 (0:Int)),())
|false=>k p34.1 p34.2.1)
|false=>(match (FnV.same v12 (FnV.fn 136)) with
|true=>F136 R (a0,((0:Int),(0:Int),([]:LI),(replicate 32 (0:Int)),()),()) a1 λy36 p37=>
(match y36 !=0 with
|true=>k a0 (y36,(0:Int),([]:LI),(replicate 32 (0:Int)),())
|false=>k p37.1 p37.2.1)
|false=>(match (FnV.same v12 (FnV.fn 137)) with
|true=>F137 R (a0,((0:Int),(0:Int),([]:LI),(replicate 32 (0:Int)),()),()) a1 λy39 p40=>
(match y39 !=0 with
|true=>k a0 (y39,(0:Int),([]:LI),(replicate 32 (0:Int)),())
|false=>k p40.1 p40.2.1)
|false=>(match (FnV.same v12 (FnV.fn 138)) with
|true=>F138 R (a0,((0:Int),(0:Int),([]:LI),(replicate 32 (0:Int)),()),()) a1 λy42 p43=>
(match y42 !=0 with
|true=>k a0 (y42,(0:Int),([]:LI),(replicate 32 (0:Int)),())
|false=>k p43.1 p43.2.1)
|false=>(match (FnV.same v12 (FnV.fn 139)) with
|true=>F139 R (a0,((0:Int),(0:Int),([]:LI),(replicate 32 (0:Int)),()),()) a1 λy45 p46=>
(match y45 !=0 with
|true=>k a0 (y45,(0:Int),([]:LI),(replicate 32 (0:Int)),())
|false=>k p46.1 p46.2.1)
|false=>none)))))))))))))
|false=>none)
|false=>none)
|false=>none)
|false=>none)
|false=>none)
|false=>none)
|false=>none)
|false=>none)
|false=>none)
|false=>none)
|false=>none)
theorem q62 (F76:FT76) (F126:MZ) (F127:MY) (F128:MX) (F129:MW) (F132:MU) (F134:MR) (F135:MQ) (F136:MP) (F137:MO) (F138:MN) (F139:MM):EQ (en62 (p62 F76 F126 F127 F128 F129 F132 F134 F135 F136 F137 F138 F139)) (e62 F76 F126 F127 F128 F129 F132 F134 F135 F136 F137 F138 F139) Tryz.f62 [(.cell 4 38,38,false),(.cell 5 52,52,false)]:=λ_ _ _=>by kernel_rfl
def F62:FT62:=p62 F76 F126 F127 F128 F129 F132 F134 F135 F136 F137 F138 F139
theorem zz9 (R:Type):D7 Tryz.prog (e62 F76 F126 F127 F128 F129 F132 F134 F135 F136 F137 F138 F139 R):=⟨tabOK,eqOK,Dz (Dk ok76 (Dk zzz (Dk zzy (Dk zzx (Dk zzw (Dk zzu (Dk zzs (Dk zzr (Dk zzq (Dk zzp (Dk zzo (Dk zzn Dl)))))))))))),E7,(Ed (El (zli R) mixed Tryz.func90 (body:=Ds Tryz.f90) (by kernel_rfl) (by kernel_rfl) (by kernel_rfl) (res:=[.tmp 0]) (by kernel_rfl) (n:=0) (Bj rfl) (by kernel_rfl)) Du),noYl⟩
theorem ok62:OKP (en62 F62):=ST.ok3 (q62 F76 F126 F127 F128 F129 F132 F134 F135 F136 F137 F138 F139) zz9 Tryz.func62 (λ_=>rfl) (λ_=>rfl) (λ_=>rfl) [] trivial
abbrev FT33:=(R:Type)->Tq29->(List Tq11)->(Tq29->(List Tq17)->Option R)->Option R
def en33 (F:FT33):Ent:=eV 33 [Kq29,(.sl Kq11)] [Kq29,(.sl Kq17)] F
abbrev zqw (Z:Type):=(List Tq11)->Int->Int->Tq29->Tq29->(List Tq17)->Z
abbrev zv3 (R:Type):=(Tq29->Tq29->(List Tq17)->Option R)->Option R
abbrev Uq:=(R:Type)->zqw (zv3 R)
def RN (L:Uq):LEnt:=lM 3 [.fix 2 (.ptr 0 [] Kq29),.fix 4 (.ptr 1 [] Kq29),.fix 6 (.own 2 0),.val 11 (.sl Kq11),.val 12 (.int .i64),.val 13 (.int .i64),.var 0 Kq29 false,.var 1 Kq29 false,.row 2 Kq17 false] 3 [(.exit 0,[.fix 2 (.ptr 0 [] Kq29),.fix 4 (.ptr 1 [] Kq29),.fix 6 (.own 2 0),.var 0 Kq29 false,.var 1 Kq29 false,.row 2 Kq17 false])] L
def e33 (F62:FT62) (L3:Uq):=sE 0 31 [(1,0)] [en62 F62] [RN L3]
def zji (F62:FT62) (R:Type):zqw (zqw (Option R)->zv3 R):=λx1 x2 x3 x4 x5 x6 kc k0=>
(match decide (x3<x2) with
|true=>(match bnd x3 x1.length with
|true=>F62 R x4 (x1.getD x3.toNat (0,0,0,(replicate 32 0),0,())) λy9 y10=>
let v11:=([y10]:(List Tq17));(match (decide (x6.length+v11.length<=1954687338268)) with
|true=>kc x1 x2 (i64.wrap (x3+1)) y9 x5 (x6++v11)
|false=>none)
|false=>none)
|false=>k0 x4 x5 x6)
theorem zxy (F62:FT62) (L3:Uq):LEQ (RN L3) (e33 F62 L3) Tryz.f33 (zji F62):=λ_ _ _ _=>by kernel_rfl
def EI:Nat->Uq
 | 0=>λ_ _ _ _ _ _ _ _=>none
 | n+1=>λR x1 x2 x3 x4 x5 x6 k0=>zji F62 R x1 x2 x3 x4 x5 x6 (λx1 x2 x3 x4 x5 x6=>EI n R x1 x2 x3 x4 x5 x6 k0) k0
def p33 (L3:Uq):FT33:=λR a0 a1 k=>
L3 R a1 (a1.length:Int) (0:Int) a0 (((0:Int),(0:Int),(0:Int),(0:Int),(0:Int),()),(0:Int),([]:(List Tq5)),((0:Int),(replicate 32 (0:Int)),(replicate 32 (0:Int)),([]:(List Tq3)),()),([]:LI),([]:LI),()) ([]:(List Tq17)) (λx2 x3 x4=>
k x2 x4)
theorem q33 (F62:FT62) (L3:Uq):EQ (en33 (p33 L3)) (e33 F62 L3) Tryz.f33 [(.cell 4 38,38,false),(.tmp 5,39,false)]:=λ_ _ _=>by kernel_rfl
def F33:FT33:=p33 (EI FUEL)
theorem zkq:LKP (RN (EI FUEL)) 0 31 3 Tryz.f33:=ST.lok (zxy F62 (EI FUEL)) (Dk ok62 Dl) [] trivial
theorem ok33:OKP (en33 F33):=ST.ok1 (q33 F62 (EI FUEL)) (Dk ok62 Dl) Tryz.func33 [3] ⟨⟨_,rfl,zkq⟩,trivial⟩
abbrev FT10:=(R:Type)->Tq21->LI->LI->(Tq29->(List Tq17)->Int->Option R)->Option R
def en10 (F:FT10):Ent:=eV 10 [Kq21,(.arr 32 (.int .u8)),(.sl (.int .u8))] [Kq29,(.sl Kq17),(.int .i64)] F
def p10 (F31:FT31) (F32:FT32) (F33:FT33):FT10:=λR a0 a1 a2 k=>
F31 R a0 a1 λy1 y2=>
(match y2 !=0 with
|true=>k (((0:Int),(0:Int),(0:Int),(0:Int),(0:Int),()),(0:Int),([]:(List Tq5)),((0:Int),(replicate 32 (0:Int)),(replicate 32 (0:Int)),([]:(List Tq3)),()),([]:LI),([]:LI),()) ([]:(List Tq17)) y2
|false=>(match decide ((a2.length:Int)>100000) with
|true=>k (((0:Int),(0:Int),(0:Int),(0:Int),(0:Int),()),(0:Int),([]:(List Tq5)),((0:Int),(replicate 32 (0:Int)),(replicate 32 (0:Int)),([]:(List Tq3)),()),([]:LI),([]:LI),()) ([]:(List Tq17)) (14:Int)
|false=>F32 R a2 λy6=>
(match decide ((y6.length:Int)>2000) with
|true=>k (((0:Int),(0:Int),(0:Int),(0:Int),(0:Int),()),(0:Int),([]:(List Tq5)),((0:Int),(replicate 32 (0:Int)),(replicate 32 (0:Int)),([]:(List Tq3)),()),([]:LI),([]:LI),()) ([]:(List Tq17)) (14:Int)
|false=>F33 R y1 y6 λy9 y10=>
k y9 y10 (0:Int))))
theorem q10 (F31:FT31) (F32:FT32) (F33:FT33):EQ (en10 (p10 F31 F32 F33)) (sE 0 41 [] [en31 F31,en32 F32,en33 F33] []) Tryz.f10 [(.cell 6 38,38,false),(.tmp 7,39,false),(.tmp 8,40,false)]:=λ_ _ _=>by kernel_rfl
def F10:FT10:=p10 F31 F32 F33
theorem ok10:OKP (en10 F10):=ST.ok0 (q10 F31 F32 F33) (Dk ok31 (Dk ok32 (Dk ok33 Dl))) Tryz.func10
abbrev FT53:=(R:Type)->LI->(LI->Option R)->Option R
def en53 (F:FT53):Ent:=eM 53 [(false,(.arr 32 (.int .u8)))] [(true,(.int .u8))] F
abbrev zqt (Z:Type):=Int->LI->LI->Z
abbrev zv0 (R:Type):=(LI->Option R)->Option R
abbrev Un:=(R:Type)->zqt (zv0 R)
def RK (L:Un):LEnt:=lM 3 [.fix 1 (.ptr 0 [] (.arr 32 (.int .u8))),.fix 3 (.own 1 0),.val 4 (.int .i64),.var 0 (.arr 32 (.int .u8)) false,.row 1 (.int .u8) false] 2 [(.exit 0,[.fix 3 (.own 1 0),.row 1 (.int .u8) false])] L
def e53 (L3:Un):=sE 0 16 [(1,0)] [] [RK L3]
def zjf (R:Type):zqt (zqt (Option R)->zv0 R):=λx1 x2 x3 kc k0=>
(match decide (x1<32) with
|true=>(match (bnd x1 (32:Int)) with
|true=>let v6:=([(x2.getD x1.toNat 0)]:LI);(match (decide (x3.length+v6.length<=140737488355328)) with
|true=>kc (i64.wrap (x1+1)) x2 (x3++v6)
|false=>none)
|false=>none)
|false=>k0 x3)
theorem zxv (L3:Un):LEQ (RK L3) (e53 L3) Tryz.f53 zjf:=λ_ _ _ _=>by kernel_rfl
def EF:Nat->Un
 | 0=>λ_ _ _ _ _=>none
 | n+1=>λR x1 x2 x3 k0=>zjf R x1 x2 x3 (λx1 x2 x3=>EF n R x1 x2 x3 k0) k0
def p53 (L3:Un):FT53:=λR a0 k=>
L3 R (0:Int) a0 ([]:LI) (λx1=>
k x1)
theorem q53 (L3:Un):EQ (en53 (p53 L3)) (e53 L3) Tryz.f53 [(.tmp 2,25,true)]:=λ_ _ _=>by kernel_rfl
def F53:FT53:=p53 (EF FUEL)
theorem zkn:LKP (RK (EF FUEL)) 0 16 3 Tryz.f53:=ST.lok (zxv (EF FUEL)) Dl [] trivial
theorem ok53:OKP (en53 F53):=ST.ok1 (q53 (EF FUEL)) Dl Tryz.func53 [3] ⟨⟨_,rfl,zkn⟩,trivial⟩
abbrev XW:=(R:Type)->LI->Int->(LI->Bool->Option R)->Option R
def zn5 (F:XW):Ent:=eV 117 [(.sl (.int .u8)),(.int .u64)] [(.sl (.int .u8)),.bool] F
abbrev zau (Z:Type):=Int->LI->Z
abbrev zh6 (R:Type):=(Int->LI->Option R)->Option R
abbrev M2:=(R:Type)->zau (zh6 R)
def DC (L:M2):LEnt:=lM 4 [.val 1 (.int .u64),.fix 6 (.own 0 0),.row 0 (.int .u8) false] 1 [(.exit 0,[.val 1 (.int .u64),.fix 6 (.own 0 0),.row 0 (.int .u8) false])] L
abbrev zat (Z:Type):=Int->LI->LI->Z
abbrev zh5 (R:Type):=(LI->Option R)->Option R
abbrev M1:=(R:Type)->zat (zh5 R)
def DB (L:M1):LEnt:=lM 8 [.fix 6 (.own 0 0),.fix 7 (.ptr 1 [] (.arr 8 (.int .u8))),.val 8 (.int .i64),.row 0 (.int .u8) false,.var 1 (.arr 8 (.int .u8)) false] 2 [(.exit 2,[.fix 6 (.own 0 0),.row 0 (.int .u8) false])] L
def e117 (F54:FT54) (L4:M2) (L8:M1):=sE 0 45 [(3,0)] [en54 F54] [DC L4,DB L8]
def IE (R:Type):zau (zau (Option R)->zh6 R):=λx1 x2 kc k0=>
(match (Int.tmod (x2.length:Int) (64:Int)) !=56 with
|true=>let v6:=([(0:Int)]:LI);(match (decide (x2.length+v6.length<=140737488355328)) with
|true=>kc x1 (x2++v6)
|false=>none)
|false=>k0 x1 x2)
theorem zsg (F54:FT54) (L4:M2) (L8:M1):LEQ (DC L4) (e117 F54 L4 L8) Tryz.f117 IE:=λ_ _ _ _=>by kernel_rfl
def N3:Nat->M2
 | 0=>λ_ _ _ _=>none
 | n+1=>λR x1 x2 k0=>IE R x1 x2 (λx1 x2=>N3 n R x1 x2 k0) k0
def QE (R:Type):zat (zat (Option R)->zh5 R):=λx1 x2 x3 kc k0=>
(match decide (x1<8) with
|true=>(match (bnd x1 (8:Int)) with
|true=>let v6:=([(x3.getD x1.toNat 0)]:LI);(match (decide (x2.length+v6.length<=140737488355328)) with
|true=>kc (i64.wrap (x1+1)) (x2++v6) x3
|false=>none)
|false=>none)
|false=>k0 x2)
theorem zsf (F54:FT54) (L4:M2) (L8:M1):LEQ (DB L8) (e117 F54 L4 L8) Tryz.f117 QE:=λ_ _ _ _=>by kernel_rfl
def N2:Nat->M1
 | 0=>λ_ _ _ _ _=>none
 | n+1=>λR x1 x2 x3 k0=>QE R x1 x2 x3 (λx1 x2 x3=>N2 n R x1 x2 x3 k0) k0
def p117 (F54:FT54) (L4:M2) (L8:M1):XW:=λR a0 a1 k=>
(match decide (a1>=2305843009213693952) with
|true=>k ([]:LI) false
|false=>(match (u64.wrap (a0.length:Int)) !=(Int.tmod a1 (64:Int)) with
|true=>k ([]:LI) false
|false=>let v6:=([]:LI);(match (decide (v6.length+a0.length<=140737488355328)) with
|true=>let v7:=v6++a0;let v8:=([(128:Int)]:LI);(match (decide (v7.length+v8.length<=140737488355328)) with
|true=>L4 R a1 (v7++v8) (λx10 x11=>
F54 R (u64.wrap ((8:Int)*x10)) λy13=>
L8 R (0:Int) x11 y13 (λx14=>
k x14 true))
|false=>none)
|false=>none)))
theorem q117 (F54:FT54) (L4:M2) (L8:M1):EQ (zn5 (p117 F54 L4 L8)) (e117 F54 L4 L8) Tryz.f117 [(.tmp 4,25,false),(.tmp 5,4,false)]:=λ_ _ _=>by kernel_rfl
def F117:XW:=p117 F54 (N3 FUEL) (N2 FUEL)
theorem zdg:LKP (DC (N3 FUEL)) 0 45 4 Tryz.f117:=ST.lok (zsg F54 (N3 FUEL) (N2 FUEL)) (Dk ok54 Dl) [] trivial
theorem zdf:LKP (DB (N2 FUEL)) 0 45 8 Tryz.f117:=ST.lok (zsf F54 (N3 FUEL) (N2 FUEL)) (Dk ok54 Dl) [] trivial
theorem zz5:OKP (zn5 F117):=ST.ok1 (q117 F54 (N3 FUEL) (N2 FUEL)) (Dk ok54 Dl) Tryz.func117 [4,8] ⟨⟨_,rfl,zdg⟩,⟨⟨_,rfl,zdf⟩,trivial⟩⟩
abbrev FT82:=(R:Type)->LI->(LI->Option R)->Option R
def en82 (F:FT82):Ent:=eV 82 [(.sl (.int .u8))] [(.sl (.int .u8))] F
def p82 (F117:XW):FT82:=λR a0 k=>
let v4:=i64.wrap ((a0.length:Int) - (Int.tmod (a0.length:Int) (64:Int)));(match (decide (0<=v4/\v4<=(a0.length:Int)/\(a0.length:Int)<=(a0.length:Int)/\(a0.length:Int)<=(a0.length:Int))) with
|true=>F117 R (List.take (Int.toNat ((a0.length:Int) - v4)) (List.drop v4.toNat a0)) (u64.wrap (a0.length:Int)) λy8 y9=>
let v10:=([]:LI);(match (decide (0<=(0:Int)/\(0:Int)<=v4/\v4<=v4/\v4<=(a0.length:Int))) with
|true=>let v11:=List.take (Int.toNat (v4 - 0)) (List.drop 0 a0);(match (decide (v10.length+v11.length<=140737488355328)) with
|true=>let v12:=v10++v11;(match (decide (v12.length+y8.length<=140737488355328)) with
|true=>k (v12++y8)
|false=>none)
|false=>none)
|false=>none)
|false=>none)
theorem q82 (F117:XW):EQ (en82 (p82 F117)) (sE 0 29 [(3,0)] [zn5 F117] []) Tryz.f82 [(.tmp 2,25,false)]:=λ_ _ _=>by kernel_rfl
def F82:FT82:=p82 F117
theorem ok82:OKP (en82 F82):=ST.ok0 (q82 F117) (Dk zz5 Dl) Tryz.func82
abbrev FT81:=(R:Type)->LI->((List LI)->LI->Option R)->Option R
def en81 (F:FT81):Ent:=eV 81 [(.sl (.int .u8))] [(.sl (.arr 64 (.int .u8))),(.sl (.int .u8))] F
abbrev zqm (Z:Type):=LI->Int->(List LI)->Z
abbrev zvt (R:Type):=(LI->Int->(List LI)->Option R)->Option R
abbrev Sp:=(R:Type)->zqm (zvt R)
def RB (L:Sp):LEnt:=lM 3 [.val 0 (.sl (.int .u8)),.fix 4 (.own 0 0),.val 5 (.int .i64),.row 0 (.arr 64 (.int .u8)) false] 1 [(.exit 0,[.val 0 (.sl (.int .u8)),.fix 4 (.own 0 0),.val 5 (.int .i64),.row 0 (.arr 64 (.int .u8)) false])] L
abbrev zql (Z:Type):=LI->Int->Int->(List LI)->LI->Z
abbrev zvs (R:Type):=(LI->Int->(List LI)->LI->Option R)->Option R
abbrev So:=(R:Type)->zql (zvs R)
def RA (L:So):LEnt:=lM 6 [.val 0 (.sl (.int .u8)),.fix 4 (.own 0 0),.val 5 (.int .i64),.fix 6 (.ptr 1 [] (.arr 64 (.int .u8))),.val 7 (.int .i64),.row 0 (.arr 64 (.int .u8)) false,.var 1 (.arr 64 (.int .u8)) false] 2 [(.exit 2,[.val 0 (.sl (.int .u8)),.fix 4 (.own 0 0),.val 5 (.int .i64),.fix 6 (.ptr 1 [] (.arr 64 (.int .u8))),.row 0 (.arr 64 (.int .u8)) false,.var 1 (.arr 64 (.int .u8)) false])] L
def e81 (L3:Sp) (L6:So):=sE 0 35 [(1,0)] [] [RB L3,RA L6]
def zi9 (R:Type):zql (zql (Option R)->zvs R):=λx1 x2 x3 x4 x5 kc k0=>
(match decide (x3<64) with
|true=>let v7:=i64.wrap (x2+x3);(match bnd v7 x1.length with
|true=>(match (bnd x3 (64:Int)) with
|true=>kc x1 x2 (i64.wrap (x3+1)) x4 (x5.set x3.toNat (x1.getD v7.toNat 0))
|false=>none)
|false=>none)
|false=>k0 x1 x2 x4 x5)
theorem zxn (L3:Sp) (L6:So):LEQ (RA L6) (e81 L3 L6) Tryz.f81 zi9:=λ_ _ _ _=>by kernel_rfl
def Zl:Nat->So
 | 0=>λ_ _ _ _ _ _ _=>none
 | n+1=>λR x1 x2 x3 x4 x5 k0=>zi9 R x1 x2 x3 x4 x5 (λx1 x2 x3 x4 x5=>Zl n R x1 x2 x3 x4 x5 k0) k0
def zja (L6:So) (R:Type):zqm (zqm (Option R)->zvt R):=λx1 x2 x3 kc k0=>
(match decide ((i64.wrap (x2+64))<=(x1.length:Int)) with
|true=>L6 R x1 x2 (0:Int) x3 (replicate 64 (0:Int)) (λx7 x8 x9 x10=>
let v11:=([x10]:(List LI));(match (decide (x9.length+v11.length<=2199023255552)) with
|true=>kc x7 (i64.wrap (x8+64)) (x9++v11)
|false=>none))
|false=>k0 x1 x2 x3)
theorem zxo (L3:Sp) (L6:So):LEQ (RB L3) (e81 L3 L6) Tryz.f81 (zja L6):=λ_ _ _ _=>by kernel_rfl
def Wk:Nat->Sp
 | 0=>λ_ _ _ _ _=>none
 | n+1=>λR x1 x2 x3 k0=>zja (Zl FUEL) R x1 x2 x3 (λx1 x2 x3=>Wk n R x1 x2 x3 k0) k0
def p81 (L3:Sp):FT81:=λR a0 k=>
L3 R a0 (0:Int) ([]:(List LI)) (λx1 x2 x3=>
(match (decide (0<=x2/\x2<=(x1.length:Int)/\(x1.length:Int)<=(x1.length:Int)/\(x1.length:Int)<=(x1.length:Int))) with
|true=>k x3 (List.take (Int.toNat ((x1.length:Int) - x2)) (List.drop x2.toNat x1))
|false=>none))
theorem q81 (L3:Sp) (L6:So):EQ (en81 (p81 L3)) (e81 L3 L6) Tryz.f81 [(.tmp 2,131,false),(.tmp 3,25,false)]:=λ_ _ _=>by kernel_rfl
def F81:FT81:=p81 (Wk FUEL)
theorem zkf:LKP (RA (Zl FUEL)) 0 35 6 Tryz.f81:=ST.lok (zxn (Wk FUEL) (Zl FUEL)) Dl [] trivial
theorem zkg:LKP (RB (Wk FUEL)) 0 35 3 Tryz.f81:=ST.lok (zxo (Wk FUEL) (Zl FUEL)) Dl [6] ⟨⟨_,rfl,zkf⟩,trivial⟩
theorem ok81:OKP (en81 F81):=ST.ok1 (q81 (Wk FUEL) (Zl FUEL)) Dl Tryz.func81 [3] ⟨⟨_,rfl,zkg⟩,trivial⟩
abbrev FT85:=(R:Type)->(LI->Option R)->Option R
def en85 (F:FT85):Ent:=eV 85 [] [(.arr 8 (.int .u32))] F
def p85:FT85:=λR k=>
k (List.set (List.set (List.set (List.set (List.set (List.set (List.set (List.set (replicate 8 (0:Int)) 0 (1779033703:Int)) 1 (3144134277:Int)) 2 (1013904242:Int)) 3 (2773480762:Int)) 4 (1359893119:Int)) 5 (2600822924:Int)) 6 (528734635:Int)) 7 (1541459225:Int))
theorem q85:EQ (en85 p85) (sE 0 2 [] [] []) Tryz.f85 [(.cell 0 137,137,false)]:=λ_ _ _=>by kernel_rfl
def F85:FT85:=p85
theorem ok85:OKP (en85 F85):=ST.ok0 q85 Dl Tryz.func85
abbrev zaa:=(R:Type)->Int->(Int->Option R)->Option R
def zm0 (F:zaa):Ent:=eV 212 [(.int .u32)] [(.int .u32)] F
def p212 (F259:Wp) (F260:FQ):zaa:=λR a0 k=>
F259 R a0 (17:Int) λy1=>
F259 R a0 (19:Int) λy2=>
F260 R a0 (10:Int) λy4=>
k (ixor .u32 (ixor .u32 y1 y2) y4)
theorem q212 (F259:Wp) (F260:FQ):EQ (zm0 (p212 F259 F260)) (sE 0 11 [] [TJ F259,zel F260] []) Tryz.f212 [(.tmp 2,47,false)]:=λ_ _ _=>by kernel_rfl
def F212:zaa:=p212 F259 F260
theorem zj1:OKP (zm0 F212):=ST.ok0 (q212 F259 F260) (Dk zjw (Dk zs7 Dl)) Tryz.func212
abbrev Z9:=(R:Type)->Int->(Int->Option R)->Option R
def zmz (F:Z9):Ent:=eV 213 [(.int .u32)] [(.int .u32)] F
def p213 (F259:Wp) (F260:FQ):Z9:=λR a0 k=>
F259 R a0 (7:Int) λy1=>
F259 R a0 (18:Int) λy2=>
F260 R a0 (3:Int) λy4=>
k (ixor .u32 (ixor .u32 y1 y2) y4)
theorem q213 (F259:Wp) (F260:FQ):EQ (zmz (p213 F259 F260)) (sE 0 11 [] [TJ F259,zel F260] []) Tryz.f213 [(.tmp 2,47,false)]:=λ_ _ _=>by kernel_rfl
def F213:Z9:=p213 F259 F260
theorem zj0:OKP (zmz F213):=ST.ok0 (q213 F259 F260) (Dk zjw (Dk zs7 Dl)) Tryz.func213
abbrev zae:=(R:Type)->LI->(LI->Option R)->Option R
def zni (F:zae):Ent:=eV 165 [(.arr 64 (.int .u8))] [(.arr 64 (.int .u32))] F
abbrev zao (Z:Type):=Int->LI->LI->LI->Z
abbrev zh0 (R:Type):=(LI->LI->Option R)->Option R
abbrev My:=(R:Type)->zao (zh0 R)
def CW (L:My):LEnt:=lM 3 [.fix 1 (.ptr 0 [] (.arr 64 (.int .u8))),.fix 2 (.ptr 1 [] (.arr 64 (.int .u32))),.fix 3 (.ptr 2 [] (.arr 64 (.int .u32))),.val 4 (.int .i64),.var 0 (.arr 64 (.int .u8)) false,.var 1 (.arr 64 (.int .u32)) false,.var 2 (.arr 64 (.int .u32)) false] 3 [(.exit 0,[.fix 2 (.ptr 1 [] (.arr 64 (.int .u32))),.fix 3 (.ptr 2 [] (.arr 64 (.int .u32))),.var 1 (.arr 64 (.int .u32)) false,.var 2 (.arr 64 (.int .u32)) false])] L
abbrev zan (Z:Type):=Int->LI->LI->Z
abbrev zhz (R:Type):=(LI->LI->Option R)->Option R
abbrev Mx:=(R:Type)->zan (zhz R)
def CV (L:Mx):LEnt:=lM 7 [.fix 2 (.ptr 1 [] (.arr 64 (.int .u32))),.fix 3 (.ptr 2 [] (.arr 64 (.int .u32))),.val 5 (.int .i64),.var 1 (.arr 64 (.int .u32)) false,.var 2 (.arr 64 (.int .u32)) false] 3 [(.exit 2,[.fix 2 (.ptr 1 [] (.arr 64 (.int .u32))),.fix 3 (.ptr 2 [] (.arr 64 (.int .u32))),.var 1 (.arr 64 (.int .u32)) false,.var 2 (.arr 64 (.int .u32)) false])] L
def e165 (F56:FT56) (F212:zaa) (F213:Z9) (L3:My) (L7:Mx):=sE 0 61 [] [en56 F56,zm0 F212,zmz F213] [CW L3,CV L7]
def QA (F56:FT56) (R:Type):zao (zao (Option R)->zh0 R):=λx1 x2 x3 x4 kc k0=>
(match decide (x1<16) with
|true=>let v6:=i64.wrap ((4:Int)*x1);(match (bnd v6 (64:Int)) with
|true=>let v9:=i64.wrap ((i64.wrap ((4:Int)*x1))+1);(match (bnd v9 (64:Int)) with
|true=>let v12:=i64.wrap ((i64.wrap ((4:Int)*x1))+2);(match (bnd v12 (64:Int)) with
|true=>let v15:=i64.wrap ((i64.wrap ((4:Int)*x1))+3);(match (bnd v15 (64:Int)) with
|true=>F56 R (List.set (List.set (List.set (List.set (replicate 4 (0:Int)) 0 (x2.getD v6.toNat 0)) 1 (x2.getD v9.toNat 0)) 2 (x2.getD v12.toNat 0)) 3 (x2.getD v15.toNat 0)) λy18=>
(match (bnd x1 (64:Int)) with
|true=>kc (i64.wrap (x1+1)) x2 x3 (x4.set x1.toNat y18)
|false=>none)
|false=>none)
|false=>none)
|false=>none)
|false=>none)
|false=>k0 x3 x4)
theorem zsa (F56:FT56) (F212:zaa) (F213:Z9) (L3:My) (L7:Mx):LEQ (CW L3) (e165 F56 F212 F213 L3 L7) Tryz.f165 (QA F56):=λ_ _ _ _=>by kernel_rfl
def Ql:Nat->My
 | 0=>λ_ _ _ _ _ _=>none
 | n+1=>λR x1 x2 x3 x4 k0=>QA F56 R x1 x2 x3 x4 (λx1 x2 x3 x4=>Ql n R x1 x2 x3 x4 k0) k0
def PZ (F212:zaa) (F213:Z9) (R:Type):zan (zan (Option R)->zhz R):=λx1 x2 x3 kc k0=>
(match decide (x1<64) with
|true=>let v5:=i64.wrap (x1 - 2);(match (bnd v5 (64:Int)) with
|true=>F212 R (x3.getD v5.toNat 0) λy7=>
let v8:=i64.wrap (x1 - 7);(match (bnd v8 (64:Int)) with
|true=>let v11:=i64.wrap (x1 - 15);(match (bnd v11 (64:Int)) with
|true=>F213 R (x3.getD v11.toNat 0) λy13=>
let v15:=i64.wrap (x1 - 16);(match (bnd v15 (64:Int)) with
|true=>(match (bnd x1 (64:Int)) with
|true=>kc (i64.wrap (x1+1)) x2 (x3.set x1.toNat (u32.wrap ((u32.wrap ((u32.wrap (y7+(x3.getD v8.toNat 0)))+y13))+(x3.getD v15.toNat 0))))
|false=>none)
|false=>none)
|false=>none)
|false=>none)
|false=>none)
|false=>k0 x2 x3)
theorem zr9 (F56:FT56) (F212:zaa) (F213:Z9) (L3:My) (L7:Mx):LEQ (CV L7) (e165 F56 F212 F213 L3 L7) Tryz.f165 (PZ F212 F213):=λ_ _ _ _=>by kernel_rfl
def N0:Nat->Mx
 | 0=>λ_ _ _ _ _=>none
 | n+1=>λR x1 x2 x3 k0=>PZ F212 F213 R x1 x2 x3 (λx1 x2 x3=>N0 n R x1 x2 x3 k0) k0
def p165 (L3:My) (L7:Mx):zae:=λR a0 k=>
L3 R (0:Int) a0 (replicate 64 (0:Int)) (replicate 64 (0:Int)) (λx1 x2=>
L7 R (16:Int) x1 x2 (λx3 x4=>
k x4))
theorem q165 (F56:FT56) (F212:zaa) (F213:Z9) (L3:My) (L7:Mx):EQ (zni (p165 L3 L7)) (e165 F56 F212 F213 L3 L7) Tryz.f165 [(.cell 2 240,240,false)]:=λ_ _ _=>by kernel_rfl
def F165:zae:=p165 (Ql FUEL) (N0 FUEL)
theorem zda:LKP (CW (Ql FUEL)) 0 61 3 Tryz.f165:=ST.lok (zsa F56 F212 F213 (Ql FUEL) (N0 FUEL)) (Dk ok56 (Dk zj1 (Dk zj0 Dl))) [] trivial
theorem zc9:LKP (CV (N0 FUEL)) 0 61 7 Tryz.f165:=ST.lok (zr9 F56 F212 F213 (Ql FUEL) (N0 FUEL)) (Dk ok56 (Dk zj1 (Dk zj0 Dl))) [] trivial
theorem zj7:OKP (zni F165):=ST.ok1 (q165 F56 F212 F213 (Ql FUEL) (N0 FUEL)) (Dk ok56 (Dk zj1 (Dk zj0 Dl))) Tryz.func165 [3,7] ⟨⟨_,rfl,zda⟩,⟨⟨_,rfl,zc9⟩,trivial⟩⟩
abbrev zac:=(R:Type)->Int->(Int->Option R)->Option R
def zng (F:zac):Ent:=eV 167 [(.int .i64)] [(.int .u32)] F
def p167:zac:=λR a0 k=>
(match decide (a0<0) with
|true=>k (0:Int)
|false=>(match decide (a0>63) with
|true=>k (0:Int)
|false=>let v3:=List.set (List.set (List.set (List.set (List.set (List.set (List.set (List.set (List.set (List.set (List.set (List.set (List.set (List.set (List.set (List.set (List.set (List.set (List.set (List.set (List.set (List.set (List.set (List.set (List.set (List.set (List.set (List.set (List.set (List.set (List.set (List.set (List.set (List.set (List.set (List.set (List.set (List.set (List.set (List.set (List.set (List.set (List.set (List.set (List.set (List.set (List.set (List.set (List.set (List.set (List.set (List.set (List.set (List.set (List.set (List.set (List.set (List.set (List.set (List.set (List.set (List.set (List.set (List.set (replicate 64 (0:Int)) 0 (1116352408:Int)) 1 (1899447441:Int)) 2 (3049323471:Int)) 3 (3921009573:Int)) 4 (961987163:Int)) 5 (1508970993:Int)) 6 (2453635748:Int)) 7 (2870763221:Int)) 8 (3624381080:Int)) 9 (310598401:Int)) 10 (607225278:Int)) 11 (1426881987:Int)) 12 (1925078388:Int)) 13 (2162078206:Int)) 14 (2614888103:Int)) 15 (3248222580:Int)) 16 (3835390401:Int)) 17 (4022224774:Int)) 18 (264347078:Int)) 19 (604807628:Int)) 20 (770255983:Int)) 21 (1249150122:Int)) 22 (1555081692:Int)) 23 (1996064986:Int)) 24 (2554220882:Int)) 25 (2821834349:Int)) 26 (2952996808:Int)) 27 (3210313671:Int)) 28 (3336571891:Int)) 29 (3584528711:Int)) 30 (113926993:Int)) 31 (338241895:Int)) 32 (666307205:Int)) 33 (773529912:Int)) 34 (1294757372:Int)) 35 (1396182291:Int)) 36 (1695183700:Int)) 37 (1986661051:Int)) 38 (2177026350:Int)) 39 (2456956037:Int)) 40 (2730485921:Int)) 41 (2820302411:Int)) 42 (3259730800:Int)) 43 (3345764771:Int)) 44 (3516065817:Int)) 45 (3600352804:Int)) 46 (4094571909:Int)) 47 (275423344:Int)) 48 (430227734:Int)) 49 (506948616:Int)) 50 (659060556:Int)) 51 (883997877:Int)) 52 (958139571:Int)) 53 (1322822218:Int)) 54 (1537002063:Int)) 55 (1747873779:Int)) 56 (1955562222:Int)) 57 (2024104815:Int)) 58 (2227730452:Int)) 59 (2361852424:Int)) 60 (2428436474:Int)) 61 (2756734187:Int)) 62 (3204031479:Int)) 63 (3329325298:Int);(match (bnd a0 (64:Int)) with
|true=>k (v3.getD a0.toNat 0)
|false=>none)))
theorem q167:EQ (zng p167) (sE 0 12 [] [] []) Tryz.f167 [(.tmp 2,47,false)]:=λ_ _ _=>by kernel_rfl
def F167:zac:=p167
theorem zj5:OKP (zng F167):=ST.ok0 q167 Dl Tryz.func167
abbrev XB:=(R:Type)->Int->Int->Int->Int->(Int->Option R)->Option R
def zmy (F:XB):Ent:=eV 214 [(.int .u32),(.int .i64),(.int .i64),(.int .i64)] [(.int .u32)] F
def p214 (F259:Wp):XB:=λR a0 a1 a2 a3 k=>
F259 R a0 a1 λy1=>
F259 R a0 a2 λy2=>
F259 R a0 a3 λy4=>
k (ixor .u32 (ixor .u32 y1 y2) y4)
theorem q214 (F259:Wp):EQ (zmy (p214 F259)) (sE 0 20 [] [TJ F259] []) Tryz.f214 [(.tmp 8,47,false)]:=λ_ _ _=>by kernel_rfl
def F214:XB:=p214 F259
theorem zy7:OKP (zmy F214):=ST.ok0 (q214 F259) (Dk zjw Dl) Tryz.func214
abbrev XA:=(R:Type)->Int->Int->Int->(Int->Option R)->Option R
def zmx (F:XA):Ent:=eV 215 [(.int .u32),(.int .u32),(.int .u32)] [(.int .u32)] F
def p215:XA:=λR a0 a1 a2 k=>
k (ior .u32 (iand .u32 a0 a1) (iand .u32 (u32.wrap ((4294967295:Int) - a0)) a2))
theorem q215:EQ (zmx p215) (sE 0 15 [] [] []) Tryz.f215 [(.tmp 6,47,false)]:=λ_ _ _=>by kernel_rfl
def F215:XA:=p215
theorem zy6:OKP (zmx F215):=ST.ok0 q215 Dl Tryz.func215
abbrev WZ:=(R:Type)->Int->Int->Int->(Int->Option R)->Option R
def zmw (F:WZ):Ent:=eV 216 [(.int .u32),(.int .u32),(.int .u32)] [(.int .u32)] F
def p216:WZ:=λR a0 a1 a2 k=>
k (ior .u32 (ior .u32 (iand .u32 a0 a1) (iand .u32 a0 a2)) (iand .u32 a1 a2))
theorem q216:EQ (zmw p216) (sE 0 18 [] [] []) Tryz.f216 [(.tmp 6,47,false)]:=λ_ _ _=>by kernel_rfl
def F216:WZ:=p216
theorem zy5:OKP (zmw F216):=ST.ok0 q216 Dl Tryz.func216
abbrev zad:=(R:Type)->LI->Int->Int->(LI->Option R)->Option R
def znh (F:zad):Ent:=eV 166 [(.arr 8 (.int .u32)),(.int .u32),(.int .u32)] [(.arr 8 (.int .u32))] F
def p166 (F214:XB) (F215:XA) (F216:WZ):zad:=λR a0 a1 a2 k=>
F214 R (a0.getD 4 0) (6:Int) (11:Int) (25:Int) λy3=>
F215 R (a0.getD 4 0) (a0.getD 5 0) (a0.getD 6 0) λy8=>
let v11:=u32.wrap ((u32.wrap ((u32.wrap ((u32.wrap ((a0.getD 7 0)+y3))+y8))+a2))+a1);F214 R (a0.getD 0 0) (2:Int) (13:Int) (22:Int) λy13=>
F216 R (a0.getD 0 0) (a0.getD 1 0) (a0.getD 2 0) λy17=>
k (List.set (List.set (List.set (List.set (List.set (List.set (List.set (List.set (replicate 8 (0:Int)) 0 (u32.wrap (v11+(u32.wrap (y13+y17))))) 1 (a0.getD 0 0)) 2 (a0.getD 1 0)) 3 (a0.getD 2 0)) 4 (u32.wrap ((a0.getD 3 0)+v11))) 5 (a0.getD 4 0)) 6 (a0.getD 5 0)) 7 (a0.getD 6 0))
theorem q166 (F214:XB) (F215:XA) (F216:WZ):EQ (znh (p166 F214 F215 F216)) (sE 0 58 [] [zmy F214,zmx F215,zmw F216] []) Tryz.f166 [(.cell 6 137,137,false)]:=λ_ _ _=>by kernel_rfl
def F166:zad:=p166 F214 F215 F216
theorem zj6:OKP (znh F166):=ST.ok0 (q166 F214 F215 F216) (Dk zy7 (Dk zy6 (Dk zy5 Dl))) Tryz.func166
abbrev GH:=(R:Type)->LI->LI->(LI->Option R)->Option R
def zn4 (F:GH):Ent:=eV 118 [(.arr 8 (.int .u32)),(.arr 64 (.int .u8))] [(.arr 8 (.int .u32))] F
abbrev zas (Z:Type):=Int->LI->LI->LI->LI->Z
abbrev zh4 (R:Type):=(LI->LI->LI->Option R)->Option R
abbrev M0:=(R:Type)->zas (zh4 R)
def DA (L:M0):LEnt:=lM 4 [.fix 2 (.ptr 0 [] (.arr 8 (.int .u32))),.fix 4 (.ptr 2 [] (.arr 8 (.int .u32))),.fix 5 (.ptr 3 [] (.arr 64 (.int .u32))),.fix 6 (.ptr 4 [] (.arr 8 (.int .u32))),.val 7 (.int .i64),.var 0 (.arr 8 (.int .u32)) false,.var 2 (.arr 8 (.int .u32)) false,.var 3 (.arr 64 (.int .u32)) false,.var 4 (.arr 8 (.int .u32)) false] 5 [(.exit 0,[.fix 2 (.ptr 0 [] (.arr 8 (.int .u32))),.fix 4 (.ptr 2 [] (.arr 8 (.int .u32))),.fix 6 (.ptr 4 [] (.arr 8 (.int .u32))),.var 0 (.arr 8 (.int .u32)) false,.var 2 (.arr 8 (.int .u32)) false,.var 4 (.arr 8 (.int .u32)) false])] L
abbrev zar (Z:Type):=Int->LI->LI->LI->Z
abbrev zh3 (R:Type):=(LI->LI->Option R)->Option R
abbrev Mz:=(R:Type)->zar (zh3 R)
def CZ (L:Mz):LEnt:=lM 8 [.fix 2 (.ptr 0 [] (.arr 8 (.int .u32))),.fix 4 (.ptr 2 [] (.arr 8 (.int .u32))),.fix 6 (.ptr 4 [] (.arr 8 (.int .u32))),.val 8 (.int .i64),.var 0 (.arr 8 (.int .u32)) false,.var 2 (.arr 8 (.int .u32)) false,.var 4 (.arr 8 (.int .u32)) false] 5 [(.exit 2,[.fix 4 (.ptr 2 [] (.arr 8 (.int .u32))),.fix 6 (.ptr 4 [] (.arr 8 (.int .u32))),.var 2 (.arr 8 (.int .u32)) false,.var 4 (.arr 8 (.int .u32)) false])] L
def e118 (F165:zae) (F166:zad) (F167:zac) (L4:M0) (L8:Mz):=sE 0 37 [] [zni F165,znh F166,zng F167] [DA L4,CZ L8]
def QD (F166:zad) (F167:zac) (R:Type):zas (zas (Option R)->zh4 R):=λx1 x2 x3 x4 x5 kc k0=>
(match decide (x1<64) with
|true=>(match (bnd x1 (64:Int)) with
|true=>F167 R x1 λy8=>
F166 R x5 (x4.getD x1.toNat 0) y8 λy9=>
kc (i64.wrap (x1+1)) x2 x3 x4 y9
|false=>none)
|false=>k0 x2 x3 x5)
theorem zse (F165:zae) (F166:zad) (F167:zac) (L4:M0) (L8:Mz):LEQ (DA L4) (e118 F165 F166 F167 L4 L8) Tryz.f118 (QD F166 F167):=λ_ _ _ _=>by kernel_rfl
def Qn:Nat->M0
 | 0=>λ_ _ _ _ _ _ _=>none
 | n+1=>λR x1 x2 x3 x4 x5 k0=>QD F166 F167 R x1 x2 x3 x4 x5 (λx1 x2 x3 x4 x5=>Qn n R x1 x2 x3 x4 x5 k0) k0
def QC (R:Type):zar (zar (Option R)->zh3 R):=λx1 x2 x3 x4 kc k0=>
(match decide (x1<8) with
|true=>(match (bnd x1 (8:Int)) with
|true=>(match (bnd x1 (8:Int)) with
|true=>(match (bnd x1 (8:Int)) with
|true=>kc (i64.wrap (x1+1)) x2 x3 (x4.set x1.toNat (u32.wrap ((x4.getD x1.toNat 0)+(x2.getD x1.toNat 0))))
|false=>none)
|false=>none)
|false=>none)
|false=>k0 x3 x4)
theorem zsd (F165:zae) (F166:zad) (F167:zac) (L4:M0) (L8:Mz):LEQ (CZ L8) (e118 F165 F166 F167 L4 L8) Tryz.f118 QC:=λ_ _ _ _=>by kernel_rfl
def N1:Nat->Mz
 | 0=>λ_ _ _ _ _ _=>none
 | n+1=>λR x1 x2 x3 x4 k0=>QC R x1 x2 x3 x4 (λx1 x2 x3 x4=>N1 n R x1 x2 x3 x4 k0) k0
def p118 (F165:zae) (L4:M0) (L8:Mz):GH:=λR a0 a1 k=>
F165 R a1 λy1=>
L4 R (0:Int) a0 (replicate 8 (0:Int)) y1 a0 (λx2 x3 x4=>
L8 R (0:Int) x2 x3 x4 (λx5 x6=>
k x6))
theorem q118 (F165:zae) (F166:zad) (F167:zac) (L4:M0) (L8:Mz):EQ (zn4 (p118 F165 L4 L8)) (e118 F165 F166 F167 L4 L8) Tryz.f118 [(.cell 4 137,137,false)]:=λ_ _ _=>by kernel_rfl
def F118:GH:=p118 F165 (Qn FUEL) (N1 FUEL)
theorem zde:LKP (DA (Qn FUEL)) 0 37 4 Tryz.f118:=ST.lok (zse F165 F166 F167 (Qn FUEL) (N1 FUEL)) (Dk zj7 (Dk zj6 (Dk zj5 Dl))) [] trivial
theorem zdd:LKP (CZ (N1 FUEL)) 0 37 8 Tryz.f118:=ST.lok (zsd F165 F166 F167 (Qn FUEL) (N1 FUEL)) (Dk zj7 (Dk zj6 (Dk zj5 Dl))) [] trivial
theorem ztt:OKP (zn4 F118):=ST.ok1 (q118 F165 F166 F167 (Qn FUEL) (N1 FUEL)) (Dk zj7 (Dk zj6 (Dk zj5 Dl))) Tryz.func118 [4,8] ⟨⟨_,rfl,zde⟩,⟨⟨_,rfl,zdd⟩,trivial⟩⟩
abbrev FT84:=(R:Type)->LI->(List LI)->(LI->Option R)->Option R
def en84 (F:FT84):Ent:=eV 84 [(.arr 8 (.int .u32)),(.sl (.arr 64 (.int .u8)))] [(.arr 8 (.int .u32))] F
abbrev zqi (Z:Type):=(List LI)->Int->LI->LI->Z
abbrev zvp (R:Type):=(LI->LI->Option R)->Option R
abbrev Ui:=(R:Type)->zqi (zvp R)
def QX (L:Ui):LEnt:=lM 2 [.val 1 (.sl (.arr 64 (.int .u8))),.fix 2 (.ptr 0 [] (.arr 8 (.int .u32))),.fix 4 (.ptr 1 [] (.arr 8 (.int .u32))),.val 5 (.int .i64),.var 0 (.arr 8 (.int .u32)) false,.var 1 (.arr 8 (.int .u32)) false] 2 [(.exit 0,[.fix 2 (.ptr 0 [] (.arr 8 (.int .u32))),.fix 4 (.ptr 1 [] (.arr 8 (.int .u32))),.var 0 (.arr 8 (.int .u32)) false,.var 1 (.arr 8 (.int .u32)) false])] L
def e84 (F118:GH) (L2:Ui):=sE 0 19 [] [zn4 F118] [QX L2]
def zi6 (F118:GH) (R:Type):zqi (zqi (Option R)->zvp R):=λx1 x2 x3 x4 kc k0=>
(match decide (x2<(x1.length:Int)) with
|true=>(match bnd x2 x1.length with
|true=>F118 R x3 (x1.getD x2.toNat (replicate 64 0)) λy8=>
kc x1 (i64.wrap (x2+1)) y8 x4
|false=>none)
|false=>k0 x3 x4)
theorem zxk (F118:GH) (L2:Ui):LEQ (QX L2) (e84 F118 L2) Tryz.f84 (zi6 F118):=λ_ _ _ _=>by kernel_rfl
def ED:Nat->Ui
 | 0=>λ_ _ _ _ _ _=>none
 | n+1=>λR x1 x2 x3 x4 k0=>zi6 F118 R x1 x2 x3 x4 (λx1 x2 x3 x4=>ED n R x1 x2 x3 x4 k0) k0
def p84 (L2:Ui):FT84:=λR a0 a1 k=>
L2 R a1 (0:Int) a0 (replicate 8 (0:Int)) (λx1 x2=>
k x1)
theorem q84 (F118:GH) (L2:Ui):EQ (en84 (p84 L2)) (e84 F118 L2) Tryz.f84 [(.cell 4 137,137,false)]:=λ_ _ _=>by kernel_rfl
def F84:FT84:=p84 (ED FUEL)
theorem zkc:LKP (QX (ED FUEL)) 0 19 2 Tryz.f84:=ST.lok (zxk F118 (ED FUEL)) (Dk ztt Dl) [] trivial
theorem ok84:OKP (en84 F84):=ST.ok1 (q84 F118 (ED FUEL)) (Dk ztt Dl) Tryz.func84 [2] ⟨⟨_,rfl,zkc⟩,trivial⟩
abbrev FT83:=(R:Type)->LI->(LI->Option R)->Option R
def en83 (F:FT83):Ent:=eV 83 [(.arr 8 (.int .u32))] [(.arr 32 (.int .u8))] F
abbrev zqk (Z:Type):=Int->LI->LI->LI->Z
abbrev zvr (R:Type):=(LI->LI->Option R)->Option R
abbrev Sn:=(R:Type)->zqk (zvr R)
def QZ (L:Sn):LEnt:=lM 3 [.fix 1 (.ptr 0 [] (.arr 8 (.int .u32))),.fix 2 (.ptr 1 [] (.arr 32 (.int .u8))),.fix 3 (.ptr 2 [] (.arr 32 (.int .u8))),.val 4 (.int .i64),.var 0 (.arr 8 (.int .u32)) false,.var 1 (.arr 32 (.int .u8)) false,.var 2 (.arr 32 (.int .u8)) false] 3 [(.exit 0,[.fix 2 (.ptr 1 [] (.arr 32 (.int .u8))),.fix 3 (.ptr 2 [] (.arr 32 (.int .u8))),.var 1 (.arr 32 (.int .u8)) false,.var 2 (.arr 32 (.int .u8)) false])] L
abbrev zqj (Z:Type):=Int->Int->LI->LI->LI->LI->Z
abbrev zvq (R:Type):=(Int->LI->LI->LI->Option R)->Option R
abbrev Sm:=(R:Type)->zqj (zvq R)
def QY (L:Sm):LEnt:=lM 7 [.fix 1 (.ptr 0 [] (.arr 8 (.int .u32))),.fix 2 (.ptr 1 [] (.arr 32 (.int .u8))),.fix 3 (.ptr 2 [] (.arr 32 (.int .u8))),.val 4 (.int .i64),.fix 5 (.ptr 3 [] (.arr 4 (.int .u8))),.val 6 (.int .i64),.var 0 (.arr 8 (.int .u32)) false,.var 1 (.arr 32 (.int .u8)) false,.var 2 (.arr 32 (.int .u8)) false,.var 3 (.arr 4 (.int .u8)) false] 4 [(.exit 2,[.fix 1 (.ptr 0 [] (.arr 8 (.int .u32))),.fix 2 (.ptr 1 [] (.arr 32 (.int .u8))),.fix 3 (.ptr 2 [] (.arr 32 (.int .u8))),.val 4 (.int .i64),.var 0 (.arr 8 (.int .u32)) false,.var 1 (.arr 32 (.int .u8)) false,.var 2 (.arr 32 (.int .u8)) false])] L
def e83 (F70:FT70) (L3:Sn) (L7:Sm):=sE 0 28 [] [en70 F70] [QZ L3,QY L7]
def zi7 (R:Type):zqj (zqj (Option R)->zvq R):=λx1 x2 x3 x4 x5 x6 kc k0=>
(match decide (x2<4) with
|true=>let v9:=i64.wrap ((i64.wrap ((4:Int)*x1))+x2);(match (bnd x2 (4:Int)) with
|true=>(match (bnd v9 (32:Int)) with
|true=>kc x1 (i64.wrap (x2+1)) x3 x4 (x5.set v9.toNat (x6.getD x2.toNat 0)) x6
|false=>none)
|false=>none)
|false=>k0 x1 x3 x4 x5)
theorem zxl (F70:FT70) (L3:Sn) (L7:Sm):LEQ (QY L7) (e83 F70 L3 L7) Tryz.f83 zi7:=λ_ _ _ _=>by kernel_rfl
def Zk:Nat->Sm
 | 0=>λ_ _ _ _ _ _ _ _=>none
 | n+1=>λR x1 x2 x3 x4 x5 x6 k0=>zi7 R x1 x2 x3 x4 x5 x6 (λx1 x2 x3 x4 x5 x6=>Zk n R x1 x2 x3 x4 x5 x6 k0) k0
def zi8 (F70:FT70) (L7:Sm) (R:Type):zqk (zqk (Option R)->zvr R):=λx1 x2 x3 x4 kc k0=>
(match decide (x1<8) with
|true=>(match (bnd x1 (8:Int)) with
|true=>F70 R (x2.getD x1.toNat 0) λy7=>
L7 R x1 (0:Int) x2 x3 x4 y7 (λx8 x9 x10 x11=>
kc (i64.wrap (x8+1)) x9 x10 x11)
|false=>none)
|false=>k0 x3 x4)
theorem zxm (F70:FT70) (L3:Sn) (L7:Sm):LEQ (QZ L3) (e83 F70 L3 L7) Tryz.f83 (zi8 F70 L7):=λ_ _ _ _=>by kernel_rfl
def Qv:Nat->Sn
 | 0=>λ_ _ _ _ _ _=>none
 | n+1=>λR x1 x2 x3 x4 k0=>zi8 F70 (Zk FUEL) R x1 x2 x3 x4 (λx1 x2 x3 x4=>Qv n R x1 x2 x3 x4 k0) k0
def p83 (L3:Sn):FT83:=λR a0 k=>
L3 R (0:Int) a0 (replicate 32 (0:Int)) (replicate 32 (0:Int)) (λx1 x2=>
k x2)
theorem q83 (F70:FT70) (L3:Sn) (L7:Sm):EQ (en83 (p83 L3)) (e83 F70 L3 L7) Tryz.f83 [(.cell 2 24,24,false)]:=λ_ _ _=>by kernel_rfl
def F83:FT83:=p83 (Qv FUEL)
theorem zkd:LKP (QY (Zk FUEL)) 0 28 7 Tryz.f83:=ST.lok (zxl F70 (Qv FUEL) (Zk FUEL)) (Dk ok70 Dl) [] trivial
theorem zke:LKP (QZ (Qv FUEL)) 0 28 3 Tryz.f83:=ST.lok (zxm F70 (Qv FUEL) (Zk FUEL)) (Dk ok70 Dl) [7] ⟨⟨_,rfl,zkd⟩,trivial⟩
theorem ok83:OKP (en83 F83):=ST.ok1 (q83 F70 (Qv FUEL) (Zk FUEL)) (Dk ok70 Dl) Tryz.func83 [3] ⟨⟨_,rfl,zke⟩,trivial⟩
abbrev FT55:=(R:Type)->LI->(LI->Option R)->Option R
def en55 (F:FT55):Ent:=eV 55 [(.sl (.int .u8))] [(.arr 32 (.int .u8))] F
def p55 (F81:FT81) (F82:FT82) (F83:FT83) (F84:FT84) (F85:FT85):FT55:=λR a0 k=>
F82 R a0 λy1=>
F81 R y1 λy2 y3=>
F85 R  λy4=>
F84 R y4 y2 λy5=>
F83 R y5 λy6=>
k y6
theorem q55 (F81:FT81) (F82:FT82) (F83:FT83) (F84:FT84) (F85:FT85):EQ (en55 (p55 F81 F82 F83 F84 F85)) (sE 0 15 [] [en81 F81,en82 F82,en83 F83,en84 F84,en85 F85] []) Tryz.f55 [(.cell 2 24,24,false)]:=λ_ _ _=>by kernel_rfl
def F55:FT55:=p55 F81 F82 F83 F84 F85
theorem ok55:OKP (en55 F55):=ST.ok0 (q55 F81 F82 F83 F84 F85) (Dk ok81 (Dk ok82 (Dk ok83 (Dk ok84 (Dk ok85 Dl))))) Tryz.func55
abbrev FT25:=(R:Type)->LI->Int->LI->(LI->Option R)->Option R
def en25 (F:FT25):Ent:=eV 25 [(.arr 32 (.int .u8)),(.int .u64),(.arr 32 (.int .u8))] [(.arr 32 (.int .u8))] F
abbrev zqz (Z:Type):=Int->LI->LI->LI->LI->Z
abbrev zv6 (R:Type):=(LI->LI->LI->Option R)->Option R
abbrev Ut:=(R:Type)->zqz (zv6 R)
def RQ (L:Ut):LEnt:=lM 4 [.fix 5 (.ptr 1 [] (.arr 32 (.int .u8))),.fix 6 (.ptr 2 [] (.arr 32 (.int .u8))),.fix 7 (.own 3 0),.fix 8 (.ptr 4 [] (.arr 8 (.int .u8))),.val 9 (.int .i64),.var 1 (.arr 32 (.int .u8)) false,.var 2 (.arr 32 (.int .u8)) false,.row 3 (.int .u8) false,.var 4 (.arr 8 (.int .u8)) false] 5 [(.exit 0,[.fix 5 (.ptr 1 [] (.arr 32 (.int .u8))),.fix 6 (.ptr 2 [] (.arr 32 (.int .u8))),.fix 7 (.own 3 0),.var 1 (.arr 32 (.int .u8)) false,.var 2 (.arr 32 (.int .u8)) false,.row 3 (.int .u8) false])] L
def e25 (F53:FT53) (F54:FT54) (F55:FT55) (L4:Ut):=sE 0 29 [] [en53 F53,en54 F54,en55 F55] [RQ L4]
def zjk (R:Type):zqz (zqz (Option R)->zv6 R):=λx1 x2 x3 x4 x5 kc k0=>
(match decide (x1<8) with
|true=>(match (bnd x1 (8:Int)) with
|true=>let v8:=([(x5.getD x1.toNat 0)]:LI);(match (decide (x4.length+v8.length<=140737488355328)) with
|true=>kc (i64.wrap (x1+1)) x2 x3 (x4++v8) x5
|false=>none)
|false=>none)
|false=>k0 x2 x3 x4)
theorem zx1 (F53:FT53) (F54:FT54) (F55:FT55) (L4:Ut):LEQ (RQ L4) (e25 F53 F54 F55 L4) Tryz.f25 zjk:=λ_ _ _ _=>by kernel_rfl
def EN:Nat->Ut
 | 0=>λ_ _ _ _ _ _ _=>none
 | n+1=>λR x1 x2 x3 x4 x5 k0=>zjk R x1 x2 x3 x4 x5 (λx1 x2 x3 x4 x5=>EN n R x1 x2 x3 x4 x5 k0) k0
def p25 (F53:FT53) (F54:FT54) (F55:FT55) (L4:Ut):FT25:=λR a0 a1 a2 k=>
F53 R a0 λy1=>
F54 R a1 λy2=>
L4 R (0:Int) a2 (replicate 32 (0:Int)) y1 y2 (λx3 x4 x5=>
F53 R x3 λy6=>
(match (decide (x5.length+y6.length<=140737488355328)) with
|true=>F55 R (x5++y6) λy8=>
k y8
|false=>none))
theorem q25 (F53:FT53) (F54:FT54) (F55:FT55) (L4:Ut):EQ (en25 (p25 F53 F54 F55 L4)) (e25 F53 F54 F55 L4) Tryz.f25 [(.cell 6 24,24,false)]:=λ_ _ _=>by kernel_rfl
def F25:FT25:=p25 F53 F54 F55 (EN FUEL)
theorem zkt:LKP (RQ (EN FUEL)) 0 29 4 Tryz.f25:=ST.lok (zx1 F53 F54 F55 (EN FUEL)) (Dk ok53 (Dk ok54 (Dk ok55 Dl))) [] trivial
theorem ok25:OKP (en25 F25):=ST.ok1 (q25 F53 F54 F55 (EN FUEL)) (Dk ok53 (Dk ok54 (Dk ok55 Dl))) Tryz.func25 [4] ⟨⟨_,rfl,zkt⟩,trivial⟩
abbrev FT38:=(R:Type)->Int->(ByteArray->Option R)->Option R
def en38 (F:FT38):Ent:=eV 38 [(.int .i64)] [.str] F
def F38:FT38:=SC
theorem ok38:OKP (en38 F38):=zk6
abbrev FT40:=(R:Type)->Int->Int->(ByteArray->Option R)->Option R
def en40 (F:FT40):Ent:=eV 40 [(.int .u64),(.int .i64)] [.str] F
def F40:FT40:=LO
theorem ok40:OKP (en40 F40):=zld
abbrev FT39:=(R:Type)->(List ByteArray)->ByteArray->(ByteArray->Option R)->Option R
def en39 (F:FT39):Ent:=eV 39 [(.sl .str),.str] [.str] F
def F39:FT39:=SA
theorem ok39:OKP (en39 F39):=zk3
abbrev FT41:=(R:Type)->LI->(ByteArray->Option R)->Option R
def en41 (F:FT41):Ent:=eV 41 [(.sl (.int .i64))] [.str] F
abbrev zqv (Z:Type):=LI->Int->Int->(List ByteArray)->Z
abbrev zv2 (R:Type):=((List ByteArray)->Option R)->Option R
abbrev Up:=(R:Type)->zqv (zv2 R)
def RM (L:Up):LEnt:=lM 5 [.fix 3 (.own 0 0),.val 9 (.sl (.int .i64)),.val 10 (.int .i64),.val 11 (.int .i64),.row 0 .str false] 1 [(.exit 0,[.fix 3 (.own 0 0),.row 0 .str false])] L
def e41 (F38:FT38) (F39:FT39) (L5:Up):=sE 0 23 [(3,0)] [en38 F38,en39 F39] [RM L5]
def zjh (F38:FT38) (R:Type):zqv (zqv (Option R)->zv2 R):=λx1 x2 x3 x4 kc k0=>
(match decide (x3<x2) with
|true=>(match bnd x3 x1.length with
|true=>F38 R (x1.getD x3.toNat 0) λy7=>
let v8:=([y7]:(List ByteArray));(match (decide (x4.length+v8.length<=8796093022208)) with
|true=>kc x1 x2 (i64.wrap (x3+1)) (x4++v8)
|false=>none)
|false=>none)
|false=>k0 x4)
theorem zxx (F38:FT38) (F39:FT39) (L5:Up):LEQ (RM L5) (e41 F38 F39 L5) Tryz.f41 (zjh F38):=λ_ _ _ _=>by kernel_rfl
def EH:Nat->Up
 | 0=>λ_ _ _ _ _ _=>none
 | n+1=>λR x1 x2 x3 x4 k0=>zjh F38 R x1 x2 x3 x4 (λx1 x2 x3 x4=>EH n R x1 x2 x3 x4 k0) k0
def p41 (F39:FT39) (L5:Up):FT41:=λR a0 k=>
(match (a0.length:Int)==0 with
|true=>k (⟨#[45]⟩:ByteArray)
|false=>L5 R a0 (a0.length:Int) (0:Int) ([]:(List ByteArray)) (λx4=>
F39 R x4 (⟨#[44]⟩:ByteArray) λy5=>
k y5))
theorem q41 (F38:FT38) (F39:FT39) (L5:Up):EQ (en41 (p41 F39 L5)) (e41 F38 F39 L5) Tryz.f41 [(.tmp 2,9,false)]:=λ_ _ _=>by kernel_rfl
def F41:FT41:=p41 F39 (EH FUEL)
theorem zkp:LKP (RM (EH FUEL)) 0 23 5 Tryz.f41:=ST.lok (zxx F38 F39 (EH FUEL)) (Dk ok38 (Dk ok39 Dl)) [] trivial
theorem ok41:OKP (en41 F41):=ST.ok1 (q41 F38 F39 (EH FUEL)) (Dk ok38 (Dk ok39 Dl)) Tryz.func41 [5] ⟨⟨_,rfl,zkp⟩,trivial⟩
abbrev FT42:=(R:Type)->LI->(ByteArray->Option R)->Option R
def en42 (F:FT42):Ent:=eV 42 [(.arr 32 (.int .u8))] [.str] F
def F42:FT42:=NL
theorem ok42:OKP (en42 F42):=zie
abbrev FT16:=(R:Type)->Tq17->(ByteArray->Option R)->Option R
def en16 (F:FT16):Ent:=eV 16 [Kq17] [.str] F
def p16 (F38:FT38) (F39:FT39) (F40:FT40) (F41:FT41) (F42:FT42):FT16:=λR a0 k=>
(match a0.1 !=0 with
|true=>F38 R a0.1 λy2=>
(match (decide (ByteArray.size (⟨#[101,114,114,32]⟩:ByteArray)+ByteArray.size y2<=9223372036854775807)) with
|true=>k (ByteArray.append (⟨#[101,114,114,32]⟩:ByteArray) y2)
|false=>none)
|false=>F40 R a0.2.1 (10:Int) λy4=>
F41 R a0.2.2.1 λy5=>
F42 R a0.2.2.2.1 λy6=>
F39 R ([(⟨#[111,107]⟩:ByteArray),y4,y5,y6]:(List ByteArray)) (⟨#[32]⟩:ByteArray) λy8=>
k y8)
theorem q16 (F38:FT38) (F39:FT39) (F40:FT40) (F41:FT41) (F42:FT42):EQ (en16 (p16 F38 F39 F40 F41 F42)) (sE 0 21 [] [en38 F38,en39 F39,en40 F40,en41 F41,en42 F42] []) Tryz.f16 [(.tmp 2,9,false)]:=λ_ _ _=>by kernel_rfl
def F16:FT16:=p16 F38 F39 F40 F41 F42
theorem ok16:OKP (en16 F16):=ST.ok0 (q16 F38 F39 F40 F41 F42) (Dk ok38 (Dk ok39 (Dk ok40 (Dk ok41 (Dk ok42 Dl))))) Tryz.func16
abbrev FT26:=(R:Type)->LI->(ByteArray->Option R)->Option R
def en26 (F:FT26):Ent:=eV 26 [(.arr 32 (.int .u8))] [.str] F
abbrev zqy (Z:Type):=ByteArray->Int->LI->Z
abbrev zv5 (R:Type):=(ByteArray->Option R)->Option R
abbrev Us:=(R:Type)->zqy (zv5 R)
def RP (L:Us):LEnt:=lM 3 [.fix 1 (.ptr 0 [] (.arr 32 (.int .u8))),.val 3 .str,.val 4 (.int .i64),.var 0 (.arr 32 (.int .u8)) false] 1 [(.exit 0,[.val 3 .str])] L
def e26 (L3:Us):=sE 0 31 [] [] [RP L3]
def zjj (R:Type):zqy (zqy (Option R)->zv5 R):=λx1 x2 x3 kc k0=>
(match decide (x2<32) with
|true=>(match (bnd x2 (32:Int)) with
|true=>let v6:=u8.wrap (Int.tdiv (x3.getD x2.toNat 0) (16:Int));(match (bnd x2 (32:Int)) with
|true=>let v8:=Int.tmod (x3.getD x2.toNat 0) (16:Int);let v9:=u8.wrap (v6+1);(match (decide (0<=v6/\v6<=v9/\v9<=(ByteArray.size (⟨#[48,49,50,51,52,53,54,55,56,57,97,98,99,100,101,102]⟩:ByteArray):Int))) with
|true=>let v10:=ByteArray.extract (⟨#[48,49,50,51,52,53,54,55,56,57,97,98,99,100,101,102]⟩:ByteArray) v6.toNat v9.toNat;(match (decide (ByteArray.size x1+ByteArray.size v10<=9223372036854775807)) with
|true=>let v11:=ByteArray.append x1 v10;let v12:=u8.wrap (v8+1);(match (decide (0<=v8/\v8<=v12/\v12<=(ByteArray.size (⟨#[48,49,50,51,52,53,54,55,56,57,97,98,99,100,101,102]⟩:ByteArray):Int))) with
|true=>let v13:=ByteArray.extract (⟨#[48,49,50,51,52,53,54,55,56,57,97,98,99,100,101,102]⟩:ByteArray) v8.toNat v12.toNat;(match (decide (ByteArray.size v11+ByteArray.size v13<=9223372036854775807)) with
|true=>kc (ByteArray.append v11 v13) (i64.wrap (x2+1)) x3
|false=>none)
|false=>none)
|false=>none)
|false=>none)
|false=>none)
|false=>none)
|false=>k0 x1)
theorem zx0 (L3:Us):LEQ (RP L3) (e26 L3) Tryz.f26 zjj:=λ_ _ _ _=>by kernel_rfl
def EM:Nat->Us
 | 0=>λ_ _ _ _ _=>none
 | n+1=>λR x1 x2 x3 k0=>zjj R x1 x2 x3 (λx1 x2 x3=>EM n R x1 x2 x3 k0) k0
def p26 (L3:Us):FT26:=λR a0 k=>
L3 R (⟨#[]⟩:ByteArray) (0:Int) a0 (λx1=>
k x1)
theorem q26 (L3:Us):EQ (en26 (p26 L3)) (e26 L3) Tryz.f26 [(.tmp 2,9,false)]:=λ_ _ _=>by kernel_rfl
def F26:FT26:=p26 (EM FUEL)
theorem zks:LKP (RP (EM FUEL)) 0 31 3 Tryz.f26:=ST.lok (zx0 (EM FUEL)) Dl [] trivial
theorem ok26:OKP (en26 F26):=ST.ok1 (q26 (EM FUEL)) Dl Tryz.func26 [3] ⟨⟨_,rfl,zks⟩,trivial⟩
abbrev FT18:=(R:Type)->(List Tq17)->(ByteArray->Option R)->Option R
def en18 (F:FT18):Ent:=eV 18 [(.sl Kq17)] [.str] F
def F18:FT18:=λR l k=>Lz F16 R l 0 [] k
theorem ok18:OKP (en18 F18):=za9 ok16
abbrev FT8:=(R:Type)->(Bool->Option R)->Option R
def en8 (F:FT8):Ent:=eV 8 [] [.bool] F
def p8 (F10:FT10) (F16:FT16) (F18:FT18) (F25:FT25) (F26:FT26):FT8:=λR k=>
F10 R ((1:Int),(0:Int),(0:Int),(1:Int),(1:Int),()) (replicate 32 (0:Int)) ([(6:Int),(255:Int)]:LI) λy3 y4 y5=>
F10 R ((0:Int),(0:Int),(0:Int),(0:Int),(0:Int),()) (replicate 32 (0:Int)) ([]:LI) λy7 y8 y9=>
F10 R ((1:Int),(0:Int),(0:Int),(1:Int),(1:Int),()) (replicate 32 (0:Int)) (replicate 100001 (0:Int)) λy12 y13 y14=>
F25 R (replicate 32 (0:Int)) (0:Int) (replicate 32 (0:Int)) λy17=>
(match y5==0 with
|true=>(match y9==1 with
|true=>(match y14==14 with
|true=>(match y3.2.2.2.1.1==1 with
|true=>(match (y4.length:Int)==2 with
|true=>(match bnd 0 y4.length with
|true=>F16 R (y4.getD 0 (0,0,[],(replicate 32 0),())) λy25=>
F26 R y17 λy26=>
(match (decide (ByteArray.size (⟨#[111,107,32,48,32,45,32]⟩:ByteArray)+ByteArray.size y26<=9223372036854775807)) with
|true=>(match ByteArray.toList y25==ByteArray.toList (ByteArray.append (⟨#[111,107,32,48,32,45,32]⟩:ByteArray) y26) with
|true=>(match bnd 1 y4.length with
|true=>F16 R (y4.getD 1 (0,0,[],(replicate 32 0),())) λy30=>
(match ByteArray.toList y30==ByteArray.toList (⟨#[101,114,114,32,50]⟩:ByteArray) with
|true=>F18 R y4 λy32=>
(match bnd 0 y4.length with
|true=>F16 R (y4.getD 0 (0,0,[],(replicate 32 0),())) λy34=>
(match (decide (ByteArray.size y34+ByteArray.size (⟨#[10,101,114,114,32,50,10]⟩:ByteArray)<=9223372036854775807)) with
|true=>k (ByteArray.toList y32==ByteArray.toList (ByteArray.append y34 (⟨#[10,101,114,114,32,50,10]⟩:ByteArray)))
|false=>none)
|false=>none)
|false=>k false)
|false=>none)
|false=>k false)
|false=>none)
|false=>none)
|false=>k false)
|false=>k false)
|false=>k false)
|false=>k false)
|false=>k false)
theorem q8 (F10:FT10) (F16:FT16) (F18:FT18) (F25:FT25) (F26:FT26):EQ (en8 (p8 F10 F16 F18 F25 F26)) (sE 0 87 [] [en10 F10,en16 F16,en18 F18,en25 F25,en26 F26] []) Tryz.f8 [(.tmp 0,4,false)]:=λ_ _ _=>by kernel_rfl
def F8:FT8:=p8 F10 F16 F18 F25 F26
theorem ok8:OKP (en8 F8):=ST.ok0 (q8 F10 F16 F18 F25 F26) (Dk ok10 (Dk ok16 (Dk ok18 (Dk ok25 (Dk ok26 Dl))))) Tryz.func8
end Go.PG
set_option maxRecDepth 100000
namespace Go.PG
open Go.Proofs
abbrev FT17:=(R:Type)->LI->LI->(Bool->Option R)->Option R
def en17 (F:FT17):Ent:=eV 17 [(.sl (.int .i64)),(.sl (.int .i64))] [.bool] F
abbrev zq2 (Z:Type):=LI->LI->Int->Z
abbrev zv9 (R:Type):=(Bool->Option R)->(Option R)->Option R
abbrev Uw:=(R:Type)->zq2 (zv9 R)
def RU (L:Uw):LEnt:=lM 4 [.val 0 (.sl (.int .i64)),.val 1 (.sl (.int .i64)),.val 5 (.int .i64)] 0 [(.ret,[.val 4 .bool]),(.exit 0,[])] L
def e17 (L4:Uw):=sE 0 26 [] [] [RU L4]
def zjn (R:Type):zq2 (zq2 (Option R)->zv9 R):=λx1 x2 x3 kc k0 k1=>
(match decide (x3<(x1.length:Int)) with
|true=>(match bnd x3 x1.length with
|true=>(match bnd x3 x2.length with
|true=>(match (x1.getD x3.toNat 0) !=(x2.getD x3.toNat 0) with
|true=>k0 false
|false=>kc x1 x2 (i64.wrap (x3+1)))
|false=>none)
|false=>none)
|false=>k1)
theorem zx4 (L4:Uw):LEQ (RU L4) (e17 L4) Tryz.f17 zjn:=λ_ _ _ _=>by kernel_rfl
def ET:Nat->Uw
 | 0=>λ_ _ _ _ _ _=>none
 | n+1=>λR x1 x2 x3 k0 k1=>zjn R x1 x2 x3 (λx1 x2 x3=>ET n R x1 x2 x3 k0 k1) k0 k1
def p17 (L4:Uw):FT17:=λR a0 a1 k=>
(match (a0.length:Int) !=(a1.length:Int) with
|true=>k false
|false=>L4 R a0 a1 (0:Int) (λx4=>
k x4) (k true))
theorem q17 (L4:Uw):EQ (en17 (p17 L4)) (e17 L4) Tryz.f17 [(.tmp 4,4,false)]:=λ_ _ _=>by kernel_rfl
def F17:FT17:=p17 (ET FUEL)
theorem zkw:LKP (RU (ET FUEL)) 0 26 4 Tryz.f17:=ST.lok (zx4 (ET FUEL)) Dl [] trivial
theorem ok17:OKP (en17 F17):=ST.ok1 (q17 (ET FUEL)) Dl Tryz.func17 [4] ⟨⟨_,rfl,zkw⟩,trivial⟩
abbrev FT46:=(R:Type)->Int->(ByteArray->Option R)->Option R
def en46 (F:FT46):Ent:=eV 46 [(.int .u64)] [.str] F
abbrev zqu (Z:Type):=Int->ByteArray->Z
abbrev zv1 (R:Type):=(ByteArray->Option R)->Option R
abbrev Uo:=(R:Type)->zqu (zv1 R)
def RL (L:Uo):LEnt:=lM 2 [.val 0 (.int .u64),.val 3 .str] 0 [(.ret,[.val 2 .str])] L
def e46 (L2:Uo):=sE 0 17 [] [] [RL L2]
def zjg (R:Type):zqu (zqu (Option R)->zv1 R):=λx1 x2 kc k0=>
let v7:=NO ([(u8.wrap (u64.wrap ((48:Int)+(Int.tmod x1 (10:Int)))))]:LI);(match (decide (ByteArray.size v7+ByteArray.size x2<=9223372036854775807)) with
|true=>let v8:=ByteArray.append v7 x2;let v9:=u64.wrap (Int.tdiv x1 (10:Int));(match v9==0 with
|true=>k0 v8
|false=>kc v9 v8)
|false=>none)
theorem zxw (L2:Uo):LEQ (RL L2) (e46 L2) Tryz.f46 zjg:=λ_ _ _ _=>by kernel_rfl
def EG:Nat->Uo
 | 0=>λ_ _ _ _=>none
 | n+1=>λR x1 x2 k0=>zjg R x1 x2 (λx1 x2=>EG n R x1 x2 k0) k0
def p46 (L2:Uo):FT46:=λR a0 k=>
L2 R a0 (⟨#[]⟩:ByteArray) (λx1=>
k x1)
theorem q46 (L2:Uo):EQ (en46 (p46 L2)) (e46 L2) Tryz.f46 [(.tmp 2,9,false)]:=λ_ _ _=>by kernel_rfl
def F46:FT46:=p46 (EG FUEL)
theorem zko:LKP (RL (EG FUEL)) 0 17 2 Tryz.f46:=ST.lok (zxw (EG FUEL)) Dl [] trivial
theorem ok46:OKP (en46 F46):=ST.ok1 (q46 (EG FUEL)) Dl Tryz.func46 [2] ⟨⟨_,rfl,zko⟩,trivial⟩
abbrev FT45:=(R:Type)->Int->(ByteArray->Option R)->Option R
def en45 (F:FT45):Ent:=eV 45 [(.int .i64)] [.str] F
def p45 (F46:FT46):FT45:=λR a0 k=>
(match decide (a0<0) with
|true=>F46 R (u64.wrap (0 - (u64.wrap a0))) λy4=>
(match (decide (ByteArray.size (⟨#[45]⟩:ByteArray)+ByteArray.size y4<=9223372036854775807)) with
|true=>k (ByteArray.append (⟨#[45]⟩:ByteArray) y4)
|false=>none)
|false=>F46 R (u64.wrap a0) λy7=>
k y7)
theorem q45 (F46:FT46):EQ (en45 (p45 F46)) (sE 0 13 [] [en46 F46] []) Tryz.f45 [(.tmp 2,9,false)]:=λ_ _ _=>by kernel_rfl
def F45:FT45:=p45 F46
theorem ok45:OKP (en45 F45):=ST.ok0 (q45 F46) (Dk ok46 Dl) Tryz.func45
abbrev FT20:=(R:Type)->Tq17->(ByteArray->Option R)->Option R
def en20 (F:FT20):Ent:=eV 20 [Kq17] [.str] F
abbrev zq0 (Z:Type):=ByteArray->Int->Tq17->Z
abbrev zv7 (R:Type):=(ByteArray->Tq17->Option R)->Option R
abbrev Uu:=(R:Type)->zq0 (zv7 R)
def RR (L:Uu):LEnt:=lM 5 [.fix 1 (.ptr 0 [] Kq17),.val 3 .str,.val 4 (.int .i64),.var 0 Kq17 false] 1 [(.exit 0,[.fix 1 (.ptr 0 [] Kq17),.val 3 .str,.var 0 Kq17 false])] L
def e20 (F26:FT26) (F45:FT45) (F46:FT46) (L5:Uu):=sE 0 45 [] [en26 F26,en45 F45,en46 F46] [RR L5]
def zjl (F45:FT45) (R:Type):zq0 (zq0 (Option R)->zv7 R):=λx1 x2 x3 kc k0=>
(match decide (x2<(x3.2.2.1.length:Int)) with
|true=>(match decide (x2>0) with
|true=>(match (decide (ByteArray.size x1+ByteArray.size (⟨#[44]⟩:ByteArray)<=9223372036854775807)) with
|true=>let v7:=ByteArray.append x1 (⟨#[44]⟩:ByteArray);(match bnd x2 x3.2.2.1.length with
|true=>F45 R (x3.2.2.1.getD x2.toNat 0) λy9=>
(match (decide (ByteArray.size v7+ByteArray.size y9<=9223372036854775807)) with
|true=>kc (ByteArray.append v7 y9) (i64.wrap (x2+1)) x3
|false=>none)
|false=>none)
|false=>none)
|false=>(match bnd x2 x3.2.2.1.length with
|true=>F45 R (x3.2.2.1.getD x2.toNat 0) λy13=>
(match (decide (ByteArray.size x1+ByteArray.size y13<=9223372036854775807)) with
|true=>kc (ByteArray.append x1 y13) (i64.wrap (x2+1)) x3
|false=>none)
|false=>none))
|false=>k0 x1 x3)
theorem zx2 (F26:FT26) (F45:FT45) (F46:FT46) (L5:Uu):LEQ (RR L5) (e20 F26 F45 F46 L5) Tryz.f20 (zjl F45):=λ_ _ _ _=>by kernel_rfl
def ER:Nat->Uu
 | 0=>λ_ _ _ _ _=>none
 | n+1=>λR x1 x2 x3 k0=>zjl F45 R x1 x2 x3 (λx1 x2 x3=>ER n R x1 x2 x3 k0) k0
def p20 (F26:FT26) (F45:FT45) (F46:FT46) (L5:Uu):FT20:=λR a0 k=>
(match a0.1 !=0 with
|true=>F45 R a0.1 λy2=>
(match (decide (ByteArray.size (⟨#[101,114,114,32]⟩:ByteArray)+ByteArray.size y2<=9223372036854775807)) with
|true=>k (ByteArray.append (⟨#[101,114,114,32]⟩:ByteArray) y2)
|false=>none)
|false=>L5 R (⟨#[]⟩:ByteArray) (0:Int) a0 (λx4 x5=>
(match ByteArray.toList x4==ByteArray.toList (⟨#[]⟩:ByteArray) with
|true=>F46 R x5.2.1 λy7=>
(match (decide (ByteArray.size (⟨#[111,107,32]⟩:ByteArray)+ByteArray.size y7<=9223372036854775807)) with
|true=>let v8:=ByteArray.append (⟨#[111,107,32]⟩:ByteArray) y7;(match (decide (ByteArray.size v8+ByteArray.size (⟨#[32]⟩:ByteArray)<=9223372036854775807)) with
|true=>let v9:=ByteArray.append v8 (⟨#[32]⟩:ByteArray);(match (decide (ByteArray.size v9+ByteArray.size (⟨#[45]⟩:ByteArray)<=9223372036854775807)) with
|true=>let v10:=ByteArray.append v9 (⟨#[45]⟩:ByteArray);(match (decide (ByteArray.size v10+ByteArray.size (⟨#[32]⟩:ByteArray)<=9223372036854775807)) with
|true=>let v11:=ByteArray.append v10 (⟨#[32]⟩:ByteArray);F26 R x5.2.2.2.1 λy12=>
(match (decide (ByteArray.size v11+ByteArray.size y12<=9223372036854775807)) with
|true=>k (ByteArray.append v11 y12)
|false=>none)
|false=>none)
|false=>none)
|false=>none)
|false=>none)
|false=>F46 R x5.2.1 λy14=>
(match (decide (ByteArray.size (⟨#[111,107,32]⟩:ByteArray)+ByteArray.size y14<=9223372036854775807)) with
|true=>let v15:=ByteArray.append (⟨#[111,107,32]⟩:ByteArray) y14;(match (decide (ByteArray.size v15+ByteArray.size (⟨#[32]⟩:ByteArray)<=9223372036854775807)) with
|true=>let v16:=ByteArray.append v15 (⟨#[32]⟩:ByteArray);(match (decide (ByteArray.size v16+ByteArray.size x4<=9223372036854775807)) with
|true=>let v17:=ByteArray.append v16 x4;(match (decide (ByteArray.size v17+ByteArray.size (⟨#[32]⟩:ByteArray)<=9223372036854775807)) with
|true=>let v18:=ByteArray.append v17 (⟨#[32]⟩:ByteArray);F26 R x5.2.2.2.1 λy19=>
(match (decide (ByteArray.size v18+ByteArray.size y19<=9223372036854775807)) with
|true=>k (ByteArray.append v18 y19)
|false=>none)
|false=>none)
|false=>none)
|false=>none)
|false=>none))))
theorem q20 (F26:FT26) (F45:FT45) (F46:FT46) (L5:Uu):EQ (en20 (p20 F26 F45 F46 L5)) (e20 F26 F45 F46 L5) Tryz.f20 [(.tmp 2,9,false)]:=λ_ _ _=>by kernel_rfl
def F20:FT20:=p20 F26 F45 F46 (ER FUEL)
theorem zku:LKP (RR (ER FUEL)) 0 45 5 Tryz.f20:=ST.lok (zx2 F26 F45 F46 (ER FUEL)) (Dk ok26 (Dk ok45 (Dk ok46 Dl))) [] trivial
theorem ok20:OKP (en20 F20):=ST.ok1 (q20 F26 F45 F46 (ER FUEL)) (Dk ok26 (Dk ok45 (Dk ok46 Dl))) Tryz.func20 [5] ⟨⟨_,rfl,zku⟩,trivial⟩
abbrev FT19:=(R:Type)->(List Tq17)->(ByteArray->Option R)->Option R
def en19 (F:FT19):Ent:=eV 19 [(.sl Kq17)] [.str] F
abbrev zq1 (Z:Type):=(List Tq17)->ByteArray->Int->Z
abbrev zv8 (R:Type):=(ByteArray->Option R)->Option R
abbrev Uv:=(R:Type)->zq1 (zv8 R)
def RS (L:Uv):LEnt:=lM 3 [.val 0 (.sl Kq17),.val 3 .str,.val 4 (.int .i64)] 0 [(.exit 0,[.val 3 .str])] L
def e19 (F20:FT20) (L3:Uv):=sE 0 20 [] [en20 F20] [RS L3]
def zjm (F20:FT20) (R:Type):zq1 (zq1 (Option R)->zv8 R):=λx1 x2 x3 kc k0=>
(match decide (x3<(x1.length:Int)) with
|true=>(match bnd x3 x1.length with
|true=>F20 R (x1.getD x3.toNat (0,0,[],(replicate 32 0),())) λy7=>
(match (decide (ByteArray.size x2+ByteArray.size y7<=9223372036854775807)) with
|true=>let v8:=ByteArray.append x2 y7;(match (decide (ByteArray.size v8+ByteArray.size (⟨#[10]⟩:ByteArray)<=9223372036854775807)) with
|true=>kc x1 (ByteArray.append v8 (⟨#[10]⟩:ByteArray)) (i64.wrap (x3+1))
|false=>none)
|false=>none)
|false=>none)
|false=>k0 x2)
theorem zx3 (F20:FT20) (L3:Uv):LEQ (RS L3) (e19 F20 L3) Tryz.f19 (zjm F20):=λ_ _ _ _=>by kernel_rfl
def ES:Nat->Uv
 | 0=>λ_ _ _ _ _=>none
 | n+1=>λR x1 x2 x3 k0=>zjm F20 R x1 x2 x3 (λx1 x2 x3=>ES n R x1 x2 x3 k0) k0
def p19 (L3:Uv):FT19:=λR a0 k=>
L3 R a0 (⟨#[]⟩:ByteArray) (0:Int) (λx1=>
k x1)
theorem q19 (F20:FT20) (L3:Uv):EQ (en19 (p19 L3)) (e19 F20 L3) Tryz.f19 [(.tmp 2,9,false)]:=λ_ _ _=>by kernel_rfl
def F19:FT19:=p19 (ES FUEL)
theorem zkv:LKP (RS (ES FUEL)) 0 20 3 Tryz.f19:=ST.lok (zx3 F20 (ES FUEL)) (Dk ok20 Dl) [] trivial
theorem ok19:OKP (en19 F19):=ST.ok1 (q19 F20 (ES FUEL)) (Dk ok20 Dl) Tryz.func19 [3] ⟨⟨_,rfl,zkv⟩,trivial⟩
abbrev FT5:=(R:Type)->(List Tq17)->Tq17->Tq17->(Bool->Option R)->Option R
def en5 (F:FT5):Ent:=eV 5 [(.sl Kq17),Kq17,Kq17] [.bool] F
abbrev D5_6 (Z:Type):=(List Tq17)->Int->Tq17->Tq17->Z
abbrev E5_6 (R:Type):=(Bool->Option R)->((List Tq17)->Tq17->Tq17->Option R)->Option R
abbrev MH:=(R:Type)->D5_6 (E5_6 R)
def zk0 (L:MH):LEnt:=lM 6 [.val 0 (.sl Kq17),.fix 4 (.ptr 0 [] Kq17),.fix 5 (.ptr 1 [] Kq17),.val 7 (.int .i64),.var 0 Kq17 false,.var 1 Kq17 false] 2 [(.ret,[.val 6 .bool]),(.exit 0,[.val 0 (.sl Kq17),.fix 4 (.ptr 0 [] Kq17),.fix 5 (.ptr 1 [] Kq17),.var 0 Kq17 false,.var 1 Kq17 false])] L
def e5 (F8:FT8) (F16:FT16) (F17:FT17) (F18:FT18) (F19:FT19) (F20:FT20) (L6:MH):=sE 0 94 [] [en8 F8,en16 F16,en17 F17,en18 F18,en19 F19,en20 F20] [zk0 L6]
def p5_6 (R:Type):D5_6 (D5_6 (Option R)->E5_6 R):=λx1 x2 x3 x4 kc k0 k1=>
(match decide (x2<(x1.length:Int)) with
|true=>(match bnd x2 x1.length with
|true=>let v7:=(x1.getD x2.toNat (0,0,[],(replicate 32 0),())).2.2.1;(match decide ((v7.length:Int)>300) with
|true=>k0 true
|false=>kc x1 (i64.wrap (x2+1)) x3 x4)
|false=>none)
|false=>k1 x1 x3 x4)
theorem q5_6 (F8:FT8) (F16:FT16) (F17:FT17) (F18:FT18) (F19:FT19) (F20:FT20) (L6:MH):LEQ (zk0 L6) (e5 F8 F16 F17 F18 F19 F20 L6) Tryz.f5 p5_6:=λ_ _ _ _=>by kernel_rfl
def G5_6:Nat->MH
 | 0=>λ_ _ _ _ _ _ _=>none
 | n+1=>λR x1 x2 x3 x4 k0 k1=>p5_6 R x1 x2 x3 x4 (λx1 x2 x3 x4=>G5_6 n R x1 x2 x3 x4 k0 k1) k0 k1
def p5 (F8:FT8) (F16:FT16) (F17:FT17) (F18:FT18) (F19:FT19) (F20:FT20) (L6:MH):FT5:=λR a0 a1 a2 k=>
F8 R  λy1=>
(match (!y1) with
|true=>k false
|false=>(match decide ((a0.length:Int)>50) with
|true=>k true
|false=>(match decide ((a1.2.2.1.length:Int)>300) with
|true=>k true
|false=>(match decide ((a2.2.2.1.length:Int)>300) with
|true=>k true
|false=>L6 R a0 (0:Int) a1 a2 (λx8=>
k x8) (λx9 x10 x11=>
F16 R x10 λy12=>
F16 R x11 λy13=>
(match x10.1==x11.1 with
|true=>(match x10.1 !=0 with
|true=>F18 R x9 λy16=>
F19 R x9 λy17=>
(match ByteArray.toList y16==ByteArray.toList y17 with
|true=>F20 R x10 λy19=>
(match ByteArray.toList y12==ByteArray.toList y19 with
|true=>k ((ByteArray.toList y12==ByteArray.toList y13)==true)
|false=>k false)
|false=>k false)
|false=>(match x10.2.1==x11.2.1 with
|true=>F17 R x10.2.2.1 x11.2.2.1 λy24=>
(match y24 with
|true=>F18 R x9 λy26=>
F19 R x9 λy27=>
(match ByteArray.toList y26==ByteArray.toList y27 with
|true=>F20 R x10 λy29=>
(match ByteArray.toList y12==ByteArray.toList y29 with
|true=>k ((ByteArray.toList y12==ByteArray.toList y13)==(Kd.eqv (.arr 32 (.int .u8)) x10.2.2.2.1 x11.2.2.2.1))
|false=>k false)
|false=>k false)
|false=>F18 R x9 λy33=>
F19 R x9 λy34=>
(match ByteArray.toList y33==ByteArray.toList y34 with
|true=>F20 R x10 λy36=>
(match ByteArray.toList y12==ByteArray.toList y36 with
|true=>k ((ByteArray.toList y12==ByteArray.toList y13)==false)
|false=>k false)
|false=>k false))
|false=>F18 R x9 λy40=>
F19 R x9 λy41=>
(match ByteArray.toList y40==ByteArray.toList y41 with
|true=>F20 R x10 λy43=>
(match ByteArray.toList y12==ByteArray.toList y43 with
|true=>k ((ByteArray.toList y12==ByteArray.toList y13)==false)
|false=>k false)
|false=>k false)))
|false=>F18 R x9 λy47=>
F19 R x9 λy48=>
(match ByteArray.toList y47==ByteArray.toList y48 with
|true=>F20 R x10 λy50=>
(match ByteArray.toList y12==ByteArray.toList y50 with
|true=>k ((ByteArray.toList y12==ByteArray.toList y13)==false)
|false=>k false)
|false=>k false)))))))
theorem q5 (F8:FT8) (F16:FT16) (F17:FT17) (F18:FT18) (F19:FT19) (F20:FT20) (L6:MH):EQ (en5 (p5 F8 F16 F17 F18 F19 F20 L6)) (e5 F8 F16 F17 F18 F19 F20 L6) Tryz.f5 [(.tmp 6,4,false)]:=λ_ _ _=>by kernel_rfl
def F5:FT5:=p5 F8 F16 F17 F18 F19 F20 (G5_6 FUEL)
theorem ztx:LKP (zk0 (G5_6 FUEL)) 0 94 6 Tryz.f5:=ST.lok (q5_6 F8 F16 F17 F18 F19 F20 (G5_6 FUEL)) (Dk ok8 (Dk ok16 (Dk ok17 (Dk ok18 (Dk ok19 (Dk ok20 Dl)))))) [] trivial
theorem ok5:OKP (en5 F5):=ST.ok1 (q5 F8 F16 F17 F18 F19 F20 (G5_6 FUEL)) (Dk ok8 (Dk ok16 (Dk ok17 (Dk ok18 (Dk ok19 (Dk ok20 Dl)))))) Tryz.func5 [6] ⟨⟨_,rfl,ztx⟩,trivial⟩
def U32 (x:Int):Prop:=0<=x/\x<4294967296
def U8 (x:Int):Prop:=0<=x/\x<256
theorem Vn {x:Int} (h:U32 x):(BitVec.ofInt 32 x).toNat=x.toNat:=by
 rw [BitVec.toNat_ofInt];unfold U32 at h;have:x % ((2^32:Nat):Int)=x:=by omega
 rw [this]
theorem Q8 (b:BitVec 32):u32.wrap ((b.toNat:Nat):Int)=(b.toNat:Int):=by
 have:=b.isLt;exact Fw (by omega) (by omega)
theorem IM (a b:Int):iand .u32 a b=((BitVec.ofInt 32 a&&& BitVec.ofInt 32 b).toNat:Int):=Q8 _
theorem Vx (a b:Int):ior .u32 a b=((BitVec.ofInt 32 a||| BitVec.ofInt 32 b).toNat:Int):=Q8 _
theorem Vu (a b:Int):ixor .u32 a b=((BitVec.ofInt 32 a^^^BitVec.ofInt 32 b).toNat:Int):=Q8 _
theorem M4 (a:Int):U32 (u32.wrap a):=by rw [Gb]; unfold U32; omega
theorem K0 (b:BitVec 32):BitVec.ofInt 32 ((b.toNat:Nat):Int)=b:=by
 rw [Cy,BitVec.ofNat_toNat,BitVec.setWidth_eq]
theorem UG {a:Int} (b c:Int) (ha:U32 a):ixor .u32 (iand .u32 a b) (iand .u32 (ixor .u32 4294967295 a) c)=ior .u32 (iand .u32 a b) (iand .u32 (u32.wrap (4294967295 - a)) c):=by
 have h1:u32.wrap (4294967295 - a)=ixor .u32 4294967295 a:=by
  rw [Vu,Fw (by unfold U32 at ha; omega) (by unfold U32 at ha; omega)];have e:BitVec.ofInt 32 4294967295=BitVec.allOnes 32:=by decide
  rw [e,BitVec.allOnes_xor,BitVec.toNat_not,Vn ha];unfold U32 at ha;omega
 rw [h1];simp only [IM,Vx,Vu,K0]
 congr 2
 have e:BitVec.ofInt 32 4294967295=BitVec.allOnes 32:=by decide
 rw [e]
 ext i hi
 simp only [BitVec.getElem_xor,BitVec.getElem_and,BitVec.getElem_or,BitVec.getElem_allOnes];cases (BitVec.ofInt 32 a)[i]<;>simp
theorem BM (a b c:Int):ixor .u32 (ixor .u32 (iand .u32 a b) (iand .u32 a c)) (iand .u32 b c)=ior .u32 (ior .u32 (iand .u32 a b) (iand .u32 a c)) (iand .u32 b c):=by
 simp only [IM,Vx,Vu,K0]
 congr 2
 ext i hi
 simp;cases (BitVec.ofInt 32 a)[i]<;>cases (BitVec.ofInt 32 b)[i]<;>cases (BitVec.ofInt 32 c)[i]<;>rfl
def rotS (x:Int) (r:Nat):Int:=x/2^r+(x % 2^r)*2^(32 - r)
theorem Xs {x:Int} {r:Nat} (hx:U32 x) (hr:r<32):rotS x (r+1)=rotS x r/2+(rotS x r % 2)*2147483648:=by
 unfold rotS U32 at*;have e1:(2:Int)^(32 - r)=2*2^(31 - r):=by
  rw [show 32 - r=(31 - r)+1 by omega,Int.pow_succ]; omega
 have e2:(2:Int)^(32 - (r+1))=2^(31 - r):=by rw [show 32 - (r+1)=31 - r by omega]
 have e3:(2:Int)^(r+1)=2^r*2:=Int.pow_succ _ _;have e4:(2:Int)^r*2^(31 - r)=2147483648:=by
  rw [<-Int.pow_add,show r+(31 - r)=31 by omega]; decide
 rw [e1,e2,e3];have hp:(0:Int)<2^r:=Int.pow_pos (by decide);generalize (2:Int)^r=p at*;generalize (2:Int)^(31 - r)=s at*;have d1:x/(p*2)=x/p/2:=(Int.ediv_ediv_of_nonneg (by omega)).symm;have d2:x % (p*2)=x % p+p*(x/p % 2):=by
  have a1:=Int.emod_add_mul_ediv x p;have a2:=Int.emod_add_mul_ediv x (p*2);have a3:=Int.emod_add_mul_ediv (x/p) 2;rw [d1] at a2;generalize x/p=q at*;generalize x % p=m at*;generalize q/2=h at*;generalize q % 2=t at*;have:p*(t+2*h)=p*q:=by rw [a3]
  rw [Int.mul_add,<-Int.mul_assoc] at this;omega
 rw [d1,d2,Int.add_mul];have e5:p*(x/p % 2)*s=(x/p % 2)*2147483648:=by
  rw [Int.mul_comm p,Int.mul_assoc,e4]
 rw [e5];have e6:x % p*(2*s)=2*(x % p*s):=by rw [Int.mul_left_comm]
 rw [e6];generalize x % p*s=u;omega
theorem Xr (x:Int):rotS x 0=x:=by simp [rotS]
theorem OC {x:Int} (hx:U32 x):∀{r:Nat},r<=32->U32 (rotS x r)
 | 0,_=>by rw [Xr]; exact hx
 | r+1,h=>by
  have ih:=OC hx (r:=r) (by omega);rw [Xs hx (by omega)];unfold U32 at*;omega
theorem two_pow_pos (r:Nat):(0:Int)<2^r:=Int.pow_pos (by decide)
theorem zre {x:Int} (hx:U32 x) {r:Nat} (h0:0<r) (hr:r<32):ior .u32 (ishr .u32 x r) (ishl .u32 x ((32:Int) - r))=rotS x r:=by
 unfold U32 at hx;obtain ⟨n,rfl⟩:∃n:Nat,x=n:=⟨x.toNat,by omega⟩
 have hn:n<2^32:=by omega
 have e1:ishr .u32 (n:Int) r=((n/2^r:Nat):Int):=by
  unfold ishr;rw [show IntKind.u32.bits=32 from rfl,show ((r:Int).toNat)=r by simp,A6 (by omega),Cz _ (by have:=two_pow_pos r; omega)];simp
 have e2:ishl .u32 (n:Int) ((32:Int) - r)=((n*2^(32 - r) % 2^32:Nat):Int):=by
  unfold ishl;rw [show IntKind.u32.bits=32 from rfl,show ((32:Int) - r).toNat=32 - r by omega,A6 (by omega),Gb];simp
 rw [e1,e2,Vx,Cy,Cy,BitVec.toNat_or,C0,C0];have hd:n/2^r<2^(32 - r):=by
  rw [Nat.div_lt_iff_lt_mul (Nat.two_pow_pos r),<-Nat.pow_add,show 32 - r+r=32 by omega]; exact hn
 have h3:n*2^(32 - r) % 2^32=(n % 2^r)*2^(32 - r):=by
  have:2^32=2^r*2^(32 - r):=by rw [<-Nat.pow_add,show r+(32 - r)=32 by omega]
  rw [this,Nat.mul_mod_mul_right]
 have h4:n/2^r<2^32:=Nat.lt_of_le_of_lt (Nat.div_le_self _ _) hn;rw [h3,B7 h4,B7 (by
  have:n % 2^r<2^r:=Nat.mod_lt _ (Nat.two_pow_pos r);have h5:2^32=2^r*2^(32 - r):=by rw [<-Nat.pow_add,show r+(32 - r)=32 by omega]
  rw [h5]; exact Nat.mul_lt_mul_of_pos_right this (Nat.two_pow_pos _)),Nat.or_comm]
 have h6:=Nat.shiftLeft_add_eq_or_of_lt hd (n % 2^r);rw [Nat.shiftLeft_eq] at h6;rw [<-h6];unfold rotS;simp;omega
open Go.Proofs
abbrev bs (l:List UInt8):ByteArray:=⟨l.toArray⟩
theorem Gp (a b:List UInt8):ByteArray.append (bs a) (bs b)=bs (a++b):=by
 refine ByteArray.ext ?_;rw [show ByteArray.append (bs a) (bs b)=bs a++bs b from rfl,ByteArray.data_append];simp
theorem Ec (a:List UInt8):ByteArray.size (bs a)=a.length:=by
 show a.toArray.size=_;simp
theorem zod (a b:List UInt8):(ByteArray.toList (bs a)==ByteArray.toList (bs b))=decide (a=b):=by
 rw [ByteArray.toList_eq,ByteArray.toList_eq]
 by_cases h:a=b
 ·subst h; simp
 ·simp [h]
theorem DS (a:List UInt8):(ByteArray.toList (bs a)==ByteArray.toList (bs a))=true:=by rw [zod]; exact C1 rfl
theorem H8 {u:Nat} (h:u<18446744073709551616):Lib.nDigits u<=20:=by
 by_cases h1:1<=u
 ·have:=Lib.numDigits_eq u h1 h
  split at this<;>omega
 ·have:u=0:=by omega
  subst this;rw [Lib.nDigits_small (by omega)];omega
theorem GV {x:Int} (h0:0<=x) (h1:x<256):u8.wrap x=x:=by rw [Gx]; omega
theorem AE {x:Int} (h0:0<=x) (h1:x<18446744073709551616):u64.wrap x=x:=by rw [Fj]; omega
theorem zgt (R:Type) (k0:ByteArray->Option R):∀(f u:Nat) (s:List UInt8),u<f->u<18446744073709551616->s.length+Lib.nDigits u<=1000->EG f R (u:Int) (bs s) k0=k0 (bs (Lib.decDigits u++s))
 | 0,u,s,h,_,_=>by omega
 | f+1,u,s,h,h2,h3=>by
  have hd:1<=Lib.nDigits u:=by
   by_cases h0:u<10
   ·rw [Lib.nDigits_small h0]; exact Al _
   ·rw [Lib.nDigits_big h0]; omega
  have e1:Int.tmod (u:Int) 10=((u % 10:Nat):Int):=by rw [C2 (by omega)]; omega
  have e2:Int.tdiv (u:Int) 10=((u/10:Nat):Int):=by rw [C3 (by omega)]; omega
  have e3:u8.wrap (u64.wrap (48+((u % 10:Nat):Int)))=((48+u % 10:Nat):Int):=by rw [AE (by omega) (by omega),GV (by omega) (by omega)]; omega
  have e4:u64.wrap ((u/10:Nat):Int)=((u/10:Nat):Int):=AE (by omega) (by omega);have e5:NO [((48+u % 10:Nat):Int)]=bs [UInt8.ofNat (48+u % 10)]:=rfl;have c1:decide (ByteArray.size (bs [UInt8.ofNat (48+u % 10)])+ByteArray.size (bs s)<=9223372036854775807)=true:=by
   rw [Ec,Ec];exact C1 (by show 1+s.length<=_; omega)
  simp only [EG,zjg,e1,e2,e3,e4,e5,c1,Gp]
  by_cases h0:u<10
  ·have z:u/10=0:=by omega
   have m:u % 10=u:=by omega
   rw [z,m,Lib.decDigits_one h0];rfl
  ·have z:((((u/10:Nat):Int))==(0:Int))=false:=by
    rw [C4];omega
   rw [z];have ih:=zgt R k0 f (u/10) ([UInt8.ofNat (48+u % 10)]++s) (by omega) (by omega) (by rw [Lib.nDigits_big h0] at h3; simp; omega);refine ih.trans ?_;rw [<-Ah];have:Lib.decDigits u=Lib.decDigits (u/10)++[UInt8.ofNat (48+u % 10)]:=by
    conv=>lhs; rw [Lib.decDigits,dif_neg h0]
   rw [this]
theorem JU (R:Type) {n:Int} (h0:0<=n) (h1:n<18446744073709551616) (k:ByteArray->Option R):F46 R n k=k (bs (Lib.decDigits n.toNat)):=by
 have hn:n=(n.toNat:Int):=by omega
 have:=zgt R k FUEL n.toNat [] (by rw [Dv]; omega) (by omega) (by have:=H8 (show n.toNat<18446744073709551616 by omega); simp; omega);rw [<-hn,B0] at this;exact this
theorem I1 {n:Int} (h:0<=n):Lib.itoa n=Lib.decDigits n.toNat:=by unfold Lib.itoa; rw [Ak (by omega)]
theorem J1 {n:Int} (h:n<0):Lib.itoa n=45::Lib.decDigits (-n).toNat:=by
 unfold Lib.itoa;rw [Aj h];have:n.natAbs=(-n).toNat:=by omega
 rw [this]
def Wd (n:Int):Prop:= -9223372036854775808<=n/\n<9223372036854775808
theorem XZ (R:Type) {n:Int} (h:Wd n) (k:ByteArray->Option R):F45 R n k=k (bs (Lib.itoa n)):=by
 unfold Wd at h;simp only [F45,p45]
 by_cases h0:n<0
 ·have e1:u64.wrap n=n+18446744073709551616:=by rw [Fj]; omega
  have e2:u64.wrap (0 - (n+18446744073709551616))= -n:=by rw [Fj]; omega
  have hl:=H8 (show (-n).toNat<18446744073709551616 by omega);have c1:decide (ByteArray.size (bs [45])+ByteArray.size (bs (Lib.decDigits (-n).toNat))<=9223372036854775807)=true:=by
   rw [Ec,Ec,Cv];exact C1 (by show 1+_<=_; omega)
  simp only [C1 h0,e1,e2,JU R (show 0<= -n by omega) (show -n<18446744073709551616 by omega),c1,Gp,J1 h0];rfl
 ·have e1:u64.wrap n=n:=AE (by omega) (by omega)
  simp only [C5 h0,e1,JU R (show 0<=n by omega) (show n<18446744073709551616 by omega),I1 (show 0<=n by omega)]
theorem zg5 (R:Type) {n:Int} (h:Wd n) (k:ByteArray->Option R):F38 R n k=k (bs (Lib.itoa n)):=by
 unfold Wd at h;simp only [F38,SC,C1 (show -9223372036854775808<=n/\n<=9223372036854775807 by omega)]
theorem zvl (R:Type) {n:Int} (h0:0<=n) (h1:n<18446744073709551616) (k:ByteArray->Option R):F40 R n 10 k=k (bs (Lib.decDigits n.toNat)):=by
 show LO R n 10 k=_;unfold LO;rw [C1 (show 0<=n/\n<18446744073709551616/\(10:Int)=10 from ⟨h0,h1,rfl⟩)]
theorem Nl {n:Int} (h:Wd n):(Lib.itoa n).length<=21:=by
 unfold Wd at h
 by_cases h0:n<0
 ·have hl:=H8 (show (-n).toNat<18446744073709551616 by omega)
  rw [J1 h0,Af,Cv];omega
 ·have hl:=H8 (show n.toNat<18446744073709551616 by omega)
  rw [I1 (by omega),Cv];omega
theorem HH {M:Nat} (sep:List UInt8):∀{r:List (List UInt8)},(∀x∈r,x.length<=M)->(Lib.joinTail sep r).length<=r.length*(M+sep.length)
 | [],_=>by simp [Lib.joinTail]
 | x::r,h=>by
  have h1:=HH sep (r:=r) (λy hy=>h y (by simp [hy]));have h2:=h x (by simp);have e:Lib.joinTail sep (x::r)=sep++x++Lib.joinTail sep r:=by simp [Lib.joinTail]
  rw [e,Ae,Ae,Af,Nat.succ_mul];omega
theorem zdl {M:Nat} (sep:List UInt8):∀{r:List (List UInt8)},(∀x∈r,x.length<=M)->(Lib.join r sep).length<=r.length*(M+sep.length)
 | [],_=>by rw [Lib.join_nil]; simp
 | x::r,h=>by
  have h1:=HH sep (r:=r) (λy hy=>h y (by simp [hy]));have h2:=h x (by simp);rw [Lib.join_cons,Ae,Af,Nat.succ_mul];omega
theorem zoc (l:List (List UInt8)):(l.map bs).map (·.data.toList)=l:=by
 rw [List.map_map];have:((λs:ByteArray=>s.data.toList) ∘ bs)=id:=funext λx=>by simp
 rw [this,List.map_id]
theorem zg4 (R:Type) (l:List (List UInt8)) (sep:List UInt8) (h1:(Lib.join l sep).length<=100000000) (h2:l.length<=100000000) (k:ByteArray->Option R):F39 R (l.map bs) (bs sep) k=k (bs (Lib.join l sep)):=by
 have e:(bs sep).data.toList=sep:=by simp
 simp only [F39,SA,zoc,e,C6,C1 (show (Lib.join l sep).length<=140737488355328/\l.length<=140737488355328 by omega)]
def memT (l:List Int):List UInt8:=match l with
 | []=>[45]
 | _::_=>Lib.join (l.map Lib.itoa) [44]
theorem Ty {i n:Nat} (h:i<n) (hn:n<=1000000):i64.wrap ((i:Int)+1)=((i+1:Nat):Int):=by rw [wrap_i64 (by omega) (by omega)]; omega
theorem bndN {i n:Nat} (h:i<n):bnd (i:Int) (n:Int)=true:=by unfold bnd; simp; omega
theorem ltN {i n:Nat} (h:i<n):decide ((i:Int)<(n:Int))=true:=by simpa using h
theorem nltN (n:Nat):decide ((n:Int)<(n:Int))=false:=by simp
theorem zgu (R:Type) {l:List Int} (hw:∀x∈l,Wd x) (hl:l.length<=100000) (k0:List ByteArray->Option R):∀(f i:Nat),i<=l.length->l.length - i<f->
  EH f R l (l.length:Int) (i:Int) ((l.take i).map λx=>bs (Lib.itoa x)) k0=k0 (l.map λx=>bs (Lib.itoa x))
 | 0,i,_,h=>by omega
 | f+1,i,h1,h2=>by
  simp only [EH,zjh]
  by_cases hi:i<l.length
  ·have e0:l.getD i 0=l[i]:=by simp [hi]
   have hx:=hw _ (Cw hi);have ih:=zgu R hw hl k0 f (i+1) (by omega) (by omega);have c1:decide (((l.take i).map λx=>bs (Lib.itoa x)).length+[bs (Lib.itoa l[i])].length<=8796093022208)=true:=by
    rw [C6,A5];exact C1 (by show _+1<=_; omega)
   simp only [ltN hi,bndN hi,Bv,e0,zg5 R hx,c1,Ty hi (show l.length<=1000000 by omega)];rw [Cx hi,Bm] at ih;exact ih
  ·have:i=l.length:=by omega
   subst this;simp only [nltN,Bl]
theorem BK {l:List Int} (hw:∀x∈l,Wd x):(Lib.join (l.map Lib.itoa) [44]).length<=l.length*22:=by
 have:=zdl (M:=21) [44] (r:=l.map Lib.itoa) (λx hx=>by
  obtain ⟨y,hy,rfl⟩:=List.mem_map.1 hx;exact Nl (hw y hy))
 rw [C6] at this;exact this
theorem zvk (R:Type) {l:List Int} (hw:∀x∈l,Wd x) (hl:l.length<=100000) (k:ByteArray->Option R):F41 R l k=k (bs (memT l)):=by
 simp only [F41,p41];cases l with
 | nil=>rfl
 | cons x r=>
  have e:(((x::r).length:Int)==(0:Int))=false:=by
   rw [C4];simp only [Af];omega
  have h1:=zgu R hw hl (λx4=>F39 R x4 (⟨#[44]⟩:ByteArray) λy5=>k y5) FUEL 0 (by omega) (by rw [Dv]; omega);simp only [e];refine h1.trans ?_;have h2:=BK hw;have h3:=zg4 R ((x::r).map Lib.itoa) [44] (by omega) (by rw [C6]; omega) k;rw [List.map_map] at h3;exact h3
abbrev AnT:=Int×(Int×(List Int×(List Int×Unit)))
def ansT (a:AnT):List UInt8:=if a.1=0 then Lib.join [[111,107],Lib.decDigits a.2.1.toNat,memT a.2.2.1,hexT a.2.2.2.1] [32] else [101,114,114,32]++Lib.itoa a.1
structure AnW (a:AnT):Prop where
 err:Wd a.1
 n:0<=a.2.1/\a.2.1<18446744073709551616
 who:∀x∈a.2.2.1,Wd x
 wlen:a.2.2.1.length<=2000
 hlen:a.2.2.2.1.length=32
 hash:∀x∈a.2.2.2.1,0<=x/\x<256
theorem zvj (R:Type) {h:List Int} (hl:h.length=32) (hu:∀x∈h,0<=x/\x<256) (k:ByteArray->Option R):F42 R h k=k (bs (hexT h)):=by
 have e:(decide (h.length=32)&&h.all λx=>decide (0<=x/\x<256))=true:=by
  rw [C1 hl,C7,B9];exact λx hx=>C1 (hu x hx)
 simp only [F42,NL,e]
theorem zca {l:List Int} (hw:∀x∈l,Wd x):(memT l).length<=l.length*22+1:=by
 cases l with
 | nil=>decide
 | cons x r=>
  have:=BK hw;show (Lib.join (List.map Lib.itoa (x::r)) [44]).length<=_;omega
theorem Q4 {a:AnT} (h:AnW a):(ansT a).length<=50000:=by
 have h1:=H8 (show a.2.1.toNat<18446744073709551616 by have:=h.n; omega);have h2:=zca h.who;have h3:=h.wlen;have h4:=Nl h.err;unfold ansT;split
 ·rw [Lib.join_cons]
  simp only [Lib.joinTail,Cc,List.map_nil,List.flatten_cons,List.flatten_nil,Ae,Af,Bz,Cv,Nm,h.hlen];omega
 ·simp only [Ae,Af,Bz]
  omega
theorem Oa (R:Type) {a:AnT} (h:AnW a) (k:ByteArray->Option R):F16 R a k=k (bs (ansT a)):=by
 have h1:=Q4 h;have h4:=Nl h.err;simp only [F16,p16];unfold ansT at h1 ⊢
 by_cases h0:a.1=0
 ·have e:(a.1 !=(0:Int))=false:=by rw [h0]; rfl
  rw [Aj h0] at h1 ⊢;have h5:=zg4 R [[111,107],Lib.decDigits a.2.1.toNat,memT a.2.2.1,hexT a.2.2.2.1] [32] (by omega) (by show 4<=_; omega) k;simp only [e,zvl R h.n.1 h.n.2,zvk R h.who (show a.2.2.1.length<=100000 by have:=h.wlen; omega),zvj R h.hlen h.hash];exact h5
 ·have e:(a.1 !=(0:Int))=true:=by simp [h0]
  have c1:decide (ByteArray.size (bs [101,114,114,32])+ByteArray.size (bs (Lib.itoa a.1))<=9223372036854775807)=true:=by
   rw [Ec,Ec];exact C1 (by show 4+_<=_; omega)
  rw [Ak h0];simp only [e,zg5 R h.err,c1,Gp]
open Go.Proofs
theorem SW {a:Int} (h0:0<=a) (h1:a<16):ByteArray.extract (⟨#[48,49,50,51,52,53,54,55,56,57,97,98,99,100,101,102]⟩:ByteArray) (Int.toNat a) (Int.toNat (a+1))=bs [hexD a.toNat]:=by
 obtain ⟨n,rfl⟩:∃n:Nat,a=n:=⟨a.toNat,by omega⟩
 have e1:Int.toNat (n:Int)=n:=by omega
 have e2:Int.toNat ((n:Int)+1)=n+1:=by omega
 rw [e1,e2];have hn:n<16:=by omega
 match n,hn with
 | 0,_=>rfl
 | 1,_=>rfl
 | 2,_=>rfl
 | 3,_=>rfl
 | 4,_=>rfl
 | 5,_=>rfl
 | 6,_=>rfl
 | 7,_=>rfl
 | 8,_=>rfl
 | 9,_=>rfl
 | 10,_=>rfl
 | 11,_=>rfl
 | 12,_=>rfl
 | 13,_=>rfl
 | 14,_=>rfl
 | 15,_=>rfl
 | q+16,h=>exact absurd h (by omega)
theorem zgx (R:Type) {h:List Int} (hl:h.length=32) (hu:∀x∈h,0<=x/\x<256) (k0:ByteArray->Option R):∀(f i:Nat) (s:List UInt8),i<=32->32 - i<f->s.length+2*(32 - i)<=1000->EM f R (bs s) (i:Int) h k0=k0 (bs (s++hexT (h.drop i)))
 | 0,i,s,_,h2,_=>by omega
 | f+1,i,s,h1,h2,h3=>by
  simp only [EM,zjj]
  by_cases hi:i<32
  ·have hil:i<h.length:=by omega
   have e0:h.getD i 0=h[i]:=by simp [hil]
   have hx:=hu _ (Cw hil);have ih:=zgx R hl hu k0 f (i+1) (s++[hexD (h[i].toNat/16)]++[hexD (h[i].toNat % 16)]) (by omega) (by omega) (by simp; omega);have t1:decide ((i:Int)<32)=true:=C1 (by omega);have t2:bnd (i:Int) 32=true:=bndN (n:=32) hi;have e1:u8.wrap (Int.tdiv h[i] 16)=h[i]/16:=by rw [C3 hx.1,GV (by omega) (by omega)]
   have e2:Int.tmod h[i] 16=h[i] % 16:=C2 hx.1;have e3:u8.wrap (h[i]/16+1)=h[i]/16+1:=GV (by omega) (by omega);have e4:u8.wrap (h[i] % 16+1)=h[i] % 16+1:=GV (by omega) (by omega);have hs:(ByteArray.size (⟨#[48,49,50,51,52,53,54,55,56,57,97,98,99,100,101,102]⟩:ByteArray):Int)=16:=rfl;have c1:decide (0<=h[i]/16/\h[i]/16<=h[i]/16+1/\h[i]/16+1<=16)=true:=C1 (by omega);have c2:decide (0<=h[i] % 16/\h[i] % 16<=h[i] % 16+1/\h[i] % 16+1<=16)=true:=C1 (by omega);have x1:=SW (a:=h[i]/16) (by omega) (by omega)
   have x2:=SW (a:=h[i] % 16) (by omega) (by omega);have n1:(h[i]/16).toNat=h[i].toNat/16:=by omega
   have n2:(h[i] % 16).toNat=h[i].toNat % 16:=by omega
   rw [n1] at x1;rw [n2] at x2;rw [<-n1] at x1;rw [<-n2] at x2;have c3:decide (ByteArray.size (bs s)+ByteArray.size (bs [hexD (h[i]/16).toNat])<=9223372036854775807)=true:=by
    rw [Ec,Ec];exact C1 (by show _+1<=_; omega)
   have c4:decide (ByteArray.size (bs (s++[hexD (h[i]/16).toNat]))+ByteArray.size (bs [hexD (h[i] % 16).toNat])<=9223372036854775807)=true:=by
    rw [Ec,Ec,Ae];exact C1 (by show _+1+1<=_; omega)
   simp only [t1,t2,Bv,e0,e1,e2,e3,e4,hs,c1,c2,x1,x2,c3,Gp,c4,Ty hi (show 32<=1000000 by omega)];rw [n1,n2];refine ih.trans ?_;have e:hexT (h.drop i)=hexD (h[i].toNat/16)::hexD (h[i].toNat % 16)::hexT (h.drop (i+1)):=by rw [Co hil]; rfl
   rw [e];simp
  ·have:i=32:=by omega
   subst this;have t1:decide (((32:Nat):Int)<32)=false:=by decide
   have e:h.drop 32=[]:=List.drop_eq_nil_of_le (by omega);simp only [t1,e,hexT,B0]
theorem W0 (R:Type) {h:List Int} (hl:h.length=32) (hu:∀x∈h,0<=x/\x<256) (k:ByteArray->Option R):F26 R h k=k (bs (hexT h)):=by
 have:=zgx R hl hu k FUEL 0 [] (by omega) (by rw [Dv]; omega) (by simp);rw [A2,Bo] at this;exact this
theorem RZ (sep y:List UInt8):∀{xs:List (List UInt8)},xs≠[]->Lib.join (xs++[y]) sep=Lib.join xs sep++sep++y
 | [],h=>absurd rfl h
 | x::r,_=>by
  rw [A3,Lib.join_cons,Lib.join_cons];simp [Lib.joinTail,Ah]
def jT (l:List Int):List UInt8:=Lib.join (l.map Lib.itoa) [44]
theorem zf0 {l:List Int} (hw:∀x∈l,Wd x):(jT l).length<=l.length*22:=BK hw
theorem zk4 {l:List Int} (h:l≠[]) (x:Int):jT (l++[x])=jT l++[44]++Lib.itoa x:=by
 unfold jT;rw [Bm];exact RZ [44] (Lib.itoa x) (by simpa using h)
theorem zgz (R:Type) {a:AnT} (h:AnW a) (k0:ByteArray->AnT->Option R):∀(f i:Nat),i<=a.2.2.1.length->a.2.2.1.length - i<f->ER f R (bs (jT (a.2.2.1.take i))) (i:Int) a k0=k0 (bs (jT a.2.2.1)) a
 | 0,i,_,h2=>by omega
 | f+1,i,h1,h2=>by
  have hwl:=h.wlen;simp only [ER,zjl]
  by_cases hi:i<a.2.2.1.length
  ·have e0:a.2.2.1.getD i 0=a.2.2.1[i]:=by simp [hi]
   have hx:=h.who _ (Cw hi);have hxl:=Nl hx;have hjl:=zf0 (l:=a.2.2.1.take i) (λx hx=>h.who x (List.mem_of_mem_take hx));have htl:(a.2.2.1.take i).length<=2000:=by rw [A5]; omega
   have ih:=zgz R h k0 f (i+1) (by omega) (by omega);rw [Cx hi] at ih
   by_cases hp:0<i
   ·have t1:decide ((i:Int)>0)=true:=C1 (by omega)
    have hne:a.2.2.1.take i≠[]:=λe=>by
     have:=Ac List.length e;rw [A5] at this;simp only [Bz] at this;omega
    have c1:decide (ByteArray.size (bs (jT (a.2.2.1.take i)))+ByteArray.size (bs [44])<=9223372036854775807)=true:=by
     rw [Ec,Ec];exact C1 (by show _+1<=_; omega)
    have c2:decide (ByteArray.size (bs (jT (a.2.2.1.take i)++[44]))+ByteArray.size (bs (Lib.itoa a.2.2.1[i]))<=9223372036854775807)=true:=by
     rw [Ec,Ec,Ae];exact C1 (by show _+1+_<=_; omega)
    rw [zk4 hne] at ih;simp only [ltN hi,t1,c1,bndN hi,Bv,e0,XZ R hx,Gp,c2,Ty hi (show a.2.2.1.length<=1000000 by omega)];exact ih
   ·have:i=0:=by omega
    subst this;have t1:decide (((0:Nat):Int)>0)=false:=by decide
    have z:jT ([]:List Int)=[]:=rfl;have c2:decide (ByteArray.size (bs ([]:List UInt8))+ByteArray.size (bs (Lib.itoa a.2.2.1[0]))<=9223372036854775807)=true:=by
     rw [Ec,Ec];exact C1 (by show 0+_<=_; omega)
    have e1:jT ([]++[a.2.2.1[0]])=Lib.itoa a.2.2.1[0]:=by
     unfold jT;exact Lib.join_one _ _
    rw [List.take_zero,e1] at ih;simp only [ltN hi,t1,bndN hi,Bv,e0,XZ R hx,List.take_zero,z,Gp,A2,c2,Ty hi (show a.2.2.1.length<=1000000 by omega)];exact ih
  ·have:i=a.2.2.1.length:=by omega
   subst this;simp only [nltN,Bl]
theorem zk7 {n:Int}:Lib.itoa n≠[]:=by
 unfold Lib.itoa;split
 ·exact List.cons_ne_nil _ _
 ·intro h
  have:=Ac List.length h;rw [Cv] at this;simp only [Bz] at this
  by_cases h0:n.toNat<10
  ·rw [Lib.nDigits_small h0] at this; omega
  ·rw [Lib.nDigits_big h0] at this; omega
theorem zfz {l:List Int}:jT l=[]↔l=[]:=by
 constructor
 ·intro h
  cases l with
  | nil=>rfl
  | cons x r=>
   unfold jT at h;rw [Cc,Lib.join_cons] at h;exact absurd (Cn.1 h).1 zk7
 ·intro h; subst h; rfl
theorem KB (R:Type) {a:AnT} (h:AnW a) (k:ByteArray->Option R):F20 R a k=k (bs (ansT a)):=by
 have hwl:=h.wlen;have h4:=Nl h.err;have hd:=H8 (show a.2.1.toNat<18446744073709551616 by have:=h.n; omega);have hj:=zf0 h.who;have hh:(hexT a.2.2.2.1).length=64:=by rw [Nm,h.hlen]
 simp only [F20,p20];unfold ansT
 by_cases h0:a.1=0
 ·have e:(a.1 !=(0:Int))=false:=by rw [h0]; rfl
  rw [Aj h0];simp only [e];have hg:=zgz R h (λx4 x5=>(match (ByteArray.toList x4==ByteArray.toList (⟨#[]⟩:ByteArray)) with
   | true=>F46 R x5.2.1 λy7=>
    (match (decide (ByteArray.size (⟨#[111,107,32]⟩:ByteArray)+ByteArray.size y7<=9223372036854775807)) with
    | true=>(match (decide (ByteArray.size (ByteArray.append (⟨#[111,107,32]⟩:ByteArray) y7)+ByteArray.size (⟨#[32]⟩:ByteArray)<=9223372036854775807)) with
     | true=>(match (decide (ByteArray.size (ByteArray.append (ByteArray.append (⟨#[111,107,32]⟩:ByteArray) y7) (⟨#[32]⟩:ByteArray))+ByteArray.size (⟨#[45]⟩:ByteArray)<=9223372036854775807)) with
      | true=>(match (decide (ByteArray.size (ByteArray.append (ByteArray.append (ByteArray.append (⟨#[111,107,32]⟩:ByteArray) y7) (⟨#[32]⟩:ByteArray)) (⟨#[45]⟩:ByteArray))+ByteArray.size (⟨#[32]⟩:ByteArray)<=9223372036854775807)) with
       | true=>F26 R x5.2.2.2.1 λy12=>
        (match (decide (ByteArray.size (ByteArray.append (ByteArray.append (ByteArray.append (ByteArray.append (⟨#[111,107,32]⟩:ByteArray) y7) (⟨#[32]⟩:ByteArray)) (⟨#[45]⟩:ByteArray)) (⟨#[32]⟩:ByteArray))+ByteArray.size y12<=9223372036854775807)) with
        | true=>k (ByteArray.append (ByteArray.append (ByteArray.append (ByteArray.append (ByteArray.append (⟨#[111,107,32]⟩:ByteArray) y7) (⟨#[32]⟩:ByteArray)) (⟨#[45]⟩:ByteArray)) (⟨#[32]⟩:ByteArray)) y12)
        | false=>none)
       | false=>none)
      | false=>none)
     | false=>none)
    | false=>none)
   | false=>F46 R x5.2.1 λy14=>
    (match (decide (ByteArray.size (⟨#[111,107,32]⟩:ByteArray)+ByteArray.size y14<=9223372036854775807)) with
    | true=>(match (decide (ByteArray.size (ByteArray.append (⟨#[111,107,32]⟩:ByteArray) y14)+ByteArray.size (⟨#[32]⟩:ByteArray)<=9223372036854775807)) with
     | true=>(match (decide (ByteArray.size (ByteArray.append (ByteArray.append (⟨#[111,107,32]⟩:ByteArray) y14) (⟨#[32]⟩:ByteArray))+ByteArray.size x4<=9223372036854775807)) with
      | true=>(match (decide (ByteArray.size (ByteArray.append (ByteArray.append (ByteArray.append (⟨#[111,107,32]⟩:ByteArray) y14) (⟨#[32]⟩:ByteArray)) x4)+ByteArray.size (⟨#[32]⟩:ByteArray)<=9223372036854775807)) with
       | true=>F26 R x5.2.2.2.1 λy19=>
        (match (decide (ByteArray.size (ByteArray.append (ByteArray.append (ByteArray.append (ByteArray.append (⟨#[111,107,32]⟩:ByteArray) y14) (⟨#[32]⟩:ByteArray)) x4) (⟨#[32]⟩:ByteArray))+ByteArray.size y19<=9223372036854775807)) with
        | true=>k (ByteArray.append (ByteArray.append (ByteArray.append (ByteArray.append (ByteArray.append (⟨#[111,107,32]⟩:ByteArray) y14) (⟨#[32]⟩:ByteArray)) x4) (⟨#[32]⟩:ByteArray)) y19)
        | false=>none)
       | false=>none)
      | false=>none)
     | false=>none)
    | false=>none))) FUEL 0 (by omega) (by rw [Dv]; omega)
  refine hg.trans ?_;clear hg;have hsz:∀x y:List UInt8,x.length+y.length<=100000->decide (ByteArray.size (bs x)+ByteArray.size (bs y)<=9223372036854775807)=true:=λx y hxy=>by
   rw [Ec,Ec];exact C1 (by omega)
  have ee:(ByteArray.toList (bs (jT a.2.2.1))==ByteArray.toList (⟨#[]⟩:ByteArray))=decide (jT a.2.2.1=[]):=zod _ [];have hm:memT a.2.2.1=if a.2.2.1=[] then [45] else jT a.2.2.1:=by
   cases a.2.2.1 with
   | nil=>rfl
   | cons x r=>rw [Ak (by simp)]; rfl
  have hdl:=Cv a.2.1.toNat
  by_cases hn:a.2.2.1=[]
  ·rw [Aj hn] at hm
   simp only [ee,C1 (zfz.2 hn),JU R h.n.1 h.n.2,W0 R h.hlen h.hash];rw [hsz [111,107,32] _ (by show 3+_<=_; omega),Gp];simp only [];rw [hsz _ [32] (by simp; omega),Gp];simp only [];rw [hsz _ [45] (by simp; omega),Gp];simp only [];rw [hsz _ [32] (by simp; omega),Gp];simp only [];rw [hsz _ _ (by simp; omega),Gp];simp only []
   congr 2
   rw [hm,Lib.join_cons];simp [Lib.joinTail]
  ·rw [Ak hn] at hm
   simp only [ee,C5 (λq=>hn (zfz.1 q)),JU R h.n.1 h.n.2,W0 R h.hlen h.hash];rw [hsz [111,107,32] _ (by show 3+_<=_; omega),Gp];simp only [];rw [hsz _ [32] (by simp; omega),Gp];simp only [];rw [hsz _ (jT a.2.2.1) (by simp; omega),Gp];simp only [];rw [hsz _ [32] (by simp; omega),Gp];simp only [];rw [hsz _ _ (by simp; omega),Gp];simp only []
   congr 2
   rw [hm,Lib.join_cons];simp [Lib.joinTail]
 ·have e:(a.1 !=(0:Int))=true:=by simp [h0]
  have c1:decide (ByteArray.size (bs [101,114,114,32])+ByteArray.size (bs (Lib.itoa a.1))<=9223372036854775807)=true:=by
   rw [Ec,Ec];exact C1 (by show 4+_<=_; omega)
  rw [Ak h0];simp only [e,XZ R h.err,c1,Gp]
def Ly (l:List AnT):List UInt8:=texJ (l.map λa=>bs (ansT a))
theorem Oz (l:List AnT) (a:AnT):Ly (l++[a])=Ly l++ansT a++[10]:=by
 unfold Ly;rw [Bm,Il,Ah];simp [texJ]
theorem US {l:List AnT} (h:∀a∈l,AnW a):(Ly l).length<=l.length*50001:=by
 induction l with
 | nil=>simp [Ly,texJ]
 | cons a l ih=>
  have h1:=Q4 (h a (by simp));have h2:=ih (λb hb=>h b (by simp [hb]));have e:Ly (a::l)=ansT a++10::Ly l:=by simp [Ly,texJ]
  rw [e,Ae,Af,Af,Nat.succ_mul];omega
theorem JT (R:Type) {l:List AnT} (h:∀a∈l,AnW a) (hl:l.length<=100000) (k0:ByteArray->Option R):∀(f i:Nat),i<=l.length->l.length - i<f->ES f R l (bs (Ly (l.take i))) (i:Int) k0=k0 (bs (Ly l))
 | 0,i,_,h2=>by omega
 | f+1,i,h1,h2=>by
  simp only [ES,zjm]
  by_cases hi:i<l.length
  ·have e0:l.getD i ((0:Int),(0:Int),([]:(List Int)),(replicate 32 (0:Int)),())=l[i]:=by simp [hi]
   have hx:=h _ (Cw hi);have hxl:=Q4 hx;have hal:=US (l:=l.take i) (λb hb=>h b (List.mem_of_mem_take hb));have htl:(l.take i).length<=100000:=by rw [A5]; omega
   have ih:=JT R h hl k0 f (i+1) (by omega) (by omega);rw [Cx hi,Oz] at ih;have c1:decide (ByteArray.size (bs (Ly (l.take i)))+ByteArray.size (bs (ansT l[i]))<=9223372036854775807)=true:=by
    rw [Ec,Ec];exact C1 (by omega)
   have c2:decide (ByteArray.size (bs (Ly (l.take i)++ansT l[i]))+ByteArray.size (bs [10])<=9223372036854775807)=true:=by
    rw [Ec,Ec,Ae];exact C1 (by show _+1<=_; omega)
   simp only [ltN hi,bndN hi,Bv,e0,KB R hx,c1,Gp,c2,Ty hi (show l.length<=1000000 by omega)];exact ih
  ·have:i=l.length:=by omega
   subst this;simp only [nltN,Bl]
theorem zfm (R:Type) {l:List AnT} (h:∀a∈l,AnW a) (hl:l.length<=100000) (k:ByteArray->Option R):F19 R l k=k (bs (Ly l)):=
 JT R h hl k FUEL 0 (by omega) (by rw [Dv]; omega)
theorem W9 (R:Type) (k:ByteArray->Option R):∀(l:List AnT) (n:Nat) (ts:List ByteArray),(∀a∈l,AnW a)->n+l.length*50001<=140737488355328->Lz F16 R l n ts k=k (bs (texJ (ts++l.map λa=>bs (ansT a))))
 | [],n,ts,_,_=>by simp only [Lz,List.map_nil,B0]
 | a::l,n,ts,h,hn=>by
  have hx:=h a (by simp);have hxl:=Q4 hx;rw [Af,Nat.succ_mul] at hn;have ih:=W9 R k l (n+ByteArray.size (bs (ansT a))+1) (ts++[bs (ansT a)]) (λb hb=>h b (by simp [hb])) (by rw [Ec]; omega);have c1:decide (n+ByteArray.size (bs (ansT a))+1<=140737488355328)=true:=by
   rw [Ec];exact C1 (by omega)
  simp only [Lz,Oa R hx,c1];rw [ih,Ah];rfl
theorem KC (R:Type) {l:List AnT} (h:∀a∈l,AnW a) (hl:l.length<=100000) (k:ByteArray->Option R):F18 R l k=k (bs (Ly l)):=
 W9 R k l 0 [] h (by omega)
open Go.Proofs
theorem Kv {s:UInt8}:∀{A B C D:List UInt8},s∉A->s∉B->A++s::C=B++s::D->A=B/\C=D
 | [],[],C,D,_,_,h=>⟨rfl,(List.cons.inj h).2⟩
 | [],b::B,C,D,_,hb,h=>absurd (List.cons.inj h).1 (λe=>hb (by rw [e]; simp))
 | a::A,[],C,D,ha,_,h=>absurd (List.cons.inj h).1.symm (λe=>ha (by rw [e]; simp))
 | a::A,b::B,C,D,ha,hb,h=>by
  obtain ⟨e,h'⟩:=List.cons.inj h;obtain ⟨h1,h2⟩:=Kv (A:=A) (B:=B) (λq=>ha (by simp [q])) (λq=>hb (by simp [q])) h';exact ⟨by rw [e,h1],h2⟩
theorem V3 {u:Nat} (h:¬u<10):Lib.decDigits u=Lib.decDigits (u/10)++[UInt8.ofNat (48+u % 10)]:=by
 conv=>lhs; rw [Lib.decDigits,dif_neg h]
theorem HA {n:Nat} (h:n<10):(UInt8.ofNat (48+n)).toNat=48+n:=by
 rw [UInt8.toNat_ofNat'];omega
theorem DR (u:Nat):∀c∈Lib.decDigits u,48<=c.toNat/\c.toNat<=57:=by
 induction u using Nat.strongRecOn with
 | _ u ih=>
  intro c hc
  by_cases h:u<10
  ·rw [Lib.decDigits_one h,Ce] at hc
   rw [hc,HA h];omega
  ·rw [V3 h,Ai,Ce] at hc
   rcases hc with hc | hc
   ·exact ih (u/10) (by omega) c hc
   ·rw [hc,HA (by omega)]
    omega
def valT (l:List UInt8):Nat:=l.foldl (λn c=>n*10+(c.toNat - 48)) 0
theorem NG (u:Nat):valT (Lib.decDigits u)=u:=by
 induction u using Nat.strongRecOn with
 | _ u ih=>
  by_cases h:u<10
  ·rw [Lib.decDigits_one h]
   show 0*10+((UInt8.ofNat (48+u)).toNat - 48)=u;rw [HA h];omega
  ·have:=ih (u/10) (by omega)
   unfold valT at this ⊢;rw [V3 h,List.foldl_append,this];show u/10*10+((UInt8.ofNat (48+u % 10)).toNat - 48)=u
   rw [HA (by omega)];omega
theorem DQ {u v:Nat} (h:Lib.decDigits u=Lib.decDigits v):u=v:=by rw [<-NG u,h,NG]
theorem UB (u:Nat):Lib.decDigits u≠[]:=by
 by_cases h:u<10
 ·rw [Lib.decDigits_one h]; exact List.cons_ne_nil _ _
 ·rw [V3 h]; simp
theorem II {u:Nat} {c:UInt8} (h:c.toNat<48):c∉Lib.decDigits u:=λhc=>by have:=DR u c hc; omega
theorem Vw {n:Int} {c:UInt8} (h:c∈Lib.itoa n):c=45\/(48<=c.toNat/\c.toNat<=57):=by
 by_cases h0:n<0
 ·rw [J1 h0] at h
  rcases Cd.1 h with e | h
  ·exact .inl e
  ·exact .inr (DR _ c h)
 ·rw [I1 (by omega)] at h
  exact .inr (DR _ c h)
theorem Vv {a b:Int} (h:Lib.itoa a=Lib.itoa b):a=b:=by
 have key:∀{x y:Int},x<0->0<=y->Lib.itoa x=Lib.itoa y->False:=λ{x y} hx hy e=>by
  rw [J1 hx,I1 hy] at e;exact II (u:=y.toNat) (c:=45) (by decide) (by rw [<-e]; simp)
 by_cases h0:a<0
 ·by_cases h1:b<0
  ·rw [J1 h0,J1 h1] at h
   have:=DQ (List.cons.inj h).2;omega
  ·exact (key h0 (by omega) h).elim
 ·by_cases h1:b<0
  ·exact (key h1 (by omega) h.symm).elim
  ·rw [I1 (by omega),I1 (by omega)] at h
   have:=DQ h;omega
theorem no44 (n:Int):(44:UInt8)∉Lib.itoa n:=λh=>by
 rcases Vw h with e | ⟨e,_⟩
 ·exact absurd e (by decide)
 ·exact absurd e (by decide)
theorem Ol (x y:Int) (r:List Int):jT (x::y::r)=Lib.itoa x++44::jT (y::r):=by
 unfold jT;rw [Cc,Cc,Lib.join_cons,Lib.join_cons];simp [Lib.joinTail]
theorem T9 (x:Int):jT [x]=Lib.itoa x:=Lib.join_one _ _
theorem zf1:∀{a b:List Int},a≠[]->b≠[]->jT a=jT b->a=b
 | [],_,h,_,_=>absurd rfl h
 | _,[],_,h,_=>absurd rfl h
 | [x],[y],_,_,h=>by
  rw [T9,T9] at h;rw [Vv h]
 | [x],y::z::r,_,_,h=>by
  rw [T9,Ol] at h;exact absurd (by rw [h]; simp) (no44 x)
 | x::z::r,[y],_,_,h=>by
  rw [T9,Ol] at h;exact absurd (by rw [<-h]; simp) (no44 y)
 | x::x'::r,y::y'::r',_,_,h=>by
  rw [Ol,Ol] at h;obtain ⟨h1,h2⟩:=Kv (no44 x) (no44 y) h;rw [Vv h1,zf1 (by simp) (by simp) h2]
theorem Ru {l:List Int} (h:l≠[]):memT l=jT l:=by
 cases l with
 | nil=>exact absurd rfl h
 | cons x r=>rfl
theorem zfx {l:List Int} (h:l≠[]):jT l≠[45]:=λe=>by
 cases l with
 | nil=>exact h rfl
 | cons x r=>
  have e2:∃t,Lib.itoa x++t=[45]:=by
   cases r with
   | nil=>exact ⟨[],by rw [B0,<-T9 x]; exact e⟩
   | cons y r=>exact ⟨_,by rw [<-Ol]; exact e⟩
  obtain ⟨t,e2⟩:=e2;have hl:=Ac List.length e2;rw [Ae] at hl;simp only [Af,Bz] at hl
  by_cases h0:x<0
  ·rw [J1 h0,Af] at hl
   have:=List.length_pos_iff.2 (UB (-x).toNat);omega
  ·rw [I1 (by omega)] at e2 hl
   have hp:=List.length_pos_iff.2 (UB x.toNat);obtain ⟨c,r',e3⟩:=List.exists_cons_of_ne_nil (UB x.toNat);rw [e3] at e2;have:=(List.cons.inj e2).1;exact II (u:=x.toNat) (c:=45) (by decide) (by rw [e3,this]; simp)
theorem zcb {a b:List Int} (h:memT a=memT b):a=b:=by
 by_cases ha:a=[]
 ·by_cases hb:b=[]
  ·rw [ha,hb]
  ·rw [ha,Ru hb] at h
   exact absurd h.symm (zfx hb)
 ·by_cases hb:b=[]
  ·rw [hb,Ru ha] at h
   exact absurd h (zfx ha)
  ·rw [Ru ha,Ru hb] at h
   exact zf1 ha hb h
theorem zf2 {c:UInt8}:∀{l:List Int},c∈jT l->c=44\/c=45\/(48<=c.toNat/\c.toNat<=57)
 | [],h=>by simp [jT,Lib.join_nil] at h
 | [x],h=>by
  rw [T9] at h;exact .inr (Vw h)
 | x::y::r,h=>by
  rw [Ol,Ai] at h;rcases h with h | h
  ·exact .inr (Vw h)
  ·rcases Cd.1 h with e | h
   ·exact .inl e
   ·exact zf2 h
theorem no32 (l:List Int):(32:UInt8)∉memT l:=λh=>by
 by_cases hl:l=[]
 ·subst hl
  have h:(32:UInt8)∈([45]:List UInt8):=h;simp at h
 ·rw [Ru hl] at h
  rcases zf2 h with e | e | ⟨e,_⟩
  ·exact absurd e (by decide)
  ·exact absurd e (by decide)
  ·exact absurd e (by decide)
theorem IP:∀a b:Fin 16,hexD a.val=hexD b.val->a=b:=by decide
theorem IN:∀{a b:List Int},(∀x∈a,0<=x/\x<256)->(∀x∈b,0<=x/\x<256)->hexT a=hexT b->a=b
 | [],[],_,_,_=>rfl
 | [],y::b,_,_,h=>by simp [hexT] at h
 | x::a,[],_,_,h=>by simp [hexT] at h
 | x::a,y::b,ha,hb,h=>by
  have hx:=ha x (by simp);have hy:=hb y (by simp);simp only [hexT] at h;obtain ⟨h1,h2⟩:=List.cons.inj h;obtain ⟨h2,h3⟩:=List.cons.inj h2;have e1:=IP ⟨x.toNat/16,by omega⟩ ⟨y.toNat/16,by omega⟩ h1;have e2:=IP ⟨x.toNat % 16,by omega⟩ ⟨y.toNat % 16,by omega⟩ h2;have e1:=Ac Fin.val e1;have e2:=Ac Fin.val e2;simp only at e1 e2;rw [IN (λz hz=>ha z (by simp [hz])) (λz hz=>hb z (by simp [hz])) h3,show x=y by omega]
theorem Mm (a:AnT) (h:a.1=0):ansT a=[111,107]++32::(Lib.decDigits a.2.1.toNat++32::(memT a.2.2.1++32::hexT a.2.2.2.1)):=by
 unfold ansT;rw [Aj h,Lib.join_cons];simp [Lib.joinTail]
theorem J3 (a:AnT) (h:a.1≠0):ansT a=[101,114,114,32]++Lib.itoa a.1:=by
 unfold ansT;rw [Ak h]
theorem ze9 {a b:AnT} (ha:AnW a) (hb:AnW b):ansT a=ansT b↔a.1=b.1/\(a.1≠0\/(a.2.1=b.2.1/\a.2.2.1=b.2.2.1/\a.2.2.2.1=b.2.2.2.1)):=by
 constructor
 ·intro h
  by_cases h0:a.1=0
  ·by_cases h1:b.1=0
   ·rw [Mm a h0,Mm b h1] at h
    have h:=(Kv (s:=32) (by decide) (by decide) h).2;obtain ⟨e1,h⟩:=Kv (II (by decide)) (II (by decide)) h;obtain ⟨e2,h⟩:=Kv (no32 _) (no32 _) h;have e1:=DQ e1;have n1:=ha.n;have n2:=hb.n;exact ⟨by rw [h0,h1],.inr ⟨by omega,zcb e2,IN ha.hash hb.hash h⟩⟩
   ·rw [Mm a h0,J3 b h1] at h
    exact absurd (List.cons.inj h).1 (by decide)
  ·by_cases h1:b.1=0
   ·rw [J3 a h0,Mm b h1] at h
    exact absurd (List.cons.inj h).1 (by decide)
   ·rw [J3 a h0,J3 b h1] at h
    exact ⟨Vv (List.append_cancel_left h),.inl h0⟩
 ·rintro ⟨h1,h2⟩
  by_cases h0:a.1=0
  ·rcases h2 with h2 | ⟨e1,e2,e3⟩
   ·exact absurd h0 h2
   ·rw [Mm a h0,Mm b (by rw [<-h1]; exact h0),e1,e2,e3]
  ·rw [J3 a h0,J3 b (by rw [<-h1]; exact h0),h1]
theorem zor (R:Type) {x:Int} (hx:U32 x) {r:Nat} (h0:0<r) (hr:r<32) (k:Int->Option R):F332 R x (r:Int) k=k (rotS x r):=by
 simp only [F332,p332];rw [Dt (n:=(r:Int)) (by omega) (by omega),Int.tmod_eq_of_lt (by omega) (by omega),Dt (by omega) (by omega)];rw [show decide (0<=(r:Int))=true by simp,show decide (0<=(32:Int) - r)=true by simp; omega];simp only;rw [zre hx h0 hr]
theorem VQ (R:Type) {x:Int} (hx:U32 x) {r:Nat} (hr:r<=32) (k:Int->Option R):∀(m i:Nat),i<=r->r - i<m->S4 m R (rotS x i) (r:Int) (i:Int) k=k (rotS x r)
 | 0,i,_,h=>by omega
 | m+1,i,h1,h2=>by
  simp only [S4,PK]
  by_cases hi:i<r
  ·have hd:decide ((i:Int)<(r:Int))=true:=by simpa using hi
   have hu:=OC hx (r:=i) (by omega);have hs:=Xs hx (r:=i) (by omega);simp only [hd];have ih:=VQ R hx hr k m (i+1) (by omega) (by omega);rw [hs] at ih;rw [<-ih];unfold U32 at hu;rw [C3 hu.1,C2 hu.1];rw [Fw (n:=rotS x i/2) (by omega) (by omega),Fw (n:=rotS x i % 2*2147483648) (by omega) (by omega),Fw (by omega) (by omega),wrap_i64 (by omega) (by omega)];rfl
  ·have hd:decide ((i:Int)<(r:Int))=false:=by simpa using hi
   have:i=r:=by omega
   subst this;simp only [hd]
theorem zpj (R:Type) {x:Int} (hx:U32 x) {r:Nat} (hr:r<32) (k:Int->Option R):F259 R x (r:Int) k=k (rotS x r):=by
 simp only [F259,p259];rw [Int.tmod_eq_of_lt (by omega) (by omega)];have hd:decide ((r:Int)<0)=false:=by simp
 simp only [hd];have:=VQ R hx (r:=r) (by omega) k FUEL 0 (by omega) (by rw [Dv]; omega);rw [Xr] at this;exact this
def shrS (x:Int) (r:Nat):Int:=x/2^r
theorem HQ {x:Int} (hx:U32 x) {r:Nat} (hr:r<=32):ishr .u32 x r=shrS x r:=by
 unfold ishr shrS;rw [show IntKind.u32.bits=32 from rfl,show ((r:Int).toNat)=r by simp,A6 hr,Cz _ (by have:=two_pow_pos r; omega)]
theorem zoq (R:Type) {x:Int} (hx:U32 x) {r:Nat} (hr:r<=32) (k:Int->Option R):F333 R x (r:Int) k=k (shrS x r):=by
 simp only [F333,p333];have e:(if (0:Int)>(r:Int) then (0:Int) else (r:Int))=r:=by split<;>omega
 rw [e,Dt (by omega) (by omega),HQ hx hr];have hd:decide ((0:Int)<=(r:Int))=true:=by simp
 simp only [hd]
theorem zik {x:Int} (hx:U32 x) (r:Nat):U32 (shrS x r):=by
 unfold shrS U32 at*;have hp:=two_pow_pos r;exact ⟨Int.ediv_nonneg hx.1 (by omega),Int.lt_of_le_of_lt (Int.ediv_le_self _ hx.1) hx.2⟩
theorem NR (x:Int) (r:Nat):shrS x (r+1)=shrS x r/2:=by
 unfold shrS;rw [Int.pow_succ,Int.ediv_ediv_of_nonneg (by have:=two_pow_pos r; omega)]
theorem VP (R:Type) {x:Int} (hx:U32 x) {r:Nat} (hr:r<=32) (k:Int->Option R):∀(m i:Nat),i<=r->r - i<m->S3 m R (shrS x i) (r:Int) (i:Int) k=k (shrS x r)
 | 0,i,_,h=>by omega
 | m+1,i,h1,h2=>by
  simp only [S3,PJ]
  by_cases hi:i<r
  ·have hd:decide ((i:Int)<(r:Int))=true:=by simpa using hi
   have hu:=zik hx i;simp only [hd];have ih:=VP R hx hr k m (i+1) (by omega) (by omega);rw [NR] at ih;rw [<-ih];unfold U32 at hu;rw [C3 hu.1,Fw (by omega) (by omega),wrap_i64 (by omega) (by omega)];rfl
  ·have hd:decide ((i:Int)<(r:Int))=false:=by simpa using hi
   have:i=r:=by omega
   subst this;simp only [hd]
theorem zpi (R:Type) {x:Int} (hx:U32 x) {r:Nat} (hr:r<32) (k:Int->Option R):F260 R x (r:Int) k=k (shrS x r):=by
 simp only [F260,p260];have hd:decide ((r:Int)>31)=false:=by simp; omega
 simp only [hd];have:=VP R hx (r:=r) (by omega) k FUEL 0 (by omega) (by rw [Dv]; omega);rw [show shrS x 0=x by simp [shrS]] at this;exact this
theorem Hk (R:Type) {x:Int} (hx:U32 x) {n:Int} (r:Nat) (e:n=(r:Int)) (h0:0<r) (hr:r<32) (k:Int->Option R):F332 R x n k=k (rotS x r):=by rw [e]; exact zor R hx h0 hr k
theorem Kh (R:Type) {x:Int} (hx:U32 x) {n:Int} (r:Nat) (e:n=(r:Int)) (hr:r<32) (k:Int->Option R):F259 R x n k=k (rotS x r):=by rw [e]; exact zpj R hx hr k
theorem JV (R:Type) {x:Int} (hx:U32 x) {n:Int} (r:Nat) (e:n=(r:Int)) (hr:r<=32) (k:Int->Option R):F333 R x n k=k (shrS x r):=by rw [e]; exact zoq R hx hr k
theorem JZ (R:Type) {x:Int} (hx:U32 x) {n:Int} (r:Nat) (e:n=(r:Int)) (hr:r<32) (k:Int->Option R):F260 R x n k=k (shrS x r):=by rw [e]; exact zpi R hx hr k
def sig3 (x:Int) (a b c:Nat):Int:=ixor .u32 (ixor .u32 (rotS x a) (rotS x b)) (rotS x c)
def sig2 (x:Int) (a b c:Nat):Int:=ixor .u32 (ixor .u32 (rotS x a) (rotS x b)) (shrS x c)
theorem zo2 (R:Type) {x:Int} (hx:U32 x) (k:Int->Option R):F303 R x k=k (sig2 x 17 19 10):=by
 simp only [F303,p303,F322,p322];rw [Hk R hx (n:=17) 17 rfl (by omega) (by omega),Hk R hx (n:=19) 19 rfl (by omega) (by omega),JV R hx (n:=10) 10 rfl (by omega)];simp only [sig2]
theorem zo1 (R:Type) {x:Int} (hx:U32 x) (k:Int->Option R):F304 R x k=k (sig2 x 7 18 3):=by
 simp only [F304,p304,F322,p322];rw [Hk R hx (n:=7) 7 rfl (by omega) (by omega),Hk R hx (n:=18) 18 rfl (by omega) (by omega),JV R hx (n:=3) 3 rfl (by omega)];simp only [sig2]
theorem zpt (R:Type) {x:Int} (hx:U32 x) (k:Int->Option R):F212 R x k=k (sig2 x 17 19 10):=by
 have h1:=Kh R hx (n:=17) 17 rfl (by omega);have h2:=Kh R hx (n:=19) 19 rfl (by omega);have h3:=JZ R hx (n:=10) 10 rfl (by omega);show p212 F259 F260 R x k=_;generalize F259=f at*;generalize F260=g at*;simp only [p212,h1,h2,h3,sig2]
theorem zps (R:Type) {x:Int} (hx:U32 x) (k:Int->Option R):F213 R x k=k (sig2 x 7 18 3):=by
 have h1:=Kh R hx (n:=7) 7 rfl (by omega);have h2:=Kh R hx (n:=18) 18 rfl (by omega);have h3:=JZ R hx (n:=3) 3 rfl (by omega);show p213 F259 F260 R x k=_;generalize F259=f at*;generalize F260=g at*;simp only [p213,h1,h2,h3,sig2]
def chS (a b c:Int):Int:=ior .u32 (iand .u32 a b) (iand .u32 (u32.wrap (4294967295 - a)) c)
def majS (a b c:Int):Int:=ior .u32 (ior .u32 (iand .u32 a b) (iand .u32 a c)) (iand .u32 b c)
theorem zo0 (R:Type) {a:Int} (ha:U32 a) (b c:Int) (k:Int->Option R):F305 R a b c k=k (u32.wrap (sig3 a 6 11 25+chS a b c)):=by
 simp only [F305,p305,F323,p323];rw [Hk R ha (n:=6) 6 rfl (by omega) (by omega),Hk R ha (n:=11) 11 rfl (by omega) (by omega),Hk R ha (n:=25) 25 rfl (by omega) (by omega)];simp only [sig3,chS,UG b c ha]
theorem zoz (R:Type) {a:Int} (ha:U32 a) (b c:Int) (k:Int->Option R):F306 R a b c k=k (u32.wrap (sig3 a 2 13 22+majS a b c)):=by
 simp only [F306,p306,F323,p323];rw [Hk R ha (n:=2) 2 rfl (by omega) (by omega),Hk R ha (n:=13) 13 rfl (by omega) (by omega),Hk R ha (n:=22) 22 rfl (by omega) (by omega)];simp only [sig3,majS,BM]
theorem YU (R:Type) {x:Int} (hx:U32 x) {a b c:Int} (p q r:Nat) (ea:a=(p:Int)) (eb:b=(q:Int)) (ec:c=(r:Int)) (hp:p<32) (hq:q<32) (hr:r<32) (k:Int->Option R):F214 R x a b c k=k (sig3 x p q r):=by
 simp only [F214,p214];rw [Kh R hx p ea hp,Kh R hx q eb hq,Kh R hx r ec hr];simp only [sig3]
def M9 (s:List Int) (w c:Int):List Int:=
 let t:=u32.wrap (s.getD 7 0+sig3 (s.getD 4 0) 6 11 25+chS (s.getD 4 0) (s.getD 5 0) (s.getD 6 0)+c+w)
 [u32.wrap (t+(sig3 (s.getD 0 0) 2 13 22+majS (s.getD 0 0) (s.getD 1 0) (s.getD 2 0))),s.getD 0 0,s.getD 1 0,s.getD 2 0,u32.wrap (s.getD 3 0+t),s.getD 4 0,s.getD 5 0,s.getD 6 0]
theorem zp7 (R:Type) {s:List Int} (h0:U32 (s.getD 0 0)) (h4:U32 (s.getD 4 0)) (w c:Int) (k:List Int->Option R):F166 R s w c k=k (M9 s w c):=by
 have e1:=YU R h4 (a:=6) (b:=11) (c:=25) 6 11 25 rfl rfl rfl (by omega) (by omega) (by omega);have e2:=YU R h0 (a:=2) (b:=13) (c:=22) 2 13 22 rfl rfl rfl (by omega) (by omega) (by omega);show p166 F214 F215 F216 R s w c k=_;generalize F214=f at*;simp only [p166,e1,e2,F215,p215,F216,p216]
 congr 1
 simp only [M9,chS,majS,replicate,List.set];simp only [Gb]
 congr 1
 ·omega
 ·congr 4
  omega
theorem zo8 (R:Type) {a0 a1 a2 a3 a4 a5 a6 a7:Int} (h0:U32 a0) (h4:U32 a4) (w c:Int) (k:List Int->Option R):F285 R [a0,a1,a2,a3,a4,a5,a6,a7] w c k=k (M9 [a0,a1,a2,a3,a4,a5,a6,a7] w c):=by
 simp only [F285,p285,List.getD_cons_zero,List.getD_cons_succ];rw [zo0 R h4,zoz R h0]
 congr 1
 simp [M9,lay,replicate];simp only [Gb];refine ⟨?_,?_⟩<;>omega
theorem zz6 {l:List Int} (h:l.length=8):∃a b c d e f g i,l=[a,b,c,d,e,f,g,i]:=by
 match l,h with
 | [a,b,c,d,e,f,g,i],_=>exact ⟨a,b,c,d,e,f,g,i,rfl⟩
def AllU8 (l:List Int):Prop:=∀x∈l,U8 x
def AllU32 (l:List Int):Prop:=∀x∈l,U32 x
def Nn (a b c d:Int):Int:=((a*256+b)*256+c)*256+d
theorem N4 (n:Nat) (h:n<=1000):∃m,FUEL=m+n:=⟨FUEL - n,by rw [Dv]; omega⟩
theorem zvh (R:Type) {a b c d:Int} (ha:U8 a) (hb:U8 b) (hc:U8 c) (hd:U8 d) (k:Int->Option R):F56 R [a,b,c,d] k=k (Nn a b c d):=by
 obtain ⟨m,hm⟩:=N4 5 (by omega);unfold U8 at*;simp only [F56,p56,hm,MK,zje];simp [bnd,Iz,Gb,Nn]
 congr 1
 omega
theorem Q1 {x b:Int} (hx:0<=x/\x<16777216) (hb:U8 b):ior .u32 (ishl .u32 x 8) b=x*256+b:=by
 unfold U8 at hb;obtain ⟨n,rfl⟩:∃n:Nat,x=n:=⟨x.toNat,by omega⟩
 obtain ⟨c,rfl⟩:∃c:Nat,b=c:=⟨b.toNat,by omega⟩
 have e2:ishl .u32 (n:Int) 8=((n*256:Nat):Int):=by
  unfold ishl;rw [show (2:Int)^(min (8:Int).toNat IntKind.u32.bits)=256 by decide,Fw (by omega) (by omega)];simp
 rw [e2,Vx,Cy,Cy,BitVec.toNat_or,C0,C0,B7 (by omega),B7 (by omega)];have h6:=Nat.shiftLeft_add_eq_or_of_lt (i:=8) (b:=c) (by omega) n;rw [Nat.shiftLeft_eq] at h6;rw [show n*256=n*2^8 by rfl,<-h6];simp
theorem YT (R:Type) {a b c d:Int} (ha:U8 a) (hb:U8 b) (hc:U8 c) (hd:U8 d) (k:Int->Option R):F220 R [a,b,c,d] k=k (Nn a b c d):=by
 obtain ⟨m,hm⟩:=N4 5 (by omega);simp only [F220,p220,hm,U0,PU];have w:∀x,U8 x->u32.wrap x=x:=λx h=>Fw h.1 (by unfold U8 at h; omega)
 simp [bnd,Iz,w a ha,w b hb,w c hc,w d hd];have u:=ha; have v:=hb; have y:=hc; have z:=hd;unfold U8 at u v y z;rw [Q1 (x:=0) (by omega) ha,Q1 (by omega) hb,Q1 (by omega) hc,Q1 (by omega) hd];simp [Nn]
theorem SN {a b c d:Int} (ha:U8 a) (hb:U8 b) (hc:U8 c) (hd:U8 d):U32 (Nn a b c d):=by
 unfold U8 U32 Nn at*; omega
def za4 (blk:List Int) (i:Nat):Int:=Nn (blk.getD (4*i) 0) (blk.getD (4*i+1) 0) (blk.getD (4*i+2) 0) (blk.getD (4*i+3) 0)
def zi4 (l:List Int) (i:Nat):Int:=u32.wrap (u32.wrap (u32.wrap (sig2 (l.getD (i - 2) 0) 17 19 10+l.getD (i - 7) 0)+sig2 (l.getD (i - 15) 0) 7 18 3)+l.getD (i - 16) 0)
def Fc (blk l:List Int) (i:Nat):List Int:=l.set i (if i<16 then za4 blk i else zi4 l i)
def KR (blk:List Int):List Int:=(List.range' 0 64).foldl (Fc blk) (replicate 64 0)
theorem D2 {p:Int->Prop} {l:List Int} (h:∀x∈l,p x) (h0:p 0) (i:Nat):p (l.getD i 0):=by
 rw [Br];cases hi:l[i]? with
 | none=>exact h0
 | some x=>exact h x (Ar hi)
theorem u8_0:U8 0:=by unfold U8; omega
theorem Tn:U32 0:=by unfold U32; omega
theorem AllU32.set {l:List Int} (h:AllU32 l) {i:Nat} {x:Int} (hx:U32 x):AllU32 (l.set i x):=λy hy=>by
 rcases List.mem_or_eq_of_mem_set hy with h1 | h1
 ·exact h y h1
 ·rw [h1]; exact hx
theorem AllU32.rep (n:Nat):AllU32 (replicate n 0):=λy hy=>by rw [List.eq_of_mem_replicate hy]; exact Tn
theorem za3 {blk:List Int} (h:AllU8 blk) (i:Nat):U32 (za4 blk i):=SN (D2 h u8_0 _) (D2 h u8_0 _) (D2 h u8_0 _) (D2 h u8_0 _)
theorem Jy {blk l:List Int} (hb:AllU8 blk) (hl:l.length=64) (h:AllU32 l) (i:Nat):(Fc blk l i).length=64/\AllU32 (Fc blk l i):=by
 unfold Fc;refine ⟨by simpa using hl,h.set ?_⟩;split
 ·exact za3 hb i
 ·exact M4 _
theorem zxh {l:List Int} {i:Nat} (h:i+4<=l.length):List.take 4 (List.drop i l)=[l.getD i 0,l.getD (i+1) 0,l.getD (i+2) 0,l.getD (i+3) 0]:=by
 have e0:List.drop i l=l[i]::List.drop (i+1) l:=Co (by omega);have e1:List.drop (i+1) l=l[i+1]::List.drop (i+1+1) l:=Co (by omega);have e2:List.drop (i+1+1) l=l[i+1+1]::List.drop (i+1+1+1) l:=Co (by omega);have e3:List.drop (i+1+1+1) l=l[i+1+1+1]::List.drop (i+1+1+1+1) l:=Co (by omega);rw [e0,e1,e2,e3];show [l[i],l[i+1],l[i+1+1],l[i+1+1+1]]=_;simp [show i<l.length by omega,show i+1<l.length by omega,show i+2<l.length by omega,show i+3<l.length by omega]
theorem E6 {i n:Nat} (h:i<n):List.range' i (n - i)=i::List.range' (i+1) (n - (i+1)):=by
 rw [show n - i=(n - (i+1))+1 by omega,List.range'_succ]
theorem VN (R:Type) {blk:List Int} (hb:blk.length=64) (h8:AllU8 blk) (k0:List Int->Option R):∀(m i:Nat) (l:List Int),i<=64->64 - i<m->l.length=64->AllU32 l->
  Sw m R (i:Int) blk l k0=k0 ((List.range' i (64 - i)).foldl (Fc blk) l)
 | 0,i,l,_,h,_,_=>by omega
 | m+1,i,l,h1,h2,hl,hu=>by
  simp only [Sw,PE]
  by_cases hi:i<64
  ·have ok:=Jy h8 hl hu i
   have ih:=VN R hb h8 k0 m (i+1) (Fc blk l i) (by omega) (by omega) ok.1 ok.2;rw [E6 hi,B8,<-ih];rw [wrap_i64 (n:=4*(i:Int)) (by omega) (by omega),wrap_i64 (n:=(i:Int)+1) (by omega) (by omega),wrap_i64 (n:=4*(i:Int)+4) (by omega) (by omega)];have hd:decide ((i:Int)<64)=true:=by simp; omega
   have hbn:bnd (i:Int) 64=true:=by unfold bnd; simp; omega
   by_cases h16:i<16
   ·have c1:decide (4*(i:Int)<64)=true:=by simp; omega
    have c2:decide (0<=4*(i:Int)/\4*(i:Int)<=4*(i:Int)+4/\4*(i:Int)+4<=64)=true:=by simp; omega
    have c3:decide ((4:Int)<=((Int.toNat (4*(i:Int)+4 - 4*(i:Int)):Nat):Int))=true:=by simp; omega
    have e1:(4*(i:Int)).toNat=4*i:=by omega
    simp only [hd,c1,c2,c3,e1,hbn];rw [zxh (by omega),YT R (D2 h8 u8_0 _) (D2 h8 u8_0 _) (D2 h8 u8_0 _) (D2 h8 u8_0 _)];simp only [Fc,Aj h16,za4,Bv];rfl
   ·have c1:decide (4*(i:Int)<64)=false:=by simp; omega
    rw [wrap_i64 (n:=(i:Int) - 2) (by omega) (by omega),wrap_i64 (n:=(i:Int) - 7) (by omega) (by omega),wrap_i64 (n:=(i:Int) - 15) (by omega) (by omega),wrap_i64 (n:=(i:Int) - 16) (by omega) (by omega)];have b2:bnd ((i:Int) - 2) 64=true:=by unfold bnd; simp; omega
    have b7:bnd ((i:Int) - 7) 64=true:=by unfold bnd; simp; omega
    have b15:bnd ((i:Int) - 15) 64=true:=by unfold bnd; simp; omega
    have b16:bnd ((i:Int) - 16) 64=true:=by unfold bnd; simp; omega
    have n2:((i:Int) - 2).toNat=i - 2:=by omega
    have n7:((i:Int) - 7).toNat=i - 7:=by omega
    have n15:((i:Int) - 15).toNat=i - 15:=by omega
    have n16:((i:Int) - 16).toNat=i - 16:=by omega
    simp only [hd,c1,hbn,b2,b7,b15,b16,n2,n7,n15,n16];rw [zo2 R (D2 hu Tn _),zo1 R (D2 hu Tn _)];simp only [Fc,Ak h16,zi4,Bv];rfl
  ·have:i=64:=by omega
   subst this;rfl
theorem zo9 (R:Type) {blk:List Int} (hb:blk.length=64) (h8:AllU8 blk) (k:List Int->Option R):F284 R blk k=k (KR blk):=by
 simp only [F284,p284];exact VN R hb h8 _ FUEL 0 (replicate 64 0) (by omega) (by rw [Dv]; omega) (by simp) (AllU32.rep 64)
theorem Zv (R:Type) {blk:List Int} (hb:blk.length=64) (h8:AllU8 blk) (x3:List Int) (k0:List Int->List Int->Option R):∀(m i:Nat) (l:List Int),i<=16->16 - i<m->l.length=64->AllU32 l->
  Ql m R (i:Int) blk x3 l k0=k0 x3 ((List.range' i (16 - i)).foldl (Fc blk) l)
 | 0,i,l,_,h,_,_=>by omega
 | m+1,i,l,h1,h2,hl,hu=>by
  simp only [Ql,QA]
  by_cases hi:i<16
  ·have ok:=Jy h8 hl hu i
   have ih:=Zv R hb h8 x3 k0 m (i+1) (Fc blk l i) (by omega) (by omega) ok.1 ok.2;rw [E6 hi,B8,<-ih];rw [wrap_i64 (n:=4*(i:Int)) (by omega) (by omega),wrap_i64 (n:=(i:Int)+1) (by omega) (by omega),wrap_i64 (n:=4*(i:Int)+1) (by omega) (by omega),wrap_i64 (n:=4*(i:Int)+2) (by omega) (by omega),wrap_i64 (n:=4*(i:Int)+3) (by omega) (by omega)];have hd:decide ((i:Int)<16)=true:=by simp; omega
   have hbn:bnd (i:Int) 64=true:=by unfold bnd; simp; omega
   have b0:bnd (4*(i:Int)) 64=true:=by unfold bnd; simp; omega
   have b1:bnd (4*(i:Int)+1) 64=true:=by unfold bnd; simp; omega
   have b2:bnd (4*(i:Int)+2) 64=true:=by unfold bnd; simp; omega
   have b3:bnd (4*(i:Int)+3) 64=true:=by unfold bnd; simp; omega
   have n0:(4*(i:Int)).toNat=4*i:=by omega
   have n1:(4*(i:Int)+1).toNat=4*i+1:=by omega
   have n2:(4*(i:Int)+2).toNat=4*i+2:=by omega
   have n3:(4*(i:Int)+3).toNat=4*i+3:=by omega
   simp only [hd,hbn,b0,b1,b2,b3,n0,n1,n2,n3,replicate,List.set];rw [zvh R (D2 h8 u8_0 _) (D2 h8 u8_0 _) (D2 h8 u8_0 _) (D2 h8 u8_0 _)];simp only [Fc,Aj hi,za4,Bv];rfl
  ·have:i=16:=by omega
   subst this;rfl
theorem Zu (R:Type) {blk:List Int} (h8:AllU8 blk) (x2:List Int) (k0:List Int->List Int->Option R):∀(m i:Nat) (l:List Int),16<=i->i<=64->64 - i<m->l.length=64->AllU32 l->
  N0 m R (i:Int) x2 l k0=k0 x2 ((List.range' i (64 - i)).foldl (Fc blk) l)
 | 0,i,l,_,_,h,_,_=>by omega
 | m+1,i,l,h16,h1,h2,hl,hu=>by
  simp only [N0,PZ]
  by_cases hi:i<64
  ·have ok:=Jy h8 hl hu i
   have ih:=Zu R h8 x2 k0 m (i+1) (Fc blk l i) (by omega) (by omega) (by omega) ok.1 ok.2;rw [E6 hi,B8,<-ih];rw [wrap_i64 (n:=(i:Int)+1) (by omega) (by omega),wrap_i64 (n:=(i:Int) - 2) (by omega) (by omega),wrap_i64 (n:=(i:Int) - 7) (by omega) (by omega),wrap_i64 (n:=(i:Int) - 15) (by omega) (by omega),wrap_i64 (n:=(i:Int) - 16) (by omega) (by omega)];have hd:decide ((i:Int)<64)=true:=by simp; omega
   have hbn:bnd (i:Int) 64=true:=by unfold bnd; simp; omega
   have b2:bnd ((i:Int) - 2) 64=true:=by unfold bnd; simp; omega
   have b7:bnd ((i:Int) - 7) 64=true:=by unfold bnd; simp; omega
   have b15:bnd ((i:Int) - 15) 64=true:=by unfold bnd; simp; omega
   have b16:bnd ((i:Int) - 16) 64=true:=by unfold bnd; simp; omega
   have n2:((i:Int) - 2).toNat=i - 2:=by omega
   have n7:((i:Int) - 7).toNat=i - 7:=by omega
   have n15:((i:Int) - 15).toNat=i - 15:=by omega
   have n16:((i:Int) - 16).toNat=i - 16:=by omega
   simp only [hd,hbn,b2,b7,b15,b16,n2,n7,n15,n16];rw [zpt R (D2 hu Tn _),zps R (D2 hu Tn _)];simp only [Fc,Ak (show ¬i<16 by omega),zi4,Bv];rfl
  ·have:i=64:=by omega
   subst this;rfl
theorem Rr {blk:List Int} (h8:AllU8 blk):∀(is:List Nat) (l:List Int),l.length=64->AllU32 l->(is.foldl (Fc blk) l).length=64/\AllU32 (is.foldl (Fc blk) l)
 | [],l,h1,h2=>⟨h1,h2⟩
 | i::is,l,h1,h2=>by
  have ok:=Jy h8 h1 h2 i;exact Rr h8 is _ ok.1 ok.2
theorem zp8 (R:Type) {blk:List Int} (hb:blk.length=64) (h8:AllU8 blk) (k:List Int->Option R):F165 R blk k=k (KR blk):=by
 simp only [F165,p165];have g1:=Zv R hb h8 (replicate 64 0) (λx1 x2=>N0 FUEL R 16 x1 x2 λx3 x4=>k x4) FUEL 0 (replicate 64 0) (by omega) (by rw [Dv]; omega) (by simp) (AllU32.rep 64);refine g1.trans ?_;have ok:=Rr h8 (List.range' 0 (16 - 0)) (replicate 64 0) (by simp) (AllU32.rep 64);have g2:=Zu R h8 (replicate 64 0) (λ_ x4=>k x4) FUEL 16 _ (by omega) (by omega) (by rw [Dv]; omega) ok.1 ok.2;refine g2.trans ?_;rw [<-List.foldl_append];rfl
def KS:List Int:=[1116352408,1899447441,3049323471,3921009573,961987163,1508970993,2453635748,2870763221,3624381080,310598401,607225278,1426881987,1925078388,2162078206,2614888103,3248222580,3835390401,4022224774,264347078,604807628,770255983,1249150122,1555081692,1996064986,2554220882,2821834349,2952996808,3210313671,3336571891,3584528711,113926993,338241895,666307205,773529912,1294757372,1396182291,1695183700,1986661051,2177026350,2456956037,2730485921,2820302411,3259730800,3345764771,3516065817,3600352804,4094571909,275423344,430227734,506948616,659060556,883997877,958139571,1322822218,1537002063,1747873779,1955562222,2024104815,2227730452,2361852424,2428436474,2756734187,3204031479,3329325298]
theorem zpa (R:Type) (k:List Int->Option R):F283 R k=k KS:=by kernel_rfl
theorem ZA (R:Type) (a:Int) (k:Int->Option R):F167 R a k=(match decide (a<0) with | true=>k 0 | false=>match decide (a>63) with | true=>k 0 | false=>match bnd a 64 with | true=>k (List.getD KS a.toNat 0) | false=>none):=by kernel_rfl
theorem zp6 (R:Type) {i:Nat} (h:i<64) (k:Int->Option R):F167 R (i:Int) k=k (KS.getD i 0):=by
 rw [ZA];have h1:decide ((i:Int)<0)=false:=by simp
 have h2:decide ((i:Int)>63)=false:=by simp; omega
 have h3:bnd (i:Int) 64=true:=by unfold bnd; simp; omega
 simp only [h1,h2,h3,Bv]
def G3 (plan s:List Int) (i:Nat):List Int:=M9 s (plan.getD i 0) (KS.getD i 0)
theorem Rm {s:List Int} (h:AllU32 s) (w c:Int):(M9 s w c).length=8/\AllU32 (M9 s w c):=by
 refine ⟨rfl,λx hx=>?_⟩;have g:=λi=>D2 h Tn i
 simp only [M9,Cd,C8,or_false] at hx;rcases hx with rfl | rfl | rfl | rfl | rfl | rfl | rfl | rfl
 ·exact M4 _
 ·exact g 0
 ·exact g 1
 ·exact g 2
 ·exact M4 _
 ·exact g 4
 ·exact g 5
 ·exact g 6
theorem zfk (R:Type) {s:List Int} (hl:s.length=8) (h:AllU32 s) (w c:Int) (k:List Int->Option R):F285 R s w c k=k (M9 s w c):=by
 obtain ⟨a0,a1,a2,a3,a4,a5,a6,a7,rfl⟩:=zz6 hl;exact zo8 R (h a0 (by simp)) (h a4 (by simp)) w c k
theorem Zt (R:Type) (plan:List Int) (x3 x4:List Int) (k0:List Int->List Int->List Int->Option R):∀(m i:Nat) (s:List Int),i<=64->64 - i<m->s.length=8->AllU32 s->
  Qk m R plan (i:Int) x3 x4 s KS k0=k0 x3 x4 ((List.range' i (64 - i)).foldl (G3 plan) s)
 | 0,i,s,_,h,_,_=>by omega
 | m+1,i,s,h1,h2,hl,hu=>by
  simp only [Qk,PM]
  by_cases hi:i<64
  ·have ok:=Rm hu (plan.getD i 0) (KS.getD i 0)
   have ih:=Zt R plan x3 x4 k0 m (i+1) (G3 plan s i) (by omega) (by omega) ok.1 ok.2;rw [E6 hi,B8,<-ih,wrap_i64 (n:=(i:Int)+1) (by omega) (by omega)];have hd:decide ((i:Int)<64)=true:=by simp; omega
   have hbn:bnd (i:Int) 64=true:=by unfold bnd; simp; omega
   simp only [hd,hbn,Bv];rw [zfk R hl hu];rfl
  ·have:i=64:=by omega
   subst this;rfl
theorem Zx (R:Type) (plan:List Int) (x2 x3:List Int) (k0:List Int->List Int->List Int->Option R):∀(m i:Nat) (s:List Int),i<=64->64 - i<m->s.length=8->AllU32 s->
  Qn m R (i:Int) x2 x3 plan s k0=k0 x2 x3 ((List.range' i (64 - i)).foldl (G3 plan) s)
 | 0,i,s,_,h,_,_=>by omega
 | m+1,i,s,h1,h2,hl,hu=>by
  simp only [Qn,QD]
  by_cases hi:i<64
  ·have ok:=Rm hu (plan.getD i 0) (KS.getD i 0)
   have ih:=Zx R plan x2 x3 k0 m (i+1) (G3 plan s i) (by omega) (by omega) ok.1 ok.2;rw [E6 hi,B8,<-ih,wrap_i64 (n:=(i:Int)+1) (by omega) (by omega)];have hd:decide ((i:Int)<64)=true:=by simp; omega
   have hbn:bnd (i:Int) 64=true:=by unfold bnd; simp; omega
   simp only [hd,hbn,Bv];rw [zp6 R hi,zp7 R (D2 hu Tn _) (D2 hu Tn _)];rfl
  ·have:i=64:=by omega
   subst this;rfl
def Jf (a l:List Int) (i:Nat):List Int:=l.set i (u32.wrap (l.getD i 0+a.getD i 0))
theorem MB {a l:List Int} (hl:l.length=8) (h:AllU32 l) (i:Nat):(Jf a l i).length=8/\AllU32 (Jf a l i):=⟨by simpa [Jf] using hl,h.set (M4 _)⟩
theorem Zs (R:Type) (a x3:List Int) (k0:List Int->List Int->Option R):∀(m i:Nat) (l:List Int),i<=8->8 - i<m->Nz m R (i:Int) a x3 l k0=k0 x3 ((List.range' i (8 - i)).foldl (Jf a) l)
 | 0,i,l,_,h=>by omega
 | m+1,i,l,h1,h2=>by
  simp only [Nz,PL]
  by_cases hi:i<8
  ·have ih:=Zs R a x3 k0 m (i+1) (Jf a l i) (by omega) (by omega)
   rw [E6 hi,B8,<-ih,wrap_i64 (n:=(i:Int)+1) (by omega) (by omega)];have hd:decide ((i:Int)<8)=true:=by simp; omega
   have hbn:bnd (i:Int) 8=true:=by unfold bnd; simp; omega
   simp only [hd,hbn,Bv];rfl
  ·have:i=8:=by omega
   subst this;rfl
theorem Zw (R:Type) (a x3:List Int) (k0:List Int->List Int->Option R):∀(m i:Nat) (l:List Int),i<=8->8 - i<m->N1 m R (i:Int) a x3 l k0=k0 x3 ((List.range' i (8 - i)).foldl (Jf a) l)
 | 0,i,l,_,h=>by omega
 | m+1,i,l,h1,h2=>by
  simp only [N1,QC]
  by_cases hi:i<8
  ·have ih:=Zw R a x3 k0 m (i+1) (Jf a l i) (by omega) (by omega)
   rw [E6 hi,B8,<-ih,wrap_i64 (n:=(i:Int)+1) (by omega) (by omega)];have hd:decide ((i:Int)<8)=true:=by simp; omega
   have hbn:bnd (i:Int) 8=true:=by unfold bnd; simp; omega
   simp only [hd,hbn,Bv];rfl
  ·have:i=8:=by omega
   subst this;rfl
def AL (st blk:List Int):List Int:=(List.range' 0 8).foldl (Jf st) ((List.range' 0 64).foldl (G3 (KR blk)) st)
theorem zpk (R:Type) {st blk:List Int} (hl:st.length=8) (hu:AllU32 st) (hb:blk.length=64) (h8:AllU8 blk) (k:List Int->Option R):F258 R st blk k=k (AL st blk):=by
 simp only [F258,p258];rw [zpa,zo9 R hb h8];refine (Zt R (KR blk) st (replicate 8 0) (λx3 x4 x5=>Nz FUEL R 0 x3 x4 x5 λx6 x7=>k x7) FUEL 0 st (by omega) (by rw [Dv]; omega) hl hu).trans ?_;exact Zs R st (replicate 8 0) (λ_ x7=>k x7) FUEL 0 _ (by omega) (by rw [Dv]; omega)
theorem zqf (R:Type) {st blk:List Int} (hl:st.length=8) (hu:AllU32 st) (hb:blk.length=64) (h8:AllU8 blk) (k:List Int->Option R):F118 R st blk k=k (AL st blk):=by
 simp only [F118,p118];rw [zp8 R hb h8];refine (Zx R (KR blk) st (replicate 8 0) (λx3 x4 x5=>N1 FUEL R 0 x3 x4 x5 λx6 x7=>k x7) FUEL 0 st (by omega) (by rw [Dv]; omega) hl hu).trans ?_;exact Zw R st (replicate 8 0) (λ_ x7=>k x7) FUEL 0 _ (by omega) (by rw [Dv]; omega)
theorem M8 (plan:List Int):∀(is:List Nat) (s:List Int),s.length=8->AllU32 s->(is.foldl (G3 plan) s).length=8/\AllU32 (is.foldl (G3 plan) s)
 | [],s,h1,h2=>⟨h1,h2⟩
 | i::is,s,h1,h2=>by
  have ok:=Rm h2 (plan.getD i 0) (KS.getD i 0);exact M8 plan is _ ok.1 ok.2
theorem Ug (a:List Int):∀(is:List Nat) (s:List Int),s.length=8->AllU32 s->(is.foldl (Jf a) s).length=8/\AllU32 (is.foldl (Jf a) s)
 | [],s,h1,h2=>⟨h1,h2⟩
 | i::is,s,h1,h2=>by
  have ok:=MB (a:=a) h1 h2 i;exact Ug a is _ ok.1 ok.2
theorem U5 {st:List Int} (blk:List Int) (hl:st.length=8) (hu:AllU32 st):(AL st blk).length=8/\AllU32 (AL st blk):=by
 have h:=M8 (KR blk) (List.range' 0 64) st hl hu;exact Ug st _ _ h.1 h.2
def blkF:Nat->List Int->List (List Int)
 | 0,_=>[]
 | n+1,b=>if 64<=b.length then b.take 64::blkF n (b.drop 64) else []
def U6:Nat->List Int->List Int
 | 0,b=>b
 | n+1,b=>if 64<=b.length then U6 n (b.drop 64) else b
def blkS (b:List Int):List (List Int):=blkF (b.length/64+1) b
def Hl (b:List Int):List Int:=U6 (b.length/64+1) b
theorem JG:∀(n m:Nat) (b:List Int),b.length/64<n->b.length/64<m->blkF n b=blkF m b
 | 0,_,_,h,_=>by omega
 | _,0,_,_,h=>by omega
 | n+1,m+1,b,h1,h2=>by
  simp only [blkF]
  by_cases h:64<=b.length
  ·rw [Aj h,Aj h,JG n m (b.drop 64) (by rw [Cs]; omega) (by rw [Cs]; omega)]
  ·rw [Ak h,Ak h]
theorem Xc:∀(n m:Nat) (b:List Int),b.length/64<n->b.length/64<m->U6 n b=U6 m b
 | 0,_,_,h,_=>by omega
 | _,0,_,_,h=>by omega
 | n+1,m+1,b,h1,h2=>by
  simp only [U6]
  by_cases h:64<=b.length
  ·rw [Aj h,Aj h,Xc n m (b.drop 64) (by rw [Cs]; omega) (by rw [Cs]; omega)]
  ·rw [Ak h,Ak h]
theorem Jt {b:List Int} (h:64<=b.length):blkS b=b.take 64::blkS (b.drop 64):=by
 unfold blkS;rw [show blkF (b.length/64+1) b=b.take 64::blkF (b.length/64) (b.drop 64) by simp only [blkF,Aj h]];rw [JG (b.length/64) ((b.drop 64).length/64+1) (b.drop 64) (by rw [Cs]; omega) (by omega)]
theorem H4 {b:List Int} (h:b.length<64):blkS b=[]:=by
 unfold blkS; simp only [blkF,Ak (show ¬64<=b.length by omega)]
theorem H6 {b:List Int} (h:64<=b.length):Hl b=Hl (b.drop 64):=by
 unfold Hl;rw [show U6 (b.length/64+1) b=U6 (b.length/64) (b.drop 64) by simp only [U6,Aj h]];rw [Xc (b.length/64) ((b.drop 64).length/64+1) (b.drop 64) (by rw [Cs]; omega) (by omega)]
theorem Gi {b:List Int} (h:b.length<64):Hl b=b:=by
 unfold Hl; simp only [U6,Ak (show ¬64<=b.length by omega)]
theorem M7:∀(n:Nat) (b:List Int),b.length<=n->(Hl b).length=b.length % 64/\(blkS b).length=b.length/64
 | 0,b,h=>by
  rw [Gi (by omega),H4 (by omega)];simp; omega
 | n+1,b,h=>by
  by_cases h6:64<=b.length
  ·have ih:=M7 n (b.drop 64) (by rw [Cs]; omega)
   rw [H6 h6,Jt h6,ih.1,Af,ih.2,Cs];omega
  ·rw [Gi (by omega),H4 (by omega)]
   simp; omega
theorem Ox:∀(n:Nat) (a b:List Int),a.length<=n->blkS (a++b)=blkS a++blkS (Hl a++b)/\Hl (a++b)=Hl (Hl a++b)
 | 0,a,b,h=>by
  rw [H4 (show a.length<64 by omega),Gi (show a.length<64 by omega)];exact ⟨rfl,rfl⟩
 | n+1,a,b,h=>by
  by_cases h6:64<=a.length
  ·have ih:=Ox n (a.drop 64) b (by rw [Cs]; omega)
   have hl:64<=(a++b).length:=by rw [Ae]; omega
   rw [Jt hl,Jt h6,H6 hl,H6 h6,Bd h6,List.drop_append_of_le_length h6,ih.1,ih.2];exact ⟨rfl,rfl⟩
  ·rw [H4 (show a.length<64 by omega),Gi (show a.length<64 by omega)]
   exact ⟨rfl,rfl⟩
theorem VR (R:Type) (k0:List Int->List (List Int)->Option R):∀(m:Nat) (b:List Int) (acc:List (List Int)),b.length/64<m->acc.length+b.length/64<=1000000000->b.length<=100000000000->
  S5 m R b acc k0=k0 (Hl b) (acc++blkS b)
 | 0,b,acc,h,_,_=>by omega
 | m+1,b,acc,h1,h2,h3=>by
  simp only [S5,PN]
  by_cases h6:64<=b.length
  ·have ih:=VR R k0 m (b.drop 64) (acc++[b.take 64]) (by rw [Cs]; omega) (by rw [Cs,Ae]; simp; omega) (by rw [Cs]; omega)
   have c1:decide ((b.length:Int)>=64)=true:=by simp; omega
   have c2:decide ((64:Int)<=(b.length:Int))=true:=by simp; omega
   have c3:decide (acc.length+[b.take 64].length<=2199023255552)=true:=by simp; omega
   have c4:decide (0<=(64:Int)/\(64:Int)<=(b.length:Int)/\(b.length:Int)<=(b.length:Int)/\(b.length:Int)<=(b.length:Int))=true:=by simp; omega
   have e1:List.take (Int.toNat ((b.length:Int) - 64)) (List.drop 64 b)=List.drop 64 b:=A8 (by rw [Cs]; omega);simp only [c1,c2,c3,c4,e1];rw [ih,Jt h6,H6 h6,Ah];rfl
  ·have c1:decide ((b.length:Int)>=64)=false:=by simp; omega
   simp only [c1];rw [H4 (by omega),Gi (by omega),B0]
theorem zpl (R:Type) {b:List Int} (h:b.length<=1000000000) (k:List (List Int)->List Int->Option R):F257 R b k=k (blkS b) (Hl b):=by
 simp only [F257,p257];refine (VR R (λx1 x2=>k x2 x1) FUEL b [] (by rw [Dv]; omega) (by simp; omega) (by omega)).trans ?_;rw [A2]
abbrev Wr:=List Int×List Int×Int×Unit
def Np (st:List Int) (bs:List (List Int)):List Int:=bs.foldl AL st
theorem Sf:∀(n:Nat) (b:List Int),b.length<=n->AllU8 b->(∀x∈blkS b,x.length=64/\AllU8 x)/\AllU8 (Hl b)
 | 0,b,h,h8=>by
  rw [H4 (by omega),Gi (by omega)];exact ⟨λx hx=>(by cases hx),h8⟩
 | n+1,b,h,h8=>by
  by_cases h6:64<=b.length
  ·have ih:=Sf n (b.drop 64) (by rw [Cs]; omega) (λx hx=>h8 x (List.mem_of_mem_drop hx))
   rw [Jt h6,H6 h6];refine ⟨λx hx=>?_,ih.2⟩;rcases Cd.1 hx with rfl | hx
   ·exact ⟨by rw [A5]; omega,λy hy=>h8 y (List.mem_of_mem_take hy)⟩
   ·exact ih.1 x hx
  ·rw [H4 (by omega),Gi (by omega)]
   exact ⟨λx hx=>(by cases hx),h8⟩
theorem No:∀(bs:List (List Int)) {st:List Int},st.length=8->AllU32 st->(Np st bs).length=8/\AllU32 (Np st bs)
 | [],st,h1,h2=>⟨h1,h2⟩
 | b::bs,st,h1,h2=>by
  have ok:=U5 b h1 h2;exact No bs ok.1 ok.2
theorem VX (R:Type) (rest:List Int) (bs:List (List Int)) (hb:∀x∈bs,x.length=64/\AllU8 x) (hn:bs.length<=1000000000) (u:List Int×Int×Unit) (k0:List Int->(Wr×Unit)->Option R):
  ∀(m i:Nat) (st:List Int),i<=bs.length->bs.length - i<m->st.length=8->AllU32 st->Tc m R rest bs (bs.length:Int) (i:Int) ((st,u),()) k0=k0 rest ((Np st (bs.drop i),u),())
 | 0,i,st,_,h,_,_=>by omega
 | m+1,i,st,h1,h2,hl,hu=>by
  simp only [Tc,PW]
  by_cases hi:i<bs.length
  ·have hd:decide ((i:Int)<(bs.length:Int))=true:=by simpa using hi
   have hbn:bnd (i:Int) (bs.length:Int)=true:=by unfold bnd; simp; omega
   have hx:=hb bs[i] (Cw hi);have hg:List.getD bs i (replicate 64 0)=bs[i]:=by simp [hi]
   simp only [hd,hbn,Bv,hg];rw [zpk R hl hu hx.1 hx.2,wrap_i64 (by omega) (by omega)];have ok:=U5 bs[i] hl hu;have ih:=VX R rest bs hb hn u k0 m (i+1) (AL st bs[i]) (by omega) (by omega) ok.1 ok.2;rw [Co hi];exact ih
  ·have:i=bs.length:=by omega
   subst this;have hd:decide ((bs.length:Int)<(bs.length:Int))=false:=by simp
   simp only [hd];rw [Bg (Al _)];rfl
theorem YV (R:Type) {st:List Int} (u:List Int×Int×Unit) {b:List Int} (hl:st.length=8) (hu:AllU32 st) (h8:AllU8 b) (hn:b.length<=1000000000) (k:List Int->(Wr×Unit)->Option R):
  F210 R ((st,u),()) b k=k (Hl b) ((Np st (blkS b),u),()):=by
 simp only [F210,p210];rw [zpl R hn];have ok:=Sf b.length b (Al _) h8;have hlen:=(M7 b.length b (Al _)).2;exact VX R (Hl b) (blkS b) ok.1 (by omega) u (λx4 x5=>k x4 x5) FUEL 0 st (by omega) (by rw [Dv]; omega) hl hu
theorem zpw (R:Type) {st rest part:List Int} {n:Nat} (hl:st.length=8) (hu:AllU32 st) (hr:AllU8 rest) (hp:AllU8 part) (hlen:rest.length+part.length<=1000000000) (hn:n+part.length<=1000000000) (k:(Wr×Unit)->Option R):
  F207 R ((st,rest,(n:Int),()),()) part k=k ((Np st (blkS (rest++part)),Hl (rest++part),((n+part.length:Nat):Int),()),()):=by
 simp only [F207,p207,F255];rw [Dt (n:=(part.length:Int)) (by omega) (by omega),Dt (by omega) (by omega)];have c1:decide (([]:List Int).length+rest.length<=140737488355328)=true:=by simp; omega
 have c2:decide (rest.length+part.length<=140737488355328)=true:=by simp; omega
 simp only [c1,c2];have h8:AllU8 (rest++part):=λx hx=>by
  rcases Ai.1 hx with h | h
  ·exact hr x h
  ·exact hp x h
 rw [YV R _ hl hu h8 (by rw [Ae]; omega)]
 congr 1
def wrS (st m:List Int):Wr:=(Np st (blkS m),Hl m,(m.length:Int),())
theorem AllU8.append {a b:List Int} (ha:AllU8 a) (hb:AllU8 b):AllU8 (a++b):=λx hx=>by
 rcases Ai.1 hx with h | h
 ·exact ha x h
 ·exact hb x h
theorem KI (st m p:List Int):Np (Np st (blkS m)) (blkS (Hl m++p))=Np st (blkS (m++p))/\Hl (Hl m++p)=Hl (m++p):=by
 obtain ⟨h1,h2⟩:=Ox m.length m p (Al _);rw [h1,h2];refine ⟨?_,rfl⟩;unfold Np;rw [List.foldl_append]
theorem VY (R:Type) {st:List Int} (hl:st.length=8) (hu:AllU32 st) (x4:Wr) (k0:Int->Wr->Option R) (k1:Wr->(Wr×Unit)->Option R):∀(n:Nat) (ps done:List (List Int)) (m:List Int),m=done.flatten->AllU8 m->(∀p∈ps,AllU8 p)->
  m.length+ps.flatten.length<=500000000->(done++ps).length<=1000000000->ps.length<n->Qm n R (done++ps) ((done++ps).length:Int) (done.length:Int) x4 (wrS st m,()) k0 k1=k1 x4 (wrS st (m++ps.flatten),())
 | 0,ps,done,m,_,_,_,_,_,h=>by omega
 | n+1,[],done,m,hm,h8,hps,hlen,hnum,h=>by
  simp only [Qm,ID];have hd:decide ((done.length:Int)<((done++[]).length:Int))=false:=by simp
  simp only [hd];simp
 | n+1,p::ps,done,m,hm,h8,hps,hlen,hnum,h=>by
  simp only [Qm,ID];have hlt:done.length<(done++p::ps).length:=by simp
  have hd:decide ((done.length:Int)<((done++p::ps).length:Int))=true:=by simp; omega
  have hbn:bnd (done.length:Int) ((done++p::ps).length:Int)=true:=by unfold bnd; simp; omega
  have hg:List.getD (done++p::ps) done.length []=p:=by simp
  have hp8:=hps p (by simp);have hfl:(p::ps).flatten=p++ps.flatten:=by simp
  rw [hfl,Ae] at hlen;have ok:=No (blkS m) hl hu;have ok2:=Sf m.length m (Al _) h8;have tl:=(M7 m.length m (Al _)).1;simp only [hd,hbn,Bv,hg];unfold wrS;rw [zpw R ok.1 ok.2 ok2.2 hp8 (by omega) (by omega)];obtain ⟨a1,a2⟩:=KI st m p;rw [a1,a2,<-Ae];have hb:decide (((m++p).length:Int)>=2305843009213693952)=false:=by simp; omega
  simp only [hb];rw [wrap_i64 (by omega) (by simp at hnum; omega)];have ih:=VY R hl hu x4 k0 k1 n ps (done++[p]) (m++p) (by rw [hm]; simp) (h8.append hp8) (λq hq=>hps q (by simp [hq])) (by rw [Ae]; omega) (by simpa using hnum) (by simp at h; omega);unfold wrS at ih;rw [hfl,<-Ah];have e1:done++[p]++ps=done++p::ps:=by simp
  have e2:(((done++[p]).length:Nat):Int)=(done.length:Int)+1:=by simp
  rw [e1,e2] at ih;exact ih
theorem zqb (R:Type) {st:List Int} (hl:st.length=8) (hu:AllU32 st) {ps:List (List Int)} (h8:∀p∈ps,AllU8 p) (hlen:ps.flatten.length<=500000000) (hnum:ps.length<=1000000000) (k:Wr->Int->Option R):
  F162 R (st,[],(0:Int),()) ps k=k (wrS st ps.flatten) 0:=by
 have hr:F206 R (st,[],(0:Int),())=λk=>k true:=by
  funext k
  simp only [F206,p206];rfl
 simp only [F162,p162];rw [hr];have:=VY R hl hu (replicate 8 0,[],0,()) (λx3 x4=>k x4 x3) (λ_ x6=>k x6.1 0) FUEL ps [] [] rfl (λx hx=>by cases hx) h8 (by simpa using hlen) (by simpa using hnum) (by rw [Dv]; omega);rw [A2] at this;refine Eq.trans ?_ this;unfold wrS;rw [H4 (by simp),Gi (by simp)];rfl
def putS (x:Int):List Int:=[x/72057594037927936 % 256,x/281474976710656 % 256,x/1099511627776 % 256,x/4294967296 % 256,x/16777216 % 256,x/65536 % 256,x/256 % 256,x % 256]
theorem zil {x:Int} (r:Nat) (hr:r<=64):ishr .u64 x (r:Int)=x/2^r:=by
 unfold ishr;rw [show IntKind.u64.bits=64 from rfl,show ((r:Int).toNat)=r by simp,A6 hr,Cz _ (by have:=two_pow_pos r; omega)]
theorem WA (R:Type) (x:Int) (k0:List Int->Option R):∀(m i:Nat) (l:List Int),i<=8->8 - i<m->Tf m R x (i:Int) l k0=k0 ((List.range' i (8 - i)).foldl (λl i=>l.set i (x/2^(8*(7 - i)) % 256)) l)
 | 0,i,l,_,h=>by omega
 | m+1,i,l,h1,h2=>by
  simp only [Tf,QF]
  by_cases hi:i<8
  ·have ih:=WA R x k0 m (i+1) (l.set i (x/2^(8*(7 - i)) % 256)) (by omega) (by omega)
   rw [E6 hi,B8,<-ih];have hd:decide ((i:Int)<8)=true:=by simp; omega
   have hbn:bnd (i:Int) 8=true:=by unfold bnd; simp; omega
   rw [wrap_i64 (n:=7 - (i:Int)) (by omega) (by omega),wrap_i64 (n:=8*(7 - (i:Int))) (by omega) (by omega),Dt (n:=8*(7 - (i:Int))) (by omega) (by omega),wrap_i64 (n:=(i:Int)+1) (by omega) (by omega)];have e1:8*(7 - (i:Int))=((8*(7 - i):Nat):Int):=by omega
   have hp:decide ((0:Int)<=((8*(7 - i):Nat):Int))=true:=C1 (by omega);rw [e1,zil _ (by omega),Gx];simp only [hd,hbn,hp,Bv];rfl
  ·have:i=8:=by omega
   subst this;rfl
theorem Tk (R:Type) (x:Int) (k:List Int->Option R):F115 R x k=k (putS x):=by
 simp only [F115,p115];refine (WA R x (λx1=>k x1) FUEL 0 (replicate 8 0) (by omega) (by rw [Dv]; omega)).trans ?_
 congr 1
 simp [List.range'_succ,putS,replicate]
theorem zgr (R:Type) {x:Int} (hx:0<=x/\x<18446744073709551616) (x3:List Int) (k0:List Int->List Int->Option R):∀(i m:Nat) (l:List Int),i<=8->i<m->Zo m R (x/2^(8*(8 - i))) ((i:Int) - 1) x3 l k0=k0 x3 ((List.range i).reverse.foldl (λl j=>l.set j (x/2^(8*(7 - j)) % 256)) l)
 | i,0,l,_,h=>by omega
 | 0,m+1,l,h1,h2=>by
  simp only [Zo,zbu];have hd:decide (((0:Nat):Int) - 1>=0)=false:=by simp
  simp only [hd];rfl
 | i+1,m+1,l,h1,h2=>by
  simp only [Zo,zbu];have ih:=zgr R hx x3 k0 i m (l.set i (x/2^(8*(7 - i)) % 256)) (by omega) (by omega);rw [List.range_succ,List.reverse_append,List.reverse_singleton,List.singleton_append,B8,<-ih];have e0:(((i+1:Nat):Int) - 1)=(i:Int):=by omega
  rw [e0];have hd:decide ((i:Int)>=0)=true:=by simp
  have hbn:bnd (i:Int) 8=true:=by unfold bnd; simp; omega
  have e1:8 - (i+1)=7 - i:=by omega
  rw [e1];have hp:=two_pow_pos (8*(7 - i));have hge:0<=x/2^(8*(7 - i)):=Int.ediv_nonneg hx.1 (by omega);have hle:x/2^(8*(7 - i))<=x:=Int.ediv_le_self _ hx.1;have hstep:x/2^(8*(8 - i))=x/2^(8*(7 - i))/256:=by
   rw [show 8*(8 - i)=8*(7 - i)+8 by omega,Int.pow_add,<-Int.ediv_ediv_of_nonneg (by omega)];rfl
  rw [hstep];generalize x/2^(8*(7 - i))=q at*;rw [C2 hge,C3 hge,NE (by omega) (by omega),Dt (by omega) (by omega),wrap_i64 (by omega) (by omega)];simp only [hd,hbn,Bv]
theorem zg2 (R:Type) {x:Int} (hx:0<=x/\x<18446744073709551616) (k:List Int->Option R):F54 R x k=k (putS x):=by
 simp only [F54,p54];have:=zgr R hx (replicate 8 0) (λ_ x2=>k x2) 8 FUEL (replicate 8 0) (by omega) (by rw [Dv]; omega);rw [show x/2^(8*(8 - 8))=x by simp] at this;refine Eq.trans this ?_
 congr 1
 simp [List.range_succ,putS,replicate]
def F1 (n:Nat):Nat:=(119 - n % 64) % 64
def padT (rest:List Int) (n:Nat):List Int:=rest++128::(replicate (F1 n) 0++putS (8*(n:Int)))
theorem Zz (R:Type) (x:Int) (k0:Int->List Int->Option R):∀(z m:Nat) (l:List Int),z<64->(l.length+z) % 64=56->(∀y,y<z->(l.length+y) % 64≠56)->z<m->l.length+z<=100000->N3 m R x l k0=k0 x (l++replicate z 0)
 | z,0,l,_,_,_,h,_=>by omega
 | 0,m+1,l,h1,h2,_,h3,h4=>by
  simp only [N3,IE];have hm:Int.tmod (l.length:Int) 64=56:=by rw [C2 (by omega)]; omega
  rw [hm];have:((56:Int) !=56)=false:=by simp
  simp only [this];simp
 | z+1,m+1,l,h1,h2,h5,h3,h4=>by
  simp only [N3,IE];have hne:(Int.tmod (l.length:Int) 64 !=56)=true:=by
   rw [C2 (by omega)];have:=h5 0 (by omega);simp; omega
  have hc:decide (l.length+[(0:Int)].length<=140737488355328)=true:=by simp; omega
  have ih:=Zz R x k0 z m (l++[0]) (by omega) (by rw [Ae]; simp; omega) (λy hy=>by rw [Ae]; have:=h5 (y+1) (by omega); simp; omega) (by omega) (by rw [Ae]; simp; omega);simp only [hne,hc];rw [ih,Ah];rfl
theorem Zy (R:Type) (ds:List Int) (k0:List Int->Option R):∀(m i:Nat) (l:List Int),i<=8->8 - i<m->ds.length=8->l.length<=100000+i->N2 m R (i:Int) l ds k0=k0 (l++ds.drop i)
 | 0,i,l,_,h,_,_=>by omega
 | m+1,i,l,h1,h2,hd8,hl=>by
  simp only [N2,QE]
  by_cases hi:i<8
  ·have hd:decide ((i:Int)<8)=true:=by simp; omega
   have hbn:bnd (i:Int) 8=true:=by unfold bnd; simp; omega
   have hg:List.getD ds i 0=ds[i]:=by simp [show i<ds.length by omega]
   have hc:decide (l.length+[ds[i]].length<=140737488355328)=true:=by simp; omega
   have ih:=Zy R ds k0 m (i+1) (l++[ds[i]]) (by omega) (by omega) hd8 (by rw [Ae]; simp; omega);simp only [hd,hbn,Bv,hg,hc];rw [wrap_i64 (by omega) (by omega),Co (show i<ds.length by omega)];rw [Ah] at ih;exact ih
  ·have:i=8:=by omega
   subst this;have hd:decide (((8:Nat):Int)<8)=false:=by simp
   simp only [hd];rw [Bg (by omega),B0]
theorem zqg (R:Type) {rest:List Int} {n:Nat} (hr:rest.length=n % 64) (hn:n<=1000000000) (k:List Int->Bool->Option R):F117 R rest (n:Int) k=k (padT rest n) true:=by
 simp only [F117,p117];have c0:decide ((n:Int)>=2305843009213693952)=false:=by simp; omega
 have c1:(u64.wrap (rest.length:Int) !=Int.tmod (n:Int) 64)=false:=by
  rw [Dt (by omega) (by omega),C2 (by omega)];simp; omega
 have c2:decide (([]:List Int).length+rest.length<=140737488355328)=true:=by simp; omega
 have c3:decide (([]++rest).length+[(128:Int)].length<=140737488355328)=true:=by simp; omega
 simp only [c0,c1,c2,c3];have g:=Zz R (n:Int) (λx10 x11=>F54 R (u64.wrap (8*x10)) λy13=>N2 FUEL R 0 x11 y13 λx14=>k x14 true) (F1 n) FUEL ([]++rest++[128]) (by unfold F1; omega) (by simp; unfold F1; omega) (λy hy=>by simp; unfold F1 at hy; omega) (by rw [Dv]; unfold F1; omega) (by simp; unfold F1; omega);refine g.trans ?_;rw [Dt (by omega) (by omega),zg2 R (by omega)];refine (Zy R (putS (8*(n:Int))) (λx14=>k x14 true) FUEL 0 _ (by omega) (by rw [Dv]; omega) rfl (by simp; unfold F1; omega)).trans ?_
 congr 1
 simp [padT]
theorem zpm (R:Type) {n:Nat} (hn:n<=1000000000) (k:Int->Option R):F256 R (n:Int) k=k (((n+72)/64:Nat):Int):=by
 simp only [F256,p256];have c0:decide ((n:Int)>=2305843009213693952)=false:=by simp; omega
 simp only [c0];rw [Dt (n:=(n:Int)+8) (by omega) (by omega),Dt (n:=(n:Int)+8+64) (by omega) (by omega),C3 (by omega),Dt (by omega) (by omega)]
 congr 1
theorem zk2 {a b c xs:List Int} (h:xs.length=b.length):lay (a++b++c) a.length xs=a++xs++c:=by
 unfold lay;have e1:List.take a.length (a++b++c)=a:=by rw [Ah,Bp]
 have e2:List.drop (a.length+xs.length) (a++b++c)=c:=by
  rw [h,show a.length+b.length=(a++b).length by simp,Bc]
 rw [e1,e2]
theorem zpv (R:Type) {rest:List Int} {n:Nat} (hr:rest.length=n % 64) (hn:n<=1000000000) (k:List Int->Bool->Option R):F209 R rest (n:Int) k=k (padT rest n) true:=by
 simp only [F209,p209];have c0:decide ((n:Int)>=2305843009213693952)=false:=by simp; omega
 have c1:(u64.wrap (rest.length:Int) !=Int.tmod (n:Int) 64)=false:=by
  rw [Dt (by omega) (by omega),C2 (by omega)];simp; omega
 simp only [c0,c1];rw [zpm R hn,C3 (by omega),Dt (n:=(n:Int)/64) (by omega) (by omega),Dt (by omega) (by omega),wrap_i64 (n:=(((n+72)/64:Nat):Int) - (n:Int)/64) (by omega) (by omega),wrap_i64 (n:=_*64) (by omega) (by omega)];obtain ⟨sz,hsz⟩:∃sz:Nat,((((n+72)/64:Nat):Int) - (n:Int)/64)*64=sz:=⟨((n+72)/64 - n/64)*64,by omega⟩
 have hz:sz=rest.length+1+F1 n+8:=by unfold F1; omega
 rw [hsz];have l1:lay (replicate sz (0:Int)) 0 (List.take (replicate sz (0:Int)).length rest)=rest++replicate (1+F1 n+8) 0:=by
  unfold lay;rw [A8 (l:=rest) (by simp; omega)];simp;omega
 have l2:List.set (rest++replicate (1+F1 n+8) 0) rest.length 128=(rest++128::replicate (F1 n) 0)++replicate 8 0++[]:=by
  rw [C9 _ _ (Al _),Da,show 1+F1 n+8=(F1 n+8)+1 by omega,List.replicate_succ,List.set_cons_zero,<-List.replicate_append_replicate];simp
 have sh:ishl .u64 (n:Int) 3=8*(n:Int):=by
  unfold ishl;rw [show (2:Int)^(min (3:Int).toNat IntKind.u64.bits)=8 by decide,Dt (by omega) (by omega)];omega
 have hl3:((rest++128::replicate (F1 n) 0)++replicate 8 (0:Int)++[]).length=sz:=by simp; omega
 have d1:decide (0<=(sz:Int)/\(sz:Int)<=(sz:Int)/\(sz:Int)<=140737488355328)=true:=C1 (by omega);have d2:bnd (rest.length:Int) ((rest++replicate (1+F1 n+8) (0:Int)).length:Int)=true:=by unfold bnd; simp; omega
 have d3:decide (0<=(sz:Int) - 8/\(sz:Int) - 8<=(sz:Int)/\(sz:Int)<=(sz:Int)/\(sz:Int)<=(sz:Int))=true:=C1 (by omega);have e8:((sz:Int) - 8).toNat=(rest++128::replicate (F1 n) 0).length:=by simp; omega
 have e9:List.take ((sz:Int) - ((sz:Int) - 8)).toNat (List.take 8 (List.drop 0 (putS (8*(n:Int)))))=putS (8*(n:Int)):=by
  rw [show ((sz:Int) - ((sz:Int) - 8)).toNat=8 by omega]; rfl
 simp only [d1,Bv,l1,d2,l2,sh];rw [Tk,wrap_i64 (by omega) (by omega)];simp only [hl3,d3,e9,e8];rw [zk2 (by rfl)]
 congr 1
 simp [padT]
def Fg (a:Int):List Int:=[a/16777216 % 256,a/65536 % 256,a/256 % 256,a % 256]
theorem GN (R:Type) {a:Int} (ha:U32 a) (k:List Int->Option R):F218 R a k=k (Fg a):=by
 have e24:ishr .u32 a 24=a/16777216:=HQ ha (r:=24) (by omega);have e16:ishr .u32 a 16=a/65536:=HQ ha (r:=16) (by omega);have e8:ishr .u32 a 8=a/256:=HQ ha (r:=8) (by omega);simp only [F218,p218,e24,e16,e8,Gx];rfl
theorem zvb (R:Type) {a:Int} (ha:U32 a) (k:List Int->Option R):F70 R a k=k (Fg a):=by
 have h:=ha;unfold U32 at h;simp only [F70,p70];rw [C3 h.1,C3 h.1,C3 h.1,Fw (n:=a/16777216) (by omega) (by omega),Fw (n:=a/65536) (by omega) (by omega),Fw (n:=a/256) (by omega) (by omega)];rw [C2 (a:=a/65536) (by omega),C2 (a:=a/256) (by omega),C2 h.1];simp only [Gx,Int.emod_emod];rfl
theorem zgn (R:Type) (bs:List (List Int)) (hb:∀x∈bs,x.length=64/\AllU8 x) (hn:bs.length<=1000000000) (x4:List Int) (k0:List Int->List Int->Option R):
  ∀(m i:Nat) (st:List Int),i<=bs.length->bs.length - i<m->st.length=8->AllU32 st->ED m R bs (i:Int) st x4 k0=k0 (Np st (bs.drop i)) x4
 | 0,i,st,_,h,_,_=>by omega
 | m+1,i,st,h1,h2,hl,hu=>by
  simp only [ED,zi6]
  by_cases hi:i<bs.length
  ·have hd:decide ((i:Int)<(bs.length:Int))=true:=by simpa using hi
   have hbn:bnd (i:Int) (bs.length:Int)=true:=by unfold bnd; simp; omega
   have hx:=hb bs[i] (Cw hi);have hg:List.getD bs i (replicate 64 0)=bs[i]:=by simp [hi]
   simp only [hd,hbn,Bv,hg];rw [zqf R hl hu hx.1 hx.2,wrap_i64 (by omega) (by omega)];have ok:=U5 bs[i] hl hu;have ih:=zgn R bs hb hn x4 k0 m (i+1) (AL st bs[i]) (by omega) (by omega) ok.1 ok.2;rw [Co hi];exact ih
  ·have:i=bs.length:=by omega
   subst this;have hd:decide ((bs.length:Int)<(bs.length:Int))=false:=by simp
   simp only [hd];rw [Bg (Al _)];rfl
theorem zu3 (R:Type) {st:List Int} {bs:List (List Int)} (hl:st.length=8) (hu:AllU32 st) (hb:∀x∈bs,x.length=64/\AllU8 x) (hn:bs.length<=1000000000) (k:List Int->Option R):F84 R st bs k=k (Np st bs):=by
 simp only [F84,p84];exact zgn R bs hb hn (replicate 8 0) (λx1 _=>k x1) FUEL 0 st (by omega) (by rw [Dv]; omega) hl hu
def H0:List Int:=[1779033703,3144134277,1013904242,2773480762,1359893119,2600822924,528734635,1541459225]
theorem zu2 (R:Type) (k:List Int->Option R):F85 R k=k H0:=by kernel_rfl
theorem zqa (R:Type) (k:Wr->Option R):F163 R k=k (H0,[],0,()):=by kernel_rfl
theorem Zj:H0.length=8/\AllU32 H0:=⟨rfl,λx hx=>by
 simp only [H0,Cd,C8,or_false] at hx;unfold U32;omega⟩
def Jd (st l:List Int) (i:Nat):List Int:=lay l (4*i) (Fg (st.getD i 0))
theorem RW {l xs:List Int} {lo:Nat} (h:lo+xs.length<=l.length):(lay l lo xs).length=l.length:=by
 unfold lay; simp; omega
theorem VW (R:Type) {st:List Int} (hu:AllU32 st) (w:Wr×Unit) (k0:(Wr×Unit)->List Int->Option R):∀(m i:Nat) (l:List Int),i<=8->8 - i<m->Tb m R st (i:Int) w l k0=k0 w ((List.range' i (8 - i)).foldl (Jd st) l)
 | 0,i,l,_,h=>by omega
 | m+1,i,l,h1,h2=>by
  simp only [Tb,PV]
  by_cases hi:i<8
  ·have ih:=VW R hu w k0 m (i+1) (Jd st l i) (by omega) (by omega)
   rw [E6 hi,B8,<-ih];have hd:decide ((i:Int)<8)=true:=by simp; omega
   have hbn:bnd (i:Int) 8=true:=by unfold bnd; simp; omega
   rw [wrap_i64 (n:=4*(i:Int)) (by omega) (by omega),wrap_i64 (n:=(i:Int)+1) (by omega) (by omega)];have c:decide (0<=4*(i:Int)/\4*(i:Int)<=32/\(32:Int)<=32)=true:=C1 (by omega);have e1:(4*(i:Int)).toNat=4*i:=by omega
   have e2:∀a,List.take (Int.toNat (32 - 4*(i:Int))) (List.take 4 (List.drop 0 (Fg a)))=Fg a:=λa=>by
    rw [A8 (l:=List.take 4 (List.drop 0 (Fg a))) (by simp [Fg]; omega)];rfl
   simp only [hd,hbn,c,Bv];rw [GN R (D2 hu Tn _)];simp only [c,e1,e2];rfl
  ·have:i=8:=by omega
   subst this;rfl
theorem JO (R:Type) {b:List Int} {o:Nat} (ho:o+64<=b.length) (hb:b.length<=1000000000) (acc:List (List Int)) (k0:List Int->Int->List (List Int)->List Int->Option R):∀(m i:Nat),i<=64->64 - i<m->
  Zl m R b (o:Int) (i:Int) acc ((b.drop o).take i++replicate (64 - i) 0) k0=k0 b (o:Int) acc ((b.drop o).take 64)
 | 0,i,_,h=>by omega
 | m+1,i,h1,h2=>by
  simp only [Zl,zi9]
  by_cases hi:i<64
  ·have ih:=JO R ho hb acc k0 m (i+1) (by omega) (by omega)
   have hd:decide ((i:Int)<64)=true:=by simp; omega
   have hbn:bnd (i:Int) 64=true:=by unfold bnd; simp; omega
   have hb2:bnd ((o:Int)+(i:Int)) (b.length:Int)=true:=by unfold bnd; simp; omega
   have e1:((o:Int)+(i:Int)).toNat=o+i:=by omega
   have hl:((b.drop o).take i).length=i:=by rw [A5,Cs]; omega
   have hs:List.set ((b.drop o).take i++replicate (64 - i) 0) i (List.getD b (o+i) 0)=(b.drop o).take (i+1)++replicate (64 - (i+1)) 0:=by
    rw [C9 _ _ (by omega),hl,Da,show 64 - i=(64 - (i+1))+1 by omega,List.replicate_succ,List.set_cons_zero];rw [Cx (by rw [Cs]; omega),Ah];simp [show o+i<b.length by omega]
   rw [wrap_i64 (n:=(o:Int)+(i:Int)) (by omega) (by omega),wrap_i64 (n:=(i:Int)+1) (by omega) (by omega)];simp only [hd,hbn,hb2,e1,Bv,hs];exact ih
  ·have:i=64:=by omega
   subst this;have hd:decide (((64:Nat):Int)<64)=false:=by simp
   simp only [hd];simp
theorem JP (R:Type) {b:List Int} (hb:b.length<=1000000000) (k0:List Int->Int->List (List Int)->Option R):∀(m o:Nat) (acc:List (List Int)),o<=b.length->(b.length - o)/64<m->acc.length+(b.length - o)/64<=1000000000->
  ∃o':Nat,o'<=b.length/\b.drop o'=Hl (b.drop o)/\Wk m R b (o:Int) acc k0=k0 b (o':Int) (acc++blkS (b.drop o))
 | 0,o,acc,_,h,_=>by omega
 | m+1,o,acc,h0,h1,h2=>by
  simp only [Wk,zja];rw [wrap_i64 (n:=(o:Int)+64) (by omega) (by omega)]
  by_cases hi:o+64<=b.length
  ·have hd:decide ((o:Int)+64<=(b.length:Int))=true:=by simp; omega
   obtain ⟨o',g1,g2,g3⟩:=JP R hb k0 m (o+64) (acc++[(b.drop o).take 64]) (by omega) (by omega) (by rw [Ae]; simp; omega);have hl:64<=(b.drop o).length:=by rw [Cs]; omega
   refine ⟨o',g1,?_,?_⟩
   ·rw [g2,H6 hl,A9]
   ·have g:=JO R hi hb acc (λx7 x8 x9 x10=>match decide (x9.length+[x10].length<=2199023255552) with | true=>Wk m R x7 (i64.wrap (x8+64)) (x9++[x10]) k0 | false=>none) FUEL 0 (by omega) (by rw [Dv]; omega)
    have hc:decide (acc.length+[(b.drop o).take 64].length<=2199023255552)=true:=by simp; omega
    simp only [hd];refine Eq.trans ?_ (g.trans ?_)
    ·rfl
    ·simp only [hc]
     rw [wrap_i64 (by omega) (by omega),Jt hl,A9];rw [Ah] at g3;exact g3
  ·have hd:decide ((o:Int)+64<=(b.length:Int))=false:=by simp; omega
   simp only [hd];have hl:(b.drop o).length<64:=by rw [Cs]; omega
   exact ⟨o,h0,by rw [Gi hl],by rw [H4 hl,B0]⟩
theorem zu6 (R:Type) {b:List Int} (hb:b.length<=1000000000) (k:List (List Int)->List Int->Option R):F81 R b k=k (blkS b) (Hl b):=by
 simp only [F81,p81];obtain ⟨o',g1,g2,g3⟩:=JP R hb (λx1 x2 x3=>match decide (0<=x2/\x2<=(x1.length:Int)/\(x1.length:Int)<=(x1.length:Int)/\(x1.length:Int)<=(x1.length:Int)) with | true=>k x3 (List.take (Int.toNat ((x1.length:Int) - x2)) (List.drop (Int.toNat x2) x1)) | false=>none) FUEL 0 [] (by omega) (by rw [Dv]; omega) (by simp; omega);refine g3.trans ?_;have c:decide (0<=(o':Int)/\(o':Int)<=(b.length:Int)/\(b.length:Int)<=(b.length:Int)/\(b.length:Int)<=(b.length:Int))=true:=C1 (by omega);simp only [c,Bv];rw [A8 (by rw [Cs]; omega),g2];rfl
def padM (m:List Int):List Int:=m++128::(replicate (F1 m.length) 0++putS (8*(m.length:Int)))
theorem zu5 (R:Type) {m:List Int} (hm:m.length<=500000000) (k:List Int->Option R):F82 R m k=k (padM m):=by
 simp only [F82,p82];rw [C2 (by omega),wrap_i64 (by omega) (by omega),Dt (n:=(m.length:Int)) (by omega) (by omega)];obtain ⟨q,hq⟩:∃q:Nat,(m.length:Int) - (m.length:Int) % 64=q:=⟨m.length - m.length % 64,by omega⟩
 have hq':q=m.length - m.length % 64:=by omega
 rw [hq];have c1:decide (0<=(q:Int)/\(q:Int)<=(m.length:Int)/\(m.length:Int)<=(m.length:Int)/\(m.length:Int)<=(m.length:Int))=true:=C1 (by omega);have c2:decide (0<=(0:Int)/\(0:Int)<=(q:Int)/\(q:Int)<=(q:Int)/\(q:Int)<=(m.length:Int))=true:=C1 (by omega);have e1:List.take (Int.toNat ((m.length:Int) - (q:Int))) (List.drop q m)=List.drop q m:=A8 (by rw [Cs]; omega);have e2:List.take (Int.toNat ((q:Int) - 0)) (List.drop 0 m)=List.take q m:=by simp
 simp only [c1,Bv,e1];rw [zqg R (by rw [Cs]; omega) (by omega)];have c3:decide (([]:List Int).length+(List.take q m).length<=140737488355328)=true:=C1 (by simp; omega);have c4:decide (([]++List.take q m).length+(padT (List.drop q m) m.length).length<=140737488355328)=true:=C1 (by simp [padT,putS]; unfold F1; omega);simp only [c2,e2,c3,c4]
 congr 1
 simp only [padT,padM,A2];rw [<-Ah,A4]
def zds (st:List Int):List Int:=(List.range' 0 8).foldl (Jd st) (replicate 32 0)
theorem zpu (R:Type) {st:List Int} (u:List Int×Int×Unit) (hu:AllU32 st) (k:List Int->(Wr×Unit)->Option R):F211 R ((st,u),()) k=k (zds st) ((st,u),()):=by
 simp only [F211,p211];exact VW R hu ((st,u),()) (λx1 x2=>k x2 x1) FUEL 0 (replicate 32 0) (by omega) (by rw [Dv]; omega)
def SHA (m:List Int):List Int:=zds (Np H0 (blkS (padM m)))
theorem Ro (x:Int):AllU8 (putS x):=λy hy=>by
 simp only [putS,Cd,C8,or_false] at hy;unfold U8;omega
theorem OY {rest:List Int} (h:AllU8 rest) (n:Nat):AllU8 (padT rest n):=λy hy=>by
 unfold padT at hy;rcases Ai.1 hy with h1 | h1
 ·exact h y h1
 ·rcases Cd.1 h1 with rfl | h1
  ·unfold U8; omega
  ·rcases Ai.1 h1 with h1 | h1
   ·rw [List.eq_of_mem_replicate h1]; exact u8_0
   ·exact Ro _ y h1
theorem zbs (m:List Int):blkS (padM m)=blkS m++blkS (padT (Hl m) m.length):=(Ox m.length m _ (Al _)).1
theorem zp9 (R:Type) {m:List Int} (h8:AllU8 m) (hm:m.length<=500000000) (k:List Int->Int->Option R):F164 R (wrS H0 m) k=k (SHA m) 0:=by
 have tl:=(M7 m.length m (Al _)).1;have ok:=Sf m.length m (Al _) h8;have hf:=No (blkS m) Zj.1 Zj.2;have hp:=OY ok.2 m.length;simp only [F164,p164,wrS];rw [zpv R tl (by omega)];simp only [Db];rw [YV R (Hl m,(m.length:Int),()) hf.1 hf.2 hp (by simp [padT,putS]; unfold F1; omega)];have hf2:=No (blkS (padT (Hl m) m.length)) hf.1 hf.2;rw [zpu R _ hf2.2];unfold SHA;rw [zbs];unfold Np;rw [List.foldl_append]
theorem GQ (R:Type) {ps:List (List Int)} (h8:∀p∈ps,AllU8 p) (hlen:ps.flatten.length<=500000000) (hnum:ps.length<=1000000000) (k:List Int->Option R):F116 R ps k=k (SHA ps.flatten):=by
 simp only [F116,p116];rw [zqa,zqb R Zj.1 Zj.2 h8 hlen hnum];refine zp9 R (λx hx=>?_) hlen _;obtain ⟨p,h1,h2⟩:=List.mem_flatten.1 hx;exact h8 p h1 x h2
theorem JM (R:Type) (x1:Nat) (h:x1<8) (x3 x4 ys:List Int) (hy:ys.length=4) (k0:Int->List Int->List Int->List Int->Option R):∀(m j:Nat) (l:List Int),j<=4->4 - j<m->Zk m R (x1:Int) (j:Int) x3 x4 l ys k0=k0 (x1:Int) x3 x4 ((List.range' j (4 - j)).foldl (λl j=>l.set (4*x1+j) (ys.getD j 0)) l)
 | 0,j,l,_,h=>by omega
 | m+1,j,l,h1,h2=>by
  simp only [Zk,zi7]
  by_cases hi:j<4
  ·have ih:=JM R x1 h x3 x4 ys hy k0 m (j+1) (l.set (4*x1+j) (ys.getD j 0)) (by omega) (by omega)
   rw [E6 hi,B8,<-ih];have hd:decide ((j:Int)<4)=true:=by simp; omega
   have hbn:bnd (j:Int) 4=true:=by unfold bnd; simp; omega
   rw [wrap_i64 (n:=4*(x1:Int)) (by omega) (by omega),wrap_i64 (n:=4*(x1:Int)+(j:Int)) (by omega) (by omega),wrap_i64 (n:=(j:Int)+1) (by omega) (by omega)];have hb2:bnd (4*(x1:Int)+(j:Int)) 32=true:=by unfold bnd; simp; omega
   have e1:(4*(x1:Int)+(j:Int)).toNat=4*x1+j:=by omega
   simp only [hd,hbn,hb2,e1,Bv];rfl
  ·have:j=4:=by omega
   subst this;rfl
theorem zbi (l:List Int) (p:Nat) (h:p+4<=l.length) (a b c d:Int):
  (List.range' 0 4).foldl (λl j=>l.set (p+j) (List.getD [a,b,c,d] j 0)) l=lay l p [a,b,c,d]:=by
 have e:(List.range' 0 4).foldl (λl j=>l.set (p+j) (List.getD [a,b,c,d] j 0)) l=(((l.set p a).set (p+1) b).set (p+2) c).set (p+3) d:=rfl;rw [e];apply List.ext_getElem?;intro i;unfold lay;simp only [List.getElem?_set,List.getElem?_append,A5,Dc,Ay,Ae,Af,Bz,List.getElem?_take];have hm:min p l.length=p:=by omega
 have hx:[a,b,c,d].length=4:=rfl
 by_cases h1:i<p
 ·have n1:¬p+3=i:=by omega
  have n2:¬p+2=i:=by omega
  have n3:¬p+1=i:=by omega
  have n4:¬p=i:=by omega
  simp only [n1,n2,n3,n4,By,hm];rw [Aj (by omega),Aj (by omega),Aj h1]
 ·by_cases h2:i<p+4
  ·obtain ⟨q,rfl⟩:∃q,i=p+q:=⟨i - p,by omega⟩
   have hq:q=0\/q=1\/q=2\/q=3:=by omega
   rcases hq with rfl | rfl | rfl | rfl
   ·simp [hm,show ¬p+3=p from by omega,show p<l.length from by omega]
   ·simp [hm,show p+1<l.length from by omega,show ¬p+1<p from by omega]
   ·simp [hm,show p+2<l.length from by omega,show ¬p+2<p from by omega]
   ·simp [hm,show p+3<l.length from by omega,show ¬p+3<p from by omega]
  ·have n1:¬p+3=i:=by omega
   have n2:¬p+2=i:=by omega
   have n3:¬p+1=i:=by omega
   have n4:¬p=i:=by omega
   simp only [n1,n2,n3,n4,By,hm];rw [Ak (by omega)]
   congr 1
   omega
theorem JN (R:Type) {st:List Int} (hu:AllU32 st) (x3:List Int) (k0:List Int->List Int->Option R):∀(m i:Nat) (l:List Int),i<=8->8 - i<m->l.length=32->Qv m R (i:Int) st x3 l k0=k0 x3 ((List.range' i (8 - i)).foldl (Jd st) l)
 | 0,i,l,_,h,_=>by omega
 | m+1,i,l,h1,h2,hl=>by
  simp only [Qv,zi8]
  by_cases hi:i<8
  ·have hs:lay l (4*i) (Fg (st.getD i 0))=Jd st l i:=rfl
   have ih:=JN R hu x3 k0 m (i+1) (Jd st l i) (by omega) (by omega) (by rw [<-hs,RW (by simp [Fg]; omega)]; exact hl);rw [E6 hi,B8,<-ih];have hd:decide ((i:Int)<8)=true:=by simp; omega
   have hbn:bnd (i:Int) 8=true:=by unfold bnd; simp; omega
   simp only [hd,hbn,Bv];rw [zvb R (D2 hu Tn _)];refine (JM R i hi st x3 _ rfl _ FUEL 0 l (by omega) (by rw [Dv]; omega)).trans ?_;have e4:=zbi l (4*i) (by omega) (st.getD i 0/16777216 % 256) (st.getD i 0/65536 % 256) (st.getD i 0/256 % 256) (st.getD i 0 % 256);rw [wrap_i64 (n:=(i:Int)+1) (by omega) (by omega)];show Qv m R ((i:Int)+1) st x3 _ k0=Qv m R ((i+1:Nat):Int) st x3 _ k0;rw [<-hs];show Qv m R ((i:Int)+1) st x3 _ k0=Qv m R ((i:Int)+1) st x3 _ k0
   congr 1
  ·have:i=8:=by omega
   subst this;rfl
theorem zu4 (R:Type) {st:List Int} (hu:AllU32 st) (k:List Int->Option R):F83 R st k=k (zds st):=by
 simp only [F83,p83];exact JN R hu _ (λx1 x2=>k x2) FUEL 0 (replicate 32 0) (by omega) (by rw [Dv]; omega) rfl
theorem zi5 {m:List Int} (h:AllU8 m):AllU8 (padM m):=λx hx=>by
 unfold padM at hx;rcases Ai.1 hx with h1 | h1
 ·exact h x h1
 ·exact OY (rest:=[]) (λy hy=>absurd hy (by simp)) m.length x h1
theorem zbr (m:List Int):(padM m).length<=m.length+72:=by
 simp [padM,putS,F1]; omega
theorem JF:∀(n:Nat) (b:List Int),(blkF n b).length<=n
 | 0,b=>by simp [blkF]
 | n+1,b=>by
  simp only [blkF];split
  ·simp only [Af]
   have:=JF n (b.drop 64);omega
  ·simp
theorem zvi (R:Type) {m:List Int} (h8:AllU8 m) (hm:m.length<=500000000) (k:List Int->Option R):F55 R m k=k (SHA m):=by
 simp only [F55,p55];have hp:=zbr m;rw [zu5 R hm,zu6 R (by omega),zu2];have ok:=Sf (padM m).length (padM m) (Al _) (zi5 h8);rw [zu3 R Zj.1 Zj.2 ok.1 (by have:=JF ((padM m).length/64+1) (padM m); unfold blkS; omega),zu4 R (No (blkS (padM m)) Zj.1 Zj.2).2];rfl
theorem GU (b:BitVec 8):u8.wrap ((b.toNat:Nat):Int)=(b.toNat:Int):=by
 have:=b.isLt;exact NE (by omega) (by omega)
theorem SB (a b:Int):ixor .u8 a b=((BitVec.ofInt 8 a^^^BitVec.ofInt 8 b).toNat:Int):=GU _
theorem Yd {x:Int} (h:U8 x):((BitVec.ofInt 8 x).toNat:Int)=x:=by
 rw [BitVec.toNat_ofInt];unfold U8 at h;have:x % ((2^8:Nat):Int)=x:=by omega
 rw [this];omega
theorem zdm (a b:Int):U8 (ixor .u8 a b):=by
 rw [SB];have:=(BitVec.ofInt 8 a^^^BitVec.ofInt 8 b).isLt;unfold U8;omega
theorem zk5 {a:Int} (h:U8 a):ixor .u8 0 a=a:=by
 rw [SB,show BitVec.ofInt 8 0=0#8 from rfl,BitVec.zero_xor,Yd h]
def xorS (h x:List Int):List Int:=List.zipWith (ixor .u8) h x
def Ks:List Int:=replicate 32 0
def GT (l:List (List Int)):List Int:=l.foldl xorS Ks
def H32 (l:List Int):Prop:=l.length=32/\AllU8 l
theorem GS:∀{n:Nat} {a:List Int},a.length=n->AllU8 a->xorS (replicate n 0) a=a
 | 0,[],_,_=>rfl
 | n+1,a::ts,hl,h=>by
  have ih:=GS (n:=n) (a:=ts) (by simpa using hl) (λx hx=>h x (Cf _ hx));simp only [xorS,List.replicate_succ,List.zipWith_cons_cons] at*;rw [ih,zk5 (h a List.mem_cons_self)]
theorem NB:∀h x:List Int,AllU8 (xorS h x)
 | [],x=>λy hy=>by simp [xorS] at hy
 | h::hs,[]=>λy hy=>by simp [xorS] at hy
 | h::hs,x::xs=>λy hy=>by
  simp only [xorS,List.zipWith_cons_cons,Cd] at hy;rcases hy with rfl | hy
  ·exact zdm _ _
  ·exact NB hs xs y hy
theorem AB {h x:List Int} (hh:H32 h) (hx:H32 x):H32 (xorS h x):=⟨by simp [xorS,hh.1,hx.1],NB h x⟩
theorem Ee:H32 Ks:=⟨by simp [Ks],λx hx=>by rw [List.eq_of_mem_replicate hx]; exact u8_0⟩
theorem NC:∀(l:List (List Int)) {h:List Int},H32 h->(∀x∈l,H32 x)->H32 (l.foldl xorS h)
 | [],h,hh,_=>hh
 | x::xs,h,hh,hl=>NC xs (AB hh (hl x List.mem_cons_self)) (λy hy=>hl y (Cf _ hy))
theorem ND {l:List (List Int)} (hl:∀x∈l,H32 x):H32 (GT l):=NC l Ee hl
theorem xor0 {x:List Int} (h:H32 x):xorS Ks x=x:=GS h.1 h.2
theorem zim (A:List Int) (h:Int) (hs:List Int) (v:Int):(A++h::hs).set A.length v=(A++[v])++hs:=by
 rw [C9 _ _ (Al _)];simp
theorem IS (A:List Int) (h:Int) (hs:List Int):(A++h::hs).getD A.length 0=h:=by
 simp
theorem JQ (R:Type) (x1:List (List Int)) (x2 x3:Int) (k0:List (List Int)->Int->Int->List Int->Option R):∀(m:Nat) (hs xs A X:List Int),hs.length=xs.length->A.length=X.length->A.length+hs.length=32->hs.length<m->
  Wl m R x1 x2 x3 (X++xs) (A.length:Int) (A++hs) k0=k0 x1 x2 x3 (A++xorS hs xs)
 | 0,_,_,_,_,_,_,_,h=>by omega
 | m+1,[],[],A,X,_,h2,h3,_=>by
  have:A.length=32:=by simpa using h3
  simp only [Wl,zbt,this];simp [xorS]
 | m+1,h::hs,x::xs,A,X,h1,h2,h3,h4=>by
  simp only [Af] at h1 h3 h4;have ih:=JQ R x1 x2 x3 k0 m hs xs (A++[ixor .u8 h x]) (X++[x]) (by omega) (by simp; omega) (by simp; omega) (by omega);simp only [Wl,zbt];have hd:decide ((A.length:Int)<32)=true:=by simp; omega
  have hbn:bnd (A.length:Int) 32=true:=by unfold bnd; simp; omega
  simp only [hd,hbn,Bv];rw [zim,IS,wrap_i64 (n:=(A.length:Int)+1) (by omega) (by omega),h2,IS];simp only [Ah,A3,A2,Ae,Af,Bz] at ih;rw [h2] at ih;simp only [Ah,A3,A2];exact ih
theorem JR (R:Type) (l:List (List Int)) (hl:∀x∈l,H32 x) (hn:l.length<=1000000000) (k0:List Int->Option R):∀(m i:Nat) (h:List Int),i<=l.length->l.length - i<m->H32 h->
  Zm m R l (l.length:Int) (i:Int) h k0=k0 ((l.drop i).foldl xorS h)
 | 0,i,_,_,h,_=>by omega
 | m+1,i,h,h1,h2,hh=>by
  simp only [Zm,zjb]
  by_cases hi:i<l.length
  ·have hd:decide ((i:Int)<(l.length:Int))=true:=by simpa using hi
   have hbn:bnd (i:Int) (l.length:Int)=true:=by unfold bnd; simp; omega
   have hx:=hl l[i] (Cw hi);have hg:List.getD l i (replicate 32 0)=l[i]:=by simp [hi]
   have ih:=JR R l hl hn k0 m (i+1) (xorS h l[i]) (by omega) (by omega) (AB hh hx);simp only [hd,hbn,Bv,hg];refine (JQ R l (l.length:Int) (i:Int) _ FUEL h l[i] [] [] (by rw [hh.1,hx.1]) rfl (by simp [hh.1]) (by rw [Dv,hh.1]; omega)).trans ?_;rw [wrap_i64 (n:=(i:Int)+1) (by omega) (by omega),Co hi];exact ih
  ·have:i=l.length:=by omega
   subst this;have hd:decide ((l.length:Int)<(l.length:Int))=false:=by simp
   simp only [hd];rw [Bg (Al _)];rfl
theorem zu8 (R:Type) {l:List (List Int)} (hl:∀x∈l,H32 x) (hn:l.length<=1000000000) (k:List Int->Option R):F79 R l k=k (GT l):=by
 simp only [F79,p79];exact JR R l hl hn (λx2=>k x2) FUEL 0 Ks (by omega) (by rw [Dv]; omega) Ee
theorem Na (x:Int):(putS x).length=8:=rfl
theorem HG {l:List Int} (h:H32 l):List.take 32 (List.drop 0 l)=l:=by
 rw [Bo,A8 (by rw [h.1]; omega)]
theorem zq8 (x:Int):List.take 8 (List.drop 0 (putS x))=putS x:=rfl
theorem YJ (R:Type) {a:List Int} (ha:H32 a) (k:List Int->Option R):F236 R a k=k (SHA a):=by
 simp only [F236,p236,HG ha];rw [GQ R (λp hp=>by simp only [Cd,C8,or_false] at hp; rw [hp]; exact ha.2) (by simp [ha.1]) (by simp)];simp
def AN (a:List Int) (e:Int) (b:List Int):List Int:=SHA (a++(putS e++b))
theorem zu7 (R:Type) {a b:List Int} (ha:H32 a) (hb:H32 b) (e:Int) (k:List Int->Option R):F80 R a e b k=k (AN a e b):=by
 simp only [F80,p80];rw [Tk];simp only [HG ha,HG hb,zq8];rw [GQ R (λp hp=>by
  simp only [Cd,C8,or_false] at hp;rcases hp with rfl | rfl | rfl
  ·exact ha.2
  ·exact Ro e
  ·exact hb.2) (by simp [ha.1,hb.1,Na]) (by simp)]
 simp [AN]
theorem Yw {l:List Int} {i:Nat} (h:i<l.length):l.drop i=l.getD i 0::l.drop (i+1):=by
 rw [Co h];simp [h]
theorem zgs (R:Type) {a:List Int} (ha:a.length=32) (k0:List Int->Option R):∀(m i:Nat) (o:List Int),i<=32->32 - i<m->o.length<=1000000+i->EF m R (i:Int) a o k0=k0 (o++a.drop i)
 | 0,i,_,_,h,_=>by omega
 | m+1,i,o,h1,h2,h3=>by
  simp only [EF,zjf]
  by_cases hi:i<32
  ·have ih:=zgs R ha k0 m (i+1) (o++[a.getD i 0]) (by omega) (by omega) (by simp; omega)
   have hd:decide ((i:Int)<32)=true:=by simp; omega
   have hbn:bnd (i:Int) 32=true:=by unfold bnd; simp; omega
   have hc:∀y:Int,decide (List.length o+List.length [y]<=140737488355328)=true:=λy=>by simp; omega
   simp only [hd,hbn,Bv,hc];rw [wrap_i64 (n:=(i:Int)+1) (by omega) (by omega),Yw (by omega)];simp only [Ah,A3,A2] at ih;exact ih
  ·have:i=32:=by omega
   subst this;rw [Bg (by omega),B0];rfl
theorem zg3 (R:Type) {a:List Int} (ha:a.length=32) (k:List Int->Option R):F53 R a k=k a:=by
 simp only [F53,p53];exact zgs R ha (λx=>k x) FUEL 0 [] (by omega) (by rw [Dv]; omega) (by simp)
theorem zgy (R:Type) {a:List Int} (ha:a.length=8) (x2 x3:List Int) (k0:List Int->List Int->List Int->Option R):∀(m i:Nat) (o:List Int),i<=8->8 - i<m->o.length<=1000000+i->EN m R (i:Int) x2 x3 o a k0=k0 x2 x3 (o++a.drop i)
 | 0,i,_,_,h,_=>by omega
 | m+1,i,o,h1,h2,h3=>by
  simp only [EN,zjk]
  by_cases hi:i<8
  ·have ih:=zgy R ha x2 x3 k0 m (i+1) (o++[a.getD i 0]) (by omega) (by omega) (by simp; omega)
   have hd:decide ((i:Int)<8)=true:=by simp; omega
   have hbn:bnd (i:Int) 8=true:=by unfold bnd; simp; omega
   have hc:∀y:Int,decide (List.length o+List.length [y]<=140737488355328)=true:=λy=>by simp; omega
   simp only [hd,hbn,Bv,hc];rw [wrap_i64 (n:=(i:Int)+1) (by omega) (by omega),Yw (by omega)];simp only [Ah,A3,A2] at ih;exact ih
  ·have:i=8:=by omega
   subst this;rw [Bg (by omega),B0];rfl
theorem AllU8.app {a b:List Int} (ha:AllU8 a) (hb:AllU8 b):AllU8 (a++b):=λx hx=>(Ai.1 hx).elim (ha x) (hb x)
theorem zvn (R:Type) {a b:List Int} (ha:H32 a) (hb:H32 b) {e:Int} (he:0<=e/\e<18446744073709551616) (k:List Int->Option R):F25 R a e b k=k (AN a e b):=by
 simp only [F25,p25];rw [zg3 R ha.1,zg2 R he];refine (zgy R (Na e) b _ _ FUEL 0 a (by omega) (by rw [Dv]; omega) (by rw [ha.1]; omega)).trans ?_;simp only [Bo];rw [zg3 R hb.1];have hc:decide (List.length (a++putS e)+List.length b<=140737488355328)=true:=by simp [ha.1,hb.1,Na]
 simp only [hc];rw [zvi R ((ha.2.app (Ro e)).app hb.2) (by simp [ha.1,hb.1,Na])];rw [Ah];rfl
theorem zlf {x:List Int} (h:Fit (.arr 32 (.int .u8)) x):H32 x:=⟨h.1,λy hy=>by have:=zt2 (h.2 y hy); unfold U8; omega⟩
theorem LC {st l:List Int} (hl:H32 l) {i:Nat} (hi:i<8):H32 (Jd st l i):=by
 refine ⟨by unfold Jd; rw [RW (by simp [Fg,hl.1]; omega)]; exact hl.1,?_⟩;unfold Jd lay;refine AllU8.app (AllU8.app (λx hx=>hl.2 x (List.mem_of_mem_take hx)) ?_) (λx hx=>hl.2 x (List.mem_of_mem_drop hx));intro y hy;simp only [Fg,Cd,C8,or_false] at hy;unfold U8;omega
theorem T8 (st:List Int):∀(is:List Nat) {l:List Int},(∀i∈is,i<8)->H32 l->H32 (is.foldl (Jd st) l)
 | [],_,_,hl=>hl
 | i::is,_,h,hl=>T8 st is (λj hj=>h j (Cf _ hj)) (LC hl (h i List.mem_cons_self))
theorem VG (m:List Int):H32 (SHA m):=by
 unfold SHA zds;refine T8 _ _ (λi hi=>?_) Ee;rw [List.mem_range'] at hi;obtain ⟨j,hj,rfl⟩:=hi;omega
def Qb (a:List Int) (d i:Int):List Int:=SHA (a++(putS d++putS i))
theorem UK (a:List Int) (d i:Int):H32 (Qb a d i):=VG _
theorem zop (R:Type) {a:List Int} (ha:H32 a) (d i:Int) (k:List Int->Option R):F335 R a d i k=k (Qb a d i):=by
 simp only [F335,p335];rw [Tk,Tk];simp only [HG ha,zq8];rw [GQ R (λp hp=>by
  simp only [Cd,C8,or_false] at hp;rcases hp with rfl | rfl | rfl
  ·exact ha.2
  ·exact Ro d
  ·exact Ro i) (by simp [ha.1,Na]) (by simp)]
 simp [Qb]
def U64 (x:Int):Prop:=0<=x/\x<18446744073709551616
theorem W6 (b:BitVec 64):u64.wrap ((b.toNat:Nat):Int)=(b.toNat:Int):=by
 have:=b.isLt;exact Dt (by omega) (by omega)
theorem zdr (a b:Int):iand .u64 a b=((BitVec.ofInt 64 a&&& BitVec.ofInt 64 b).toNat:Int):=W6 _
theorem DG (a b:Int):ior .u64 a b=((BitVec.ofInt 64 a||| BitVec.ofInt 64 b).toNat:Int):=W6 _
theorem SK {x:Int} (hx:U64 x) (n:Nat) (hn:n<64):iand .u64 x ((2^n - 1:Nat):Int)=x % 2^n:=by
 unfold U64 at hx;obtain ⟨y,rfl⟩:∃y:Nat,x=y:=⟨x.toNat,by omega⟩
 have h1:(2:Nat)^n<2^64:=Nat.pow_lt_pow_right (by omega) hn;have h0:0<(2:Nat)^n:=Nat.pow_pos (by omega);rw [zdr,Cy,Cy,BitVec.toNat_and,C0,C0,B7 (by omega),B7 (by omega),Nat.and_two_pow_sub_one_eq_mod];simp
def bitS (a:List Int) (d n:Int):Int:=(Qb a d (n/256)).getD (n % 256/8).toNat 0/2^(7 - n % 8).toNat % 2
abbrev Cm:=Int×(List Int×(Bool×(List Int×Unit)))
abbrev zC:Cm:=((0:Int),(replicate 32 (0:Int)),false,(replicate 32 (0:Int)),())
def I64 (x:Int):Prop:= -9223372036854775808<=x/\x<9223372036854775808
structure CmOK (c:Cm):Prop where
 who:I64 c.1
 hash:H32 c.2.1
 value:H32 c.2.2.2.1
def CsOK (l:List Cm):Prop:=∀c∈l,CmOK c
theorem zwb:CmOK zC:=⟨by show I64 0; unfold I64; omega,Ee,Ee⟩
theorem CsOK.get {l:List Cm} (h:CsOK l) (i:Nat):CmOK (l.getD i zC):=by
 rw [Br];cases hi:l[i]? with
 | none=>exact zwb
 | some c=>exact h c (Ar hi)
theorem IX:∀{a b:List Int},a.length=b.length->eqvL (Kd.eqv (.int .u8)) a b=decide (a=b)
 | [],[],_=>rfl
 | x::xs,y::ys,h=>by
  simp only [eqvL,IX (a:=xs) (b:=ys) (by simpa using h)]
  by_cases e:x=y
  ·subst e; simp [Kd.eqv]
  ·simp [Kd.eqv,e]
theorem Is {a b:List Int} (ha:a.length=32) (hb:b.length=32):Kd.eqv (.arr 32 (.int .u8)) a b=decide (a=b):=IX (by rw [ha,hb])
def Je (f:Nat->Bool):Nat->Nat->Bool
 | 0,_=>true
 | d+1,i=>f i&&Je f d (i+1)
theorem Iv {f:Nat->Bool}:∀{d i:Nat},Je f d i=true↔∀j,i<=j->j<i+d->f j=true
 | 0,i=>⟨λ_ j h1 h2=>by omega,λ_=>rfl⟩
 | d+1,i=>by
  simp only [Je,Ab,Iv (d:=d)];constructor
  ·rintro ⟨h1,h2⟩ j h3 h4
   by_cases e:j=i
   ·subst e; exact h1
   ·exact h2 j (by omega) (by omega)
  ·intro h
   exact ⟨h i (by omega) (by omega),λj h1 h2=>h j (by omega) (by omega)⟩
def T1 (c:Cm):Bool:=decide (0<=c.1)&&match c.2.2.1 with
 | true=>decide (SHA c.2.2.2.1=c.2.1)
 | false=>decide (c.2.2.2.1=Ks)
def G5 (l:List Cm) (i:Nat):Bool:=T1 (l.getD i zC)&&(Nat.beq i 0||decide ((l.getD (i - 1) zC).1<(l.getD i zC).1))
def Ma (l:List Cm):Bool:=Je (G5 l) l.length 0
theorem NU (x:List Int):(SHA x).length=32:=by
 exact (VG x).1
theorem zph (R:Type) {c:Cm} (h:CmOK c) (k:Bool->Option R):F265 R c k=k (T1 c):=by
 obtain ⟨a1,a2,a3,a4,⟨⟩⟩:=c;simp only [F265,p265,T1];have hv:H32 a4:=h.value;have hh:H32 a2:=h.hash
 by_cases h0:(0:Int)<=a1
 ·have hd:decide (a1>=(0:Int))=true:=C1 h0
  have hd':decide ((0:Int)<=a1)=true:=C1 h0;simp only [hd,hd',C7];cases a3 with
  | true=>
   simp only;rw [YJ R hv,Is (NU _) hh.1]
  | false=>
   simp only;rw [show replicate 32 (0:Int)=Ks from rfl,Is hv.1 Ee.1]
 ·have hd:decide (a1>=(0:Int))=false:=C5 h0
  have hd':decide ((0:Int)<=a1)=false:=C5 h0;simp only [hd,hd',Dd];cases a3<;>rfl
theorem VT (R:Type) {l:List Cm} (h:CsOK l) (hn:l.length<=1000) (k0:Bool->Option R) (k1:Option R):∀(m i:Nat),i<=l.length->l.length - i<m->
  S9 m R l l (l.length:Int) (i:Int) k0 k1=match Je (G5 l) (l.length - i) i with | true=>k1 | false=>k0 false
 | 0,i,_,h=>by omega
 | m+1,i,h1,h2=>by
  simp only [S9,PR]
  by_cases hi:i<l.length
  ·have hd:decide ((i:Int)<(l.length:Int))=true:=by simpa using hi
   have hbn:bnd (i:Int) (l.length:Int)=true:=by unfold bnd; simp; omega
   have ih:=VT R h hn k0 k1 m (i+1) (by omega) (by omega);have hw:i64.wrap ((i:Int)+1)=((i+1:Nat):Int):=by rw [wrap_i64 (by omega) (by omega)]; omega
   simp only [hd,hbn,Bv];rw [zph R (h.get i),hw,show l.length - i=(l.length - (i+1))+1 by omega];simp only [Je];cases hr:T1 (l.getD i zC) with
   | false=>
    have e2:G5 l i=false:=by simp only [G5,hr,Dd]
    simp only [e2,Dd,De]
   | true=>
    simp only [Db]
    by_cases h0:i=0
    ·subst h0
     have e1:decide (((0:Nat):Int)>0)=false:=by simp
     have e2:G5 l 0=true:=by simp [G5]; exact hr
     simp only [e1,e2,C7];exact ih
    ·have e1:decide ((i:Int)>0)=true:=C1 (by omega)
     have e3:i64.wrap ((i:Int) - 1)=((i - 1:Nat):Int):=by rw [wrap_i64 (by omega) (by omega)]; omega
     have e4:bnd ((i - 1:Nat):Int) (l.length:Int)=true:=by unfold bnd; simp; omega
     have e5:Nat.beq i 0=false:=by
      cases hb:Nat.beq i 0 with
      | false=>rfl
      | true=>exact absurd (Aa hb) h0
     simp only [e1,e3,e4,Bv]
     by_cases hlt:(l.getD (i - 1) zC).1<(l.getD i zC).1
     ·have e6:decide ((l.getD (i - 1) zC).1>=(l.getD i zC).1)=false:=C5 (by omega)
      have e2:G5 l i=true:=by simp only [G5,hr,e5,C1 hlt,Bool.or_true,Bool.and_self]
      simp only [e6,e2,C7];exact ih
     ·have e6:decide ((l.getD (i - 1) zC).1>=(l.getD i zC).1)=true:=C1 (by omega)
      have e2:G5 l i=false:=by simp only [G5,hr,e5,C5 hlt,Bool.or_self,Bool.and_false]
      simp only [e6,e2,Dd]
  ·have:i=l.length:=by omega
   subst this;have hd:decide ((l.length:Int)<(l.length:Int))=false:=by simp
   simp only [hd,Da,Je]
theorem GL (R:Type) {l:List Cm} (h:CsOK l) (hn:l.length<=1000) (k:Bool->Option R):F231 R l k=k (Ma l):=by
 simp only [F231,p231];refine (VT R h hn (λx2=>k x2) (k true) FUEL 0 (by omega) (by rw [Dv]; omega)).trans ?_;unfold Ma;rw [Nat.sub_zero];cases Je (G5 l) l.length 0<;>rfl
theorem Fx {i n:Nat} (h:i<n) (hn:n<=1000):i64.wrap ((i:Int)+1)=((i+1:Nat):Int):=by rw [wrap_i64 (by omega) (by omega)]; omega
theorem E1 {i n:Nat} (h:i<n):bnd (i:Int) (n:Int)=true:=by unfold bnd; simp; omega
theorem Iq {i n:Nat} (h:i<n):decide ((i:Int)<(n:Int))=true:=by simpa using h
theorem Hs (n:Nat):decide ((n:Int)<(n:Int))=false:=by simp
structure JJ (l:List Cm):Prop where
 each:∀c∈l,T1 c=true
 ord:∀i j,i<j->j<l.length->(l.getD i zC).1<(l.getD j zC).1
theorem zdv {l:List Cm} {i:Nat} (h:i<l.length):l.getD i zC∈l:=by
 rw [Br,Bs h]; exact Cw h
theorem zb9 {l:List Cm} {c:Cm} (h:c∈l):∃i,i<l.length/\l.getD i zC=c:=by
 obtain ⟨i,hi,e⟩:=Cq h;exact ⟨i,hi,by rw [Br,Bs hi]; exact e⟩
theorem T0 {l:List Cm}:Ma l=true↔JJ l:=by
 unfold Ma;rw [Iv];constructor
 ·intro h
  have hat:∀i,i<l.length->T1 (l.getD i zC)=true/\(i=0\/(l.getD (i - 1) zC).1<(l.getD i zC).1):=by
   intro i hi;have:=h i (by omega) (by omega);simp only [G5,Ab,Bool.or_eq_true,Df] at this;refine ⟨this.1,?_⟩;rcases this.2 with h1 | h1
   ·exact .inl (Aa h1)
   ·exact .inr h1
  refine ⟨λc hc=>?_,λi j hij hj=>?_⟩
  ·obtain ⟨i,hi,rfl⟩:=zb9 hc
   exact (hat i hi).1
  ·induction j with
   | zero=>omega
   | succ j ih=>
    have h1:=(hat (j+1) hj).2;rcases h1 with h1 | h1
    ·omega
    ·rw [Ch] at h1
     by_cases e:i=j
     ·subst e; exact h1
     ·have:=ih (by omega) (by omega)
      omega
 ·intro h j _ hj
  simp only [G5,Ab,Bool.or_eq_true,Df];refine ⟨h.each _ (zdv (by omega)),?_⟩
  by_cases e:j=0
  ·subst e; exact .inl rfl
  ·exact .inr (h.ord _ _ (by omega) (by omega))
def Fh:List Cm->Int->Nat
 | [],_=>0
 | c::l,w=>if c.1<w then Fh l w+1 else 0
theorem Rq:∀(l:List Cm) (w:Int),Fh l w<=l.length
 | [],_=>Al _
 | c::l,w=>by
  have:=Rq l w;simp only [Fh,Af];split<;>omega
theorem OS:∀(l:List Cm) (w:Int) (i:Nat),i<Fh l w->(l.getD i zC).1<w
 | [],_,i,h=>by simp [Fh] at h
 | c::l,w,i,h=>by
  simp only [Fh] at h;split at h
  ·rename_i hc
   cases i with
   | zero=>simpa using hc
   | succ i=>have:=OS l w i (by omega); simpa using this
  ·omega
theorem OU:∀(l:List Cm) (w:Int),Fh l w<l.length->w<=(l.getD (Fh l w) zC).1
 | [],_,h=>by simp [Fh] at h
 | c::l,w,h=>by
  simp only [Fh] at h ⊢;split
  ·rename_i hc
   rw [Aj hc] at h;have:=OU l w (by simpa using h);simpa using this
  ·rename_i hc; simp; omega
theorem OT {l:List Cm} (h:JJ l) (w:Int) {i:Nat} (h1:Fh l w<=i) (h2:i<l.length):w<=(l.getD i zC).1:=by
 have:=OU l w (by omega)
 by_cases e:i=Fh l w
 ·rw [e]; exact this
 ·have:=h.ord (Fh l w) i (by omega) h2
  omega
def Rb (l:List Cm) (w:Int):Bool:=decide (Fh l w<l.length)&&decide ((l.getD (Fh l w) zC).1=w)
theorem JY (R:Type) (a b:Int) (k:Int->Option R):F268 R a b k=k (if a<b then -1 else if a>b then 1 else 0):=by
 simp only [F268,p268,F287,p287,bne_self_eq_false]
 by_cases h:a<b
 ·simp only [C1 h,Aj h]
 ·simp only [C5 h,Ak h]
  by_cases h2:a>b
  ·simp only [C1 h2,Aj h2]
  ·simp only [C5 h2,Ak h2]
theorem zdt {i j:Nat} (hi:i<=1000) (hj:j<=1000):i64.wrap (ishr .u64 (u64.wrap (i64.wrap ((i:Int)+(j:Int)))) 1)=(((i+j)/2:Nat):Int):=by
 rw [wrap_i64 (n:=(i:Int)+(j:Int)) (by omega) (by omega),Dt (by omega) (by omega)];have:=zil (x:=(i:Int)+(j:Int)) 1 (by omega);rw [show ishr .u64 ((i:Int)+(j:Int)) 1=((i:Int)+(j:Int))/2^1 from this,wrap_i64 (by omega) (by omega)];omega
theorem Py (R:Type) {l:List Cm} (h:JJ l) (hn:l.length<=1000) (w:Int) (k0:List Cm->Int->Int->Int->Option R):∀(m i j:Nat),i<=Fh l w->Fh l w<=j->j<=l.length->j - i<m->
  Ei m R l w (l.length:Int) (i:Int) (j:Int) k0=k0 l w (l.length:Int) (Fh l w:Int)
 | 0,i,j,_,_,_,h=>by omega
 | m+1,i,j,h1,h2,h3,h4=>by
  simp only [Ei,Nf]
  by_cases hij:i<j
  ·have e1:=zdt (i:=i) (j:=j) (by omega) (by omega)
   have hq:(i+j)/2<l.length:=by omega
   simp only [Iq hij,e1,E1 hq,Bv,F267,p267];rw [JY]
   by_cases hp:(i+j)/2<Fh l w
   ·have hlt:=OS l w _ hp
    simp only [Aj hlt,show decide ((-1:Int)<0)=true from rfl];rw [Fx (n:=l.length) hq hn];exact Py R h hn w k0 m ((i+j)/2+1) j (by omega) h2 h3 (by omega)
   ·have hge:=OT h w (i:=(i+j)/2) (by omega) hq
    have hd:∀z:Int,0<=z->decide (z<0)=false:=λz hz=>C5 (by omega)
    rw [hd _ (by rw [Ak (Int.not_lt.2 hge)]; split<;>omega)];exact Py R h hn w k0 m i ((i+j)/2) h1 (by omega) (by omega) (by omega)
  ·have e1:decide ((i:Int)<(j:Int))=false:=C5 (by omega)
   simp only [e1];rw [show i=Fh l w by omega]
theorem YM (R:Type) {l:List Cm} (h:JJ l) (hn:l.length<=1000) (w:Int) (k:Int->Bool->Option R):F232 R l w k=k (Fh l w:Int) (Rb l w):=by
 simp only [F232,p232,Ha,AZ];refine (Py R h hn w _ FUEL 0 l.length (by omega) (Rq l w) (Al _) (by rw [Dv]; omega)).trans ?_;have hp:=Rq l w;unfold Rb
 by_cases hlt:Fh l w<l.length
 ·simp only [Iq hlt,E1 hlt,Bv,F267,p267,C1 hlt,C7]
  rw [JY];have hge:=OT h w (Al _) hlt
  by_cases e:(l.getD (Fh l w) zC).1=w
  ·rw [Ak (Int.not_lt.2 hge),Ak (show ¬(l.getD (Fh l w) zC).1>w by omega),C1 e]; rfl
  ·rw [Ak (Int.not_lt.2 hge),Aj (show (l.getD (Fh l w) zC).1>w by omega),C5 e]; rfl
 ·have e1:decide ((Fh l w:Int)<(l.length:Int))=false:=C5 (by omega)
  simp only [e1,C5 hlt,Dd]
theorem YL (R:Type) {l:List Cm} (hn:l.length<=1000) (k:List Cm->Option R):F234 R l k=k l:=by
 have:decide (List.length ([]:List Cm)+l.length<=1759218604441)=true:=C1 (by simp; omega);simp only [F234,this]
def newC (w:Int) (h:List Int):Cm:=(w,h,false,Ks,())
def putL (l:List Cm) (w:Int) (h:List Int):List Cm:=l.take (Fh l w)++[newC w h]++l.drop (Fh l w)
def Rp (l:List Cm) (w:Int) (h:List Int):List Cm×Int:=
 if w<0\/Ma l=false then ([],1) else if Rb l w then ([],6) else (putL l w h,0)
theorem zp1 (R:Type) {l:List Cm} (h:CsOK l) (hn:l.length<=500) (w:Int) (x:List Int) (k:List Cm->Int->Option R):F183 R l w x k=k (Rp l w x).1 (Rp l w x).2:=by
 simp only [F183,p183,Rp]
 by_cases hw:w<0
 ·simp only [C1 hw,Aj (Or.inl hw)]
 ·simp only [C5 hw]
  rw [GL R h (by omega)];cases hr:Ma l with
  | false=>simp only [De,or_true,Ca]
  | true=>
   have hn1:¬(w<0\/true=false):=by simp; omega
   simp only [Db,Ak hn1];rw [YM R (T0.1 hr) (by omega)];cases ht:Rb l w with
   | true=>simp only [Ca]
   | false=>
    have hp:=Rq l w;have hc:decide ((0:Int)<=(Fh l w:Int)/\(Fh l w:Int)<=(l.length:Int)/\l.length+1<=1759218604441)=true:=C1 ⟨by omega,by omega,by omega⟩;simp only [Bx,By];rw [YL R (by omega)];simp only [Af,Bz,Bf,hc,Bv];rfl
def setL (l:List Cm) (i:Nat) (v:List Int):List Cm:=l.set i ((l.getD i zC).1,(l.getD i zC).2.1,true,v,())
def revS (l:List Cm) (w:Int) (v:List Int):List Cm×Int:=
 if Ma l=false then ([],1) else if Rb l w=false then ([],5) else if (l.getD (Fh l w) zC).2.2.1 then ([],6)
 else if SHA v=(l.getD (Fh l w) zC).2.1 then (setL l (Fh l w) v,0) else ([],13)
theorem zbd {l:List Cm} {i:Nat} (hi:i<l.length) (v:List Int):
  List.set (List.set l i ((List.getD l i zC).1,(List.getD l i zC).2.1,true,(List.getD l i zC).2.2.2)) i
   ((List.getD (List.set l i ((List.getD l i zC).1,(List.getD l i zC).2.1,true,(List.getD l i zC).2.2.2)) i zC).1,(List.getD (List.set l i ((List.getD l i zC).1,(List.getD l i zC).2.1,true,(List.getD l i zC).2.2.2)) i zC).2.1,(List.getD (List.set l i ((List.getD l i zC).1,(List.getD l i zC).2.1,true,(List.getD l i zC).2.2.2)) i zC).2.2.1,v,(List.getD (List.set l i ((List.getD l i zC).1,(List.getD l i zC).2.1,true,(List.getD l i zC).2.2.2)) i zC).2.2.2.2)=setL l i v:=by
 have e:List.getD (List.set l i ((List.getD l i zC).1,(List.getD l i zC).2.1,true,(List.getD l i zC).2.2.2)) i zC=((List.getD l i zC).1,(List.getD l i zC).2.1,true,(List.getD l i zC).2.2.2):=by
  rw [Br,List.getElem?_set_self hi]; rfl
 rw [e,List.set_set];rfl
theorem zp0 (R:Type) {l:List Cm} (h:CsOK l) (hn:l.length<=500) (w:Int) {v:List Int} (hv:H32 v) (k:List Cm->Int->Option R):F185 R l w v k=k (revS l w v).1 (revS l w v).2:=by
 simp only [F185,p185,revS];rw [GL R h (by omega)];cases hr:Ma l with
 | false=>simp only [De,Aj]
 | true=>
  simp only [Db,Dg,By];rw [YM R (T0.1 hr) (by omega)];cases ht:Rb l w with
  | false=>simp only [De,Aj]
  | true=>
   have hp:Fh l w<l.length:=by
    unfold Rb at ht;rw [Ab] at ht;exact Bw ht.1
   simp only [Db,Dg,By,E1 hp,Bv];cases hd:(l.getD (Fh l w) zC).2.2.1 with
   | true=>simp only [Aj]
   | false=>
    simp only [Bx,By];rw [YJ R hv,Is (NU v) (h.get _).hash.1]
    by_cases hs:SHA v=(l.getD (Fh l w) zC).2.1
    ·simp only [C1 hs,Db,Aj hs]
     rw [YL R (by omega)];have hq:Fh l w<(List.set l (Fh l w) ((List.getD l (Fh l w) zC).1,(List.getD l (Fh l w) zC).2.1,true,(List.getD l (Fh l w) zC).2.2.2)).length:=by rw [Dc]; exact hp
     simp only [E1 hp,E1 hq,zbd hp]
    ·simp only [C5 hs,De,Ak hs]
def AI (l:List Cm):List (List Int):=(l.filter (λc=>c.2.2.1)).map (λc=>c.2.2.2.1)
def mixS (l:List Cm):List Int:=GT (AI l)
def Kn (l:List Cm):List Int:=(l.filter (λc=> !c.2.2.1)).map (λc=>c.1)
theorem za5 {l:List Cm} (h:CsOK l):∀x∈AI l,H32 x:=by
 intro x hx;obtain ⟨c,hc,rfl⟩:=List.mem_map.1 hx;exact (h c (List.mem_filter.1 hc).1).value
theorem QP {l:List Cm} (h:CsOK l):H32 (mixS l):=ND (za5 h)
theorem KJ (c:Cm) (l:List Cm):AI (c::l)=match c.2.2.1 with | true=>c.2.2.2.1::AI l | false=>AI l:=by
 unfold AI;rw [List.filter_cons];cases c.2.2.1<;>rfl
theorem KZ (c:Cm) (l:List Cm):Kn (c::l)=match c.2.2.1 with | true=>Kn l | false=>c.1::Kn l:=by
 unfold Kn;rw [List.filter_cons];cases c.2.2.1<;>rfl
theorem EP (R:Type) {l:List Cm} (h:CsOK l) (hn:l.length<=1000) (k0:List Int->Option R):∀(m i:Nat) (x:List Int),H32 x->i<=l.length->l.length - i<m->
  S8 m R l (l.length:Int) (i:Int) x k0=k0 ((AI (l.drop i)).foldl xorS x)
 | 0,i,_,_,_,h=>by omega
 | m+1,i,x,hx,h1,h2=>by
  simp only [S8,PQ]
  by_cases hi:i<l.length
  ·have g1:l.getD i zC=l[i]:=by simp [hi]
   have hc:=h.get i;rw [g1] at hc;simp only [Iq hi,E1 hi,Bv,Fx hi hn];rw [show List.getD l i ((0:Int),(replicate 32 (0:Int)),false,(replicate 32 (0:Int)),())=l[i] from g1];rw [Co hi,KJ];cases hb:l[i].2.2.1 with
   | true=>
    simp only;rw [zu8 R (λy hy=>by
     simp only [Cd,C8,or_false] at hy;rcases hy with rfl | rfl
     ·exact hx
     ·exact hc.value) (by simp)]
    have e:GT [x,l[i].2.2.2.1]=xorS x l[i].2.2.2.1:=by
     show xorS (xorS Ks x) _=_;rw [xor0 hx]
    rw [e];exact EP R h hn k0 m (i+1) _ (AB hx hc.value) (by omega) (by omega)
   | false=>exact EP R h hn k0 m (i+1) _ hx (by omega) (by omega)
  ·have:i=l.length:=by omega
   subst this;simp only [Hs,Cu];rfl
theorem YK (R:Type) {l:List Cm} (h:CsOK l) (hn:l.length<=1000) (k:List Int->Option R):F235 R l k=k (mixS l):=by
 simp only [F235,p235];exact EP R h hn (λx2=>k x2) FUEL 0 Ks Ee (by omega) (by rw [Dv]; omega)
theorem KY {l:List Cm} {i:Nat} (hi:i<l.length):Kn (l.take (i+1))=Kn (l.take i)++Kn [l[i]]:=by
 unfold Kn;rw [Cx hi,Dh,Bm]
theorem IK (l:List Cm):(Kn l).length<=l.length:=by
 unfold Kn;rw [C6];exact List.length_filter_le _ _
theorem JS (R:Type) {l:List Cm} (hn:l.length<=1000) (k0:List Int->Option R):∀(m i:Nat),i<=l.length->l.length - i<m->
  Sz m R l (l.length:Int) (i:Int) (Kn (l.take i)) k0=k0 (Kn l)
 | 0,i,_,h=>by omega
 | m+1,i,h1,h2=>by
  simp only [Sz,PI]
  by_cases hi:i<l.length
  ·have g1:l.getD i zC=l[i]:=by simp [hi]
   have ih:=JS R hn k0 m (i+1) (by omega) (by omega);simp only [Iq hi,E1 hi,Bv,Fx hi hn];rw [show List.getD l i ((0:Int),(replicate 32 (0:Int)),false,(replicate 32 (0:Int)),())=l[i] from g1];rw [KY hi,KZ] at ih;have hle:=IK (l.take i);have hc:decide ((Kn (l.take i)).length+1<=17592186044416)=true:=C1 (by simp at hle; omega);have e:Kn ([]:List Cm)=[]:=rfl;cases hb:l[i].2.2.1 with
   | true=>
    rw [hb] at ih;simp only [e,B0] at ih;exact ih
   | false=>
    rw [hb] at ih;simp only [Af,Bz,Bf,De,hc];exact ih
  ·have:i=l.length:=by omega
   subst this;simp only [Hs,Bl]
theorem zfl (R:Type) {l:List Cm} (hn:l.length<=1000) (k:List Int->Option R):F271 R l k=k (Kn l):=by
 simp only [F271,p271];exact JS R hn (λx2=>k x2) FUEL 0 (by omega) (by rw [Dv]; omega)
theorem zg0 (R:Type) {a b:List Int} (hl:a.length=b.length) (hn:a.length<=1000) (k0:Bool->Option R) (k1:Option R):∀(m i:Nat),i<=a.length->a.length - i<m->
  ET m R a b (i:Int) k0 k1=if a.drop i=b.drop i then k1 else k0 false
 | 0,i,_,h=>by omega
 | m+1,i,h1,h2=>by
  simp only [ET,zjn]
  by_cases hi:i<a.length
  ·have hib:i<b.length:=by omega
   have ih:=zg0 R hl hn k0 k1 m (i+1) (by omega) (by omega);simp only [Iq hi,E1 hi,E1 hib,Bv,Fx hi hn];rw [ih,Co hi,Co hib];have g1:a.getD i 0=a[i]:=by simp [hi]
   have g2:b.getD i 0=b[i]:=by simp [hib]
   rw [g1,g2]
   by_cases e:a[i]=b[i]
   ·have:(a[i] !=b[i])=false:=by simp [e]
    simp only [this];simp only [e,List.cons.injEq,true_and]
   ·have:(a[i] !=b[i])=true:=by simp [e]
    simp only [this];simp only [List.cons.injEq,e,false_and,By]
  ·have:i=a.length:=by omega
   subst this;simp only [Hs];rw [Cu,hl,Cu,Aj rfl]
theorem zp2 (R:Type) {a b:List Int} (hn:a.length<=1000) (k:Bool->Option R):F17 R a b k=k (decide (a=b)):=by
 simp only [F17,p17]
 by_cases hl:a.length=b.length
 ·have e:((a.length:Int) !=(b.length:Int))=false:=by simp [hl]
  simp only [e];refine (zg0 R hl hn (λx4=>k x4) (k true) FUEL 0 (by omega) (by rw [Dv]; omega)).trans ?_;rw [Bo,Bo]
  by_cases h:a=b
  ·rw [Aj h,C1 h]
  ·rw [Ak h,C5 h]
 ·have e:((a.length:Int) !=(b.length:Int))=true:=by simp; omega
  have h:a≠b:=λh=>hl (by rw [h])
  simp only [e,C5 h]
end Go.PG
end
