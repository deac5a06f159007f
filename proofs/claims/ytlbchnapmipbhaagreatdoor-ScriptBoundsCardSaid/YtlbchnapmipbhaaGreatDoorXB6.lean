/- A part of the proof over this seat (own work; the framework that reads a Go function as a pure one, or a use of it). No condition of its own. -/
import Derived.Test.YtlbchnapmipbhaaGreatDoorXB5
import Derived.Test.YtlbchnapmipbhaaGreatDoorProg
import Derived.KernelRfl
set_option linter.unusedVariables false
set_option linter.unusedSimpArgs false
set_option linter.unusedSectionVars false
noncomputable section
set_option maxRecDepth 100000
namespace Go.PG
open Go.Proofs
abbrev zne:=(R:Type)→(LI×Unit)→Int→(Int→Int→Option R)→Option R
def en309 (F:zne):Ent:=eV 309 [(.pair (.sl (.int .u64)) .unit),(.int .u64)] [(.int .i64),(.int .i64)] F
abbrev zp1 (Z:Type):=Int→Int→Int→(LI×Unit)→Z
abbrev zzt (R:Type):=(Int→Int→Int→(LI×Unit)→Option R)→Option R
abbrev I4:=(R:Type)→zp1 (zzt R)
def Yb (L:I4):LEnt:=lM 4 [.val 1 (.int .u64),.fix 2 (.ptr 0 [] (.pair (.sl (.int .u64)) .unit)),.val 6 (.int .i64),.val 7 (.int .i64),.var 0 (.pair (.sl (.int .u64)) .unit) false] 1 [(.exit 0,[.val 1 (.int .u64),.fix 2 (.ptr 0 [] (.pair (.sl (.int .u64)) .unit)),.val 6 (.int .i64),.val 7 (.int .i64),.var 0 (.pair (.sl (.int .u64)) .unit) false])] L
abbrev zp0 (Z:Type):=Int→Int→Int→(LI×Unit)→Z
abbrev zzs (R:Type):=(Int→Option R)→Option R
abbrev I3:=(R:Type)→zp0 (zzs R)
def Ya (L:I3):LEnt:=lM 6 [.val 1 (.int .u64),.fix 2 (.ptr 0 [] (.pair (.sl (.int .u64)) .unit)),.val 6 (.int .i64),.val 7 (.int .i64),.var 0 (.pair (.sl (.int .u64)) .unit) false] 1 [(.exit 2,[.val 6 (.int .i64)])] L
def e309 (F308:Ke) (F325:Md) (L4:I4) (L6:I3):=sE 0 51 [] [zkc F308,zkb F325] [Yb L4,Ya L6]
def zhh (F325:Md) (R:Type):zp1 (zp1 (Option R)→zzt R):=fun x1 x2 x3 x4 kc k0=>
let v5:=ishl .i64 x3 (1:Int);F325 R x4 fun y6=>
let v7:=decide (v5≤y6);(match v7 with
|true=>let v8:=ishl .i64 x3 (1:Int);kc x1 x2 v8 x4
|false=>k0 x1 x2 x3 x4)
theorem q309_4 (F308:Ke) (F325:Md) (L4:I4) (L6:I3):LEQ (Yb L4) (e309 F308 F325 L4 L6) Tryz.f309 (zhh F325):=fun _ _ _ _=>by kernel_rfl
def Mv:Nat→I4
 | 0=>fun _ _ _ _ _ _=>none
 | n+1=>fun R x1 x2 x3 x4 k0=>zhh F325 R x1 x2 x3 x4 (fun x1 x2 x3 x4=>Mv n R x1 x2 x3 x4 k0) k0
def zch (F325:Md) (R:Type):zp0 (zp0 (Option R)→zzs R):=fun x1 x2 x3 x4 kc k0=>
let v5:=decide (x3>0);(match v5 with
|true=>let v6:=IntKind.i64.wrap (x2+x3);F325 R x4 fun y7=>
let v8:=decide (v6≤y7);(match v8 with
|true=>let v9:=IntKind.i64.wrap (v6 - 1);(match bnd v9 x4.1.length with
|true=>let v10:=x4.1.getD v9.toNat 0;let v11:=decide (v10≤x1);(match v11 with
|true=>let v12:=IntKind.i64.wrap (v6 - 1);(match bnd v12 x4.1.length with
|true=>let v13:=x4.1.getD v12.toNat 0;let v14:=IntKind.u64.wrap (x1 - v13);let v15:=ishr .i64 x3 (1:Int);kc v14 v6 v15 x4
|false=>none)
|false=>let v16:=ishr .i64 x3 (1:Int);kc x1 x2 v16 x4)
|false=>none)
|false=>let v17:=ishr .i64 x3 (1:Int);kc x1 x2 v17 x4)
|false=>k0 x2)
theorem q309_6 (F308:Ke) (F325:Md) (L4:I4) (L6:I3):LEQ (Ya L6) (e309 F308 F325 L4 L6) Tryz.f309 (zch F325):=fun _ _ _ _=>by kernel_rfl
def Hv:Nat→I3
 | 0=>fun _ _ _ _ _ _=>none
 | n+1=>fun R x1 x2 x3 x4 k0=>zch F325 R x1 x2 x3 x4 (fun x1 x2 x3 x4=>Hv n R x1 x2 x3 x4 k0) k0
def p309 (F308:Ke) (L4:I4) (L6:I3):zne:=fun R a0 a1 k=>
F308 R a0 fun y1=>
let v2:=decide (a1≥y1);(match v2 with
|true=>k (0:Int) (3:Int)
|false=>L4 R a1 (0:Int) (1:Int) a0 (fun x3 x4 x5 x6=>
L6 R x3 x4 x5 x6 (fun x7=>
k x7 (0:Int))))
theorem q309 (F308:Ke) (F325:Md) (L4:I4) (L6:I3):EQ (en309 (p309 F308 L4 L6)) (e309 F308 F325 L4 L6) Tryz.f309 [(.tmp 4,3,false),(.tmp 5,40,false)]:=fun _ _ _=>by kernel_rfl
def F309:zne:=p309 F308 (Mv FUEL) (Hv FUEL)
theorem zte:LKP (Yb (Mv FUEL)) 0 51 4 Tryz.f309:=ST.lok (q309_4 F308 F325 (Mv FUEL) (Hv FUEL)) (Aa zeg (Aa zic Ab)) [] trivial
theorem ztd:LKP (Ya (Hv FUEL)) 0 51 6 Tryz.f309:=ST.lok (q309_6 F308 F325 (Mv FUEL) (Hv FUEL)) (Aa zeg (Aa zic Ab)) [] trivial
theorem ok309:OKP (en309 F309):=ST.ok1 (q309 F308 F325 (Mv FUEL) (Hv FUEL)) (Aa zeg (Aa zic Ab)) Tryz.func309 [4,6] ⟨⟨_,rfl,zte⟩,⟨⟨_,rfl,ztd⟩,trivial⟩⟩
abbrev Sy:=(R:Type)→(LI×Unit)→Tq40→Int→(Int→Tq40→Int→Option R)→Option R
def zvd (F:Sy):Ent:=eV 291 [(.pair (.sl (.int .u64)) .unit),Kq40,(.int .i64)] [(.int .i64),Kq40,(.int .i64)] F
def p291 (F296:zar) (F308:Ke) (F309:zne):Sy:=fun R a0 a1 a2 k=>
F308 R a0 fun y1=>
let v2:=y1==0;(match v2 with
|true=>k (0:Int) a1 (10:Int)
|false=>F296 R a1 y1 a2 fun y3 y4 y5=>
let v6:=y5 !=0;(match v6 with
|true=>k (0:Int) y4 y5
|false=>F309 R a0 y3 fun y7 y8=>
k y7 y4 y8))
theorem q291 (F296:zar) (F308:Ke) (F309:zne):EQ (zvd (p291 F296 F308 F309)) (sE 0 40 [] [zvc F296,zkc F308,en309 F309] []) Tryz.f291 [(.tmp 6,3,false),(.cell 7 225,225,false),(.tmp 8,40,false)]:=fun _ _ _=>by kernel_rfl
def F291:Sy:=p291 F296 F308 F309
theorem ok291:OKP (zvd F291):=ST.ok0 (q291 F296 F308 F309) (Aa ok296 (Aa zeg (Aa ok309 Ab))) Tryz.func291
abbrev zas:=(R:Type)→Tq8→(LI×Unit)→Int→(Int→Int→Option R)→Option R
def en273 (F:zas):Ent:=eV 273 [Kq8,(.pair (.sl (.int .u64)) .unit),(.int .i64)] [(.int .i64),(.int .i64)] F
def p273 (F245:S4) (F291:Sy):zas:=fun R a0 a1 a2 k=>
F245 R a0 (1:Int) a2 fun y1=>
F291 R a1 y1 a0.2.1 fun y2 y3 y4=>
k y2 y4
theorem q273 (F245:S4) (F291:Sy):EQ (en273 (p273 F245 F291)) (sE 0 24 [] [zke F245,zvd F291] []) Tryz.f273 [(.tmp 6,3,false),(.tmp 7,40,false)]:=fun _ _ _=>by kernel_rfl
def F273:zas:=p273 F245 F291
theorem ok273:OKP (en273 F273):=ST.ok0 (q273 F245 F291) (Aa ok245 (Aa ok291 Ab)) Tryz.func273
abbrev znu:=(R:Type)→LI→Int→Int→LI→(LI→Int→Option R)→Option R
def en240 (F:znu):Ent:=eV 240 [(.arr 32 (.int .u8)),(.int .i64),(.int .i64),(.sl (.int .u64))] [(.sl (.int .i64)),(.int .i64)] F
abbrev zql (Z:Type):=Int→Int→Tq8→(LI×Unit)→LI→Z
abbrev E240_9 (R:Type):=(LI→Option R)→Option R
abbrev Lo:=(R:Type)→zql (E240_9 R)
def Yp (L:Lo):LEnt:=lM 9 [.fix 10 (.ptr 1 [] Kq8),.fix 11 (.ptr 2 [] (.pair (.sl (.int .u64)) .unit)),.fix 13 (.own 3 0),.val 38 (.int .i64),.val 39 (.int .i64),.var 1 Kq8 false,.var 2 (.pair (.sl (.int .u64)) .unit) false,.row 3 (.int .i64) false] 4 [(.exit 0,[.fix 13 (.own 3 0),.row 3 (.int .i64) false])] L
def e240 (F243:Pq) (F272:Sz) (F273:zas) (L9:Lo):=sE 0 59 [] [zkf F243,zvf F272,en273 F273] [Yp L9]
def zht (F273:zas) (R:Type):zql (zql (Option R)→E240_9 R):=fun x1 x2 x3 x4 x5 kc k0=>
let v6:=decide (x2<x1);(match v6 with
|true=>F273 R x3 x4 x2 fun y7 y8=>
(match bnd x2 x5.length with
|true=>let v9:=x5.set x2.toNat y7;let v10:=y8 !=0;(match v10 with
|true=>(match bnd x2 v9.length with
|true=>let v11:=v9.set x2.toNat (-1:Int);let v12:=IntKind.i64.wrap (x2+1);kc x1 v12 x3 x4 v11
|false=>none)
|false=>let v13:=IntKind.i64.wrap (x2+1);kc x1 v13 x3 x4 v9)
|false=>none)
|false=>k0 x5)
theorem q240_9 (F243:Pq) (F272:Sz) (F273:zas) (L9:Lo):LEQ (Yp L9) (e240 F243 F272 F273 L9) Tryz.f240 (zht F273):=fun _ _ _ _=>by kernel_rfl
def Pf:Nat→Lo
 | 0=>fun _ _ _ _ _ _ _=>none
 | n+1=>fun R x1 x2 x3 x4 x5 k0=>zht F273 R x1 x2 x3 x4 x5 (fun x1 x2 x3 x4 x5=>Pf n R x1 x2 x3 x4 x5 k0) k0
def p240 (F243:Pq) (F272:Sz) (L9:Lo):znu:=fun R a0 a1 a2 a3 k=>
let v1:=decide (a1<1);(match v1 with
|true=>k ([]:LI) (1:Int)
|false=>let v2:=IntKind.i64.wrap (a1 - 1);F243 R (a0,a2,()) v2 fun y3=>
(match (!y3) with
|true=>k ([]:LI) (1:Int)
|false=>F272 R a3 fun y4 y5=>
let v6:=y5 !=0;(match v6 with
|true=>k ([]:LI) y5
|false=>(match (decide (0≤a1∧a1≤a1∧a1≤17592186044416)) with
|true=>let v7:=List.replicate a1.toNat (0:Int);let v8:=(v7.length:Int);L9 R v8 (0:Int) (a0,a2,()) y4 v7 (fun x9=>
k x9 (0:Int))
|false=>none))))
theorem q240 (F243:Pq) (F272:Sz) (F273:zas) (L9:Lo):EQ (en240 (p240 F243 F272 L9)) (e240 F243 F272 F273 L9) Tryz.f240 [(.tmp 8,36,false),(.tmp 9,40,false)]:=fun _ _ _=>by kernel_rfl
def F240:znu:=p240 F243 F272 (Pf FUEL)
theorem zts:LKP (Yp (Pf FUEL)) 0 59 9 Tryz.f240:=ST.lok (q240_9 F243 F272 F273 (Pf FUEL)) (Aa zsv (Aa ok272 (Aa ok273 Ab))) [] trivial
theorem ok240:OKP (en240 F240):=ST.ok1 (q240 F243 F272 F273 (Pf FUEL)) (Aa zsv (Aa ok272 (Aa ok273 Ab))) Tryz.func240 [9] ⟨⟨_,rfl,zts⟩,trivial⟩
abbrev zn7:=(R:Type)→Tq31→(Int→Tq31→Option R)→Option R
def en187 (F:zn7):Ent:=eM 187 [(true,Kq31)] [(false,(.int .i64))] F
def p187 (F190:Kh) (F237:znw) (F238:znv) (F239:zwh) (F240:znu):zn7:=fun R a0 k=>
F237 R a0.1.2.2.2.1 fun y1 y2 y3 y4=>
let v5:=y4 !=0;(match v5 with
|true=>k y4 ((a0.1.1,a0.1.2.1,a0.1.2.2.1,y1,a0.1.2.2.2.2.1,y3,a0.1.2.2.2.2.2.2),a0.2)
|false=>F238 R a0.1.2.2.1 fun y6=>
F239 R y3 fun y7=>
F190 R y6 fun y8=>
F240 R y1.2.1 a0.1.1.1 a0.1.1.2.2.2.1 y8 fun y9 y10=>
k y10 ((a0.1.1,a0.1.2.1,y6,y1,y9,y3,a0.1.2.2.2.2.2.2),(a0.2.1.1,a0.2.1.2.1,y7,y1.2.1,a0.2.1.2.2.2.2),a0.2.2))
theorem q187 (F190:Kh) (F237:znw) (F238:znv) (F239:zwh) (F240:znu):EQ (en187 (p187 F190 F237 F238 F239 F240)) (sE 1 88 [] [Zd F190,en237 F237,en238 F238,en239 F239,en240 F240] []) Tryz.f187 [(.tmp 2,40,false)]:=fun _ _ _=>by kernel_rfl
def F187:zn7:=p187 F190 F237 F238 F239 F240
theorem ok187:OKP (en187 F187):=ST.ok0 (q187 F190 F237 F238 F239 F240) (Aa zig (Aa ok237 (Aa ok238 (Aa ok239 (Aa ok240 Ab))))) Tryz.func187
abbrev zfw:=(R:Type)→Tq31→Tq11→(Int→Tq31→Option R)→Option R
def en134 (F:zfw):Ent:=eM 134 [(true,Kq31),(false,Kq11)] [(false,(.int .i64))] F
def p134 (F186:zn8) (F187:zn7):zfw:=fun R a0 a1 k=>
F186 R a0.1.1 a0.1.2.1 fun y1 y2=>
let v3:=IntKind.u64.wrap y1;(match y2 with
|true=>F187 R ((a0.1.1,y1,a0.1.2.2),(a0.2.1.1,v3,a0.2.1.2.2),a0.2.2) fun y4 p5=>
k y4 p5
|false=>k (0:Int) ((a0.1.1,y1,a0.1.2.2),(a0.2.1.1,v3,a0.2.1.2.2),a0.2.2))
theorem q134 (F186:zn8) (F187:zn7):EQ (en134 (p134 F186 F187)) (sE 1 35 [] [en186 F186,en187 F187] []) Tryz.f134 [(.tmp 4,40,false)]:=fun _ _ _=>by kernel_rfl
def F134:zfw:=p134 F186 F187
theorem ok134:OKP (en134 F134):=ST.ok0 (q134 F186 F187) (Aa ok186 (Aa ok187 Ab)) Tryz.func134
abbrev S7:=(R:Type)→Tq31→Int→(Int→Tq31→Option R)→Option R
def zkl (F:S7):Ent:=eM 188 [(true,Kq31),(false,(.int .i64))] [(false,(.int .i64))] F
def p188:S7:=fun R a0 a1 k=>
let v1:=decide (a1<0);(match v1 with
|true=>k (3:Int) a0
|false=>let v2:=decide (a1≥a0.1.1.1);(match v2 with
|true=>k (3:Int) a0
|false=>k (0:Int) a0))
theorem q188:EQ (zkl p188) (sE 1 17 [] [] []) Tryz.f188 [(.tmp 4,40,false)]:=fun _ _ _=>by kernel_rfl
def F188:S7:=p188
theorem ok188:OKP (zkl F188):=ST.ok0 q188 Ab Tryz.func188
abbrev S6:=(R:Type)→LI→(Int→Option R)→Option R
def zvr (F:S6):Ent:=eV 189 [(.sl (.int .u64))] [(.int .i64)] F
abbrev zq1 (Z:Type):=Int→LI→Int→Int→Z
abbrev E189_2 (R:Type):=(Int→Option R)→Option R
abbrev Lx:=(R:Type)→zq1 (E189_2 R)
def Yx (L:Lx):LEnt:=lM 2 [.val 2 (.int .i64),.val 5 (.sl (.int .u64)),.val 6 (.int .i64),.val 7 (.int .i64)] 0 [(.exit 0,[.val 2 (.int .i64)])] L
def e189 (L2:Lx):=sE 0 17 [] [] [Yx L2]
def zh1 (R:Type):zq1 (zq1 (Option R)→E189_2 R):=fun x1 x2 x3 x4 kc k0=>
let v5:=decide (x4<x3);(match v5 with
|true=>(match bnd x4 x2.length with
|true=>let v6:=x2.getD x4.toNat 0;let v7:=decide (v6>0);(match v7 with
|true=>let v8:=IntKind.i64.wrap (x1+1);let v9:=IntKind.i64.wrap (x4+1);kc v8 x2 x3 v9
|false=>let v10:=IntKind.i64.wrap (x4+1);kc x1 x2 x3 v10)
|false=>none)
|false=>k0 x1)
theorem q189_2 (L2:Lx):LEQ (Yx L2) (e189 L2) Tryz.f189 zh1:=fun _ _ _ _=>by kernel_rfl
def Pm:Nat→Lx
 | 0=>fun _ _ _ _ _ _=>none
 | n+1=>fun R x1 x2 x3 x4 k0=>zh1 R x1 x2 x3 x4 (fun x1 x2 x3 x4=>Pm n R x1 x2 x3 x4 k0) k0
def p189 (L2:Lx):S6:=fun R a0 k=>
let v1:=(a0.length:Int);L2 R (0:Int) a0 v1 (0:Int) (fun x2=>
k x2)
theorem q189 (L2:Lx):EQ (zvr (p189 L2)) (e189 L2) Tryz.f189 [(.tmp 2,3,false)]:=fun _ _ _=>by kernel_rfl
def F189:S6:=p189 (Pm FUEL)
theorem zt1:LKP (Yx (Pm FUEL)) 0 17 2 Tryz.f189:=ST.lok (q189_2 (Pm FUEL)) Ab [] trivial
theorem ok189:OKP (zvr F189):=ST.ok1 (q189 (Pm FUEL)) Ab Tryz.func189 [2] ⟨⟨_,rfl,zt1⟩,trivial⟩
abbrev zfv:=(R:Type)→Tq31→Tq11→(Int→Tq31→Option R)→Option R
def en135 (F:zfv):Ent:=eM 135 [(true,Kq31),(false,Kq11)] [(false,(.int .i64))] F
def p135 (F188:S7) (F189:S6) (F190:Kh):zfv:=fun R a0 a1 k=>
F188 R a0 a1.2.2.2.2.1 fun y1 p2=>
let v3:=y1 !=0;(match v3 with
|true=>k y1 p2
|false=>F190 R p2.1.2.2.1 fun y4=>
F189 R y4 fun y5=>
let v6:=y5==0;(match v6 with
|true=>k (10:Int) p2
|false=>(match bnd a1.2.2.2.2.1 p2.1.2.2.2.2.1.length with
|true=>let v7:=p2.1.2.2.2.2.1.getD a1.2.2.2.2.1.toNat 0;let v8:=v7==(-1:Int);(match v8 with
|true=>k (9:Int) p2
|false=>(match bnd a1.2.2.2.2.1 p2.1.2.2.2.2.1.length with
|true=>let v9:=p2.1.2.2.2.2.1.getD a1.2.2.2.2.1.toNat 0;let v10:=([v9]:LI);k (0:Int) (p2.1,(p2.2.1.1,p2.2.1.2.1,v10,p2.2.1.2.2.2),p2.2.2)
|false=>none))
|false=>none)))
theorem q135 (F188:S7) (F189:S6) (F190:Kh):EQ (en135 (p135 F188 F189 F190)) (sE 1 45 [] [zkl F188,zvr F189,Zd F190] []) Tryz.f135 [(.tmp 4,40,false)]:=fun _ _ _=>by kernel_rfl
def F135:zfv:=p135 F188 F189 F190
theorem ok135:OKP (en135 F135):=ST.ok0 (q135 F188 F189 F190) (Aa ok188 (Aa ok189 (Aa zig Ab))) Tryz.func135
abbrev Wf:=(R:Type)→Int→Int→(Int→Bool→Option R)→Option R
def zva (F:Wf):Ent:=eV 310 [(.int .u64),(.int .u64)] [(.int .u64),.bool] F
def p310 (F120:zbb) (F262:zau):Wf:=fun R a0 a1 k=>
F120 R a0 a1 fun y1 y2=>
F262 R y2 y1 fun y3 y4=>
k y3 y4
theorem q310 (F120:zbb) (F262:zau):EQ (zva (p310 F120 F262)) (sE 0 19 [] [zvw F120,zvg F262] []) Tryz.f310 [(.tmp 4,32,false),(.tmp 5,4,false)]:=fun _ _ _=>by kernel_rfl
def F310:Wf:=p310 F120 F262
theorem ok310:OKP (zva F310):=ST.ok0 (q310 F120 F262) (Aa ok120 (Aa ok262 Ab)) Tryz.func310
abbrev Wg:=(R:Type)→LI→(Int→Int→Option R)→Option R
def en292 (F:Wg):Ent:=eV 292 [(.sl (.int .u64))] [(.int .u64),(.int .i64)] F
def p292 (F223:Je) (F310:Wf):Wg:=fun R a0 k=>
let v1:=(a0.length:Int);let v2:=IntKind.u64.wrap v1;let v3:=v2==0;(match v3 with
|true=>k (0:Int) (10:Int)
|false=>F223 R a0 fun y4 y5=>
(match (!y5) with
|true=>k (0:Int) (11:Int)
|false=>let v6:=y4==0;(match v6 with
|true=>k (0:Int) (10:Int)
|false=>F310 R v2 y4 fun y7 y8=>
(match (!y8) with
|true=>k (0:Int) (11:Int)
|false=>k y4 (0:Int)))))
theorem q292 (F223:Je) (F310:Wf):EQ (en292 (p292 F223 F310)) (sE 0 32 [] [ze6 F223,zva F310] []) Tryz.f292 [(.tmp 2,32,false),(.tmp 3,40,false)]:=fun _ _ _=>by kernel_rfl
def F292:Wg:=p292 F223 F310
theorem ok292:OKP (en292 F292):=ST.ok0 (q292 F223 F310) (Aa zif (Aa ok310 Ab)) Tryz.func292
abbrev zno:=(R:Type)→LI→(Tq44→Int→Option R)→Option R
def en274 (F:zno):Ent:=eV 274 [(.sl (.int .u64))] [Kq44,(.int .i64)] F
abbrev zp9 (Z:Type):=LI→Int→LI→Int→Int→Tq44→LI→(List Tq13)→LI→LI→(Int×Unit)→Z
abbrev zz1 (R:Type):=(Tq44→LI→(List Tq13)→LI→LI→(Int×Unit)→Option R)→Option R
abbrev I5:=(R:Type)→zp9 (zz1 R)
def Yh (L:I5):LEnt:=lM 7 [.val 0 (.sl (.int .u64)),.fix 2 (.ptr 0 [] Kq44),.val 4 (.int .u64),.fix 6 (.mptr 6 0 Kq46),.val 28 (.sl (.int .u64)),.val 29 (.int .i64),.val 30 (.int .i64),.var 0 Kq44 false,.row 1 (.int .u64) false,.row 2 Kq13 false,.row 4 (.int .i64) false,.row 5 (.int .i64) false,.mix 6 [((.int .u64),none),((.sl Kq13),some 2),((.sl (.int .u64)),some 1),((.sl (.int .i64)),some 4),((.sl (.int .i64)),some 5)]] 7 [(.exit 0,[.fix 2 (.ptr 0 [] Kq44),.fix 6 (.mptr 6 0 Kq46),.var 0 Kq44 false,.row 1 (.int .u64) false,.row 2 Kq13 false,.row 4 (.int .i64) false,.row 5 (.int .i64) false,.mix 6 [((.int .u64),none),((.sl Kq13),some 2),((.sl (.int .u64)),some 1),((.sl (.int .i64)),some 4),((.sl (.int .i64)),some 5)]])] L
abbrev zbo (Z:Type):=Tq44→LI→(List Tq13)→LI→LI→(Int×Unit)→Z
abbrev zpo (R:Type):=(Tq44→LI→(List Tq13)→LI→LI→(Int×Unit)→Option R)→Option R
abbrev Gq:=(R:Type)→zbo (zpo R)
def R5 (L:Gq):LEnt:=lM 13 [.fix 2 (.ptr 0 [] Kq44),.fix 6 (.mptr 6 0 Kq46),.var 0 Kq44 false,.row 1 (.int .u64) false,.row 2 Kq13 false,.row 4 (.int .i64) false,.row 5 (.int .i64) false,.mix 6 [((.int .u64),none),((.sl Kq13),some 2),((.sl (.int .u64)),some 1),((.sl (.int .i64)),some 4),((.sl (.int .i64)),some 5)]] 7 [(.exit 2,[.fix 2 (.ptr 0 [] Kq44),.fix 6 (.mptr 6 0 Kq46),.var 0 Kq44 false,.row 1 (.int .u64) false,.row 2 Kq13 false,.row 4 (.int .i64) false,.row 5 (.int .i64) false,.mix 6 [((.int .u64),none),((.sl Kq13),some 2),((.sl (.int .u64)),some 1),((.sl (.int .i64)),some 4),((.sl (.int .i64)),some 5)]])] L
def zko (R:Type):Env R:=⟨TT,EQT,0,37,Bq [],Bd [] R,fun _ _ _=>none,[],Bf [],[],fun _ _ _ _=>none⟩
theorem zc4 (R:Type):Az Tryz.prog (zko R):=⟨tabOK,eqOK,Aq Ab,Bv,Ak,noYl⟩
def zxd (R:Type):Env R:=⟨TT,EQT,0,26,Bq [(2,9)],Bd [] R,fun _ _ _=>none,[],Bf [],[],fun _ _ _ _=>none⟩
theorem zuw (R:Type):Az Tryz.prog (zxd R):=⟨tabOK,eqOK,Aq Ab,Bv,Ak,noYl⟩
def zxe (R:Type):Env R:=⟨TT,EQT,0,53,Bq [(0,3),(0,7),(3,2)],Bd [] R,fun _ _ _=>none,[],Bf [(293,xinl (zko R) (Ai Tryz.f293) [] 2),(311,xinl (zxd R) (Ai Tryz.f311) [.tmp 2] 1)],[],fun _ _ _ _=>none⟩
theorem zux (R:Type):Az Tryz.prog (zxe R):=⟨tabOK,eqOK,Aq Ab,Bv,(A5 (Bb (zc4 R) mixed Tryz.func293 (body:=Ai Tryz.f293) (by kernel_rfl) (by kernel_rfl) (by kernel_rfl) (res:=[]) (by kernel_rfl) (n:=2) (Nat.le_of_ble_eq_true rfl) (by kernel_rfl)) (A5 (Bb (zuw R) mixed Tryz.func311 (body:=Ai Tryz.f311) (by kernel_rfl) (by kernel_rfl) (by kernel_rfl) (res:=[.tmp 2]) (by kernel_rfl) (n:=1) (Nat.le_of_ble_eq_true rfl) (by kernel_rfl)) Ak)),noYl⟩
def e274 (F292:Wg) (L7:I5) (L13:Gq) (R:Type):Env R:=⟨TT,EQT,0,84,Bq [(4,3),(4,4),(11,2),(14,1)],Bd [en292 F292] R,Bi [Yh L7,R5 L13] R,[],Bf [(293,xinl (zko R) (Ai Tryz.f293) [] 2),(294,xinl (zxe R) (Ai Tryz.f294) [] 1)],[],fun _ _ _ _=>none⟩
def zhl (R:Type):zp9 (zp9 (Option R)→zz1 R):=fun x1 x2 x3 x4 x5 x6 x7 x8 x9 x10 x11 kc k0=>
let v12:=decide (x5<x4);(match v12 with
|true=>(match bnd x5 x3.length with
|true=>let v13:=x3.getD x5.toNat 0;let v14:=(x1.length:Int);let v15:=IntKind.u64.wrap v14;let v16:=IntKind.u64.wrap (v13*v15);(match bnd x5 x7.length with
|true=>let v17:=x7.set x5.toNat v16;let v18:=([(x2,x5,())]:(List Tq13));(match (decide (x8.length+v18.length≤8796093022208)) with
|true=>let v19:=x8++v18;(match bnd x5 v17.length with
|true=>let v20:=v17.getD x5.toNat 0;let v21:=decide (v20<x11.1);(match v21 with
|true=>let v22:=([x5]:LI);(match (decide (x9.length+v22.length≤17592186044416)) with
|true=>let v23:=x9++v22;let v24:=IntKind.i64.wrap (x5+1);kc x1 x2 x3 x4 v24 x6 v17 v19 v23 x10 (x11.1,())
|false=>none)
|false=>let v25:=([x5]:LI);(match (decide (x10.length+v25.length≤17592186044416)) with
|true=>let v26:=x10++v25;let v27:=IntKind.i64.wrap (x5+1);kc x1 x2 x3 x4 v27 x6 v17 v19 x9 v26 (x11.1,())
|false=>none))
|false=>none)
|false=>none)
|false=>none)
|false=>none)
|false=>k0 x6 x7 x8 x9 x10 (x11.1,()))
theorem q274_7 (F292:Wg) (L7:I5) (L13:Gq):LEQ (Yh L7) (e274 F292 L7 L13) Tryz.f274 zhl:=fun _ _ _ _=>by kernel_rfl
def J6:Nat→I5
 | 0=>fun _ _ _ _ _ _ _ _ _ _ _ _ _=>none
 | n+1=>fun R x1 x2 x3 x4 x5 x6 x7 x8 x9 x10 x11 k0=>zhl R x1 x2 x3 x4 x5 x6 x7 x8 x9 x10 x11 (fun x1 x2 x3 x4 x5 x6 x7 x8 x9 x10 x11=>J6 n R x1 x2 x3 x4 x5 x6 x7 x8 x9 x10 x11 k0) k0
def Xn (R:Type):zbo (zbo (Option R)→zpo R):=fun x1 x2 x3 x4 x5 x6 kc k0=>
let v7:=(x4.length:Int);let v8:=decide (v7>0);(match v8 with
|true=>let v9:=(x5.length:Int);let v10:=decide (v9>0);(match v10 with
|true=>let v11:=(x4.length:Int);let v12:=IntKind.i64.wrap (v11 - 1);(match bnd v12 x4.length with
|true=>let v13:=x4.getD v12.toNat 0;let v14:=(x4.length:Int);let v15:=IntKind.i64.wrap (v14 - 1);(match (decide (0≤v15∧v15≤(x4.length:Int))) with
|true=>let v16:=List.take v15.toNat x4;let v17:=(x5.length:Int);let v18:=IntKind.i64.wrap (v17 - 1);(match bnd v18 x5.length with
|true=>let v19:=x5.getD v18.toNat 0;let v20:=(x5.length:Int);let v21:=IntKind.i64.wrap (v20 - 1);(match (decide (0≤v21∧v21≤(x5.length:Int))) with
|true=>let v22:=List.take v21.toNat x5;(match bnd v13 x2.length with
|true=>let v23:=x2.getD v13.toNat 0;(match bnd v13 x3.length with
|true=>let v24:=x3.set v13.toNat (v23,v19,());(match bnd v19 x2.length with
|true=>let v25:=x2.getD v19.toNat 0;(match bnd v13 x2.length with
|true=>let v26:=x2.getD v13.toNat 0;let v27:=IntKind.u64.wrap (x6.1 - v26);let v28:=IntKind.u64.wrap (v25 - v27);(match bnd v19 x2.length with
|true=>let v29:=x2.set v19.toNat v28;(match bnd v19 v29.length with
|true=>let v30:=v29.getD v19.toNat 0;let v31:=decide (v30<x6.1);(match v31 with
|true=>let v32:=([v19]:LI);(match (decide (v16.length+v32.length≤17592186044416)) with
|true=>let v33:=v16++v32;kc x1 v29 v24 v33 v22 (x6.1,())
|false=>none)
|false=>let v34:=([v19]:LI);(match (decide (v22.length+v34.length≤17592186044416)) with
|true=>let v35:=v22++v34;kc x1 v29 v24 v16 v35 (x6.1,())
|false=>none))
|false=>none)
|false=>none)
|false=>none)
|false=>none)
|false=>none)
|false=>none)
|false=>none)
|false=>none)
|false=>none)
|false=>none)
|false=>k0 x1 x2 x3 x4 x5 (x6.1,()))
|false=>k0 x1 x2 x3 x4 x5 (x6.1,()))
theorem q274_13 (F292:Wg) (L7:I5) (L13:Gq):LEQ (R5 L13) (e274 F292 L7 L13) Tryz.f274 Xn:=fun _ _ _ _=>by kernel_rfl
def Fy:Nat→Gq
 | 0=>fun _ _ _ _ _ _ _ _=>none
 | n+1=>fun R x1 x2 x3 x4 x5 x6 k0=>Xn R x1 x2 x3 x4 x5 x6 (fun x1 x2 x3 x4 x5 x6=>Fy n R x1 x2 x3 x4 x5 x6 k0) k0
def p274 (F292:Wg) (L7:I5) (L13:Gq):zno:=fun R a0 k=>
F292 R a0 fun y1 y2=>
let v3:=y2 !=0;(match v3 with
|true=>k ((0:Int),([]:(List Tq13)),()) y2
|false=>let v4:=(a0.length:Int);(match (decide (0≤v4∧v4≤v4∧v4≤17592186044416)) with
|true=>let v5:=List.replicate v4.toNat (0:Int);let v6:=(a0.length:Int);L7 R a0 y1 a0 v6 (0:Int) ((0:Int),([]:(List Tq13)),()) v5 ([]:(List Tq13)) ([]:LI) ([]:LI) (y1,()) (fun x7 x8 x9 x10 x11 x12=>
L13 R x7 x8 x9 x10 x11 (x12.1,()) (fun x13 x14 x15 x16 x17 x18=>
k (x18.1,x15,()) (0:Int)))
|false=>none))
theorem q274 (F292:Wg) (L7:I5) (L13:Gq):EQ (en274 (p274 F292 L7 L13)) (e274 F292 L7 L13) Tryz.f274 [(.cell 2 267,267,false),(.tmp 3,40,false)]:=fun _ _ _=>by kernel_rfl
def F274:zno:=p274 F292 (J6 FUEL) (Fy FUEL)
theorem zj4 (R:Type):Az Tryz.prog (e274 F292 (J6 FUEL) (Fy FUEL) R):=⟨tabOK,eqOK,Aq (Aa ok292 Ab),Bv,(A5 (Bb (zc4 R) mixed Tryz.func293 (body:=Ai Tryz.f293) (by kernel_rfl) (by kernel_rfl) (by kernel_rfl) (res:=[]) (by kernel_rfl) (n:=2) (Nat.le_of_ble_eq_true rfl) (by kernel_rfl)) (A5 (Bb (zux R) mixed Tryz.func294 (body:=Ai Tryz.f294) (by kernel_rfl) (by kernel_rfl) (by kernel_rfl) (res:=[]) (by kernel_rfl) (n:=1) (Nat.le_of_ble_eq_true rfl) (by kernel_rfl)) Ak)),noYl⟩
theorem ztk:LKP (Yh (J6 FUEL)) 0 84 7 Tryz.f274:=ST.lok3 (q274_7 F292 (J6 FUEL) (Fy FUEL)) zj4 (fun _=>rfl) (fun _=>rfl) (fun _=>rfl) [] trivial
theorem zit:LKP (R5 (Fy FUEL)) 0 84 13 Tryz.f274:=ST.lok3 (q274_13 F292 (J6 FUEL) (Fy FUEL)) zj4 (fun _=>rfl) (fun _=>rfl) (fun _=>rfl) [] trivial
theorem ok274:OKP (en274 F274):=ST.ok3 (q274 F292 (J6 FUEL) (Fy FUEL)) zj4 Tryz.func274 (fun _=>rfl) (fun _=>rfl) (fun _=>rfl) [7,13] ⟨⟨_,rfl,ztk⟩,⟨⟨_,rfl,zit⟩,trivial⟩⟩
abbrev zak:=(R:Type)→Tq13→Tq44→(Bool→Tq44→Option R)→Option R
def en313 (F:zak):Ent:=eM 313 [(false,Kq13),(true,Kq44)] [(false,.bool)] F
def p313:zak:=fun R a0 a1 k=>
let v1:=decide (a0.1>a1.1);(match v1 with
|true=>k true a1
|false=>let v2:=decide (a0.2.1<0);(match v2 with
|true=>k true a1
|false=>let v3:=(a1.2.1.length:Int);let v4:=decide (a0.2.1≥v3);k v4 a1))
theorem q313:EQ (en313 p313) (sE 1 22 [] [] []) Tryz.f313 [(.tmp 3,4,false)]:=fun _ _ _=>by kernel_rfl
def F313:zak:=p313
theorem ok313:OKP (en313 F313):=ST.ok0 q313 Ab Tryz.func313
abbrev Gr:Type 1:=(R:Type)→(List Tq13)→Tq44→(Int→Tq44→Option R)→Option R
def Ct (F:Gr):EntC:=⟨326,313,Kq44,[(false,(.sl Kq13))],[(false,(.int .i64))],fun R x c k=>F R x.1 c (fun y1 c1=>k (y1,()) () c1)⟩
def T6:List (ResultVar×TypeId×Bool):=[(.tmp 4,3,false)]
abbrev Ex:Type 1:=(R:Type)→(List Tq13)→Int→Int→Tq44→(Int→Tq44→Option R)→(Tq44→Option R)→Option R
def Bj (L:Ex):LEnt:=⟨2,[.val 0 (.sl Kq13),.fix 1 (.clo 313 [(0,Kq44)]),.val 7 (.int .i64),.val 8 (.int .i64),.var 0 Kq44 false],1,[(.ret,[.val 4 (.int .i64),.var 0 Kq44 false]),(.exit 0,[.var 0 Kq44 false])],fun R x ke=>L R x.1 x.2.1 x.2.2.1 x.2.2.2.1 (fun y1 y2=>ke.1 (y1,y2,())) (fun y1=>ke.2.1 (y1,()))⟩
def Oh (F313:zak) (L2:Ex) (R:Type):Env R:=⟨TT,EQT,1,19,Bq [],Bd [en313 F313] R,Bi [Bj L2] R,[],Bf [],[],fun _ _ _ _=>none⟩
def Jo (F313:zak):(R:Type)→(List Tq13)→Int→Int→Tq44→((List Tq13)→Int→Int→Tq44→Option R)→(Int→Tq44→Option R)→(Tq44→Option R)→Option R:=fun R x1 x2 x3 x4 kc k0 k1=>
let v5:=decide (x3<x2);(match v5 with
|true=>(match bnd x3 x1.length with
|true=>let v6:=x1.getD x3.toNat (0,0,());F313 R v6 x4 fun y7 p8=>
(match y7 with
|true=>k0 x3 p8
|false=>let v9:=IntKind.i64.wrap (x3+1);kc x1 x2 v9 p8)
|false=>none)
|false=>k1 x4)
theorem zg2 (F313:zak) (L2:Ex) (R:Type) (x:HT (Bj L2).H) (kc:HT (Bj L2).H→Option R) (ke:KT R (Bj L2).exs):
 exec (Oh F313 L2 R) (Cg 2 (Ai Tryz.f326)) (stOf (Bj L2).H x 1) (Mh (Bj L2).H (Bj L2).exs kc ke)=
  Jo F313 R x.1 x.2.1 x.2.2.1 x.2.2.2.1 (fun x1 x2 x3 x4=>kc (x1,x2,x3,x4,())) (fun y1 y2=>ke.1 (y1,y2,())) (fun y1=>ke.2.1 (y1,())):=by kernel_rfl
def A7:Nat→Ex
 | 0=>fun _ _ _ _ _ _ _=>none
 | n+1=>fun R x1 x2 x3 x4 k0 k1=>Jo F313 R x1 x2 x3 x4 (fun x1 x2 x3 x4=>A7 n R x1 x2 x3 x4 k0 k1) k0 k1
def Xl (L2:Ex):Gr:=fun R a0 c0 k=>
let v1:=(a0.length:Int);L2 R a0 v1 (0:Int) c0 (fun x2 x3=>
k x2 x3) (fun x4=>
k (-1:Int) x4)
theorem q327313 (F313:zak) (L2:Ex) (F:Gr) (R:Type) (x:AT (Ct F).ins) (c:(Ct F).ck.T) (k:RT (Ct F).outs→PT (Ct F).ins→(Ct F).ck.T→Option R):
 xfun (Oh F313 L2 R) (Ai Tryz.f326) T6 (avs (Ct F).ins x++[AV.clo 313 (Ct F).ck c]) (zuu (Ct F).outs (Ct F).ins (Ct F).ck k)=Xl L2 R x.1 c (fun y1 c1=>k (y1,()) () c1):=by kernel_rfl
def De:Gr:=Xl (A7 FUEL)
theorem U3 (R:Type):Az Tryz.prog (Oh F313 (A7 FUEL) R):=⟨tabOK,eqOK,Aq (Aa ok313 Ab),Bv,Ak,noYl⟩
def Hq:(R:Type)→HT (Bj (A7 FUEL)).H→(HT (Bj (A7 FUEL)).H→Option R)→KT R (Bj (A7 FUEL)).exs→Option R:=fun R x kc ke=>Jo F313 R x.1 x.2.1 x.2.2.1 x.2.2.2.1 (fun x1 x2 x3 x4=>kc (x1,x2,x3,x4,())) (fun y1 y2=>ke.1 (y1,y2,())) (fun y1=>ke.2.1 (y1,()))
theorem zeq:∀(n:Nat) (R:Type) (x:HT (Bj (A7 FUEL)).H) (ke:KT R (Bj (A7 FUEL)).exs),iter Hq n R x ke=A7 n R x.1 x.2.1 x.2.2.1 x.2.2.2.1 (fun y1 y2=>ke.1 (y1,y2,())) (fun y1=>ke.2.1 (y1,())):=by
 intro n
 induction n with
 | zero=>intro R x ke; rfl
 | succ n ih=>
  intro R x ke;show Hq R x (fun x'=>iter Hq n R x' ke) ke=_
  rw [show (fun x'=>iter Hq n R x' ke)=fun x=>A7 n R x.1 x.2.1 x.2.2.1 x.2.2.2.1 (fun y1 y2=>ke.1 (y1,y2,())) (fun y1=>ke.2.1 (y1,())) from funext fun x'=>ih R x' ke];rfl
theorem X2:(Bj (A7 FUEL)).OK Tryz.prog 1 19 (Cg 2 (Ai Tryz.f326)):=⟨⟨fun _ h=>(by cases h),by kernel_rfl⟩,fun R x ke r h=>
 Ev (fun R=>Oh F313 (A7 FUEL) R) 1 19 (fun _=>rfl) (fun _=>rfl) (fun R=>U3 R) mixed (by
  intro R;rw [show Ap (Cg 2 (Ai Tryz.f326))=[] from by kernel_rfl];exact Br) (fun _ h=>(by cases h)) (N7 (by kernel_rfl)) (T:=Hq) (fun R x kc ke=>zg2 F313 (A7 FUEL) R x kc ke) FUEL R x ke r ((zeq FUEL R x ke).trans h)⟩
theorem zsr:(Ct De).OK Tryz.prog:=
 zj9 (Ef:=fun R=>Oh F313 (A7 FUEL) R) (fun R=>U3 R) mixed Tryz.func326 (body:=Ai Tryz.f326) (by kernel_rfl) (by kernel_rfl) (np:=1) (nt:=19) (fun _=>rfl) (fun _=>rfl) (by kernel_rfl) (res:=T6) (by kernel_rfl) (fun _ _=>rfl) (fun _ _=>Nat.le_of_ble_eq_true rfl) (by
  intro R;rw [show Ap (Ai Tryz.f326)=[Cg 2 (Ai Tryz.f326)] from by kernel_rfl];exact (Af (Ia (e:=Bj (A7 FUEL)) rfl rfl X2) Br)) (fun R x c k=>q327313 F313 (A7 FUEL) De R x c k)
abbrev Gs:Type 1:=(R:Type)→(List Tq13)→Tq44→(Bool→Tq44→Option R)→Option R
def Cu (F:Gs):EntC:=⟨312,313,Kq44,[(false,(.sl Kq13))],[(false,.bool)],fun R x c k=>F R x.1 c (fun y1 c1=>k (y1,()) () c1)⟩
def T7:List (ResultVar×TypeId×Bool):=[(.tmp 4,4,false)]
def Zf (De:Gr) (R:Type):Env R:=⟨TT,EQT,1,9,Bq [],K1 [Ct De] [] [] R,Bi [] R,[],Bf [],[],fun _ _ _ _=>none⟩
def Xm (De:Gr):Gs:=fun R a0 c0 k=>
De R a0 c0 fun y1 p2=>
let v3:=decide (y1≥0);k v3 p2
theorem q313313 (De:Gr) (F:Gs) (R:Type) (x:AT (Cu F).ins) (c:(Cu F).ck.T) (k:RT (Cu F).outs→PT (Cu F).ins→(Cu F).ck.T→Option R):
 xfun (Zf De R) (Ai Tryz.f312) T7 (avs (Cu F).ins x++[AV.clo 313 (Cu F).ck c]) (zuu (Cu F).outs (Cu F).ins (Cu F).ck k)=Xm De R x.1 c (fun y1 c1=>k (y1,()) () c1):=by kernel_rfl
def Dt:Gs:=Xm De
theorem zj3 (R:Type):Az Tryz.prog (Zf De R):=⟨tabOK,eqOK,K0 (Vm zsr zde) Ep Ab,Bv,Ak,noYl⟩
theorem zss:(Cu Dt).OK Tryz.prog:=
 zj9 (Ef:=fun R=>Zf De R) (fun R=>zj3 R) mixed Tryz.func312 (body:=Ai Tryz.f312) (by kernel_rfl) (by kernel_rfl) (np:=1) (nt:=9) (fun _=>rfl) (fun _=>rfl) (by kernel_rfl) (res:=T7) (by kernel_rfl) (fun _ _=>rfl) (fun _ _=>Nat.le_of_ble_eq_true rfl) (by
  intro R;rw [show Ap (Ai Tryz.f312)=[] from by kernel_rfl];exact Br) (fun R x c k=>q313313 De Dt R x c k)
abbrev Pp:=(R:Type)→Tq44→(Bool→Option R)→Option R
def ze4 (F:Pp):Ent:=eV 295 [Kq44] [.bool] F
def e295 (F310:Wf) (Dt:Gs) (R:Type):Env R:=⟨TT,EQT,0,33,Bq [],K1 [Cu Dt] [] [zva F310] R,Bi [] R,[],Bf [],[],fun _ _ _ _=>none⟩
def p295 (F310:Wf) (Dt:Gs):Pp:=fun R a0 k=>
let v1:=(a0.2.1.length:Int);let v2:=IntKind.u64.wrap v1;F310 R v2 a0.1 fun y3 y4=>
(match (!y4) with
|true=>k false
|false=>let v5:=(a0.2.1.length:Int);let v6:=v5==0;(match v6 with
|true=>k false
|false=>let v7:=a0.1==0;(match v7 with
|true=>k false
|false=>Dt R a0.2.1 a0 fun y8 p9=>
k (!y8))))
theorem q295 (F310:Wf) (Dt:Gs):EQ (ze4 (p295 F310 Dt)) (e295 F310 Dt) Tryz.f295 [(.tmp 2,4,false)]:=fun _ _ _=>by kernel_rfl
def F295:Pp:=p295 F310 Dt
theorem env295 (R:Type):Az Tryz.prog (e295 F310 Dt R):=⟨tabOK,eqOK,K0 (Vm zss zde) Ep (Aa ok310 Ab),Bv,Ak,noYl⟩
theorem zst:OKP (ze4 F295):=ST.ok3 (q295 F310 Dt) env295 Tryz.func295 (fun _=>rfl) (fun _=>rfl) (fun _=>rfl) [] trivial
abbrev zaq:=(R:Type)→Tq44→(Int→Option R)→Option R
def zvb (F:zaq):Ent:=eV 297 [Kq44] [(.int .u64)] F
def p297 (F295:Pp):zaq:=fun R a0 k=>
F295 R a0 fun y1=>
(match (!y1) with
|true=>k (0:Int)
|false=>let v2:=(a0.2.1.length:Int);let v3:=IntKind.u64.wrap v2;let v4:=IntKind.u64.wrap (v3*a0.1);k v4)
theorem q297 (F295:Pp):EQ (zvb (p297 F295)) (sE 0 13 [] [ze4 F295] []) Tryz.f297 [(.tmp 2,32,false)]:=fun _ _ _=>by kernel_rfl
def F297:zaq:=p297 F295
theorem ok297:OKP (zvb F297):=ST.ok0 (q297 F295) (Aa zst Ab) Tryz.func297
abbrev znb:=(R:Type)→Tq44→Int→(Int→Option R)→Option R
def en330 (F:znb):Ent:=eV 330 [Kq44,(.int .i64)] [(.int .i64)] F
def p330 (F295:Pp):znb:=fun R a0 a1 k=>
F295 R a0 fun y1=>
(match (!y1) with
|true=>k (1:Int)
|false=>let v2:=decide (a1<0);(match v2 with
|true=>k (3:Int)
|false=>let v3:=(a0.2.1.length:Int);let v4:=decide (a1≥v3);(match v4 with
|true=>k (3:Int)
|false=>k (0:Int))))
theorem q330 (F295:Pp):EQ (en330 (p330 F295)) (sE 0 19 [] [ze4 F295] []) Tryz.f330 [(.tmp 4,40,false)]:=fun _ _ _=>by kernel_rfl
def F330:znb:=p330 F295
theorem ok330:OKP (en330 F330):=ST.ok0 (q330 F295) (Aa zst Ab) Tryz.func330
abbrev znd:=(R:Type)→Tq44→Int→Int→(Int→Int→Option R)→Option R
def en317 (F:znd):Ent:=eV 317 [Kq44,(.int .i64),(.int .u64)] [(.int .i64),(.int .i64)] F
def p317 (F330:znb):znd:=fun R a0 a1 a2 k=>
F330 R a0 a1 fun y1=>
let v2:=y1 !=0;(match v2 with
|true=>k (0:Int) y1
|false=>let v3:=decide (a2≥a0.1);(match v3 with
|true=>k (0:Int) (3:Int)
|false=>(match bnd a1 a0.2.1.length with
|true=>let v4:=a0.2.1.getD a1.toNat (0,0,());let v5:=decide (a2≥v4.1);(match v5 with
|true=>k v4.2.1 (0:Int)
|false=>k a1 (0:Int))
|false=>none)))
theorem q317 (F330:znb):EQ (en317 (p317 F330)) (sE 0 32 [] [en330 F330] []) Tryz.f317 [(.tmp 6,3,false),(.tmp 7,40,false)]:=fun _ _ _=>by kernel_rfl
def F317:znd:=p317 F330
theorem ok317:OKP (en317 F317):=ST.ok0 (q317 F330) (Aa ok330 Ab) Tryz.func317
abbrev znh:=(R:Type)→Tq44→Int→(Int→Int→Option R)→Option R
def en298 (F:znh):Ent:=eV 298 [Kq44,(.int .u64)] [(.int .i64),(.int .i64)] F
def p298 (F295:Pp) (F297:zaq) (F317:znd):znh:=fun R a0 a1 k=>
F295 R a0 fun y1=>
(match (!y1) with
|true=>k (0:Int) (1:Int)
|false=>F297 R a0 fun y2=>
let v3:=decide (a1≥y2);(match v3 with
|true=>k (0:Int) (3:Int)
|false=>(match (!(a0.1==0)) with
|true=>let v4:=IntKind.u64.wrap (Int.tdiv a1 a0.1);let v5:=IntKind.i64.wrap v4;(match (!(a0.1==0)) with
|true=>let v6:=Int.tmod a1 a0.1;F317 R a0 v5 v6 fun y7 y8=>
k y7 y8
|false=>none)
|false=>none)))
theorem q298 (F295:Pp) (F297:zaq) (F317:znd):EQ (en298 (p298 F295 F297 F317)) (sE 0 28 [] [ze4 F295,zvb F297,en317 F317] []) Tryz.f298 [(.tmp 4,3,false),(.tmp 5,40,false)]:=fun _ _ _=>by kernel_rfl
def F298:znh:=p298 F295 F297 F317
theorem ok298:OKP (en298 F298):=ST.ok0 (q298 F295 F297 F317) (Aa zst (Aa ok297 (Aa ok317 Ab))) Tryz.func298
abbrev znn:=(R:Type)→Tq44→Tq40→Int→(Int→Tq40→Int→Option R)→Option R
def en275 (F:znn):Ent:=eV 275 [Kq44,Kq40,(.int .i64)] [(.int .i64),Kq40,(.int .i64)] F
def p275 (F295:Pp) (F296:zar) (F297:zaq) (F298:znh):znn:=fun R a0 a1 a2 k=>
F295 R a0 fun y1=>
(match (!y1) with
|true=>k (0:Int) a1 (1:Int)
|false=>F297 R a0 fun y2=>
F296 R a1 y2 a2 fun y3 y4 y5=>
let v6:=y5 !=0;(match v6 with
|true=>k (0:Int) y4 y5
|false=>F298 R a0 y3 fun y7 y8=>
k y7 y4 y8))
theorem q275 (F295:Pp) (F296:zar) (F297:zaq) (F298:znh):EQ (en275 (p275 F295 F296 F297 F298)) (sE 0 39 [] [ze4 F295,zvc F296,zvb F297,en298 F298] []) Tryz.f275 [(.tmp 6,3,false),(.cell 7 225,225,false),(.tmp 8,40,false)]:=fun _ _ _=>by kernel_rfl
def F275:znn:=p275 F295 F296 F297 F298
theorem ok275:OKP (en275 F275):=ST.ok0 (q275 F295 F296 F297 F298) (Aa zst (Aa ok296 (Aa ok297 (Aa ok298 Ab)))) Tryz.func275
abbrev znt:=(R:Type)→Tq40→Int→LI→(Int→Tq40→Int→Option R)→Option R
def en244 (F:znt):Ent:=eV 244 [Kq40,(.int .i64),(.sl (.int .u64))] [(.int .i64),Kq40,(.int .i64)] F
def p244 (F274:zno) (F275:znn):znt:=fun R a0 a1 a2 k=>
F274 R a2 fun y1 y2=>
let v3:=y2 !=0;(match v3 with
|true=>k (0:Int) a0 y2
|false=>F275 R y1 a0 a1 fun y4 y5 y6=>
k y4 y5 y6)
theorem q244 (F274:zno) (F275:znn):EQ (en244 (p244 F274 F275)) (sE 0 27 [] [en274 F274,en275 F275] []) Tryz.f244 [(.tmp 6,3,false),(.cell 7 225,225,false),(.tmp 8,40,false)]:=fun _ _ _=>by kernel_rfl
def F244:znt:=p244 F274 F275
theorem ok244:OKP (en244 F244):=ST.ok0 (q244 F274 F275) (Aa ok274 (Aa ok275 Ab)) Tryz.func244
abbrev zn6:=(R:Type)→LI→Int→Int→LI→(Int→Int→Option R)→Option R
def en191 (F:zn6):Ent:=eV 191 [(.arr 32 (.int .u8)),(.int .i64),(.int .i64),(.sl (.int .u64))] [(.int .i64),(.int .i64)] F
def p191 (F243:Pq) (F244:znt) (F245:S4):zn6:=fun R a0 a1 a2 a3 k=>
F243 R (a0,a2,()) a1 fun y1=>
(match (!y1) with
|true=>k (0:Int) (1:Int)
|false=>F245 R (a0,a2,()) (2:Int) a1 fun y2=>
F244 R y2 a2 a3 fun y3 y4 y5=>
k y3 y5)
theorem q191 (F243:Pq) (F244:znt) (F245:S4):EQ (en191 (p191 F243 F244 F245)) (sE 0 33 [] [zkf F243,en244 F244,zke F245] []) Tryz.f191 [(.tmp 8,3,false),(.tmp 9,40,false)]:=fun _ _ _=>by kernel_rfl
def F191:zn6:=p191 F243 F244 F245
theorem ok191:OKP (en191 F191):=ST.ok0 (q191 F243 F244 F245) (Aa zsv (Aa ok244 (Aa ok245 Ab))) Tryz.func191
abbrev zfu:=(R:Type)→Tq31→Tq11→(Int→Tq31→Option R)→Option R
def en136 (F:zfu):Ent:=eM 136 [(true,Kq31),(false,Kq11)] [(false,(.int .i64))] F
def p136 (F188:S7) (F190:Kh) (F191:zn6):zfu:=fun R a0 a1 k=>
F188 R a0 a1.2.2.2.2.1 fun y1 p2=>
let v3:=y1 !=0;(match v3 with
|true=>k y1 p2
|false=>F190 R p2.1.2.2.1 fun y4=>
F191 R p2.1.2.2.2.1.2.1 a1.2.2.2.2.1 p2.1.1.2.2.2.1 y4 fun y5 y6=>
let v7:=([y5]:LI);k y6 (p2.1,(p2.2.1.1,p2.2.1.2.1,v7,p2.2.1.2.2.2),p2.2.2))
theorem q136 (F188:S7) (F190:Kh) (F191:zn6):EQ (en136 (p136 F188 F190 F191)) (sE 1 46 [] [zkl F188,Zd F190,en191 F191] []) Tryz.f136 [(.tmp 4,40,false)]:=fun _ _ _=>by kernel_rfl
def F136:zfu:=p136 F188 F190 F191
theorem ok136:OKP (en136 F136):=ST.ok0 (q136 F188 F190 F191) (Aa ok188 (Aa zig (Aa ok191 Ab))) Tryz.func136
abbrev zap:=(R:Type)→Int→Tq40→Int→(Bool→Option R)→Option R
def en299 (F:zap):Ent:=eV 299 [(.int .i64),Kq40,(.int .i64)] [.bool] F
def p299 (F318:Me):zap:=fun R a0 a1 a2 k=>
let v1:=decide (a0≥0);(match v1 with
|true=>let v2:=decide (a0≤256);(match v2 with
|true=>F318 R a1 fun y3=>
(match y3 with
|true=>let v4:=decide (a2>0);(match v4 with
|true=>let v5:=decide (a2≤64);k v5
|false=>k false)
|false=>k false)
|false=>k false)
|false=>k false)
theorem q299 (F318:Me):EQ (en299 (p299 F318)) (sE 0 25 [] [ze3 F318] []) Tryz.f299 [(.tmp 6,4,false)]:=fun _ _ _=>by kernel_rfl
def F299:zap:=p299 F318
theorem ok299:OKP (en299 F299):=ST.ok0 (q299 F318) (Aa zid Ab) Tryz.func299
abbrev zao:=(R:Type)→(LI×Unit)→(LI→Option R)→Option R
def en300 (F:zao):Ent:=eV 300 [(.pair (.sl (.int .u64)) .unit)] [(.sl (.int .u64))] F
abbrev zp3 (Z:Type):=Int→LI→Z
abbrev zzv (R:Type):=(LI→Option R)→Option R
abbrev Lf:=(R:Type)→zp3 (zzv R)
def Yd (L:Lf):LEnt:=lM 3 [.fix 3 (.own 1 0),.val 4 (.int .i64),.row 1 (.int .u64) false] 2 [(.exit 0,[.fix 3 (.own 1 0),.row 1 (.int .u64) false])] L
def e300 (F289:Kf) (F290:Gt) (L3:Lf):=sE 0 36 [] [zve F289,ze5 F290] [Yd L3]
def zci (F290:Gt) (R:Type):zp3 (zp3 (Option R)→zzv R):=fun x1 x2 kc k0=>
let v3:=decide (x1>0);(match v3 with
|true=>F290 R x1 fun y4=>
let v5:=IntKind.i64.wrap (x1+y4);let v6:=(x2.length:Int);let v7:=decide (v5≤v6);(match v7 with
|true=>let v8:=IntKind.i64.wrap (v5 - 1);(match bnd v8 x2.length with
|true=>let v9:=x2.getD v8.toNat 0;let v10:=IntKind.i64.wrap (x1 - 1);(match bnd v10 x2.length with
|true=>let v11:=x2.getD v10.toNat 0;let v12:=IntKind.u64.wrap (v9 - v11);(match bnd v8 x2.length with
|true=>let v13:=x2.set v8.toNat v12;let v14:=IntKind.i64.wrap (x1 - 1);kc v14 v13
|false=>none)
|false=>none)
|false=>none)
|false=>let v15:=IntKind.i64.wrap (x1 - 1);kc v15 x2)
|false=>k0 x2)
theorem q300_3 (F289:Kf) (F290:Gt) (L3:Lf):LEQ (Yd L3) (e300 F289 F290 L3) Tryz.f300 (zci F290):=fun _ _ _ _=>by kernel_rfl
def Mw:Nat→Lf
 | 0=>fun _ _ _ _=>none
 | n+1=>fun R x1 x2 k0=>zci F290 R x1 x2 (fun x1 x2=>Mw n R x1 x2 k0) k0
def p300 (F289:Kf) (L3:Lf):zao:=fun R a0 k=>
F289 R a0.1 fun y1=>
let v2:=(y1.length:Int);L3 R v2 y1 (fun x3=>
k x3)
theorem q300 (F289:Kf) (F290:Gt) (L3:Lf):EQ (en300 (p300 F289 L3)) (e300 F289 F290 L3) Tryz.f300 [(.tmp 2,182,false)]:=fun _ _ _=>by kernel_rfl
def F300:zao:=p300 F289 (Mw FUEL)
theorem ztg:LKP (Yd (Mw FUEL)) 0 36 3 Tryz.f300:=ST.lok (q300_3 F289 F290 (Mw FUEL)) (Aa zeh (Aa Un Ab)) [] trivial
theorem ok300:OKP (en300 F300):=ST.ok1 (q300 F289 F290 (Mw FUEL)) (Aa zeh (Aa Un Ab)) Tryz.func300 [3] ⟨⟨_,rfl,ztg⟩,trivial⟩
abbrev zag:=(R:Type)→(LI×Unit)→Int→(Int→Int→Option R)→Option R
def en319 (F:zag):Ent:=eV 319 [(.pair (.sl (.int .u64)) .unit),(.int .i64)] [(.int .u64),(.int .i64)] F
def p319 (F324:zad) (F325:Md):zag:=fun R a0 a1 k=>
let v1:=decide (a1<0);(match v1 with
|true=>k (0:Int) (3:Int)
|false=>F325 R a0 fun y2=>
let v3:=decide (a1≥y2);(match v3 with
|true=>k (0:Int) (3:Int)
|false=>let v4:=IntKind.i64.wrap (a1+1);F324 R a0 v4 fun y5=>
F324 R a0 a1 fun y6=>
let v7:=IntKind.u64.wrap (y5 - y6);k v7 (0:Int)))
theorem q319 (F324:zad) (F325:Md):EQ (en319 (p319 F324 F325)) (sE 0 22 [] [zu7 F324,zkb F325] []) Tryz.f319 [(.tmp 4,32,false),(.tmp 5,40,false)]:=fun _ _ _=>by kernel_rfl
def F319:zag:=p319 F324 F325
theorem ok319:OKP (en319 F319):=ST.ok0 (q319 F324 F325) (Aa ok324 (Aa zic Ab)) Tryz.func319
abbrev zan:=(R:Type)→(LI×Unit)→Int→Int→((LI×Unit)→Int→Option R)→Option R
def en301 (F:zan):Ent:=eV 301 [(.pair (.sl (.int .u64)) .unit),(.int .i64),(.int .u64)] [(.pair (.sl (.int .u64)) .unit),(.int .i64)] F
abbrev zp2 (Z:Type):=Int→Int→Int→(LI×Unit)→LI→Z
abbrev zzu (R:Type):=((LI×Unit)→LI→Option R)→Option R
abbrev Le:=(R:Type)→zp2 (zzu R)
def Yc (L:Le):LEnt:=lM 9 [.val 2 (.int .u64),.fix 6 (.ptr 1 [] (.pair (.sl (.int .u64)) .unit)),.val 8 (.int .u64),.fix 12 (.own 2 0),.val 13 (.int .i64),.var 1 (.pair (.sl (.int .u64)) .unit) false,.row 2 (.int .u64) false] 3 [(.exit 0,[.fix 6 (.ptr 1 [] (.pair (.sl (.int .u64)) .unit)),.fix 12 (.own 2 0),.var 1 (.pair (.sl (.int .u64)) .unit) false,.row 2 (.int .u64) false])] L
def e301 (F225:Kg) (F289:Kf) (F290:Gt) (F308:Ke) (F319:zag) (L9:Le):=sE 0 64 [] [zki F225,zve F289,ze5 F290,zkc F308,en319 F319] [Yc L9]
def zhi (F290:Gt) (R:Type):zp2 (zp2 (Option R)→zzu R):=fun x1 x2 x3 x4 x5 kc k0=>
let v6:=(x5.length:Int);let v7:=decide (x3≤v6);(match v7 with
|true=>let v8:=IntKind.i64.wrap (x3 - 1);let v9:=IntKind.i64.wrap (x3 - 1);(match bnd v9 x5.length with
|true=>let v10:=x5.getD v9.toNat 0;let v11:=IntKind.u64.wrap (v10 - x2);let v12:=IntKind.u64.wrap (v11+x1);(match bnd v8 x5.length with
|true=>let v13:=x5.set v8.toNat v12;F290 R x3 fun y14=>
let v15:=IntKind.i64.wrap (x3+y14);kc x1 x2 v15 x4 v13
|false=>none)
|false=>none)
|false=>k0 x4 x5)
theorem q301_9 (F225:Kg) (F289:Kf) (F290:Gt) (F308:Ke) (F319:zag) (L9:Le):LEQ (Yc L9) (e301 F225 F289 F290 F308 F319 L9) Tryz.f301 (zhi F290):=fun _ _ _ _=>by kernel_rfl
def O6:Nat→Le
 | 0=>fun _ _ _ _ _ _ _=>none
 | n+1=>fun R x1 x2 x3 x4 x5 k0=>zhi F290 R x1 x2 x3 x4 x5 (fun x1 x2 x3 x4 x5=>O6 n R x1 x2 x3 x4 x5 k0) k0
def p301 (F225:Kg) (F289:Kf) (F308:Ke) (F319:zag) (L9:Le):zan:=fun R a0 a1 a2 k=>
F319 R a0 a1 fun y1 y2=>
let v3:=y2 !=0;(match v3 with
|true=>k (([]:LI),()) y2
|false=>F308 R a0 fun y4=>
let v5:=IntKind.u64.wrap (y4 - y1);F225 R v5 a2 fun y6 y7=>
(match (!y7) with
|true=>k (([]:LI),()) (11:Int)
|false=>F289 R a0.1 fun y8=>
let v9:=IntKind.i64.wrap (a1+1);L9 R a2 y1 v9 (([]:LI),()) y8 (fun x10 x11=>
k (x11,()) (0:Int))))
theorem q301 (F225:Kg) (F289:Kf) (F290:Gt) (F308:Ke) (F319:zag) (L9:Le):EQ (en301 (p301 F225 F289 F308 F319 L9)) (e301 F225 F289 F290 F308 F319 L9) Tryz.f301 [(.cell 6 221,221,false),(.tmp 7,40,false)]:=fun _ _ _=>by kernel_rfl
def F301:zan:=p301 F225 F289 F308 F319 (O6 FUEL)
theorem ztf:LKP (Yc (O6 FUEL)) 0 64 9 Tryz.f301:=ST.lok (q301_9 F225 F289 F290 F308 F319 (O6 FUEL)) (Aa zie (Aa zeh (Aa Un (Aa zeg (Aa ok319 Ab))))) [] trivial
theorem ok301:OKP (en301 F301):=ST.ok1 (q301 F225 F289 F290 F308 F319 (O6 FUEL)) (Aa zie (Aa zeh (Aa Un (Aa zeg (Aa ok319 Ab))))) Tryz.func301 [9] ⟨⟨_,rfl,ztf⟩,trivial⟩
abbrev znk:=(R:Type)→(LI×Unit)→Int→Tq40→Int→(LI→Tq40→Int→Option R)→Option R
def en278 (F:znk):Ent:=eV 278 [(.pair (.sl (.int .u64)) .unit),(.int .i64),Kq40,(.int .i64)] [(.sl (.int .i64)),Kq40,(.int .i64)] F
abbrev zp8 (Z:Type):=Int→Int→(LI×Unit)→Tq40→LI→Tq40→Z
abbrev zz0 (R:Type):=(Int→Tq40→Option R)→(Tq40→LI→Tq40→Option R)→Option R
abbrev Li:=(R:Type)→zp8 (zz0 R)
def Yg (L:Li):LEnt:=lM 5 [.val 1 (.int .i64),.val 3 (.int .i64),.fix 4 (.ptr 0 [] (.pair (.sl (.int .u64)) .unit)),.fix 6 (.ptr 1 [] Kq40),.fix 8 (.own 2 0),.fix 9 (.ptr 3 [] Kq40),.var 0 (.pair (.sl (.int .u64)) .unit) false,.var 1 Kq40 false,.row 2 (.int .i64) false,.var 3 Kq40 false] 4 [(.ret,[.fix 8 .nil,.fix 9 (.ptr 3 [] Kq40),.val 10 (.int .i64),.var 3 Kq40 false]),(.exit 1,[.fix 6 (.ptr 1 [] Kq40),.fix 8 (.own 2 0),.fix 9 (.ptr 3 [] Kq40),.var 1 Kq40 false,.row 2 (.int .i64) false,.var 3 Kq40 false])] L
def e278 (F189:S6) (F291:Sy) (F299:zap) (F300:zao) (F301:zan) (L5:Li):=sE 0 61 [(0,2)] [zvr F189,zvd F291,en299 F299,en300 F300,en301 F301] [Yg L5]
def zcj (F291:Sy) (F301:zan) (R:Type):zp8 (zp8 (Option R)→zz0 R):=fun x1 x2 x3 x4 x5 x6 kc k0 k1=>
let v7:=(x5.length:Int);let v8:=decide (v7<x1);(match v8 with
|true=>F291 R x3 x4 x2 fun y9 y10 y11=>
let v12:=y11 !=0;(match v12 with
|true=>k0 y11 y10
|false=>let v13:=([y9]:LI);(match (decide (x5.length+v13.length≤17592186044416)) with
|true=>let v14:=x5++v13;F301 R x3 y9 (0:Int) fun y15 y16=>
let v17:=y16 !=0;(match v17 with
|true=>k0 y16 y10
|false=>kc x1 x2 y15 y10 v14 x6)
|false=>none))
|false=>k1 x4 x5 x6)
theorem q278_5 (F189:S6) (F291:Sy) (F299:zap) (F300:zao) (F301:zan) (L5:Li):LEQ (Yg L5) (e278 F189 F291 F299 F300 F301 L5) Tryz.f278 (zcj F291 F301):=fun _ _ _ _=>by kernel_rfl
def Mx:Nat→Li
 | 0=>fun _ _ _ _ _ _ _ _ _=>none
 | n+1=>fun R x1 x2 x3 x4 x5 x6 k0 k1=>zcj F291 F301 R x1 x2 x3 x4 x5 x6 (fun x1 x2 x3 x4 x5 x6=>Mx n R x1 x2 x3 x4 x5 x6 k0 k1) k0 k1
def p278 (F189:S6) (F299:zap) (F300:zao) (L5:Li):znk:=fun R a0 a1 a2 a3 k=>
F299 R a1 a2 a3 fun y1=>
(match (!y1) with
|true=>k ([]:LI) a2 (1:Int)
|false=>F300 R a0 fun y2=>
F189 R y2 fun y3=>
let v4:=decide (y3<a1);(match v4 with
|true=>k ([]:LI) a2 (12:Int)
|false=>L5 R a1 a3 a0 a2 ([]:LI) ((0:Int),([]:LI),(0:Int),(List.replicate 32 (0:Int)),(0:Int),(0:Int),()) (fun x5 x6=>
k ([]:LI) x6 x5) (fun x7 x8 x9=>
k x8 x7 (0:Int))))
theorem q278 (F189:S6) (F291:Sy) (F299:zap) (F300:zao) (F301:zan) (L5:Li):EQ (en278 (p278 F189 F299 F300 L5)) (e278 F189 F291 F299 F300 F301 L5) Tryz.f278 [(.tmp 8,36,false),(.cell 9 225,225,false),(.tmp 10,40,false)]:=fun _ _ _=>by kernel_rfl
def F278:znk:=p278 F189 F299 F300 (Mx FUEL)
theorem ztj:LKP (Yg (Mx FUEL)) 0 61 5 Tryz.f278:=ST.lok (q278_5 F189 F291 F299 F300 F301 (Mx FUEL)) (Aa ok189 (Aa ok291 (Aa ok299 (Aa ok300 (Aa ok301 Ab))))) [] trivial
theorem ok278:OKP (en278 F278):=ST.ok1 (q278 F189 F291 F299 F300 F301 (Mx FUEL)) (Aa ok189 (Aa ok291 (Aa ok299 (Aa ok300 (Aa ok301 Ab))))) Tryz.func278 [5] ⟨⟨_,rfl,ztj⟩,trivial⟩
abbrev zns:=(R:Type)→Int→Tq40→Int→LI→(LI→Tq40→Int→Option R)→Option R
def en246 (F:zns):Ent:=eV 246 [(.int .i64),Kq40,(.int .i64),(.sl (.int .u64))] [(.sl (.int .i64)),Kq40,(.int .i64)] F
def p246 (F272:Sz) (F278:znk):zns:=fun R a0 a1 a2 a3 k=>
F272 R a3 fun y1 y2=>
let v3:=y2 !=0;(match v3 with
|true=>k ([]:LI) a1 y2
|false=>F278 R y1 a0 a1 a2 fun y4 y5 y6=>
k y4 y5 y6)
theorem q246 (F272:Sz) (F278:znk):EQ (en246 (p246 F272 F278)) (sE 0 30 [] [zvf F272,en278 F278] []) Tryz.f246 [(.tmp 8,36,false),(.cell 9 225,225,false),(.tmp 10,40,false)]:=fun _ _ _=>by kernel_rfl
def F246:zns:=p246 F272 F278
theorem ok246:OKP (en246 F246):=ST.ok0 (q246 F272 F278) (Aa ok272 (Aa ok278 Ab)) Tryz.func246
abbrev zn5:=(R:Type)→LI→Int→Int→Int→LI→(LI→Int→Option R)→Option R
def en192 (F:zn5):Ent:=eV 192 [(.arr 32 (.int .u8)),(.int .i64),(.int .i64),(.int .i64),(.sl (.int .u64))] [(.sl (.int .i64)),(.int .i64)] F
def p192 (F243:Pq) (F245:S4) (F246:zns):zn5:=fun R a0 a1 a2 a3 a4 k=>
F243 R (a0,a3,()) a1 fun y1=>
(match (!y1) with
|true=>k ([]:LI) (1:Int)
|false=>F245 R (a0,a3,()) (3:Int) a1 fun y2=>
F246 R a2 y2 a3 a4 fun y3 y4 y5=>
k y3 y5)
theorem q192 (F243:Pq) (F245:S4) (F246:zns):EQ (en192 (p192 F243 F245 F246)) (sE 0 36 [] [zkf F243,zke F245,en246 F246] []) Tryz.f192 [(.tmp 10,36,false),(.tmp 11,40,false)]:=fun _ _ _=>by kernel_rfl
def F192:zn5:=p192 F243 F245 F246
theorem ok192:OKP (en192 F192):=ST.ok0 (q192 F243 F245 F246) (Aa zsv (Aa ok245 (Aa ok246 Ab))) Tryz.func192
abbrev zft:=(R:Type)→Tq31→Tq11→(Int→Tq31→Option R)→Option R
def en137 (F:zft):Ent:=eM 137 [(true,Kq31),(false,Kq11)] [(false,(.int .i64))] F
def p137 (F188:S7) (F190:Kh) (F192:zn5):zft:=fun R a0 a1 k=>
F188 R a0 a1.2.2.2.2.1 fun y1 p2=>
let v3:=y1 !=0;(match v3 with
|true=>k y1 p2
|false=>F190 R p2.1.2.2.1 fun y4=>
F192 R p2.1.2.2.2.1.2.1 a1.2.2.2.2.1 a1.2.1 p2.1.1.2.2.2.1 y4 fun y5 y6=>
k y6 (p2.1,(p2.2.1.1,p2.2.1.2.1,y5,p2.2.1.2.2.2),p2.2.2))
theorem q137 (F188:S7) (F190:Kh) (F192:zn5):EQ (en137 (p137 F188 F190 F192)) (sE 1 44 [] [zkl F188,Zd F190,en192 F192] []) Tryz.f137 [(.tmp 4,40,false)]:=fun _ _ _=>by kernel_rfl
def F137:zft:=p137 F188 F190 F192
theorem ok137:OKP (en137 F137):=ST.ok0 (q137 F188 F190 F192) (Aa ok188 (Aa zig (Aa ok192 Ab))) Tryz.func137
abbrev zfs:=(R:Type)→Tq31→Tq11→(Int→Tq31→Option R)→Option R
def en138 (F:zfs):Ent:=eM 138 [(true,Kq31),(false,Kq11)] [(false,(.int .i64))] F
def p138 (F180:Pr):zfs:=fun R a0 a1 k=>
F180 R a0 a1.2.1 fun y1 p2=>
let v3:=y1 !=0;(match v3 with
|true=>k y1 p2
|false=>(match bnd a1.2.1 p2.1.2.2.1.length with
|true=>let v4:=p2.1.2.2.1.getD a1.2.1.toNat ((List.replicate 32 0),0,0,());let v5:=a1.2.2.2.2.1==0;(match v5 with
|true=>k (0:Int) (p2.1,(p2.2.1.1,v4.2.1,p2.2.1.2.2),p2.2.2)
|false=>k (0:Int) (p2.1,(p2.2.1.1,v4.2.2.1,p2.2.1.2.2),p2.2.2))
|false=>none))
theorem q138 (F180:Pr):EQ (en138 (p138 F180)) (sE 1 38 [] [zkm F180] []) Tryz.f138 [(.tmp 4,40,false)]:=fun _ _ _=>by kernel_rfl
def F138:zfs:=p138 F180
theorem ok138:OKP (en138 F138):=ST.ok0 (q138 F180) (Aa ok180 Ab) Tryz.func138
abbrev zfr:=(R:Type)→Tq31→Tq11→(Int→Tq31→Option R)→Option R
def en139 (F:zfr):Ent:=eM 139 [(true,Kq31),(false,Kq11)] [(false,(.int .i64))] F
def p139:zfr:=fun R a0 a1 k=>
k (0:Int) (a0.1,(a0.2.1.1,a0.1.2.2.2.1.1,a0.2.1.2.2.1,a0.1.2.2.2.1.2.1,a0.2.1.2.2.2.2),a0.2.2)
theorem q139:EQ (en139 p139) (sE 1 25 [] [] []) Tryz.f139 [(.tmp 4,40,false)]:=fun _ _ _=>by kernel_rfl
def F139:zfr:=p139
theorem ok139:OKP (en139 F139):=ST.ok0 q139 Ab Tryz.func139
abbrev FT77:=(R:Type)→Tq11→(LI→Option R)→Option R
def en77 (F:FT77):Ent:=eV 77 [Kq11] [(.sl (.int .u8))] F
abbrev D77_6 (Z:Type):=(List Tq7)→Int→Int→Tq11→LI→Z
abbrev E77_6 (R:Type):=(LI→Option R)→Option R
abbrev Qs:=(R:Type)→D77_6 (E77_6 R)
def zi2 (L:Qs):LEnt:=lM 6 [.fix 1 (.ptr 0 [] Kq11),.fix 5 (.own 1 0),.val 24 (.sl Kq7),.val 25 (.int .i64),.val 26 (.int .i64),.var 0 Kq11 false,.row 1 (.int .u8) false] 2 [(.exit 0,[.fix 5 (.own 1 0),.row 1 (.int .u8) false])] L
def zxk (F169:zba) (R:Type):Env R:=⟨TT,EQT,0,6,Bq [],Bd [en169 F169] R,fun _ _ _=>none,[],Bf [],[],fun _ _ _ _=>none⟩
theorem zu3 (R:Type):Az Tryz.prog (zxk F169 R):=⟨tabOK,eqOK,Aq (Aa ok169 Ab),Bv,Ak,noYl⟩
def zxi (F115:Ki) (R:Type):Env R:=⟨TT,EQT,0,8,Bq [],Bd [Ze F115] R,fun _ _ _=>none,[],Bf [],[],fun _ _ _ _=>none⟩
theorem zu1 (R:Type):Az Tryz.prog (zxi F115 R):=⟨tabOK,eqOK,Aq (Aa zih Ab),Bv,Ak,noYl⟩
def zxg (F218:Nb) (R:Type):Env R:=⟨TT,EQT,0,12,Bq [(1,1)],Bd [zkk F218] R,fun _ _ _=>none,[],Bf [(175,xinl (zkq R) (Ai Tryz.f175) [.tmp 2] 1),(176,xinl (zkp R) (Ai Tryz.f176) [.tmp 2] 1)],[(FnV.fn 175),(FnV.fn 176)],fun _ _ _ _=>none⟩
theorem zuz (R:Type):Az Tryz.prog (zxg F218 R):=⟨tabOK,eqOK,Aq (Aa zsz Ab),Bv,(A5 (Bb (zc6 R) mixed Tryz.func175 (body:=Ai Tryz.f175) (by kernel_rfl) (by kernel_rfl) (by kernel_rfl) (res:=[.tmp 2]) (by kernel_rfl) (n:=1) (Nat.le_of_ble_eq_true rfl) (by kernel_rfl)) (A5 (Bb (zc5 R) mixed Tryz.func176 (body:=Ai Tryz.f176) (by kernel_rfl) (by kernel_rfl) (by kernel_rfl) (res:=[.tmp 2]) (by kernel_rfl) (n:=1) (Nat.le_of_ble_eq_true rfl) (by kernel_rfl)) Ak)),noYl⟩
def e77 (F88:FT88) (F115:Ki) (F169:zba) (F218:Nb) (L6:Qs) (R:Type):Env R:=⟨TT,EQT,0,38,Bq [(4,3),(8,4)],Bd [en88 F88,Ze F115,en169 F169,zkk F218] R,Bi [zi2 L6] R,[],Bf [(168,xinl (zxk F169 R) (Ai Tryz.f168) [.tmp 2] 1),(171,xinl (zxi F115 R) (Ai Tryz.f171) [.tmp 2] 1),(217,xinl (zxg F218 R) (Ai Tryz.f217) [.tmp 3] 2)],[(FnV.fn 168),(FnV.fn 171),(FnV.clo 217 (FnV.fn 175)),(FnV.clo 217 (FnV.fn 176))],fun _ _ _ _=>none⟩
def p77_6 (F115:Ki) (F169:zba) (F218:Nb) (R:Type):D77_6 (D77_6 (Option R)→E77_6 R):=fun x1 x2 x3 x4 x5 kc k0=>
let v6:=decide (x3<x2);(match v6 with
|true=>(match bnd x3 x1.length with
|true=>let v7:=x1.getD x3.toNat (0,FnV.nil,FnV.nil,());(match (FnV.same v7.2.1 (FnV.fn 168)) with
|true=>F169 R (List.take 32 (List.drop 0 x4.2.2.2.1)) fun y8=>
(match (decide (x5.length+y8.length≤140737488355328)) with
|true=>let v9:=x5++y8;let v10:=IntKind.i64.wrap (x3+1);kc x1 x2 v10 x4 v9
|false=>none)
|false=>(match (FnV.same v7.2.1 (FnV.fn 171)) with
|true=>F115 R x4.2.2.1 fun y11=>
(match (decide (x5.length+List.length (List.take 8 (List.drop 0 y11))≤140737488355328)) with
|true=>let v12:=x5++(List.take 8 (List.drop 0 y11));let v13:=IntKind.i64.wrap (x3+1);kc x1 x2 v13 x4 v12
|false=>none)
|false=>(match (FnV.same v7.2.1 (FnV.clo 217 (FnV.fn 175))) with
|true=>let v14:=IntKind.u32.wrap x4.2.1;F218 R v14 fun y15=>
(match (decide (x5.length+List.length (List.take 4 (List.drop 0 y15))≤140737488355328)) with
|true=>let v16:=x5++(List.take 4 (List.drop 0 y15));let v17:=IntKind.i64.wrap (x3+1);kc x1 x2 v17 x4 v16
|false=>none)
|false=>(match (FnV.same v7.2.1 (FnV.clo 217 (FnV.fn 176))) with
|true=>let v18:=IntKind.u32.wrap x4.2.2.2.2.1;F218 R v18 fun y19=>
(match (decide (x5.length+List.length (List.take 4 (List.drop 0 y19))≤140737488355328)) with
|true=>let v20:=x5++(List.take 4 (List.drop 0 y19));let v21:=IntKind.i64.wrap (x3+1);kc x1 x2 v21 x4 v20
|false=>none)
|false=>none))))
|false=>none)
|false=>k0 x5)
theorem q77_6 (F88:FT88) (F115:Ki) (F169:zba) (F218:Nb) (L6:Qs):LEQ (zi2 L6) (e77 F88 F115 F169 F218 L6) Tryz.f77 (p77_6 F115 F169 F218):=fun _ _ _ _=>by kernel_rfl
def V1:Nat→Qs
 | 0=>fun _ _ _ _ _ _ _=>none
 | n+1=>fun R x1 x2 x3 x4 x5 k0=>p77_6 F115 F169 F218 R x1 x2 x3 x4 x5 (fun x1 x2 x3 x4 x5=>V1 n R x1 x2 x3 x4 x5 k0) k0
def p77 (F88:FT88) (L6:Qs):FT77:=fun R a0 k=>
F88 R a0.1 fun y1 y2=>
(match (!y2) with
|true=>let v3:=IntKind.u8.wrap a0.2.2.2.2.1;let v4:=([v3]:LI);k v4
|false=>let v5:=IntKind.u8.wrap a0.1;let v6:=([v5]:LI);let v7:=(y1.length:Int);L6 R y1 v7 (0:Int) a0 v6 (fun x8=>
k x8))
theorem q77 (F88:FT88) (F115:Ki) (F169:zba) (F218:Nb) (L6:Qs):EQ (en77 (p77 F88 L6)) (e77 F88 F115 F169 F218 L6) Tryz.f77 [(.tmp 2,25,false)]:=fun _ _ _=>by kernel_rfl
def F77:FT77:=p77 F88 (V1 FUEL)
theorem env77 (R:Type):Az Tryz.prog (e77 F88 F115 F169 F218 (V1 FUEL) R):=⟨tabOK,eqOK,Aq (Aa ok88 (Aa zih (Aa ok169 (Aa zsz Ab)))),Bv,(A5 (Bb (zu3 R) mixed Tryz.func168 (body:=Ai Tryz.f168) (by kernel_rfl) (by kernel_rfl) (by kernel_rfl) (res:=[.tmp 2]) (by kernel_rfl) (n:=1) (Nat.le_of_ble_eq_true rfl) (by kernel_rfl)) (A5 (Bb (zu1 R) mixed Tryz.func171 (body:=Ai Tryz.f171) (by kernel_rfl) (by kernel_rfl) (by kernel_rfl) (res:=[.tmp 2]) (by kernel_rfl) (n:=1) (Nat.le_of_ble_eq_true rfl) (by kernel_rfl)) (A5 (Bb (zuz R) mixed Tryz.func217 (body:=Ai Tryz.f217) (by kernel_rfl) (by kernel_rfl) (by kernel_rfl) (res:=[.tmp 3]) (by kernel_rfl) (n:=2) (Nat.le_of_ble_eq_true rfl) (by kernel_rfl)) Ak))),noYl⟩
theorem lok77_6:LKP (zi2 (V1 FUEL)) 0 38 6 Tryz.f77:=ST.lok3 (q77_6 F88 F115 F169 F218 (V1 FUEL)) env77 (fun _=>rfl) (fun _=>rfl) (fun _=>rfl) [] trivial
theorem ok77:OKP (en77 F77):=ST.ok3 (q77 F88 F115 F169 F218 (V1 FUEL)) env77 Tryz.func77 (fun _=>rfl) (fun _=>rfl) (fun _=>rfl) [6] ⟨⟨_,rfl,lok77_6⟩,trivial⟩
abbrev FT76:=(R:Type)→Tq11→(Bool→Option R)→Option R
def en76 (F:FT76):Ent:=eV 76 [Kq11] [.bool] F
def p76 (F61:FT61) (F77:FT77) (F89:FT89):FT76:=fun R a0 k=>
let v1:=decide (a0.2.1<0);(match v1 with
|true=>k false
|false=>let v2:=decide (a0.2.1>4294967295);(match v2 with
|true=>k false
|false=>let v3:=decide (a0.2.2.2.2.1<0);(match v3 with
|true=>k false
|false=>let v4:=decide (a0.2.2.2.2.1>4294967295);(match v4 with
|true=>k false
|false=>F77 R a0 fun y5=>
F61 R y5 fun y6 y7=>
let v8:=Kd.eqv Kq11 y6 a0;(match v8 with
|true=>let v9:=(y7.length:Int);let v10:=v9==0;(match v10 with
|true=>F89 R y5 fun y11=>
k y11
|false=>k false)
|false=>k false)))))
theorem q76 (F61:FT61) (F77:FT77) (F89:FT89):EQ (en76 (p76 F61 F77 F89)) (sE 0 43 [] [en61 F61,en77 F77,en89 F89] []) Tryz.f76 [(.tmp 2,4,false)]:=fun _ _ _=>by kernel_rfl
def F76:FT76:=p76 F61 F77 F89
theorem ok76:OKP (en76 F76):=ST.ok0 (q76 F61 F77 F89) (Aa ok61 (Aa ok77 (Aa ok89 Ab))) Tryz.func76
abbrev FT62:=(R:Type)→Tq29→Tq11→(Tq29→Tq17→Option R)→Option R
def en62 (F:FT62):Ent:=eV 62 [Kq29,Kq11] [Kq29,Kq17] F
def e90i0 (R:Type):Env R:=⟨TT,EQT,0,3,Bq [],Bd [] R,fun _ _ _=>none,[],Bf [],[],fun _ _ _ _=>none⟩
theorem env90i0 (R:Type):Az Tryz.prog (e90i0 R):=⟨tabOK,eqOK,Aq Ab,Bv,Ak,noYl⟩
def e62 (F76:FT76) (F126:zf3) (F127:zf2) (F128:zf1) (F129:zf0) (F132:zfy) (F134:zfw) (F135:zfv) (F136:zfu) (F137:zft) (F138:zfs) (F139:zfr) (R:Type):Env R:=⟨TT,EQT,0,46,Bq [(1,0)],Bd [en76 F76,en126 F126,en127 F127,en128 F128,en129 F129,en132 F132,en134 F134,en135 F135,en136 F136,en137 F137,en138 F138,en139 F139] R,Bi [] R,[],Bf [(90,xinl (e90i0 R) (Ai Tryz.f90) [.tmp 0] 0)],[(FnV.fn 126),(FnV.fn 127),(FnV.fn 128),(FnV.fn 129),(FnV.fn 132),(FnV.fn 134),(FnV.fn 135),(FnV.fn 136),(FnV.fn 137),(FnV.fn 138),(FnV.fn 139)],fun _ _ _ _=>none⟩
def p62 (F76:FT76) (F126:zf3) (F127:zf2) (F128:zf1) (F129:zf0) (F132:zfy) (F134:zfw) (F135:zfv) (F136:zfu) (F137:zft) (F138:zfs) (F139:zfr):FT62:=fun R a0 a1 k=>
(match (Option.isNone (Bx (Kd.eqv (.int .i64)) ([]:List (Int×FnV)) (1:Int))) with
|true=>let v1:=([]:List (Int×FnV))++[((1:Int),(FnV.fn 126))];(match (Option.isNone (Bx (Kd.eqv (.int .i64)) v1 (2:Int))) with
|true=>let v2:=v1++[((2:Int),(FnV.fn 127))];(match (Option.isNone (Bx (Kd.eqv (.int .i64)) v2 (3:Int))) with
|true=>let v3:=v2++[((3:Int),(FnV.fn 128))];(match (Option.isNone (Bx (Kd.eqv (.int .i64)) v3 (4:Int))) with
|true=>let v4:=v3++[((4:Int),(FnV.fn 129))];(match (Option.isNone (Bx (Kd.eqv (.int .i64)) v4 (5:Int))) with
|true=>let v5:=v4++[((5:Int),(FnV.fn 132))];(match (Option.isNone (Bx (Kd.eqv (.int .i64)) v5 (6:Int))) with
|true=>let v6:=v5++[((6:Int),(FnV.fn 134))];(match (Option.isNone (Bx (Kd.eqv (.int .i64)) v6 (7:Int))) with
|true=>let v7:=v6++[((7:Int),(FnV.fn 135))];(match (Option.isNone (Bx (Kd.eqv (.int .i64)) v7 (8:Int))) with
|true=>let v8:=v7++[((8:Int),(FnV.fn 136))];(match (Option.isNone (Bx (Kd.eqv (.int .i64)) v8 (9:Int))) with
|true=>let v9:=v8++[((9:Int),(FnV.fn 137))];(match (Option.isNone (Bx (Kd.eqv (.int .i64)) v9 (10:Int))) with
|true=>let v10:=v9++[((10:Int),(FnV.fn 138))];(match (Option.isNone (Bx (Kd.eqv (.int .i64)) v10 (11:Int))) with
|true=>let v11:=v10++[((11:Int),(FnV.fn 139))];let v12:=Option.getD (Bx (Kd.eqv (.int .i64)) v11 a1.1) FnV.nil;let v13:=Option.isSome (Bx (Kd.eqv (.int .i64)) v11 a1.1);(match (!v13) with
|true=>k a0 ((2:Int),(0:Int),([]:LI),(List.replicate 32 (0:Int)),())
|false=>F76 R a1 fun y14=>
(match (!y14) with
|true=>k a0 ((2:Int),(0:Int),([]:LI),(List.replicate 32 (0:Int)),())
|false=>(match (FnV.same v12 (FnV.fn 126)) with
|true=>F126 R (a0,((0:Int),(0:Int),([]:LI),(List.replicate 32 (0:Int)),()),()) a1 fun y15 p16=>
let v17:=y15 !=0;(match v17 with
|true=>k a0 (y15,(0:Int),([]:LI),(List.replicate 32 (0:Int)),())
|false=>k p16.1 p16.2.1)
|false=>(match (FnV.same v12 (FnV.fn 127)) with
|true=>F127 R (a0,((0:Int),(0:Int),([]:LI),(List.replicate 32 (0:Int)),()),()) a1 fun y18 p19=>
let v20:=y18 !=0;(match v20 with
|true=>k a0 (y18,(0:Int),([]:LI),(List.replicate 32 (0:Int)),())
|false=>k p19.1 p19.2.1)
|false=>(match (FnV.same v12 (FnV.fn 128)) with
|true=>F128 R (a0,((0:Int),(0:Int),([]:LI),(List.replicate 32 (0:Int)),()),()) a1 fun y21 p22=>
let v23:=y21 !=0;(match v23 with
|true=>k a0 (y21,(0:Int),([]:LI),(List.replicate 32 (0:Int)),())
|false=>k p22.1 p22.2.1)
|false=>(match (FnV.same v12 (FnV.fn 129)) with
|true=>F129 R (a0,((0:Int),(0:Int),([]:LI),(List.replicate 32 (0:Int)),()),()) a1 fun y24 p25=>
let v26:=y24 !=0;(match v26 with
|true=>k a0 (y24,(0:Int),([]:LI),(List.replicate 32 (0:Int)),())
|false=>k p25.1 p25.2.1)
|false=>(match (FnV.same v12 (FnV.fn 132)) with
|true=>F132 R (a0,((0:Int),(0:Int),([]:LI),(List.replicate 32 (0:Int)),()),()) a1 fun y27 p28=>
let v29:=y27 !=0;(match v29 with
|true=>k a0 (y27,(0:Int),([]:LI),(List.replicate 32 (0:Int)),())
|false=>k p28.1 p28.2.1)
|false=>(match (FnV.same v12 (FnV.fn 134)) with
|true=>F134 R (a0,((0:Int),(0:Int),([]:LI),(List.replicate 32 (0:Int)),()),()) a1 fun y30 p31=>
let v32:=y30 !=0;(match v32 with
|true=>k a0 (y30,(0:Int),([]:LI),(List.replicate 32 (0:Int)),())
|false=>k p31.1 p31.2.1)
|false=>(match (FnV.same v12 (FnV.fn 135)) with
|true=>F135 R (a0,((0:Int),(0:Int),([]:LI),(List.replicate 32 (0:Int)),()),()) a1 fun y33 p34=>
let v35:=y33 !=0;(match v35 with
|true=>k a0 (y33,(0:Int),([]:LI),(List.replicate 32 (0:Int)),())
|false=>k p34.1 p34.2.1)
|false=>(match (FnV.same v12 (FnV.fn 136)) with
|true=>F136 R (a0,((0:Int),(0:Int),([]:LI),(List.replicate 32 (0:Int)),()),()) a1 fun y36 p37=>
let v38:=y36 !=0;(match v38 with
|true=>k a0 (y36,(0:Int),([]:LI),(List.replicate 32 (0:Int)),())
|false=>k p37.1 p37.2.1)
|false=>(match (FnV.same v12 (FnV.fn 137)) with
|true=>F137 R (a0,((0:Int),(0:Int),([]:LI),(List.replicate 32 (0:Int)),()),()) a1 fun y39 p40=>
let v41:=y39 !=0;(match v41 with
|true=>k a0 (y39,(0:Int),([]:LI),(List.replicate 32 (0:Int)),())
|false=>k p40.1 p40.2.1)
|false=>(match (FnV.same v12 (FnV.fn 138)) with
|true=>F138 R (a0,((0:Int),(0:Int),([]:LI),(List.replicate 32 (0:Int)),()),()) a1 fun y42 p43=>
let v44:=y42 !=0;(match v44 with
|true=>k a0 (y42,(0:Int),([]:LI),(List.replicate 32 (0:Int)),())
|false=>k p43.1 p43.2.1)
|false=>(match (FnV.same v12 (FnV.fn 139)) with
|true=>F139 R (a0,((0:Int),(0:Int),([]:LI),(List.replicate 32 (0:Int)),()),()) a1 fun y45 p46=>
let v47:=y45 !=0;(match v47 with
|true=>k a0 (y45,(0:Int),([]:LI),(List.replicate 32 (0:Int)),())
|false=>k p46.1 p46.2.1)
|false=>none)))))))))))))
|false=>none)
|false=>none)
|false=>none)
|false=>none)
|false=>none)
|false=>none)
|false=>none)
|false=>none)
|false=>none)
|false=>none)
|false=>none)
theorem q62 (F76:FT76) (F126:zf3) (F127:zf2) (F128:zf1) (F129:zf0) (F132:zfy) (F134:zfw) (F135:zfv) (F136:zfu) (F137:zft) (F138:zfs) (F139:zfr):EQ (en62 (p62 F76 F126 F127 F128 F129 F132 F134 F135 F136 F137 F138 F139)) (e62 F76 F126 F127 F128 F129 F132 F134 F135 F136 F137 F138 F139) Tryz.f62 [(.cell 4 38,38,false),(.cell 5 52,52,false)]:=fun _ _ _=>by kernel_rfl
def F62:FT62:=p62 F76 F126 F127 F128 F129 F132 F134 F135 F136 F137 F138 F139
theorem env62 (R:Type):Az Tryz.prog (e62 F76 F126 F127 F128 F129 F132 F134 F135 F136 F137 F138 F139 R):=⟨tabOK,eqOK,Aq (Aa ok76 (Aa ok126 (Aa ok127 (Aa ok128 (Aa ok129 (Aa ok132 (Aa ok134 (Aa ok135 (Aa ok136 (Aa ok137 (Aa ok138 (Aa ok139 Ab)))))))))))),Bv,(A5 (Bb (env90i0 R) mixed Tryz.func90 (body:=Ai Tryz.f90) (by kernel_rfl) (by kernel_rfl) (by kernel_rfl) (res:=[.tmp 0]) (by kernel_rfl) (n:=0) (Nat.le_of_ble_eq_true rfl) (by kernel_rfl)) Ak),noYl⟩
theorem ok62:OKP (en62 F62):=ST.ok3 (q62 F76 F126 F127 F128 F129 F132 F134 F135 F136 F137 F138 F139) env62 Tryz.func62 (fun _=>rfl) (fun _=>rfl) (fun _=>rfl) [] trivial
abbrev FT33:=(R:Type)→Tq29→(List Tq11)→(Tq29→(List Tq17)→Option R)→Option R
def en33 (F:FT33):Ent:=eV 33 [Kq29,(.sl Kq11)] [Kq29,(.sl Kq17)] F
abbrev D33_3 (Z:Type):=(List Tq11)→Int→Int→Tq29→Tq29→(List Tq17)→Z
abbrev E33_3 (R:Type):=(Tq29→Tq29→(List Tq17)→Option R)→Option R
abbrev Q0:=(R:Type)→D33_3 (E33_3 R)
def zja (L:Q0):LEnt:=lM 3 [.fix 2 (.ptr 0 [] Kq29),.fix 4 (.ptr 1 [] Kq29),.fix 6 (.own 2 0),.val 11 (.sl Kq11),.val 12 (.int .i64),.val 13 (.int .i64),.var 0 Kq29 false,.var 1 Kq29 false,.row 2 Kq17 false] 3 [(.exit 0,[.fix 2 (.ptr 0 [] Kq29),.fix 4 (.ptr 1 [] Kq29),.fix 6 (.own 2 0),.var 0 Kq29 false,.var 1 Kq29 false,.row 2 Kq17 false])] L
def e33 (F62:FT62) (L3:Q0):=sE 0 31 [(1,0)] [en62 F62] [zja L3]
def zsp (F62:FT62) (R:Type):D33_3 (D33_3 (Option R)→E33_3 R):=fun x1 x2 x3 x4 x5 x6 kc k0=>
let v7:=decide (x3<x2);(match v7 with
|true=>(match bnd x3 x1.length with
|true=>let v8:=x1.getD x3.toNat (0,0,0,(List.replicate 32 0),0,());F62 R x4 v8 fun y9 y10=>
let v11:=([y10]:(List Tq17));(match (decide (x6.length+v11.length≤1954687338268)) with
|true=>let v12:=x6++v11;let v13:=IntKind.i64.wrap (x3+1);kc x1 x2 v13 y9 x5 v12
|false=>none)
|false=>none)
|false=>k0 x4 x5 x6)
theorem q33_3 (F62:FT62) (L3:Q0):LEQ (zja L3) (e33 F62 L3) Tryz.f33 (zsp F62):=fun _ _ _ _=>by kernel_rfl
def Sw:Nat→Q0
 | 0=>fun _ _ _ _ _ _ _ _=>none
 | n+1=>fun R x1 x2 x3 x4 x5 x6 k0=>zsp F62 R x1 x2 x3 x4 x5 x6 (fun x1 x2 x3 x4 x5 x6=>Sw n R x1 x2 x3 x4 x5 x6 k0) k0
def p33 (L3:Q0):FT33:=fun R a0 a1 k=>
let v1:=(a1.length:Int);L3 R a1 v1 (0:Int) a0 (((0:Int),(0:Int),(0:Int),(0:Int),(0:Int),()),(0:Int),([]:(List Tq5)),((0:Int),(List.replicate 32 (0:Int)),(List.replicate 32 (0:Int)),([]:(List Tq3)),()),([]:LI),([]:LI),()) ([]:(List Tq17)) (fun x2 x3 x4=>
k x2 x4)
theorem q33 (F62:FT62) (L3:Q0):EQ (en33 (p33 L3)) (e33 F62 L3) Tryz.f33 [(.cell 4 38,38,false),(.tmp 5,39,false)]:=fun _ _ _=>by kernel_rfl
def F33:FT33:=p33 (Sw FUEL)
theorem lok33_3:LKP (zja (Sw FUEL)) 0 31 3 Tryz.f33:=ST.lok (q33_3 F62 (Sw FUEL)) (Aa ok62 Ab) [] trivial
theorem ok33:OKP (en33 F33):=ST.ok1 (q33 F62 (Sw FUEL)) (Aa ok62 Ab) Tryz.func33 [3] ⟨⟨_,rfl,lok33_3⟩,trivial⟩
abbrev FT10:=(R:Type)→Tq21→LI→LI→(Tq29→(List Tq17)→Int→Option R)→Option R
def en10 (F:FT10):Ent:=eV 10 [Kq21,(.arr 32 (.int .u8)),(.sl (.int .u8))] [Kq29,(.sl Kq17),(.int .i64)] F
def p10 (F31:FT31) (F32:FT32) (F33:FT33):FT10:=fun R a0 a1 a2 k=>
F31 R a0 a1 fun y1 y2=>
let v3:=y2 !=0;(match v3 with
|true=>k (((0:Int),(0:Int),(0:Int),(0:Int),(0:Int),()),(0:Int),([]:(List Tq5)),((0:Int),(List.replicate 32 (0:Int)),(List.replicate 32 (0:Int)),([]:(List Tq3)),()),([]:LI),([]:LI),()) ([]:(List Tq17)) y2
|false=>let v4:=(a2.length:Int);let v5:=decide (v4>100000);(match v5 with
|true=>k (((0:Int),(0:Int),(0:Int),(0:Int),(0:Int),()),(0:Int),([]:(List Tq5)),((0:Int),(List.replicate 32 (0:Int)),(List.replicate 32 (0:Int)),([]:(List Tq3)),()),([]:LI),([]:LI),()) ([]:(List Tq17)) (14:Int)
|false=>F32 R a2 fun y6=>
let v7:=(y6.length:Int);let v8:=decide (v7>2000);(match v8 with
|true=>k (((0:Int),(0:Int),(0:Int),(0:Int),(0:Int),()),(0:Int),([]:(List Tq5)),((0:Int),(List.replicate 32 (0:Int)),(List.replicate 32 (0:Int)),([]:(List Tq3)),()),([]:LI),([]:LI),()) ([]:(List Tq17)) (14:Int)
|false=>F33 R y1 y6 fun y9 y10=>
k y9 y10 (0:Int))))
theorem q10 (F31:FT31) (F32:FT32) (F33:FT33):EQ (en10 (p10 F31 F32 F33)) (sE 0 41 [] [en31 F31,en32 F32,en33 F33] []) Tryz.f10 [(.cell 6 38,38,false),(.tmp 7,39,false),(.tmp 8,40,false)]:=fun _ _ _=>by kernel_rfl
def F10:FT10:=p10 F31 F32 F33
theorem ok10:OKP (en10 F10):=ST.ok0 (q10 F31 F32 F33) (Aa ok31 (Aa ok32 (Aa ok33 Ab))) Tryz.func10
abbrev FT53:=(R:Type)→LI→(LI→Option R)→Option R
def en53 (F:FT53):Ent:=eM 53 [(false,(.arr 32 (.int .u8)))] [(true,(.int .u8))] F
abbrev D53_3 (Z:Type):=Int→LI→LI→Z
abbrev E53_3 (R:Type):=(LI→Option R)→Option R
abbrev Qx:=(R:Type)→D53_3 (E53_3 R)
def zi7 (L:Qx):LEnt:=lM 3 [.fix 1 (.ptr 0 [] (.arr 32 (.int .u8))),.fix 3 (.own 1 0),.val 4 (.int .i64),.var 0 (.arr 32 (.int .u8)) false,.row 1 (.int .u8) false] 2 [(.exit 0,[.fix 3 (.own 1 0),.row 1 (.int .u8) false])] L
def e53 (L3:Qx):=sE 0 16 [(1,0)] [] [zi7 L3]
def p53_3 (R:Type):D53_3 (D53_3 (Option R)→E53_3 R):=fun x1 x2 x3 kc k0=>
let v4:=decide (x1<32);(match v4 with
|true=>(match (bnd x1 (32:Int)) with
|true=>let v5:=x2.getD x1.toNat 0;let v6:=([v5]:LI);(match (decide (x3.length+v6.length≤140737488355328)) with
|true=>let v7:=x3++v6;let v8:=IntKind.i64.wrap (x1+1);kc v8 x2 v7
|false=>none)
|false=>none)
|false=>k0 x3)
theorem q53_3 (L3:Qx):LEQ (zi7 L3) (e53 L3) Tryz.f53 p53_3:=fun _ _ _ _=>by kernel_rfl
def Zy:Nat→Qx
 | 0=>fun _ _ _ _ _=>none
 | n+1=>fun R x1 x2 x3 k0=>p53_3 R x1 x2 x3 (fun x1 x2 x3=>Zy n R x1 x2 x3 k0) k0
def p53 (L3:Qx):FT53:=fun R a0 k=>
L3 R (0:Int) a0 ([]:LI) (fun x1=>
k x1)
theorem q53 (L3:Qx):EQ (en53 (p53 L3)) (e53 L3) Tryz.f53 [(.tmp 2,25,true)]:=fun _ _ _=>by kernel_rfl
def F53:FT53:=p53 (Zy FUEL)
theorem lok53_3:LKP (zi7 (Zy FUEL)) 0 16 3 Tryz.f53:=ST.lok (q53_3 (Zy FUEL)) Ab [] trivial
theorem ok53:OKP (en53 F53):=ST.ok1 (q53 (Zy FUEL)) Ab Tryz.func53 [3] ⟨⟨_,rfl,lok53_3⟩,trivial⟩
abbrev zor:=(R:Type)→LI→Int→(LI→Bool→Option R)→Option R
def en117 (F:zor):Ent:=eV 117 [(.sl (.int .u8)),(.int .u64)] [(.sl (.int .u8)),.bool] F
abbrev zrj (Z:Type):=Int→LI→Z
abbrev E117_4 (R:Type):=(Int→LI→Option R)→Option R
abbrev Jd:=(R:Type)→zrj (E117_4 R)
def Y6 (L:Jd):LEnt:=lM 4 [.val 1 (.int .u64),.fix 6 (.own 0 0),.row 0 (.int .u8) false] 1 [(.exit 0,[.val 1 (.int .u64),.fix 6 (.own 0 0),.row 0 (.int .u8) false])] L
abbrev zri (Z:Type):=Int→LI→LI→Z
abbrev E117_8 (R:Type):=(LI→Option R)→Option R
abbrev Jc:=(R:Type)→zri (E117_8 R)
def Y5 (L:Jc):LEnt:=lM 8 [.fix 6 (.own 0 0),.fix 7 (.ptr 1 [] (.arr 8 (.int .u8))),.val 8 (.int .i64),.row 0 (.int .u8) false,.var 1 (.arr 8 (.int .u8)) false] 2 [(.exit 2,[.fix 6 (.own 0 0),.row 0 (.int .u8) false])] L
def e117 (F54:FT54) (L4:Jd) (L8:Jc):=sE 0 45 [(3,0)] [en54 F54] [Y6 L4,Y5 L8]
def zcm (R:Type):zrj (zrj (Option R)→E117_4 R):=fun x1 x2 kc k0=>
let v3:=(x2.length:Int);let v4:=Int.tmod v3 (64:Int);let v5:=v4 !=56;(match v5 with
|true=>let v6:=([(0:Int)]:LI);(match (decide (x2.length+v6.length≤140737488355328)) with
|true=>let v7:=x2++v6;kc x1 v7
|false=>none)
|false=>k0 x1 x2)
theorem q117_4 (F54:FT54) (L4:Jd) (L8:Jc):LEQ (Y6 L4) (e117 F54 L4 L8) Tryz.f117 zcm:=fun _ _ _ _=>by kernel_rfl
def Kb:Nat→Jd
 | 0=>fun _ _ _ _=>none
 | n+1=>fun R x1 x2 k0=>zcm R x1 x2 (fun x1 x2=>Kb n R x1 x2 k0) k0
def zh8 (R:Type):zri (zri (Option R)→E117_8 R):=fun x1 x2 x3 kc k0=>
let v4:=decide (x1<8);(match v4 with
|true=>(match (bnd x1 (8:Int)) with
|true=>let v5:=x3.getD x1.toNat 0;let v6:=([v5]:LI);(match (decide (x2.length+v6.length≤140737488355328)) with
|true=>let v7:=x2++v6;let v8:=IntKind.i64.wrap (x1+1);kc v8 v7 x3
|false=>none)
|false=>none)
|false=>k0 x2)
theorem q117_8 (F54:FT54) (L4:Jd) (L8:Jc):LEQ (Y5 L8) (e117 F54 L4 L8) Tryz.f117 zh8:=fun _ _ _ _=>by kernel_rfl
def Ka:Nat→Jc
 | 0=>fun _ _ _ _ _=>none
 | n+1=>fun R x1 x2 x3 k0=>zh8 R x1 x2 x3 (fun x1 x2 x3=>Ka n R x1 x2 x3 k0) k0
def p117 (F54:FT54) (L4:Jd) (L8:Jc):zor:=fun R a0 a1 k=>
let v1:=decide (a1≥2305843009213693952);(match v1 with
|true=>k ([]:LI) false
|false=>let v2:=(a0.length:Int);let v3:=IntKind.u64.wrap v2;let v4:=Int.tmod a1 (64:Int);let v5:=v3 !=v4;(match v5 with
|true=>k ([]:LI) false
|false=>let v6:=([]:LI);(match (decide (v6.length+a0.length≤140737488355328)) with
|true=>let v7:=v6++a0;let v8:=([(128:Int)]:LI);(match (decide (v7.length+v8.length≤140737488355328)) with
|true=>let v9:=v7++v8;L4 R a1 v9 (fun x10 x11=>
let v12:=IntKind.u64.wrap ((8:Int)*x10);F54 R v12 fun y13=>
L8 R (0:Int) x11 y13 (fun x14=>
k x14 true))
|false=>none)
|false=>none)))
theorem q117 (F54:FT54) (L4:Jd) (L8:Jc):EQ (en117 (p117 F54 L4 L8)) (e117 F54 L4 L8) Tryz.f117 [(.tmp 4,25,false),(.tmp 5,4,false)]:=fun _ _ _=>by kernel_rfl
def F117:zor:=p117 F54 (Kb FUEL) (Ka FUEL)
theorem zua:LKP (Y6 (Kb FUEL)) 0 45 4 Tryz.f117:=ST.lok (q117_4 F54 (Kb FUEL) (Ka FUEL)) (Aa ok54 Ab) [] trivial
theorem zt9:LKP (Y5 (Ka FUEL)) 0 45 8 Tryz.f117:=ST.lok (q117_8 F54 (Kb FUEL) (Ka FUEL)) (Aa ok54 Ab) [] trivial
theorem ok117:OKP (en117 F117):=ST.ok1 (q117 F54 (Kb FUEL) (Ka FUEL)) (Aa ok54 Ab) Tryz.func117 [4,8] ⟨⟨_,rfl,zua⟩,⟨⟨_,rfl,zt9⟩,trivial⟩⟩
abbrev FT82:=(R:Type)→LI→(LI→Option R)→Option R
def en82 (F:FT82):Ent:=eV 82 [(.sl (.int .u8))] [(.sl (.int .u8))] F
def p82 (F117:zor):FT82:=fun R a0 k=>
let v1:=(a0.length:Int);let v2:=(a0.length:Int);let v3:=Int.tmod v2 (64:Int);let v4:=IntKind.i64.wrap (v1 - v3);(match (decide (0≤v4∧v4≤(a0.length:Int)∧(a0.length:Int)≤(a0.length:Int)∧(a0.length:Int)≤(a0.length:Int))) with
|true=>let v5:=List.take (Int.toNat ((a0.length:Int) - v4)) (List.drop v4.toNat a0);let v6:=(a0.length:Int);let v7:=IntKind.u64.wrap v6;F117 R v5 v7 fun y8 y9=>
let v10:=([]:LI);(match (decide (0≤(0:Int)∧(0:Int)≤v4∧v4≤v4∧v4≤(a0.length:Int))) with
|true=>let v11:=List.take (Int.toNat (v4 - 0)) (List.drop 0 a0);(match (decide (v10.length+v11.length≤140737488355328)) with
|true=>let v12:=v10++v11;(match (decide (v12.length+y8.length≤140737488355328)) with
|true=>let v13:=v12++y8;k v13
|false=>none)
|false=>none)
|false=>none)
|false=>none)
theorem q82 (F117:zor):EQ (en82 (p82 F117)) (sE 0 29 [(3,0)] [en117 F117] []) Tryz.f82 [(.tmp 2,25,false)]:=fun _ _ _=>by kernel_rfl
def F82:FT82:=p82 F117
theorem ok82:OKP (en82 F82):=ST.ok0 (q82 F117) (Aa ok117 Ab) Tryz.func82
abbrev FT81:=(R:Type)→LI→((List LI)→LI→Option R)→Option R
def en81 (F:FT81):Ent:=eV 81 [(.sl (.int .u8))] [(.sl (.arr 64 (.int .u8))),(.sl (.int .u8))] F
abbrev D81_3 (Z:Type):=LI→Int→(List LI)→Z
abbrev E81_3 (R:Type):=(LI→Int→(List LI)→Option R)→Option R
abbrev O2:=(R:Type)→D81_3 (E81_3 R)
def ziz (L:O2):LEnt:=lM 3 [.val 0 (.sl (.int .u8)),.fix 4 (.own 0 0),.val 5 (.int .i64),.row 0 (.arr 64 (.int .u8)) false] 1 [(.exit 0,[.val 0 (.sl (.int .u8)),.fix 4 (.own 0 0),.val 5 (.int .i64),.row 0 (.arr 64 (.int .u8)) false])] L
abbrev D81_6 (Z:Type):=LI→Int→Int→(List LI)→LI→Z
abbrev E81_6 (R:Type):=(LI→Int→(List LI)→LI→Option R)→Option R
abbrev O1:=(R:Type)→D81_6 (E81_6 R)
def ziy (L:O1):LEnt:=lM 6 [.val 0 (.sl (.int .u8)),.fix 4 (.own 0 0),.val 5 (.int .i64),.fix 6 (.ptr 1 [] (.arr 64 (.int .u8))),.val 7 (.int .i64),.row 0 (.arr 64 (.int .u8)) false,.var 1 (.arr 64 (.int .u8)) false] 2 [(.exit 2,[.val 0 (.sl (.int .u8)),.fix 4 (.own 0 0),.val 5 (.int .i64),.fix 6 (.ptr 1 [] (.arr 64 (.int .u8))),.row 0 (.arr 64 (.int .u8)) false,.var 1 (.arr 64 (.int .u8)) false])] L
def e81 (L3:O2) (L6:O1):=sE 0 35 [(1,0)] [] [ziz L3,ziy L6]
def p81_6 (R:Type):D81_6 (D81_6 (Option R)→E81_6 R):=fun x1 x2 x3 x4 x5 kc k0=>
let v6:=decide (x3<64);(match v6 with
|true=>let v7:=IntKind.i64.wrap (x2+x3);(match bnd v7 x1.length with
|true=>let v8:=x1.getD v7.toNat 0;(match (bnd x3 (64:Int)) with
|true=>let v9:=x5.set x3.toNat v8;let v10:=IntKind.i64.wrap (x3+1);kc x1 x2 v10 x4 v9
|false=>none)
|false=>none)
|false=>k0 x1 x2 x4 x5)
theorem q81_6 (L3:O2) (L6:O1):LEQ (ziy L6) (e81 L3 L6) Tryz.f81 p81_6:=fun _ _ _ _=>by kernel_rfl
def Vz:Nat→O1
 | 0=>fun _ _ _ _ _ _ _=>none
 | n+1=>fun R x1 x2 x3 x4 x5 k0=>p81_6 R x1 x2 x3 x4 x5 (fun x1 x2 x3 x4 x5=>Vz n R x1 x2 x3 x4 x5 k0) k0
def p81_3 (L6:O1) (R:Type):D81_3 (D81_3 (Option R)→E81_3 R):=fun x1 x2 x3 kc k0=>
let v4:=IntKind.i64.wrap (x2+64);let v5:=(x1.length:Int);let v6:=decide (v4≤v5);(match v6 with
|true=>L6 R x1 x2 (0:Int) x3 (List.replicate 64 (0:Int)) (fun x7 x8 x9 x10=>
let v11:=([x10]:(List LI));(match (decide (x9.length+v11.length≤2199023255552)) with
|true=>let v12:=x9++v11;let v13:=IntKind.i64.wrap (x8+64);kc x7 v13 v12
|false=>none))
|false=>k0 x1 x2 x3)
theorem q81_3 (L3:O2) (L6:O1):LEQ (ziz L3) (e81 L3 L6) Tryz.f81 (p81_3 L6):=fun _ _ _ _=>by kernel_rfl
def Su:Nat→O2
 | 0=>fun _ _ _ _ _=>none
 | n+1=>fun R x1 x2 x3 k0=>p81_3 (Vz FUEL) R x1 x2 x3 (fun x1 x2 x3=>Su n R x1 x2 x3 k0) k0
def p81 (L3:O2):FT81:=fun R a0 k=>
L3 R a0 (0:Int) ([]:(List LI)) (fun x1 x2 x3=>
(match (decide (0≤x2∧x2≤(x1.length:Int)∧(x1.length:Int)≤(x1.length:Int)∧(x1.length:Int)≤(x1.length:Int))) with
|true=>let v4:=List.take (Int.toNat ((x1.length:Int) - x2)) (List.drop x2.toNat x1);k x3 v4
|false=>none))
theorem q81 (L3:O2) (L6:O1):EQ (en81 (p81 L3)) (e81 L3 L6) Tryz.f81 [(.tmp 2,131,false),(.tmp 3,25,false)]:=fun _ _ _=>by kernel_rfl
def F81:FT81:=p81 (Su FUEL)
theorem lok81_6:LKP (ziy (Vz FUEL)) 0 35 6 Tryz.f81:=ST.lok (q81_6 (Su FUEL) (Vz FUEL)) Ab [] trivial
theorem lok81_3:LKP (ziz (Su FUEL)) 0 35 3 Tryz.f81:=ST.lok (q81_3 (Su FUEL) (Vz FUEL)) Ab [6] ⟨⟨_,rfl,lok81_6⟩,trivial⟩
theorem ok81:OKP (en81 F81):=ST.ok1 (q81 (Su FUEL) (Vz FUEL)) Ab Tryz.func81 [3] ⟨⟨_,rfl,lok81_3⟩,trivial⟩
abbrev FT85:=(R:Type)→(LI→Option R)→Option R
def en85 (F:FT85):Ent:=eV 85 [] [(.arr 8 (.int .u32))] F
def p85:FT85:=fun R k=>
let v1:=List.set (List.set (List.set (List.set (List.set (List.set (List.set (List.set (List.replicate 8 (0:Int)) 0 (1779033703:Int)) 1 (3144134277:Int)) 2 (1013904242:Int)) 3 (2773480762:Int)) 4 (1359893119:Int)) 5 (2600822924:Int)) 6 (528734635:Int)) 7 (1541459225:Int);k v1
theorem q85:EQ (en85 p85) (sE 0 2 [] [] []) Tryz.f85 [(.cell 0 137,137,false)]:=fun _ _ _=>by kernel_rfl
def F85:FT85:=p85
theorem ok85:OKP (en85 F85):=ST.ok0 q85 Ab Tryz.func85
abbrev Wq:=(R:Type)→Int→(Int→Option R)→Option R
def en212 (F:Wq):Ent:=eV 212 [(.int .u32)] [(.int .u32)] F
def p212 (F259:S3) (F260:Wm):Wq:=fun R a0 k=>
F259 R a0 (17:Int) fun y1=>
F259 R a0 (19:Int) fun y2=>
let v3:=ixor .u32 y1 y2;F260 R a0 (10:Int) fun y4=>
let v5:=ixor .u32 v3 y4;k v5
theorem q212 (F259:S3) (F260:Wm):EQ (en212 (p212 F259 F260)) (sE 0 11 [] [zkd F259,zvh F260] []) Tryz.f212 [(.tmp 2,47,false)]:=fun _ _ _=>by kernel_rfl
def F212:Wq:=p212 F259 F260
theorem ok212:OKP (en212 F212):=ST.ok0 (q212 F259 F260) (Aa ok259 (Aa ok260 Ab)) Tryz.func212
abbrev Wp:=(R:Type)→Int→(Int→Option R)→Option R
def en213 (F:Wp):Ent:=eV 213 [(.int .u32)] [(.int .u32)] F
def p213 (F259:S3) (F260:Wm):Wp:=fun R a0 k=>
F259 R a0 (7:Int) fun y1=>
F259 R a0 (18:Int) fun y2=>
let v3:=ixor .u32 y1 y2;F260 R a0 (3:Int) fun y4=>
let v5:=ixor .u32 v3 y4;k v5
theorem q213 (F259:S3) (F260:Wm):EQ (en213 (p213 F259 F260)) (sE 0 11 [] [zkd F259,zvh F260] []) Tryz.f213 [(.tmp 2,47,false)]:=fun _ _ _=>by kernel_rfl
def F213:Wp:=p213 F259 F260
theorem ok213:OKP (en213 F213):=ST.ok0 (q213 F259 F260) (Aa ok259 (Aa ok260 Ab)) Tryz.func213
abbrev Wv:=(R:Type)→LI→(LI→Option R)→Option R
def en165 (F:Wv):Ent:=eV 165 [(.arr 64 (.int .u8))] [(.arr 64 (.int .u32))] F
abbrev zq4 (Z:Type):=Int→LI→LI→LI→Z
abbrev E165_3 (R:Type):=(LI→LI→Option R)→Option R
abbrev I9:=(R:Type)→zq4 (E165_3 R)
def Y0 (L:I9):LEnt:=lM 3 [.fix 1 (.ptr 0 [] (.arr 64 (.int .u8))),.fix 2 (.ptr 1 [] (.arr 64 (.int .u32))),.fix 3 (.ptr 2 [] (.arr 64 (.int .u32))),.val 4 (.int .i64),.var 0 (.arr 64 (.int .u8)) false,.var 1 (.arr 64 (.int .u32)) false,.var 2 (.arr 64 (.int .u32)) false] 3 [(.exit 0,[.fix 2 (.ptr 1 [] (.arr 64 (.int .u32))),.fix 3 (.ptr 2 [] (.arr 64 (.int .u32))),.var 1 (.arr 64 (.int .u32)) false,.var 2 (.arr 64 (.int .u32)) false])] L
abbrev zq3 (Z:Type):=Int→LI→LI→Z
abbrev E165_7 (R:Type):=(LI→LI→Option R)→Option R
abbrev I8:=(R:Type)→zq3 (E165_7 R)
def Yz (L:I8):LEnt:=lM 7 [.fix 2 (.ptr 1 [] (.arr 64 (.int .u32))),.fix 3 (.ptr 2 [] (.arr 64 (.int .u32))),.val 5 (.int .i64),.var 1 (.arr 64 (.int .u32)) false,.var 2 (.arr 64 (.int .u32)) false] 3 [(.exit 2,[.fix 2 (.ptr 1 [] (.arr 64 (.int .u32))),.fix 3 (.ptr 2 [] (.arr 64 (.int .u32))),.var 1 (.arr 64 (.int .u32)) false,.var 2 (.arr 64 (.int .u32)) false])] L
def e165 (F56:FT56) (F212:Wq) (F213:Wp) (L3:I9) (L7:I8):=sE 0 61 [] [en56 F56,en212 F212,en213 F213] [Y0 L3,Yz L7]
def zh4 (F56:FT56) (R:Type):zq4 (zq4 (Option R)→E165_3 R):=fun x1 x2 x3 x4 kc k0=>
let v5:=decide (x1<16);(match v5 with
|true=>let v6:=IntKind.i64.wrap ((4:Int)*x1);(match (bnd v6 (64:Int)) with
|true=>let v7:=x2.getD v6.toNat 0;let v8:=IntKind.i64.wrap ((4:Int)*x1);let v9:=IntKind.i64.wrap (v8+1);(match (bnd v9 (64:Int)) with
|true=>let v10:=x2.getD v9.toNat 0;let v11:=IntKind.i64.wrap ((4:Int)*x1);let v12:=IntKind.i64.wrap (v11+2);(match (bnd v12 (64:Int)) with
|true=>let v13:=x2.getD v12.toNat 0;let v14:=IntKind.i64.wrap ((4:Int)*x1);let v15:=IntKind.i64.wrap (v14+3);(match (bnd v15 (64:Int)) with
|true=>let v16:=x2.getD v15.toNat 0;let v17:=List.set (List.set (List.set (List.set (List.replicate 4 (0:Int)) 0 v7) 1 v10) 2 v13) 3 v16;F56 R v17 fun y18=>
(match (bnd x1 (64:Int)) with
|true=>let v19:=x4.set x1.toNat y18;let v20:=IntKind.i64.wrap (x1+1);kc v20 x2 x3 v19
|false=>none)
|false=>none)
|false=>none)
|false=>none)
|false=>none)
|false=>k0 x3 x4)
theorem q165_3 (F56:FT56) (F212:Wq) (F213:Wp) (L3:I9) (L7:I8):LEQ (Y0 L3) (e165 F56 F212 F213 L3 L7) Tryz.f165 (zh4 F56):=fun _ _ _ _=>by kernel_rfl
def Mz:Nat→I9
 | 0=>fun _ _ _ _ _ _=>none
 | n+1=>fun R x1 x2 x3 x4 k0=>zh4 F56 R x1 x2 x3 x4 (fun x1 x2 x3 x4=>Mz n R x1 x2 x3 x4 k0) k0
def zh3 (F212:Wq) (F213:Wp) (R:Type):zq3 (zq3 (Option R)→E165_7 R):=fun x1 x2 x3 kc k0=>
let v4:=decide (x1<64);(match v4 with
|true=>let v5:=IntKind.i64.wrap (x1 - 2);(match (bnd v5 (64:Int)) with
|true=>let v6:=x3.getD v5.toNat 0;F212 R v6 fun y7=>
let v8:=IntKind.i64.wrap (x1 - 7);(match (bnd v8 (64:Int)) with
|true=>let v9:=x3.getD v8.toNat 0;let v10:=IntKind.u32.wrap (y7+v9);let v11:=IntKind.i64.wrap (x1 - 15);(match (bnd v11 (64:Int)) with
|true=>let v12:=x3.getD v11.toNat 0;F213 R v12 fun y13=>
let v14:=IntKind.u32.wrap (v10+y13);let v15:=IntKind.i64.wrap (x1 - 16);(match (bnd v15 (64:Int)) with
|true=>let v16:=x3.getD v15.toNat 0;let v17:=IntKind.u32.wrap (v14+v16);(match (bnd x1 (64:Int)) with
|true=>let v18:=x3.set x1.toNat v17;let v19:=IntKind.i64.wrap (x1+1);kc v19 x2 v18
|false=>none)
|false=>none)
|false=>none)
|false=>none)
|false=>none)
|false=>k0 x2 x3)
theorem q165_7 (F56:FT56) (F212:Wq) (F213:Wp) (L3:I9) (L7:I8):LEQ (Yz L7) (e165 F56 F212 F213 L3 L7) Tryz.f165 (zh3 F212 F213):=fun _ _ _ _=>by kernel_rfl
def J8:Nat→I8
 | 0=>fun _ _ _ _ _=>none
 | n+1=>fun R x1 x2 x3 k0=>zh3 F212 F213 R x1 x2 x3 (fun x1 x2 x3=>J8 n R x1 x2 x3 k0) k0
def p165 (L3:I9) (L7:I8):Wv:=fun R a0 k=>
L3 R (0:Int) a0 (List.replicate 64 (0:Int)) (List.replicate 64 (0:Int)) (fun x1 x2=>
L7 R (16:Int) x1 x2 (fun x3 x4=>
k x4))
theorem q165 (F56:FT56) (F212:Wq) (F213:Wp) (L3:I9) (L7:I8):EQ (en165 (p165 L3 L7)) (e165 F56 F212 F213 L3 L7) Tryz.f165 [(.cell 2 240,240,false)]:=fun _ _ _=>by kernel_rfl
def F165:Wv:=p165 (Mz FUEL) (J8 FUEL)
theorem zt4:LKP (Y0 (Mz FUEL)) 0 61 3 Tryz.f165:=ST.lok (q165_3 F56 F212 F213 (Mz FUEL) (J8 FUEL)) (Aa ok56 (Aa ok212 (Aa ok213 Ab))) [] trivial
theorem zt3:LKP (Yz (J8 FUEL)) 0 61 7 Tryz.f165:=ST.lok (q165_7 F56 F212 F213 (Mz FUEL) (J8 FUEL)) (Aa ok56 (Aa ok212 (Aa ok213 Ab))) [] trivial
theorem ok165:OKP (en165 F165):=ST.ok1 (q165 F56 F212 F213 (Mz FUEL) (J8 FUEL)) (Aa ok56 (Aa ok212 (Aa ok213 Ab))) Tryz.func165 [3,7] ⟨⟨_,rfl,zt4⟩,⟨⟨_,rfl,zt3⟩,trivial⟩⟩
abbrev Wt:=(R:Type)→Int→(Int→Option R)→Option R
def en167 (F:Wt):Ent:=eV 167 [(.int .i64)] [(.int .u32)] F
def p167:Wt:=fun R a0 k=>
let v1:=decide (a0<0);(match v1 with
|true=>k (0:Int)
|false=>let v2:=decide (a0>63);(match v2 with
|true=>k (0:Int)
|false=>let v3:=List.set (List.set (List.set (List.set (List.set (List.set (List.set (List.set (List.set (List.set (List.set (List.set (List.set (List.set (List.set (List.set (List.set (List.set (List.set (List.set (List.set (List.set (List.set (List.set (List.set (List.set (List.set (List.set (List.set (List.set (List.set (List.set (List.set (List.set (List.set (List.set (List.set (List.set (List.set (List.set (List.set (List.set (List.set (List.set (List.set (List.set (List.set (List.set (List.set (List.set (List.set (List.set (List.set (List.set (List.set (List.set (List.set (List.set (List.set (List.set (List.set (List.set (List.set (List.set (List.replicate 64 (0:Int)) 0 (1116352408:Int)) 1 (1899447441:Int)) 2 (3049323471:Int)) 3 (3921009573:Int)) 4 (961987163:Int)) 5 (1508970993:Int)) 6 (2453635748:Int)) 7 (2870763221:Int)) 8 (3624381080:Int)) 9 (310598401:Int)) 10 (607225278:Int)) 11 (1426881987:Int)) 12 (1925078388:Int)) 13 (2162078206:Int)) 14 (2614888103:Int)) 15 (3248222580:Int)) 16 (3835390401:Int)) 17 (4022224774:Int)) 18 (264347078:Int)) 19 (604807628:Int)) 20 (770255983:Int)) 21 (1249150122:Int)) 22 (1555081692:Int)) 23 (1996064986:Int)) 24 (2554220882:Int)) 25 (2821834349:Int)) 26 (2952996808:Int)) 27 (3210313671:Int)) 28 (3336571891:Int)) 29 (3584528711:Int)) 30 (113926993:Int)) 31 (338241895:Int)) 32 (666307205:Int)) 33 (773529912:Int)) 34 (1294757372:Int)) 35 (1396182291:Int)) 36 (1695183700:Int)) 37 (1986661051:Int)) 38 (2177026350:Int)) 39 (2456956037:Int)) 40 (2730485921:Int)) 41 (2820302411:Int)) 42 (3259730800:Int)) 43 (3345764771:Int)) 44 (3516065817:Int)) 45 (3600352804:Int)) 46 (4094571909:Int)) 47 (275423344:Int)) 48 (430227734:Int)) 49 (506948616:Int)) 50 (659060556:Int)) 51 (883997877:Int)) 52 (958139571:Int)) 53 (1322822218:Int)) 54 (1537002063:Int)) 55 (1747873779:Int)) 56 (1955562222:Int)) 57 (2024104815:Int)) 58 (2227730452:Int)) 59 (2361852424:Int)) 60 (2428436474:Int)) 61 (2756734187:Int)) 62 (3204031479:Int)) 63 (3329325298:Int);(match (bnd a0 (64:Int)) with
|true=>let v4:=v3.getD a0.toNat 0;k v4
|false=>none)))
theorem q167:EQ (en167 p167) (sE 0 12 [] [] []) Tryz.f167 [(.tmp 2,47,false)]:=fun _ _ _=>by kernel_rfl
def F167:Wt:=p167
theorem ok167:OKP (en167 F167):=ST.ok0 q167 Ab Tryz.func167
abbrev znz:=(R:Type)→Int→Int→Int→Int→(Int→Option R)→Option R
def en214 (F:znz):Ent:=eV 214 [(.int .u32),(.int .i64),(.int .i64),(.int .i64)] [(.int .u32)] F
def p214 (F259:S3):znz:=fun R a0 a1 a2 a3 k=>
F259 R a0 a1 fun y1=>
F259 R a0 a2 fun y2=>
let v3:=ixor .u32 y1 y2;F259 R a0 a3 fun y4=>
let v5:=ixor .u32 v3 y4;k v5
theorem q214 (F259:S3):EQ (en214 (p214 F259)) (sE 0 20 [] [zkd F259] []) Tryz.f214 [(.tmp 8,47,false)]:=fun _ _ _=>by kernel_rfl
def F214:znz:=p214 F259
theorem ok214:OKP (en214 F214):=ST.ok0 (q214 F259) (Aa ok259 Ab) Tryz.func214
abbrev zny:=(R:Type)→Int→Int→Int→(Int→Option R)→Option R
def en215 (F:zny):Ent:=eV 215 [(.int .u32),(.int .u32),(.int .u32)] [(.int .u32)] F
def p215:zny:=fun R a0 a1 a2 k=>
let v1:=iand .u32 a0 a1;let v2:=IntKind.u32.wrap ((4294967295:Int) - a0);let v3:=iand .u32 v2 a2;let v4:=ior .u32 v1 v3;k v4
theorem q215:EQ (en215 p215) (sE 0 15 [] [] []) Tryz.f215 [(.tmp 6,47,false)]:=fun _ _ _=>by kernel_rfl
def F215:zny:=p215
theorem ok215:OKP (en215 F215):=ST.ok0 q215 Ab Tryz.func215
abbrev znx:=(R:Type)→Int→Int→Int→(Int→Option R)→Option R
def en216 (F:znx):Ent:=eV 216 [(.int .u32),(.int .u32),(.int .u32)] [(.int .u32)] F
def p216:znx:=fun R a0 a1 a2 k=>
let v1:=iand .u32 a0 a1;let v2:=iand .u32 a0 a2;let v3:=ior .u32 v1 v2;let v4:=iand .u32 a1 a2;let v5:=ior .u32 v3 v4;k v5
theorem q216:EQ (en216 p216) (sE 0 18 [] [] []) Tryz.f216 [(.tmp 6,47,false)]:=fun _ _ _=>by kernel_rfl
def F216:znx:=p216
theorem ok216:OKP (en216 F216):=ST.ok0 q216 Ab Tryz.func216
abbrev Wu:=(R:Type)→LI→Int→Int→(LI→Option R)→Option R
def en166 (F:Wu):Ent:=eV 166 [(.arr 8 (.int .u32)),(.int .u32),(.int .u32)] [(.arr 8 (.int .u32))] F
def p166 (F214:znz) (F215:zny) (F216:znx):Wu:=fun R a0 a1 a2 k=>
let v1:=a0.getD 7 0;let v2:=a0.getD 4 0;F214 R v2 (6:Int) (11:Int) (25:Int) fun y3=>
let v4:=IntKind.u32.wrap (v1+y3);let v5:=a0.getD 4 0;let v6:=a0.getD 5 0;let v7:=a0.getD 6 0;F215 R v5 v6 v7 fun y8=>
let v9:=IntKind.u32.wrap (v4+y8);let v10:=IntKind.u32.wrap (v9+a2);let v11:=IntKind.u32.wrap (v10+a1);let v12:=a0.getD 0 0;F214 R v12 (2:Int) (13:Int) (22:Int) fun y13=>
let v14:=a0.getD 0 0;let v15:=a0.getD 1 0;let v16:=a0.getD 2 0;F216 R v14 v15 v16 fun y17=>
let v18:=IntKind.u32.wrap (y13+y17);let v19:=IntKind.u32.wrap (v11+v18);let v20:=a0.getD 0 0;let v21:=a0.getD 1 0;let v22:=a0.getD 2 0;let v23:=a0.getD 3 0;let v24:=IntKind.u32.wrap (v23+v11);let v25:=a0.getD 4 0;let v26:=a0.getD 5 0;let v27:=a0.getD 6 0;let v28:=List.set (List.set (List.set (List.set (List.set (List.set (List.set (List.set (List.replicate 8 (0:Int)) 0 v19) 1 v20) 2 v21) 3 v22) 4 v24) 5 v25) 6 v26) 7 v27;k v28
theorem q166 (F214:znz) (F215:zny) (F216:znx):EQ (en166 (p166 F214 F215 F216)) (sE 0 58 [] [en214 F214,en215 F215,en216 F216] []) Tryz.f166 [(.cell 6 137,137,false)]:=fun _ _ _=>by kernel_rfl
def F166:Wu:=p166 F214 F215 F216
theorem ok166:OKP (en166 F166):=ST.ok0 (q166 F214 F215 F216) (Aa ok214 (Aa ok215 (Aa ok216 Ab))) Tryz.func166
abbrev zbc:=(R:Type)→LI→LI→(LI→Option R)→Option R
def en118 (F:zbc):Ent:=eV 118 [(.arr 8 (.int .u32)),(.arr 64 (.int .u8))] [(.arr 8 (.int .u32))] F
abbrev zrh (Z:Type):=Int→LI→LI→LI→LI→Z
abbrev E118_4 (R:Type):=(LI→LI→LI→Option R)→Option R
abbrev Jb:=(R:Type)→zrh (E118_4 R)
def Y4 (L:Jb):LEnt:=lM 4 [.fix 2 (.ptr 0 [] (.arr 8 (.int .u32))),.fix 4 (.ptr 2 [] (.arr 8 (.int .u32))),.fix 5 (.ptr 3 [] (.arr 64 (.int .u32))),.fix 6 (.ptr 4 [] (.arr 8 (.int .u32))),.val 7 (.int .i64),.var 0 (.arr 8 (.int .u32)) false,.var 2 (.arr 8 (.int .u32)) false,.var 3 (.arr 64 (.int .u32)) false,.var 4 (.arr 8 (.int .u32)) false] 5 [(.exit 0,[.fix 2 (.ptr 0 [] (.arr 8 (.int .u32))),.fix 4 (.ptr 2 [] (.arr 8 (.int .u32))),.fix 6 (.ptr 4 [] (.arr 8 (.int .u32))),.var 0 (.arr 8 (.int .u32)) false,.var 2 (.arr 8 (.int .u32)) false,.var 4 (.arr 8 (.int .u32)) false])] L
abbrev zrg (Z:Type):=Int→LI→LI→LI→Z
abbrev E118_8 (R:Type):=(LI→LI→Option R)→Option R
abbrev Ja:=(R:Type)→zrg (E118_8 R)
def Y3 (L:Ja):LEnt:=lM 8 [.fix 2 (.ptr 0 [] (.arr 8 (.int .u32))),.fix 4 (.ptr 2 [] (.arr 8 (.int .u32))),.fix 6 (.ptr 4 [] (.arr 8 (.int .u32))),.val 8 (.int .i64),.var 0 (.arr 8 (.int .u32)) false,.var 2 (.arr 8 (.int .u32)) false,.var 4 (.arr 8 (.int .u32)) false] 5 [(.exit 2,[.fix 4 (.ptr 2 [] (.arr 8 (.int .u32))),.fix 6 (.ptr 4 [] (.arr 8 (.int .u32))),.var 2 (.arr 8 (.int .u32)) false,.var 4 (.arr 8 (.int .u32)) false])] L
def e118 (F165:Wv) (F166:Wu) (F167:Wt) (L4:Jb) (L8:Ja):=sE 0 37 [] [en165 F165,en166 F166,en167 F167] [Y4 L4,Y3 L8]
def zh7 (F166:Wu) (F167:Wt) (R:Type):zrh (zrh (Option R)→E118_4 R):=fun x1 x2 x3 x4 x5 kc k0=>
let v6:=decide (x1<64);(match v6 with
|true=>(match (bnd x1 (64:Int)) with
|true=>let v7:=x4.getD x1.toNat 0;F167 R x1 fun y8=>
F166 R x5 v7 y8 fun y9=>
let v10:=IntKind.i64.wrap (x1+1);kc v10 x2 x3 x4 y9
|false=>none)
|false=>k0 x2 x3 x5)
theorem q118_4 (F165:Wv) (F166:Wu) (F167:Wt) (L4:Jb) (L8:Ja):LEQ (Y4 L4) (e118 F165 F166 F167 L4 L8) Tryz.f118 (zh7 F166 F167):=fun _ _ _ _=>by kernel_rfl
def M1:Nat→Jb
 | 0=>fun _ _ _ _ _ _ _=>none
 | n+1=>fun R x1 x2 x3 x4 x5 k0=>zh7 F166 F167 R x1 x2 x3 x4 x5 (fun x1 x2 x3 x4 x5=>M1 n R x1 x2 x3 x4 x5 k0) k0
def zh6 (R:Type):zrg (zrg (Option R)→E118_8 R):=fun x1 x2 x3 x4 kc k0=>
let v5:=decide (x1<8);(match v5 with
|true=>(match (bnd x1 (8:Int)) with
|true=>let v6:=x4.getD x1.toNat 0;(match (bnd x1 (8:Int)) with
|true=>let v7:=x2.getD x1.toNat 0;let v8:=IntKind.u32.wrap (v6+v7);(match (bnd x1 (8:Int)) with
|true=>let v9:=x4.set x1.toNat v8;let v10:=IntKind.i64.wrap (x1+1);kc v10 x2 x3 v9
|false=>none)
|false=>none)
|false=>none)
|false=>k0 x3 x4)
theorem q118_8 (F165:Wv) (F166:Wu) (F167:Wt) (L4:Jb) (L8:Ja):LEQ (Y3 L8) (e118 F165 F166 F167 L4 L8) Tryz.f118 zh6:=fun _ _ _ _=>by kernel_rfl
def J9:Nat→Ja
 | 0=>fun _ _ _ _ _ _=>none
 | n+1=>fun R x1 x2 x3 x4 k0=>zh6 R x1 x2 x3 x4 (fun x1 x2 x3 x4=>J9 n R x1 x2 x3 x4 k0) k0
def p118 (F165:Wv) (L4:Jb) (L8:Ja):zbc:=fun R a0 a1 k=>
F165 R a1 fun y1=>
L4 R (0:Int) a0 (List.replicate 8 (0:Int)) y1 a0 (fun x2 x3 x4=>
L8 R (0:Int) x2 x3 x4 (fun x5 x6=>
k x6))
theorem q118 (F165:Wv) (F166:Wu) (F167:Wt) (L4:Jb) (L8:Ja):EQ (en118 (p118 F165 L4 L8)) (e118 F165 F166 F167 L4 L8) Tryz.f118 [(.cell 4 137,137,false)]:=fun _ _ _=>by kernel_rfl
def F118:zbc:=p118 F165 (M1 FUEL) (J9 FUEL)
theorem zt8:LKP (Y4 (M1 FUEL)) 0 37 4 Tryz.f118:=ST.lok (q118_4 F165 F166 F167 (M1 FUEL) (J9 FUEL)) (Aa ok165 (Aa ok166 (Aa ok167 Ab))) [] trivial
theorem zt7:LKP (Y3 (J9 FUEL)) 0 37 8 Tryz.f118:=ST.lok (q118_8 F165 F166 F167 (M1 FUEL) (J9 FUEL)) (Aa ok165 (Aa ok166 (Aa ok167 Ab))) [] trivial
theorem ok118:OKP (en118 F118):=ST.ok1 (q118 F165 F166 F167 (M1 FUEL) (J9 FUEL)) (Aa ok165 (Aa ok166 (Aa ok167 Ab))) Tryz.func118 [4,8] ⟨⟨_,rfl,zt8⟩,⟨⟨_,rfl,zt7⟩,trivial⟩⟩
abbrev FT84:=(R:Type)→LI→(List LI)→(LI→Option R)→Option R
def en84 (F:FT84):Ent:=eV 84 [(.arr 8 (.int .u32)),(.sl (.arr 64 (.int .u8)))] [(.arr 8 (.int .u32))] F
abbrev D84_2 (Z:Type):=(List LI)→Int→LI→LI→Z
abbrev E84_2 (R:Type):=(LI→LI→Option R)→Option R
abbrev Qr:=(R:Type)→D84_2 (E84_2 R)
def ziv (L:Qr):LEnt:=lM 2 [.val 1 (.sl (.arr 64 (.int .u8))),.fix 2 (.ptr 0 [] (.arr 8 (.int .u32))),.fix 4 (.ptr 1 [] (.arr 8 (.int .u32))),.val 5 (.int .i64),.var 0 (.arr 8 (.int .u32)) false,.var 1 (.arr 8 (.int .u32)) false] 2 [(.exit 0,[.fix 2 (.ptr 0 [] (.arr 8 (.int .u32))),.fix 4 (.ptr 1 [] (.arr 8 (.int .u32))),.var 0 (.arr 8 (.int .u32)) false,.var 1 (.arr 8 (.int .u32)) false])] L
def e84 (F118:zbc) (L2:Qr):=sE 0 19 [] [en118 F118] [ziv L2]
def p84_2 (F118:zbc) (R:Type):D84_2 (D84_2 (Option R)→E84_2 R):=fun x1 x2 x3 x4 kc k0=>
let v5:=(x1.length:Int);let v6:=decide (x2<v5);(match v6 with
|true=>(match bnd x2 x1.length with
|true=>let v7:=x1.getD x2.toNat (List.replicate 64 0);F118 R x3 v7 fun y8=>
let v9:=IntKind.i64.wrap (x2+1);kc x1 v9 y8 x4
|false=>none)
|false=>k0 x3 x4)
theorem q84_2 (F118:zbc) (L2:Qr):LEQ (ziv L2) (e84 F118 L2) Tryz.f84 (p84_2 F118):=fun _ _ _ _=>by kernel_rfl
def Zv:Nat→Qr
 | 0=>fun _ _ _ _ _ _=>none
 | n+1=>fun R x1 x2 x3 x4 k0=>p84_2 F118 R x1 x2 x3 x4 (fun x1 x2 x3 x4=>Zv n R x1 x2 x3 x4 k0) k0
def p84 (L2:Qr):FT84:=fun R a0 a1 k=>
L2 R a1 (0:Int) a0 (List.replicate 8 (0:Int)) (fun x1 x2=>
k x1)
theorem q84 (F118:zbc) (L2:Qr):EQ (en84 (p84 L2)) (e84 F118 L2) Tryz.f84 [(.cell 4 137,137,false)]:=fun _ _ _=>by kernel_rfl
def F84:FT84:=p84 (Zv FUEL)
theorem lok84_2:LKP (ziv (Zv FUEL)) 0 19 2 Tryz.f84:=ST.lok (q84_2 F118 (Zv FUEL)) (Aa ok118 Ab) [] trivial
theorem ok84:OKP (en84 F84):=ST.ok1 (q84 F118 (Zv FUEL)) (Aa ok118 Ab) Tryz.func84 [2] ⟨⟨_,rfl,lok84_2⟩,trivial⟩
abbrev FT83:=(R:Type)→LI→(LI→Option R)→Option R
def en83 (F:FT83):Ent:=eV 83 [(.arr 8 (.int .u32))] [(.arr 32 (.int .u8))] F
abbrev D83_3 (Z:Type):=Int→LI→LI→LI→Z
abbrev E83_3 (R:Type):=(LI→LI→Option R)→Option R
abbrev O0:=(R:Type)→D83_3 (E83_3 R)
def zix (L:O0):LEnt:=lM 3 [.fix 1 (.ptr 0 [] (.arr 8 (.int .u32))),.fix 2 (.ptr 1 [] (.arr 32 (.int .u8))),.fix 3 (.ptr 2 [] (.arr 32 (.int .u8))),.val 4 (.int .i64),.var 0 (.arr 8 (.int .u32)) false,.var 1 (.arr 32 (.int .u8)) false,.var 2 (.arr 32 (.int .u8)) false] 3 [(.exit 0,[.fix 2 (.ptr 1 [] (.arr 32 (.int .u8))),.fix 3 (.ptr 2 [] (.arr 32 (.int .u8))),.var 1 (.arr 32 (.int .u8)) false,.var 2 (.arr 32 (.int .u8)) false])] L
abbrev D83_7 (Z:Type):=Int→Int→LI→LI→LI→LI→Z
abbrev E83_7 (R:Type):=(Int→LI→LI→LI→Option R)→Option R
abbrev Oz:=(R:Type)→D83_7 (E83_7 R)
def ziw (L:Oz):LEnt:=lM 7 [.fix 1 (.ptr 0 [] (.arr 8 (.int .u32))),.fix 2 (.ptr 1 [] (.arr 32 (.int .u8))),.fix 3 (.ptr 2 [] (.arr 32 (.int .u8))),.val 4 (.int .i64),.fix 5 (.ptr 3 [] (.arr 4 (.int .u8))),.val 6 (.int .i64),.var 0 (.arr 8 (.int .u32)) false,.var 1 (.arr 32 (.int .u8)) false,.var 2 (.arr 32 (.int .u8)) false,.var 3 (.arr 4 (.int .u8)) false] 4 [(.exit 2,[.fix 1 (.ptr 0 [] (.arr 8 (.int .u32))),.fix 2 (.ptr 1 [] (.arr 32 (.int .u8))),.fix 3 (.ptr 2 [] (.arr 32 (.int .u8))),.val 4 (.int .i64),.var 0 (.arr 8 (.int .u32)) false,.var 1 (.arr 32 (.int .u8)) false,.var 2 (.arr 32 (.int .u8)) false])] L
def e83 (F70:FT70) (L3:O0) (L7:Oz):=sE 0 28 [] [en70 F70] [zix L3,ziw L7]
def p83_7 (R:Type):D83_7 (D83_7 (Option R)→E83_7 R):=fun x1 x2 x3 x4 x5 x6 kc k0=>
let v7:=decide (x2<4);(match v7 with
|true=>let v8:=IntKind.i64.wrap ((4:Int)*x1);let v9:=IntKind.i64.wrap (v8+x2);(match (bnd x2 (4:Int)) with
|true=>let v10:=x6.getD x2.toNat 0;(match (bnd v9 (32:Int)) with
|true=>let v11:=x5.set v9.toNat v10;let v12:=IntKind.i64.wrap (x2+1);kc x1 v12 x3 x4 v11 x6
|false=>none)
|false=>none)
|false=>k0 x1 x3 x4 x5)
theorem q83_7 (F70:FT70) (L3:O0) (L7:Oz):LEQ (ziw L7) (e83 F70 L3 L7) Tryz.f83 p83_7:=fun _ _ _ _=>by kernel_rfl
def Vy:Nat→Oz
 | 0=>fun _ _ _ _ _ _ _ _=>none
 | n+1=>fun R x1 x2 x3 x4 x5 x6 k0=>p83_7 R x1 x2 x3 x4 x5 x6 (fun x1 x2 x3 x4 x5 x6=>Vy n R x1 x2 x3 x4 x5 x6 k0) k0
def p83_3 (F70:FT70) (L7:Oz) (R:Type):D83_3 (D83_3 (Option R)→E83_3 R):=fun x1 x2 x3 x4 kc k0=>
let v5:=decide (x1<8);(match v5 with
|true=>(match (bnd x1 (8:Int)) with
|true=>let v6:=x2.getD x1.toNat 0;F70 R v6 fun y7=>
L7 R x1 (0:Int) x2 x3 x4 y7 (fun x8 x9 x10 x11=>
let v12:=IntKind.i64.wrap (x8+1);kc v12 x9 x10 x11)
|false=>none)
|false=>k0 x3 x4)
theorem q83_3 (F70:FT70) (L3:O0) (L7:Oz):LEQ (zix L3) (e83 F70 L3 L7) Tryz.f83 (p83_3 F70 L7):=fun _ _ _ _=>by kernel_rfl
def M9:Nat→O0
 | 0=>fun _ _ _ _ _ _=>none
 | n+1=>fun R x1 x2 x3 x4 k0=>p83_3 F70 (Vy FUEL) R x1 x2 x3 x4 (fun x1 x2 x3 x4=>M9 n R x1 x2 x3 x4 k0) k0
def p83 (L3:O0):FT83:=fun R a0 k=>
L3 R (0:Int) a0 (List.replicate 32 (0:Int)) (List.replicate 32 (0:Int)) (fun x1 x2=>
k x2)
theorem q83 (F70:FT70) (L3:O0) (L7:Oz):EQ (en83 (p83 L3)) (e83 F70 L3 L7) Tryz.f83 [(.cell 2 24,24,false)]:=fun _ _ _=>by kernel_rfl
def F83:FT83:=p83 (M9 FUEL)
theorem lok83_7:LKP (ziw (Vy FUEL)) 0 28 7 Tryz.f83:=ST.lok (q83_7 F70 (M9 FUEL) (Vy FUEL)) (Aa ok70 Ab) [] trivial
theorem lok83_3:LKP (zix (M9 FUEL)) 0 28 3 Tryz.f83:=ST.lok (q83_3 F70 (M9 FUEL) (Vy FUEL)) (Aa ok70 Ab) [7] ⟨⟨_,rfl,lok83_7⟩,trivial⟩
theorem ok83:OKP (en83 F83):=ST.ok1 (q83 F70 (M9 FUEL) (Vy FUEL)) (Aa ok70 Ab) Tryz.func83 [3] ⟨⟨_,rfl,lok83_3⟩,trivial⟩
abbrev FT55:=(R:Type)→LI→(LI→Option R)→Option R
def en55 (F:FT55):Ent:=eV 55 [(.sl (.int .u8))] [(.arr 32 (.int .u8))] F
def p55 (F81:FT81) (F82:FT82) (F83:FT83) (F84:FT84) (F85:FT85):FT55:=fun R a0 k=>
F82 R a0 fun y1=>
F81 R y1 fun y2 y3=>
F85 R  fun y4=>
F84 R y4 y2 fun y5=>
F83 R y5 fun y6=>
k y6
theorem q55 (F81:FT81) (F82:FT82) (F83:FT83) (F84:FT84) (F85:FT85):EQ (en55 (p55 F81 F82 F83 F84 F85)) (sE 0 15 [] [en81 F81,en82 F82,en83 F83,en84 F84,en85 F85] []) Tryz.f55 [(.cell 2 24,24,false)]:=fun _ _ _=>by kernel_rfl
def F55:FT55:=p55 F81 F82 F83 F84 F85
theorem ok55:OKP (en55 F55):=ST.ok0 (q55 F81 F82 F83 F84 F85) (Aa ok81 (Aa ok82 (Aa ok83 (Aa ok84 (Aa ok85 Ab))))) Tryz.func55
abbrev FT25:=(R:Type)→LI→Int→LI→(LI→Option R)→Option R
def en25 (F:FT25):Ent:=eV 25 [(.arr 32 (.int .u8)),(.int .u64),(.arr 32 (.int .u8))] [(.arr 32 (.int .u8))] F
abbrev D25_4 (Z:Type):=Int→LI→LI→LI→LI→Z
abbrev E25_4 (R:Type):=(LI→LI→LI→Option R)→Option R
abbrev Q3:=(R:Type)→D25_4 (E25_4 R)
def zjd (L:Q3):LEnt:=lM 4 [.fix 5 (.ptr 1 [] (.arr 32 (.int .u8))),.fix 6 (.ptr 2 [] (.arr 32 (.int .u8))),.fix 7 (.own 3 0),.fix 8 (.ptr 4 [] (.arr 8 (.int .u8))),.val 9 (.int .i64),.var 1 (.arr 32 (.int .u8)) false,.var 2 (.arr 32 (.int .u8)) false,.row 3 (.int .u8) false,.var 4 (.arr 8 (.int .u8)) false] 5 [(.exit 0,[.fix 5 (.ptr 1 [] (.arr 32 (.int .u8))),.fix 6 (.ptr 2 [] (.arr 32 (.int .u8))),.fix 7 (.own 3 0),.var 1 (.arr 32 (.int .u8)) false,.var 2 (.arr 32 (.int .u8)) false,.row 3 (.int .u8) false])] L
def e25 (F53:FT53) (F54:FT54) (F55:FT55) (L4:Q3):=sE 0 29 [] [en53 F53,en54 F54,en55 F55] [zjd L4]
def p25_4 (R:Type):D25_4 (D25_4 (Option R)→E25_4 R):=fun x1 x2 x3 x4 x5 kc k0=>
let v6:=decide (x1<8);(match v6 with
|true=>(match (bnd x1 (8:Int)) with
|true=>let v7:=x5.getD x1.toNat 0;let v8:=([v7]:LI);(match (decide (x4.length+v8.length≤140737488355328)) with
|true=>let v9:=x4++v8;let v10:=IntKind.i64.wrap (x1+1);kc v10 x2 x3 v9 x5
|false=>none)
|false=>none)
|false=>k0 x2 x3 x4)
theorem q25_4 (F53:FT53) (F54:FT54) (F55:FT55) (L4:Q3):LEQ (zjd L4) (e25 F53 F54 F55 L4) Tryz.f25 p25_4:=fun _ _ _ _=>by kernel_rfl
def Z5:Nat→Q3
 | 0=>fun _ _ _ _ _ _ _=>none
 | n+1=>fun R x1 x2 x3 x4 x5 k0=>p25_4 R x1 x2 x3 x4 x5 (fun x1 x2 x3 x4 x5=>Z5 n R x1 x2 x3 x4 x5 k0) k0
def p25 (F53:FT53) (F54:FT54) (F55:FT55) (L4:Q3):FT25:=fun R a0 a1 a2 k=>
F53 R a0 fun y1=>
F54 R a1 fun y2=>
L4 R (0:Int) a2 (List.replicate 32 (0:Int)) y1 y2 (fun x3 x4 x5=>
F53 R x3 fun y6=>
(match (decide (x5.length+y6.length≤140737488355328)) with
|true=>let v7:=x5++y6;F55 R v7 fun y8=>
k y8
|false=>none))
theorem q25 (F53:FT53) (F54:FT54) (F55:FT55) (L4:Q3):EQ (en25 (p25 F53 F54 F55 L4)) (e25 F53 F54 F55 L4) Tryz.f25 [(.cell 6 24,24,false)]:=fun _ _ _=>by kernel_rfl
def F25:FT25:=p25 F53 F54 F55 (Z5 FUEL)
theorem lok25_4:LKP (zjd (Z5 FUEL)) 0 29 4 Tryz.f25:=ST.lok (q25_4 F53 F54 F55 (Z5 FUEL)) (Aa ok53 (Aa ok54 (Aa ok55 Ab))) [] trivial
theorem ok25:OKP (en25 F25):=ST.ok1 (q25 F53 F54 F55 (Z5 FUEL)) (Aa ok53 (Aa ok54 (Aa ok55 Ab))) Tryz.func25 [4] ⟨⟨_,rfl,lok25_4⟩,trivial⟩
abbrev FT38:=(R:Type)→Int→(ByteArray→Option R)→Option R
def en38 (F:FT38):Ent:=eV 38 [(.int .i64)] [.str] F
def F38:FT38:=zjl
theorem ok38:OKP (en38 F38):=itoa_ok
abbrev FT40:=(R:Type)→Int→Int→(ByteArray→Option R)→Option R
def en40 (F:FT40):Ent:=eV 40 [(.int .u64),(.int .i64)] [.str] F
def F40:FT40:=zex
theorem ok40:OKP (en40 F40):=fmtu_ok
abbrev FT39:=(R:Type)→(List ByteArray)→ByteArray→(ByteArray→Option R)→Option R
def en39 (F:FT39):Ent:=eV 39 [(.sl .str),.str] [.str] F
def F39:FT39:=zjj
theorem ok39:OKP (en39 F39):=join_ok
abbrev FT41:=(R:Type)→LI→(ByteArray→Option R)→Option R
def en41 (F:FT41):Ent:=eV 41 [(.sl (.int .i64))] [.str] F
abbrev D41_5 (Z:Type):=LI→Int→Int→(List ByteArray)→Z
abbrev E41_5 (R:Type):=((List ByteArray)→Option R)→Option R
abbrev Qy:=(R:Type)→D41_5 (E41_5 R)
def zi8 (L:Qy):LEnt:=lM 5 [.fix 3 (.own 0 0),.val 9 (.sl (.int .i64)),.val 10 (.int .i64),.val 11 (.int .i64),.row 0 .str false] 1 [(.exit 0,[.fix 3 (.own 0 0),.row 0 .str false])] L
def e41 (F38:FT38) (F39:FT39) (L5:Qy):=sE 0 23 [(3,0)] [en38 F38,en39 F39] [zi8 L5]
def p41_5 (F38:FT38) (R:Type):D41_5 (D41_5 (Option R)→E41_5 R):=fun x1 x2 x3 x4 kc k0=>
let v5:=decide (x3<x2);(match v5 with
|true=>(match bnd x3 x1.length with
|true=>let v6:=x1.getD x3.toNat 0;F38 R v6 fun y7=>
let v8:=([y7]:(List ByteArray));(match (decide (x4.length+v8.length≤8796093022208)) with
|true=>let v9:=x4++v8;let v10:=IntKind.i64.wrap (x3+1);kc x1 x2 v10 v9
|false=>none)
|false=>none)
|false=>k0 x4)
theorem q41_5 (F38:FT38) (F39:FT39) (L5:Qy):LEQ (zi8 L5) (e41 F38 F39 L5) Tryz.f41 (p41_5 F38):=fun _ _ _ _=>by kernel_rfl
def Zz:Nat→Qy
 | 0=>fun _ _ _ _ _ _=>none
 | n+1=>fun R x1 x2 x3 x4 k0=>p41_5 F38 R x1 x2 x3 x4 (fun x1 x2 x3 x4=>Zz n R x1 x2 x3 x4 k0) k0
def p41 (F39:FT39) (L5:Qy):FT41:=fun R a0 k=>
let v1:=(a0.length:Int);let v2:=v1==0;(match v2 with
|true=>k (⟨#[45]⟩:ByteArray)
|false=>let v3:=(a0.length:Int);L5 R a0 v3 (0:Int) ([]:(List ByteArray)) (fun x4=>
F39 R x4 (⟨#[44]⟩:ByteArray) fun y5=>
k y5))
theorem q41 (F38:FT38) (F39:FT39) (L5:Qy):EQ (en41 (p41 F39 L5)) (e41 F38 F39 L5) Tryz.f41 [(.tmp 2,9,false)]:=fun _ _ _=>by kernel_rfl
def F41:FT41:=p41 F39 (Zz FUEL)
theorem lok41_5:LKP (zi8 (Zz FUEL)) 0 23 5 Tryz.f41:=ST.lok (q41_5 F38 F39 (Zz FUEL)) (Aa ok38 (Aa ok39 Ab)) [] trivial
theorem ok41:OKP (en41 F41):=ST.ok1 (q41 F38 F39 (Zz FUEL)) (Aa ok38 (Aa ok39 Ab)) Tryz.func41 [5] ⟨⟨_,rfl,lok41_5⟩,trivial⟩
abbrev FT42:=(R:Type)→LI→(ByteArray→Option R)→Option R
def en42 (F:FT42):Ent:=eV 42 [(.arr 32 (.int .u8))] [.str] F
def F42:FT42:=zgg
theorem ok42:OKP (en42 F42):=text_ok
abbrev FT16:=(R:Type)→Tq17→(ByteArray→Option R)→Option R
def en16 (F:FT16):Ent:=eV 16 [Kq17] [.str] F
def p16 (F38:FT38) (F39:FT39) (F40:FT40) (F41:FT41) (F42:FT42):FT16:=fun R a0 k=>
let v1:=a0.1 !=0;(match v1 with
|true=>F38 R a0.1 fun y2=>
(match (decide (ByteArray.size (⟨#[101,114,114,32]⟩:ByteArray)+ByteArray.size y2≤9223372036854775807)) with
|true=>let v3:=ByteArray.append (⟨#[101,114,114,32]⟩:ByteArray) y2;k v3
|false=>none)
|false=>F40 R a0.2.1 (10:Int) fun y4=>
F41 R a0.2.2.1 fun y5=>
F42 R a0.2.2.2.1 fun y6=>
let v7:=([(⟨#[111,107]⟩:ByteArray),y4,y5,y6]:(List ByteArray));F39 R v7 (⟨#[32]⟩:ByteArray) fun y8=>
k y8)
theorem q16 (F38:FT38) (F39:FT39) (F40:FT40) (F41:FT41) (F42:FT42):EQ (en16 (p16 F38 F39 F40 F41 F42)) (sE 0 21 [] [en38 F38,en39 F39,en40 F40,en41 F41,en42 F42] []) Tryz.f16 [(.tmp 2,9,false)]:=fun _ _ _=>by kernel_rfl
def F16:FT16:=p16 F38 F39 F40 F41 F42
theorem ok16:OKP (en16 F16):=ST.ok0 (q16 F38 F39 F40 F41 F42) (Aa ok38 (Aa ok39 (Aa ok40 (Aa ok41 (Aa ok42 Ab))))) Tryz.func16
abbrev FT26:=(R:Type)→LI→(ByteArray→Option R)→Option R
def en26 (F:FT26):Ent:=eV 26 [(.arr 32 (.int .u8))] [.str] F
abbrev D26_3 (Z:Type):=ByteArray→Int→LI→Z
abbrev E26_3 (R:Type):=(ByteArray→Option R)→Option R
abbrev Q2:=(R:Type)→D26_3 (E26_3 R)
def zjc (L:Q2):LEnt:=lM 3 [.fix 1 (.ptr 0 [] (.arr 32 (.int .u8))),.val 3 .str,.val 4 (.int .i64),.var 0 (.arr 32 (.int .u8)) false] 1 [(.exit 0,[.val 3 .str])] L
def e26 (L3:Q2):=sE 0 31 [] [] [zjc L3]
def p26_3 (R:Type):D26_3 (D26_3 (Option R)→E26_3 R):=fun x1 x2 x3 kc k0=>
let v4:=decide (x2<32);(match v4 with
|true=>(match (bnd x2 (32:Int)) with
|true=>let v5:=x3.getD x2.toNat 0;let v6:=IntKind.u8.wrap (Int.tdiv v5 (16:Int));(match (bnd x2 (32:Int)) with
|true=>let v7:=x3.getD x2.toNat 0;let v8:=Int.tmod v7 (16:Int);let v9:=IntKind.u8.wrap (v6+1);(match (decide (0≤v6∧v6≤v9∧v9≤(ByteArray.size (⟨#[48,49,50,51,52,53,54,55,56,57,97,98,99,100,101,102]⟩:ByteArray):Int))) with
|true=>let v10:=ByteArray.extract (⟨#[48,49,50,51,52,53,54,55,56,57,97,98,99,100,101,102]⟩:ByteArray) v6.toNat v9.toNat;(match (decide (ByteArray.size x1+ByteArray.size v10≤9223372036854775807)) with
|true=>let v11:=ByteArray.append x1 v10;let v12:=IntKind.u8.wrap (v8+1);(match (decide (0≤v8∧v8≤v12∧v12≤(ByteArray.size (⟨#[48,49,50,51,52,53,54,55,56,57,97,98,99,100,101,102]⟩:ByteArray):Int))) with
|true=>let v13:=ByteArray.extract (⟨#[48,49,50,51,52,53,54,55,56,57,97,98,99,100,101,102]⟩:ByteArray) v8.toNat v12.toNat;(match (decide (ByteArray.size v11+ByteArray.size v13≤9223372036854775807)) with
|true=>let v14:=ByteArray.append v11 v13;let v15:=IntKind.i64.wrap (x2+1);kc v14 v15 x3
|false=>none)
|false=>none)
|false=>none)
|false=>none)
|false=>none)
|false=>none)
|false=>k0 x1)
theorem q26_3 (L3:Q2):LEQ (zjc L3) (e26 L3) Tryz.f26 p26_3:=fun _ _ _ _=>by kernel_rfl
def Z4:Nat→Q2
 | 0=>fun _ _ _ _ _=>none
 | n+1=>fun R x1 x2 x3 k0=>p26_3 R x1 x2 x3 (fun x1 x2 x3=>Z4 n R x1 x2 x3 k0) k0
def p26 (L3:Q2):FT26:=fun R a0 k=>
L3 R (⟨#[]⟩:ByteArray) (0:Int) a0 (fun x1=>
k x1)
theorem q26 (L3:Q2):EQ (en26 (p26 L3)) (e26 L3) Tryz.f26 [(.tmp 2,9,false)]:=fun _ _ _=>by kernel_rfl
def F26:FT26:=p26 (Z4 FUEL)
theorem lok26_3:LKP (zjc (Z4 FUEL)) 0 31 3 Tryz.f26:=ST.lok (q26_3 (Z4 FUEL)) Ab [] trivial
theorem ok26:OKP (en26 F26):=ST.ok1 (q26 (Z4 FUEL)) Ab Tryz.func26 [3] ⟨⟨_,rfl,lok26_3⟩,trivial⟩
abbrev FT18:=(R:Type)→(List Tq17)→(ByteArray→Option R)→Option R
def en18 (F:FT18):Ent:=eV 18 [(.sl Kq17)] [.str] F
def F18:FT18:=fun R l k=>Ik F16 R l 0 [] k
theorem ok18:OKP (en18 F18):=zr2 ok16
abbrev FT8:=(R:Type)→(Bool→Option R)→Option R
def en8 (F:FT8):Ent:=eV 8 [] [.bool] F
def p8 (F10:FT10) (F16:FT16) (F18:FT18) (F25:FT25) (F26:FT26):FT8:=fun R k=>
let v1:=List.replicate 32 (0:Int);let v2:=([(6:Int),(255:Int)]:LI);F10 R ((1:Int),(0:Int),(0:Int),(1:Int),(1:Int),()) v1 v2 fun y3 y4 y5=>
let v6:=List.replicate 32 (0:Int);F10 R ((0:Int),(0:Int),(0:Int),(0:Int),(0:Int),()) v6 ([]:LI) fun y7 y8 y9=>
let v10:=List.replicate 32 (0:Int);let v11:=List.replicate 100001 (0:Int);F10 R ((1:Int),(0:Int),(0:Int),(1:Int),(1:Int),()) v10 v11 fun y12 y13 y14=>
let v15:=List.replicate 32 (0:Int);let v16:=List.replicate 32 (0:Int);F25 R v15 (0:Int) v16 fun y17=>
let v18:=y5==0;(match v18 with
|true=>let v19:=y9==1;(match v19 with
|true=>let v20:=y14==14;(match v20 with
|true=>let v21:=y3.2.2.2.1.1==1;(match v21 with
|true=>let v22:=(y4.length:Int);let v23:=v22==2;(match v23 with
|true=>(match bnd 0 y4.length with
|true=>let v24:=y4.getD 0 (0,0,[],(List.replicate 32 0),());F16 R v24 fun y25=>
F26 R y17 fun y26=>
(match (decide (ByteArray.size (⟨#[111,107,32,48,32,45,32]⟩:ByteArray)+ByteArray.size y26≤9223372036854775807)) with
|true=>let v27:=ByteArray.append (⟨#[111,107,32,48,32,45,32]⟩:ByteArray) y26;let v28:=ByteArray.toList y25==ByteArray.toList v27;(match v28 with
|true=>(match bnd 1 y4.length with
|true=>let v29:=y4.getD 1 (0,0,[],(List.replicate 32 0),());F16 R v29 fun y30=>
let v31:=ByteArray.toList y30==ByteArray.toList (⟨#[101,114,114,32,50]⟩:ByteArray);(match v31 with
|true=>F18 R y4 fun y32=>
(match bnd 0 y4.length with
|true=>let v33:=y4.getD 0 (0,0,[],(List.replicate 32 0),());F16 R v33 fun y34=>
(match (decide (ByteArray.size y34+ByteArray.size (⟨#[10,101,114,114,32,50,10]⟩:ByteArray)≤9223372036854775807)) with
|true=>let v35:=ByteArray.append y34 (⟨#[10,101,114,114,32,50,10]⟩:ByteArray);let v36:=ByteArray.toList y32==ByteArray.toList v35;k v36
|false=>none)
|false=>none)
|false=>k false)
|false=>none)
|false=>k false)
|false=>none)
|false=>none)
|false=>k false)
|false=>k false)
|false=>k false)
|false=>k false)
|false=>k false)
theorem q8 (F10:FT10) (F16:FT16) (F18:FT18) (F25:FT25) (F26:FT26):EQ (en8 (p8 F10 F16 F18 F25 F26)) (sE 0 87 [] [en10 F10,en16 F16,en18 F18,en25 F25,en26 F26] []) Tryz.f8 [(.tmp 0,4,false)]:=fun _ _ _=>by kernel_rfl
def F8:FT8:=p8 F10 F16 F18 F25 F26
theorem ok8:OKP (en8 F8):=ST.ok0 (q8 F10 F16 F18 F25 F26) (Aa ok10 (Aa ok16 (Aa ok18 (Aa ok25 (Aa ok26 Ab))))) Tryz.func8
abbrev FT28:=(R:Type)→Int→(ByteArray→Option R)→Option R
def en28 (F:FT28):Ent:=eV 28 [(.int .i64)] [.str] F
def p28:FT28:=fun R a0 k=>
let v1:=a0==1;(match v1 with
|true=>k (⟨#[104,97]⟩:ByteArray)
|false=>let v2:=a0==2;(match v2 with
|true=>k (⟨#[119,97]⟩:ByteArray)
|false=>let v3:=a0==3;(match v3 with
|true=>k (⟨#[119,97]⟩:ByteArray)
|false=>let v4:=a0==4;(match v4 with
|true=>k (⟨#[119,104]⟩:ByteArray)
|false=>let v5:=a0==5;(match v5 with
|true=>k (⟨#[119,104]⟩:ByteArray)
|false=>let v6:=a0==6;(match v6 with
|true=>k (⟨#[45]⟩:ByteArray)
|false=>let v7:=a0==11;(match v7 with
|true=>k (⟨#[45]⟩:ByteArray)
|false=>let v8:=a0==7;(match v8 with
|true=>k (⟨#[110]⟩:ByteArray)
|false=>let v9:=a0==8;(match v9 with
|true=>k (⟨#[110]⟩:ByteArray)
|false=>let v10:=a0==9;(match v10 with
|true=>k (⟨#[110,119]⟩:ByteArray)
|false=>let v11:=a0==10;(match v11 with
|true=>k (⟨#[119,110]⟩:ByteArray)
|false=>k (⟨#[]⟩:ByteArray))))))))))))
def F28:FT28:=p28
abbrev FT30:=(R:Type)→Int→(Int→Option R)→Option R
def en30 (F:FT30):Ent:=eV 30 [(.int .u8)] [(.int .i64)] F
def p30:FT30:=fun R a0 k=>
let v1:=a0==119;(match v1 with
|true=>k (4:Int)
|false=>let v2:=a0==110;(match v2 with
|true=>k (4:Int)
|false=>let v3:=a0==97;(match v3 with
|true=>k (8:Int)
|false=>let v4:=a0==104;(match v4 with
|true=>k (32:Int)
|false=>k (0:Int)))))
def F30:FT30:=p30
abbrev FT27:=(R:Type)→Int→(Int→Bool→Option R)→Option R
def en27 (F:FT27):Ent:=eV 27 [(.int .i64)] [(.int .i64),.bool] F
abbrev D27_6 (Z:Type):=ByteArray→Int→Int→Z
abbrev E27_6 (R:Type):=(Int→Option R)→Option R
abbrev zxv:=(R:Type)→D27_6 (E27_6 R)
def p27_6 (F30:FT30) (R:Type):D27_6 (D27_6 (Option R)→E27_6 R):=fun x1 x2 x3 kc k0=>
let v4:=(ByteArray.size x1:Int);let v5:=decide (x3<v4);(match v5 with
|true=>(match (bnd x3 (ByteArray.size x1:Int)) with
|true=>let v6:=((List.getD (Array.toList (ByteArray.data x1)) x3.toNat 0).toNat:Int);F30 R v6 fun y7=>
let v8:=IntKind.i64.wrap (x2+y7);let v9:=IntKind.i64.wrap (x3+1);kc x1 v8 v9
|false=>none)
|false=>k0 x2)
def G27_6:Nat→zxv
 | 0=>fun _ _ _ _ _=>none
 | n+1=>fun R x1 x2 x3 k0=>p27_6 F30 R x1 x2 x3 (fun x1 x2 x3=>G27_6 n R x1 x2 x3 k0) k0
def p27 (F28:FT28) (L6:zxv):FT27:=fun R a0 k=>
F28 R a0 fun y1=>
let v2:=ByteArray.toList y1==ByteArray.toList (⟨#[]⟩:ByteArray);(match v2 with
|true=>k (0:Int) false
|false=>L6 R y1 (1:Int) (0:Int) (fun x3=>
k x3 true))
def F27:FT27:=p27 F28 (G27_6 FUEL)
abbrev FT29:=(R:Type)→Tq11→Int→LI→(Tq11→Option R)→Option R
def en29 (F:FT29):Ent:=eV 29 [Kq11,(.int .u8),(.sl (.int .u8))] [Kq11] F
abbrev zp4 (Z:Type):=LI→Int→Tq11→Tq11→Z
abbrev zzw (R:Type):=(Tq11→Tq11→Option R)→Option R
abbrev zlu:=(R:Type)→zp4 (zzw R)
def p29_10 (R:Type):zp4 (zp4 (Option R)→zzw R):=fun x1 x2 x3 x4 kc k0=>
let v5:=decide (x2<32);(match v5 with
|true=>(match bnd x2 x1.length with
|true=>let v6:=x1.getD x2.toNat 0;(match (bnd x2 (32:Int)) with
|true=>let v7:=IntKind.i64.wrap (x2+1);kc x1 v7 (x3.1,x3.2.1,x3.2.2.1,(x3.2.2.2.1.set x2.toNat v6),x3.2.2.2.2) x4
|false=>none)
|false=>none)
|false=>k0 x3 x4)
def zyi:Nat→zlu
 | 0=>fun _ _ _ _ _ _=>none
 | n+1=>fun R x1 x2 x3 x4 k0=>p29_10 R x1 x2 x3 x4 (fun x1 x2 x3 x4=>zyi n R x1 x2 x3 x4 k0) k0
def p29 (F56:FT56) (F57:FT57) (L10:zlu):FT29:=fun R a0 a1 a2 k=>
let v1:=a1==119;(match v1 with
|true=>(match bnd 0 a2.length with
|true=>let v2:=a2.getD 0 0;(match bnd 1 a2.length with
|true=>let v3:=a2.getD 1 0;(match bnd 2 a2.length with
|true=>let v4:=a2.getD 2 0;(match bnd 3 a2.length with
|true=>let v5:=a2.getD 3 0;let v6:=List.set (List.set (List.set (List.set (List.replicate 4 (0:Int)) 0 v2) 1 v3) 2 v4) 3 v5;F56 R v6 fun y7=>
let v8:=IntKind.i64.wrap y7;k (a0.1,v8,a0.2.2)
|false=>none)
|false=>none)
|false=>none)
|false=>none)
|false=>let v9:=a1==110;(match v9 with
|true=>(match bnd 0 a2.length with
|true=>let v10:=a2.getD 0 0;(match bnd 1 a2.length with
|true=>let v11:=a2.getD 1 0;(match bnd 2 a2.length with
|true=>let v12:=a2.getD 2 0;(match bnd 3 a2.length with
|true=>let v13:=a2.getD 3 0;let v14:=List.set (List.set (List.set (List.set (List.replicate 4 (0:Int)) 0 v10) 1 v11) 2 v12) 3 v13;F56 R v14 fun y15=>
let v16:=IntKind.i64.wrap y15;k (a0.1,a0.2.1,a0.2.2.1,a0.2.2.2.1,v16,a0.2.2.2.2.2)
|false=>none)
|false=>none)
|false=>none)
|false=>none)
|false=>let v17:=a1==97;(match v17 with
|true=>(match bnd 0 a2.length with
|true=>let v18:=a2.getD 0 0;(match bnd 1 a2.length with
|true=>let v19:=a2.getD 1 0;(match bnd 2 a2.length with
|true=>let v20:=a2.getD 2 0;(match bnd 3 a2.length with
|true=>let v21:=a2.getD 3 0;(match bnd 4 a2.length with
|true=>let v22:=a2.getD 4 0;(match bnd 5 a2.length with
|true=>let v23:=a2.getD 5 0;(match bnd 6 a2.length with
|true=>let v24:=a2.getD 6 0;(match bnd 7 a2.length with
|true=>let v25:=a2.getD 7 0;let v26:=List.set (List.set (List.set (List.set (List.set (List.set (List.set (List.set (List.replicate 8 (0:Int)) 0 v18) 1 v19) 2 v20) 3 v21) 4 v22) 5 v23) 6 v24) 7 v25;F57 R v26 fun y27=>
k (a0.1,a0.2.1,y27,a0.2.2.2.1,a0.2.2.2.2.1,a0.2.2.2.2.2)
|false=>none)
|false=>none)
|false=>none)
|false=>none)
|false=>none)
|false=>none)
|false=>none)
|false=>none)
|false=>let v28:=a1==104;(match v28 with
|true=>L10 R a2 (0:Int) a0 ((0:Int),(0:Int),(0:Int),(List.replicate 32 (0:Int)),(0:Int),()) (fun x29 x30=>
k x29)
|false=>k a0))))
def F29:FT29:=p29 F56 F57 (zyi FUEL)
abbrev FT9:=(R:Type)→LI→((List Tq11)→Option R)→Option R
def en9 (F:FT9):Ent:=eV 9 [(.sl (.int .u8))] [(.sl Kq11)] F
abbrev D9_2 (Z:Type):=LI→(List Tq11)→Z
abbrev E9_2 (R:Type):=((List Tq11)→Option R)→((List Tq11)→Option R)→Option R
abbrev zwb:=(R:Type)→D9_2 (E9_2 R)
def le9_2 (L:zwb):LEnt:=lM 2 [.val 0 (.sl (.int .u8)),.fix 3 (.own 0 0),.row 0 Kq11 false] 1 [(.ret,[.fix 2 (.own 0 0),.row 0 Kq11 false]),(.exit 0,[.fix 3 (.own 0 0),.row 0 Kq11 false])] L
abbrev D9_13 (Z:Type):=LI→Int→Int→ByteArray→Int→(List Tq11)→Tq11→Z
abbrev E9_13 (R:Type):=(LI→Int→(List Tq11)→Tq11→Option R)→Option R
abbrev zdg:=(R:Type)→D9_13 (E9_13 R)
def le9_13 (L:zdg):LEnt:=lM 13 [.val 0 (.sl (.int .u8)),.fix 3 (.own 0 0),.val 5 (.int .i64),.fix 7 (.ptr 1 [] Kq11),.val 8 (.int .i64),.val 9 .str,.val 10 (.int .i64),.row 0 Kq11 false,.var 1 Kq11 false] 2 [(.exit 2,[.val 0 (.sl (.int .u8)),.fix 3 (.own 0 0),.val 5 (.int .i64),.fix 7 (.ptr 1 [] Kq11),.row 0 Kq11 false,.var 1 Kq11 false])] L
def e9 (F27:FT27) (F28:FT28) (F29:FT29) (F30:FT30) (L2:zwb) (L13:zdg):=sE 0 73 [(1,0)] [en27 F27,en28 F28,en29 F29,en30 F30] [le9_2 L2,le9_13 L13]
def p9_13 (F29:FT29) (F30:FT30) (R:Type):D9_13 (D9_13 (Option R)→E9_13 R):=fun x1 x2 x3 x4 x5 x6 x7 kc k0=>
let v8:=(ByteArray.size x4:Int);let v9:=decide (x5<v8);(match v9 with
|true=>(match (bnd x5 (ByteArray.size x4:Int)) with
|true=>let v10:=((List.getD (Array.toList (ByteArray.data x4)) x5.toNat 0).toNat:Int);(match (decide (0≤x3∧x3≤(x1.length:Int)∧(x1.length:Int)≤(x1.length:Int)∧(x1.length:Int)≤(x1.length:Int))) with
|true=>let v11:=List.take (Int.toNat ((x1.length:Int) - x3)) (List.drop x3.toNat x1);F29 R x7 v10 v11 fun y12=>
(match (bnd x5 (ByteArray.size x4:Int)) with
|true=>let v13:=((List.getD (Array.toList (ByteArray.data x4)) x5.toNat 0).toNat:Int);F30 R v13 fun y14=>
let v15:=IntKind.i64.wrap (x3+y14);let v16:=IntKind.i64.wrap (x5+1);kc x1 x2 v15 x4 v16 x6 y12
|false=>none)
|false=>none)
|false=>none)
|false=>k0 x1 x2 x6 x7)
def G9_13:Nat→zdg
 | 0=>fun _ _ _ _ _ _ _ _ _=>none
 | n+1=>fun R x1 x2 x3 x4 x5 x6 x7 k0=>p9_13 F29 F30 R x1 x2 x3 x4 x5 x6 x7 (fun x1 x2 x3 x4 x5 x6 x7=>G9_13 n R x1 x2 x3 x4 x5 x6 x7 k0) k0
def p9_2 (F27:FT27) (F28:FT28) (L13:zdg) (R:Type):D9_2 (D9_2 (Option R)→E9_2 R):=fun x1 x2 kc k0 k1=>
let v3:=(x1.length:Int);let v4:=decide (v3>0);(match v4 with
|true=>(match bnd 0 x1.length with
|true=>let v5:=x1.getD 0 0;let v6:=IntKind.i64.wrap v5;F27 R v6 fun y7 y8=>
(match (!y8) with
|true=>let v9:=([((0:Int),(0:Int),(0:Int),(List.replicate 32 (0:Int)),v6,())]:(List Tq11));(match (decide (x2.length+v9.length≤2199023255552)) with
|true=>let v10:=x2++v9;(match (decide (0≤(1:Int)∧(1:Int)≤(x1.length:Int)∧(x1.length:Int)≤(x1.length:Int)∧(x1.length:Int)≤(x1.length:Int))) with
|true=>let v11:=List.take (Int.toNat ((x1.length:Int) - (1:Int))) (List.drop 1 x1);kc v11 v10
|false=>none)
|false=>none)
|false=>let v12:=(x1.length:Int);let v13:=decide (v12<y7);(match v13 with
|true=>let v14:=([((0:Int),(0:Int),(0:Int),(List.replicate 32 (0:Int)),v6,())]:(List Tq11));(match (decide (x2.length+v14.length≤2199023255552)) with
|true=>let v15:=x2++v14;k0 v15
|false=>none)
|false=>F28 R v6 fun y16=>
L13 R x1 y7 (1:Int) y16 (0:Int) x2 (v6,(0:Int),(0:Int),(List.replicate 32 (0:Int)),(0:Int),()) (fun x17 x18 x19 x20=>
let v21:=([x20]:(List Tq11));(match (decide (x19.length+v21.length≤2199023255552)) with
|true=>let v22:=x19++v21;(match (decide (0≤x18∧x18≤(x17.length:Int)∧(x17.length:Int)≤(x17.length:Int)∧(x17.length:Int)≤(x17.length:Int))) with
|true=>let v23:=List.take (Int.toNat ((x17.length:Int) - x18)) (List.drop x18.toNat x17);kc v23 v22
|false=>none)
|false=>none))))
|false=>none)
|false=>k1 x2)
def G9_2:Nat→zwb
 | 0=>fun _ _ _ _ _=>none
 | n+1=>fun R x1 x2 k0 k1=>p9_2 F27 F28 (G9_13 FUEL) R x1 x2 (fun x1 x2=>G9_2 n R x1 x2 k0 k1) k0 k1
def p9 (L2:zwb):FT9:=fun R a0 k=>
L2 R a0 ([]:(List Tq11)) (fun x1=>
k x1) (fun x2=>
k x2)
def F9:FT9:=p9 (G9_2 FUEL)
abbrev FT11:=(R:Type)→LI→(Tq21→Option R)→Option R
def en11 (F:FT11):Ent:=eV 11 [(.arr 5 (.int .u8))] [Kq21] F
def p11:FT11:=fun R a0 k=>
let v1:=a0.getD 0 0;let v2:=Int.tmod v1 (6:Int);let v3:=IntKind.i64.wrap v2;let v4:=IntKind.i64.wrap ((1:Int)+v3);let v5:=a0.getD 3 0;let v6:=Int.tmod v5 (64:Int);let v7:=IntKind.i64.wrap v6;let v8:=IntKind.i64.wrap ((1:Int)+v7);let v9:=a0.getD 4 0;let v10:=Int.tmod v9 (6:Int);let v11:=IntKind.i64.wrap v10;let v12:=IntKind.i64.wrap ((1:Int)+v11);let v13:=a0.getD 1 0;let v14:=IntKind.i64.wrap v13;let v15:=IntKind.i64.wrap (v4+1);(match (!(v15==0)) with
|true=>let v16:=Int.tmod v14 v15;let v17:=a0.getD 2 0;let v18:=IntKind.i64.wrap v17;let v19:=IntKind.i64.wrap (v4 - v16);let v20:=IntKind.i64.wrap (v19+1);(match (!(v20==0)) with
|true=>let v21:=Int.tmod v18 v20;k (v4,v16,v21,v8,v12,())
|false=>none)
|false=>none)
def F11:FT11:=p11
abbrev FT37:=(R:Type)→Tq21→(Bool→Option R)→Option R
def en37 (F:FT37):Ent:=eV 37 [Kq21] [.bool] F
def p37:FT37:=fun R a0 k=>
let v1:=decide (a0.1≥1);(match v1 with
|true=>let v2:=decide (a0.1≤1024);(match v2 with
|true=>let v3:=decide (a0.2.1≥0);(match v3 with
|true=>let v4:=decide (a0.2.1≤a0.1);(match v4 with
|true=>let v5:=decide (a0.2.2.1≥0);(match v5 with
|true=>let v6:=IntKind.i64.wrap (a0.1 - a0.2.1);let v7:=decide (a0.2.2.1≤v6);(match v7 with
|true=>let v8:=decide (a0.2.2.2.1≥1);(match v8 with
|true=>let v9:=decide (a0.2.2.2.1≤64);(match v9 with
|true=>let v10:=decide (a0.2.2.2.2.1≥1);(match v10 with
|true=>let v11:=decide (a0.2.2.2.2.1≤1048576);k v11
|false=>k false)
|false=>k false)
|false=>k false)
|false=>k false)
|false=>k false)
|false=>k false)
|false=>k false)
|false=>k false)
|false=>k false)
theorem q37:EQ (en37 p37) (sE 0 58 [] [] []) Tryz.f37 [(.tmp 2,4,false)]:=fun _ _ _=>by kernel_rfl
def F37:FT37:=p37
theorem ok37:OKP (en37 F37):=ST.ok0 q37 Ab Tryz.func37
abbrev FT15:=(R:Type)→Tq21→LI→(Tq29→Int→Option R)→Option R
def en15 (F:FT15):Ent:=eV 15 [Kq21,(.arr 32 (.int .u8))] [Kq29,(.int .i64)] F
abbrev D15_5 (Z:Type):=Int→Tq21→Tq29→(List Tq5)→LI→LI→Tq52→Z
abbrev E15_5 (R:Type):=(Tq29→(List Tq5)→LI→LI→Tq52→Option R)→Option R
abbrev Q5:=(R:Type)→D15_5 (E15_5 R)
def zjf (L:Q5):LEnt:=lM 5 [.fix 2 (.ptr 0 [] Kq21),.fix 4 (.ptr 2 [] Kq29),.fix 6 (.mptr 11 0 Kq29),.val 7 (.int .i64),.var 0 Kq21 false,.var 2 Kq29 false,.row 3 Kq5 false,.row 5 (.int .i64) false,.row 6 (.int .i64) false,.mix 11 [((.int .i64),none),((.int .i64),none),((.int .i64),none),((.int .i64),none),((.int .i64),none),((.int .i64),none),((.sl Kq5),some 3),((.int .u64),none),((.arr 32 (.int .u8)),none),((.arr 32 (.int .u8)),none),((.sl Kq3),none),((.sl (.int .i64)),some 5),((.sl (.int .i64)),some 6)]] 12 [(.exit 0,[.fix 4 (.ptr 2 [] Kq29),.fix 6 (.mptr 11 0 Kq29),.var 2 Kq29 false,.row 3 Kq5 false,.row 5 (.int .i64) false,.row 6 (.int .i64) false,.mix 11 [((.int .i64),none),((.int .i64),none),((.int .i64),none),((.int .i64),none),((.int .i64),none),((.int .i64),none),((.sl Kq5),some 3),((.int .u64),none),((.arr 32 (.int .u8)),none),((.arr 32 (.int .u8)),none),((.sl Kq3),none),((.sl (.int .i64)),some 5),((.sl (.int .i64)),some 6)]])] L
def e15 (F37:FT37) (L5:Q5):=sE 0 28 [(3,3),(3,4)] [en37 F37] [zjf L5]
def p15_5 (R:Type):D15_5 (D15_5 (Option R)→E15_5 R):=fun x1 x2 x3 x4 x5 x6 x7 kc k0=>
let v8:=decide (x1<x2.1);(match v8 with
|true=>let v9:=([(-1:Int)]:LI);(match (decide (x5.length+v9.length≤17592186044416)) with
|true=>let v10:=x5++v9;let v11:=IntKind.i64.wrap (x1+1);kc v11 x2 x3 x4 v10 x6 (x7.1,x7.2.1,x7.2.2.1,x7.2.2.2.1,x7.2.2.2.2.1,x7.2.2.2.2.2.1,x7.2.2.2.2.2.2.1,x7.2.2.2.2.2.2.2.1,x7.2.2.2.2.2.2.2.2.1,x7.2.2.2.2.2.2.2.2.2.1,())
|false=>none)
|false=>k0 x3 x4 x5 x6 (x7.1,x7.2.1,x7.2.2.1,x7.2.2.2.1,x7.2.2.2.2.1,x7.2.2.2.2.2.1,x7.2.2.2.2.2.2.1,x7.2.2.2.2.2.2.2.1,x7.2.2.2.2.2.2.2.2.1,x7.2.2.2.2.2.2.2.2.2.1,()))
theorem q15_5 (F37:FT37) (L5:Q5):LEQ (zjf L5) (e15 F37 L5) Tryz.f15 p15_5:=fun _ _ _ _=>by kernel_rfl
def Z9:Nat→Q5
 | 0=>fun _ _ _ _ _ _ _ _ _=>none
 | n+1=>fun R x1 x2 x3 x4 x5 x6 x7 k0=>p15_5 R x1 x2 x3 x4 x5 x6 x7 (fun x1 x2 x3 x4 x5 x6 x7=>Z9 n R x1 x2 x3 x4 x5 x6 x7 k0) k0
def p15 (F37:FT37) (L5:Q5):FT15:=fun R a0 a1 k=>
F37 R a0 fun y1=>
(match (!y1) with
|true=>k (((0:Int),(0:Int),(0:Int),(0:Int),(0:Int),()),(0:Int),([]:(List Tq5)),((0:Int),(List.replicate 32 (0:Int)),(List.replicate 32 (0:Int)),([]:(List Tq3)),()),([]:LI),([]:LI),()) (1:Int)
|false=>L5 R (0:Int) a0 (((0:Int),(0:Int),(0:Int),(0:Int),(0:Int),()),(0:Int),([]:(List Tq5)),((0:Int),(List.replicate 32 (0:Int)),(List.replicate 32 (0:Int)),([]:(List Tq3)),()),([]:LI),([]:LI),()) ([]:(List Tq5)) ([]:LI) ([]:LI) (a0.1,a0.2.1,a0.2.2.1,a0.2.2.2.1,a0.2.2.2.2.1,(0:Int),(0:Int),a1,(List.replicate 32 (0:Int)),([]:(List Tq3)),()) (fun x2 x3 x4 x5 x6=>
k ((x6.1,x6.2.1,x6.2.2.1,x6.2.2.2.1,x6.2.2.2.2.1,()),x6.2.2.2.2.2.1,x3,(x6.2.2.2.2.2.2.1,x6.2.2.2.2.2.2.2.1,x6.2.2.2.2.2.2.2.2.1,x6.2.2.2.2.2.2.2.2.2.1,()),x4,x5,()) (0:Int)))
theorem q15 (F37:FT37) (L5:Q5):EQ (en15 (p15 F37 L5)) (e15 F37 L5) Tryz.f15 [(.cell 4 38,38,false),(.tmp 5,40,false)]:=fun _ _ _=>by kernel_rfl
def F15:FT15:=p15 F37 (Z9 FUEL)
theorem lok15_5:LKP (zjf (Z9 FUEL)) 0 28 5 Tryz.f15:=ST.lok (q15_5 F37 (Z9 FUEL)) (Aa ok37 Ab) [] trivial
theorem ok15:OKP (en15 F15):=ST.ok1 (q15 F37 (Z9 FUEL)) (Aa ok37 Ab) Tryz.func15 [5] ⟨⟨_,rfl,lok15_5⟩,trivial⟩
abbrev FT69:=(R:Type)→ByteArray→Int→(Bool→Option R)→Option R
abbrev D69_2 (Z:Type):=ByteArray→Int→Int→Z
abbrev E69_2 (R:Type):=(Bool→Option R)→(Option R)→Option R
abbrev zxq:=(R:Type)→D69_2 (E69_2 R)
def p69_2 (R:Type):D69_2 (D69_2 (Option R)→E69_2 R):=fun x1 x2 x3 kc k0 k1=>
let v4:=(ByteArray.size x1:Int);let v5:=decide (x3<v4);(match v5 with
|true=>(match (bnd x3 (ByteArray.size x1:Int)) with
|true=>let v6:=((List.getD (Array.toList (ByteArray.data x1)) x3.toNat 0).toNat:Int);let v7:=v6==x2;(match v7 with
|true=>k0 true
|false=>let v8:=IntKind.i64.wrap (x3+1);kc x1 x2 v8)
|false=>none)
|false=>k1)
def G69_2:Nat→zxq
 | 0=>fun _ _ _ _ _ _=>none
 | n+1=>fun R x1 x2 x3 k0 k1=>p69_2 R x1 x2 x3 (fun x1 x2 x3=>G69_2 n R x1 x2 x3 k0 k1) k0 k1
def p69 (L2:zxq):FT69:=fun R a0 a1 k=>
L2 R a0 a1 (0:Int) (fun x1=>
k x1) (k false)
def F69:FT69:=p69 (G69_2 FUEL)
abbrev FT47:=(R:Type)→Tq11→(Bool→Option R)→Option R
def p47 (F27:FT27) (F28:FT28) (F69:FT69):FT47:=fun R a0 k=>
F28 R a0.1 fun y1=>
let v2:=ByteArray.toList y1==ByteArray.toList (⟨#[]⟩:ByteArray);(match v2 with
|true=>F27 R a0.2.2.2.2.1 fun y3 y4=>
let v5:=Kd.eqv Kq11 a0 ((0:Int),(0:Int),(0:Int),(List.replicate 32 (0:Int)),a0.2.2.2.2.1,());(match v5 with
|true=>let v6:=decide (a0.2.2.2.2.1≥0);(match v6 with
|true=>let v7:=decide (a0.2.2.2.2.1≤255);(match v7 with
|true=>k (!y4)
|false=>k false)
|false=>k false)
|false=>k false)
|false=>F69 R y1 (119:Int) fun y8=>
(match (!y8) with
|true=>let v9:=a0.2.1 !=0;(match v9 with
|true=>k false
|false=>F69 R y1 (110:Int) fun y10=>
(match (!y10) with
|true=>let v11:=a0.2.2.2.2.1 !=0;(match v11 with
|true=>k false
|false=>F69 R y1 (97:Int) fun y12=>
(match (!y12) with
|true=>let v13:=a0.2.2.1 !=0;(match v13 with
|true=>k false
|false=>F69 R y1 (104:Int) fun y14=>
(match (!y14) with
|true=>let v15:=List.replicate 32 (0:Int);let v16:= !(Kd.eqv (.arr 32 (.int .u8)) a0.2.2.2.1 v15);(match v16 with
|true=>k false
|false=>let v17:=decide (a0.2.1≥0);(match v17 with
|true=>let v18:=decide (a0.2.1<4294967296);(match v18 with
|true=>let v19:=decide (a0.2.2.2.2.1≥0);(match v19 with
|true=>let v20:=decide (a0.2.2.2.2.1<4294967296);k v20
|false=>k false)
|false=>k false)
|false=>k false))
|false=>let v21:=decide (a0.2.1≥0);(match v21 with
|true=>let v22:=decide (a0.2.1<4294967296);(match v22 with
|true=>let v23:=decide (a0.2.2.2.2.1≥0);(match v23 with
|true=>let v24:=decide (a0.2.2.2.2.1<4294967296);k v24
|false=>k false)
|false=>k false)
|false=>k false)))
|false=>F69 R y1 (104:Int) fun y25=>
(match (!y25) with
|true=>let v26:=List.replicate 32 (0:Int);let v27:= !(Kd.eqv (.arr 32 (.int .u8)) a0.2.2.2.1 v26);(match v27 with
|true=>k false
|false=>let v28:=decide (a0.2.1≥0);(match v28 with
|true=>let v29:=decide (a0.2.1<4294967296);(match v29 with
|true=>let v30:=decide (a0.2.2.2.2.1≥0);(match v30 with
|true=>let v31:=decide (a0.2.2.2.2.1<4294967296);k v31
|false=>k false)
|false=>k false)
|false=>k false))
|false=>let v32:=decide (a0.2.1≥0);(match v32 with
|true=>let v33:=decide (a0.2.1<4294967296);(match v33 with
|true=>let v34:=decide (a0.2.2.2.2.1≥0);(match v34 with
|true=>let v35:=decide (a0.2.2.2.2.1<4294967296);k v35
|false=>k false)
|false=>k false)
|false=>k false))))
|false=>F69 R y1 (97:Int) fun y36=>
(match (!y36) with
|true=>let v37:=a0.2.2.1 !=0;(match v37 with
|true=>k false
|false=>F69 R y1 (104:Int) fun y38=>
(match (!y38) with
|true=>let v39:=List.replicate 32 (0:Int);let v40:= !(Kd.eqv (.arr 32 (.int .u8)) a0.2.2.2.1 v39);(match v40 with
|true=>k false
|false=>let v41:=decide (a0.2.1≥0);(match v41 with
|true=>let v42:=decide (a0.2.1<4294967296);(match v42 with
|true=>let v43:=decide (a0.2.2.2.2.1≥0);(match v43 with
|true=>let v44:=decide (a0.2.2.2.2.1<4294967296);k v44
|false=>k false)
|false=>k false)
|false=>k false))
|false=>let v45:=decide (a0.2.1≥0);(match v45 with
|true=>let v46:=decide (a0.2.1<4294967296);(match v46 with
|true=>let v47:=decide (a0.2.2.2.2.1≥0);(match v47 with
|true=>let v48:=decide (a0.2.2.2.2.1<4294967296);k v48
|false=>k false)
|false=>k false)
|false=>k false)))
|false=>F69 R y1 (104:Int) fun y49=>
(match (!y49) with
|true=>let v50:=List.replicate 32 (0:Int);let v51:= !(Kd.eqv (.arr 32 (.int .u8)) a0.2.2.2.1 v50);(match v51 with
|true=>k false
|false=>let v52:=decide (a0.2.1≥0);(match v52 with
|true=>let v53:=decide (a0.2.1<4294967296);(match v53 with
|true=>let v54:=decide (a0.2.2.2.2.1≥0);(match v54 with
|true=>let v55:=decide (a0.2.2.2.2.1<4294967296);k v55
|false=>k false)
|false=>k false)
|false=>k false))
|false=>let v56:=decide (a0.2.1≥0);(match v56 with
|true=>let v57:=decide (a0.2.1<4294967296);(match v57 with
|true=>let v58:=decide (a0.2.2.2.2.1≥0);(match v58 with
|true=>let v59:=decide (a0.2.2.2.2.1<4294967296);k v59
|false=>k false)
|false=>k false)
|false=>k false)))))
|false=>F69 R y1 (110:Int) fun y60=>
(match (!y60) with
|true=>let v61:=a0.2.2.2.2.1 !=0;(match v61 with
|true=>k false
|false=>F69 R y1 (97:Int) fun y62=>
(match (!y62) with
|true=>let v63:=a0.2.2.1 !=0;(match v63 with
|true=>k false
|false=>F69 R y1 (104:Int) fun y64=>
(match (!y64) with
|true=>let v65:=List.replicate 32 (0:Int);let v66:= !(Kd.eqv (.arr 32 (.int .u8)) a0.2.2.2.1 v65);(match v66 with
|true=>k false
|false=>let v67:=decide (a0.2.1≥0);(match v67 with
|true=>let v68:=decide (a0.2.1<4294967296);(match v68 with
|true=>let v69:=decide (a0.2.2.2.2.1≥0);(match v69 with
|true=>let v70:=decide (a0.2.2.2.2.1<4294967296);k v70
|false=>k false)
|false=>k false)
|false=>k false))
|false=>let v71:=decide (a0.2.1≥0);(match v71 with
|true=>let v72:=decide (a0.2.1<4294967296);(match v72 with
|true=>let v73:=decide (a0.2.2.2.2.1≥0);(match v73 with
|true=>let v74:=decide (a0.2.2.2.2.1<4294967296);k v74
|false=>k false)
|false=>k false)
|false=>k false)))
|false=>F69 R y1 (104:Int) fun y75=>
(match (!y75) with
|true=>let v76:=List.replicate 32 (0:Int);let v77:= !(Kd.eqv (.arr 32 (.int .u8)) a0.2.2.2.1 v76);(match v77 with
|true=>k false
|false=>let v78:=decide (a0.2.1≥0);(match v78 with
|true=>let v79:=decide (a0.2.1<4294967296);(match v79 with
|true=>let v80:=decide (a0.2.2.2.2.1≥0);(match v80 with
|true=>let v81:=decide (a0.2.2.2.2.1<4294967296);k v81
|false=>k false)
|false=>k false)
|false=>k false))
|false=>let v82:=decide (a0.2.1≥0);(match v82 with
|true=>let v83:=decide (a0.2.1<4294967296);(match v83 with
|true=>let v84:=decide (a0.2.2.2.2.1≥0);(match v84 with
|true=>let v85:=decide (a0.2.2.2.2.1<4294967296);k v85
|false=>k false)
|false=>k false)
|false=>k false))))
|false=>F69 R y1 (97:Int) fun y86=>
(match (!y86) with
|true=>let v87:=a0.2.2.1 !=0;(match v87 with
|true=>k false
|false=>F69 R y1 (104:Int) fun y88=>
(match (!y88) with
|true=>let v89:=List.replicate 32 (0:Int);let v90:= !(Kd.eqv (.arr 32 (.int .u8)) a0.2.2.2.1 v89);(match v90 with
|true=>k false
|false=>let v91:=decide (a0.2.1≥0);(match v91 with
|true=>let v92:=decide (a0.2.1<4294967296);(match v92 with
|true=>let v93:=decide (a0.2.2.2.2.1≥0);(match v93 with
|true=>let v94:=decide (a0.2.2.2.2.1<4294967296);k v94
|false=>k false)
|false=>k false)
|false=>k false))
|false=>let v95:=decide (a0.2.1≥0);(match v95 with
|true=>let v96:=decide (a0.2.1<4294967296);(match v96 with
|true=>let v97:=decide (a0.2.2.2.2.1≥0);(match v97 with
|true=>let v98:=decide (a0.2.2.2.2.1<4294967296);k v98
|false=>k false)
|false=>k false)
|false=>k false)))
|false=>F69 R y1 (104:Int) fun y99=>
(match (!y99) with
|true=>let v100:=List.replicate 32 (0:Int);let v101:= !(Kd.eqv (.arr 32 (.int .u8)) a0.2.2.2.1 v100);(match v101 with
|true=>k false
|false=>let v102:=decide (a0.2.1≥0);(match v102 with
|true=>let v103:=decide (a0.2.1<4294967296);(match v103 with
|true=>let v104:=decide (a0.2.2.2.2.1≥0);(match v104 with
|true=>let v105:=decide (a0.2.2.2.2.1<4294967296);k v105
|false=>k false)
|false=>k false)
|false=>k false))
|false=>let v106:=decide (a0.2.1≥0);(match v106 with
|true=>let v107:=decide (a0.2.1<4294967296);(match v107 with
|true=>let v108:=decide (a0.2.2.2.2.1≥0);(match v108 with
|true=>let v109:=decide (a0.2.2.2.2.1<4294967296);k v109
|false=>k false)
|false=>k false)
|false=>k false))))))
def F47:FT47:=p47 F27 F28 F69
abbrev FT71:=(R:Type)→Int→(Tq17→Option R)→Option R
def p71:FT71:=fun R a0 k=>
k (a0,(0:Int),([]:LI),(List.replicate 32 (0:Int)),())
def F71:FT71:=p71
abbrev zos:=(R:Type)→(List Tq5)→(LI→Option R)→Option R
abbrev zrm (Z:Type):=(List Tq5)→Int→LI→Z
abbrev E109_3 (R:Type):=(LI→Option R)→Option R
abbrev zmi:=(R:Type)→zrm (E109_3 R)
def p109_3 (R:Type):zrm (zrm (Option R)→E109_3 R):=fun x1 x2 x3 kc k0=>
let v4:=(x1.length:Int);let v5:=decide (x2<v4);(match v5 with
|true=>(match bnd x2 x1.length with
|true=>let v6:=(x1.getD x2.toNat ((List.replicate 32 0),0,0,())).2.1;let v7:=([v6]:LI);(match (decide (x3.length+v7.length≤17592186044416)) with
|true=>let v8:=x3++v7;let v9:=IntKind.i64.wrap (x2+1);kc x1 v9 v8
|false=>none)
|false=>none)
|false=>k0 x3)
def zy9:Nat→zmi
 | 0=>fun _ _ _ _ _=>none
 | n+1=>fun R x1 x2 x3 k0=>p109_3 R x1 x2 x3 (fun x1 x2 x3=>zy9 n R x1 x2 x3 k0) k0
def p109 (L3:zmi):zos:=fun R a0 k=>
L3 R a0 (0:Int) ([]:LI) (fun x1=>
k x1)
def F109:zos:=p109 (zy9 FUEL)
abbrev FT195:=(R:Type)→Int→Int→(Int→Bool→Option R)→Option R
def p195:FT195:=fun R a0 a1 k=>
let v1:=decide (a0≥9223372036854775808);(match v1 with
|true=>k (0:Int) false
|false=>let v2:=IntKind.u64.wrap ((9223372036854775808:Int) - a0);let v3:=decide (a1≥v2);(match v3 with
|true=>k (0:Int) false
|false=>let v4:=IntKind.u64.wrap (a0+a1);k v4 true))
def F195:FT195:=p195
abbrev Ww:=(R:Type)→LI→(Int→Bool→Option R)→Option R
abbrev zrb (Z:Type):=LI→Int→Int→Z
abbrev E148_3 (R:Type):=(Int→Bool→Option R)→(Int→Option R)→Option R
abbrev zmd:=(R:Type)→zrb (E148_3 R)
def p148_3 (F195:FT195) (R:Type):zrb (zrb (Option R)→E148_3 R):=fun x1 x2 x3 kc k0 k1=>
let v4:=(x1.length:Int);let v5:=decide (x3<v4);(match v5 with
|true=>(match bnd x3 x1.length with
|true=>let v6:=x1.getD x3.toNat 0;F195 R x2 v6 fun y7 y8=>
(match (!y8) with
|true=>k0 (0:Int) false
|false=>let v9:=IntKind.i64.wrap (x3+1);kc x1 y7 v9)
|false=>none)
|false=>k1 x2)
def zy4:Nat→zmd
 | 0=>fun _ _ _ _ _ _=>none
 | n+1=>fun R x1 x2 x3 k0 k1=>p148_3 F195 R x1 x2 x3 (fun x1 x2 x3=>zy4 n R x1 x2 x3 k0 k1) k0 k1
def p148 (L3:zmd):Ww:=fun R a0 k=>
L3 R a0 (0:Int) (0:Int) (fun x1 x2=>
k x1 x2) (fun x3=>
k x3 true)
def F148:Ww:=p148 (zy4 FUEL)
abbrev zwl:=(R:Type)→(List Tq5)→(LI→Option R)→Option R
abbrev zra (Z:Type):=(List Tq5)→Int→LI→Z
abbrev E149_3 (R:Type):=(LI→Option R)→Option R
abbrev zmc:=(R:Type)→zra (E149_3 R)
def p149_3 (R:Type):zra (zra (Option R)→E149_3 R):=fun x1 x2 x3 kc k0=>
let v4:=(x1.length:Int);let v5:=decide (x2<v4);(match v5 with
|true=>(match bnd x2 x1.length with
|true=>let v6:=(x1.getD x2.toNat ((List.replicate 32 0),0,0,())).2.2.1;let v7:=([v6]:LI);(match (decide (x3.length+v7.length≤17592186044416)) with
|true=>let v8:=x3++v7;let v9:=IntKind.i64.wrap (x2+1);kc x1 v9 v8
|false=>none)
|false=>none)
|false=>k0 x3)
def zy3:Nat→zmc
 | 0=>fun _ _ _ _ _=>none
 | n+1=>fun R x1 x2 x3 k0=>p149_3 R x1 x2 x3 (fun x1 x2 x3=>zy3 n R x1 x2 x3 k0) k0
def p149 (L3:zmc):zwl:=fun R a0 k=>
L3 R a0 (0:Int) ([]:LI) (fun x1=>
k x1)
def F149:zwl:=p149 (zy3 FUEL)
abbrev zol:=(R:Type)→(List Tq5)→(Bool→Option R)→Option R
abbrev zre (Z:Type):=(List Tq5)→Int→Z
abbrev E146_6 (R:Type):=(Bool→Option R)→(Option R)→Option R
abbrev zmg:=(R:Type)→zre (E146_6 R)
abbrev zrd (Z:Type):=(List Tq5)→Int→Int→Z
abbrev E146_9 (R:Type):=(Bool→Option R)→((List Tq5)→Int→Option R)→Option R
abbrev zmf:=(R:Type)→zrd (E146_9 R)
def p146_9 (R:Type):zrd (zrd (Option R)→E146_9 R):=fun x1 x2 x3 kc k0 k1=>
let v4:=decide (x3<x2);(match v4 with
|true=>(match bnd x2 x1.length with
|true=>let v5:=(x1.getD x2.toNat ((List.replicate 32 0),0,0,())).1;(match bnd x3 x1.length with
|true=>let v6:=(x1.getD x3.toNat ((List.replicate 32 0),0,0,())).1;let v7:=Kd.eqv (.arr 32 (.int .u8)) v5 v6;(match v7 with
|true=>k0 false
|false=>let v8:=IntKind.i64.wrap (x3+1);kc x1 x2 v8)
|false=>none)
|false=>none)
|false=>k1 x1 x2)
def zy6:Nat→zmf
 | 0=>fun _ _ _ _ _ _=>none
 | n+1=>fun R x1 x2 x3 k0 k1=>p146_9 R x1 x2 x3 (fun x1 x2 x3=>zy6 n R x1 x2 x3 k0 k1) k0 k1
def p146_6 (L9:zmf) (R:Type):zre (zre (Option R)→E146_6 R):=fun x1 x2 kc k0 k1=>
let v3:=(x1.length:Int);let v4:=decide (x2<v3);(match v4 with
|true=>L9 R x1 x2 (0:Int) (fun x5=>
k0 x5) (fun x6 x7=>
let v8:=IntKind.i64.wrap (x7+1);kc x6 v8)
|false=>k1)
def zy7:Nat→zmg
 | 0=>fun _ _ _ _ _=>none
 | n+1=>fun R x1 x2 k0 k1=>p146_6 (zy6 FUEL) R x1 x2 (fun x1 x2=>zy7 n R x1 x2 k0 k1) k0 k1
def p146 (F109:zos) (F148:Ww) (F149:zwl) (L6:zmg):zol:=fun R a0 k=>
F109 R a0 fun y1=>
F148 R y1 fun y2 y3=>
F149 R a0 fun y4=>
F148 R y4 fun y5 y6=>
let v7:=(a0.length:Int);let v8:=decide (v7>1048576);(match v8 with
|true=>k false
|false=>(match (!y3) with
|true=>k false
|false=>(match (!y6) with
|true=>k false
|false=>L6 R a0 (0:Int) (fun x9=>
k x9) (k true))))
def F146:zol:=p146 F109 F148 F149 (zy7 FUEL)
abbrev FT147:=(R:Type)→(List Tq5)→LI→(Int→Bool→Option R)→Option R
abbrev zrc (Z:Type):=(List Tq5)→Int→LI→Z
abbrev E147_2 (R:Type):=(Int→Bool→Option R)→(Option R)→Option R
abbrev zme:=(R:Type)→zrc (E147_2 R)
def p147_2 (R:Type):zrc (zrc (Option R)→E147_2 R):=fun x1 x2 x3 kc k0 k1=>
let v4:=(x1.length:Int);let v5:=decide (x2<v4);(match v5 with
|true=>(match bnd x2 x1.length with
|true=>let v6:=(x1.getD x2.toNat ((List.replicate 32 0),0,0,())).1;let v7:=Kd.eqv (.arr 32 (.int .u8)) v6 x3;(match v7 with
|true=>k0 x2 true
|false=>let v8:=IntKind.i64.wrap (x2+1);kc x1 v8 x3)
|false=>none)
|false=>k1)
def zy5:Nat→zme
 | 0=>fun _ _ _ _ _ _=>none
 | n+1=>fun R x1 x2 x3 k0 k1=>p147_2 R x1 x2 x3 (fun x1 x2 x3=>zy5 n R x1 x2 x3 k0 k1) k0 k1
def p147 (L2:zme):FT147:=fun R a0 a1 k=>
L2 R a0 (0:Int) a1 (fun x1 x2=>
k x1 x2) (k (0:Int) false)
def F147:FT147:=p147 (zy5 FUEL)
abbrev zok:=(R:Type)→(List Tq5)→Int→Int→((List Tq5)→Option R)→Option R
def p150:zok:=fun R a0 a1 a2 k=>
let v1:=([]:(List Tq5));(match (decide (v1.length+a0.length≤2932031007402)) with
|true=>let v2:=v1++a0;(match bnd a1 v2.length with
|true=>let v3:=v2.set a1.toNat ((v2.getD a1.toNat ((List.replicate 32 0),0,0,())).1,(v2.getD a1.toNat ((List.replicate 32 0),0,0,())).2.1,a2,(v2.getD a1.toNat ((List.replicate 32 0),0,0,())).2.2.2);k v3
|false=>none)
|false=>none)
def F150:zok:=p150
abbrev FT98:=(R:Type)→(List Tq5)→LI→Int→Int→((List Tq5)→Int→Int→Option R)→Option R
def p98 (F146:zol) (F147:FT147) (F148:Ww) (F149:zwl) (F150:zok):FT98:=fun R a0 a1 a2 a3 k=>
F146 R a0 fun y1=>
(match (!y1) with
|true=>k ([]:(List Tq5)) (0:Int) (1:Int)
|false=>let v2:=a2==0;(match v2 with
|true=>k ([]:(List Tq5)) (0:Int) (1:Int)
|false=>let v3:=decide (a3<1);(match v3 with
|true=>k ([]:(List Tq5)) (0:Int) (1:Int)
|false=>let v4:=decide (a3>1048576);(match v4 with
|true=>k ([]:(List Tq5)) (0:Int) (1:Int)
|false=>F147 R a0 a1 fun y5 y6=>
(match (!y6) with
|true=>let v7:=(a0.length:Int);let v8:=decide (v7≥a3);(match v8 with
|true=>k ([]:(List Tq5)) (0:Int) (4:Int)
|false=>F149 R a0 fun y9=>
let v10:=([a2]:LI);(match (decide (y9.length+v10.length≤17592186044416)) with
|true=>let v11:=y9++v10;F148 R v11 fun y12 y13=>
(match (!y13) with
|true=>k ([]:(List Tq5)) (0:Int) (11:Int)
|false=>(match (!y6) with
|true=>let v14:=([]:(List Tq5));(match (decide (v14.length+a0.length≤2932031007402)) with
|true=>let v15:=v14++a0;let v16:=([(a1,(0:Int),a2,())]:(List Tq5));(match (decide (v15.length+v16.length≤2932031007402)) with
|true=>let v17:=v15++v16;let v18:=(a0.length:Int);k v17 v18 (0:Int)
|false=>none)
|false=>none)
|false=>(match bnd y5 a0.length with
|true=>let v19:=(a0.getD y5.toNat ((List.replicate 32 0),0,0,())).2.2.1;let v20:=IntKind.u64.wrap (v19+a2);F150 R a0 y5 v20 fun y21=>
k y21 y5 (0:Int)
|false=>none)))
|false=>none))
|false=>F149 R a0 fun y22=>
let v23:=([a2]:LI);(match (decide (y22.length+v23.length≤17592186044416)) with
|true=>let v24:=y22++v23;F148 R v24 fun y25 y26=>
(match (!y26) with
|true=>k ([]:(List Tq5)) (0:Int) (11:Int)
|false=>(match (!y6) with
|true=>let v27:=([]:(List Tq5));(match (decide (v27.length+a0.length≤2932031007402)) with
|true=>let v28:=v27++a0;let v29:=([(a1,(0:Int),a2,())]:(List Tq5));(match (decide (v28.length+v29.length≤2932031007402)) with
|true=>let v30:=v28++v29;let v31:=(a0.length:Int);k v30 v31 (0:Int)
|false=>none)
|false=>none)
|false=>(match bnd y5 a0.length with
|true=>let v32:=(a0.getD y5.toNat ((List.replicate 32 0),0,0,())).2.2.1;let v33:=IntKind.u64.wrap (v32+a2);F150 R a0 y5 v33 fun y34=>
k y34 y5 (0:Int)
|false=>none)))
|false=>none))))))
def F98:FT98:=p98 F146 F147 F148 F149 F150
abbrev FT99:=(R:Type)→(List Tq5)→Int→Int→((List Tq5)→Int→Int→Option R)→Option R
def p99 (F146:zol) (F150:zok):FT99:=fun R a0 a1 a2 k=>
F146 R a0 fun y1=>
(match (!y1) with
|true=>k ([]:(List Tq5)) (0:Int) (1:Int)
|false=>let v2:=a2==0;(match v2 with
|true=>k ([]:(List Tq5)) (0:Int) (1:Int)
|false=>let v3:=decide (a1<0);(match v3 with
|true=>k ([]:(List Tq5)) (0:Int) (5:Int)
|false=>let v4:=(a0.length:Int);let v5:=decide (a1≥v4);(match v5 with
|true=>k ([]:(List Tq5)) (0:Int) (5:Int)
|false=>(match bnd a1 a0.length with
|true=>let v6:=(a0.getD a1.toNat ((List.replicate 32 0),0,0,())).2.2.1;let v7:=decide (a2>v6);(match v7 with
|true=>k ([]:(List Tq5)) (0:Int) (12:Int)
|false=>(match bnd a1 a0.length with
|true=>let v8:=(a0.getD a1.toNat ((List.replicate 32 0),0,0,())).2.2.1;let v9:=IntKind.u64.wrap (v8 - a2);F150 R a0 a1 v9 fun y10=>
(match bnd a1 a0.length with
|true=>let v11:=(a0.getD a1.toNat ((List.replicate 32 0),0,0,())).2.2.1;let v12:=IntKind.u64.wrap (v11 - a2);k y10 v12 (0:Int)
|false=>none)
|false=>none))
|false=>none)))))
def F99:FT99:=p99 F146 F150
abbrev FT100:=(R:Type)→(List Tq5)→Int→Int→((List Tq5)→Int→Int→Option R)→Option R
def p100 (F146:zol) (F150:zok):FT100:=fun R a0 a1 a2 k=>
F146 R a0 fun y1=>
(match (!y1) with
|true=>k ([]:(List Tq5)) (0:Int) (1:Int)
|false=>let v2:=decide (a1<0);(match v2 with
|true=>k ([]:(List Tq5)) (0:Int) (5:Int)
|false=>let v3:=(a0.length:Int);let v4:=decide (a1≥v3);(match v4 with
|true=>k ([]:(List Tq5)) (0:Int) (5:Int)
|false=>(match bnd a1 a0.length with
|true=>let v5:=(a0.getD a1.toNat ((List.replicate 32 0),0,0,())).2.2.1;let v6:=decide (a2>v5);(match v6 with
|true=>(match bnd a1 a0.length with
|true=>let v7:=(a0.getD a1.toNat ((List.replicate 32 0),0,0,())).2.2.1;(match bnd a1 a0.length with
|true=>let v8:=(a0.getD a1.toNat ((List.replicate 32 0),0,0,())).2.2.1;let v9:=IntKind.u64.wrap (v8 - v7);F150 R a0 a1 v9 fun y10=>
k y10 v7 (0:Int)
|false=>none)
|false=>none)
|false=>(match bnd a1 a0.length with
|true=>let v11:=(a0.getD a1.toNat ((List.replicate 32 0),0,0,())).2.2.1;let v12:=IntKind.u64.wrap (v11 - a2);F150 R a0 a1 v12 fun y13=>
k y13 a2 (0:Int)
|false=>none))
|false=>none))))
def F100:FT100:=p100 F146 F150
abbrev FT72:=(R:Type)→Tq29→Tq11→(Tq29→Tq17→Option R)→Option R
def p72 (F71:FT71) (F98:FT98) (F99:FT99) (F100:FT100):FT72:=fun R a0 a1 k=>
let v1:=a1.1==1;(match v1 with
|true=>F98 R a0.2.2.1 a1.2.2.2.1 a1.2.2.1 a0.1.2.2.2.2.1 fun y2 y3 y4=>
let v5:=IntKind.u64.wrap y3;let v6:=y4 !=0;(match v6 with
|true=>F71 R y4 fun y7=>
k a0 y7
|false=>k (a0.1,a0.2.1,y2,a0.2.2.2) ((0:Int),v5,([]:LI),(List.replicate 32 (0:Int)),()))
|false=>let v8:=a1.1==2;(match v8 with
|true=>F99 R a0.2.2.1 a1.2.1 a1.2.2.1 fun y9 y10 y11=>
let v12:=y11 !=0;(match v12 with
|true=>F71 R y11 fun y13=>
k a0 y13
|false=>k (a0.1,a0.2.1,y9,a0.2.2.2) ((0:Int),y10,([]:LI),(List.replicate 32 (0:Int)),()))
|false=>F100 R a0.2.2.1 a1.2.1 a1.2.2.1 fun y14 y15 y16=>
let v17:=y16 !=0;(match v17 with
|true=>F71 R y16 fun y18=>
k a0 y18
|false=>k (a0.1,a0.2.1,y14,a0.2.2.2) ((0:Int),y15,([]:LI),(List.replicate 32 (0:Int)),()))))
def F72:FT72:=p72 F71 F98 F99 F100
abbrev zwp:=(R:Type)→Tq29→Int→(Bool→Option R)→Option R
def p101:zwp:=fun R a0 a1 k=>
let v1:=decide (a1≥0);(match v1 with
|true=>let v2:=(a0.2.2.1.length:Int);let v3:=decide (a1<v2);k v3
|false=>k false)
def F101:zwp:=p101
abbrev zwo:=(R:Type)→Tq21→Int→(Int→Option R)→Option R
def p102 (F37:FT37):zwo:=fun R a0 a1 k=>
F37 R a0 fun y1=>
(match (!y1) with
|true=>k (0:Int)
|false=>let v2:=decide (a1<0);(match v2 with
|true=>k (0:Int)
|false=>let v3:=decide (a1≥a0.1);(match v3 with
|true=>k (0:Int)
|false=>let v4:=decide (a1<a0.2.1);(match v4 with
|true=>k (1:Int)
|false=>let v5:=IntKind.i64.wrap (a0.2.1+a0.2.2.1);let v6:=decide (a1<v5);(match v6 with
|true=>k (2:Int)
|false=>k (3:Int))))))
def F102:zwo:=p102 F37
abbrev FT51:=(R:Type)→LI→(LI→Option R)→Option R
def p51 (F53:FT53) (F55:FT55):FT51:=fun R a0 k=>
F53 R a0 fun y1=>
F55 R y1 fun y2=>
k y2
def F51:FT51:=p51 F53 F55
abbrev zn4:=(R:Type)→(List Tq3)→(Bool→Option R)→Option R
abbrev zq0 (Z:Type):=(List Tq3)→Int→Z
abbrev E196_2 (R:Type):=(Bool→Option R)→(Option R)→Option R
abbrev zl7:=(R:Type)→zq0 (E196_2 R)
def p196_2 (F51:FT51) (R:Type):zq0 (zq0 (Option R)→E196_2 R):=fun x1 x2 kc k0 k1=>
let v3:=(x1.length:Int);let v4:=decide (x2<v3);(match v4 with
|true=>(match bnd x2 x1.length with
|true=>let v5:=x1.getD x2.toNat (0,(List.replicate 32 0),false,(List.replicate 32 0),());let v6:=decide (v5.1<0);(match v6 with
|true=>k0 false
|false=>let v7:=decide (x2>0);(match v7 with
|true=>let v8:=IntKind.i64.wrap (x2 - 1);(match bnd v8 x1.length with
|true=>let v9:=(x1.getD v8.toNat (0,(List.replicate 32 0),false,(List.replicate 32 0),())).1;let v10:=decide (v9≥v5.1);(match v10 with
|true=>k0 false
|false=>(match v5.2.2.1 with
|true=>F51 R v5.2.2.2.1 fun y11=>
let v12:= !(Kd.eqv (.arr 32 (.int .u8)) y11 v5.2.1);(match v12 with
|true=>k0 false
|false=>let v13:= !v5.2.2.1;(match v13 with
|true=>let v14:=List.replicate 32 (0:Int);let v15:= !(Kd.eqv (.arr 32 (.int .u8)) v5.2.2.2.1 v14);(match v15 with
|true=>k0 false
|false=>let v16:=IntKind.i64.wrap (x2+1);kc x1 v16)
|false=>let v17:=IntKind.i64.wrap (x2+1);kc x1 v17))
|false=>let v18:= !v5.2.2.1;(match v18 with
|true=>let v19:=List.replicate 32 (0:Int);let v20:= !(Kd.eqv (.arr 32 (.int .u8)) v5.2.2.2.1 v19);(match v20 with
|true=>k0 false
|false=>let v21:=IntKind.i64.wrap (x2+1);kc x1 v21)
|false=>let v22:=IntKind.i64.wrap (x2+1);kc x1 v22)))
|false=>none)
|false=>(match v5.2.2.1 with
|true=>F51 R v5.2.2.2.1 fun y23=>
let v24:= !(Kd.eqv (.arr 32 (.int .u8)) y23 v5.2.1);(match v24 with
|true=>k0 false
|false=>let v25:= !v5.2.2.1;(match v25 with
|true=>let v26:=List.replicate 32 (0:Int);let v27:= !(Kd.eqv (.arr 32 (.int .u8)) v5.2.2.2.1 v26);(match v27 with
|true=>k0 false
|false=>let v28:=IntKind.i64.wrap (x2+1);kc x1 v28)
|false=>let v29:=IntKind.i64.wrap (x2+1);kc x1 v29))
|false=>let v30:= !v5.2.2.1;(match v30 with
|true=>let v31:=List.replicate 32 (0:Int);let v32:= !(Kd.eqv (.arr 32 (.int .u8)) v5.2.2.2.1 v31);(match v32 with
|true=>k0 false
|false=>let v33:=IntKind.i64.wrap (x2+1);kc x1 v33)
|false=>let v34:=IntKind.i64.wrap (x2+1);kc x1 v34))))
|false=>none)
|false=>k1)
def zyx:Nat→zl7
 | 0=>fun _ _ _ _ _=>none
 | n+1=>fun R x1 x2 k0 k1=>p196_2 F51 R x1 x2 (fun x1 x2=>zyx n R x1 x2 k0 k1) k0 k1
def p196 (L2:zl7):zn4:=fun R a0 k=>
L2 R a0 (0:Int) (fun x1=>
k x1) (k true)
def F196:zn4:=p196 (zyx FUEL)
abbrev FT198:=(R:Type)→(List LI)→(LI→Option R)→Option R
abbrev zqy (Z:Type):=(List LI)→Int→LI→LI→Z
abbrev E198_3 (R:Type):=(LI→LI→Option R)→Option R
abbrev zl5:=(R:Type)→zqy (E198_3 R)
abbrev zqx (Z:Type):=(List LI)→Int→Int→LI→LI→Z
abbrev E198_6 (R:Type):=((List LI)→Int→LI→LI→Option R)→Option R
abbrev zl4:=(R:Type)→zqx (E198_6 R)
def p198_6 (R:Type):zqx (zqx (Option R)→E198_6 R):=fun x1 x2 x3 x4 x5 kc k0=>
let v6:=decide (x3<32);(match v6 with
|true=>(match (bnd x3 (32:Int)) with
|true=>let v7:=x5.getD x3.toNat 0;(match bnd x2 x1.length with
|true=>(match (bnd x3 (32:Int)) with
|true=>let v8:=List.getD (x1.getD x2.toNat (List.replicate 32 0)) x3.toNat (0:Int);let v9:=ixor .u8 v7 v8;(match (bnd x3 (32:Int)) with
|true=>let v10:=x5.set x3.toNat v9;let v11:=IntKind.i64.wrap (x3+1);kc x1 x2 v11 x4 v10
|false=>none)
|false=>none)
|false=>none)
|false=>none)
|false=>k0 x1 x2 x4 x5)
def zyu:Nat→zl4
 | 0=>fun _ _ _ _ _ _ _=>none
 | n+1=>fun R x1 x2 x3 x4 x5 k0=>p198_6 R x1 x2 x3 x4 x5 (fun x1 x2 x3 x4 x5=>zyu n R x1 x2 x3 x4 x5 k0) k0
def p198_3 (L6:zl4) (R:Type):zqy (zqy (Option R)→E198_3 R):=fun x1 x2 x3 x4 kc k0=>
let v5:=(x1.length:Int);let v6:=decide (x2<v5);(match v6 with
|true=>L6 R x1 x2 (0:Int) x3 x4 (fun x7 x8 x9 x10=>
let v11:=IntKind.i64.wrap (x8+1);kc x7 v11 x9 x10)
|false=>k0 x3 x4)
def zyv:Nat→zl5
 | 0=>fun _ _ _ _ _ _=>none
 | n+1=>fun R x1 x2 x3 x4 k0=>p198_3 (zyu FUEL) R x1 x2 x3 x4 (fun x1 x2 x3 x4=>zyv n R x1 x2 x3 x4 k0) k0
def p198 (L3:zl5):FT198:=fun R a0 k=>
L3 R a0 (0:Int) (List.replicate 32 (0:Int)) (List.replicate 32 (0:Int)) (fun x1 x2=>
k x2)
def F198:FT198:=p198 (zyv FUEL)
abbrev zwk:=(R:Type)→(List Tq3)→(LI→Option R)→Option R
abbrev zq8 (Z:Type):=(List Tq3)→Int→LI→(List LI)→Z
abbrev E154_3 (R:Type):=(LI→(List LI)→Option R)→Option R
abbrev zma:=(R:Type)→zq8 (E154_3 R)
def p154_3 (R:Type):zq8 (zq8 (Option R)→E154_3 R):=fun x1 x2 x3 x4 kc k0=>
let v5:=(x1.length:Int);let v6:=decide (x2<v5);(match v6 with
|true=>(match bnd x2 x1.length with
|true=>let v7:=(x1.getD x2.toNat (0,(List.replicate 32 0),false,(List.replicate 32 0),())).2.2.1;(match v7 with
|true=>(match bnd x2 x1.length with
|true=>let v8:=(x1.getD x2.toNat (0,(List.replicate 32 0),false,(List.replicate 32 0),())).2.2.2.1;let v9:=([v8]:(List LI));(match (decide (x4.length+v9.length≤4398046511104)) with
|true=>let v10:=x4++v9;let v11:=IntKind.i64.wrap (x2+1);kc x1 v11 x3 v10
|false=>none)
|false=>none)
|false=>let v12:=IntKind.i64.wrap (x2+1);kc x1 v12 x3 x4)
|false=>none)
|false=>k0 x3 x4)
def zy1:Nat→zma
 | 0=>fun _ _ _ _ _ _=>none
 | n+1=>fun R x1 x2 x3 x4 k0=>p154_3 R x1 x2 x3 x4 (fun x1 x2 x3 x4=>zy1 n R x1 x2 x3 x4 k0) k0
def p154 (F198:FT198) (L3:zma):zwk:=fun R a0 k=>
L3 R a0 (0:Int) (List.replicate 32 (0:Int)) ([]:(List LI)) (fun x1 x2=>
F198 R x2 fun y3=>
k y3)
def F154:zwk:=p154 F198 (zy1 FUEL)
abbrev zoj:=(R:Type)→Tq24→(Bool→Option R)→Option R
def p151 (F154:zwk) (F196:zn4):zoj:=fun R a0 k=>
F196 R a0.2.2.2.1 fun y1=>
(match y1 with
|true=>F154 R a0.2.2.2.1 fun y2=>
let v3:=Kd.eqv (.arr 32 (.int .u8)) a0.2.2.1 y2;k v3
|false=>k false)
def F151:zoj:=p151 F154 F196
abbrev zwj:=(R:Type)→(List Tq3)→Int→(Int→Option R)→Option R
abbrev zqz (Z:Type):=(List Tq3)→Int→Int→Z
abbrev E197_2 (R:Type):=(Int→Option R)→(Option R)→Option R
abbrev zl6:=(R:Type)→zqz (E197_2 R)
def p197_2 (R:Type):zqz (zqz (Option R)→E197_2 R):=fun x1 x2 x3 kc k0 k1=>
let v4:=(x1.length:Int);let v5:=decide (x3<v4);(match v5 with
|true=>(match bnd x3 x1.length with
|true=>let v6:=(x1.getD x3.toNat (0,(List.replicate 32 0),false,(List.replicate 32 0),())).1;let v7:=v6==x2;(match v7 with
|true=>k0 x3
|false=>let v8:=IntKind.i64.wrap (x3+1);kc x1 x2 v8)
|false=>none)
|false=>k1)
def zyw:Nat→zl6
 | 0=>fun _ _ _ _ _ _=>none
 | n+1=>fun R x1 x2 x3 k0 k1=>p197_2 R x1 x2 x3 (fun x1 x2 x3=>zyw n R x1 x2 x3 k0 k1) k0 k1
def p197 (L2:zl6):zwj:=fun R a0 a1 k=>
L2 R a0 a1 (0:Int) (fun x1=>
k x1) (k (-1:Int))
def F197:zwj:=p197 (zyw FUEL)
abbrev FT152:=(R:Type)→(List Tq3)→Int→LI→((List Tq3)→Int→Option R)→Option R
abbrev zq9 (Z:Type):=(List Tq3)→Int→Int→LI→(List Tq3)→Z
abbrev E152_7 (R:Type):=((List Tq3)→Int→Int→LI→(List Tq3)→Option R)→Option R
abbrev zmb:=(R:Type)→zq9 (E152_7 R)
def p152_7 (R:Type):zq9 (zq9 (Option R)→E152_7 R):=fun x1 x2 x3 x4 x5 kc k0=>
let v6:=(x1.length:Int);let v7:=decide (x3<v6);(match v7 with
|true=>(match bnd x3 x1.length with
|true=>let v8:=(x1.getD x3.toNat (0,(List.replicate 32 0),false,(List.replicate 32 0),())).1;let v9:=decide (v8<x2);(match v9 with
|true=>(match bnd x3 x1.length with
|true=>let v10:=x1.getD x3.toNat (0,(List.replicate 32 0),false,(List.replicate 32 0),());let v11:=([v10]:(List Tq3));(match (decide (x5.length+v11.length≤1759218604441)) with
|true=>let v12:=x5++v11;let v13:=IntKind.i64.wrap (x3+1);kc x1 x2 v13 x4 v12
|false=>none)
|false=>none)
|false=>k0 x1 x2 x3 x4 x5)
|false=>none)
|false=>k0 x1 x2 x3 x4 x5)
def zy2:Nat→zmb
 | 0=>fun _ _ _ _ _ _ _=>none
 | n+1=>fun R x1 x2 x3 x4 x5 k0=>p152_7 R x1 x2 x3 x4 x5 (fun x1 x2 x3 x4 x5=>zy2 n R x1 x2 x3 x4 x5 k0) k0
def p152 (F196:zn4) (F197:zwj) (L7:zmb):FT152:=fun R a0 a1 a2 k=>
F196 R a0 fun y1=>
(match (!y1) with
|true=>k ([]:(List Tq3)) (1:Int)
|false=>let v2:=decide (a1<0);(match v2 with
|true=>k ([]:(List Tq3)) (1:Int)
|false=>F197 R a0 a1 fun y3=>
let v4:=decide (y3≥0);(match v4 with
|true=>k ([]:(List Tq3)) (6:Int)
|false=>L7 R a0 a1 (0:Int) a2 ([]:(List Tq3)) (fun x5 x6 x7 x8 x9=>
let v10:=([(x6,x8,false,(List.replicate 32 (0:Int)),())]:(List Tq3));(match (decide (x9.length+v10.length≤1759218604441)) with
|true=>let v11:=x9++v10;(match (decide (0≤x7∧x7≤(x5.length:Int)∧(x5.length:Int)≤(x5.length:Int)∧(x5.length:Int)≤(x5.length:Int))) with
|true=>let v12:=List.take (Int.toNat ((x5.length:Int) - x7)) (List.drop x7.toNat x5);(match (decide (v11.length+v12.length≤1759218604441)) with
|true=>let v13:=v11++v12;k v13 (0:Int)
|false=>none)
|false=>none)
|false=>none)))))
def F152:FT152:=p152 F196 F197 (zy2 FUEL)
abbrev FT103:=(R:Type)→Tq24→Int→Int→LI→(Tq24→Int→Option R)→Option R
def p103 (F151:zoj) (F152:FT152):FT103:=fun R a0 a1 a2 a3 k=>
F151 R a0 fun y1=>
(match (!y1) with
|true=>k ((0:Int),(List.replicate 32 (0:Int)),(List.replicate 32 (0:Int)),([]:(List Tq3)),()) (1:Int)
|false=>let v2:=a1 !=1;(match v2 with
|true=>k ((0:Int),(List.replicate 32 (0:Int)),(List.replicate 32 (0:Int)),([]:(List Tq3)),()) (7:Int)
|false=>F152 R a0.2.2.2.1 a2 a3 fun y3 y4=>
let v5:=y4 !=0;(match v5 with
|true=>k ((0:Int),(List.replicate 32 (0:Int)),(List.replicate 32 (0:Int)),([]:(List Tq3)),()) y4
|false=>k (a0.1,a0.2.1,a0.2.2.1,y3,a0.2.2.2.2) (0:Int))))
def F103:FT103:=p103 F151 F152
abbrev FT153:=(R:Type)→(List Tq3)→Int→LI→((List Tq3)→Int→Option R)→Option R
def p153 (F51:FT51) (F196:zn4) (F197:zwj):FT153:=fun R a0 a1 a2 k=>
F196 R a0 fun y1=>
(match (!y1) with
|true=>k ([]:(List Tq3)) (1:Int)
|false=>F197 R a0 a1 fun y2=>
let v3:=decide (y2<0);(match v3 with
|true=>k ([]:(List Tq3)) (5:Int)
|false=>(match bnd y2 a0.length with
|true=>let v4:=(a0.getD y2.toNat (0,(List.replicate 32 0),false,(List.replicate 32 0),())).2.2.1;(match v4 with
|true=>k ([]:(List Tq3)) (6:Int)
|false=>F51 R a2 fun y5=>
(match bnd y2 a0.length with
|true=>let v6:=(a0.getD y2.toNat (0,(List.replicate 32 0),false,(List.replicate 32 0),())).2.1;let v7:= !(Kd.eqv (.arr 32 (.int .u8)) y5 v6);(match v7 with
|true=>k ([]:(List Tq3)) (13:Int)
|false=>let v8:=([]:(List Tq3));(match (decide (v8.length+a0.length≤1759218604441)) with
|true=>let v9:=v8++a0;(match bnd y2 v9.length with
|true=>let v10:=v9.set y2.toNat ((v9.getD y2.toNat (0,(List.replicate 32 0),false,(List.replicate 32 0),())).1,(v9.getD y2.toNat (0,(List.replicate 32 0),false,(List.replicate 32 0),())).2.1,true,(v9.getD y2.toNat (0,(List.replicate 32 0),false,(List.replicate 32 0),())).2.2.2);(match bnd y2 v10.length with
|true=>let v11:=v10.set y2.toNat ((v10.getD y2.toNat (0,(List.replicate 32 0),false,(List.replicate 32 0),())).1,(v10.getD y2.toNat (0,(List.replicate 32 0),false,(List.replicate 32 0),())).2.1,(v10.getD y2.toNat (0,(List.replicate 32 0),false,(List.replicate 32 0),())).2.2.1,a2,(v10.getD y2.toNat (0,(List.replicate 32 0),false,(List.replicate 32 0),())).2.2.2.2);k v11 (0:Int)
|false=>none)
|false=>none)
|false=>none))
|false=>none))
|false=>none)))
def F153:FT153:=p153 F51 F196 F197
abbrev FT104:=(R:Type)→Tq24→Int→Int→LI→(Tq24→Int→Option R)→Option R
def p104 (F151:zoj) (F153:FT153) (F154:zwk):FT104:=fun R a0 a1 a2 a3 k=>
F151 R a0 fun y1=>
(match (!y1) with
|true=>k ((0:Int),(List.replicate 32 (0:Int)),(List.replicate 32 (0:Int)),([]:(List Tq3)),()) (1:Int)
|false=>let v2:=a1 !=2;(match v2 with
|true=>k ((0:Int),(List.replicate 32 (0:Int)),(List.replicate 32 (0:Int)),([]:(List Tq3)),()) (7:Int)
|false=>F153 R a0.2.2.2.1 a2 a3 fun y3 y4=>
let v5:=y4 !=0;(match v5 with
|true=>k ((0:Int),(List.replicate 32 (0:Int)),(List.replicate 32 (0:Int)),([]:(List Tq3)),()) y4
|false=>F154 R y3 fun y6=>
k (a0.1,a0.2.1,y6,y3,a0.2.2.2.2) (0:Int))))
def F104:FT104:=p104 F151 F153 F154
abbrev FT73:=(R:Type)→Tq29→Tq11→(Tq29→Tq17→Option R)→Option R
def p73 (F71:FT71) (F101:zwp) (F102:zwo) (F103:FT103) (F104:FT104):FT73:=fun R a0 a1 k=>
F101 R a0 a1.2.1 fun y1=>
(match (!y1) with
|true=>F71 R (5:Int) fun y2=>
k a0 y2
|false=>F102 R a0.1 a0.2.1 fun y3=>
F103 R a0.2.2.2.1 y3 a1.2.1 a1.2.2.2.1 fun y4 y5=>
let v6:=a1.1==5;(match v6 with
|true=>F104 R a0.2.2.2.1 y3 a1.2.1 a1.2.2.2.1 fun y7 y8=>
let v9:=y8 !=0;(match v9 with
|true=>F71 R y8 fun y10=>
k a0 y10
|false=>k (a0.1,a0.2.1,a0.2.2.1,y7,a0.2.2.2.2) ((0:Int),(0:Int),([]:LI),(List.replicate 32 (0:Int)),()))
|false=>let v11:=y5 !=0;(match v11 with
|true=>F71 R y5 fun y12=>
k a0 y12
|false=>k (a0.1,a0.2.1,a0.2.2.1,y4,a0.2.2.2.2) ((0:Int),(0:Int),([]:LI),(List.replicate 32 (0:Int)),()))))
def F73:FT73:=p73 F71 F101 F102 F103 F104
abbrev FT105:=(R:Type)→Tq21→Int→(Int→Bool→Option R)→Option R
def p105 (F102:zwo):FT105:=fun R a0 a1 k=>
F102 R a0 a1 fun y1=>
let v2:=y1==0;(match v2 with
|true=>k (0:Int) false
|false=>let v3:=IntKind.i64.wrap (a0.1 - 1);let v4:=a1==v3;(match v4 with
|true=>k (0:Int) true
|false=>let v5:=IntKind.i64.wrap (a1+1);k v5 false))
def F105:FT105:=p105 F102
abbrev FT155:=(R:Type)→(List Tq3)→(LI→Option R)→Option R
abbrev zq7 (Z:Type):=(List Tq3)→Int→LI→Z
abbrev E155_3 (R:Type):=(LI→Option R)→Option R
abbrev zl9:=(R:Type)→zq7 (E155_3 R)
def p155_3 (R:Type):zq7 (zq7 (Option R)→E155_3 R):=fun x1 x2 x3 kc k0=>
let v4:=(x1.length:Int);let v5:=decide (x2<v4);(match v5 with
|true=>(match bnd x2 x1.length with
|true=>let v6:=(x1.getD x2.toNat (0,(List.replicate 32 0),false,(List.replicate 32 0),())).2.2.1;(match (!v6) with
|true=>(match bnd x2 x1.length with
|true=>let v7:=(x1.getD x2.toNat (0,(List.replicate 32 0),false,(List.replicate 32 0),())).1;let v8:=([v7]:LI);(match (decide (x3.length+v8.length≤17592186044416)) with
|true=>let v9:=x3++v8;let v10:=IntKind.i64.wrap (x2+1);kc x1 v10 v9
|false=>none)
|false=>none)
|false=>let v11:=IntKind.i64.wrap (x2+1);kc x1 v11 x3)
|false=>none)
|false=>k0 x3)
def zy0:Nat→zl9
 | 0=>fun _ _ _ _ _=>none
 | n+1=>fun R x1 x2 x3 k0=>p155_3 R x1 x2 x3 (fun x1 x2 x3=>zy0 n R x1 x2 x3 k0) k0
def p155 (L3:zl9):FT155:=fun R a0 k=>
L3 R a0 (0:Int) ([]:LI) (fun x1=>
k x1)
def F155:FT155:=p155 (zy0 FUEL)
abbrev FT106:=(R:Type)→Tq24→(Tq24→Tq37→LI→Int→Option R)→Option R
def p106 (F25:FT25) (F151:zoj) (F155:FT155):FT106:=fun R a0 k=>
F151 R a0 fun y1=>
(match (!y1) with
|true=>k ((0:Int),(List.replicate 32 (0:Int)),(List.replicate 32 (0:Int)),([]:(List Tq3)),()) ((0:Int),(List.replicate 32 (0:Int)),(List.replicate 32 (0:Int)),(List.replicate 32 (0:Int)),()) ([]:LI) (1:Int)
|false=>let v2:=a0.1==18446744073709551615;(match v2 with
|true=>k ((0:Int),(List.replicate 32 (0:Int)),(List.replicate 32 (0:Int)),([]:(List Tq3)),()) ((0:Int),(List.replicate 32 (0:Int)),(List.replicate 32 (0:Int)),(List.replicate 32 (0:Int)),()) ([]:LI) (3:Int)
|false=>F25 R a0.2.1 a0.1 a0.2.2.1 fun y3=>
let v4:=IntKind.u64.wrap (a0.1+1);F155 R a0.2.2.2.1 fun y5=>
k (v4,y3,(List.replicate 32 (0:Int)),([]:(List Tq3)),()) (a0.1,a0.2.1,a0.2.2.1,y3,()) y5 (0:Int)))
def F106:FT106:=p106 F25 F151 F155
abbrev FT107:=(R:Type)→(List Tq5)→((List Tq5)→Option R)→Option R
abbrev zro (Z:Type):=(List Tq5)→Int→(List Tq5)→Z
abbrev E107_3 (R:Type):=((List Tq5)→Option R)→Option R
abbrev zmk:=(R:Type)→zro (E107_3 R)
def p107_3 (R:Type):zro (zro (Option R)→E107_3 R):=fun x1 x2 x3 kc k0=>
let v4:=(x1.length:Int);let v5:=decide (x2<v4);(match v5 with
|true=>(match bnd x2 x1.length with
|true=>let v6:=(x1.getD x2.toNat ((List.replicate 32 0),0,0,())).1;(match bnd x2 x1.length with
|true=>let v7:=(x1.getD x2.toNat ((List.replicate 32 0),0,0,())).2.2.1;(match bnd x2 x1.length with
|true=>let v8:=(x1.getD x2.toNat ((List.replicate 32 0),0,0,())).2.2.1;let v9:=([(v6,v7,v8,())]:(List Tq5));(match (decide (x3.length+v9.length≤2932031007402)) with
|true=>let v10:=x3++v9;let v11:=IntKind.i64.wrap (x2+1);kc x1 v11 v10
|false=>none)
|false=>none)
|false=>none)
|false=>none)
|false=>k0 x3)
def zzb:Nat→zmk
 | 0=>fun _ _ _ _ _=>none
 | n+1=>fun R x1 x2 x3 k0=>p107_3 R x1 x2 x3 (fun x1 x2 x3=>zzb n R x1 x2 x3 k0) k0
def p107 (L3:zmk):FT107:=fun R a0 k=>
L3 R a0 (0:Int) ([]:(List Tq5)) (fun x1=>
k x1)
def F107:FT107:=p107 (zzb FUEL)
abbrev zfq:=(R:Type)→Int→Int→(Bool→Option R)→Option R
def p156:zfq:=fun R a0 a1 k=>
let v1:=decide (a0≥0);(match v1 with
|true=>let v2:=decide (a0<1024);(match v2 with
|true=>let v3:=decide (a1≥1);(match v3 with
|true=>let v4:=decide (a1≤64);k v4
|false=>k false)
|false=>k false)
|false=>k false)
def F156:zfq:=p156
abbrev FT248:=(R:Type)→Int→(Int→Option R)→Option R
abbrev zqj (Z:Type):=Int→Int→Z
abbrev E248_2 (R:Type):=(Int→Option R)→Option R
abbrev zly:=(R:Type)→zqj (E248_2 R)
def p248_2 (R:Type):zqj (zqj (Option R)→E248_2 R):=fun x1 x2 kc k0=>
let v3:=Int.tmod x1 (2:Int);let v4:=v3==0;(match v4 with
|true=>let v5:=IntKind.i64.wrap (Int.tdiv x1 (2:Int));let v6:=IntKind.i64.wrap ((2:Int)*x2);kc v5 v6
|false=>k0 x2)
def zyo:Nat→zly
 | 0=>fun _ _ _ _=>none
 | n+1=>fun R x1 x2 k0=>p248_2 R x1 x2 (fun x1 x2=>zyo n R x1 x2 k0) k0
def p248 (L2:zly):FT248:=fun R a0 k=>
L2 R a0 (1:Int) (fun x1=>
k x1)
def F248:FT248:=p248 (zyo FUEL)
abbrev FT247:=(R:Type)→LI→Int→Int→(Int→Option R)→Option R
abbrev zqk (Z:Type):=LI→Int→Int→Int→Z
abbrev E247_3 (R:Type):=(Int→Option R)→Option R
abbrev zlz:=(R:Type)→zqk (E247_3 R)
def p247_3 (R:Type):zqk (zqk (Option R)→E247_3 R):=fun x1 x2 x3 x4 kc k0=>
let v5:=decide (x4<x2);(match v5 with
|true=>(match bnd x4 x1.length with
|true=>let v6:=x1.getD x4.toNat 0;let v7:=IntKind.u64.wrap (x3+v6);let v8:=IntKind.i64.wrap (x4+1);kc x1 x2 v7 v8
|false=>none)
|false=>k0 x3)
def zyp:Nat→zlz
 | 0=>fun _ _ _ _ _ _=>none
 | n+1=>fun R x1 x2 x3 x4 k0=>p247_3 R x1 x2 x3 x4 (fun x1 x2 x3 x4=>zyp n R x1 x2 x3 x4 k0) k0
def p247 (L3:zlz):FT247:=fun R a0 a1 a2 k=>
L3 R a0 a2 (0:Int) a1 (fun x1=>
k x1)
def F247:FT247:=p247 (zyp FUEL)
abbrev FT199:=(R:Type)→LI→((LI×Unit)→Option R)→Option R
abbrev zqw (Z:Type):=LI→Int→(LI×Unit)→LI→Unit→Z
abbrev E199_3 (R:Type):=((LI×Unit)→LI→Unit→Option R)→Option R
abbrev zl3:=(R:Type)→zqw (E199_3 R)
def p199_3 (F247:FT247) (F248:FT248) (R:Type):zqw (zqw (Option R)→E199_3 R):=fun x1 x2 x3 x4 x5 kc k0=>
let v6:=(x1.length:Int);let v7:=decide (x2<v6);(match v7 with
|true=>let v8:=IntKind.i64.wrap (x2+1);let v9:=IntKind.i64.wrap (x2+1);F248 R v9 fun y10=>
let v11:=IntKind.i64.wrap (v8 - y10);let v12:=IntKind.i64.wrap (x2+1);F247 R x1 v11 v12 fun y13=>
let v14:=([y13]:LI);(match (decide (x4.length+v14.length≤17592186044416)) with
|true=>let v15:=x4++v14;let v16:=IntKind.i64.wrap (x2+1);kc x1 v16 x3 v15 ()
|false=>none)
|false=>k0 x3 x4 ())
def zyt:Nat→zl3
 | 0=>fun _ _ _ _ _ _ _=>none
 | n+1=>fun R x1 x2 x3 x4 x5 k0=>p199_3 F247 F248 R x1 x2 x3 x4 x5 (fun x1 x2 x3 x4 x5=>zyt n R x1 x2 x3 x4 x5 k0) k0
def p199 (L3:zl3):FT199:=fun R a0 k=>
L3 R a0 (0:Int) (([]:LI),()) ([]:LI) () (fun x1 x2 x3=>
k (x2,()))
def F199:FT199:=p199 (zyt FUEL)
abbrev zoi:=(R:Type)→LI→((LI×Unit)→Int→Option R)→Option R
def p157 (F148:Ww) (F199:FT199):zoi:=fun R a0 k=>
let v1:=(a0.length:Int);let v2:=decide (v1>1048576);(match v2 with
|true=>k (([]:LI),()) (14:Int)
|false=>F148 R a0 fun y3 y4=>
(match (!y4) with
|true=>k (([]:LI),()) (11:Int)
|false=>F199 R a0 fun y5=>
k y5 (0:Int)))
def F157:zoi:=p157 F148 F199
abbrev FT202:=(R:Type)→Int→Int→(Int→Option R)→Option R
def p202:FT202:=fun R a0 a1 k=>
let v1:=IntKind.u64.wrap a0;let v2:=IntKind.u64.wrap (v1*4294967296);let v3:=IntKind.u64.wrap a1;let v4:=IntKind.u64.wrap (v2+v3);k v4
def F202:FT202:=p202
abbrev zoh:=(R:Type)→LI→Int→Int→(Tq40→Option R)→Option R
def p159 (F202:FT202):zoh:=fun R a0 a1 a2 k=>
let v1:=IntKind.u32.wrap a2;F202 R a1 v1 fun y2=>
k ((2:Int),([]:LI),(0:Int),a0,y2,(0:Int),())
def F159:zoh:=p159 F202
abbrev zfp:=(R:Type)→Tq40→(Bool→Option R)→Option R
def p205:zfp:=fun R a0 k=>
let v1:=a0.1==1;(match v1 with
|true=>let v2:=(a0.2.1.length:Int);let v3:=IntKind.u64.wrap v2;let v4:=IntKind.u64.wrap ((8:Int)*v3);let v5:=decide (a0.2.2.1≤v4);(match v5 with
|true=>let v6:=decide (a0.2.2.2.2.2.1≤a0.2.2.1);k v6
|false=>k false)
|false=>let v7:=a0.1==2;(match v7 with
|true=>let v8:=decide (a0.2.2.2.2.2.1≤4611686018427387904);k v8
|false=>k false))
def F205:zfp:=p205
abbrev FT250:=(R:Type)→Int→(Int→Option R)→Option R
def p250 (F281:FT281):FT250:=fun R a0 k=>
let v1:=a0==0;(match v1 with
|true=>k (0:Int)
|false=>let v2:=IntKind.u64.wrap (a0 - 1);F281 R v2 fun y3=>
k y3)
def F250:FT250:=p250 F281
abbrev FT279:=(R:Type)→Tq40→(Int→Option R)→Option R
def p279 (F205:zfp):FT279:=fun R a0 k=>
F205 R a0 fun y1=>
(match (!y1) with
|true=>k (0:Int)
|false=>let v2:=a0.1==1;(match v2 with
|true=>let v3:=IntKind.u64.wrap (a0.2.2.1 - a0.2.2.2.2.2.1);k v3
|false=>let v4:=IntKind.u64.wrap ((4611686018427387904:Int) - a0.2.2.2.2.2.1);k v4))
def F279:FT279:=p279 F205
end Go.PG
set_option maxRecDepth 100000
namespace Go.PG
open Go.Proofs
abbrev FT320:=(R:Type)→LI→Int→Int→(LI→Option R)→Option R
abbrev zpy (Z:Type):=Int→Int→Int→LI→LI→LI→Z
abbrev zzq (R:Type):=(Int→Int→LI→LI→Option R)→Option R
abbrev zlt:=(R:Type)→zpy (zzq R)
abbrev zpx (Z:Type):=Int→LI→LI→LI→LI→Z
abbrev zzp (R:Type):=(LI→LI→LI→Option R)→Option R
abbrev zls:=(R:Type)→zpx (zzp R)
abbrev zbn (Z:Type):=Int→LI→LI→LI→Z
abbrev zpn (R:Type):=(LI→LI→Option R)→Option R
abbrev zdh:=(R:Type)→zbn (zpn R)
def p320_3 (R:Type):zpy (zpy (Option R)→zzq R):=fun x1 x2 x3 x4 x5 x6 kc k0=>
let v7:=decide (x3<32);(match v7 with
|true=>(match (bnd x3 (32:Int)) with
|true=>let v8:=x4.getD x3.toNat 0;let v9:=([v8]:LI);(match (decide (x6.length+v9.length≤140737488355328)) with
|true=>let v10:=x6++v9;let v11:=IntKind.i64.wrap (x3+1);kc x1 x2 v11 x4 x5 v10
|false=>none)
|false=>none)
|false=>k0 x1 x2 x5 x6)
def zyh:Nat→zlt
 | 0=>fun _ _ _ _ _ _ _ _=>none
 | n+1=>fun R x1 x2 x3 x4 x5 x6 k0=>p320_3 R x1 x2 x3 x4 x5 x6 (fun x1 x2 x3 x4 x5 x6=>zyh n R x1 x2 x3 x4 x5 x6 k0) k0
def p320_8 (R:Type):zpx (zpx (Option R)→zzp R):=fun x1 x2 x3 x4 x5 kc k0=>
let v6:=decide (x1<8);(match v6 with
|true=>(match (bnd x1 (8:Int)) with
|true=>let v7:=x4.getD x1.toNat 0;let v8:=([v7]:LI);(match (decide (x3.length+v8.length≤140737488355328)) with
|true=>let v9:=x3++v8;let v10:=IntKind.i64.wrap (x1+1);kc v10 x2 v9 x4 x5
|false=>none)
|false=>none)
|false=>k0 x2 x3 x5)
def zyg:Nat→zls
 | 0=>fun _ _ _ _ _ _ _=>none
 | n+1=>fun R x1 x2 x3 x4 x5 k0=>p320_8 R x1 x2 x3 x4 x5 (fun x1 x2 x3 x4 x5=>zyg n R x1 x2 x3 x4 x5 k0) k0
def p320_12 (R:Type):zbn (zbn (Option R)→zpn R):=fun x1 x2 x3 x4 kc k0=>
let v5:=decide (x1<8);(match v5 with
|true=>(match (bnd x1 (8:Int)) with
|true=>let v6:=x4.getD x1.toNat 0;let v7:=([v6]:LI);(match (decide (x3.length+v7.length≤140737488355328)) with
|true=>let v8:=x3++v7;let v9:=IntKind.i64.wrap (x1+1);kc v9 x2 v8 x4
|false=>none)
|false=>none)
|false=>k0 x2 x3)
def zmo:Nat→zdh
 | 0=>fun _ _ _ _ _ _=>none
 | n+1=>fun R x1 x2 x3 x4 k0=>p320_12 R x1 x2 x3 x4 (fun x1 x2 x3 x4=>zmo n R x1 x2 x3 x4 k0) k0
def p320 (F54:FT54) (F55:FT55) (L3:zlt) (L8:zls) (L12:zdh):FT320:=fun R a0 a1 a2 k=>
L3 R a1 a2 (0:Int) a0 (List.replicate 32 (0:Int)) ([]:LI) (fun x1 x2 x3 x4=>
F54 R x1 fun y5=>
F54 R x2 fun y6=>
L8 R (0:Int) x3 x4 y5 y6 (fun x7 x8 x9=>
L12 R (0:Int) x7 x8 x9 (fun x10 x11=>
F55 R x11 fun y12=>
k y12)))
def F320:FT320:=p320 F54 F55 (zyh FUEL) (zyg FUEL) (zmo FUEL)
abbrev FT321:=(R:Type)→Int→(Int→Option R)→Option R
abbrev zpw (Z:Type):=Int→Int→Int→Z
abbrev zzo (R:Type):=(Int→Option R)→Option R
abbrev zlr:=(R:Type)→zpw (zzo R)
def p321_3 (R:Type):zpw (zpw (Option R)→zzo R):=fun x1 x2 x3 kc k0=>
let v4:=decide (x3<x1);(match v4 with
|true=>let v5:=IntKind.u64.wrap ((2:Int)*x2);let v6:=IntKind.u64.wrap (x3+1);kc x1 v5 v6
|false=>k0 x2)
def zyf:Nat→zlr
 | 0=>fun _ _ _ _ _=>none
 | n+1=>fun R x1 x2 x3 k0=>p321_3 R x1 x2 x3 (fun x1 x2 x3=>zyf n R x1 x2 x3 k0) k0
def p321 (L3:zlr):FT321:=fun R a0 k=>
L3 R a0 (1:Int) (0:Int) (fun x1=>
k x1)
def F321:FT321:=p321 (zyf FUEL)
abbrev FT302:=(R:Type)→LI→Int→Int→(Int→Option R)→Option R
def p302 (F320:FT320) (F321:FT321):FT302:=fun R a0 a1 a2 k=>
let v1:=IntKind.u64.wrap (Int.tdiv a2 (256:Int));F320 R a0 a1 v1 fun y2=>
let v3:=Int.tmod a2 (256:Int);let v4:=IntKind.u64.wrap (Int.tdiv v3 (8:Int));(match (bnd v4 (32:Int)) with
|true=>let v5:=y2.getD v4.toNat 0;let v6:=IntKind.u64.wrap v5;let v7:=Int.tmod a2 (8:Int);let v8:=IntKind.u64.wrap ((7:Int) - v7);F321 R v8 fun y9=>
(match (!(y9==0)) with
|true=>let v10:=IntKind.u64.wrap (Int.tdiv v6 y9);let v11:=Int.tmod v10 (2:Int);k v11
|false=>none)
|false=>none)
def F302:FT302:=p302 F320 F321
abbrev FT280:=(R:Type)→Tq40→Int→(Int→Option R)→Option R
def p280 (F260:Wm) (F302:FT302):FT280:=fun R a0 a1 k=>
let v1:=a0.1==2;(match v1 with
|true=>F302 R a0.2.2.2.1 a0.2.2.2.2.1 a1 fun y2=>
k y2
|false=>let v3:=IntKind.u64.wrap (Int.tdiv a1 (8:Int));(match bnd v3 a0.2.1.length with
|true=>let v4:=a0.2.1.getD v3.toNat 0;let v5:=IntKind.u32.wrap v4;let v6:=Int.tmod a1 (8:Int);let v7:=IntKind.i64.wrap v6;let v8:=IntKind.i64.wrap ((7:Int) - v7);F260 R v5 v8 fun y9=>
let v10:=Int.tmod y9 (2:Int);let v11:=IntKind.u64.wrap v10;k v11
|false=>none))
def F280:FT280:=p280 F260 F302
abbrev FT249:=(R:Type)→Tq40→Int→(Int→Tq40→Int→Option R)→Option R
abbrev zqi (Z:Type):=Int→Int→Int→Tq40→Tq40→Z
abbrev E249_7 (R:Type):=(Int→Tq40→Tq40→Option R)→Option R
abbrev zlx:=(R:Type)→zqi (E249_7 R)
def p249_7 (F280:FT280) (R:Type):zqi (zqi (Option R)→E249_7 R):=fun x1 x2 x3 x4 x5 kc k0=>
let v6:=decide (x3<x1);(match v6 with
|true=>let v7:=IntKind.u64.wrap ((2:Int)*x2);F280 R x4 x4.2.2.2.2.2.1 fun y8=>
let v9:=IntKind.u64.wrap (v7+y8);let v10:=IntKind.u64.wrap (x4.2.2.2.2.2.1+1);let v11:=IntKind.i64.wrap (x3+1);kc x1 v9 v11 (x4.1,x4.2.1,x4.2.2.1,x4.2.2.2.1,x4.2.2.2.2.1,v10,x4.2.2.2.2.2.2) x5
|false=>k0 x2 x4 x5)
def zyn:Nat→zlx
 | 0=>fun _ _ _ _ _ _ _=>none
 | n+1=>fun R x1 x2 x3 x4 x5 k0=>p249_7 F280 R x1 x2 x3 x4 x5 (fun x1 x2 x3 x4 x5=>zyn n R x1 x2 x3 x4 x5 k0) k0
def p249 (F205:zfp) (F279:FT279) (L7:zlx):FT249:=fun R a0 a1 k=>
F205 R a0 fun y1=>
(match (!y1) with
|true=>k (0:Int) a0 (1:Int)
|false=>let v2:=decide (a1<0);(match v2 with
|true=>k (0:Int) a0 (1:Int)
|false=>let v3:=decide (a1>64);(match v3 with
|true=>k (0:Int) a0 (1:Int)
|false=>let v4:=IntKind.u64.wrap a1;F279 R a0 fun y5=>
let v6:=decide (v4>y5);(match v6 with
|true=>k (0:Int) a0 (8:Int)
|false=>L7 R a1 (0:Int) (0:Int) a0 ((0:Int),([]:LI),(0:Int),(List.replicate 32 (0:Int)),(0:Int),(0:Int),()) (fun x7 x8 x9=>
k x7 x8 (0:Int))))))
def F249:FT249:=p249 F205 F279 (zyn FUEL)
abbrev zn3:=(R:Type)→Tq40→Int→Int→(Int→Tq40→Int→Option R)→Option R
abbrev zqv (Z:Type):=Int→Int→Int→Tq40→Tq40→Z
abbrev E200_4 (R:Type):=(Int→Int→Tq40→Option R)→(Tq40→Tq40→Option R)→Option R
abbrev zl2:=(R:Type)→zqv (E200_4 R)
def p200_4 (F249:FT249) (F250:FT250) (R:Type):zqv (zqv (Option R)→E200_4 R):=fun x1 x2 x3 x4 x5 kc k0 k1=>
let v6:=decide (x3<x2);(match v6 with
|true=>F250 R x1 fun y7=>
F249 R x4 y7 fun y8 y9 y10=>
let v11:=y10 !=0;(match v11 with
|true=>k0 (0:Int) y10 x4
|false=>let v12:=decide (y8<x1);(match v12 with
|true=>k0 y8 (0:Int) y9
|false=>let v13:=IntKind.i64.wrap (x3+1);kc x1 x2 v13 y9 x5))
|false=>k1 x4 x5)
def zys:Nat→zl2
 | 0=>fun _ _ _ _ _ _ _ _=>none
 | n+1=>fun R x1 x2 x3 x4 x5 k0 k1=>p200_4 F249 F250 R x1 x2 x3 x4 x5 (fun x1 x2 x3 x4 x5=>zys n R x1 x2 x3 x4 x5 k0 k1) k0 k1
def p200 (F205:zfp) (L4:zl2):zn3:=fun R a0 a1 a2 k=>
F205 R a0 fun y1=>
(match (!y1) with
|true=>k (0:Int) a0 (1:Int)
|false=>let v2:=decide (a1<1);(match v2 with
|true=>k (0:Int) a0 (1:Int)
|false=>let v3:=decide (a1≥9223372036854775808);(match v3 with
|true=>k (0:Int) a0 (1:Int)
|false=>let v4:=decide (a2<1);(match v4 with
|true=>k (0:Int) a0 (1:Int)
|false=>let v5:=decide (a2>64);(match v5 with
|true=>k (0:Int) a0 (1:Int)
|false=>L4 R a1 a2 (0:Int) a0 ((0:Int),([]:LI),(0:Int),(List.replicate 32 (0:Int)),(0:Int),(0:Int),()) (fun x6 x7 x8=>
k x6 x8 x7) (fun x9 x10=>
k (0:Int) x9 (9:Int)))))))
def F200:zn3:=p200 F205 (zys FUEL)
abbrev zwi:=(R:Type)→LI→Int→(Int→Int→Option R)→Option R
abbrev zqu (Z:Type):=LI→Int→Int→Z
abbrev E201_2 (R:Type):=(Int→Int→Option R)→(Option R)→Option R
abbrev zl1:=(R:Type)→zqu (E201_2 R)
def p201_2 (R:Type):zqu (zqu (Option R)→E201_2 R):=fun x1 x2 x3 kc k0 k1=>
let v4:=(x1.length:Int);let v5:=decide (x3<v4);(match v5 with
|true=>(match bnd x3 x1.length with
|true=>let v6:=x1.getD x3.toNat 0;let v7:=decide (x2<v6);(match v7 with
|true=>k0 x3 (0:Int)
|false=>(match bnd x3 x1.length with
|true=>let v8:=x1.getD x3.toNat 0;let v9:=IntKind.u64.wrap (x2 - v8);let v10:=IntKind.i64.wrap (x3+1);kc x1 v9 v10
|false=>none))
|false=>none)
|false=>k1)
def zyr:Nat→zl1
 | 0=>fun _ _ _ _ _ _=>none
 | n+1=>fun R x1 x2 x3 k0 k1=>p201_2 R x1 x2 x3 (fun x1 x2 x3=>zyr n R x1 x2 x3 k0 k1) k0 k1
def p201 (L2:zl1):zwi:=fun R a0 a1 k=>
L2 R a0 a1 (0:Int) (fun x1 x2=>
k x1 x2) (k (0:Int) (3:Int))
def F201:zwi:=p201 (zyr FUEL)
abbrev FT158:=(R:Type)→LI→Tq40→Int→(Int→Tq40→Int→Option R)→Option R
def p158 (F148:Ww) (F200:zn3) (F201:zwi):FT158:=fun R a0 a1 a2 k=>
F148 R a0 fun y1 y2=>
(match (!y2) with
|true=>k (0:Int) a1 (11:Int)
|false=>let v3:=y1==0;(match v3 with
|true=>k (0:Int) a1 (10:Int)
|false=>F200 R a1 y1 a2 fun y4 y5 y6=>
let v7:=y6 !=0;(match v7 with
|true=>k (0:Int) y5 y6
|false=>F201 R a0 y4 fun y8 y9=>
k y8 y5 (0:Int))))
def F158:FT158:=p158 F148 F200 F201
abbrev zwm:=(R:Type)→LI→Int→Int→LI→(Int→Int→Option R)→Option R
def p111 (F156:zfq) (F157:zoi) (F158:FT158) (F159:zoh):zwm:=fun R a0 a1 a2 a3 k=>
F156 R a1 a2 fun y1=>
(match (!y1) with
|true=>k (0:Int) (1:Int)
|false=>F157 R a3 fun y2 y3=>
let v4:=y3 !=0;(match v4 with
|true=>k (0:Int) y3
|false=>F159 R a0 (1:Int) a1 fun y5=>
F158 R a3 y5 a2 fun y6 y7 y8=>
k y6 y8))
def F111:zwm:=p111 F156 F157 F158 F159
abbrev FT108:=(R:Type)→LI→Int→Int→LI→(LI→Int→Option R)→Option R
abbrev zrn (Z:Type):=Int→Int→LI→Int→LI→LI→Z
abbrev E108_8 (R:Type):=(LI→Option R)→Option R
abbrev zmj:=(R:Type)→zrn (E108_8 R)
def p108_8 (F111:zwm) (R:Type):zrn (zrn (Option R)→E108_8 R):=fun x1 x2 x3 x4 x5 x6 kc k0=>
let v7:=decide (x4<x1);(match v7 with
|true=>F111 R x5 x4 x2 x3 fun y8 y9=>
let v10:=y9 !=0;(match v10 with
|true=>let v11:=([(-1:Int)]:LI);(match (decide (x6.length+v11.length≤17592186044416)) with
|true=>let v12:=x6++v11;let v13:=IntKind.i64.wrap (x4+1);kc x1 x2 x3 v13 x5 v12
|false=>none)
|false=>let v14:=([y8]:LI);(match (decide (x6.length+v14.length≤17592186044416)) with
|true=>let v15:=x6++v14;let v16:=IntKind.i64.wrap (x4+1);kc x1 x2 x3 v16 x5 v15
|false=>none))
|false=>k0 x6)
def zza:Nat→zmj
 | 0=>fun _ _ _ _ _ _ _ _=>none
 | n+1=>fun R x1 x2 x3 x4 x5 x6 k0=>p108_8 F111 R x1 x2 x3 x4 x5 x6 (fun x1 x2 x3 x4 x5 x6=>zza n R x1 x2 x3 x4 x5 x6 k0) k0
def p108 (F156:zfq) (F157:zoi) (L8:zmj):FT108:=fun R a0 a1 a2 a3 k=>
let v1:=decide (a1<1);(match v1 with
|true=>k ([]:LI) (1:Int)
|false=>let v2:=IntKind.i64.wrap (a1 - 1);F156 R v2 a2 fun y3=>
(match (!y3) with
|true=>k ([]:LI) (1:Int)
|false=>F157 R a3 fun y4 y5=>
let v6:=y5 !=0;(match v6 with
|true=>k ([]:LI) y5
|false=>L8 R a1 a2 a3 (0:Int) a0 ([]:LI) (fun x7=>
k x7 (0:Int)))))
def F108:FT108:=p108 F156 F157 (zza FUEL)
abbrev FT74:=(R:Type)→Tq29→(Tq29→Tq17→Option R)→Option R
def p74 (F71:FT71) (F105:FT105) (F106:FT106) (F107:FT107) (F108:FT108) (F109:zos):FT74:=fun R a0 k=>
F105 R a0.1 a0.2.1 fun y1 y2=>
(match (!y2) with
|true=>let v3:=IntKind.u64.wrap y1;k (a0.1,y1,a0.2.2) ((0:Int),v3,([]:LI),(List.replicate 32 (0:Int)),())
|false=>F106 R a0.2.2.2.1 fun y4 y5 y6 y7=>
let v8:=y7 !=0;(match v8 with
|true=>F71 R y7 fun y9=>
k a0 y9
|false=>F107 R a0.2.2.1 fun y10=>
F109 R y10 fun y11=>
F108 R y4.2.1 a0.1.1 a0.1.2.2.2.1 y11 fun y12 y13=>
let v14:=IntKind.u64.wrap y1;k (a0.1,y1,y10,y4,y12,y6,a0.2.2.2.2.2.2) ((0:Int),v14,y6,y5.2.2.2.1,())))
def F74:FT74:=p74 F71 F105 F106 F107 F108 F109
abbrev zwn:=(R:Type)→LI→(Int→Option R)→Option R
abbrev zrl (Z:Type):=LI→Int→Int→Z
abbrev E110_3 (R:Type):=(Int→Option R)→Option R
abbrev zmh:=(R:Type)→zrl (E110_3 R)
def p110_3 (R:Type):zrl (zrl (Option R)→E110_3 R):=fun x1 x2 x3 kc k0=>
let v4:=(x1.length:Int);let v5:=decide (x3<v4);(match v5 with
|true=>(match bnd x3 x1.length with
|true=>let v6:=x1.getD x3.toNat 0;let v7:=decide (v6>0);(match v7 with
|true=>let v8:=IntKind.i64.wrap (x2+1);let v9:=IntKind.i64.wrap (x3+1);kc x1 v8 v9
|false=>let v10:=IntKind.i64.wrap (x3+1);kc x1 x2 v10)
|false=>none)
|false=>k0 x2)
def zy8:Nat→zmh
 | 0=>fun _ _ _ _ _=>none
 | n+1=>fun R x1 x2 x3 k0=>p110_3 R x1 x2 x3 (fun x1 x2 x3=>zy8 n R x1 x2 x3 k0) k0
def p110 (L3:zmh):zwn:=fun R a0 k=>
L3 R a0 (0:Int) (0:Int) (fun x1=>
k x1)
def F110:zwn:=p110 (zy8 FUEL)
abbrev zwg:=(R:Type)→Int→Int→(Int→Bool→Option R)→Option R
def p251:zwg:=fun R a0 a1 k=>
let v1:=a0==0;(match v1 with
|true=>k (0:Int) true
|false=>let v2:=a1==0;(match v2 with
|true=>k (0:Int) true
|false=>(match (!(a1==0)) with
|true=>let v3:=IntKind.u64.wrap (Int.tdiv (9223372036854775807:Int) a1);let v4:=decide (a0>v3);(match v4 with
|true=>k (0:Int) false
|false=>let v5:=IntKind.u64.wrap (a0*a1);k v5 true)
|false=>none)))
def F251:zwg:=p251
abbrev FT203:=(R:Type)→LI→(Tq44→Int→Option R)→Option R
abbrev zbq (Z:Type):=LI→Int→Int→Int→Tq44→LI→(List Tq13)→LI→LI→Z
abbrev zpq (R:Type):=(Int→Tq44→LI→(List Tq13)→LI→LI→Option R)→Option R
abbrev zdj:=(R:Type)→zbq (zpq R)
abbrev zbp (Z:Type):=Int→Tq44→LI→(List Tq13)→LI→LI→Z
abbrev zpp (R:Type):=(Int→Tq44→(List Tq13)→Option R)→Option R
abbrev zdi:=(R:Type)→zbp (zpp R)
def p203_16 (R:Type):zbq (zbq (Option R)→zpq R):=fun x1 x2 x3 x4 x5 x6 x7 x8 x9 kc k0=>
let v10:=(x1.length:Int);let v11:=decide (x4<v10);(match v11 with
|true=>(match bnd x4 x1.length with
|true=>let v12:=x1.getD x4.toNat 0;let v13:=IntKind.u64.wrap (x3*v12);(match bnd x4 x6.length with
|true=>let v14:=x6.set x4.toNat v13;(match bnd x4 x7.length with
|true=>let v15:=x7.set x4.toNat (x2,x4,());(match bnd x4 v14.length with
|true=>let v16:=v14.getD x4.toNat 0;let v17:=decide (v16<x2);(match v17 with
|true=>let v18:=([x4]:LI);(match (decide (x8.length+v18.length≤17592186044416)) with
|true=>let v19:=x8++v18;let v20:=IntKind.i64.wrap (x4+1);kc x1 x2 x3 v20 x5 v14 v15 v19 x9
|false=>none)
|false=>let v21:=([x4]:LI);(match (decide (x9.length+v21.length≤17592186044416)) with
|true=>let v22:=x9++v21;let v23:=IntKind.i64.wrap (x4+1);kc x1 x2 x3 v23 x5 v14 v15 x8 v22
|false=>none))
|false=>none)
|false=>none)
|false=>none)
|false=>none)
|false=>k0 x2 x5 x6 x7 x8 x9)
def zm4:Nat→zdj
 | 0=>fun _ _ _ _ _ _ _ _ _ _ _=>none
 | n+1=>fun R x1 x2 x3 x4 x5 x6 x7 x8 x9 k0=>p203_16 R x1 x2 x3 x4 x5 x6 x7 x8 x9 (fun x1 x2 x3 x4 x5 x6 x7 x8 x9=>zm4 n R x1 x2 x3 x4 x5 x6 x7 x8 x9 k0) k0
def p203_23 (R:Type):zbp (zbp (Option R)→zpp R):=fun x1 x2 x3 x4 x5 x6 kc k0=>
let v7:=(x5.length:Int);let v8:=decide (v7>0);(match v8 with
|true=>let v9:=(x6.length:Int);let v10:=decide (v9>0);(match v10 with
|true=>let v11:=(x5.length:Int);let v12:=IntKind.i64.wrap (v11 - 1);(match bnd v12 x5.length with
|true=>let v13:=x5.getD v12.toNat 0;let v14:=(x6.length:Int);let v15:=IntKind.i64.wrap (v14 - 1);(match bnd v15 x6.length with
|true=>let v16:=x6.getD v15.toNat 0;let v17:=(x5.length:Int);let v18:=IntKind.i64.wrap (v17 - 1);(match (decide (0≤v18∧v18≤(x5.length:Int))) with
|true=>let v19:=List.take v18.toNat x5;let v20:=(x6.length:Int);let v21:=IntKind.i64.wrap (v20 - 1);(match (decide (0≤v21∧v21≤(x6.length:Int))) with
|true=>let v22:=List.take v21.toNat x6;(match bnd v13 x3.length with
|true=>let v23:=x3.getD v13.toNat 0;(match bnd v13 x4.length with
|true=>let v24:=x4.set v13.toNat (v23,v16,());(match bnd v16 x3.length with
|true=>let v25:=x3.getD v16.toNat 0;(match bnd v13 x3.length with
|true=>let v26:=x3.getD v13.toNat 0;let v27:=IntKind.u64.wrap (x1 - v26);let v28:=IntKind.u64.wrap (v25 - v27);(match bnd v16 x3.length with
|true=>let v29:=x3.set v16.toNat v28;(match bnd v16 v29.length with
|true=>let v30:=v29.getD v16.toNat 0;let v31:=decide (v30<x1);(match v31 with
|true=>let v32:=([v16]:LI);(match (decide (v19.length+v32.length≤17592186044416)) with
|true=>let v33:=v19++v32;kc x1 x2 v29 v24 v33 v22
|false=>none)
|false=>let v34:=([v16]:LI);(match (decide (v22.length+v34.length≤17592186044416)) with
|true=>let v35:=v22++v34;kc x1 x2 v29 v24 v19 v35
|false=>none))
|false=>none)
|false=>none)
|false=>none)
|false=>none)
|false=>none)
|false=>none)
|false=>none)
|false=>none)
|false=>none)
|false=>none)
|false=>k0 x1 x2 x4)
|false=>k0 x1 x2 x4)
def zm3:Nat→zdi
 | 0=>fun _ _ _ _ _ _ _ _=>none
 | n+1=>fun R x1 x2 x3 x4 x5 x6 k0=>p203_23 R x1 x2 x3 x4 x5 x6 (fun x1 x2 x3 x4 x5 x6=>zm3 n R x1 x2 x3 x4 x5 x6 k0) k0
def p203 (F148:Ww) (F251:zwg) (L16:zdj) (L23:zdi):FT203:=fun R a0 k=>
let v1:=(a0.length:Int);let v2:=v1==0;(match v2 with
|true=>k ((0:Int),([]:(List Tq13)),()) (10:Int)
|false=>F148 R a0 fun y3 y4=>
(match (!y4) with
|true=>k ((0:Int),([]:(List Tq13)),()) (11:Int)
|false=>let v5:=y3==0;(match v5 with
|true=>k ((0:Int),([]:(List Tq13)),()) (10:Int)
|false=>let v6:=(a0.length:Int);let v7:=IntKind.u64.wrap v6;F251 R v7 y3 fun y8 y9=>
(match (!y9) with
|true=>k ((0:Int),([]:(List Tq13)),()) (11:Int)
|false=>let v10:=(a0.length:Int);(match (decide (0≤v10∧v10≤v10∧v10≤17592186044416)) with
|true=>let v11:=List.replicate v10.toNat (0:Int);let v12:=(a0.length:Int);(match (decide (0≤v12∧v12≤v12∧v12≤8796093022208)) with
|true=>let v13:=List.replicate v12.toNat ((0:Int),(0:Int),());L16 R a0 y3 v7 (0:Int) ((0:Int),([]:(List Tq13)),()) v11 v13 ([]:LI) ([]:LI) (fun x14 x15 x16 x17 x18 x19=>
L23 R x14 x15 x16 x17 x18 x19 (fun x20 x21 x22=>
k (x20,x22,()) (0:Int)))
|false=>none)
|false=>none)))))
def F203:FT203:=p203 F148 F251 (zm4 FUEL) (zm3 FUEL)
abbrev zfo:=(R:Type)→Tq44→(Bool→Option R)→Option R
abbrev zqh (Z:Type):=Int→Tq44→Z
abbrev zz9 (R:Type):=(Bool→Option R)→(Option R)→Option R
abbrev zlw:=(R:Type)→zqh (zz9 R)
def p252_6 (R:Type):zqh (zqh (Option R)→zz9 R):=fun x1 x2 kc k0 k1=>
let v3:=(x2.2.1.length:Int);let v4:=decide (x1<v3);(match v4 with
|true=>(match bnd x1 x2.2.1.length with
|true=>let v5:=x2.2.1.getD x1.toNat (0,0,());let v6:=decide (v5.1>x2.1);(match v6 with
|true=>k0 false
|false=>let v7:=decide (v5.2.1<0);(match v7 with
|true=>k0 false
|false=>let v8:=(x2.2.1.length:Int);let v9:=decide (v5.2.1≥v8);(match v9 with
|true=>k0 false
|false=>let v10:=IntKind.i64.wrap (x1+1);kc v10 x2)))
|false=>none)
|false=>k1)
def zym:Nat→zlw
 | 0=>fun _ _ _ _ _=>none
 | n+1=>fun R x1 x2 k0 k1=>p252_6 R x1 x2 (fun x1 x2=>zym n R x1 x2 k0 k1) k0 k1
def p252 (F251:zwg) (L6:zlw):zfo:=fun R a0 k=>
let v1:=(a0.2.1.length:Int);let v2:=IntKind.u64.wrap v1;F251 R v2 a0.1 fun y3 y4=>
let v5:=v2==0;(match v5 with
|true=>k false
|false=>let v6:=a0.1==0;(match v6 with
|true=>k false
|false=>(match (!y4) with
|true=>k false
|false=>L6 R (0:Int) a0 (fun x7=>
k x7) (k true))))
def F252:zfo:=p252 F251 (zym FUEL)
abbrev zwf:=(R:Type)→Tq44→(Int→Option R)→Option R
def p253 (F252:zfo):zwf:=fun R a0 k=>
F252 R a0 fun y1=>
(match (!y1) with
|true=>k (0:Int)
|false=>let v2:=(a0.2.1.length:Int);let v3:=IntKind.u64.wrap v2;let v4:=IntKind.u64.wrap (v3*a0.1);k v4)
def F253:zwf:=p253 F252
abbrev FT282:=(R:Type)→Tq44→Int→Int→(Int→Int→Option R)→Option R
def p282 (F252:zfo):FT282:=fun R a0 a1 a2 k=>
F252 R a0 fun y1=>
(match (!y1) with
|true=>k (0:Int) (1:Int)
|false=>let v2:=decide (a1<0);(match v2 with
|true=>k (0:Int) (3:Int)
|false=>let v3:=(a0.2.1.length:Int);let v4:=decide (a1≥v3);(match v4 with
|true=>k (0:Int) (3:Int)
|false=>let v5:=decide (a2≥a0.1);(match v5 with
|true=>k (0:Int) (3:Int)
|false=>(match bnd a1 a0.2.1.length with
|true=>let v6:=(a0.2.1.getD a1.toNat (0,0,())).1;let v7:=decide (a2<v6);(match v7 with
|true=>k a1 (0:Int)
|false=>(match bnd a1 a0.2.1.length with
|true=>let v8:=(a0.2.1.getD a1.toNat (0,0,())).2.1;k v8 (0:Int)
|false=>none))
|false=>none)))))
def F282:FT282:=p282 F252
abbrev FT254:=(R:Type)→Tq44→Int→(Int→Int→Option R)→Option R
def p254 (F252:zfo) (F253:zwf) (F282:FT282):FT254:=fun R a0 a1 k=>
F252 R a0 fun y1=>
(match (!y1) with
|true=>k (0:Int) (1:Int)
|false=>F253 R a0 fun y2=>
let v3:=decide (a1≥y2);(match v3 with
|true=>k (0:Int) (3:Int)
|false=>(match (!(a0.1==0)) with
|true=>let v4:=IntKind.u64.wrap (Int.tdiv a1 a0.1);let v5:=IntKind.i64.wrap v4;(match (!(a0.1==0)) with
|true=>let v6:=Int.tmod a1 a0.1;F282 R a0 v5 v6 fun y7 y8=>
k y7 y8
|false=>none)
|false=>none)))
def F254:FT254:=p254 F252 F253 F282
abbrev FT204:=(R:Type)→Tq44→Tq40→Int→(Int→Tq40→Int→Option R)→Option R
def p204 (F200:zn3) (F252:zfo) (F253:zwf) (F254:FT254):FT204:=fun R a0 a1 a2 k=>
F252 R a0 fun y1=>
(match (!y1) with
|true=>k (0:Int) a1 (1:Int)
|false=>F253 R a0 fun y2=>
F200 R a1 y2 a2 fun y3 y4 y5=>
let v6:=y5 !=0;(match v6 with
|true=>k (0:Int) y4 y5
|false=>F254 R a0 y3 fun y7 y8=>
k y7 y4 (0:Int)))
def F204:FT204:=p204 F200 F252 F253 F254
abbrev FT160:=(R:Type)→LI→Tq40→Int→(Int→Tq40→Int→Option R)→Option R
def p160 (F203:FT203) (F204:FT204):FT160:=fun R a0 a1 a2 k=>
F203 R a0 fun y1 y2=>
let v3:=y2 !=0;(match v3 with
|true=>k (0:Int) a1 y2
|false=>F204 R y1 a1 a2 fun y4 y5 y6=>
k y4 y5 y6)
def F160:FT160:=p160 F203 F204
abbrev FT112:=(R:Type)→LI→Int→Int→LI→(Int→Int→Option R)→Option R
def p112 (F156:zfq) (F159:zoh) (F160:FT160):FT112:=fun R a0 a1 a2 a3 k=>
F156 R a1 a2 fun y1=>
(match (!y1) with
|true=>k (0:Int) (1:Int)
|false=>F159 R a0 (2:Int) a1 fun y2=>
F160 R a3 y2 a2 fun y3 y4 y5=>
k y3 y5)
def F112:FT112:=p112 F156 F159 F160
abbrev FT161:=(R:Type)→LI→Int→Tq40→Int→(LI→Tq40→Int→Option R)→Option R
abbrev zq6 (Z:Type):=Int→Int→Tq40→Tq40→LI→LI→Z
abbrev E161_7 (R:Type):=(Int→Tq40→Option R)→(Tq40→Tq40→LI→Option R)→Option R
abbrev zl8:=(R:Type)→zq6 (E161_7 R)
def p161_7 (F148:Ww) (F200:zn3) (F201:zwi) (R:Type):zq6 (zq6 (Option R)→E161_7 R):=fun x1 x2 x3 x4 x5 x6 kc k0 k1=>
let v7:=(x6.length:Int);let v8:=decide (v7<x1);(match v8 with
|true=>F148 R x5 fun y9 y10=>
(match (!y10) with
|true=>k0 (11:Int) x3
|false=>let v11:=y9==0;(match v11 with
|true=>k0 (10:Int) x3
|false=>F200 R x3 y9 x2 fun y12 y13 y14=>
let v15:=y14 !=0;(match v15 with
|true=>let v16:=y14 !=0;(match v16 with
|true=>k0 y14 y13
|false=>(match bnd 0 x5.length with
|true=>let v17:=x5.set 0 (0:Int);let v18:=([(0:Int)]:LI);(match (decide (x6.length+v18.length≤17592186044416)) with
|true=>let v19:=x6++v18;kc x1 x2 y13 x4 v17 v19
|false=>none)
|false=>none))
|false=>F201 R x5 y12 fun y20 y21=>
(match bnd y20 x5.length with
|true=>let v22:=x5.set y20.toNat (0:Int);let v23:=([y20]:LI);(match (decide (x6.length+v23.length≤17592186044416)) with
|true=>let v24:=x6++v23;kc x1 x2 y13 x4 v22 v24
|false=>none)
|false=>none))))
|false=>k1 x3 x4 x6)
def zyy:Nat→zl8
 | 0=>fun _ _ _ _ _ _ _ _ _=>none
 | n+1=>fun R x1 x2 x3 x4 x5 x6 k0 k1=>p161_7 F148 F200 F201 R x1 x2 x3 x4 x5 x6 (fun x1 x2 x3 x4 x5 x6=>zyy n R x1 x2 x3 x4 x5 x6 k0 k1) k0 k1
def p161 (F110:zwn) (F205:zfp) (L7:zl8):FT161:=fun R a0 a1 a2 a3 k=>
let v1:=decide (a1<0);(match v1 with
|true=>k ([]:LI) a2 (1:Int)
|false=>let v2:=decide (a1>256);(match v2 with
|true=>k ([]:LI) a2 (1:Int)
|false=>F205 R a2 fun y3=>
(match (!y3) with
|true=>k ([]:LI) a2 (1:Int)
|false=>let v4:=decide (a3<1);(match v4 with
|true=>k ([]:LI) a2 (1:Int)
|false=>let v5:=decide (a3>64);(match v5 with
|true=>k ([]:LI) a2 (1:Int)
|false=>F110 R a0 fun y6=>
let v7:=decide (y6<a1);(match v7 with
|true=>k ([]:LI) a2 (12:Int)
|false=>let v8:=([]:LI);(match (decide (v8.length+a0.length≤17592186044416)) with
|true=>let v9:=v8++a0;L7 R a1 a3 a2 ((0:Int),([]:LI),(0:Int),(List.replicate 32 (0:Int)),(0:Int),(0:Int),()) v9 ([]:LI) (fun x10 x11=>
k ([]:LI) x11 x10) (fun x12 x13 x14=>
k x14 x12 (0:Int))
|false=>none)))))))
def F161:FT161:=p161 F110 F205 (zyy FUEL)
abbrev FT113:=(R:Type)→LI→Int→Int→Int→LI→(LI→Int→Option R)→Option R
def p113 (F156:zfq) (F157:zoi) (F159:zoh) (F161:FT161):FT113:=fun R a0 a1 a2 a3 a4 k=>
F156 R a1 a3 fun y1=>
(match (!y1) with
|true=>k ([]:LI) (1:Int)
|false=>F157 R a4 fun y2 y3=>
let v4:=y3 !=0;(match v4 with
|true=>k ([]:LI) y3
|false=>F159 R a0 (3:Int) a1 fun y5=>
F161 R a4 a2 y5 a3 fun y6 y7 y8=>
k y6 y8))
def F113:FT113:=p113 F156 F157 F159 F161
abbrev FT75:=(R:Type)→Tq29→Tq11→(Tq17→Option R)→Option R
def p75 (F71:FT71) (F101:zwp) (F109:zos) (F110:zwn) (F111:zwm) (F112:FT112) (F113:FT113):FT75:=fun R a0 a1 k=>
F109 R a0.2.2.1 fun y1=>
let v2:=a1.1==10;(match v2 with
|true=>F101 R a0 a1.2.1 fun y3=>
(match (!y3) with
|true=>F71 R (5:Int) fun y4=>
k y4
|false=>let v5:=a1.2.2.2.2.1==0;(match v5 with
|true=>(match bnd a1.2.1 a0.2.2.1.length with
|true=>let v6:=(a0.2.2.1.getD a1.2.1.toNat ((List.replicate 32 0),0,0,())).2.1;k ((0:Int),v6,([]:LI),(List.replicate 32 (0:Int)),())
|false=>none)
|false=>(match bnd a1.2.1 a0.2.2.1.length with
|true=>let v7:=(a0.2.2.1.getD a1.2.1.toNat ((List.replicate 32 0),0,0,())).2.2.1;k ((0:Int),v7,([]:LI),(List.replicate 32 (0:Int)),())
|false=>none)))
|false=>let v8:=a1.1==11;(match v8 with
|true=>k ((0:Int),a0.2.2.2.1.1,([]:LI),a0.2.2.2.1.2.1,())
|false=>let v9:=decide (a1.2.2.2.2.1≥a0.1.1);(match v9 with
|true=>F71 R (3:Int) fun y10=>
k y10
|false=>let v11:=a1.1==7;(match v11 with
|true=>F110 R y1 fun y12=>
let v13:=y12==0;(match v13 with
|true=>F71 R (10:Int) fun y14=>
k y14
|false=>F111 R a0.2.2.2.1.2.1 a1.2.2.2.2.1 a0.1.2.2.2.1 y1 fun y15 y16=>
let v17:=([y15]:LI);let v18:=y16 !=0;(match v18 with
|true=>F71 R y16 fun y19=>
k y19
|false=>k ((0:Int),(0:Int),v17,(List.replicate 32 (0:Int)),())))
|false=>let v20:=a1.1==8;(match v20 with
|true=>F112 R a0.2.2.2.1.2.1 a1.2.2.2.2.1 a0.1.2.2.2.1 y1 fun y21 y22=>
let v23:=([y21]:LI);let v24:=y22 !=0;(match v24 with
|true=>F71 R y22 fun y25=>
k y25
|false=>k ((0:Int),(0:Int),v23,(List.replicate 32 (0:Int)),()))
|false=>F113 R a0.2.2.2.1.2.1 a1.2.2.2.2.1 a1.2.1 a0.1.2.2.2.1 y1 fun y26 y27=>
let v28:=y27 !=0;(match v28 with
|true=>F71 R y27 fun y29=>
k y29
|false=>k ((0:Int),(0:Int),y26,(List.replicate 32 (0:Int)),())))))))
def F75:FT75:=p75 F71 F101 F109 F110 F111 F112 F113
abbrev FT49:=(R:Type)→Tq29→Tq11→(Tq29→Tq17→Option R)→Option R
def p49 (F47:FT47) (F71:FT71) (F72:FT72) (F73:FT73) (F74:FT74) (F75:FT75):FT49:=fun R a0 a1 k=>
F47 R a1 fun y1=>
(match (!y1) with
|true=>F71 R (2:Int) fun y2=>
k a0 y2
|false=>let v3:=a1.1==1;(match v3 with
|true=>F72 R a0 a1 fun y4 y5=>
k y4 y5
|false=>let v6:=a1.1==2;(match v6 with
|true=>F72 R a0 a1 fun y7 y8=>
k y7 y8
|false=>let v9:=a1.1==3;(match v9 with
|true=>F72 R a0 a1 fun y10 y11=>
k y10 y11
|false=>let v12:=a1.1==4;(match v12 with
|true=>F73 R a0 a1 fun y13 y14=>
k y13 y14
|false=>let v15:=a1.1==5;(match v15 with
|true=>F73 R a0 a1 fun y16 y17=>
k y16 y17
|false=>let v18:=a1.1==6;(match v18 with
|true=>F74 R a0 fun y19 y20=>
k y19 y20
|false=>let v21:=a1.1==0;(match v21 with
|true=>F71 R (2:Int) fun y22=>
k a0 y22
|false=>F75 R a0 a1 fun y23=>
k a0 y23))))))))
def F49:FT49:=p49 F47 F71 F72 F73 F74 F75
abbrev FT22:=(R:Type)→Tq29→(List Tq11)→(Tq29→(List Tq17)→Option R)→Option R
def en22 (F:FT22):Ent:=eV 22 [Kq29,(.sl Kq11)] [Kq29,(.sl Kq17)] F
abbrev D22_3 (Z:Type):=(List Tq11)→Int→Tq29→Tq29→(List Tq17)→Z
abbrev E22_3 (R:Type):=(Tq29→Tq29→(List Tq17)→Option R)→Option R
abbrev zxw:=(R:Type)→D22_3 (E22_3 R)
def p22_3 (F49:FT49) (R:Type):D22_3 (D22_3 (Option R)→E22_3 R):=fun x1 x2 x3 x4 x5 kc k0=>
let v6:=(x1.length:Int);let v7:=decide (x2<v6);(match v7 with
|true=>(match bnd x2 x1.length with
|true=>let v8:=x1.getD x2.toNat (0,0,0,(List.replicate 32 0),0,());F49 R x3 v8 fun y9 y10=>
let v11:=([y10]:(List Tq17));(match (decide (x5.length+v11.length≤1954687338268)) with
|true=>let v12:=x5++v11;let v13:=IntKind.i64.wrap (x2+1);kc x1 v13 y9 x4 v12
|false=>none)
|false=>none)
|false=>k0 x3 x4 x5)
def G22_3:Nat→zxw
 | 0=>fun _ _ _ _ _ _ _=>none
 | n+1=>fun R x1 x2 x3 x4 x5 k0=>p22_3 F49 R x1 x2 x3 x4 x5 (fun x1 x2 x3 x4 x5=>G22_3 n R x1 x2 x3 x4 x5 k0) k0
def p22 (L3:zxw):FT22:=fun R a0 a1 k=>
L3 R a1 (0:Int) a0 (((0:Int),(0:Int),(0:Int),(0:Int),(0:Int),()),(0:Int),([]:(List Tq5)),((0:Int),(List.replicate 32 (0:Int)),(List.replicate 32 (0:Int)),([]:(List Tq3)),()),([]:LI),([]:LI),()) ([]:(List Tq17)) (fun x1 x2 x3=>
k x1 x3)
def F22:FT22:=p22 (G22_3 FUEL)
abbrev FT12:=(R:Type)→Tq21→LI→LI→(Tq29→(List Tq17)→Int→Option R)→Option R
def en12 (F:FT12):Ent:=eV 12 [Kq21,(.arr 32 (.int .u8)),(.sl (.int .u8))] [Kq29,(.sl Kq17),(.int .i64)] F
def p12 (F9:FT9) (F15:FT15) (F22:FT22):FT12:=fun R a0 a1 a2 k=>
F15 R a0 a1 fun y1 y2=>
let v3:=y2 !=0;(match v3 with
|true=>k (((0:Int),(0:Int),(0:Int),(0:Int),(0:Int),()),(0:Int),([]:(List Tq5)),((0:Int),(List.replicate 32 (0:Int)),(List.replicate 32 (0:Int)),([]:(List Tq3)),()),([]:LI),([]:LI),()) ([]:(List Tq17)) y2
|false=>let v4:=(a2.length:Int);let v5:=decide (v4>100000);(match v5 with
|true=>k (((0:Int),(0:Int),(0:Int),(0:Int),(0:Int),()),(0:Int),([]:(List Tq5)),((0:Int),(List.replicate 32 (0:Int)),(List.replicate 32 (0:Int)),([]:(List Tq3)),()),([]:LI),([]:LI),()) ([]:(List Tq17)) (14:Int)
|false=>F9 R a2 fun y6=>
let v7:=(y6.length:Int);let v8:=decide (v7>2000);(match v8 with
|true=>k (((0:Int),(0:Int),(0:Int),(0:Int),(0:Int),()),(0:Int),([]:(List Tq5)),((0:Int),(List.replicate 32 (0:Int)),(List.replicate 32 (0:Int)),([]:(List Tq3)),()),([]:LI),([]:LI),()) ([]:(List Tq17)) (14:Int)
|false=>F22 R y1 y6 fun y9 y10=>
k y9 y10 (0:Int))))
def F12:FT12:=p12 F9 F15 F22
abbrev FT34:=(R:Type)→(List Tq5)→(List Tq5)→(Bool→Option R)→Option R
def en34 (F:FT34):Ent:=eV 34 [(.sl Kq5),(.sl Kq5)] [.bool] F
abbrev D34_4 (Z:Type):=(List Tq5)→(List Tq5)→Int→Z
abbrev E34_4 (R:Type):=(Bool→Option R)→(Option R)→Option R
abbrev Qz:=(R:Type)→D34_4 (E34_4 R)
def zi9 (L:Qz):LEnt:=lM 4 [.val 0 (.sl Kq5),.val 1 (.sl Kq5),.val 5 (.int .i64)] 0 [(.ret,[.val 4 .bool]),(.exit 0,[])] L
def e34 (L4:Qz):=sE 0 26 [] [] [zi9 L4]
def p34_4 (R:Type):D34_4 (D34_4 (Option R)→E34_4 R):=fun x1 x2 x3 kc k0 k1=>
let v4:=(x1.length:Int);let v5:=decide (x3<v4);(match v5 with
|true=>(match bnd x3 x1.length with
|true=>let v6:=x1.getD x3.toNat ((List.replicate 32 0),0,0,());(match bnd x3 x2.length with
|true=>let v7:=x2.getD x3.toNat ((List.replicate 32 0),0,0,());let v8:= !(Kd.eqv Kq5 v6 v7);(match v8 with
|true=>k0 false
|false=>let v9:=IntKind.i64.wrap (x3+1);kc x1 x2 v9)
|false=>none)
|false=>none)
|false=>k1)
theorem q34_4 (L4:Qz):LEQ (zi9 L4) (e34 L4) Tryz.f34 p34_4:=fun _ _ _ _=>by kernel_rfl
def Z0:Nat→Qz
 | 0=>fun _ _ _ _ _ _=>none
 | n+1=>fun R x1 x2 x3 k0 k1=>p34_4 R x1 x2 x3 (fun x1 x2 x3=>Z0 n R x1 x2 x3 k0 k1) k0 k1
def p34 (L4:Qz):FT34:=fun R a0 a1 k=>
let v1:=(a0.length:Int);let v2:=(a1.length:Int);let v3:=v1 !=v2;(match v3 with
|true=>k false
|false=>L4 R a0 a1 (0:Int) (fun x4=>
k x4) (k true))
theorem q34 (L4:Qz):EQ (en34 (p34 L4)) (e34 L4) Tryz.f34 [(.tmp 4,4,false)]:=fun _ _ _=>by kernel_rfl
def F34:FT34:=p34 (Z0 FUEL)
theorem lok34_4:LKP (zi9 (Z0 FUEL)) 0 26 4 Tryz.f34:=ST.lok (q34_4 (Z0 FUEL)) Ab [] trivial
theorem ok34:OKP (en34 F34):=ST.ok1 (q34 (Z0 FUEL)) Ab Tryz.func34 [4] ⟨⟨_,rfl,lok34_4⟩,trivial⟩
abbrev FT63:=(R:Type)→(List Tq3)→(List Tq3)→(Bool→Option R)→Option R
def en63 (F:FT63):Ent:=eV 63 [(.sl Kq3),(.sl Kq3)] [.bool] F
abbrev D63_4 (Z:Type):=(List Tq3)→(List Tq3)→Int→Z
abbrev E63_4 (R:Type):=(Bool→Option R)→(Option R)→Option R
abbrev Qt:=(R:Type)→D63_4 (E63_4 R)
def zi3 (L:Qt):LEnt:=lM 4 [.val 0 (.sl Kq3),.val 1 (.sl Kq3),.val 5 (.int .i64)] 0 [(.ret,[.val 4 .bool]),(.exit 0,[])] L
def e63 (L4:Qt):=sE 0 26 [] [] [zi3 L4]
def p63_4 (R:Type):D63_4 (D63_4 (Option R)→E63_4 R):=fun x1 x2 x3 kc k0 k1=>
let v4:=(x1.length:Int);let v5:=decide (x3<v4);(match v5 with
|true=>(match bnd x3 x1.length with
|true=>let v6:=x1.getD x3.toNat (0,(List.replicate 32 0),false,(List.replicate 32 0),());(match bnd x3 x2.length with
|true=>let v7:=x2.getD x3.toNat (0,(List.replicate 32 0),false,(List.replicate 32 0),());let v8:= !(Kd.eqv Kq3 v6 v7);(match v8 with
|true=>k0 false
|false=>let v9:=IntKind.i64.wrap (x3+1);kc x1 x2 v9)
|false=>none)
|false=>none)
|false=>k1)
theorem q63_4 (L4:Qt):LEQ (zi3 L4) (e63 L4) Tryz.f63 p63_4:=fun _ _ _ _=>by kernel_rfl
def Zw:Nat→Qt
 | 0=>fun _ _ _ _ _ _=>none
 | n+1=>fun R x1 x2 x3 k0 k1=>p63_4 R x1 x2 x3 (fun x1 x2 x3=>Zw n R x1 x2 x3 k0 k1) k0 k1
def p63 (L4:Qt):FT63:=fun R a0 a1 k=>
let v1:=(a0.length:Int);let v2:=(a1.length:Int);let v3:=v1 !=v2;(match v3 with
|true=>k false
|false=>L4 R a0 a1 (0:Int) (fun x4=>
k x4) (k true))
theorem q63 (L4:Qt):EQ (en63 (p63 L4)) (e63 L4) Tryz.f63 [(.tmp 4,4,false)]:=fun _ _ _=>by kernel_rfl
def F63:FT63:=p63 (Zw FUEL)
theorem lok63_4:LKP (zi3 (Zw FUEL)) 0 26 4 Tryz.f63:=ST.lok (q63_4 (Zw FUEL)) Ab [] trivial
theorem ok63:OKP (en63 F63):=ST.ok1 (q63 (Zw FUEL)) Ab Tryz.func63 [4] ⟨⟨_,rfl,lok63_4⟩,trivial⟩
abbrev FT35:=(R:Type)→Tq24→Tq24→(Bool→Option R)→Option R
def en35 (F:FT35):Ent:=eV 35 [Kq24,Kq24] [.bool] F
def p35 (F63:FT63):FT35:=fun R a0 a1 k=>
let v1:=a0.1==a1.1;(match v1 with
|true=>let v2:=Kd.eqv (.arr 32 (.int .u8)) a0.2.1 a1.2.1;(match v2 with
|true=>let v3:=Kd.eqv (.arr 32 (.int .u8)) a0.2.2.1 a1.2.2.1;(match v3 with
|true=>F63 R a0.2.2.2.1 a1.2.2.2.1 fun y4=>
k y4
|false=>k false)
|false=>k false)
|false=>k false)
theorem q35 (F63:FT63):EQ (en35 (p35 F63)) (sE 0 31 [] [en63 F63] []) Tryz.f35 [(.tmp 4,4,false)]:=fun _ _ _=>by kernel_rfl
def F35:FT35:=p35 F63
theorem ok35:OKP (en35 F35):=ST.ok0 (q35 F63) (Aa ok63 Ab) Tryz.func35
abbrev FT17:=(R:Type)→LI→LI→(Bool→Option R)→Option R
def en17 (F:FT17):Ent:=eV 17 [(.sl (.int .i64)),(.sl (.int .i64))] [.bool] F
abbrev D17_4 (Z:Type):=LI→LI→Int→Z
abbrev E17_4 (R:Type):=(Bool→Option R)→(Option R)→Option R
abbrev Q4:=(R:Type)→D17_4 (E17_4 R)
def zje (L:Q4):LEnt:=lM 4 [.val 0 (.sl (.int .i64)),.val 1 (.sl (.int .i64)),.val 5 (.int .i64)] 0 [(.ret,[.val 4 .bool]),(.exit 0,[])] L
def e17 (L4:Q4):=sE 0 26 [] [] [zje L4]
def p17_4 (R:Type):D17_4 (D17_4 (Option R)→E17_4 R):=fun x1 x2 x3 kc k0 k1=>
let v4:=(x1.length:Int);let v5:=decide (x3<v4);(match v5 with
|true=>(match bnd x3 x1.length with
|true=>let v6:=x1.getD x3.toNat 0;(match bnd x3 x2.length with
|true=>let v7:=x2.getD x3.toNat 0;let v8:=v6 !=v7;(match v8 with
|true=>k0 false
|false=>let v9:=IntKind.i64.wrap (x3+1);kc x1 x2 v9)
|false=>none)
|false=>none)
|false=>k1)
theorem q17_4 (L4:Q4):LEQ (zje L4) (e17 L4) Tryz.f17 p17_4:=fun _ _ _ _=>by kernel_rfl
def Z8:Nat→Q4
 | 0=>fun _ _ _ _ _ _=>none
 | n+1=>fun R x1 x2 x3 k0 k1=>p17_4 R x1 x2 x3 (fun x1 x2 x3=>Z8 n R x1 x2 x3 k0 k1) k0 k1
def p17 (L4:Q4):FT17:=fun R a0 a1 k=>
let v1:=(a0.length:Int);let v2:=(a1.length:Int);let v3:=v1 !=v2;(match v3 with
|true=>k false
|false=>L4 R a0 a1 (0:Int) (fun x4=>
k x4) (k true))
theorem q17 (L4:Q4):EQ (en17 (p17 L4)) (e17 L4) Tryz.f17 [(.tmp 4,4,false)]:=fun _ _ _=>by kernel_rfl
def F17:FT17:=p17 (Z8 FUEL)
theorem lok17_4:LKP (zje (Z8 FUEL)) 0 26 4 Tryz.f17:=ST.lok (q17_4 (Z8 FUEL)) Ab [] trivial
theorem ok17:OKP (en17 F17):=ST.ok1 (q17 (Z8 FUEL)) Ab Tryz.func17 [4] ⟨⟨_,rfl,lok17_4⟩,trivial⟩
abbrev FT13:=(R:Type)→Tq29→Tq29→(Bool→Option R)→Option R
def en13 (F:FT13):Ent:=eV 13 [Kq29,Kq29] [.bool] F
def p13 (F17:FT17) (F34:FT34) (F35:FT35):FT13:=fun R a0 a1 k=>
let v1:=Kd.eqv Kq21 a0.1 a1.1;(match v1 with
|true=>let v2:=a0.2.1==a1.2.1;(match v2 with
|true=>F34 R a0.2.2.1 a1.2.2.1 fun y3=>
(match y3 with
|true=>F35 R a0.2.2.2.1 a1.2.2.2.1 fun y4=>
(match y4 with
|true=>F17 R a0.2.2.2.2.1 a1.2.2.2.2.1 fun y5=>
(match y5 with
|true=>F17 R a0.2.2.2.2.2.1 a1.2.2.2.2.2.1 fun y6=>
k y6
|false=>k false)
|false=>k false)
|false=>k false)
|false=>k false)
|false=>k false)
theorem q13 (F17:FT17) (F34:FT34) (F35:FT35):EQ (en13 (p13 F17 F34 F35)) (sE 0 45 [] [en17 F17,en34 F34,en35 F35] []) Tryz.f13 [(.tmp 4,4,false)]:=fun _ _ _=>by kernel_rfl
def F13:FT13:=p13 F17 F34 F35
theorem ok13:OKP (en13 F13):=ST.ok0 (q13 F17 F34 F35) (Aa ok17 (Aa ok34 (Aa ok35 Ab))) Tryz.func13
abbrev FT36:=(R:Type)→Tq17→Tq17→(Bool→Option R)→Option R
def p36 (F17:FT17):FT36:=fun R a0 a1 k=>
let v1:=a0.1==a1.1;(match v1 with
|true=>let v2:=a0.2.1==a1.2.1;(match v2 with
|true=>F17 R a0.2.2.1 a1.2.2.1 fun y3=>
(match y3 with
|true=>let v4:=Kd.eqv (.arr 32 (.int .u8)) a0.2.2.2.1 a1.2.2.2.1;k v4
|false=>k false)
|false=>k false)
|false=>k false)
def F36:FT36:=p36 F17
abbrev FT14:=(R:Type)→(List Tq17)→(List Tq17)→(Bool→Option R)→Option R
def en14 (F:FT14):Ent:=eV 14 [(.sl Kq17),(.sl Kq17)] [.bool] F
abbrev D14_4 (Z:Type):=(List Tq17)→(List Tq17)→Int→Z
abbrev E14_4 (R:Type):=(Bool→Option R)→(Option R)→Option R
abbrev zx0:=(R:Type)→D14_4 (E14_4 R)
def p14_4 (F36:FT36) (R:Type):D14_4 (D14_4 (Option R)→E14_4 R):=fun x1 x2 x3 kc k0 k1=>
let v4:=(x1.length:Int);let v5:=decide (x3<v4);(match v5 with
|true=>(match bnd x3 x1.length with
|true=>let v6:=x1.getD x3.toNat (0,0,[],(List.replicate 32 0),());(match bnd x3 x2.length with
|true=>let v7:=x2.getD x3.toNat (0,0,[],(List.replicate 32 0),());F36 R v6 v7 fun y8=>
(match (!y8) with
|true=>k0 false
|false=>let v9:=IntKind.i64.wrap (x3+1);kc x1 x2 v9)
|false=>none)
|false=>none)
|false=>k1)
def G14_4:Nat→zx0
 | 0=>fun _ _ _ _ _ _=>none
 | n+1=>fun R x1 x2 x3 k0 k1=>p14_4 F36 R x1 x2 x3 (fun x1 x2 x3=>G14_4 n R x1 x2 x3 k0 k1) k0 k1
def p14 (L4:zx0):FT14:=fun R a0 a1 k=>
let v1:=(a0.length:Int);let v2:=(a1.length:Int);let v3:=v1 !=v2;(match v3 with
|true=>k false
|false=>L4 R a0 a1 (0:Int) (fun x4=>
k x4) (k true))
def F14:FT14:=p14 (G14_4 FUEL)
abbrev FT3:=(R:Type)→LI→LI→LI→(Bool→Option R)→Option R
def en3 (F:FT3):Ent:=eV 3 [(.arr 5 (.int .u8)),(.arr 32 (.int .u8)),(.sl (.int .u8))] [.bool] F
def p3 (F8:FT8) (F9:FT9) (F10:FT10) (F11:FT11) (F12:FT12) (F13:FT13) (F14:FT14):FT3:=fun R a0 a1 a2 k=>
F8 R  fun y1=>
(match (!y1) with
|true=>k false
|false=>let v2:=(a2.length:Int);let v3:=decide (v2>1500);(match v3 with
|true=>k true
|false=>F9 R a2 fun y4=>
let v5:=(y4.length:Int);let v6:=decide (v5>120);(match v6 with
|true=>k true
|false=>let v7:=([]:LI);(match (decide (v7.length+a2.length≤140737488355328)) with
|true=>let v8:=v7++a2;F11 R a0 fun y9=>
F10 R y9 a1 v8 fun y10 y11 y12=>
F11 R a0 fun y13=>
F12 R y13 a1 a2 fun y14 y15 y16=>
F13 R y10 y14 fun y17=>
(match y17 with
|true=>F14 R y11 y15 fun y18=>
(match y18 with
|true=>let v19:=y12==y16;(match v19 with
|true=>let v20:=zd7 v8;let v21:=zd7 a2;let v22:=ByteArray.toList v20==ByteArray.toList v21;k v22
|false=>k false)
|false=>k false)
|false=>k false)
|false=>none))))
theorem q3 (F8:FT8) (F9:FT9) (F10:FT10) (F11:FT11) (F12:FT12) (F13:FT13) (F14:FT14):EQ (en3 (p3 F8 F9 F10 F11 F12 F13 F14)) (sE 0 66 [(5,0)] [en8 F8,en9 F9,en10 F10,en11 F11,en12 F12,en13 F13,en14 F14] []) Tryz.f3 [(.tmp 6,4,false)]:=fun _ _ _=>by kernel_rfl
abbrev FT4:=(R:Type)→Tq21→Int→Int→(Bool→Option R)→Option R
def en4 (F:FT4):Ent:=eV 4 [Kq21,(.int .u32),(.int .u8)] [.bool] F
abbrev D4_8 (Z:Type):=Int→Int→Int→Tq21→LI→Z
abbrev E4_8 (R:Type):=(Int→Tq21→LI→Option R)→Option R
abbrev zfj:=(R:Type)→D4_8 (E4_8 R)
def le4_8 (L:zfj):LEnt:=lM 8 [.val 2 (.int .u8),.fix 3 (.ptr 0 [] Kq21),.val 7 (.int .i64),.fix 8 (.own 1 0),.val 9 (.int .i64),.var 0 Kq21 false,.row 1 (.int .u8) false] 2 [(.exit 0,[.fix 3 (.ptr 0 [] Kq21),.val 7 (.int .i64),.fix 8 (.own 1 0),.var 0 Kq21 false,.row 1 (.int .u8) false])] L
def e4 (F8:FT8) (F10:FT10) (F13:FT13) (F15:FT15) (L8:zfj):=sE 0 95 [] [en8 F8,en10 F10,en13 F13,en15 F15] [le4_8 L8]
def p4_8 (R:Type):D4_8 (D4_8 (Option R)→E4_8 R):=fun x1 x2 x3 x4 x5 kc k0=>
let v6:=decide (x3<x2);(match v6 with
|true=>let v7:=Int.tmod x1 (200:Int);let v8:=IntKind.u8.wrap ((12:Int)+v7);(match bnd x3 x5.length with
|true=>let v9:=x5.set x3.toNat v8;let v10:=IntKind.i64.wrap (x3+1);kc x1 x2 v10 x4 v9
|false=>none)
|false=>k0 x2 x4 x5)
theorem q4_8 (F8:FT8) (F10:FT10) (F13:FT13) (F15:FT15) (L8:zfj):LEQ (le4_8 L8) (e4 F8 F10 F13 F15 L8) Tryz.f4 p4_8:=fun _ _ _ _=>by kernel_rfl
def G4_8:Nat→zfj
 | 0=>fun _ _ _ _ _ _ _=>none
 | n+1=>fun R x1 x2 x3 x4 x5 k0=>p4_8 R x1 x2 x3 x4 x5 (fun x1 x2 x3 x4 x5=>G4_8 n R x1 x2 x3 x4 x5 k0) k0
def p4 (F8:FT8) (F10:FT10) (F13:FT13) (F15:FT15) (L8:zfj):FT4:=fun R a0 a1 a2 k=>
F8 R  fun y1=>
(match (!y1) with
|true=>k false
|false=>let v2:=Int.tmod a1 (110000:Int);let v3:=IntKind.i64.wrap v2;let v4:=decide (v3<100001);(match v4 with
|true=>let v5:=decide (v3>2100);(match v5 with
|true=>k true
|false=>let v6:=decide (a0.1>10);(match v6 with
|true=>k true
|false=>(match (decide (0≤v3∧v3≤v3∧v3≤140737488355328)) with
|true=>let v7:=List.replicate v3.toNat (0:Int);L8 R a2 v3 (0:Int) a0 v7 (fun x8 x9 x10=>
let v11:=List.replicate 32 (0:Int);F10 R x9 v11 x10 fun y12 y13 y14=>
let v15:=List.replicate 32 (0:Int);F15 R x9 v15 fun y16 y17=>
let v18:=y17 !=0;(match v18 with
|true=>let v19:=y14==y17;(match v19 with
|true=>let v20:=(y13.length:Int);let v21:=v20==0;k v21
|false=>k false)
|false=>let v22:=decide (x8>2000);(match v22 with
|true=>let v23:=y14==14;(match v23 with
|true=>let v24:=(y13.length:Int);let v25:=v24==0;(match v25 with
|true=>F13 R y12 (((0:Int),(0:Int),(0:Int),(0:Int),(0:Int),()),(0:Int),([]:(List Tq5)),((0:Int),(List.replicate 32 (0:Int)),(List.replicate 32 (0:Int)),([]:(List Tq3)),()),([]:LI),([]:LI),()) fun y26=>
k y26
|false=>k false)
|false=>k false)
|false=>let v27:=y14==0;(match v27 with
|true=>let v28:=(y13.length:Int);let v29:=v28==x8;(match v29 with
|true=>F13 R y12 y16 fun y30=>
k y30
|false=>k false)
|false=>k false))))
|false=>none)))
|false=>(match (decide (0≤v3∧v3≤v3∧v3≤140737488355328)) with
|true=>let v31:=List.replicate v3.toNat (0:Int);L8 R a2 v3 (0:Int) a0 v31 (fun x32 x33 x34=>
let v35:=List.replicate 32 (0:Int);F10 R x33 v35 x34 fun y36 y37 y38=>
let v39:=List.replicate 32 (0:Int);F15 R x33 v39 fun y40 y41=>
let v42:=y41 !=0;(match v42 with
|true=>let v43:=y38==y41;(match v43 with
|true=>let v44:=(y37.length:Int);let v45:=v44==0;k v45
|false=>k false)
|false=>let v46:=decide (x32>2000);(match v46 with
|true=>let v47:=y38==14;(match v47 with
|true=>let v48:=(y37.length:Int);let v49:=v48==0;(match v49 with
|true=>F13 R y36 (((0:Int),(0:Int),(0:Int),(0:Int),(0:Int),()),(0:Int),([]:(List Tq5)),((0:Int),(List.replicate 32 (0:Int)),(List.replicate 32 (0:Int)),([]:(List Tq3)),()),([]:LI),([]:LI),()) fun y50=>
k y50
|false=>k false)
|false=>k false)
|false=>let v51:=y38==0;(match v51 with
|true=>let v52:=(y37.length:Int);let v53:=v52==x32;(match v53 with
|true=>F13 R y36 y40 fun y54=>
k y54
|false=>k false)
|false=>k false))))
|false=>none)))
theorem q4 (F8:FT8) (F10:FT10) (F13:FT13) (F15:FT15) (L8:zfj):EQ (en4 (p4 F8 F10 F13 F15 L8)) (e4 F8 F10 F13 F15 L8) Tryz.f4 [(.tmp 6,4,false)]:=fun _ _ _=>by kernel_rfl
def F4:FT4:=p4 F8 F10 F13 F15 (G4_8 FUEL)
theorem lok4_8:LKP (le4_8 (G4_8 FUEL)) 0 95 8 Tryz.f4:=ST.lok (q4_8 F8 F10 F13 F15 (G4_8 FUEL)) (Aa ok8 (Aa ok10 (Aa ok13 (Aa ok15 Ab)))) [] trivial
theorem ok4:OKP (en4 F4):=ST.ok1 (q4 F8 F10 F13 F15 (G4_8 FUEL)) (Aa ok8 (Aa ok10 (Aa ok13 (Aa ok15 Ab)))) Tryz.func4 [8] ⟨⟨_,rfl,lok4_8⟩,trivial⟩
abbrev FT46:=(R:Type)→Int→(ByteArray→Option R)→Option R
abbrev D46_2 (Z:Type):=Int→ByteArray→Z
abbrev E46_2 (R:Type):=(ByteArray→Option R)→Option R
abbrev zxu:=(R:Type)→D46_2 (E46_2 R)
def p46_2 (R:Type):D46_2 (D46_2 (Option R)→E46_2 R):=fun x1 x2 kc k0=>
let v3:=Int.tmod x1 (10:Int);let v4:=IntKind.u64.wrap ((48:Int)+v3);let v5:=IntKind.u8.wrap v4;let v6:=([v5]:LI);let v7:=zd7 v6;(match (decide (ByteArray.size v7+ByteArray.size x2≤9223372036854775807)) with
|true=>let v8:=ByteArray.append v7 x2;let v9:=IntKind.u64.wrap (Int.tdiv x1 (10:Int));let v10:=v9==0;(match v10 with
|true=>k0 v8
|false=>kc v9 v8)
|false=>none)
def G46_2:Nat→zxu
 | 0=>fun _ _ _ _=>none
 | n+1=>fun R x1 x2 k0=>p46_2 R x1 x2 (fun x1 x2=>G46_2 n R x1 x2 k0) k0
def p46 (L2:zxu):FT46:=fun R a0 k=>
L2 R a0 (⟨#[]⟩:ByteArray) (fun x1=>
k x1)
def F46:FT46:=p46 (G46_2 FUEL)
abbrev FT45:=(R:Type)→Int→(ByteArray→Option R)→Option R
def p45 (F46:FT46):FT45:=fun R a0 k=>
let v1:=decide (a0<0);(match v1 with
|true=>let v2:=IntKind.u64.wrap a0;let v3:=IntKind.u64.wrap (0 - v2);F46 R v3 fun y4=>
(match (decide (ByteArray.size (⟨#[45]⟩:ByteArray)+ByteArray.size y4≤9223372036854775807)) with
|true=>let v5:=ByteArray.append (⟨#[45]⟩:ByteArray) y4;k v5
|false=>none)
|false=>let v6:=IntKind.u64.wrap a0;F46 R v6 fun y7=>
k y7)
def F45:FT45:=p45 F46
abbrev FT20:=(R:Type)→Tq17→(ByteArray→Option R)→Option R
def en20 (F:FT20):Ent:=eV 20 [Kq17] [.str] F
abbrev D20_5 (Z:Type):=ByteArray→Int→Tq17→Z
abbrev E20_5 (R:Type):=(ByteArray→Tq17→Option R)→Option R
abbrev zxy:=(R:Type)→D20_5 (E20_5 R)
def p20_5 (F45:FT45) (R:Type):D20_5 (D20_5 (Option R)→E20_5 R):=fun x1 x2 x3 kc k0=>
let v4:=(x3.2.2.1.length:Int);let v5:=decide (x2<v4);(match v5 with
|true=>let v6:=decide (x2>0);(match v6 with
|true=>(match (decide (ByteArray.size x1+ByteArray.size (⟨#[44]⟩:ByteArray)≤9223372036854775807)) with
|true=>let v7:=ByteArray.append x1 (⟨#[44]⟩:ByteArray);(match bnd x2 x3.2.2.1.length with
|true=>let v8:=x3.2.2.1.getD x2.toNat 0;F45 R v8 fun y9=>
(match (decide (ByteArray.size v7+ByteArray.size y9≤9223372036854775807)) with
|true=>let v10:=ByteArray.append v7 y9;let v11:=IntKind.i64.wrap (x2+1);kc v10 v11 x3
|false=>none)
|false=>none)
|false=>none)
|false=>(match bnd x2 x3.2.2.1.length with
|true=>let v12:=x3.2.2.1.getD x2.toNat 0;F45 R v12 fun y13=>
(match (decide (ByteArray.size x1+ByteArray.size y13≤9223372036854775807)) with
|true=>let v14:=ByteArray.append x1 y13;let v15:=IntKind.i64.wrap (x2+1);kc v14 v15 x3
|false=>none)
|false=>none))
|false=>k0 x1 x3)
def G20_5:Nat→zxy
 | 0=>fun _ _ _ _ _=>none
 | n+1=>fun R x1 x2 x3 k0=>p20_5 F45 R x1 x2 x3 (fun x1 x2 x3=>G20_5 n R x1 x2 x3 k0) k0
def p20 (F26:FT26) (F45:FT45) (F46:FT46) (L5:zxy):FT20:=fun R a0 k=>
let v1:=a0.1 !=0;(match v1 with
|true=>F45 R a0.1 fun y2=>
(match (decide (ByteArray.size (⟨#[101,114,114,32]⟩:ByteArray)+ByteArray.size y2≤9223372036854775807)) with
|true=>let v3:=ByteArray.append (⟨#[101,114,114,32]⟩:ByteArray) y2;k v3
|false=>none)
|false=>L5 R (⟨#[]⟩:ByteArray) (0:Int) a0 (fun x4 x5=>
let v6:=ByteArray.toList x4==ByteArray.toList (⟨#[]⟩:ByteArray);(match v6 with
|true=>F46 R x5.2.1 fun y7=>
(match (decide (ByteArray.size (⟨#[111,107,32]⟩:ByteArray)+ByteArray.size y7≤9223372036854775807)) with
|true=>let v8:=ByteArray.append (⟨#[111,107,32]⟩:ByteArray) y7;(match (decide (ByteArray.size v8+ByteArray.size (⟨#[32]⟩:ByteArray)≤9223372036854775807)) with
|true=>let v9:=ByteArray.append v8 (⟨#[32]⟩:ByteArray);(match (decide (ByteArray.size v9+ByteArray.size (⟨#[45]⟩:ByteArray)≤9223372036854775807)) with
|true=>let v10:=ByteArray.append v9 (⟨#[45]⟩:ByteArray);(match (decide (ByteArray.size v10+ByteArray.size (⟨#[32]⟩:ByteArray)≤9223372036854775807)) with
|true=>let v11:=ByteArray.append v10 (⟨#[32]⟩:ByteArray);F26 R x5.2.2.2.1 fun y12=>
(match (decide (ByteArray.size v11+ByteArray.size y12≤9223372036854775807)) with
|true=>let v13:=ByteArray.append v11 y12;k v13
|false=>none)
|false=>none)
|false=>none)
|false=>none)
|false=>none)
|false=>F46 R x5.2.1 fun y14=>
(match (decide (ByteArray.size (⟨#[111,107,32]⟩:ByteArray)+ByteArray.size y14≤9223372036854775807)) with
|true=>let v15:=ByteArray.append (⟨#[111,107,32]⟩:ByteArray) y14;(match (decide (ByteArray.size v15+ByteArray.size (⟨#[32]⟩:ByteArray)≤9223372036854775807)) with
|true=>let v16:=ByteArray.append v15 (⟨#[32]⟩:ByteArray);(match (decide (ByteArray.size v16+ByteArray.size x4≤9223372036854775807)) with
|true=>let v17:=ByteArray.append v16 x4;(match (decide (ByteArray.size v17+ByteArray.size (⟨#[32]⟩:ByteArray)≤9223372036854775807)) with
|true=>let v18:=ByteArray.append v17 (⟨#[32]⟩:ByteArray);F26 R x5.2.2.2.1 fun y19=>
(match (decide (ByteArray.size v18+ByteArray.size y19≤9223372036854775807)) with
|true=>let v20:=ByteArray.append v18 y19;k v20
|false=>none)
|false=>none)
|false=>none)
|false=>none)
|false=>none))))
def F20:FT20:=p20 F26 F45 F46 (G20_5 FUEL)
abbrev FT19:=(R:Type)→(List Tq17)→(ByteArray→Option R)→Option R
def en19 (F:FT19):Ent:=eV 19 [(.sl Kq17)] [.str] F
abbrev D19_3 (Z:Type):=(List Tq17)→ByteArray→Int→Z
abbrev E19_3 (R:Type):=(ByteArray→Option R)→Option R
abbrev zxz:=(R:Type)→D19_3 (E19_3 R)
def p19_3 (F20:FT20) (R:Type):D19_3 (D19_3 (Option R)→E19_3 R):=fun x1 x2 x3 kc k0=>
let v4:=(x1.length:Int);let v5:=decide (x3<v4);(match v5 with
|true=>(match bnd x3 x1.length with
|true=>let v6:=x1.getD x3.toNat (0,0,[],(List.replicate 32 0),());F20 R v6 fun y7=>
(match (decide (ByteArray.size x2+ByteArray.size y7≤9223372036854775807)) with
|true=>let v8:=ByteArray.append x2 y7;(match (decide (ByteArray.size v8+ByteArray.size (⟨#[10]⟩:ByteArray)≤9223372036854775807)) with
|true=>let v9:=ByteArray.append v8 (⟨#[10]⟩:ByteArray);let v10:=IntKind.i64.wrap (x3+1);kc x1 v9 v10
|false=>none)
|false=>none)
|false=>none)
|false=>k0 x2)
def G19_3:Nat→zxz
 | 0=>fun _ _ _ _ _=>none
 | n+1=>fun R x1 x2 x3 k0=>p19_3 F20 R x1 x2 x3 (fun x1 x2 x3=>G19_3 n R x1 x2 x3 k0) k0
def p19 (L3:zxz):FT19:=fun R a0 k=>
L3 R a0 (⟨#[]⟩:ByteArray) (0:Int) (fun x1=>
k x1)
def F19:FT19:=p19 (G19_3 FUEL)
abbrev FT5:=(R:Type)→(List Tq17)→Tq17→Tq17→(Bool→Option R)→Option R
def en5 (F:FT5):Ent:=eV 5 [(.sl Kq17),Kq17,Kq17] [.bool] F
abbrev D5_6 (Z:Type):=(List Tq17)→Int→Tq17→Tq17→Z
abbrev E5_6 (R:Type):=(Bool→Option R)→((List Tq17)→Tq17→Tq17→Option R)→Option R
abbrev zwc:=(R:Type)→D5_6 (E5_6 R)
def le5_6 (L:zwc):LEnt:=lM 6 [.val 0 (.sl Kq17),.fix 4 (.ptr 0 [] Kq17),.fix 5 (.ptr 1 [] Kq17),.val 7 (.int .i64),.var 0 Kq17 false,.var 1 Kq17 false] 2 [(.ret,[.val 6 .bool]),(.exit 0,[.val 0 (.sl Kq17),.fix 4 (.ptr 0 [] Kq17),.fix 5 (.ptr 1 [] Kq17),.var 0 Kq17 false,.var 1 Kq17 false])] L
def e5 (F8:FT8) (F16:FT16) (F17:FT17) (F18:FT18) (F19:FT19) (F20:FT20) (L6:zwc):=sE 0 94 [] [en8 F8,en16 F16,en17 F17,en18 F18,en19 F19,en20 F20] [le5_6 L6]
def p5 (F8:FT8) (F16:FT16) (F17:FT17) (F18:FT18) (F19:FT19) (F20:FT20) (L6:zwc):FT5:=fun R a0 a1 a2 k=>
F8 R  fun y1=>
(match (!y1) with
|true=>k false
|false=>let v2:=(a0.length:Int);let v3:=decide (v2>50);(match v3 with
|true=>k true
|false=>let v4:=(a1.2.2.1.length:Int);let v5:=decide (v4>300);(match v5 with
|true=>k true
|false=>let v6:=(a2.2.2.1.length:Int);let v7:=decide (v6>300);(match v7 with
|true=>k true
|false=>L6 R a0 (0:Int) a1 a2 (fun x8=>
k x8) (fun x9 x10 x11=>
F16 R x10 fun y12=>
F16 R x11 fun y13=>
let v14:=x10.1==x11.1;(match v14 with
|true=>let v15:=x10.1 !=0;(match v15 with
|true=>F18 R x9 fun y16=>
F19 R x9 fun y17=>
let v18:=ByteArray.toList y16==ByteArray.toList y17;(match v18 with
|true=>F20 R x10 fun y19=>
let v20:=ByteArray.toList y12==ByteArray.toList y19;(match v20 with
|true=>let v21:=ByteArray.toList y12==ByteArray.toList y13;let v22:=v21==true;k v22
|false=>k false)
|false=>k false)
|false=>let v23:=x10.2.1==x11.2.1;(match v23 with
|true=>F17 R x10.2.2.1 x11.2.2.1 fun y24=>
(match y24 with
|true=>let v25:=Kd.eqv (.arr 32 (.int .u8)) x10.2.2.2.1 x11.2.2.2.1;F18 R x9 fun y26=>
F19 R x9 fun y27=>
let v28:=ByteArray.toList y26==ByteArray.toList y27;(match v28 with
|true=>F20 R x10 fun y29=>
let v30:=ByteArray.toList y12==ByteArray.toList y29;(match v30 with
|true=>let v31:=ByteArray.toList y12==ByteArray.toList y13;let v32:=v31==v25;k v32
|false=>k false)
|false=>k false)
|false=>F18 R x9 fun y33=>
F19 R x9 fun y34=>
let v35:=ByteArray.toList y33==ByteArray.toList y34;(match v35 with
|true=>F20 R x10 fun y36=>
let v37:=ByteArray.toList y12==ByteArray.toList y36;(match v37 with
|true=>let v38:=ByteArray.toList y12==ByteArray.toList y13;let v39:=v38==false;k v39
|false=>k false)
|false=>k false))
|false=>F18 R x9 fun y40=>
F19 R x9 fun y41=>
let v42:=ByteArray.toList y40==ByteArray.toList y41;(match v42 with
|true=>F20 R x10 fun y43=>
let v44:=ByteArray.toList y12==ByteArray.toList y43;(match v44 with
|true=>let v45:=ByteArray.toList y12==ByteArray.toList y13;let v46:=v45==false;k v46
|false=>k false)
|false=>k false)))
|false=>F18 R x9 fun y47=>
F19 R x9 fun y48=>
let v49:=ByteArray.toList y47==ByteArray.toList y48;(match v49 with
|true=>F20 R x10 fun y50=>
let v51:=ByteArray.toList y12==ByteArray.toList y50;(match v51 with
|true=>let v52:=ByteArray.toList y12==ByteArray.toList y13;let v53:=v52==false;k v53
|false=>k false)
|false=>k false)))))))
theorem q5 (F8:FT8) (F16:FT16) (F17:FT17) (F18:FT18) (F19:FT19) (F20:FT20) (L6:zwc):EQ (en5 (p5 F8 F16 F17 F18 F19 F20 L6)) (e5 F8 F16 F17 F18 F19 F20 L6) Tryz.f5 [(.tmp 6,4,false)]:=fun _ _ _=>by kernel_rfl
abbrev FT48:=(R:Type)→Tq11→Int→(LI→Option R)→Option R
abbrev D48_9 (Z:Type):=Int→LI→LI→Z
abbrev E48_9 (R:Type):=(LI→Option R)→Option R
abbrev zxt:=(R:Type)→D48_9 (E48_9 R)
abbrev zpt (Z:Type):=Int→LI→LI→Z
abbrev zzl (R:Type):=(LI→Option R)→Option R
abbrev zlq:=(R:Type)→zpt (zzl R)
abbrev zps (Z:Type):=Int→Tq11→LI→Z
abbrev zzk (R:Type):=(LI→Option R)→Option R
abbrev zlp:=(R:Type)→zps (zzk R)
def p48_9 (R:Type):D48_9 (D48_9 (Option R)→E48_9 R):=fun x1 x2 x3 kc k0=>
let v4:=decide (x1<4);(match v4 with
|true=>(match (bnd x1 (4:Int)) with
|true=>let v5:=x3.getD x1.toNat 0;let v6:=([v5]:LI);(match (decide (x2.length+v6.length≤140737488355328)) with
|true=>let v7:=x2++v6;let v8:=IntKind.i64.wrap (x1+1);kc v8 v7 x3
|false=>none)
|false=>none)
|false=>k0 x2)
def G48_9:Nat→zxt
 | 0=>fun _ _ _ _ _=>none
 | n+1=>fun R x1 x2 x3 k0=>p48_9 R x1 x2 x3 (fun x1 x2 x3=>G48_9 n R x1 x2 x3 k0) k0
def p48_15 (R:Type):zpt (zpt (Option R)→zzl R):=fun x1 x2 x3 kc k0=>
let v4:=decide (x1<8);(match v4 with
|true=>(match (bnd x1 (8:Int)) with
|true=>let v5:=x3.getD x1.toNat 0;let v6:=([v5]:LI);(match (decide (x2.length+v6.length≤140737488355328)) with
|true=>let v7:=x2++v6;let v8:=IntKind.i64.wrap (x1+1);kc v8 v7 x3
|false=>none)
|false=>none)
|false=>k0 x2)
def zya:Nat→zlq
 | 0=>fun _ _ _ _ _=>none
 | n+1=>fun R x1 x2 x3 k0=>p48_15 R x1 x2 x3 (fun x1 x2 x3=>zya n R x1 x2 x3 k0) k0
def p48_20 (R:Type):zps (zps (Option R)→zzk R):=fun x1 x2 x3 kc k0=>
let v4:=decide (x1<32);(match v4 with
|true=>(match (bnd x1 (32:Int)) with
|true=>let v5:=x2.2.2.2.1.getD x1.toNat 0;let v6:=([v5]:LI);(match (decide (x3.length+v6.length≤140737488355328)) with
|true=>let v7:=x3++v6;let v8:=IntKind.i64.wrap (x1+1);kc v8 x2 v7
|false=>none)
|false=>none)
|false=>k0 x3)
def zx9:Nat→zlp
 | 0=>fun _ _ _ _ _=>none
 | n+1=>fun R x1 x2 x3 k0=>p48_20 R x1 x2 x3 (fun x1 x2 x3=>zx9 n R x1 x2 x3 k0) k0
def p48 (F54:FT54) (F70:FT70) (L9:zxt) (L15:zlq) (L20:zlp):FT48:=fun R a0 a1 k=>
let v1:=a1==119;(match v1 with
|true=>let v2:=IntKind.u32.wrap a0.2.1;F70 R v2 fun y3=>
let v4:=a1==110;(match v4 with
|true=>let v5:=IntKind.u32.wrap a0.2.2.2.2.1;F70 R v5 fun y6=>
L9 R (0:Int) ([]:LI) y6 (fun x7=>
k x7)
|false=>L9 R (0:Int) ([]:LI) y3 (fun x8=>
k x8))
|false=>let v9:=a1==110;(match v9 with
|true=>let v10:=IntKind.u32.wrap a0.2.1;F70 R v10 fun y11=>
let v12:=a1==110;(match v12 with
|true=>let v13:=IntKind.u32.wrap a0.2.2.2.2.1;F70 R v13 fun y14=>
L9 R (0:Int) ([]:LI) y14 (fun x15=>
k x15)
|false=>L9 R (0:Int) ([]:LI) y11 (fun x16=>
k x16))
|false=>let v17:=a1==97;(match v17 with
|true=>F54 R a0.2.2.1 fun y18=>
L15 R (0:Int) ([]:LI) y18 (fun x19=>
k x19)
|false=>let v20:=a1==104;(match v20 with
|true=>L20 R (0:Int) a0 ([]:LI) (fun x21=>
k x21)
|false=>k ([]:LI)))))
def F48:FT48:=p48 F54 F70 (G48_9 FUEL) (zya FUEL) (zx9 FUEL)
abbrev FT21:=(R:Type)→(List Tq11)→(LI→Int→Option R)→Option R
def en21 (F:FT21):Ent:=eV 21 [(.sl Kq11)] [(.sl (.int .u8)),(.int .i64)] F
abbrev D21_3 (Z:Type):=(List Tq11)→Int→LI→Z
abbrev E21_3 (R:Type):=(Int→Option R)→(LI→Option R)→Option R
abbrev zxx:=(R:Type)→D21_3 (E21_3 R)
abbrev zqr (Z:Type):=(List Tq11)→Int→ByteArray→Int→LI→Z
abbrev E21_12 (R:Type):=((List Tq11)→Int→LI→Option R)→Option R
abbrev zl0:=(R:Type)→zqr (E21_12 R)
def p21_12 (F48:FT48) (R:Type):zqr (zqr (Option R)→E21_12 R):=fun x1 x2 x3 x4 x5 kc k0=>
let v6:=(ByteArray.size x3:Int);let v7:=decide (x4<v6);(match v7 with
|true=>(match bnd x2 x1.length with
|true=>let v8:=x1.getD x2.toNat (0,0,0,(List.replicate 32 0),0,());(match (bnd x4 (ByteArray.size x3:Int)) with
|true=>let v9:=((List.getD (Array.toList (ByteArray.data x3)) x4.toNat 0).toNat:Int);F48 R v8 v9 fun y10=>
(match (decide (x5.length+y10.length≤140737488355328)) with
|true=>let v11:=x5++y10;let v12:=IntKind.i64.wrap (x4+1);kc x1 x2 x3 v12 v11
|false=>none)
|false=>none)
|false=>none)
|false=>k0 x1 x2 x5)
def zyq:Nat→zl0
 | 0=>fun _ _ _ _ _ _ _=>none
 | n+1=>fun R x1 x2 x3 x4 x5 k0=>p21_12 F48 R x1 x2 x3 x4 x5 (fun x1 x2 x3 x4 x5=>zyq n R x1 x2 x3 x4 x5 k0) k0
def p21_3 (F28:FT28) (F47:FT47) (L12:zl0) (R:Type):D21_3 (D21_3 (Option R)→E21_3 R):=fun x1 x2 x3 kc k0 k1=>
let v4:=(x1.length:Int);let v5:=decide (x2<v4);(match v5 with
|true=>(match bnd x2 x1.length with
|true=>let v6:=x1.getD x2.toNat (0,0,0,(List.replicate 32 0),0,());F47 R v6 fun y7=>
(match (!y7) with
|true=>k0 (1:Int)
|false=>(match bnd x2 x1.length with
|true=>let v8:=(x1.getD x2.toNat (0,0,0,(List.replicate 32 0),0,())).1;F28 R v8 fun y9=>
let v10:=ByteArray.toList y9==ByteArray.toList (⟨#[]⟩:ByteArray);(match v10 with
|true=>(match bnd x2 x1.length with
|true=>let v11:=(x1.getD x2.toNat (0,0,0,(List.replicate 32 0),0,())).2.2.2.2.1;let v12:=IntKind.u8.wrap v11;let v13:=([v12]:LI);(match (decide (x3.length+v13.length≤140737488355328)) with
|true=>let v14:=x3++v13;let v15:=IntKind.i64.wrap (x2+1);kc x1 v15 v14
|false=>none)
|false=>none)
|false=>(match bnd x2 x1.length with
|true=>let v16:=(x1.getD x2.toNat (0,0,0,(List.replicate 32 0),0,())).1;let v17:=IntKind.u8.wrap v16;let v18:=([v17]:LI);(match (decide (x3.length+v18.length≤140737488355328)) with
|true=>let v19:=x3++v18;L12 R x1 x2 y9 (0:Int) v19 (fun x20 x21 x22=>
let v23:=IntKind.i64.wrap (x21+1);kc x20 v23 x22)
|false=>none)
|false=>none))
|false=>none))
|false=>none)
|false=>k1 x3)
def G21_3:Nat→zxx
 | 0=>fun _ _ _ _ _ _=>none
 | n+1=>fun R x1 x2 x3 k0 k1=>p21_3 F28 F47 (zyq FUEL) R x1 x2 x3 (fun x1 x2 x3=>G21_3 n R x1 x2 x3 k0 k1) k0 k1
def p21 (L3:zxx):FT21:=fun R a0 k=>
L3 R a0 (0:Int) ([]:LI) (fun x1=>
k ([]:LI) x1) (fun x2=>
k x2 (0:Int))
def F21:FT21:=p21 (G21_3 FUEL)
abbrev FT6:=(R:Type)→LI→(List Tq11)→LI→(Bool→Option R)→Option R
def en6 (F:FT6):Ent:=eV 6 [(.arr 5 (.int .u8)),(.sl Kq11),(.sl (.int .u8))] [.bool] F
def p6 (F8:FT8) (F9:FT9) (F10:FT10) (F11:FT11) (F13:FT13) (F14:FT14) (F21:FT21) (F22:FT22):FT6:=fun R a0 a1 a2 k=>
F8 R  fun y1=>
(match (!y1) with
|true=>k false
|false=>let v2:=(a1.length:Int);let v3:=decide (v2>60);(match v3 with
|true=>k true
|false=>let v4:=(a2.length:Int);let v5:=decide (v4>1500);(match v5 with
|true=>k true
|false=>F9 R a2 fun y6=>
let v7:=(y6.length:Int);let v8:=decide (v7>60);(match v8 with
|true=>k true
|false=>F21 R a1 fun y9 y10=>
let v11:=y10 !=0;(match v11 with
|true=>k true
|false=>F11 R a0 fun y12=>
let v13:=List.set (List.replicate 32 (0:Int)) 0 (3:Int);F10 R y12 v13 y9 fun y14 y15 y16=>
let v17:=List.set (List.replicate 32 (0:Int)) 0 (3:Int);let v18:=([]:LI);(match (decide (v18.length+y9.length≤140737488355328)) with
|true=>let v19:=v18++y9;(match (decide (v19.length+a2.length≤140737488355328)) with
|true=>let v20:=v19++a2;F10 R y12 v17 v20 fun y21 y22 y23=>
F9 R a2 fun y24=>
F22 R y14 y24 fun y25 y26=>
let v27:=y16==0;(match v27 with
|true=>let v28:=y23==0;(match v28 with
|true=>F13 R y21 y25 fun y29=>
(match y29 with
|true=>let v30:=([]:(List Tq17));(match (decide (v30.length+y15.length≤1954687338268)) with
|true=>let v31:=v30++y15;(match (decide (v31.length+y26.length≤1954687338268)) with
|true=>let v32:=v31++y26;F14 R y22 v32 fun y33=>
k y33
|false=>none)
|false=>none)
|false=>k false)
|false=>k false)
|false=>k false)
|false=>none)
|false=>none))))))
theorem q6 (F8:FT8) (F9:FT9) (F10:FT10) (F11:FT11) (F13:FT13) (F14:FT14) (F21:FT21) (F22:FT22):EQ (en6 (p6 F8 F9 F10 F11 F13 F14 F21 F22)) (sE 0 90 [(10,2),(12,13)] [en8 F8,en9 F9,en10 F10,en11 F11,en13 F13,en14 F14,en21 F21,en22 F22] []) Tryz.f6 [(.tmp 6,4,false)]:=fun _ _ _=>by kernel_rfl
abbrev FT50:=(R:Type)→(List Tq11)→(LI→Int→Option R)→Option R
abbrev D50_3 (Z:Type):=(List Tq11)→Int→Int→LI→Z
abbrev E50_3 (R:Type):=(Int→Option R)→(LI→Option R)→Option R
abbrev zxs:=(R:Type)→D50_3 (E50_3 R)
def p50_3 (F76:FT76) (F77:FT77) (R:Type):D50_3 (D50_3 (Option R)→E50_3 R):=fun x1 x2 x3 x4 kc k0 k1=>
let v5:=decide (x3<x2);(match v5 with
|true=>(match bnd x3 x1.length with
|true=>let v6:=x1.getD x3.toNat (0,0,0,(List.replicate 32 0),0,());F76 R v6 fun y7=>
(match (!y7) with
|true=>k0 (1:Int)
|false=>F77 R v6 fun y8=>
(match (decide (x4.length+y8.length≤140737488355328)) with
|true=>let v9:=x4++y8;let v10:=IntKind.i64.wrap (x3+1);kc x1 x2 v10 v9
|false=>none))
|false=>none)
|false=>k1 x4)
def G50_3:Nat→zxs
 | 0=>fun _ _ _ _ _ _ _=>none
 | n+1=>fun R x1 x2 x3 x4 k0 k1=>p50_3 F76 F77 R x1 x2 x3 x4 (fun x1 x2 x3 x4=>G50_3 n R x1 x2 x3 x4 k0 k1) k0 k1
def p50 (L3:zxs):FT50:=fun R a0 k=>
let v1:=(a0.length:Int);L3 R a0 v1 (0:Int) ([]:LI) (fun x2=>
k ([]:LI) x2) (fun x3=>
k x3 (0:Int))
def F50:FT50:=p50 (G50_3 FUEL)
abbrev D114 (Z:Type):=Int→Int→Int→List Bool→Int→List Tq11→List Tq17→List Tq37→Unit→Tq37→Z
abbrev E114 (R:Type):=(List Bool→List Tq37→Unit→Tq37→Option R)→Option R
abbrev LT114:=(R:Type)→D114 (E114 R)
def p114r (F79:FT79) (F80:FT80) (R:Type) (n lim i:Int) (mk:List Bool) (slots:Int) (ops:List Tq11) (ans:List Tq17) (folds:List Tq37) (u:Unit) (f:Tq37) (ends:Bool) (kc:D114 (Option R)):Option R:=
 (match bnd i (ops.length:Int) with
 | true=>
  let o:Tq11:=ops.getD i.toNat ((0:Int),(0:Int),(0:Int),(List.replicate 32 (0:Int)),(0:Int),())
  let tail:Tq37→Option R:=fun f=>(match ends with
   | true=>F80 R f.2.1 f.1 f.2.2.1 fun nx=>(match decide (folds.length+[((f.1,f.2.1,f.2.2.1,nx,()):Tq37)].length≤1353245080339) with
    | true=>kc n lim (IntKind.i64.wrap (i+1)) mk slots ops ans (folds++[(f.1,f.2.1,f.2.2.1,nx,())]) u (IntKind.u64.wrap (f.1+1),nx,List.replicate 32 (0:Int),List.replicate 32 (0:Int),())
    | false=>none)
   | false=>kc n lim (IntKind.i64.wrap (i+1)) mk slots ops ans folds u f)
  (match (o.1==5) with
  | true=>F79 R [f.2.2.1,o.2.2.2.1] fun m=>tail (f.1,f.2.1,m,f.2.2.2)
  | false=>tail f)
 | false=>none)
def p114 (F79:FT79) (F80:FT80) (R:Type):D114 (D114 (Option R)→E114 R):=fun n lim i mk slots ops ans folds u f kc k0=>
 (match decide (i<lim) with
 | true=>(match bnd i (ans.length:Int) with
  | true=>(match ((ans.getD i.toNat ((0:Int),(0:Int),([]:List Int),(List.replicate 32 (0:Int)),())).1 !=0) with
   | true=>kc n lim (IntKind.i64.wrap (i+1)) mk slots ops ans folds u f
   | false=>(match bnd i (ans.length:Int) with
    | true=>(match bnd i (ops.length:Int) with
     | true=>(match ((ops.getD i.toNat ((0:Int),(0:Int),(0:Int),(List.replicate 32 (0:Int)),(0:Int),())).1==6) with
      | true=>(match (IntKind.i64.wrap (n+1)==slots) with
       | true=>p114r F79 F80 R 0 lim i mk slots ops ans folds u f (IntKind.i64.wrap (n+1)==slots) kc
       | false=>p114r F79 F80 R (IntKind.i64.wrap (n+1)) lim i mk slots ops ans folds u f (IntKind.i64.wrap (n+1)==slots) kc)
      | false=>p114r F79 F80 R n lim i mk slots ops ans folds u f false kc)
     | false=>none)
    | false=>none))
  | false=>none)
 | false=>k0 mk folds u f)
def G114 (F79:FT79) (F80:FT80):Nat→LT114
 | 0=>fun _ _ _ _ _ _ _ _ _ _ _ _=>none
 | n+1=>fun R x1 x2 x3 x4 x5 x6 x7 x8 x9 x10 k0=>p114 F79 F80 R x1 x2 x3 x4 x5 x6 x7 x8 x9 x10 (fun x1 x2 x3 x4 x5 x6 x7 x8 x9 x10=>G114 F79 F80 n R x1 x2 x3 x4 x5 x6 x7 x8 x9 x10 k0) k0
abbrev FT52:=(R:Type)→Tq21→LI→(List Tq11)→(List Tq17)→(List Tq37→Option R)→Option R
def p52 (F58:FT58) (L:LT114):FT52:=fun R c seed ops ans k=>F58 R c fun y=>
 (match (!y) with
 | true=>none
 | false=>L R 0 (if (ans.length:Int)<(ops.length:Int) then (ans.length:Int) else (ops.length:Int)) 0 [] c.1 ops ans [] () ((0:Int),seed,(List.replicate 32 (0:Int)),(List.replicate 32 (0:Int)),()) (fun _ folds _ _=>k folds))
def F52:FT52:=p52 F58 (G114 F79 F80 FUEL)
abbrev FT23:=(R:Type)→(Bool→Option R)→Option R
def p23 (F10:FT10) (F17:FT17) (F25:FT25) (F32:FT32) (F50:FT50) (F51:FT51) (F52:FT52):FT23:=fun R k=>
let v1:=List.set (List.replicate 32 (0:Int)) 0 (7:Int);F51 R v1 fun y2=>
let v3:=([((1:Int),(0:Int),(5:Int),v1,(0:Int),()),((4:Int),(0:Int),(0:Int),y2,(0:Int),()),((6:Int),(0:Int),(0:Int),(List.replicate 32 (0:Int)),(0:Int),()),((5:Int),(0:Int),(0:Int),v1,(0:Int),()),((6:Int),(0:Int),(0:Int),(List.replicate 32 (0:Int)),(0:Int),()),((7:Int),(0:Int),(0:Int),(List.replicate 32 (0:Int)),(0:Int),())]:(List Tq11));F50 R v3 fun y4 y5=>
let v6:=List.replicate 32 (0:Int);F10 R ((2:Int),(1:Int),(1:Int),(64:Int),(1:Int),()) v6 y4 fun y7 y8 y9=>
let v10:=List.replicate 32 (0:Int);F32 R y4 fun y11=>
F52 R ((2:Int),(1:Int),(1:Int),(64:Int),(1:Int),()) v10 y11 y8 fun y12=>
let v13:=y5==0;(match v13 with
|true=>let v14:=y9==0;(match v14 with
|true=>let v15:=(y8.length:Int);let v16:=v15==6;(match v16 with
|true=>(match bnd 4 y8.length with
|true=>let v17:=(y8.getD 4 (0,0,[],(List.replicate 32 0),())).2.2.2.1;let v18:=List.replicate 32 (0:Int);F25 R v18 (0:Int) v1 fun y19=>
let v20:=Kd.eqv (.arr 32 (.int .u8)) v17 y19;(match v20 with
|true=>(match bnd 5 y8.length with
|true=>let v21:=(y8.getD 5 (0,0,[],(List.replicate 32 0),())).2.2.1;let v22:=([(0:Int)]:LI);F17 R v21 v22 fun y23=>
(match y23 with
|true=>let v24:=(y12.length:Int);let v25:=v24==1;(match v25 with
|true=>(match bnd 0 y12.length with
|true=>let v26:=(y12.getD 0 (0,(List.replicate 32 0),(List.replicate 32 0),(List.replicate 32 0),())).2.2.2.1;let v27:=Kd.eqv (.arr 32 (.int .u8)) v26 y7.2.2.2.1.2.1;(match v27 with
|true=>let v28:=(y7.2.2.2.2.2.1.length:Int);let v29:=v28==0;k v29
|false=>k false)
|false=>none)
|false=>k false)
|false=>k false)
|false=>none)
|false=>k false)
|false=>none)
|false=>k false)
|false=>k false)
|false=>k false)
def F23:FT23:=p23 F10 F17 F25 F32 F50 F51 F52
abbrev FT24:=(R:Type)→LI→(Bool→Option R)→Option R
def p24 (F9:FT9):FT24:=fun R a0 k=>
let v1:=(a0.length:Int);let v2:=decide (v1≤1500);(match v2 with
|true=>F9 R a0 fun y3=>
let v4:=(y3.length:Int);let v5:=decide (v4≤60);k v5
|false=>k false)
def F24:FT24:=p24 F9
abbrev FT7:=(R:Type)→LI→LI→LI→(Bool→Option R)→Option R
def p7 (F10:FT10) (F11:FT11) (F12:FT12) (F13:FT13) (F14:FT14) (F18:FT18) (F19:FT19) (F23:FT23) (F24:FT24):FT7:=fun R a0 a1 a2 k=>
F23 R  fun y1=>
(match (!y1) with
|true=>k false
|false=>F24 R a2 fun y2=>
(match (!y2) with
|true=>k true
|false=>F11 R a0 fun y3=>
F10 R y3 a1 a2 fun y4 y5 y6=>
F12 R y3 a1 a2 fun y7 y8 y9=>
F13 R y4 y7 fun y10=>
(match y10 with
|true=>F14 R y5 y8 fun y11=>
(match y11 with
|true=>let v12:=y6==y9;(match v12 with
|true=>F18 R y5 fun y13=>
F19 R y8 fun y14=>
let v15:=ByteArray.toList y13==ByteArray.toList y14;k v15
|false=>k false)
|false=>k false)
|false=>k false)))
def U32 (x:Int):Prop:=0≤x∧x<4294967296
def U8 (x:Int):Prop:=0≤x∧x<256
theorem Rw {x:Int} (h:U32 x):(BitVec.ofInt 32 x).toNat=x.toNat:=by
 rw [BitVec.toNat_ofInt];unfold U32 at h;have:x % ((2^32:Nat):Int)=x:=by omega
 rw [this]
theorem Nn (b:BitVec 32):IntKind.u32.wrap ((b.toNat:Nat):Int)=(b.toNat:Int):=by
 have:=b.isLt;exact Cj (by omega) (by omega)
theorem zcu (a b:Int):iand .u32 a b=((BitVec.ofInt 32 a&&& BitVec.ofInt 32 b).toNat:Int):=Nn _
theorem R8 (a b:Int):ior .u32 a b=((BitVec.ofInt 32 a||| BitVec.ofInt 32 b).toNat:Int):=Nn _
theorem R6 (a b:Int):ixor .u32 a b=((BitVec.ofInt 32 a^^^BitVec.ofInt 32 b).toNat:Int):=Nn _
theorem Jf (a:Int):U32 (IntKind.u32.wrap a):=by rw [Cy]; unfold U32; omega
theorem Hj (b:BitVec 32):BitVec.ofInt 32 ((b.toNat:Nat):Int)=b:=by
 rw [BitVec.ofInt_natCast,BitVec.ofNat_toNat,BitVec.setWidth_eq]
theorem zkw {a:Int} (b c:Int) (ha:U32 a):ixor .u32 (iand .u32 a b) (iand .u32 (ixor .u32 4294967295 a) c)=ior .u32 (iand .u32 a b) (iand .u32 (IntKind.u32.wrap (4294967295 - a)) c):=by
 have h1:IntKind.u32.wrap (4294967295 - a)=ixor .u32 4294967295 a:=by
  rw [R6,Cj (by unfold U32 at ha; omega) (by unfold U32 at ha; omega)];have e:BitVec.ofInt 32 4294967295=BitVec.allOnes 32:=by decide
  rw [e,BitVec.allOnes_xor,BitVec.toNat_not,Rw ha];unfold U32 at ha;omega
 rw [h1];simp only [zcu,R8,R6,Hj]
 congr 2
 have e:BitVec.ofInt 32 4294967295=BitVec.allOnes 32:=by decide
 rw [e]
 ext i hi
 simp only [BitVec.getElem_xor,BitVec.getElem_and,BitVec.getElem_or,BitVec.getElem_allOnes];cases (BitVec.ofInt 32 a)[i]<;>simp
theorem X0 (a b c:Int):ixor .u32 (ixor .u32 (iand .u32 a b) (iand .u32 a c)) (iand .u32 b c)=ior .u32 (ior .u32 (iand .u32 a b) (iand .u32 a c)) (iand .u32 b c):=by
 simp only [zcu,R8,R6,Hj]
 congr 2
 ext i hi
 simp;cases (BitVec.ofInt 32 a)[i]<;>cases (BitVec.ofInt 32 b)[i]<;>cases (BitVec.ofInt 32 c)[i]<;>rfl
def rotS (x:Int) (r:Nat):Int:=x/2^r+(x % 2^r)*2^(32 - r)
theorem T3 {x:Int} {r:Nat} (hx:U32 x) (hr:r<32):rotS x (r+1)=rotS x r/2+(rotS x r % 2)*2147483648:=by
 unfold rotS U32 at*;have e1:(2:Int)^(32 - r)=2*2^(31 - r):=by
  rw [show 32 - r=(31 - r)+1 by omega,Int.pow_succ]; omega
 have e2:(2:Int)^(32 - (r+1))=2^(31 - r):=by rw [show 32 - (r+1)=31 - r by omega]
 have e3:(2:Int)^(r+1)=2^r*2:=Int.pow_succ _ _;have e4:(2:Int)^r*2^(31 - r)=2147483648:=by
  rw [←Int.pow_add,show r+(31 - r)=31 by omega]; decide
 rw [e1,e2,e3];have hp:(0:Int)<2^r:=Int.pow_pos (by decide);generalize (2:Int)^r=p at*;generalize (2:Int)^(31 - r)=s at*;have d1:x/(p*2)=x/p/2:=(Int.ediv_ediv_of_nonneg (by omega)).symm;have d2:x % (p*2)=x % p+p*(x/p % 2):=by
  have a1:=Int.emod_add_mul_ediv x p;have a2:=Int.emod_add_mul_ediv x (p*2);have a3:=Int.emod_add_mul_ediv (x/p) 2;rw [d1] at a2;generalize x/p=q at*;generalize x % p=m at*;generalize q/2=h at*;generalize q % 2=t at*;have:p*(t+2*h)=p*q:=by rw [a3]
  rw [Int.mul_add,←Int.mul_assoc] at this;omega
 rw [d1,d2,Int.add_mul];have e5:p*(x/p % 2)*s=(x/p % 2)*2147483648:=by
  rw [Int.mul_comm p,Int.mul_assoc,e4]
 rw [e5];have e6:x % p*(2*s)=2*(x % p*s):=by rw [Int.mul_left_comm]
 rw [e6];generalize x % p*s=u;omega
theorem T2 (x:Int):rotS x 0=x:=by simp [rotS]
theorem zgv {x:Int} (hx:U32 x):∀{r:Nat},r≤32→U32 (rotS x r)
 | 0,_=>by rw [T2]; exact hx
 | r+1,h=>by
  have ih:=zgv hx (r:=r) (by omega);rw [T3 hx (by omega)];unfold U32 at*;omega
theorem two_pow_pos (r:Nat):(0:Int)<2^r:=Int.pow_pos (by decide)
theorem rot_or {x:Int} (hx:U32 x) {r:Nat} (h0:0<r) (hr:r<32):ior .u32 (ishr .u32 x r) (ishl .u32 x ((32:Int) - r))=rotS x r:=by
 unfold U32 at hx;obtain ⟨n,rfl⟩:∃n:Nat,x=n:=⟨x.toNat,by omega⟩
 have hn:n<2^32:=by omega
 have e1:ishr .u32 (n:Int) r=((n/2^r:Nat):Int):=by
  unfold ishr;rw [show IntKind.u32.bits=32 from rfl,show ((r:Int).toNat)=r by simp,Nat.min_eq_left (by omega),Int.fdiv_eq_ediv_of_nonneg _ (by have:=two_pow_pos r; omega)];simp
 have e2:ishl .u32 (n:Int) ((32:Int) - r)=((n*2^(32 - r) % 2^32:Nat):Int):=by
  unfold ishl;rw [show IntKind.u32.bits=32 from rfl,show ((32:Int) - r).toNat=32 - r by omega,Nat.min_eq_left (by omega),Cy];simp
 rw [e1,e2,R8,BitVec.ofInt_natCast,BitVec.ofInt_natCast,BitVec.toNat_or,BitVec.toNat_ofNat,BitVec.toNat_ofNat];have hd:n/2^r<2^(32 - r):=by
  rw [Nat.div_lt_iff_lt_mul (Nat.two_pow_pos r),←Nat.pow_add,show 32 - r+r=32 by omega]; exact hn
 have h3:n*2^(32 - r) % 2^32=(n % 2^r)*2^(32 - r):=by
  have:2^32=2^r*2^(32 - r):=by rw [←Nat.pow_add,show r+(32 - r)=32 by omega]
  rw [this,Nat.mul_mod_mul_right]
 have h4:n/2^r<2^32:=Nat.lt_of_le_of_lt (Nat.div_le_self _ _) hn;rw [h3,Nat.mod_eq_of_lt h4,Nat.mod_eq_of_lt (by
  have:n % 2^r<2^r:=Nat.mod_lt _ (Nat.two_pow_pos r);have h5:2^32=2^r*2^(32 - r):=by rw [←Nat.pow_add,show r+(32 - r)=32 by omega]
  rw [h5]; exact Nat.mul_lt_mul_of_pos_right this (Nat.two_pow_pos _)),Nat.or_comm]
 have h6:=Nat.shiftLeft_add_eq_or_of_lt hd (n % 2^r);rw [Nat.shiftLeft_eq] at h6;rw [←h6];unfold rotS;simp;omega
open Go.Proofs
abbrev bs (l:List UInt8):ByteArray:=⟨l.toArray⟩
theorem zk0 (a b:List UInt8):ByteArray.append (bs a) (bs b)=bs (a++b):=by
 refine ByteArray.ext ?_;rw [show ByteArray.append (bs a) (bs b)=bs a++bs b from rfl,ByteArray.data_append];simp
theorem Ej (a:List UInt8):ByteArray.size (bs a)=a.length:=by
 show a.toArray.size=_;simp
theorem bs_eq (a b:List UInt8):(ByteArray.toList (bs a)==ByteArray.toList (bs b))=decide (a=b):=by
 rw [ByteArray.toList_eq,ByteArray.toList_eq]
 by_cases h:a=b
 ·subst h; simp
 ·simp [h]
theorem zkz (a:List UInt8):(ByteArray.toList (bs a)==ByteArray.toList (bs a))=true:=by rw [bs_eq]; exact decide_eq_true rfl
theorem Ks {u:Nat} (h:u<18446744073709551616):Lib.nDigits u≤20:=by
 by_cases h1:1≤u
 ·have:=Lib.numDigits_eq u h1 h
  split at this<;>omega
 ·have:u=0:=by omega
  subst this;rw [Lib.nDigits_small (by omega)];omega
theorem zga {x:Int} (h0:0≤x) (h1:x<256):IntKind.u8.wrap x=x:=by rw [Cv]; omega
theorem zct {n:Int} (h:0≤n):Lib.itoa n=Lib.decDigits n.toNat:=by unfold Lib.itoa; rw [if_neg (by omega)]
theorem zuh {n:Int} (h:n<0):Lib.itoa n=45::Lib.decDigits (-n).toNat:=by
 unfold Lib.itoa;rw [if_pos h];have:n.natAbs=(-n).toNat:=by omega
 rw [this]
def Wd (n:Int):Prop:= -9223372036854775808≤n∧n<9223372036854775808
theorem zzh (R:Type) {n:Int} (h:Wd n) (k:ByteArray→Option R):F38 R n k=k (bs (Lib.itoa n)):=by
 unfold Wd at h;simp only [F38,zjl,decide_eq_true (show -9223372036854775808≤n∧n≤9223372036854775807 by omega)]
theorem F40_eq (R:Type) {n:Int} (h0:0≤n) (h1:n<18446744073709551616) (k:ByteArray→Option R):F40 R n 10 k=k (bs (Lib.decDigits n.toNat)):=by
 show zex R n 10 k=_;unfold zex;rw [decide_eq_true (show 0≤n∧n<18446744073709551616∧(10:Int)=10 from ⟨h0,h1,rfl⟩)]
theorem R7 {n:Int} (h:Wd n):(Lib.itoa n).length≤21:=by
 unfold Wd at h
 by_cases h0:n<0
 ·have hl:=Ks (show (-n).toNat<18446744073709551616 by omega)
  rw [zuh h0,List.length_cons,Lib.decDigits_length];omega
 ·have hl:=Ks (show n.toNat<18446744073709551616 by omega)
  rw [zct (by omega),Lib.decDigits_length];omega
theorem zb3 {M:Nat} (sep:List UInt8):∀{r:List (List UInt8)},(∀x∈r,x.length≤M)→(Lib.joinTail sep r).length≤r.length*(M+sep.length)
 | [],_=>by simp [Lib.joinTail]
 | x::r,h=>by
  have h1:=zb3 sep (r:=r) (fun y hy=>h y (by simp [hy]));have h2:=h x (by simp);have e:Lib.joinTail sep (x::r)=sep++x++Lib.joinTail sep r:=by simp [Lib.joinTail]
  rw [e,List.length_append,List.length_append,List.length_cons,Nat.succ_mul];omega
theorem zuf {M:Nat} (sep:List UInt8):∀{r:List (List UInt8)},(∀x∈r,x.length≤M)→(Lib.join r sep).length≤r.length*(M+sep.length)
 | [],_=>by rw [Lib.join_nil]; simp
 | x::r,h=>by
  have h1:=zb3 sep (r:=r) (fun y hy=>h y (by simp [hy]));have h2:=h x (by simp);rw [Lib.join_cons,List.length_append,List.length_cons,Nat.succ_mul];omega
theorem bs_list (l:List (List UInt8)):(l.map bs).map (·.data.toList)=l:=by
 rw [List.map_map];have:((fun s:ByteArray=>s.data.toList) ∘ bs)=id:=funext fun x=>by simp
 rw [this,List.map_id]
theorem zzg (R:Type) (l:List (List UInt8)) (sep:List UInt8) (h1:(Lib.join l sep).length≤100000000) (h2:l.length≤100000000) (k:ByteArray→Option R):F39 R (l.map bs) (bs sep) k=k (bs (Lib.join l sep)):=by
 have e:(bs sep).data.toList=sep:=by simp
 simp only [F39,zjj,bs_list,e,List.length_map,decide_eq_true (show (Lib.join l sep).length≤140737488355328∧l.length≤140737488355328 by omega)]
def memT (l:List Int):List UInt8:=match l with
 | []=>[45]
 | _::_=>Lib.join (l.map Lib.itoa) [44]
theorem zwy {i n:Nat} (h:i<n) (hn:n≤1000000):IntKind.i64.wrap ((i:Int)+1)=((i+1:Nat):Int):=by rw [wrap_i64 (by omega) (by omega)]; omega
theorem bndN {i n:Nat} (h:i<n):bnd (i:Int) (n:Int)=true:=by unfold bnd; simp; omega
theorem ltN {i n:Nat} (h:i<n):decide ((i:Int)<(n:Int))=true:=by simpa using h
theorem nltN (n:Nat):decide ((n:Int)<(n:Int))=false:=by simp
theorem zyb (R:Type) {l:List Int} (hw:∀x∈l,Wd x) (hl:l.length≤100000) (k0:List ByteArray→Option R):∀(f i:Nat),i≤l.length→l.length - i<f→
  Zz f R l (l.length:Int) (i:Int) ((l.take i).map fun x=>bs (Lib.itoa x)) k0=k0 (l.map fun x=>bs (Lib.itoa x))
 | 0,i,_,h=>by omega
 | f+1,i,h1,h2=>by
  simp only [Zz,p41_5]
  by_cases hi:i<l.length
  ·have e0:l.getD i 0=l[i]:=by simp [hi]
   have hx:=hw _ (List.getElem_mem hi);have ih:=zyb R hw hl k0 f (i+1) (by omega) (by omega);have c1:decide (((l.take i).map fun x=>bs (Lib.itoa x)).length+[bs (Lib.itoa l[i])].length≤8796093022208)=true:=by
    rw [List.length_map,List.length_take];exact decide_eq_true (by show _+1≤_; omega)
   simp only [ltN hi,bndN hi,Int.toNat_natCast,e0,zzh R hx,c1,zwy hi (show l.length≤1000000 by omega)];rw [List.take_succ_eq_append_getElem hi,List.map_append] at ih;exact ih
  ·have:i=l.length:=by omega
   subst this;simp only [nltN,List.take_length]
theorem zin {l:List Int} (hw:∀x∈l,Wd x):(Lib.join (l.map Lib.itoa) [44]).length≤l.length*22:=by
 have:=zuf (M:=21) [44] (r:=l.map Lib.itoa) (fun x hx=>by
  obtain ⟨y,hy,rfl⟩:=List.mem_map.1 hx;exact R7 (hw y hy))
 rw [List.length_map] at this;exact this
theorem F41_eq (R:Type) {l:List Int} (hw:∀x∈l,Wd x) (hl:l.length≤100000) (k:ByteArray→Option R):F41 R l k=k (bs (memT l)):=by
 simp only [F41,p41];cases l with
 | nil=>rfl
 | cons x r=>
  have e:(((x::r).length:Int)==(0:Int))=false:=by
   rw [beq_eq_false_iff_ne];simp only [List.length_cons];omega
  have h1:=zyb R hw hl (fun x4=>F39 R x4 (⟨#[44]⟩:ByteArray) fun y5=>k y5) FUEL 0 (by omega) (by rw [Al]; omega);simp only [e];refine h1.trans ?_;have h2:=zin hw;have h3:=zzg R ((x::r).map Lib.itoa) [44] (by omega) (by rw [List.length_map]; omega) k;rw [List.map_map] at h3;exact h3
abbrev AnT:=Int×(Int×(List Int×(List Int×Unit)))
def ansT (a:AnT):List UInt8:=if a.1=0 then Lib.join [[111,107],Lib.decDigits a.2.1.toNat,memT a.2.2.1,hexT a.2.2.2.1] [32] else [101,114,114,32]++Lib.itoa a.1
structure AnW (a:AnT):Prop where
 err:Wd a.1
 n:0≤a.2.1∧a.2.1<18446744073709551616
 who:∀x∈a.2.2.1,Wd x
 wlen:a.2.2.1.length≤2000
 hlen:a.2.2.2.1.length=32
 hash:∀x∈a.2.2.2.1,0≤x∧x<256
theorem F42_eq (R:Type) {h:List Int} (hl:h.length=32) (hu:∀x∈h,0≤x∧x<256) (k:ByteArray→Option R):F42 R h k=k (bs (hexT h)):=by
 have e:(decide (h.length=32)&&h.all fun x=>decide (0≤x∧x<256))=true:=by
  rw [decide_eq_true hl,Bool.true_and,List.all_eq_true];exact fun x hx=>decide_eq_true (hu x hx)
 simp only [F42,zgg,e]
theorem zs5 {l:List Int} (hw:∀x∈l,Wd x):(memT l).length≤l.length*22+1:=by
 cases l with
 | nil=>decide
 | cons x r=>
  have:=zin hw;show (Lib.join (List.map Lib.itoa (x::r)) [44]).length≤_;omega
theorem zdd {a:AnT} (h:AnW a):(ansT a).length≤50000:=by
 have h1:=Ks (show a.2.1.toNat<18446744073709551616 by have:=h.n; omega);have h2:=zs5 h.who;have h3:=h.wlen;have h4:=R7 h.err;unfold ansT;split
 ·rw [Lib.join_cons]
  simp only [Lib.joinTail,List.map_cons,List.map_nil,List.flatten_cons,List.flatten_nil,List.length_append,List.length_cons,List.length_nil,Lib.decDigits_length,Nh,h.hlen];omega
 ·simp only [List.length_append,List.length_cons,List.length_nil]
  omega
theorem Tf (R:Type) {a:AnT} (h:AnW a) (k:ByteArray→Option R):F16 R a k=k (bs (ansT a)):=by
 have h1:=zdd h;have h4:=R7 h.err;simp only [F16,p16];unfold ansT at h1 ⊢
 by_cases h0:a.1=0
 ·have e:(a.1 !=(0:Int))=false:=by rw [h0]; rfl
  rw [if_pos h0] at h1 ⊢;have h5:=zzg R [[111,107],Lib.decDigits a.2.1.toNat,memT a.2.2.1,hexT a.2.2.2.1] [32] (by omega) (by show 4≤_; omega) k;simp only [e,F40_eq R h.n.1 h.n.2,F41_eq R h.who (show a.2.2.1.length≤100000 by have:=h.wlen; omega),F42_eq R h.hlen h.hash];exact h5
 ·have e:(a.1 !=(0:Int))=true:=by simp [h0]
  have c1:decide (ByteArray.size (bs [101,114,114,32])+ByteArray.size (bs (Lib.itoa a.1))≤9223372036854775807)=true:=by
   rw [Ej,Ej];exact decide_eq_true (by show 4+_≤_; omega)
  rw [if_neg h0];simp only [e,zzh R h.err,c1,zk0]
open Go.Proofs
theorem zj2 {a:Int} (h0:0≤a) (h1:a<16):ByteArray.extract (⟨#[48,49,50,51,52,53,54,55,56,57,97,98,99,100,101,102]⟩:ByteArray) (Int.toNat a) (Int.toNat (a+1))=bs [hexD a.toNat]:=by
 obtain ⟨n,rfl⟩:∃n:Nat,a=n:=⟨a.toNat,by omega⟩
 have e1:Int.toNat (n:Int)=n:=by omega
 have e2:Int.toNat ((n:Int)+1)=n+1:=by omega
 rw [e1,e2];have hn:n<16:=by omega
 match n,hn with
 | 0,_=>rfl
 | 1,_=>rfl
 | 2,_=>rfl
 | 3,_=>rfl
 | 4,_=>rfl
 | 5,_=>rfl
 | 6,_=>rfl
 | 7,_=>rfl
 | 8,_=>rfl
 | 9,_=>rfl
 | 10,_=>rfl
 | 11,_=>rfl
 | 12,_=>rfl
 | 13,_=>rfl
 | 14,_=>rfl
 | 15,_=>rfl
 | q+16,h=>exact absurd h (by omega)
theorem zyk (R:Type) {h:List Int} (hl:h.length=32) (hu:∀x∈h,0≤x∧x<256) (k0:ByteArray→Option R):∀(f i:Nat) (s:List UInt8),i≤32→32 - i<f→s.length+2*(32 - i)≤1000→Z4 f R (bs s) (i:Int) h k0=k0 (bs (s++hexT (h.drop i)))
 | 0,i,s,_,h2,_=>by omega
 | f+1,i,s,h1,h2,h3=>by
  simp only [Z4,p26_3]
  by_cases hi:i<32
  ·have hil:i<h.length:=by omega
   have e0:h.getD i 0=h[i]:=by simp [hil]
   have hx:=hu _ (List.getElem_mem hil);have ih:=zyk R hl hu k0 f (i+1) (s++[hexD (h[i].toNat/16)]++[hexD (h[i].toNat % 16)]) (by omega) (by omega) (by simp; omega);have t1:decide ((i:Int)<32)=true:=decide_eq_true (by omega);have t2:bnd (i:Int) 32=true:=bndN (n:=32) hi;have e1:IntKind.u8.wrap (Int.tdiv h[i] 16)=h[i]/16:=by rw [Int.tdiv_eq_ediv_of_nonneg hx.1,zga (by omega) (by omega)]
   have e2:Int.tmod h[i] 16=h[i] % 16:=Int.tmod_eq_emod_of_nonneg hx.1;have e3:IntKind.u8.wrap (h[i]/16+1)=h[i]/16+1:=zga (by omega) (by omega);have e4:IntKind.u8.wrap (h[i] % 16+1)=h[i] % 16+1:=zga (by omega) (by omega);have hs:(ByteArray.size (⟨#[48,49,50,51,52,53,54,55,56,57,97,98,99,100,101,102]⟩:ByteArray):Int)=16:=rfl;have c1:decide (0≤h[i]/16∧h[i]/16≤h[i]/16+1∧h[i]/16+1≤16)=true:=decide_eq_true (by omega);have c2:decide (0≤h[i] % 16∧h[i] % 16≤h[i] % 16+1∧h[i] % 16+1≤16)=true:=decide_eq_true (by omega);have x1:=zj2 (a:=h[i]/16) (by omega) (by omega)
   have x2:=zj2 (a:=h[i] % 16) (by omega) (by omega);have n1:(h[i]/16).toNat=h[i].toNat/16:=by omega
   have n2:(h[i] % 16).toNat=h[i].toNat % 16:=by omega
   rw [n1] at x1;rw [n2] at x2;rw [←n1] at x1;rw [←n2] at x2;have c3:decide (ByteArray.size (bs s)+ByteArray.size (bs [hexD (h[i]/16).toNat])≤9223372036854775807)=true:=by
    rw [Ej,Ej];exact decide_eq_true (by show _+1≤_; omega)
   have c4:decide (ByteArray.size (bs (s++[hexD (h[i]/16).toNat]))+ByteArray.size (bs [hexD (h[i] % 16).toNat])≤9223372036854775807)=true:=by
    rw [Ej,Ej,List.length_append];exact decide_eq_true (by show _+1+1≤_; omega)
   simp only [t1,t2,Int.toNat_natCast,e0,e1,e2,e3,e4,hs,c1,c2,x1,x2,c3,zk0,c4,zwy hi (show 32≤1000000 by omega)];rw [n1,n2];refine ih.trans ?_;have e:hexT (h.drop i)=hexD (h[i].toNat/16)::hexD (h[i].toNat % 16)::hexT (h.drop (i+1)):=by rw [List.drop_eq_getElem_cons hil]; rfl
   rw [e];simp
  ·have:i=32:=by omega
   subst this;have t1:decide (((32:Nat):Int)<32)=false:=by decide
   have e:h.drop 32=[]:=List.drop_eq_nil_of_le (by omega);simp only [t1,e,hexT,List.append_nil]
theorem zwu (R:Type) {h:List Int} (hl:h.length=32) (hu:∀x∈h,0≤x∧x<256) (k:ByteArray→Option R):F26 R h k=k (bs (hexT h)):=by
 have:=zyk R hl hu k FUEL 0 [] (by omega) (by rw [Al]; omega) (by simp);rw [List.nil_append,List.drop_zero] at this;exact this
def zfb (l:List AnT):List UInt8:=texJ (l.map fun a=>bs (ansT a))
theorem Qn (l:List AnT) (a:AnT):zfb (l++[a])=zfb l++ansT a++[10]:=by
 unfold zfb;rw [List.map_append,E3,List.append_assoc];simp [texJ]
theorem Tk (R:Type) (k:ByteArray→Option R):∀(l:List AnT) (n:Nat) (ts:List ByteArray),(∀a∈l,AnW a)→n+l.length*50001≤140737488355328→Ik F16 R l n ts k=k (bs (texJ (ts++l.map fun a=>bs (ansT a))))
 | [],n,ts,_,_=>by simp only [Ik,List.map_nil,List.append_nil]
 | a::l,n,ts,h,hn=>by
  have hx:=h a (by simp);have hxl:=zdd hx;rw [List.length_cons,Nat.succ_mul] at hn;have ih:=Tk R k l (n+ByteArray.size (bs (ansT a))+1) (ts++[bs (ansT a)]) (fun b hb=>h b (by simp [hb])) (by rw [Ej]; omega);have c1:decide (n+ByteArray.size (bs (ansT a))+1≤140737488355328)=true:=by
   rw [Ej];exact decide_eq_true (by omega)
  simp only [Ik,Tf R hx,c1];rw [ih,List.append_assoc];rfl
theorem zwv (R:Type) {l:List AnT} (h:∀a∈l,AnW a) (hl:l.length≤100000) (k:ByteArray→Option R):F18 R l k=k (bs (zfb l)):=
 Tk R k l 0 [] h (by omega)
open Go.Proofs
theorem ok_text (a:AnT) (h:a.1=0):ansT a=[111,107]++32::(Lib.decDigits a.2.1.toNat++32::(memT a.2.2.1++32::hexT a.2.2.2.1)):=by
 unfold ansT;rw [if_pos h,Lib.join_cons];simp [Lib.joinTail]
theorem zuv (a:AnT) (h:a.1≠0):ansT a=[101,114,114,32]++Lib.itoa a.1:=by
 unfold ansT;rw [if_neg h]
end Go.PG
end
