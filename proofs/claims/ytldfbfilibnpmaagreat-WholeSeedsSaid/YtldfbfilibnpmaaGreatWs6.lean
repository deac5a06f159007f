/- A part of the proof over this seat (own work; the framework that reads a Go function as a pure one, or a use of it). No condition of its own. -/
import Derived.Test.YtldfbfilibnpmaaGreatWs5
import Derived.Test.YtldfbfilibnpmaaGreatProg
import Derived.KernelRfl
set_option linter.unusedVariables false
set_option linter.unusedSimpArgs false
set_option linter.unusedSectionVars false
noncomputable section
set_option maxRecDepth 100000
namespace Go.PG
open Go.Proofs
abbrev zm5:=(R:Type)→(List Tq9)→Int→LI→((List Tq9)→Int→Option R)→Option R
def en118 (F:zm5):Ent:=eV 118 [(.sl Kq9),(.int .i64),(.arr 32 (.int .u8))] [(.sl Kq9),(.int .i64)] F
def p118 (F161:Qm) (F162:Xe) (F164:zbm) (F166:zbk):zm5:=fun R a0 a1 a2 k=>
F161 R a0 fun y1=>
(match (!y1) with
|true=>k ([]:(List Tq9)) (1:Int)
|false=>F162 R a0 a1 fun y2 y3=>
(match (!y3) with
|true=>k ([]:(List Tq9)) (5:Int)
|false=>(match bnd y2 a0.length with
|true=>let v4:=(a0.getD y2.toNat (0,(List.replicate 32 0),false,(List.replicate 32 0),())).2.2.1;(match v4 with
|true=>k ([]:(List Tq9)) (6:Int)
|false=>F166 R a2 fun y5=>
(match bnd y2 a0.length with
|true=>let v6:=(a0.getD y2.toNat (0,(List.replicate 32 0),false,(List.replicate 32 0),())).2.1;let v7:= !(Kd.eqv (.arr 32 (.int .u8)) y5 v6);(match v7 with
|true=>k ([]:(List Tq9)) (13:Int)
|false=>F164 R a0 fun y8=>
(match bnd y2 y8.length with
|true=>let v9:=y8.set y2.toNat ((y8.getD y2.toNat (0,(List.replicate 32 0),false,(List.replicate 32 0),())).1,(y8.getD y2.toNat (0,(List.replicate 32 0),false,(List.replicate 32 0),())).2.1,true,(y8.getD y2.toNat (0,(List.replicate 32 0),false,(List.replicate 32 0),())).2.2.2);(match bnd y2 v9.length with
|true=>let v10:=v9.set y2.toNat ((v9.getD y2.toNat (0,(List.replicate 32 0),false,(List.replicate 32 0),())).1,(v9.getD y2.toNat (0,(List.replicate 32 0),false,(List.replicate 32 0),())).2.1,(v9.getD y2.toNat (0,(List.replicate 32 0),false,(List.replicate 32 0),())).2.2.1,a2,(v9.getD y2.toNat (0,(List.replicate 32 0),false,(List.replicate 32 0),())).2.2.2.2);k v10 (0:Int)
|false=>none)
|false=>none))
|false=>none))
|false=>none)))
theorem q118 (F161:Qm) (F162:Xe) (F164:zbm) (F166:zbk):EQ (en118 (p118 F161 F162 F164 F166)) (sE 0 50 [] [zkd F161,zte F162,en164 F164,ztc F166] []) Tryz.f118 [(.tmp 6,32,false),(.tmp 7,38,false)]:=fun _ _ _=>by kernel_rfl
def F118:zm5:=p118 F161 F162 F164 F166
theorem ok118:OKP (en118 F118):=ST.ok0 (q118 F161 F162 F164 F166) (Aa zyt (Aa ok162 (Aa ok164 (Aa ok166 Ab)))) Tryz.func118
abbrev FT75:=(R:Type)→Tq24→Int→Int→LI→(Tq24→Int→Option R)→Option R
def en75 (F:FT75):Ent:=eV 75 [Kq24,(.int .i64),(.int .i64),(.arr 32 (.int .u8))] [Kq24,(.int .i64)] F
def p75 (F115:zbw) (F117:zbv) (F118:zm5):FT75:=fun R a0 a1 a2 a3 k=>
F115 R a0 a1 (2:Int) fun y1=>
let v2:=y1 !=0;(match v2 with
|true=>k ((0:Int),(List.replicate 32 (0:Int)),(List.replicate 32 (0:Int)),([]:(List Tq9)),()) y1
|false=>F118 R a0.2.2.2.1 a2 a3 fun y3 y4=>
F117 R a0 y3 y4 fun y5 y6=>
k y5 y6)
theorem q75 (F115:zbw) (F117:zbv) (F118:zm5):EQ (en75 (p75 F115 F117 F118)) (sE 0 34 [] [ztp F115,zto F117,en118 F118] []) Tryz.f75 [(.cell 8 34,34,false),(.tmp 9,38,false)]:=fun _ _ _=>by kernel_rfl
def F75:FT75:=p75 F115 F117 F118
theorem ok75:OKP (en75 F75):=ST.ok0 (q75 F115 F117 F118) (Aa ok115 (Aa ok117 (Aa ok118 Ab))) Tryz.func75
abbrev J2:Type 1:=(R:Type)→Tq31→Tq6→(Int→Tq31→Option R)→Option R
def H3 (F:J2):EntF:=⟨72,75,[(true,Kq31),(false,Kq6)],[(false,(.int .i64))],fun R x k=>F R x.1 x.2.1 (fun y1 p1=>k (y1,()) (p1,()))⟩
def zcp:List (ResultVar×TypeId×Bool):=[(.tmp 6,38,false)]
def zki (F75:FT75) (F113:Qe) (F114:Tw) (R:Type):Env R:=⟨TT,EQT,1,45,Bk [],Bb [en75 F75,zkh F113,ztq F114] R,Bj [] R,[],Ba [],[],fun _ _ _ _=>none⟩
def zhd (F75:FT75) (F113:Qe) (F114:Tw):J2:=fun R a0 a1 k=>
F113 R a0 a1.2.1 fun y1 p2=>
let v3:=y1 !=0;(match v3 with
|true=>k y1 p2
|false=>F114 R p2.1.1 p2.1.2.1 fun y4=>
F75 R p2.1.2.2.2.1 y4 a1.2.1 a1.2.2.2.1 fun y5 y6=>
k y6 ((p2.1.1,p2.1.2.1,p2.1.2.2.1,y5,p2.1.2.2.2.2),p2.2))
theorem q73075 (F75:FT75) (F113:Qe) (F114:Tw) (F:J2) (R:Type) (x:AT (H3 F).ins) (k:RT (H3 F).outs→PT (H3 F).ins→Option R):
 xfun (zki F75 F113 F114 R) (Ag Tryz.f72) zcp (avs (H3 F).ins x++[AV.fn 75]) (finK (H3 F).outs (H3 F).ins k)=zhd F75 F113 F114 R x.1 x.2.1 (fun y1 p1=>k (y1,()) (p1,())):=by kernel_rfl
def Gv:J2:=zhd F75 F113 F114
theorem zsr (R:Type):Ax Tryz.prog (zki F75 F113 F114 R):=⟨tabOK,eqOK,Aq (Aa ok75 (Aa zyz (Aa ok114 Ab))),Bu,Ak,noYl⟩
theorem zyh:(H3 Gv).OK Tryz.prog:=
 Jm (Ef:=fun R=>zki F75 F113 F114 R) (fun R=>zsr R) mixed Tryz.func72 (body:=Ag Tryz.f72) (by kernel_rfl) (by kernel_rfl) (np:=1) (nt:=45) (fun _=>rfl) (fun _=>rfl) (by kernel_rfl) (res:=zcp) (by kernel_rfl) (fun _=>rfl) (fun _=>Nat.le_of_ble_eq_true rfl) (by
  intro R;rw [show Al (Ag Tryz.f72)=[] from by kernel_rfl];exact Bv) (fun R x k=>q73075 F75 F113 F114 Gv R x k)
abbrev FT74:=(R:Type)→Tq31→Tq6→(Int→Tq31→Option R)→Option R
def en74 (F:FT74):Ent:=eM 74 [(true,Kq31),(false,Kq6)] [(false,(.int .i64))] F
def e74 (Gv:J2) (R:Type):Env R:=⟨TT,EQT,1,8,Bk [],E0 [H3 Gv] [] R,Bj [] R,[],Ba [],[],fun _ _ _ _=>none⟩
def p74 (Gv:J2):FT74:=fun R a0 a1 k=>
Gv R a0 a1 fun y1 p2=>
k y1 p2
theorem q74 (Gv:J2):EQ (en74 (p74 Gv)) (e74 Gv) Tryz.f74 [(.tmp 4,38,false)]:=fun _ _ _=>by kernel_rfl
def F74:FT74:=p74 Gv
theorem env74 (R:Type):Ax Tryz.prog (e74 Gv R):=⟨tabOK,eqOK,Cw (Fz zyh E7) Ab,Bu,Ak,noYl⟩
theorem ok74:OKP (en74 F74):=ST.ok3 (q74 Gv) env74 Tryz.func74 (fun _=>rfl) (fun _=>rfl) (fun _=>rfl) [] trivial
abbrev zm4:=(R:Type)→Tq21→Int→(Int→Bool→Option R)→Option R
def en119 (F:zm4):Ent:=eV 119 [Kq21,(.int .i64)] [(.int .i64),.bool] F
def p119 (F159:zbo):zm4:=fun R a0 a1 k=>
F159 R a0 a1 fun y1=>
(match (!y1) with
|true=>k (0:Int) false
|false=>let v2:=IntKind.i64.wrap (a1+1);(match (!(a0.1==0)) with
|true=>let v3:=Int.tmod v2 a0.1;let v4:=v3==0;k v3 v4
|false=>none))
theorem q119 (F159:zbo):EQ (en119 (p119 F159)) (sE 0 19 [] [ztg F159] []) Tryz.f119 [(.tmp 4,3,false),(.tmp 5,4,false)]:=fun _ _ _=>by kernel_rfl
def F119:zm4:=p119 F159
theorem ok119:OKP (en119 F119):=ST.ok0 (q119 F159) (Aa ok159 Ab) Tryz.func119
abbrev FT55:=(R:Type)→LI→Int→LI→(LI→Option R)→Option R
def en55 (F:FT55):Ent:=eV 55 [(.arr 32 (.int .u8)),(.int .u64),(.arr 32 (.int .u8))] [(.arr 32 (.int .u8))] F
def p55 (F92:FT92) (F93:FT93):FT55:=fun R a0 a1 a2 k=>
F92 R a1 fun y1=>
let v2:=([(List.take 32 (List.drop 0 a0)),(List.take 8 (List.drop 0 y1)),(List.take 32 (List.drop 0 a2))]:(List LI));F93 R v2 fun y3=>
k y3
theorem q55 (F92:FT92) (F93:FT93):EQ (en55 (p55 F92 F93)) (sE 0 15 [] [en92 F92,en93 F93] []) Tryz.f55 [(.cell 6 24,24,false)]:=fun _ _ _=>by kernel_rfl
def F55:FT55:=p55 F92 F93
theorem ok55:OKP (en55 F55):=ST.ok0 (q55 F92 F93) (Aa ok92 (Aa ok93 Ab)) Tryz.func55
abbrev zmo:=(R:Type)→(List Tq9)→(LI→Option R)→Option R
def en205 (F:zmo):Ent:=eV 205 [(.sl Kq9)] [(.sl (.int .i64))] F
abbrev zow (Z:Type):=(List Tq9)→Int→Int→LI→Z
abbrev zwf (R:Type):=(LI→Option R)→Option R
abbrev Mc:=(R:Type)→zow (zwf R)
def Y1 (L:Mc):LEnt:=lM 2 [.fix 2 (.own 0 0),.val 5 (.sl Kq9),.val 6 (.int .i64),.val 7 (.int .i64),.row 0 (.int .i64) false] 1 [(.exit 0,[.fix 2 (.own 0 0),.row 0 (.int .i64) false])] L
def e205 (L2:Mc):=sE 0 21 [(0,0)] [] [Y1 L2]
def zhp (R:Type):zow (zow (Option R)→zwf R):=fun x1 x2 x3 x4 kc k0=>
let v5:=decide (x3<x2);(match v5 with
|true=>(match bnd x3 x1.length with
|true=>let v6:=x1.getD x3.toNat (0,(List.replicate 32 0),false,(List.replicate 32 0),());let v7:= !v6.2.2.1;(match v7 with
|true=>let v8:=([v6.1]:LI);(match (decide (x4.length+v8.length≤17592186044416)) with
|true=>let v9:=x4++v8;let v10:=IntKind.i64.wrap (x3+1);kc x1 x2 v10 v9
|false=>none)
|false=>let v11:=IntKind.i64.wrap (x3+1);kc x1 x2 v11 x4)
|false=>none)
|false=>k0 x4)
theorem q205_2 (L2:Mc):LEQ (Y1 L2) (e205 L2) Tryz.f205 zhp:=fun _ _ _ _=>by kernel_rfl
def P1:Nat→Mc
 | 0=>fun _ _ _ _ _ _=>none
 | n+1=>fun R x1 x2 x3 x4 k0=>zhp R x1 x2 x3 x4 (fun x1 x2 x3 x4=>P1 n R x1 x2 x3 x4 k0) k0
def p205 (L2:Mc):zmo:=fun R a0 k=>
let v1:=(a0.length:Int);L2 R a0 v1 (0:Int) ([]:LI) (fun x2=>
k x2)
theorem q205 (L2:Mc):EQ (en205 (p205 L2)) (e205 L2) Tryz.f205 [(.tmp 2,35,false)]:=fun _ _ _=>by kernel_rfl
def F205:zmo:=p205 (P1 FUEL)
theorem zri:LKP (Y1 (P1 FUEL)) 0 21 2 Tryz.f205:=ST.lok (q205_2 (P1 FUEL)) Ab [] trivial
theorem ok205:OKP (en205 F205):=ST.ok1 (q205 (P1 FUEL)) Ab Tryz.func205 [2] ⟨⟨_,rfl,zri⟩,trivial⟩
abbrev zmx:=(R:Type)→Tq24→(Tq24→Tq37→LI→Int→Option R)→Option R
def en167 (F:zmx):Ent:=eV 167 [Kq24] [Kq24,Kq37,(.sl (.int .i64)),(.int .i64)] F
def p167 (F55:FT55) (F160:zbn) (F205:zmo):zmx:=fun R a0 k=>
F160 R a0 fun y1=>
(match (!y1) with
|true=>k ((0:Int),(List.replicate 32 (0:Int)),(List.replicate 32 (0:Int)),([]:(List Tq9)),()) ((0:Int),(List.replicate 32 (0:Int)),(List.replicate 32 (0:Int)),(List.replicate 32 (0:Int)),()) ([]:LI) (1:Int)
|false=>let v2:=a0.1==18446744073709551615;(match v2 with
|true=>k ((0:Int),(List.replicate 32 (0:Int)),(List.replicate 32 (0:Int)),([]:(List Tq9)),()) ((0:Int),(List.replicate 32 (0:Int)),(List.replicate 32 (0:Int)),(List.replicate 32 (0:Int)),()) ([]:LI) (3:Int)
|false=>F55 R a0.2.1 a0.1 a0.2.2.1 fun y3=>
let v4:=IntKind.u64.wrap (a0.1+1);F205 R a0.2.2.2.1 fun y5=>
k (v4,y3,(List.replicate 32 (0:Int)),([]:(List Tq9)),()) (a0.1,a0.2.1,a0.2.2.1,y3,()) y5 (0:Int)))
theorem q167 (F55:FT55) (F160:zbn) (F205:zmo):EQ (en167 (p167 F55 F160 F205)) (sE 0 43 [] [en55 F55,ztf F160,en205 F205] []) Tryz.f167 [(.cell 2 34,34,false),(.cell 3 75,75,false),(.tmp 4,35,false),(.tmp 5,38,false)]:=fun _ _ _=>by kernel_rfl
def F167:zmx:=p167 F55 F160 F205
theorem ok167:OKP (en167 F167):=ST.ok0 (q167 F55 F160 F205) (Aa ok55 (Aa ok160 (Aa ok205 Ab))) Tryz.func167
abbrev zmw:=(R:Type)→(List Tq11)→((List Tq11)→Option R)→Option R
def en168 (F:zmw):Ent:=eV 168 [(.sl Kq11)] [(.sl Kq11)] F
abbrev zo6 (Z:Type):=Int→Int→(List Tq11)→Z
abbrev zwp (R:Type):=((List Tq11)→Option R)→Option R
abbrev Mi:=(R:Type)→zo6 (zwp R)
def Zb (L:Mi):LEnt:=lM 3 [.fix 3 (.own 0 0),.val 8 (.int .i64),.val 9 (.int .i64),.row 0 Kq11 false] 1 [(.exit 0,[.fix 3 (.own 0 0),.row 0 Kq11 false])] L
def e168 (F198:Xa) (L3:Mi):=sE 0 23 [] [en198 F198] [Zb L3]
def zhy (R:Type):zo6 (zo6 (Option R)→zwp R):=fun x1 x2 x3 kc k0=>
let v4:=decide (x2<x1);(match v4 with
|true=>(match bnd x2 x3.length with
|true=>let v5:=(x3.getD x2.toNat ((List.replicate 32 0),0,0,())).2.2.1;(match bnd x2 x3.length with
|true=>let v6:=x3.set x2.toNat ((x3.getD x2.toNat ((List.replicate 32 0),0,0,())).1,v5,(x3.getD x2.toNat ((List.replicate 32 0),0,0,())).2.2);let v7:=IntKind.i64.wrap (x2+1);kc x1 v7 v6
|false=>none)
|false=>none)
|false=>k0 x3)
theorem q168_3 (F198:Xa) (L3:Mi):LEQ (Zb L3) (e168 F198 L3) Tryz.f168 zhy:=fun _ _ _ _=>by kernel_rfl
def P6:Nat→Mi
 | 0=>fun _ _ _ _ _=>none
 | n+1=>fun R x1 x2 x3 k0=>zhy R x1 x2 x3 (fun x1 x2 x3=>P6 n R x1 x2 x3 k0) k0
def p168 (F198:Xa) (L3:Mi):zmw:=fun R a0 k=>
F198 R a0 fun y1=>
let v2:=(y1.length:Int);L3 R v2 (0:Int) y1 (fun x3=>
k x3)
theorem q168 (F198:Xa) (L3:Mi):EQ (en168 (p168 F198 L3)) (e168 F198 L3) Tryz.f168 [(.tmp 2,30,false)]:=fun _ _ _=>by kernel_rfl
def F168:zmw:=p168 F198 (P6 FUEL)
theorem zrs:LKP (Zb (P6 FUEL)) 0 23 3 Tryz.f168:=ST.lok (q168_3 F198 (P6 FUEL)) (Aa zyp Ab) [] trivial
theorem ok168:OKP (en168 F168):=ST.ok1 (q168 F198 (P6 FUEL)) (Aa zyp Ab) Tryz.func168 [3] ⟨⟨_,rfl,zrs⟩,trivial⟩
abbrev zub:Type 1:=(R:Type)→LI→(LI→Option R)→Option R
def en169 (F:zub):Ent:=⟨169,[(false,(.sl (.int .i64)))],[(true,(.int .i64))],fun R x k=>F R x.1 (fun y1=>k (y1,()) ())⟩
def e169:Env (RT [(true,(.int .i64))]):=⟨TT,EQT,0,8,Bk [(2,0),(3,0)],fun _ _ _=>none,fun _ _ _=>none,[],Ba [],[],fun _ _ _ _=>none⟩
def F169:zub:=fun R a0 k=>match decide (List.length ([]:LI)+a0.length≤17592186044416) with | true=>k a0 | false=>none
theorem ok169:(en169 F169).OK Tryz.prog:=
 Iy (e:=(.int .i64)) e169 ⟨tabOK,eqOK,(fun f b K r h=>by cases h),Bu,Ak,noYl⟩ mixed Tryz.func169 (body:=Ag Tryz.f169) (by kernel_rfl) (by kernel_rfl) (by kernel_rfl) (res:=[(.tmp 2,35,true)]) (by kernel_rfl) rfl (by decide) (by kernel_rfl) (lim:=17592186044416) (by kernel_rfl) (fun l=>by kernel_rfl)
abbrev FT62:=(R:Type)→Tq3→Int→(Bool→Option R)→Option R
def en62 (F:FT62):Ent:=eV 62 [Kq3,(.int .i64)] [.bool] F
def p62:FT62:=fun R a0 a1 k=>
let v1:=decide (a1≥0);(match v1 with
|true=>let v2:=decide (a1<1024);(match v2 with
|true=>let v3:=decide (a0.2.1>0);(match v3 with
|true=>let v4:=decide (a0.2.1≤64);k v4
|false=>k false)
|false=>k false)
|false=>k false)
theorem q62:EQ (en62 p62) (sE 0 21 [] [] []) Tryz.f62 [(.tmp 4,4,false)]:=fun _ _ _=>by kernel_rfl
def F62:FT62:=p62
theorem ok62:OKP (en62 F62):=ST.ok0 q62 Ab Tryz.func62
abbrev K6:Type 1:=(R:Type)→LI→(LI→Option R)→Option R
def ztm (F:K6):Ent:=⟨137,[(false,(.sl (.int .u64)))],[(true,(.int .u64))],fun R x k=>F R x.1 (fun y1=>k (y1,()) ())⟩
def e137:Env (RT [(true,(.int .u64))]):=⟨TT,EQT,0,8,Bk [(2,0),(3,0)],fun _ _ _=>none,fun _ _ _=>none,[],Ba [],[],fun _ _ _ _=>none⟩
def F137:K6:=fun R a0 k=>match decide (List.length ([]:LI)+a0.length≤17592186044416) with | true=>k a0 | false=>none
theorem zet:(ztm F137).OK Tryz.prog:=
 Iy (e:=(.int .u64)) e137 ⟨tabOK,eqOK,(fun f b K r h=>by cases h),Bu,Ak,noYl⟩ mixed Tryz.func137 (body:=Ag Tryz.f137) (by kernel_rfl) (by kernel_rfl) (by kernel_rfl) (res:=[(.tmp 2,54,true)]) (by kernel_rfl) rfl (by decide) (by kernel_rfl) (lim:=17592186044416) (by kernel_rfl) (fun l=>by kernel_rfl)
abbrev Hi:=(R:Type)→Int→(Int→Option R)→Option R
def zff (F:Hi):Ent:=eV 138 [(.int .i64)] [(.int .i64)] F
def p138:Hi:=fun R a0 k=>
let v1:=IntKind.i64.wrap (0 - a0);let v2:=iand .i64 a0 v1;k v2
theorem q138:EQ (zff p138) (sE 0 7 [] [] []) Tryz.f138 [(.tmp 2,3,false)]:=fun _ _ _=>by kernel_rfl
def F138:Hi:=p138
theorem U5:OKP (zff F138):=ST.ok0 q138 Ab Tryz.func138
abbrev Tx:=(R:Type)→LI→((LI×Unit)→Int→Option R)→Option R
def zts (F:Tx):Ent:=eV 100 [(.sl (.int .u64))] [(.pair (.sl (.int .u64)) .unit),(.int .i64)] F
abbrev zpk (Z:Type):=Int→(LI×Unit)→LI→Z
abbrev zw3 (R:Type):=((LI×Unit)→LI→Option R)→Option R
abbrev Mt:=(R:Type)→zpk (zw3 R)
def Zp (L:Mt):LEnt:=lM 8 [.fix 2 (.ptr 0 [] (.pair (.sl (.int .u64)) .unit)),.fix 6 (.own 1 0),.val 7 (.int .i64),.var 0 (.pair (.sl (.int .u64)) .unit) false,.row 1 (.int .u64) false] 2 [(.exit 0,[.fix 2 (.ptr 0 [] (.pair (.sl (.int .u64)) .unit)),.fix 6 (.own 1 0),.var 0 (.pair (.sl (.int .u64)) .unit) false,.row 1 (.int .u64) false])] L
def e100 (F136:J4) (F137:K6) (F138:Hi) (L8:Mt):=sE 0 51 [] [zfg F136,ztm F137,zff F138] [Zp L8]
def zh8 (F138:Hi) (R:Type):zpk (zpk (Option R)→zw3 R):=fun x1 x2 x3 kc k0=>
let v4:=(x3.length:Int);let v5:=decide (x1≤v4);(match v5 with
|true=>F138 R x1 fun y6=>
let v7:=IntKind.i64.wrap (x1+y6);let v8:=(x3.length:Int);let v9:=decide (v7≤v8);(match v9 with
|true=>let v10:=IntKind.i64.wrap (v7 - 1);(match bnd v10 x3.length with
|true=>let v11:=x3.getD v10.toNat 0;let v12:=IntKind.i64.wrap (x1 - 1);(match bnd v12 x3.length with
|true=>let v13:=x3.getD v12.toNat 0;let v14:=IntKind.u64.wrap (v11+v13);(match bnd v10 x3.length with
|true=>let v15:=x3.set v10.toNat v14;let v16:=IntKind.i64.wrap (x1+1);kc v16 x2 v15
|false=>none)
|false=>none)
|false=>none)
|false=>let v17:=IntKind.i64.wrap (x1+1);kc v17 x2 x3)
|false=>k0 x2 x3)
theorem q100_8 (F136:J4) (F137:K6) (F138:Hi) (L8:Mt):LEQ (Zp L8) (e100 F136 F137 F138 L8) Tryz.f100 (zh8 F138):=fun _ _ _ _=>by kernel_rfl
def Qc:Nat→Mt
 | 0=>fun _ _ _ _ _=>none
 | n+1=>fun R x1 x2 x3 k0=>zh8 F138 R x1 x2 x3 (fun x1 x2 x3=>Qc n R x1 x2 x3 k0) k0
def p100 (F136:J4) (F137:K6) (L8:Mt):Tx:=fun R a0 k=>
let v1:=(a0.length:Int);let v2:=decide (v1>1048576);(match v2 with
|true=>k (([]:LI),()) (14:Int)
|false=>F136 R a0 fun y3 y4=>
(match (!y4) with
|true=>k (([]:LI),()) (11:Int)
|false=>F137 R a0 fun y5=>
L8 R (1:Int) (([]:LI),()) y5 (fun x6 x7=>
k (x7,()) (0:Int))))
theorem q100 (F136:J4) (F137:K6) (F138:Hi) (L8:Mt):EQ (zts (p100 F136 F137 L8)) (e100 F136 F137 F138 L8) Tryz.f100 [(.cell 2 122,122,false),(.tmp 3,38,false)]:=fun _ _ _=>by kernel_rfl
def F100:Tx:=p100 F136 F137 (Qc FUEL)
theorem zr7:LKP (Zp (Qc FUEL)) 0 51 8 Tryz.f100:=ST.lok (q100_8 F136 F137 F138 (Qc FUEL)) (Aa zid (Aa zet (Aa U5 Ab))) [] trivial
theorem zy0:OKP (zts F100):=ST.ok1 (q100 F136 F137 F138 (Qc FUEL)) (Aa zid (Aa zet (Aa U5 Ab))) Tryz.func100 [8] ⟨⟨_,rfl,zr7⟩,trivial⟩
abbrev zne:=(R:Type)→Int→Int→(Int→Option R)→Option R
def en103 (F:zne):Ent:=eV 103 [(.int .u32),(.int .u32)] [(.int .u64)] F
def p103:zne:=fun R a0 a1 k=>
let v1:=IntKind.u64.wrap a0;let v2:=ishl .u64 v1 (32:Int);let v3:=IntKind.u64.wrap a1;let v4:=ior .u64 v2 v3;k v4
theorem q103:EQ (en103 p103) (sE 0 11 [] [] []) Tryz.f103 [(.tmp 4,31,false)]:=fun _ _ _=>by kernel_rfl
def F103:zne:=p103
theorem ok103:OKP (en103 F103):=ST.ok0 q103 Ab Tryz.func103
abbrev znf:=(R:Type)→LI→Int→(Tq40→Option R)→Option R
def en102 (F:znf):Ent:=eV 102 [(.arr 32 (.int .u8)),(.int .u64)] [Kq40] F
def p102:znf:=fun R a0 a1 k=>
k ((2:Int),([]:LI),(0:Int),a0,a1,(0:Int),())
theorem q102:EQ (en102 p102) (sE 0 8 [] [] []) Tryz.f102 [(.cell 4 126,126,false)]:=fun _ _ _=>by kernel_rfl
def F102:znf:=p102
theorem ok102:OKP (en102 F102):=ST.ok0 q102 Ab Tryz.func102
abbrev FT64:=(R:Type)→Tq3→Int→Int→(Tq40→Option R)→Option R
def en64 (F:FT64):Ent:=eV 64 [Kq3,(.int .u32),(.int .i64)] [Kq40] F
def p64 (F102:znf) (F103:zne):FT64:=fun R a0 a1 a2 k=>
let v1:=IntKind.u32.wrap a2;F103 R a1 v1 fun y2=>
F102 R a0.1 y2 fun y3=>
k y3
theorem q64 (F102:znf) (F103:zne):EQ (en64 (p64 F102 F103)) (sE 0 14 [] [en102 F102,en103 F103] []) Tryz.f64 [(.cell 6 126,126,false)]:=fun _ _ _=>by kernel_rfl
def F64:FT64:=p64 F102 F103
theorem ok64:OKP (en64 F64):=ST.ok0 (q64 F102 F103) (Aa ok102 (Aa ok103 Ab)) Tryz.func64
abbrev Mw:=(R:Type)→(LI×Unit)→(Int→Option R)→Option R
def zj9 (F:Mw):Ent:=eV 222 [(.pair (.sl (.int .u64)) .unit)] [(.int .i64)] F
def p222:Mw:=fun R a0 k=>
let v1:=(a0.1.length:Int);k v1
theorem q222:EQ (zj9 p222) (sE 0 6 [] [] []) Tryz.f222 [(.tmp 2,3,false)]:=fun _ _ _=>by kernel_rfl
def F222:Mw:=p222
theorem zia:OKP (zj9 F222):=ST.ok0 q222 Ab Tryz.func222
abbrev za5:=(R:Type)→(LI×Unit)→Int→(Int→Option R)→Option R
def zs6 (F:za5):Ent:=eV 221 [(.pair (.sl (.int .u64)) .unit),(.int .i64)] [(.int .u64)] F
abbrev zoq (Z:Type):=Int→Int→(LI×Unit)→Z
abbrev zv9 (R:Type):=(Int→Option R)→Option R
abbrev L0:=(R:Type)→zoq (zv9 R)
def Yv (L:L0):LEnt:=lM 1 [.val 1 (.int .i64),.fix 2 (.ptr 0 [] (.pair (.sl (.int .u64)) .unit)),.val 4 (.int .u64),.var 0 (.pair (.sl (.int .u64)) .unit) false] 1 [(.exit 0,[.val 4 (.int .u64)])] L
def e221 (F138:Hi) (L1:L0):=sE 0 20 [] [zff F138] [Yv L1]
def zhj (F138:Hi) (R:Type):zoq (zoq (Option R)→zv9 R):=fun x1 x2 x3 kc k0=>
let v4:=decide (x1>0);(match v4 with
|true=>let v5:=IntKind.i64.wrap (x1 - 1);(match bnd v5 x3.1.length with
|true=>let v6:=x3.1.getD v5.toNat 0;let v7:=IntKind.u64.wrap (x2+v6);F138 R x1 fun y8=>
let v9:=IntKind.i64.wrap (x1 - y8);kc v9 v7 x3
|false=>none)
|false=>k0 x2)
theorem q221_1 (F138:Hi) (L1:L0):LEQ (Yv L1) (e221 F138 L1) Tryz.f221 (zhj F138):=fun _ _ _ _=>by kernel_rfl
def Px:Nat→L0
 | 0=>fun _ _ _ _ _=>none
 | n+1=>fun R x1 x2 x3 k0=>zhj F138 R x1 x2 x3 (fun x1 x2 x3=>Px n R x1 x2 x3 k0) k0
def p221 (L1:L0):za5:=fun R a0 a1 k=>
L1 R a1 (0:Int) a0 (fun x1=>
k x1)
theorem q221 (F138:Hi) (L1:L0):EQ (zs6 (p221 L1)) (e221 F138 L1) Tryz.f221 [(.tmp 4,31,false)]:=fun _ _ _=>by kernel_rfl
def F221:za5:=p221 (Px FUEL)
theorem zrc:LKP (Yv (Px FUEL)) 0 20 1 Tryz.f221:=ST.lok (q221_1 F138 (Px FUEL)) (Aa U5 Ab) [] trivial
theorem ok221:OKP (zs6 F221):=ST.ok1 (q221 F138 (Px FUEL)) (Aa U5 Ab) Tryz.func221 [1] ⟨⟨_,rfl,zrc⟩,trivial⟩
abbrev K4:=(R:Type)→(LI×Unit)→(Int→Option R)→Option R
def zkc (F:K4):Ent:=eV 187 [(.pair (.sl (.int .u64)) .unit)] [(.int .u64)] F
def p187 (F221:za5) (F222:Mw):K4:=fun R a0 k=>
F222 R a0 fun y1=>
F221 R a0 y1 fun y2=>
k y2
theorem q187 (F221:za5) (F222:Mw):EQ (zkc (p187 F221 F222)) (sE 0 7 [] [zs6 F221,zj9 F222] []) Tryz.f187 [(.tmp 2,31,false)]:=fun _ _ _=>by kernel_rfl
def F187:K4:=p187 F221 F222
theorem zes:OKP (zkc F187):=ST.ok0 (q187 F221 F222) (Aa ok221 (Aa zia Ab)) Tryz.func187
abbrev za6:=(R:Type)→Tq40→(Int→Bool→Option R)→Option R
def zs7 (F:za6):Ent:=eV 220 [Kq40] [(.int .u64),.bool] F
def p220:za6:=fun R a0 k=>
let v1:=a0.1==1;(match v1 with
|true=>let v2:=(a0.2.1.length:Int);let v3:=IntKind.u64.wrap v2;let v4:=IntKind.u64.wrap (v3*8);let v5:=decide (a0.2.2.1≤v4);k a0.2.2.1 v5
|false=>let v6:=a0.1==2;(match v6 with
|true=>k (4611686018427387904:Int) true
|false=>k (0:Int) false))
theorem q220:EQ (zs7 p220) (sE 0 20 [] [] []) Tryz.f220 [(.tmp 2,31,false),(.tmp 3,4,false)]:=fun _ _ _=>by kernel_rfl
def F220:za6:=p220
theorem ok220:OKP (zs7 F220):=ST.ok0 q220 Ab Tryz.func220
abbrev Mx:=(R:Type)→Tq40→(Bool→Option R)→Option R
def zfe (F:Mx):Ent:=eV 186 [Kq40] [.bool] F
def p186 (F220:za6):Mx:=fun R a0 k=>
F220 R a0 fun y1 y2=>
(match y2 with
|true=>let v3:=decide (a0.2.2.2.2.2.1≤y1);k v3
|false=>k false)
theorem q186 (F220:za6):EQ (zfe (p186 F220)) (sE 0 17 [] [zs7 F220] []) Tryz.f186 [(.tmp 2,4,false)]:=fun _ _ _=>by kernel_rfl
def F186:Mx:=p186 F220
theorem zib:OKP (zfe F186):=ST.ok0 (q186 F220) (Aa ok220 Ab) Tryz.func186
abbrev za4:=(R:Type)→Tq40→Int→Int→(Bool→Option R)→Option R
def en223 (F:za4):Ent:=eV 223 [Kq40,(.int .u64),(.int .i64)] [.bool] F
def p223 (F186:Mx):za4:=fun R a0 a1 a2 k=>
F186 R a0 fun y1=>
(match y1 with
|true=>let v2:=decide (a1>0);(match v2 with
|true=>let v3:=decide (a1<9223372036854775808);(match v3 with
|true=>let v4:=decide (a2>0);(match v4 with
|true=>let v5:=decide (a2≤64);k v5
|false=>k false)
|false=>k false)
|false=>k false)
|false=>k false)
theorem q223 (F186:Mx):EQ (en223 (p223 F186)) (sE 0 25 [] [zfe F186] []) Tryz.f223 [(.tmp 6,4,false)]:=fun _ _ _=>by kernel_rfl
def F223:za4:=p223 F186
theorem ok223:OKP (en223 F223):=ST.ok0 (q223 F186) (Aa zib Ab) Tryz.func223
abbrev za2:=(R:Type)→Int→(Int→Option R)→Option R
def en225 (F:za2):Ent:=eV 225 [(.int .u64)] [(.int .i64)] F
def p225 (F243:zme):za2:=fun R a0 k=>
let v1:=if (1:Int)>a0 then (1:Int) else a0;let v2:=IntKind.u64.wrap (v1 - 1);F243 R v2 fun y3=>
k y3
theorem q225 (F243:zme):EQ (en225 (p225 F243)) (sE 0 7 [] [en243 F243] []) Tryz.f225 [(.tmp 2,3,false)]:=fun _ _ _=>by kernel_rfl
def F225:za2:=p225 F243
theorem ok225:OKP (en225 F225):=ST.ok0 (q225 F243) (Aa ok243 Ab) Tryz.func225
abbrev za0:=(R:Type)→Tq40→(Int→Option R)→Option R
def en241 (F:za0):Ent:=eV 241 [Kq40] [(.int .u64)] F
def p241 (F186:Mx) (F220:za6):za0:=fun R a0 k=>
F186 R a0 fun y1=>
(match (!y1) with
|true=>k (0:Int)
|false=>F220 R a0 fun y2 y3=>
let v4:=IntKind.u64.wrap (y2 - a0.2.2.2.2.2.1);k v4)
theorem q241 (F186:Mx) (F220:za6):EQ (en241 (p241 F186 F220)) (sE 0 17 [] [zfe F186,zs7 F220] []) Tryz.f241 [(.tmp 2,31,false)]:=fun _ _ _=>by kernel_rfl
def F241:za0:=p241 F186 F220
theorem ok241:OKP (en241 F241):=ST.ok0 (q241 F186 F220) (Aa zib (Aa ok220 Ab)) Tryz.func241
abbrev zl9:=(R:Type)→LI→Int→Int→(LI→Option R)→Option R
def zz9 (F:zl9):Ent:=eV 259 [(.arr 32 (.int .u8)),(.int .u64),(.int .u64)] [(.arr 32 (.int .u8))] F
def p259 (F92:FT92) (F93:FT93):zl9:=fun R a0 a1 a2 k=>
F92 R a1 fun y1=>
F92 R a2 fun y2=>
let v3:=([(List.take 32 (List.drop 0 a0)),(List.take 8 (List.drop 0 y1)),(List.take 8 (List.drop 0 y2))]:(List LI));F93 R v3 fun y4=>
k y4
theorem q259 (F92:FT92) (F93:FT93):EQ (zz9 (p259 F92 F93)) (sE 0 18 [] [en92 F92,en93 F93] []) Tryz.f259 [(.cell 6 24,24,false)]:=fun _ _ _=>by kernel_rfl
def F259:zl9:=p259 F92 F93
theorem ok259:OKP (zz9 F259):=ST.ok0 (q259 F92 F93) (Aa ok92 (Aa ok93 Ab)) Tryz.func259
abbrev FT254:=(R:Type)→Tq43→Int→(Int→Tq43→Option R)→Option R
def en254 (F:FT254):Ent:=eM 254 [(true,Kq43),(false,(.int .u64))] [(false,(.int .u8))] F
def p254 (F259:zl9):FT254:=fun R a0 a1 k=>
let v1:=a0.1.1==1;(match v1 with
|true=>(match bnd a1 a0.1.2.1.length with
|true=>let v2:=a0.1.2.1.getD a1.toNat 0;k v2 a0
|false=>none)
|false=>let v3:=IntKind.u64.wrap (Int.tdiv a1 (32:Int));let v4:= !a0.2.2.2.1;(match v4 with
|true=>F259 R a0.1.2.2.2.1 a0.1.2.2.2.2.1 v3 fun y5=>
let v6:=Int.tmod a1 (32:Int);(match (bnd v6 (32:Int)) with
|true=>let v7:=y5.getD v6.toNat 0;k v7 (a0.1,y5,v3,true,a0.2.2.2.2)
|false=>none)
|false=>let v8:=v3 !=a0.2.2.1;(match v8 with
|true=>F259 R a0.1.2.2.2.1 a0.1.2.2.2.2.1 v3 fun y9=>
let v10:=Int.tmod a1 (32:Int);(match (bnd v10 (32:Int)) with
|true=>let v11:=y9.getD v10.toNat 0;k v11 (a0.1,y9,v3,true,a0.2.2.2.2)
|false=>none)
|false=>let v12:=Int.tmod a1 (32:Int);(match (bnd v12 (32:Int)) with
|true=>let v13:=a0.2.1.getD v12.toNat 0;k v13 a0
|false=>none))))
theorem q254 (F259:zl9):EQ (en254 (p254 F259)) (sE 1 67 [] [zz9 F259] []) Tryz.f254 [(.tmp 4,5,false)]:=fun _ _ _=>by kernel_rfl
def F254:FT254:=p254 F259
theorem ok254:OKP (en254 F254):=ST.ok0 (q254 F259) (Aa ok259 Ab) Tryz.func254
abbrev zf1:Type 1:=(R:Type)→Tq43→(Int→Tq43→Option R)→Option R
abbrev KS242:Kd:=Kq40
abbrev Wh:Kd:=Kq42
abbrev K242:Kd:=.pair KS242 Wh
def en242 (F:zf1):Ent:=⟨242,[(true,K242)],[(false,(.int .u64))],fun R x k=>F R x.1 (fun y1 p1=>k (y1,()) (p1,()))⟩
def zul:List (ResultVar×TypeId×Bool):=[(.tmp 2,31,false)]
def u242:(R:Type)→K242.T→Int→Wh.T→(Int→K242.T→Option R)→Option R:=fun R a0 y2 q k=>
let v6:=ishr .u8 y2 (IntKind.u64.wrap ((7:Int) - (Int.tmod a0.1.2.2.2.2.2.1 (8:Int))));let v7:=IntKind.u64.wrap (a0.1.2.2.2.2.2.1+1);let v8:=iand .u8 v6 (1:Int);let v9:=IntKind.u64.wrap v8;k v9 ((a0.1.1,a0.1.2.1,a0.1.2.2.1,a0.1.2.2.2.1,a0.1.2.2.2.2.1,v7,a0.1.2.2.2.2.2.2),q)
def F242:zf1:=fun R a0 k=>
F254 R a0 (IntKind.u64.wrap (Int.tdiv a0.1.2.2.2.2.2.1 (8:Int))) fun y2 p3=>
match decide (0≤IntKind.u64.wrap ((7:Int) - (Int.tmod a0.1.2.2.2.2.2.1 (8:Int)))) with
|true=>u242 R a0 y2 p3.2 k
|false=>none
theorem znr (R:Type) (a0:K242.T) (a1:Int) (k:Int→K242.T→Option R):F254 R a0 a1 k=F254 R a0 a1 (fun y p=>@ite (Option R) (p.1=a0.1) (Classical.propDecidable _) (k y p) none):=by
 simp only [F254,p254,if_true]
def zqb {α:Type} (x y:α):Bool:=@decide (x=y) (Classical.propDecidable _)
theorem zem {α:Type} (x:α):zqb x x=true:=@decide_eq_true _ (Classical.propDecidable _) rfl
theorem zqa {α:Type} {x y:α} (h:zqb x y=true):x=y:=@of_decide_eq_true _ (Classical.propDecidable _) h
def zj7 (a0:K242.T) (a1 y:Int) (q:Wh.T):Ent:=⟨254,[(true,K242),(false,(.int .u64))],[(false,(.int .u8))],fun _ x k=>match zqb x (a0,a1,()) with | true=>k (y,()) ((a0.1,q),()) | false=>none⟩
theorem ok254c {a0:K242.T} {a1 y:Int} {q:Wh.T} (h:Pt Tryz.prog 254 (avs [(true,K242),(false,(.int .u64))] (a0,a1,())) (rvs [(false,(.int .u8))] (y,())) (tvs [(true,K242),(false,(.int .u64))] ((a0.1,q),()))):(zj7 a0 a1 y q).OK Tryz.prog:=by
 intro R x k r hr;simp only [zj7] at hr;split at hr
 ·rename_i he
  have:=zqa he;subst this;exact ⟨(y,()),((a0.1,q),()),h,hr⟩
 ·cases hr
def c242 (a0:K242.T) (a1 y:Int) (q:Wh.T):Env (St×List Acc):=⟨TT,EQT,1,32,Bk [],Bb [zj7 a0 a1 y q] _,Bj [] _,[],Ba [],[],fun _ _ _ _=>none⟩
def e242 (R:Type):Env R:=⟨TT,EQT,1,32,Bk [],Bb [] R,Bj [] R,[],Ba [],[],fun _ _ _ _=>none⟩
def Kt:Code→Code
 | .seq a _=>a
 | c=>c
def zc4:Code→Array Oper
 | .seq _ (.seq (.region _ ops _) _)=>ops
 | _=>#[]
def zun:Code→Oper
 | .seq _ (.seq (.region _ ops _) _)=>(ops[12]?).getD ⟨none,.assign (.tmp 0),0,"",#[],none⟩
 | _=>⟨none,.assign (.tmp 0),0,"",#[],none⟩
def Si:Code→Code
 | .seq _ (.seq _ c)=>c
 | c=>c
def zpn (a0:K242.T):St:=⟨[(0,.ptr 0 [] K242)],[(0,.var K242 a0 false)],1⟩
def zpm (a0:K242.T):St:=⟨[(2,.val (.int .u64) (0:Int)),(0,.ptr 0 [] K242)],[(0,.var K242 a0 false)],1⟩
def zw4 (a0:K242.T) (y:Int) (q:Wh.T):St:=
  ⟨[(3,.val (.int .u8) (ishr .u8 y (IntKind.u64.wrap ((7:Int) - (Int.tmod a0.1.2.2.2.2.2.1 (8:Int)))))),(19,.val (.int .u8) (ishr .u8 y (IntKind.u64.wrap ((7:Int) - (Int.tmod a0.1.2.2.2.2.2.1 (8:Int)))))),
    (18,.val (.int .u64) (IntKind.u64.wrap ((7:Int) - (Int.tmod a0.1.2.2.2.2.2.1 (8:Int))))),(17,.val (.int .u64) (Int.tmod a0.1.2.2.2.2.2.1 (8:Int))),(16,.val (.int .u64) a0.1.2.2.2.2.2.1),
    (15,.ptr 0 [.fld 0,.fld 5] (.int .u64)),(14,.ptr 0 [.fld 0] KS242),(13,.ptr 0 [] K242),(12,.ptr 0 [] K242),(11,.val (.int .u8) y),(10,.val (.int .u64) (IntKind.u64.wrap (Int.tdiv a0.1.2.2.2.2.2.1 (8:Int)))),(9,.val (.int .u64) a0.1.2.2.2.2.2.1),
    (8,.ptr 0 [.fld 0,.fld 5] (.int .u64)),(7,.ptr 0 [.fld 0] KS242),(6,.ptr 0 [] K242),(5,.ptr 0 [] K242),(4,.ptr 0 [] K242),(2,.val (.int .u64) (0:Int)),(0,.ptr 0 [] K242)],
   [(0,.var K242 (a0.1,q) false),(0,.var K242 a0 false)],1⟩
def zu6:List Acc:=[([],[],false),([],[],false),([],[],false),([],[],false),([],[0],false),([],[],false),([],[],false),([],[],false),([],[],false),([0],[0,0],false),([],[],false),([],[0],false),([],[],false),([],[],false),([],[],false),([],[],false),([],[],false)]
theorem x0242 (a0:K242.T):exec (e242 St) (Kt (Ag Tryz.f242)) (zpn a0) (fun e σ=>match e with | .normal=>some σ | _=>none)=some (zpm a0):=by kernel_rfl
theorem x1242 (a0:K242.T) (y:Int) (q:Wh.T):xops (c242 a0 (IntKind.u64.wrap (Int.tdiv a0.1.2.2.2.2.2.1 (8:Int))) y q) 1 (zc4 (Ag Tryz.f242)) (zc4 (Ag Tryz.f242)).toList 0 (zpm a0) [] (fun σ' accs=>some (σ',accs))=
    (match zqb (a0,IntKind.u64.wrap (Int.tdiv a0.1.2.2.2.2.2.1 (8:Int)),()) (a0,IntKind.u64.wrap (Int.tdiv a0.1.2.2.2.2.2.1 (8:Int)),()) with
     | true=>(match decide (0≤IntKind.u64.wrap ((7:Int) - (Int.tmod a0.1.2.2.2.2.2.1 (8:Int)))) with | true=>some (zw4 a0 y q,zu6) | false=>none)
     | false=>none):=by kernel_rfl
theorem x2242 (R:Type) (a0:K242.T) (y:Int) (q:Wh.T) (k:RT [(false,Kd.int .u64)]→PT [(true,K242)]→Option R):
  exec (e242 R) (Si (Ag Tryz.f242)) (zw4 a0 y q) (funK (e242 R) zul (finK [(false,.int .u64)] [(true,K242)] k))=u242 R a0 y q (fun y1 p1=>k (y1,()) (p1,())):=by kernel_rfl
theorem ok242:(en242 F242).OK Tryz.prog:=by
 intro R x k r h;obtain ⟨a0,u⟩:=x
 change F242 R a0 (fun y1 p1=>k (y1,()) (p1,()))=some r at h
 unfold F242 at h;rw [znr] at h;obtain ⟨⟨y,uy⟩,⟨⟨p1,q⟩,up⟩,hH,hk⟩:=ok254 R (a0,IntKind.u64.wrap (Int.tdiv a0.1.2.2.2.2.2.1 (8:Int)),()) (fun y p=>(fun (y:Int) (p:K242.T)=>@ite (Option R) (p.1=a0.1) (Classical.propDecidable _) (match decide (0≤IntKind.u64.wrap ((7:Int) - (Int.tmod a0.1.2.2.2.2.2.1 (8:Int)))) with
  | true=>u242 R a0 y p.2 (fun y1 p1=>k (y1,()) (p1,()))
  | false=>none) none) y.1 p.1) r h
 simp only at hk;split at hk<;>try (cases hk; done)
 rename_i hp;subst hp;split at hk<;>try (cases hk; done)
 rename_i hv;have hE0:Ax Tryz.prog (e242 R):=⟨tabOK,eqOK,Aq Ab,Bu,Ak,noYl⟩
 have hE1:Ax Tryz.prog (e242 St):=⟨tabOK,eqOK,Aq Ab,Bu,Ak,noYl⟩
 have hE2:Ax Tryz.prog (c242 a0 (IntKind.u64.wrap (Int.tdiv a0.1.2.2.2.2.2.1 (8:Int))) y q):=⟨tabOK,eqOK,Aq (Aa (ok254c hH) Ab),Bu,Ak,noYl⟩
 have hL0:Leads 1 32 Tryz.prog (Kt (Ag Tryz.f242)) (zpn a0) .normal (zpm a0):=by
  obtain ⟨e,σ,h1,_,h2⟩:=Bz hE1 mixed (Kt (Ag Tryz.f242)) (by rw [show Al (Kt (Ag Tryz.f242))=[] from by kernel_rfl]; exact Bv) _ _ _ (x0242 a0);cases e with
  | normal=>simp only [Option.some.injEq] at h1; subst h1; exact h2
  | exit i=>cases h1
  | ret=>cases h1
 have hL1:Leads 1 32 Tryz.prog (.region 1 (zc4 (Ag Tryz.f242)) true) (zpm a0) .normal (zw4 a0 y q):=by
  have hx:=x1242 a0 y q;rw [zem,hv] at hx;obtain ⟨w1,w2⟩:=zqf (i0:=7) (b:=0) (l:=zu6.reverse) (by kernel_rfl);exact zey (j0:=12) (i0:=7) (b:=0) (d:=16) (t:=15) (nx:=1) (o:=zun (Ag Tryz.f242)) (b1:=.var K242 a0 false) (b2:=.var K242 (a0.1,q) false) hE2 mixed hx (by kernel_rfl) w1 w2 (by omega)
   (by kernel_rfl) (by kernel_rfl) (by kernel_rfl) (by kernel_rfl) rfl (Nat.lt_of_succ_le (Nat.le_of_ble_eq_true rfl)) (zg0 (by kernel_rfl)) (zgz (by kernel_rfl))
   (by rw [show (zun (Ag Tryz.f242)).op.operands=#[.tmp 15] from by kernel_rfl]; intro x hx; simpa using hx) rfl rfl
   (fun B hB=>by rcases hB with rfl | rfl<;>kernel_rfl)
 have hbody:Ag Tryz.f242=.seq (Kt (Ag Tryz.f242)) (.seq (.region 1 (zc4 (Ag Tryz.f242)) true) (Si (Ag Tryz.f242))):=by kernel_rfl
 have hx2:=x2242 R a0 y q k;rw [hk] at hx2;obtain ⟨e,σ,h1,_,h2⟩:=Bz hE0 mixed (Si (Ag Tryz.f242)) (by rw [show Al (Si (Ag Tryz.f242))=[] from by kernel_rfl]; exact Bv) _ _ _ hx2;have hL:=Leads.seq hL0 (Leads.seq hL1 h2);rw [←hbody] at hL;obtain ⟨rs,os,g1,g2⟩:=zee hE0 Tryz.func242 (body:=Ag Tryz.f242) (by kernel_rfl) (enters Tryz.func242 (by kernel_rfl) (by kernel_rfl)) (by kernel_rfl) (res:=zul) (by kernel_rfl) («as»:=[.ptr K242 a0]) rfl (Nat.le_of_ble_eq_true rfl) (tm0:=(zpn a0).tm) (me0:=(zpn a0).me) rfl hL h1;unfold finK at g2;split at g2<;>try (cases g2; done)
 rename_i y' hy;split at g2<;>try (cases g2; done)
 rename_i p' hp;rw [G9 hy,I0 hp] at g1;exact ⟨y',p',g1,g2⟩
abbrev za3:=(R:Type)→Tq40→Int→(Int→Tq40→Int→Option R)→Option R
def en224 (F:za3):Ent:=eV 224 [Kq40,(.int .i64)] [(.int .u64),Kq40,(.int .i64)] F
abbrev zop (Z:Type):=Int→Int→Int→Tq40→Tq43→Z
abbrev zv8 (R:Type):=(Int→Tq40→Tq43→Option R)→Option R
abbrev Lz:=(R:Type)→zop (zv8 R)
def Yu (L:Lz):LEnt:=lM 7 [.val 4 (.int .u64),.fix 5 (.ptr 1 [] Kq40),.fix 7 (.ptr 2 [] Kq43),.val 31 (.int .i64),.val 32 (.int .i64),.var 1 Kq40 false,.var 2 Kq43 false] 3 [(.exit 1,[.val 4 (.int .u64),.fix 5 (.ptr 1 [] Kq40),.fix 7 (.ptr 2 [] Kq43),.var 1 Kq40 false,.var 2 Kq43 false])] L
def e224 (F186:Mx) (F241:za0) (F242:zf1) (L7:Lz):=sE 0 45 [] [zfe F186,en241 F241,en242 F242] [Yu L7]
def zhi (F242:zf1) (R:Type):zop (zop (Option R)→zv8 R):=fun x1 x2 x3 x4 x5 kc k0=>
let v6:=decide (x3<x2);(match v6 with
|true=>let v7:=ishl .u64 x1 (1:Int);F242 R x5 fun y8 p9=>
let v10:=ior .u64 v7 y8;let v11:=IntKind.i64.wrap (x3+1);kc v10 x2 v11 x4 p9
|false=>k0 x1 x4 x5)
theorem q224_7 (F186:Mx) (F241:za0) (F242:zf1) (L7:Lz):LEQ (Yu L7) (e224 F186 F241 F242 L7) Tryz.f224 (zhi F242):=fun _ _ _ _=>by kernel_rfl
def Nc:Nat→Lz
 | 0=>fun _ _ _ _ _ _ _=>none
 | n+1=>fun R x1 x2 x3 x4 x5 k0=>zhi F242 R x1 x2 x3 x4 x5 (fun x1 x2 x3 x4 x5=>Nc n R x1 x2 x3 x4 x5 k0) k0
def p224 (F186:Mx) (F241:za0) (L7:Lz):za3:=fun R a0 a1 k=>
F186 R a0 fun y1=>
(match (!y1) with
|true=>k (0:Int) a0 (1:Int)
|false=>let v2:=decide (a1<0);(match v2 with
|true=>k (0:Int) a0 (1:Int)
|false=>let v3:=decide (a1>64);(match v3 with
|true=>k (0:Int) a0 (1:Int)
|false=>let v4:=IntKind.u64.wrap a1;F241 R a0 fun y5=>
let v6:=decide (v4>y5);(match v6 with
|true=>k (0:Int) a0 (8:Int)
|false=>L7 R (0:Int) a1 (0:Int) ((0:Int),([]:LI),(0:Int),(List.replicate 32 (0:Int)),(0:Int),(0:Int),()) (a0,(List.replicate 32 (0:Int)),(0:Int),false,()) (fun x7 x8 x9=>
k x7 x9.1 (0:Int))))))
theorem q224 (F186:Mx) (F241:za0) (F242:zf1) (L7:Lz):EQ (en224 (p224 F186 F241 L7)) (e224 F186 F241 F242 L7) Tryz.f224 [(.tmp 4,31,false),(.cell 5 126,126,false),(.tmp 6,38,false)]:=fun _ _ _=>by kernel_rfl
def F224:za3:=p224 F186 F241 (Nc FUEL)
theorem zrb:LKP (Yu (Nc FUEL)) 0 45 7 Tryz.f224:=ST.lok (q224_7 F186 F241 F242 (Nc FUEL)) (Aa zib (Aa ok241 (Aa ok242 Ab))) [] trivial
theorem ok224:OKP (en224 F224):=ST.ok1 (q224 F186 F241 F242 (Nc FUEL)) (Aa zib (Aa ok241 (Aa ok242 Ab))) Tryz.func224 [7] ⟨⟨_,rfl,zrb⟩,trivial⟩
abbrev zbf:=(R:Type)→Tq40→Int→Int→(Int→Tq40→Int→Option R)→Option R
def zta (F:zbf):Ent:=eV 188 [Kq40,(.int .u64),(.int .i64)] [(.int .u64),Kq40,(.int .i64)] F
abbrev zo0 (Z:Type):=Int→Int→Int→Tq40→Tq40→Z
abbrev zwj (R:Type):=(Int→Int→Tq40→Option R)→(Tq40→Tq40→Option R)→Option R
abbrev Me:=(R:Type)→zo0 (zwj R)
def Y5 (L:Me):LEnt:=lM 4 [.val 1 (.int .u64),.fix 3 (.ptr 0 [] Kq40),.fix 7 (.ptr 1 [] Kq40),.val 18 (.int .i64),.val 19 (.int .i64),.var 0 Kq40 false,.var 1 Kq40 false] 2 [(.ret,[.val 6 (.int .u64),.fix 7 (.ptr 1 [] Kq40),.val 8 (.int .i64),.var 1 Kq40 false]),(.exit 0,[.fix 3 (.ptr 0 [] Kq40),.fix 7 (.ptr 1 [] Kq40),.var 0 Kq40 false,.var 1 Kq40 false])] L
def e188 (F223:za4) (F224:za3) (F225:za2) (L4:Me):=sE 0 43 [] [en223 F223,en224 F224,en225 F225] [Y5 L4]
def zhs (F224:za3) (F225:za2) (R:Type):zo0 (zo0 (Option R)→zwj R):=fun x1 x2 x3 x4 x5 kc k0 k1=>
let v6:=decide (x3<x2);(match v6 with
|true=>F225 R x1 fun y7=>
F224 R x4 y7 fun y8 y9 y10=>
let v11:=y10 !=0;(match v11 with
|true=>k0 (0:Int) y10 x4
|false=>let v12:=decide (y8<x1);(match v12 with
|true=>k0 y8 (0:Int) y9
|false=>let v13:=IntKind.i64.wrap (x3+1);kc x1 x2 v13 y9 x5))
|false=>k1 x4 x5)
theorem q188_4 (F223:za4) (F224:za3) (F225:za2) (L4:Me):LEQ (Y5 L4) (e188 F223 F224 F225 L4) Tryz.f188 (zhs F224 F225):=fun _ _ _ _=>by kernel_rfl
def P2:Nat→Me
 | 0=>fun _ _ _ _ _ _ _ _=>none
 | n+1=>fun R x1 x2 x3 x4 x5 k0 k1=>zhs F224 F225 R x1 x2 x3 x4 x5 (fun x1 x2 x3 x4 x5=>P2 n R x1 x2 x3 x4 x5 k0 k1) k0 k1
def p188 (F223:za4) (L4:Me):zbf:=fun R a0 a1 a2 k=>
F223 R a0 a1 a2 fun y1=>
(match (!y1) with
|true=>k (0:Int) a0 (1:Int)
|false=>L4 R a1 a2 (0:Int) a0 ((0:Int),([]:LI),(0:Int),(List.replicate 32 (0:Int)),(0:Int),(0:Int),()) (fun x2 x3 x4=>
k x2 x4 x3) (fun x5 x6=>
k (0:Int) x5 (9:Int)))
theorem q188 (F223:za4) (F224:za3) (F225:za2) (L4:Me):EQ (zta (p188 F223 L4)) (e188 F223 F224 F225 L4) Tryz.f188 [(.tmp 6,31,false),(.cell 7 126,126,false),(.tmp 8,38,false)]:=fun _ _ _=>by kernel_rfl
def F188:zbf:=p188 F223 (P2 FUEL)
theorem zrm:LKP (Y5 (P2 FUEL)) 0 43 4 Tryz.f188:=ST.lok (q188_4 F223 F224 F225 (P2 FUEL)) (Aa ok223 (Aa ok224 (Aa ok225 Ab))) [] trivial
theorem ok188:OKP (zta F188):=ST.ok1 (q188 F223 F224 F225 (P2 FUEL)) (Aa ok223 (Aa ok224 (Aa ok225 Ab))) Tryz.func188 [4] ⟨⟨_,rfl,zrm⟩,trivial⟩
abbrev zmq:=(R:Type)→(LI×Unit)→Int→(Int→Int→Option R)→Option R
def en189 (F:zmq):Ent:=eV 189 [(.pair (.sl (.int .u64)) .unit),(.int .u64)] [(.int .i64),(.int .i64)] F
abbrev zoz (Z:Type):=Int→Int→Int→(LI×Unit)→Z
abbrev zwi (R:Type):=(Int→Int→Int→(LI×Unit)→Option R)→Option R
abbrev Jv:=(R:Type)→zoz (zwi R)
def Y4 (L:Jv):LEnt:=lM 4 [.val 1 (.int .u64),.fix 2 (.ptr 0 [] (.pair (.sl (.int .u64)) .unit)),.val 6 (.int .i64),.val 7 (.int .i64),.var 0 (.pair (.sl (.int .u64)) .unit) false] 1 [(.exit 0,[.val 1 (.int .u64),.fix 2 (.ptr 0 [] (.pair (.sl (.int .u64)) .unit)),.val 6 (.int .i64),.val 7 (.int .i64),.var 0 (.pair (.sl (.int .u64)) .unit) false])] L
abbrev zoy (Z:Type):=Int→Int→Int→(LI×Unit)→Z
abbrev zwh (R:Type):=(Int→Option R)→Option R
abbrev Ju:=(R:Type)→zoy (zwh R)
def Y3 (L:Ju):LEnt:=lM 6 [.val 1 (.int .u64),.fix 2 (.ptr 0 [] (.pair (.sl (.int .u64)) .unit)),.val 6 (.int .i64),.val 7 (.int .i64),.var 0 (.pair (.sl (.int .u64)) .unit) false] 1 [(.exit 2,[.val 6 (.int .i64)])] L
def e189 (F187:K4) (F222:Mw) (L4:Jv) (L6:Ju):=sE 0 51 [] [zkc F187,zj9 F222] [Y4 L4,Y3 L6]
def zhr (F222:Mw) (R:Type):zoz (zoz (Option R)→zwi R):=fun x1 x2 x3 x4 kc k0=>
let v5:=ishl .i64 x3 (1:Int);F222 R x4 fun y6=>
let v7:=decide (v5≤y6);(match v7 with
|true=>let v8:=ishl .i64 x3 (1:Int);kc x1 x2 v8 x4
|false=>k0 x1 x2 x3 x4)
theorem q189_4 (F187:K4) (F222:Mw) (L4:Jv) (L6:Ju):LEQ (Y4 L4) (e189 F187 F222 L4 L6) Tryz.f189 (zhr F222):=fun _ _ _ _=>by kernel_rfl
def Nf:Nat→Jv
 | 0=>fun _ _ _ _ _ _=>none
 | n+1=>fun R x1 x2 x3 x4 k0=>zhr F222 R x1 x2 x3 x4 (fun x1 x2 x3 x4=>Nf n R x1 x2 x3 x4 k0) k0
def zcw (F222:Mw) (R:Type):zoy (zoy (Option R)→zwh R):=fun x1 x2 x3 x4 kc k0=>
let v5:=decide (x3>0);(match v5 with
|true=>let v6:=IntKind.i64.wrap (x2+x3);F222 R x4 fun y7=>
let v8:=decide (v6≤y7);(match v8 with
|true=>let v9:=IntKind.i64.wrap (v6 - 1);(match bnd v9 x4.1.length with
|true=>let v10:=x4.1.getD v9.toNat 0;let v11:=decide (v10≤x1);(match v11 with
|true=>let v12:=IntKind.i64.wrap (v6 - 1);(match bnd v12 x4.1.length with
|true=>let v13:=x4.1.getD v12.toNat 0;let v14:=IntKind.u64.wrap (x1 - v13);let v15:=ishr .i64 x3 (1:Int);kc v14 v6 v15 x4
|false=>none)
|false=>let v16:=ishr .i64 x3 (1:Int);kc x1 x2 v16 x4)
|false=>none)
|false=>let v17:=ishr .i64 x3 (1:Int);kc x1 x2 v17 x4)
|false=>k0 x2)
theorem q189_6 (F187:K4) (F222:Mw) (L4:Jv) (L6:Ju):LEQ (Y3 L6) (e189 F187 F222 L4 L6) Tryz.f189 (zcw F222):=fun _ _ _ _=>by kernel_rfl
def Ih:Nat→Ju
 | 0=>fun _ _ _ _ _ _=>none
 | n+1=>fun R x1 x2 x3 x4 k0=>zcw F222 R x1 x2 x3 x4 (fun x1 x2 x3 x4=>Ih n R x1 x2 x3 x4 k0) k0
def p189 (F187:K4) (L4:Jv) (L6:Ju):zmq:=fun R a0 a1 k=>
F187 R a0 fun y1=>
let v2:=decide (a1≥y1);(match v2 with
|true=>k (0:Int) (3:Int)
|false=>L4 R a1 (0:Int) (1:Int) a0 (fun x3 x4 x5 x6=>
L6 R x3 x4 x5 x6 (fun x7=>
k x7 (0:Int))))
theorem q189 (F187:K4) (F222:Mw) (L4:Jv) (L6:Ju):EQ (en189 (p189 F187 L4 L6)) (e189 F187 F222 L4 L6) Tryz.f189 [(.tmp 4,3,false),(.tmp 5,38,false)]:=fun _ _ _=>by kernel_rfl
def F189:zmq:=p189 F187 (Nf FUEL) (Ih FUEL)
theorem zrl:LKP (Y4 (Nf FUEL)) 0 51 4 Tryz.f189:=ST.lok (q189_4 F187 F222 (Nf FUEL) (Ih FUEL)) (Aa zes (Aa zia Ab)) [] trivial
theorem zrk:LKP (Y3 (Ih FUEL)) 0 51 6 Tryz.f189:=ST.lok (q189_6 F187 F222 (Nf FUEL) (Ih FUEL)) (Aa zes (Aa zia Ab)) [] trivial
theorem ok189:OKP (en189 F189):=ST.ok1 (q189 F187 F222 (Nf FUEL) (Ih FUEL)) (Aa zes (Aa zia Ab)) Tryz.func189 [4,6] ⟨⟨_,rfl,zrl⟩,⟨⟨_,rfl,zrk⟩,trivial⟩⟩
abbrev Tt:=(R:Type)→(LI×Unit)→Tq40→Int→(Int→Tq40→Int→Option R)→Option R
def ztl (F:Tt):Ent:=eV 141 [(.pair (.sl (.int .u64)) .unit),Kq40,(.int .i64)] [(.int .i64),Kq40,(.int .i64)] F
def p141 (F187:K4) (F188:zbf) (F189:zmq):Tt:=fun R a0 a1 a2 k=>
F187 R a0 fun y1=>
let v2:=y1==0;(match v2 with
|true=>k (0:Int) a1 (10:Int)
|false=>F188 R a1 y1 a2 fun y3 y4 y5=>
let v6:=y5 !=0;(match v6 with
|true=>k (0:Int) y4 y5
|false=>F189 R a0 y3 fun y7 y8=>
k y7 y4 y8))
theorem q141 (F187:K4) (F188:zbf) (F189:zmq):EQ (ztl (p141 F187 F188 F189)) (sE 0 40 [] [zkc F187,zta F188,en189 F189] []) Tryz.f141 [(.tmp 6,3,false),(.cell 7 126,126,false),(.tmp 8,38,false)]:=fun _ _ _=>by kernel_rfl
def F141:Tt:=p141 F187 F188 F189
theorem zyv:OKP (ztl F141):=ST.ok0 (q141 F187 F188 F189) (Aa zes (Aa ok188 (Aa ok189 Ab))) Tryz.func141
abbrev zba:=(R:Type)→Tq3→(LI×Unit)→Int→(Int→Int→Option R)→Option R
def en206 (F:zba):Ent:=eV 206 [Kq3,(.pair (.sl (.int .u64)) .unit),(.int .i64)] [(.int .i64),(.int .i64)] F
def p206 (F64:FT64) (F141:Tt):zba:=fun R a0 a1 a2 k=>
F64 R a0 (1:Int) a2 fun y1=>
F141 R a1 y1 a0.2.1 fun y2 y3 y4=>
k y2 y4
theorem q206 (F64:FT64) (F141:Tt):EQ (en206 (p206 F64 F141)) (sE 0 24 [] [en64 F64,ztl F141] []) Tryz.f206 [(.tmp 6,3,false),(.tmp 7,38,false)]:=fun _ _ _=>by kernel_rfl
def F206:zba:=p206 F64 F141
theorem ok206:OKP (en206 F206):=ST.ok0 (q206 F64 F141) (Aa ok64 (Aa zyv Ab)) Tryz.func206
abbrev zmv:=(R:Type)→LI→Int→Int→LI→(LI→Int→Option R)→Option R
def en170 (F:zmv):Ent:=eV 170 [(.arr 32 (.int .u8)),(.int .i64),(.int .i64),(.sl (.int .u64))] [(.sl (.int .i64)),(.int .i64)] F
abbrev zo5 (Z:Type):=Int→Int→Tq3→(LI×Unit)→LI→Z
abbrev zwo (R:Type):=(LI→Option R)→Option R
abbrev Mh:=(R:Type)→zo5 (zwo R)
def Za (L:Mh):LEnt:=lM 9 [.fix 10 (.ptr 1 [] Kq3),.fix 11 (.ptr 2 [] (.pair (.sl (.int .u64)) .unit)),.fix 13 (.own 3 0),.val 38 (.int .i64),.val 39 (.int .i64),.var 1 Kq3 false,.var 2 (.pair (.sl (.int .u64)) .unit) false,.row 3 (.int .i64) false] 4 [(.exit 0,[.fix 13 (.own 3 0),.row 3 (.int .i64) false])] L
def e170 (F62:FT62) (F100:Tx) (F206:zba) (L9:Mh):=sE 0 59 [] [en62 F62,zts F100,en206 F206] [Za L9]
def zhx (F206:zba) (R:Type):zo5 (zo5 (Option R)→zwo R):=fun x1 x2 x3 x4 x5 kc k0=>
let v6:=decide (x2<x1);(match v6 with
|true=>F206 R x3 x4 x2 fun y7 y8=>
(match bnd x2 x5.length with
|true=>let v9:=x5.set x2.toNat y7;let v10:=y8 !=0;(match v10 with
|true=>(match bnd x2 v9.length with
|true=>let v11:=v9.set x2.toNat (-1:Int);let v12:=IntKind.i64.wrap (x2+1);kc x1 v12 x3 x4 v11
|false=>none)
|false=>let v13:=IntKind.i64.wrap (x2+1);kc x1 v13 x3 x4 v9)
|false=>none)
|false=>k0 x5)
theorem q170_9 (F62:FT62) (F100:Tx) (F206:zba) (L9:Mh):LEQ (Za L9) (e170 F62 F100 F206 L9) Tryz.f170 (zhx F206):=fun _ _ _ _=>by kernel_rfl
def P5:Nat→Mh
 | 0=>fun _ _ _ _ _ _ _=>none
 | n+1=>fun R x1 x2 x3 x4 x5 k0=>zhx F206 R x1 x2 x3 x4 x5 (fun x1 x2 x3 x4 x5=>P5 n R x1 x2 x3 x4 x5 k0) k0
def p170 (F62:FT62) (F100:Tx) (L9:Mh):zmv:=fun R a0 a1 a2 a3 k=>
let v1:=decide (a1<1);(match v1 with
|true=>k ([]:LI) (1:Int)
|false=>let v2:=IntKind.i64.wrap (a1 - 1);F62 R (a0,a2,()) v2 fun y3=>
(match (!y3) with
|true=>k ([]:LI) (1:Int)
|false=>F100 R a3 fun y4 y5=>
let v6:=y5 !=0;(match v6 with
|true=>k ([]:LI) y5
|false=>(match (decide (0≤a1∧a1≤a1∧a1≤17592186044416)) with
|true=>let v7:=List.replicate a1.toNat (0:Int);let v8:=(v7.length:Int);L9 R v8 (0:Int) (a0,a2,()) y4 v7 (fun x9=>
k x9 (0:Int))
|false=>none))))
theorem q170 (F62:FT62) (F100:Tx) (F206:zba) (L9:Mh):EQ (en170 (p170 F62 F100 L9)) (e170 F62 F100 F206 L9) Tryz.f170 [(.tmp 8,35,false),(.tmp 9,38,false)]:=fun _ _ _=>by kernel_rfl
def F170:zmv:=p170 F62 F100 (P5 FUEL)
theorem zrr:LKP (Za (P5 FUEL)) 0 59 9 Tryz.f170:=ST.lok (q170_9 F62 F100 F206 (P5 FUEL)) (Aa ok62 (Aa zy0 (Aa ok206 Ab))) [] trivial
theorem ok170:OKP (en170 F170):=ST.ok1 (q170 F62 F100 F206 (P5 FUEL)) (Aa ok62 (Aa zy0 (Aa ok206 Ab))) Tryz.func170 [9] ⟨⟨_,rfl,zrr⟩,trivial⟩
abbrev zm3:=(R:Type)→Tq31→(Int→Tq31→Option R)→Option R
def en120 (F:zm3):Ent:=eM 120 [(true,Kq31)] [(false,(.int .i64))] F
def p120 (F123:K7) (F167:zmx) (F168:zmw) (F169:zub) (F170:zmv):zm3:=fun R a0 k=>
F167 R a0.1.2.2.2.1 fun y1 y2 y3 y4=>
let v5:=y4 !=0;(match v5 with
|true=>k y4 ((a0.1.1,a0.1.2.1,a0.1.2.2.1,y1,a0.1.2.2.2.2.1,y3,a0.1.2.2.2.2.2.2),a0.2)
|false=>F168 R a0.1.2.2.1 fun y6=>
F169 R y3 fun y7=>
F123 R y6 fun y8=>
F170 R y1.2.1 a0.1.1.1 a0.1.1.2.2.2.1 y8 fun y9 y10=>
k y10 ((a0.1.1,a0.1.2.1,y6,y1,y9,y3,a0.1.2.2.2.2.2.2),(a0.2.1.1,a0.2.1.2.1,y7,y1.2.1,a0.2.1.2.2.2.2),a0.2.2))
theorem q120 (F123:K7) (F167:zmx) (F168:zmw) (F169:zub) (F170:zmv):EQ (en120 (p120 F123 F167 F168 F169 F170)) (sE 1 88 [] [Zy F123,en167 F167,en168 F168,en169 F169,en170 F170] []) Tryz.f120 [(.tmp 2,38,false)]:=fun _ _ _=>by kernel_rfl
def F120:zm3:=p120 F123 F167 F168 F169 F170
theorem ok120:OKP (en120 F120):=ST.ok0 (q120 F123 F167 F168 F169 F170) (Aa zie (Aa ok167 (Aa ok168 (Aa ok169 (Aa ok170 Ab))))) Tryz.func120
abbrev FT76:=(R:Type)→Tq31→Tq6→(Int→Tq31→Option R)→Option R
def en76 (F:FT76):Ent:=eM 76 [(true,Kq31),(false,Kq6)] [(false,(.int .i64))] F
def p76 (F119:zm4) (F120:zm3):FT76:=fun R a0 a1 k=>
F119 R a0.1.1 a0.1.2.1 fun y1 y2=>
let v3:=IntKind.u64.wrap y1;(match y2 with
|true=>F120 R ((a0.1.1,y1,a0.1.2.2),(a0.2.1.1,v3,a0.2.1.2.2),a0.2.2) fun y4 p5=>
k y4 p5
|false=>k (0:Int) ((a0.1.1,y1,a0.1.2.2),(a0.2.1.1,v3,a0.2.1.2.2),a0.2.2))
theorem q76 (F119:zm4) (F120:zm3):EQ (en76 (p76 F119 F120)) (sE 1 35 [] [en119 F119,en120 F120] []) Tryz.f76 [(.tmp 4,38,false)]:=fun _ _ _=>by kernel_rfl
def F76:FT76:=p76 F119 F120
theorem ok76:OKP (en76 F76):=ST.ok0 (q76 F119 F120) (Aa ok119 (Aa ok120 Ab)) Tryz.func76
abbrev Tv:=(R:Type)→Tq31→Int→(Int→Tq31→Option R)→Option R
def zkg (F:Tv):Ent:=eM 121 [(true,Kq31),(false,(.int .i64))] [(false,(.int .i64))] F
def p121:Tv:=fun R a0 a1 k=>
let v1:=decide (a1<0);(match v1 with
|true=>k (3:Int) a0
|false=>let v2:=decide (a1≥a0.1.1.1);(match v2 with
|true=>k (3:Int) a0
|false=>k (0:Int) a0))
theorem q121:EQ (zkg p121) (sE 1 17 [] [] []) Tryz.f121 [(.tmp 4,38,false)]:=fun _ _ _=>by kernel_rfl
def F121:Tv:=p121
theorem zyy:OKP (zkg F121):=ST.ok0 q121 Ab Tryz.func121
abbrev Tu:=(R:Type)→LI→(Int→Option R)→Option R
def ztn (F:Tu):Ent:=eV 122 [(.sl (.int .u64))] [(.int .i64)] F
abbrev zpi (Z:Type):=Int→LI→Int→Int→Z
abbrev zw1 (R:Type):=(Int→Option R)→Option R
abbrev Mr:=(R:Type)→zpi (zw1 R)
def Zn (L:Mr):LEnt:=lM 2 [.val 2 (.int .i64),.val 5 (.sl (.int .u64)),.val 6 (.int .i64),.val 7 (.int .i64)] 0 [(.exit 0,[.val 2 (.int .i64)])] L
def e122 (L2:Mr):=sE 0 17 [] [] [Zn L2]
def zh7 (R:Type):zpi (zpi (Option R)→zw1 R):=fun x1 x2 x3 x4 kc k0=>
let v5:=decide (x4<x3);(match v5 with
|true=>(match bnd x4 x2.length with
|true=>let v6:=x2.getD x4.toNat 0;let v7:=decide (v6>0);(match v7 with
|true=>let v8:=IntKind.i64.wrap (x1+1);let v9:=IntKind.i64.wrap (x4+1);kc v8 x2 x3 v9
|false=>let v10:=IntKind.i64.wrap (x4+1);kc x1 x2 x3 v10)
|false=>none)
|false=>k0 x1)
theorem q122_2 (L2:Mr):LEQ (Zn L2) (e122 L2) Tryz.f122 zh7:=fun _ _ _ _=>by kernel_rfl
def Qb:Nat→Mr
 | 0=>fun _ _ _ _ _ _=>none
 | n+1=>fun R x1 x2 x3 x4 k0=>zh7 R x1 x2 x3 x4 (fun x1 x2 x3 x4=>Qb n R x1 x2 x3 x4 k0) k0
def p122 (L2:Mr):Tu:=fun R a0 k=>
let v1:=(a0.length:Int);L2 R (0:Int) a0 v1 (0:Int) (fun x2=>
k x2)
theorem q122 (L2:Mr):EQ (ztn (p122 L2)) (e122 L2) Tryz.f122 [(.tmp 2,3,false)]:=fun _ _ _=>by kernel_rfl
def F122:Tu:=p122 (Qb FUEL)
theorem zr5:LKP (Zn (Qb FUEL)) 0 17 2 Tryz.f122:=ST.lok (q122_2 (Qb FUEL)) Ab [] trivial
theorem zyx:OKP (ztn F122):=ST.ok1 (q122 (Qb FUEL)) Ab Tryz.func122 [2] ⟨⟨_,rfl,zr5⟩,trivial⟩
abbrev FT77:=(R:Type)→Tq31→Tq6→(Int→Tq31→Option R)→Option R
def en77 (F:FT77):Ent:=eM 77 [(true,Kq31),(false,Kq6)] [(false,(.int .i64))] F
def p77 (F121:Tv) (F122:Tu) (F123:K7):FT77:=fun R a0 a1 k=>
F121 R a0 a1.2.2.2.2.1 fun y1 p2=>
let v3:=y1 !=0;(match v3 with
|true=>k y1 p2
|false=>F123 R p2.1.2.2.1 fun y4=>
F122 R y4 fun y5=>
let v6:=y5==0;(match v6 with
|true=>k (10:Int) p2
|false=>(match bnd a1.2.2.2.2.1 p2.1.2.2.2.2.1.length with
|true=>let v7:=p2.1.2.2.2.2.1.getD a1.2.2.2.2.1.toNat 0;let v8:=v7==(-1:Int);(match v8 with
|true=>k (9:Int) p2
|false=>(match bnd a1.2.2.2.2.1 p2.1.2.2.2.2.1.length with
|true=>let v9:=p2.1.2.2.2.2.1.getD a1.2.2.2.2.1.toNat 0;let v10:=([v9]:LI);k (0:Int) (p2.1,(p2.2.1.1,p2.2.1.2.1,v10,p2.2.1.2.2.2),p2.2.2)
|false=>none))
|false=>none)))
theorem q77 (F121:Tv) (F122:Tu) (F123:K7):EQ (en77 (p77 F121 F122 F123)) (sE 1 45 [] [zkg F121,ztn F122,Zy F123] []) Tryz.f77 [(.tmp 4,38,false)]:=fun _ _ _=>by kernel_rfl
def F77:FT77:=p77 F121 F122 F123
theorem ok77:OKP (en77 F77):=ST.ok0 (q77 F121 F122 F123) (Aa zyy (Aa zyx (Aa zie Ab))) Tryz.func77
abbrev W2:=(R:Type)→Int→Int→(Int→Bool→Option R)→Option R
def zs4 (F:W2):Ent:=eV 245 [(.int .u64),(.int .u64)] [(.int .u64),.bool] F
def p245 (F105:zbx) (F196:zbc):W2:=fun R a0 a1 k=>
F105 R a0 a1 fun y1 y2=>
F196 R y2 y1 fun y3 y4=>
k y3 y4
theorem q245 (F105:zbx) (F196:zbc):EQ (zs4 (p245 F105 F196)) (sE 0 19 [] [ztr F105,zs9 F196] []) Tryz.f245 [(.tmp 4,31,false),(.tmp 5,4,false)]:=fun _ _ _=>by kernel_rfl
def F245:W2:=p245 F105 F196
theorem ok245:OKP (zs4 F245):=ST.ok0 (q245 F105 F196) (Aa ok105 (Aa ok196 Ab)) Tryz.func245
abbrev W6:=(R:Type)→LI→(Int→Int→Option R)→Option R
def en229 (F:W6):Ent:=eV 229 [(.sl (.int .u64))] [(.int .u64),(.int .i64)] F
def p229 (F136:J4) (F245:W2):W6:=fun R a0 k=>
let v1:=(a0.length:Int);let v2:=IntKind.u64.wrap v1;let v3:=v2==0;(match v3 with
|true=>k (0:Int) (10:Int)
|false=>F136 R a0 fun y4 y5=>
(match (!y5) with
|true=>k (0:Int) (11:Int)
|false=>let v6:=y4==0;(match v6 with
|true=>k (0:Int) (10:Int)
|false=>F245 R v2 y4 fun y7 y8=>
(match (!y8) with
|true=>k (0:Int) (11:Int)
|false=>k y4 (0:Int)))))
theorem q229 (F136:J4) (F245:W2):EQ (en229 (p229 F136 F245)) (sE 0 32 [] [zfg F136,zs4 F245] []) Tryz.f229 [(.tmp 2,31,false),(.tmp 3,38,false)]:=fun _ _ _=>by kernel_rfl
def F229:W6:=p229 F136 F245
theorem ok229:OKP (en229 F229):=ST.ok0 (q229 F136 F245) (Aa zid (Aa ok245 Ab)) Tryz.func229
abbrev zmn:=(R:Type)→LI→(Tq44→Int→Option R)→Option R
def en207 (F:zmn):Ent:=eV 207 [(.sl (.int .u64))] [Kq44,(.int .i64)] F
abbrev zov (Z:Type):=LI→Int→LI→Int→Int→Tq44→LI→(List Tq13)→LI→LI→(Int×Unit)→Z
abbrev zwe (R:Type):=(Tq44→LI→(List Tq13)→LI→LI→(Int×Unit)→Option R)→Option R
abbrev Jt:=(R:Type)→zov (zwe R)
def Y0 (L:Jt):LEnt:=lM 7 [.val 0 (.sl (.int .u64)),.fix 2 (.ptr 0 [] Kq44),.val 4 (.int .u64),.fix 6 (.mptr 6 0 Kq46),.val 28 (.sl (.int .u64)),.val 29 (.int .i64),.val 30 (.int .i64),.var 0 Kq44 false,.row 1 (.int .u64) false,.row 2 Kq13 false,.row 4 (.int .i64) false,.row 5 (.int .i64) false,.mix 6 [((.int .u64),none),((.sl Kq13),some 2),((.sl (.int .u64)),some 1),((.sl (.int .i64)),some 4),((.sl (.int .i64)),some 5)]] 7 [(.exit 0,[.fix 2 (.ptr 0 [] Kq44),.fix 6 (.mptr 6 0 Kq46),.var 0 Kq44 false,.row 1 (.int .u64) false,.row 2 Kq13 false,.row 4 (.int .i64) false,.row 5 (.int .i64) false,.mix 6 [((.int .u64),none),((.sl Kq13),some 2),((.sl (.int .u64)),some 1),((.sl (.int .i64)),some 4),((.sl (.int .i64)),some 5)]])] L
abbrev zb5 (Z:Type):=Tq44→LI→(List Tq13)→LI→LI→(Int×Unit)→Z
abbrev zoi (R:Type):=(Tq44→LI→(List Tq13)→LI→LI→(Int×Unit)→Option R)→Option R
abbrev Ha:=(R:Type)→zb5 (zoi R)
def Su (L:Ha):LEnt:=lM 13 [.fix 2 (.ptr 0 [] Kq44),.fix 6 (.mptr 6 0 Kq46),.var 0 Kq44 false,.row 1 (.int .u64) false,.row 2 Kq13 false,.row 4 (.int .i64) false,.row 5 (.int .i64) false,.mix 6 [((.int .u64),none),((.sl Kq13),some 2),((.sl (.int .u64)),some 1),((.sl (.int .i64)),some 4),((.sl (.int .i64)),some 5)]] 7 [(.exit 2,[.fix 2 (.ptr 0 [] Kq44),.fix 6 (.mptr 6 0 Kq46),.var 0 Kq44 false,.row 1 (.int .u64) false,.row 2 Kq13 false,.row 4 (.int .i64) false,.row 5 (.int .i64) false,.mix 6 [((.int .u64),none),((.sl Kq13),some 2),((.sl (.int .u64)),some 1),((.sl (.int .i64)),some 4),((.sl (.int .i64)),some 5)]])] L
def zkk (R:Type):Env R:=⟨TT,EQT,0,37,Bk [],Bb [] R,fun _ _ _=>none,[],Ba [],[],fun _ _ _ _=>none⟩
theorem zdh (R:Type):Ax Tryz.prog (zkk R):=⟨tabOK,eqOK,Aq Ab,Bu,Ak,noYl⟩
def zuw (R:Type):Env R:=⟨TT,EQT,0,26,Bk [(2,9)],Bb [] R,fun _ _ _=>none,[],Ba [],[],fun _ _ _ _=>none⟩
theorem zst (R:Type):Ax Tryz.prog (zuw R):=⟨tabOK,eqOK,Aq Ab,Bu,Ak,noYl⟩
def zux (R:Type):Env R:=⟨TT,EQT,0,53,Bk [(0,3),(0,7),(3,2)],Bb [] R,fun _ _ _=>none,[],Ba [(230,xinl (zkk R) (Ag Tryz.f230) [] 2),(246,xinl (zuw R) (Ag Tryz.f246) [.tmp 2] 1)],[],fun _ _ _ _=>none⟩
theorem zsu (R:Type):Ax Tryz.prog (zux R):=⟨tabOK,eqOK,Aq Ab,Bu,(A6 (A9 (zdh R) mixed Tryz.func230 (body:=Ag Tryz.f230) (by kernel_rfl) (by kernel_rfl) (by kernel_rfl) (res:=[]) (by kernel_rfl) (n:=2) (Nat.le_of_ble_eq_true rfl) (by kernel_rfl)) (A6 (A9 (zst R) mixed Tryz.func246 (body:=Ag Tryz.f246) (by kernel_rfl) (by kernel_rfl) (by kernel_rfl) (res:=[.tmp 2]) (by kernel_rfl) (n:=1) (Nat.le_of_ble_eq_true rfl) (by kernel_rfl)) Ak)),noYl⟩
def e207 (F229:W6) (L7:Jt) (L13:Ha) (R:Type):Env R:=⟨TT,EQT,0,84,Bk [(4,3),(4,4),(11,2),(14,1)],Bb [en229 F229] R,Bj [Y0 L7,Su L13] R,[],Ba [(230,xinl (zkk R) (Ag Tryz.f230) [] 2),(231,xinl (zux R) (Ag Tryz.f231) [] 1)],[],fun _ _ _ _=>none⟩
def zho (R:Type):zov (zov (Option R)→zwe R):=fun x1 x2 x3 x4 x5 x6 x7 x8 x9 x10 x11 kc k0=>
let v12:=decide (x5<x4);(match v12 with
|true=>(match bnd x5 x3.length with
|true=>let v13:=x3.getD x5.toNat 0;let v14:=(x1.length:Int);let v15:=IntKind.u64.wrap v14;let v16:=IntKind.u64.wrap (v13*v15);(match bnd x5 x7.length with
|true=>let v17:=x7.set x5.toNat v16;let v18:=([(x2,x5,())]:(List Tq13));(match (decide (x8.length+v18.length≤8796093022208)) with
|true=>let v19:=x8++v18;(match bnd x5 v17.length with
|true=>let v20:=v17.getD x5.toNat 0;let v21:=decide (v20<x11.1);(match v21 with
|true=>let v22:=([x5]:LI);(match (decide (x9.length+v22.length≤17592186044416)) with
|true=>let v23:=x9++v22;let v24:=IntKind.i64.wrap (x5+1);kc x1 x2 x3 x4 v24 x6 v17 v19 v23 x10 (x11.1,())
|false=>none)
|false=>let v25:=([x5]:LI);(match (decide (x10.length+v25.length≤17592186044416)) with
|true=>let v26:=x10++v25;let v27:=IntKind.i64.wrap (x5+1);kc x1 x2 x3 x4 v27 x6 v17 v19 x9 v26 (x11.1,())
|false=>none))
|false=>none)
|false=>none)
|false=>none)
|false=>none)
|false=>k0 x6 x7 x8 x9 x10 (x11.1,()))
theorem q207_7 (F229:W6) (L7:Jt) (L13:Ha):LEQ (Y0 L7) (e207 F229 L7 L13) Tryz.f207 zho:=fun _ _ _ _=>by kernel_rfl
def Kz:Nat→Jt
 | 0=>fun _ _ _ _ _ _ _ _ _ _ _ _ _=>none
 | n+1=>fun R x1 x2 x3 x4 x5 x6 x7 x8 x9 x10 x11 k0=>zho R x1 x2 x3 x4 x5 x6 x7 x8 x9 x10 x11 (fun x1 x2 x3 x4 x5 x6 x7 x8 x9 x10 x11=>Kz n R x1 x2 x3 x4 x5 x6 x7 x8 x9 x10 x11 k0) k0
def X6 (R:Type):zb5 (zb5 (Option R)→zoi R):=fun x1 x2 x3 x4 x5 x6 kc k0=>
let v7:=(x4.length:Int);let v8:=decide (v7>0);(match v8 with
|true=>let v9:=(x5.length:Int);let v10:=decide (v9>0);(match v10 with
|true=>let v11:=(x4.length:Int);let v12:=IntKind.i64.wrap (v11 - 1);(match bnd v12 x4.length with
|true=>let v13:=x4.getD v12.toNat 0;let v14:=(x4.length:Int);let v15:=IntKind.i64.wrap (v14 - 1);(match (decide (0≤v15∧v15≤(x4.length:Int))) with
|true=>let v16:=List.take v15.toNat x4;let v17:=(x5.length:Int);let v18:=IntKind.i64.wrap (v17 - 1);(match bnd v18 x5.length with
|true=>let v19:=x5.getD v18.toNat 0;let v20:=(x5.length:Int);let v21:=IntKind.i64.wrap (v20 - 1);(match (decide (0≤v21∧v21≤(x5.length:Int))) with
|true=>let v22:=List.take v21.toNat x5;(match bnd v13 x2.length with
|true=>let v23:=x2.getD v13.toNat 0;(match bnd v13 x3.length with
|true=>let v24:=x3.set v13.toNat (v23,v19,());(match bnd v19 x2.length with
|true=>let v25:=x2.getD v19.toNat 0;(match bnd v13 x2.length with
|true=>let v26:=x2.getD v13.toNat 0;let v27:=IntKind.u64.wrap (x6.1 - v26);let v28:=IntKind.u64.wrap (v25 - v27);(match bnd v19 x2.length with
|true=>let v29:=x2.set v19.toNat v28;(match bnd v19 v29.length with
|true=>let v30:=v29.getD v19.toNat 0;let v31:=decide (v30<x6.1);(match v31 with
|true=>let v32:=([v19]:LI);(match (decide (v16.length+v32.length≤17592186044416)) with
|true=>let v33:=v16++v32;kc x1 v29 v24 v33 v22 (x6.1,())
|false=>none)
|false=>let v34:=([v19]:LI);(match (decide (v22.length+v34.length≤17592186044416)) with
|true=>let v35:=v22++v34;kc x1 v29 v24 v16 v35 (x6.1,())
|false=>none))
|false=>none)
|false=>none)
|false=>none)
|false=>none)
|false=>none)
|false=>none)
|false=>none)
|false=>none)
|false=>none)
|false=>none)
|false=>k0 x1 x2 x3 x4 x5 (x6.1,()))
|false=>k0 x1 x2 x3 x4 x5 (x6.1,()))
theorem zxl (F229:W6) (L7:Jt) (L13:Ha):LEQ (Su L13) (e207 F229 L7 L13) Tryz.f207 X6:=fun _ _ _ _=>by kernel_rfl
def Gi:Nat→Ha
 | 0=>fun _ _ _ _ _ _ _ _=>none
 | n+1=>fun R x1 x2 x3 x4 x5 x6 k0=>X6 R x1 x2 x3 x4 x5 x6 (fun x1 x2 x3 x4 x5 x6=>Gi n R x1 x2 x3 x4 x5 x6 k0) k0
def p207 (F229:W6) (L7:Jt) (L13:Ha):zmn:=fun R a0 k=>
F229 R a0 fun y1 y2=>
let v3:=y2 !=0;(match v3 with
|true=>k ((0:Int),([]:(List Tq13)),()) y2
|false=>let v4:=(a0.length:Int);(match (decide (0≤v4∧v4≤v4∧v4≤17592186044416)) with
|true=>let v5:=List.replicate v4.toNat (0:Int);let v6:=(a0.length:Int);L7 R a0 y1 a0 v6 (0:Int) ((0:Int),([]:(List Tq13)),()) v5 ([]:(List Tq13)) ([]:LI) ([]:LI) (y1,()) (fun x7 x8 x9 x10 x11 x12=>
L13 R x7 x8 x9 x10 x11 (x12.1,()) (fun x13 x14 x15 x16 x17 x18=>
k (x18.1,x15,()) (0:Int)))
|false=>none))
theorem q207 (F229:W6) (L7:Jt) (L13:Ha):EQ (en207 (p207 F229 L7 L13)) (e207 F229 L7 L13) Tryz.f207 [(.cell 2 269,269,false),(.tmp 3,38,false)]:=fun _ _ _=>by kernel_rfl
def F207:zmn:=p207 F229 (Kz FUEL) (Gi FUEL)
theorem zj1 (R:Type):Ax Tryz.prog (e207 F229 (Kz FUEL) (Gi FUEL) R):=⟨tabOK,eqOK,Aq (Aa ok229 Ab),Bu,(A6 (A9 (zdh R) mixed Tryz.func230 (body:=Ag Tryz.f230) (by kernel_rfl) (by kernel_rfl) (by kernel_rfl) (res:=[]) (by kernel_rfl) (n:=2) (Nat.le_of_ble_eq_true rfl) (by kernel_rfl)) (A6 (A9 (zsu R) mixed Tryz.func231 (body:=Ag Tryz.f231) (by kernel_rfl) (by kernel_rfl) (by kernel_rfl) (res:=[]) (by kernel_rfl) (n:=1) (Nat.le_of_ble_eq_true rfl) (by kernel_rfl)) Ak)),noYl⟩
theorem zrh:LKP (Y0 (Kz FUEL)) 0 84 7 Tryz.f207:=ST.lok3 (q207_7 F229 (Kz FUEL) (Gi FUEL)) zj1 (fun _=>rfl) (fun _=>rfl) (fun _=>rfl) [] trivial
theorem zin:LKP (Su (Gi FUEL)) 0 84 13 Tryz.f207:=ST.lok3 (zxl F229 (Kz FUEL) (Gi FUEL)) zj1 (fun _=>rfl) (fun _=>rfl) (fun _=>rfl) [] trivial
theorem ok207:OKP (en207 F207):=ST.ok3 (q207 F229 (Kz FUEL) (Gi FUEL)) zj1 Tryz.func207 (fun _=>rfl) (fun _=>rfl) (fun _=>rfl) [7,13] ⟨⟨_,rfl,zrh⟩,⟨⟨_,rfl,zin⟩,trivial⟩⟩
abbrev zaz:=(R:Type)→Tq13→Tq44→(Bool→Tq44→Option R)→Option R
def en248 (F:zaz):Ent:=eM 248 [(false,Kq13),(true,Kq44)] [(false,.bool)] F
def p248:zaz:=fun R a0 a1 k=>
let v1:=decide (a0.1>a1.1);(match v1 with
|true=>k true a1
|false=>let v2:=decide (a0.2.1<0);(match v2 with
|true=>k true a1
|false=>let v3:=(a1.2.1.length:Int);let v4:=decide (a0.2.1≥v3);k v4 a1))
theorem q248:EQ (en248 p248) (sE 1 22 [] [] []) Tryz.f248 [(.tmp 3,4,false)]:=fun _ _ _=>by kernel_rfl
def F248:zaz:=p248
theorem ok248:OKP (en248 F248):=ST.ok0 q248 Ab Tryz.func248
abbrev Hb:Type 1:=(R:Type)→(List Tq13)→Tq44→(Int→Tq44→Option R)→Option R
def C6 (F:Hb):EntC:=⟨255,248,Kq44,[(false,(.sl Kq13))],[(false,(.int .i64))],fun R x c k=>F R x.1 c (fun y1 c1=>k (y1,()) () c1)⟩
def Uq:List (ResultVar×TypeId×Bool):=[(.tmp 4,3,false)]
abbrev Ff:Type 1:=(R:Type)→(List Tq13)→Int→Int→Tq44→(Int→Tq44→Option R)→(Tq44→Option R)→Option R
def Bl (L:Ff):LEnt:=⟨2,[.val 0 (.sl Kq13),.fix 1 (.clo 248 [(0,Kq44)]),.val 7 (.int .i64),.val 8 (.int .i64),.var 0 Kq44 false],1,[(.ret,[.val 4 (.int .i64),.var 0 Kq44 false]),(.exit 0,[.var 0 Kq44 false])],fun R x ke=>L R x.1 x.2.1 x.2.2.1 x.2.2.2.1 (fun y1 y2=>ke.1 (y1,y2,())) (fun y1=>ke.2.1 (y1,()))⟩
def O5 (F248:zaz) (L2:Ff) (R:Type):Env R:=⟨TT,EQT,1,19,Bk [],Bb [en248 F248] R,Bj [Bl L2] R,[],Ba [],[],fun _ _ _ _=>none⟩
def Kh (F248:zaz):(R:Type)→(List Tq13)→Int→Int→Tq44→((List Tq13)→Int→Int→Tq44→Option R)→(Int→Tq44→Option R)→(Tq44→Option R)→Option R:=fun R x1 x2 x3 x4 kc k0 k1=>
let v5:=decide (x3<x2);(match v5 with
|true=>(match bnd x3 x1.length with
|true=>let v6:=x1.getD x3.toNat (0,0,());F248 R v6 x4 fun y7 p8=>
(match y7 with
|true=>k0 x3 p8
|false=>let v9:=IntKind.i64.wrap (x3+1);kc x1 x2 v9 p8)
|false=>none)
|false=>k1 x4)
theorem zg1 (F248:zaz) (L2:Ff) (R:Type) (x:HT (Bl L2).H) (kc:HT (Bl L2).H→Option R) (ke:KT R (Bl L2).exs):
 exec (O5 F248 L2 R) (Cb 2 (Ag Tryz.f255)) (stOf (Bl L2).H x 1) (M0 (Bl L2).H (Bl L2).exs kc ke)=
  Kh F248 R x.1 x.2.1 x.2.2.1 x.2.2.2.1 (fun x1 x2 x3 x4=>kc (x1,x2,x3,x4,())) (fun y1 y2=>ke.1 (y1,y2,())) (fun y1=>ke.2.1 (y1,())):=by kernel_rfl
def Bc:Nat→Ff
 | 0=>fun _ _ _ _ _ _ _=>none
 | n+1=>fun R x1 x2 x3 x4 k0 k1=>Kh F248 R x1 x2 x3 x4 (fun x1 x2 x3 x4=>Bc n R x1 x2 x3 x4 k0 k1) k0 k1
def X4 (L2:Ff):Hb:=fun R a0 c0 k=>
let v1:=(a0.length:Int);L2 R a0 v1 (0:Int) c0 (fun x2 x3=>
k x2 x3) (fun x4=>
k (-1:Int) x4)
theorem zxj (F248:zaz) (L2:Ff) (F:Hb) (R:Type) (x:AT (C6 F).ins) (c:(C6 F).ck.T) (k:RT (C6 F).outs→PT (C6 F).ins→(C6 F).ck.T→Option R):
 xfun (O5 F248 L2 R) (Ag Tryz.f255) Uq (avs (C6 F).ins x++[AV.clo 248 (C6 F).ck c]) (zsq (C6 F).outs (C6 F).ins (C6 F).ck k)=X4 L2 R x.1 c (fun y1 c1=>k (y1,()) () c1):=by kernel_rfl
def Dr:Hb:=X4 (Bc FUEL)
theorem Vs (R:Type):Ax Tryz.prog (O5 F248 (Bc FUEL) R):=⟨tabOK,eqOK,Aq (Aa ok248 Ab),Bu,Ak,noYl⟩
def Ia:(R:Type)→HT (Bl (Bc FUEL)).H→(HT (Bl (Bc FUEL)).H→Option R)→KT R (Bl (Bc FUEL)).exs→Option R:=fun R x kc ke=>Kh F248 R x.1 x.2.1 x.2.2.1 x.2.2.2.1 (fun x1 x2 x3 x4=>kc (x1,x2,x3,x4,())) (fun y1 y2=>ke.1 (y1,y2,())) (fun y1=>ke.2.1 (y1,()))
theorem ze3:∀(n:Nat) (R:Type) (x:HT (Bl (Bc FUEL)).H) (ke:KT R (Bl (Bc FUEL)).exs),iter Ia n R x ke=Bc n R x.1 x.2.1 x.2.2.1 x.2.2.2.1 (fun y1 y2=>ke.1 (y1,y2,())) (fun y1=>ke.2.1 (y1,())):=by
 intro n
 induction n with
 | zero=>intro R x ke; rfl
 | succ n ih=>
  intro R x ke;show Ia R x (fun x'=>iter Ia n R x' ke) ke=_
  rw [show (fun x'=>iter Ia n R x' ke)=fun x=>Bc n R x.1 x.2.1 x.2.2.1 x.2.2.2.1 (fun y1 y2=>ke.1 (y1,y2,())) (fun y1=>ke.2.1 (y1,())) from funext fun x'=>ih R x' ke];rfl
theorem Yk:(Bl (Bc FUEL)).OK Tryz.prog 1 19 (Cb 2 (Ag Tryz.f255)):=⟨⟨fun _ h=>(by cases h),by kernel_rfl⟩,fun R x ke r h=>
 D6 (fun R=>O5 F248 (Bc FUEL) R) 1 19 (fun _=>rfl) (fun _=>rfl) (fun R=>Vs R) mixed (by
  intro R;rw [show Al (Cb 2 (Ag Tryz.f255))=[] from by kernel_rfl];exact Bv) (fun _ h=>(by cases h)) (Kn (by kernel_rfl)) (T:=Ia) (fun R x kc ke=>zg1 F248 (Bc FUEL) R x kc ke) FUEL R x ke r ((ze3 FUEL R x ke).trans h)⟩
theorem zqq:(C6 Dr).OK Tryz.prog:=
 zj4 (Ef:=fun R=>O5 F248 (Bc FUEL) R) (fun R=>Vs R) mixed Tryz.func255 (body:=Ag Tryz.f255) (by kernel_rfl) (by kernel_rfl) (np:=1) (nt:=19) (fun _=>rfl) (fun _=>rfl) (by kernel_rfl) (res:=Uq) (by kernel_rfl) (fun _ _=>rfl) (fun _ _=>Nat.le_of_ble_eq_true rfl) (by
  intro R;rw [show Al (Ag Tryz.f255)=[Cb 2 (Ag Tryz.f255)] from by kernel_rfl];exact (Ah (G4 (e:=Bl (Bc FUEL)) rfl rfl Yk) Bv)) (fun R x c k=>zxj F248 (Bc FUEL) Dr R x c k)
abbrev Hc:Type 1:=(R:Type)→(List Tq13)→Tq44→(Bool→Tq44→Option R)→Option R
def C7 (F:Hc):EntC:=⟨247,248,Kq44,[(false,(.sl Kq13))],[(false,.bool)],fun R x c k=>F R x.1 c (fun y1 c1=>k (y1,()) () c1)⟩
def Ur:List (ResultVar×TypeId×Bool):=[(.tmp 4,4,false)]
def Zz (Dr:Hb) (R:Type):Env R:=⟨TT,EQT,1,9,Bk [],Ln [C6 Dr] [] [] R,Bj [] R,[],Ba [],[],fun _ _ _ _=>none⟩
def X5 (Dr:Hb):Hc:=fun R a0 c0 k=>
Dr R a0 c0 fun y1 p2=>
let v3:=decide (y1≥0);k v3 p2
theorem zxk (Dr:Hb) (F:Hc) (R:Type) (x:AT (C7 F).ins) (c:(C7 F).ck.T) (k:RT (C7 F).outs→PT (C7 F).ins→(C7 F).ck.T→Option R):
 xfun (Zz Dr R) (Ag Tryz.f247) Ur (avs (C7 F).ins x++[AV.clo 248 (C7 F).ck c]) (zsq (C7 F).outs (C7 F).ins (C7 F).ck k)=X5 Dr R x.1 c (fun y1 c1=>k (y1,()) () c1):=by kernel_rfl
def D7:Hc:=X5 Dr
theorem zj0 (R:Type):Ax Tryz.prog (Zz Dr R):=⟨tabOK,eqOK,Lm (V7 zqq zdp) E7 Ab,Bu,Ak,noYl⟩
theorem zqr:(C7 D7).OK Tryz.prog:=
 zj4 (Ef:=fun R=>Zz Dr R) (fun R=>zj0 R) mixed Tryz.func247 (body:=Ag Tryz.f247) (by kernel_rfl) (by kernel_rfl) (np:=1) (nt:=9) (fun _=>rfl) (fun _=>rfl) (by kernel_rfl) (res:=Ur) (by kernel_rfl) (fun _ _=>rfl) (fun _ _=>Nat.le_of_ble_eq_true rfl) (by
  intro R;rw [show Al (Ag Tryz.f247)=[] from by kernel_rfl];exact Bv) (fun R x c k=>zxk Dr D7 R x c k)
abbrev Qd:=(R:Type)→Tq44→(Bool→Option R)→Option R
def zfd (F:Qd):Ent:=eV 232 [Kq44] [.bool] F
def e232 (F245:W2) (D7:Hc) (R:Type):Env R:=⟨TT,EQT,0,33,Bk [],Ln [C7 D7] [] [zs4 F245] R,Bj [] R,[],Ba [],[],fun _ _ _ _=>none⟩
def p232 (F245:W2) (D7:Hc):Qd:=fun R a0 k=>
let v1:=(a0.2.1.length:Int);let v2:=IntKind.u64.wrap v1;F245 R v2 a0.1 fun y3 y4=>
(match (!y4) with
|true=>k false
|false=>let v5:=(a0.2.1.length:Int);let v6:=v5==0;(match v6 with
|true=>k false
|false=>let v7:=a0.1==0;(match v7 with
|true=>k false
|false=>D7 R a0.2.1 a0 fun y8 p9=>
k (!y8))))
theorem q232 (F245:W2) (D7:Hc):EQ (zfd (p232 F245 D7)) (e232 F245 D7) Tryz.f232 [(.tmp 2,4,false)]:=fun _ _ _=>by kernel_rfl
def F232:Qd:=p232 F245 D7
theorem env232 (R:Type):Ax Tryz.prog (e232 F245 D7 R):=⟨tabOK,eqOK,Lm (V7 zqr zdp) E7 (Aa ok245 Ab),Bu,Ak,noYl⟩
theorem zqs:OKP (zfd F232):=ST.ok3 (q232 F245 D7) env232 Tryz.func232 (fun _=>rfl) (fun _=>rfl) (fun _=>rfl) [] trivial
abbrev za1:=(R:Type)→Tq44→(Int→Option R)→Option R
def zs5 (F:za1):Ent:=eV 233 [Kq44] [(.int .u64)] F
def p233 (F232:Qd):za1:=fun R a0 k=>
F232 R a0 fun y1=>
(match (!y1) with
|true=>k (0:Int)
|false=>let v2:=(a0.2.1.length:Int);let v3:=IntKind.u64.wrap v2;let v4:=IntKind.u64.wrap (v3*a0.1);k v4)
theorem q233 (F232:Qd):EQ (zs5 (p233 F232)) (sE 0 13 [] [zfd F232] []) Tryz.f233 [(.tmp 2,31,false)]:=fun _ _ _=>by kernel_rfl
def F233:za1:=p233 F232
theorem ok233:OKP (zs5 F233):=ST.ok0 (q233 F232) (Aa zqs Ab) Tryz.func233
abbrev zma:=(R:Type)→Tq44→Int→(Int→Option R)→Option R
def en256 (F:zma):Ent:=eV 256 [Kq44,(.int .i64)] [(.int .i64)] F
def p256 (F232:Qd):zma:=fun R a0 a1 k=>
F232 R a0 fun y1=>
(match (!y1) with
|true=>k (1:Int)
|false=>let v2:=decide (a1<0);(match v2 with
|true=>k (3:Int)
|false=>let v3:=(a0.2.1.length:Int);let v4:=decide (a1≥v3);(match v4 with
|true=>k (3:Int)
|false=>k (0:Int))))
theorem q256 (F232:Qd):EQ (en256 (p256 F232)) (sE 0 19 [] [zfd F232] []) Tryz.f256 [(.tmp 4,38,false)]:=fun _ _ _=>by kernel_rfl
def F256:zma:=p256 F232
theorem ok256:OKP (en256 F256):=ST.ok0 (q256 F232) (Aa zqs Ab) Tryz.func256
abbrev zmd:=(R:Type)→Tq44→Int→Int→(Int→Int→Option R)→Option R
def en249 (F:zmd):Ent:=eV 249 [Kq44,(.int .i64),(.int .u64)] [(.int .i64),(.int .i64)] F
def p249 (F256:zma):zmd:=fun R a0 a1 a2 k=>
F256 R a0 a1 fun y1=>
let v2:=y1 !=0;(match v2 with
|true=>k (0:Int) y1
|false=>let v3:=decide (a2≥a0.1);(match v3 with
|true=>k (0:Int) (3:Int)
|false=>(match bnd a1 a0.2.1.length with
|true=>let v4:=a0.2.1.getD a1.toNat (0,0,());let v5:=decide (a2≥v4.1);(match v5 with
|true=>k v4.2.1 (0:Int)
|false=>k a1 (0:Int))
|false=>none)))
theorem q249 (F256:zma):EQ (en249 (p249 F256)) (sE 0 32 [] [en256 F256] []) Tryz.f249 [(.tmp 6,3,false),(.tmp 7,38,false)]:=fun _ _ _=>by kernel_rfl
def F249:zmd:=p249 F256
theorem ok249:OKP (en249 F249):=ST.ok0 (q249 F256) (Aa ok256 Ab) Tryz.func249
abbrev zmf:=(R:Type)→Tq44→Int→(Int→Int→Option R)→Option R
def en234 (F:zmf):Ent:=eV 234 [Kq44,(.int .u64)] [(.int .i64),(.int .i64)] F
def p234 (F232:Qd) (F233:za1) (F249:zmd):zmf:=fun R a0 a1 k=>
F232 R a0 fun y1=>
(match (!y1) with
|true=>k (0:Int) (1:Int)
|false=>F233 R a0 fun y2=>
let v3:=decide (a1≥y2);(match v3 with
|true=>k (0:Int) (3:Int)
|false=>(match (!(a0.1==0)) with
|true=>let v4:=IntKind.u64.wrap (Int.tdiv a1 a0.1);let v5:=IntKind.i64.wrap v4;(match (!(a0.1==0)) with
|true=>let v6:=Int.tmod a1 a0.1;F249 R a0 v5 v6 fun y7 y8=>
k y7 y8
|false=>none)
|false=>none)))
theorem q234 (F232:Qd) (F233:za1) (F249:zmd):EQ (en234 (p234 F232 F233 F249)) (sE 0 28 [] [zfd F232,zs5 F233,en249 F249] []) Tryz.f234 [(.tmp 4,3,false),(.tmp 5,38,false)]:=fun _ _ _=>by kernel_rfl
def F234:zmf:=p234 F232 F233 F249
theorem ok234:OKP (en234 F234):=ST.ok0 (q234 F232 F233 F249) (Aa zqs (Aa ok233 (Aa ok249 Ab))) Tryz.func234
abbrev zmm:=(R:Type)→Tq44→Tq40→Int→(Int→Tq40→Int→Option R)→Option R
def en208 (F:zmm):Ent:=eV 208 [Kq44,Kq40,(.int .i64)] [(.int .i64),Kq40,(.int .i64)] F
def p208 (F188:zbf) (F232:Qd) (F233:za1) (F234:zmf):zmm:=fun R a0 a1 a2 k=>
F232 R a0 fun y1=>
(match (!y1) with
|true=>k (0:Int) a1 (1:Int)
|false=>F233 R a0 fun y2=>
F188 R a1 y2 a2 fun y3 y4 y5=>
let v6:=y5 !=0;(match v6 with
|true=>k (0:Int) y4 y5
|false=>F234 R a0 y3 fun y7 y8=>
k y7 y4 y8))
theorem q208 (F188:zbf) (F232:Qd) (F233:za1) (F234:zmf):EQ (en208 (p208 F188 F232 F233 F234)) (sE 0 39 [] [zta F188,zfd F232,zs5 F233,en234 F234] []) Tryz.f208 [(.tmp 6,3,false),(.cell 7 126,126,false),(.tmp 8,38,false)]:=fun _ _ _=>by kernel_rfl
def F208:zmm:=p208 F188 F232 F233 F234
theorem ok208:OKP (en208 F208):=ST.ok0 (q208 F188 F232 F233 F234) (Aa ok188 (Aa zqs (Aa ok233 (Aa ok234 Ab)))) Tryz.func208
abbrev zmu:=(R:Type)→Tq40→Int→LI→(Int→Tq40→Int→Option R)→Option R
def en173 (F:zmu):Ent:=eV 173 [Kq40,(.int .i64),(.sl (.int .u64))] [(.int .i64),Kq40,(.int .i64)] F
def p173 (F207:zmn) (F208:zmm):zmu:=fun R a0 a1 a2 k=>
F207 R a2 fun y1 y2=>
let v3:=y2 !=0;(match v3 with
|true=>k (0:Int) a0 y2
|false=>F208 R y1 a0 a1 fun y4 y5 y6=>
k y4 y5 y6)
theorem q173 (F207:zmn) (F208:zmm):EQ (en173 (p173 F207 F208)) (sE 0 27 [] [en207 F207,en208 F208] []) Tryz.f173 [(.tmp 6,3,false),(.cell 7 126,126,false),(.tmp 8,38,false)]:=fun _ _ _=>by kernel_rfl
def F173:zmu:=p173 F207 F208
theorem ok173:OKP (en173 F173):=ST.ok0 (q173 F207 F208) (Aa ok207 (Aa ok208 Ab)) Tryz.func173
abbrev zm2:=(R:Type)→LI→Int→Int→LI→(Int→Int→Option R)→Option R
def en124 (F:zm2):Ent:=eV 124 [(.arr 32 (.int .u8)),(.int .i64),(.int .i64),(.sl (.int .u64))] [(.int .i64),(.int .i64)] F
def p124 (F62:FT62) (F64:FT64) (F173:zmu):zm2:=fun R a0 a1 a2 a3 k=>
F62 R (a0,a2,()) a1 fun y1=>
(match (!y1) with
|true=>k (0:Int) (1:Int)
|false=>F64 R (a0,a2,()) (2:Int) a1 fun y2=>
F173 R y2 a2 a3 fun y3 y4 y5=>
k y3 y5)
theorem q124 (F62:FT62) (F64:FT64) (F173:zmu):EQ (en124 (p124 F62 F64 F173)) (sE 0 33 [] [en62 F62,en64 F64,en173 F173] []) Tryz.f124 [(.tmp 8,3,false),(.tmp 9,38,false)]:=fun _ _ _=>by kernel_rfl
def F124:zm2:=p124 F62 F64 F173
theorem ok124:OKP (en124 F124):=ST.ok0 (q124 F62 F64 F173) (Aa ok62 (Aa ok64 (Aa ok173 Ab))) Tryz.func124
abbrev FT78:=(R:Type)→Tq31→Tq6→(Int→Tq31→Option R)→Option R
def en78 (F:FT78):Ent:=eM 78 [(true,Kq31),(false,Kq6)] [(false,(.int .i64))] F
def p78 (F121:Tv) (F123:K7) (F124:zm2):FT78:=fun R a0 a1 k=>
F121 R a0 a1.2.2.2.2.1 fun y1 p2=>
let v3:=y1 !=0;(match v3 with
|true=>k y1 p2
|false=>F123 R p2.1.2.2.1 fun y4=>
F124 R p2.1.2.2.2.1.2.1 a1.2.2.2.2.1 p2.1.1.2.2.2.1 y4 fun y5 y6=>
let v7:=([y5]:LI);k y6 (p2.1,(p2.2.1.1,p2.2.1.2.1,v7,p2.2.1.2.2.2),p2.2.2))
theorem q78 (F121:Tv) (F123:K7) (F124:zm2):EQ (en78 (p78 F121 F123 F124)) (sE 1 46 [] [zkg F121,Zy F123,en124 F124] []) Tryz.f78 [(.tmp 4,38,false)]:=fun _ _ _=>by kernel_rfl
def F78:FT78:=p78 F121 F123 F124
theorem ok78:OKP (en78 F78):=ST.ok0 (q78 F121 F123 F124) (Aa zyy (Aa zie (Aa ok124 Ab))) Tryz.func78
abbrev zbt:=(R:Type)→Int→Tq40→Int→(Bool→Option R)→Option R
def en139 (F:zbt):Ent:=eV 139 [(.int .i64),Kq40,(.int .i64)] [.bool] F
def p139 (F186:Mx):zbt:=fun R a0 a1 a2 k=>
let v1:=decide (a0≥0);(match v1 with
|true=>let v2:=decide (a0≤256);(match v2 with
|true=>F186 R a1 fun y3=>
(match y3 with
|true=>let v4:=decide (a2>0);(match v4 with
|true=>let v5:=decide (a2≤64);k v5
|false=>k false)
|false=>k false)
|false=>k false)
|false=>k false)
theorem q139 (F186:Mx):EQ (en139 (p139 F186)) (sE 0 25 [] [zfe F186] []) Tryz.f139 [(.tmp 6,4,false)]:=fun _ _ _=>by kernel_rfl
def F139:zbt:=p139 F186
theorem ok139:OKP (en139 F139):=ST.ok0 (q139 F186) (Aa zib Ab) Tryz.func139
abbrev zbs:=(R:Type)→(LI×Unit)→(LI→Option R)→Option R
def en140 (F:zbs):Ent:=eV 140 [(.pair (.sl (.int .u64)) .unit)] [(.sl (.int .u64))] F
abbrev zpb (Z:Type):=Int→LI→Z
abbrev zwu (R:Type):=(LI→Option R)→Option R
abbrev Mo:=(R:Type)→zpb (zwu R)
def Zg (L:Mo):LEnt:=lM 3 [.fix 3 (.own 1 0),.val 4 (.int .i64),.row 1 (.int .u64) false] 2 [(.exit 0,[.fix 3 (.own 1 0),.row 1 (.int .u64) false])] L
def e140 (F137:K6) (F138:Hi) (L3:Mo):=sE 0 36 [] [ztm F137,zff F138] [Zg L3]
def zcy (F138:Hi) (R:Type):zpb (zpb (Option R)→zwu R):=fun x1 x2 kc k0=>
let v3:=decide (x1>0);(match v3 with
|true=>F138 R x1 fun y4=>
let v5:=IntKind.i64.wrap (x1+y4);let v6:=(x2.length:Int);let v7:=decide (v5≤v6);(match v7 with
|true=>let v8:=IntKind.i64.wrap (v5 - 1);(match bnd v8 x2.length with
|true=>let v9:=x2.getD v8.toNat 0;let v10:=IntKind.i64.wrap (x1 - 1);(match bnd v10 x2.length with
|true=>let v11:=x2.getD v10.toNat 0;let v12:=IntKind.u64.wrap (v9 - v11);(match bnd v8 x2.length with
|true=>let v13:=x2.set v8.toNat v12;let v14:=IntKind.i64.wrap (x1 - 1);kc v14 v13
|false=>none)
|false=>none)
|false=>none)
|false=>let v15:=IntKind.i64.wrap (x1 - 1);kc v15 x2)
|false=>k0 x2)
theorem q140_3 (F137:K6) (F138:Hi) (L3:Mo):LEQ (Zg L3) (e140 F137 F138 L3) Tryz.f140 (zcy F138):=fun _ _ _ _=>by kernel_rfl
def Nh:Nat→Mo
 | 0=>fun _ _ _ _=>none
 | n+1=>fun R x1 x2 k0=>zcy F138 R x1 x2 (fun x1 x2=>Nh n R x1 x2 k0) k0
def p140 (F137:K6) (L3:Mo):zbs:=fun R a0 k=>
F137 R a0.1 fun y1=>
let v2:=(y1.length:Int);L3 R v2 y1 (fun x3=>
k x3)
theorem q140 (F137:K6) (F138:Hi) (L3:Mo):EQ (en140 (p140 F137 L3)) (e140 F137 F138 L3) Tryz.f140 [(.tmp 2,54,false)]:=fun _ _ _=>by kernel_rfl
def F140:zbs:=p140 F137 (Nh FUEL)
theorem zry:LKP (Zg (Nh FUEL)) 0 36 3 Tryz.f140:=ST.lok (q140_3 F137 F138 (Nh FUEL)) (Aa zet (Aa U5 Ab)) [] trivial
theorem ok140:OKP (en140 F140):=ST.ok1 (q140 F137 F138 (Nh FUEL)) (Aa zet (Aa U5 Ab)) Tryz.func140 [3] ⟨⟨_,rfl,zry⟩,trivial⟩
abbrev zbe:=(R:Type)→(LI×Unit)→Int→(Int→Int→Option R)→Option R
def en190 (F:zbe):Ent:=eV 190 [(.pair (.sl (.int .u64)) .unit),(.int .i64)] [(.int .u64),(.int .i64)] F
def p190 (F221:za5) (F222:Mw):zbe:=fun R a0 a1 k=>
let v1:=decide (a1<0);(match v1 with
|true=>k (0:Int) (3:Int)
|false=>F222 R a0 fun y2=>
let v3:=decide (a1≥y2);(match v3 with
|true=>k (0:Int) (3:Int)
|false=>let v4:=IntKind.i64.wrap (a1+1);F221 R a0 v4 fun y5=>
F221 R a0 a1 fun y6=>
let v7:=IntKind.u64.wrap (y5 - y6);k v7 (0:Int)))
theorem q190 (F221:za5) (F222:Mw):EQ (en190 (p190 F221 F222)) (sE 0 22 [] [zs6 F221,zj9 F222] []) Tryz.f190 [(.tmp 4,31,false),(.tmp 5,38,false)]:=fun _ _ _=>by kernel_rfl
def F190:zbe:=p190 F221 F222
theorem ok190:OKP (en190 F190):=ST.ok0 (q190 F221 F222) (Aa ok221 (Aa zia Ab)) Tryz.func190
abbrev zbr:=(R:Type)→(LI×Unit)→Int→Int→((LI×Unit)→Int→Option R)→Option R
def en142 (F:zbr):Ent:=eV 142 [(.pair (.sl (.int .u64)) .unit),(.int .i64),(.int .u64)] [(.pair (.sl (.int .u64)) .unit),(.int .i64)] F
abbrev zpa (Z:Type):=Int→Int→Int→(LI×Unit)→LI→Z
abbrev zwt (R:Type):=((LI×Unit)→LI→Option R)→Option R
abbrev Mn:=(R:Type)→zpa (zwt R)
def Zf (L:Mn):LEnt:=lM 9 [.val 2 (.int .u64),.fix 6 (.ptr 1 [] (.pair (.sl (.int .u64)) .unit)),.val 8 (.int .u64),.fix 12 (.own 2 0),.val 13 (.int .i64),.var 1 (.pair (.sl (.int .u64)) .unit) false,.row 2 (.int .u64) false] 3 [(.exit 0,[.fix 6 (.ptr 1 [] (.pair (.sl (.int .u64)) .unit)),.fix 12 (.own 2 0),.var 1 (.pair (.sl (.int .u64)) .unit) false,.row 2 (.int .u64) false])] L
def e142 (F137:K6) (F138:Hi) (F155:K5) (F187:K4) (F190:zbe) (L9:Mn):=sE 0 64 [] [ztm F137,zff F138,zkf F155,zkc F187,en190 F190] [Zf L9]
def zh2 (F138:Hi) (R:Type):zpa (zpa (Option R)→zwt R):=fun x1 x2 x3 x4 x5 kc k0=>
let v6:=(x5.length:Int);let v7:=decide (x3≤v6);(match v7 with
|true=>let v8:=IntKind.i64.wrap (x3 - 1);let v9:=IntKind.i64.wrap (x3 - 1);(match bnd v9 x5.length with
|true=>let v10:=x5.getD v9.toNat 0;let v11:=IntKind.u64.wrap (v10 - x2);let v12:=IntKind.u64.wrap (v11+x1);(match bnd v8 x5.length with
|true=>let v13:=x5.set v8.toNat v12;F138 R x3 fun y14=>
let v15:=IntKind.i64.wrap (x3+y14);kc x1 x2 v15 x4 v13
|false=>none)
|false=>none)
|false=>k0 x4 x5)
theorem q142_9 (F137:K6) (F138:Hi) (F155:K5) (F187:K4) (F190:zbe) (L9:Mn):LEQ (Zf L9) (e142 F137 F138 F155 F187 F190 L9) Tryz.f142 (zh2 F138):=fun _ _ _ _=>by kernel_rfl
def P9:Nat→Mn
 | 0=>fun _ _ _ _ _ _ _=>none
 | n+1=>fun R x1 x2 x3 x4 x5 k0=>zh2 F138 R x1 x2 x3 x4 x5 (fun x1 x2 x3 x4 x5=>P9 n R x1 x2 x3 x4 x5 k0) k0
def p142 (F137:K6) (F155:K5) (F187:K4) (F190:zbe) (L9:Mn):zbr:=fun R a0 a1 a2 k=>
F190 R a0 a1 fun y1 y2=>
let v3:=y2 !=0;(match v3 with
|true=>k (([]:LI),()) y2
|false=>F187 R a0 fun y4=>
let v5:=IntKind.u64.wrap (y4 - y1);F155 R v5 a2 fun y6 y7=>
(match (!y7) with
|true=>k (([]:LI),()) (11:Int)
|false=>F137 R a0.1 fun y8=>
let v9:=IntKind.i64.wrap (a1+1);L9 R a2 y1 v9 (([]:LI),()) y8 (fun x10 x11=>
k (x11,()) (0:Int))))
theorem q142 (F137:K6) (F138:Hi) (F155:K5) (F187:K4) (F190:zbe) (L9:Mn):EQ (en142 (p142 F137 F155 F187 F190 L9)) (e142 F137 F138 F155 F187 F190 L9) Tryz.f142 [(.cell 6 122,122,false),(.tmp 7,38,false)]:=fun _ _ _=>by kernel_rfl
def F142:zbr:=p142 F137 F155 F187 F190 (P9 FUEL)
theorem zrx:LKP (Zf (P9 FUEL)) 0 64 9 Tryz.f142:=ST.lok (q142_9 F137 F138 F155 F187 F190 (P9 FUEL)) (Aa zet (Aa U5 (Aa zic (Aa zes (Aa ok190 Ab))))) [] trivial
theorem ok142:OKP (en142 F142):=ST.ok1 (q142 F137 F138 F155 F187 F190 (P9 FUEL)) (Aa zet (Aa U5 (Aa zic (Aa zes (Aa ok190 Ab))))) Tryz.func142 [9] ⟨⟨_,rfl,zrx⟩,trivial⟩
abbrev zng:=(R:Type)→(LI×Unit)→Int→Tq40→Int→(LI→Tq40→Int→Option R)→Option R
def en101 (F:zng):Ent:=eV 101 [(.pair (.sl (.int .u64)) .unit),(.int .i64),Kq40,(.int .i64)] [(.sl (.int .i64)),Kq40,(.int .i64)] F
abbrev zpj (Z:Type):=Int→Int→(LI×Unit)→Tq40→LI→Tq40→Z
abbrev zw2 (R:Type):=(Int→Tq40→Option R)→(Tq40→LI→Tq40→Option R)→Option R
abbrev Ms:=(R:Type)→zpj (zw2 R)
def Zo (L:Ms):LEnt:=lM 5 [.val 1 (.int .i64),.val 3 (.int .i64),.fix 4 (.ptr 0 [] (.pair (.sl (.int .u64)) .unit)),.fix 6 (.ptr 1 [] Kq40),.fix 8 (.own 2 0),.fix 9 (.ptr 3 [] Kq40),.var 0 (.pair (.sl (.int .u64)) .unit) false,.var 1 Kq40 false,.row 2 (.int .i64) false,.var 3 Kq40 false] 4 [(.ret,[.fix 8 .nil,.fix 9 (.ptr 3 [] Kq40),.val 10 (.int .i64),.var 3 Kq40 false]),(.exit 1,[.fix 6 (.ptr 1 [] Kq40),.fix 8 (.own 2 0),.fix 9 (.ptr 3 [] Kq40),.var 1 Kq40 false,.row 2 (.int .i64) false,.var 3 Kq40 false])] L
def e101 (F122:Tu) (F139:zbt) (F140:zbs) (F141:Tt) (F142:zbr) (L5:Ms):=sE 0 61 [(0,2)] [ztn F122,en139 F139,en140 F140,ztl F141,en142 F142] [Zo L5]
def zc1 (F141:Tt) (F142:zbr) (R:Type):zpj (zpj (Option R)→zw2 R):=fun x1 x2 x3 x4 x5 x6 kc k0 k1=>
let v7:=(x5.length:Int);let v8:=decide (v7<x1);(match v8 with
|true=>F141 R x3 x4 x2 fun y9 y10 y11=>
let v12:=y11 !=0;(match v12 with
|true=>k0 y11 y10
|false=>let v13:=([y9]:LI);(match (decide (x5.length+v13.length≤17592186044416)) with
|true=>let v14:=x5++v13;F142 R x3 y9 (0:Int) fun y15 y16=>
let v17:=y16 !=0;(match v17 with
|true=>k0 y16 y10
|false=>kc x1 x2 y15 y10 v14 x6)
|false=>none))
|false=>k1 x4 x5 x6)
theorem q101_5 (F122:Tu) (F139:zbt) (F140:zbs) (F141:Tt) (F142:zbr) (L5:Ms):LEQ (Zo L5) (e101 F122 F139 F140 F141 F142 L5) Tryz.f101 (zc1 F141 F142):=fun _ _ _ _=>by kernel_rfl
def Nk:Nat→Ms
 | 0=>fun _ _ _ _ _ _ _ _ _=>none
 | n+1=>fun R x1 x2 x3 x4 x5 x6 k0 k1=>zc1 F141 F142 R x1 x2 x3 x4 x5 x6 (fun x1 x2 x3 x4 x5 x6=>Nk n R x1 x2 x3 x4 x5 x6 k0 k1) k0 k1
def p101 (F122:Tu) (F139:zbt) (F140:zbs) (L5:Ms):zng:=fun R a0 a1 a2 a3 k=>
F139 R a1 a2 a3 fun y1=>
(match (!y1) with
|true=>k ([]:LI) a2 (1:Int)
|false=>F140 R a0 fun y2=>
F122 R y2 fun y3=>
let v4:=decide (y3<a1);(match v4 with
|true=>k ([]:LI) a2 (12:Int)
|false=>L5 R a1 a3 a0 a2 ([]:LI) ((0:Int),([]:LI),(0:Int),(List.replicate 32 (0:Int)),(0:Int),(0:Int),()) (fun x5 x6=>
k ([]:LI) x6 x5) (fun x7 x8 x9=>
k x8 x7 (0:Int))))
theorem q101 (F122:Tu) (F139:zbt) (F140:zbs) (F141:Tt) (F142:zbr) (L5:Ms):EQ (en101 (p101 F122 F139 F140 L5)) (e101 F122 F139 F140 F141 F142 L5) Tryz.f101 [(.tmp 8,35,false),(.cell 9 126,126,false),(.tmp 10,38,false)]:=fun _ _ _=>by kernel_rfl
def F101:zng:=p101 F122 F139 F140 (Nk FUEL)
theorem zr6:LKP (Zo (Nk FUEL)) 0 61 5 Tryz.f101:=ST.lok (q101_5 F122 F139 F140 F141 F142 (Nk FUEL)) (Aa zyx (Aa ok139 (Aa ok140 (Aa zyv (Aa ok142 Ab))))) [] trivial
theorem ok101:OKP (en101 F101):=ST.ok1 (q101 F122 F139 F140 F141 F142 (Nk FUEL)) (Aa zyx (Aa ok139 (Aa ok140 (Aa zyv (Aa ok142 Ab))))) Tryz.func101 [5] ⟨⟨_,rfl,zr6⟩,trivial⟩
abbrev FT63:=(R:Type)→Int→Tq40→Int→LI→(LI→Tq40→Int→Option R)→Option R
def en63 (F:FT63):Ent:=eV 63 [(.int .i64),Kq40,(.int .i64),(.sl (.int .u64))] [(.sl (.int .i64)),Kq40,(.int .i64)] F
def p63 (F100:Tx) (F101:zng):FT63:=fun R a0 a1 a2 a3 k=>
F100 R a3 fun y1 y2=>
let v3:=y2 !=0;(match v3 with
|true=>k ([]:LI) a1 y2
|false=>F101 R y1 a0 a1 a2 fun y4 y5 y6=>
k y4 y5 y6)
theorem q63 (F100:Tx) (F101:zng):EQ (en63 (p63 F100 F101)) (sE 0 30 [] [zts F100,en101 F101] []) Tryz.f63 [(.tmp 8,35,false),(.cell 9 126,126,false),(.tmp 10,38,false)]:=fun _ _ _=>by kernel_rfl
def F63:FT63:=p63 F100 F101
theorem ok63:OKP (en63 F63):=ST.ok0 (q63 F100 F101) (Aa zy0 (Aa ok101 Ab)) Tryz.func63
abbrev FT33:=(R:Type)→LI→Int→Int→Int→LI→(LI→Int→Option R)→Option R
def en33 (F:FT33):Ent:=eV 33 [(.arr 32 (.int .u8)),(.int .i64),(.int .i64),(.int .i64),(.sl (.int .u64))] [(.sl (.int .i64)),(.int .i64)] F
def p33 (F62:FT62) (F63:FT63) (F64:FT64):FT33:=fun R a0 a1 a2 a3 a4 k=>
F62 R (a0,a3,()) a1 fun y1=>
(match (!y1) with
|true=>k ([]:LI) (1:Int)
|false=>F64 R (a0,a3,()) (3:Int) a1 fun y2=>
F63 R a2 y2 a3 a4 fun y3 y4 y5=>
k y3 y5)
theorem q33 (F62:FT62) (F63:FT63) (F64:FT64):EQ (en33 (p33 F62 F63 F64)) (sE 0 36 [] [en62 F62,en63 F63,en64 F64] []) Tryz.f33 [(.tmp 10,35,false),(.tmp 11,38,false)]:=fun _ _ _=>by kernel_rfl
def F33:FT33:=p33 F62 F63 F64
theorem ok33:OKP (en33 F33):=ST.ok0 (q33 F62 F63 F64) (Aa ok62 (Aa ok63 (Aa ok64 Ab))) Tryz.func33
abbrev FT79:=(R:Type)→Tq31→Tq6→(Int→Tq31→Option R)→Option R
def en79 (F:FT79):Ent:=eM 79 [(true,Kq31),(false,Kq6)] [(false,(.int .i64))] F
def p79 (F33:FT33) (F121:Tv) (F123:K7):FT79:=fun R a0 a1 k=>
F121 R a0 a1.2.2.2.2.1 fun y1 p2=>
let v3:=y1 !=0;(match v3 with
|true=>k y1 p2
|false=>F123 R p2.1.2.2.1 fun y4=>
F33 R p2.1.2.2.2.1.2.1 a1.2.2.2.2.1 a1.2.1 p2.1.1.2.2.2.1 y4 fun y5 y6=>
k y6 (p2.1,(p2.2.1.1,p2.2.1.2.1,y5,p2.2.1.2.2.2),p2.2.2))
theorem q79 (F33:FT33) (F121:Tv) (F123:K7):EQ (en79 (p79 F33 F121 F123)) (sE 1 44 [] [en33 F33,zkg F121,Zy F123] []) Tryz.f79 [(.tmp 4,38,false)]:=fun _ _ _=>by kernel_rfl
def F79:FT79:=p79 F33 F121 F123
theorem ok79:OKP (en79 F79):=ST.ok0 (q79 F33 F121 F123) (Aa ok33 (Aa zyy (Aa zie Ab))) Tryz.func79
abbrev FT80:=(R:Type)→Tq31→Tq6→(Int→Tq31→Option R)→Option R
def en80 (F:FT80):Ent:=eM 80 [(true,Kq31),(false,Kq6)] [(false,(.int .i64))] F
def p80 (F113:Qe):FT80:=fun R a0 a1 k=>
F113 R a0 a1.2.1 fun y1 p2=>
let v3:=y1 !=0;(match v3 with
|true=>k y1 p2
|false=>(match bnd a1.2.1 p2.1.2.2.1.length with
|true=>let v4:=p2.1.2.2.1.getD a1.2.1.toNat ((List.replicate 32 0),0,0,());let v5:=a1.2.2.2.2.1==0;(match v5 with
|true=>k (0:Int) (p2.1,(p2.2.1.1,v4.2.1,p2.2.1.2.2),p2.2.2)
|false=>k (0:Int) (p2.1,(p2.2.1.1,v4.2.2.1,p2.2.1.2.2),p2.2.2))
|false=>none))
theorem q80 (F113:Qe):EQ (en80 (p80 F113)) (sE 1 38 [] [zkh F113] []) Tryz.f80 [(.tmp 4,38,false)]:=fun _ _ _=>by kernel_rfl
def F80:FT80:=p80 F113
theorem ok80:OKP (en80 F80):=ST.ok0 (q80 F113) (Aa zyz Ab) Tryz.func80
abbrev FT81:=(R:Type)→Tq31→Tq6→(Int→Tq31→Option R)→Option R
def en81 (F:FT81):Ent:=eM 81 [(true,Kq31),(false,Kq6)] [(false,(.int .i64))] F
def p81:FT81:=fun R a0 a1 k=>
k (0:Int) (a0.1,(a0.2.1.1,a0.1.2.2.2.1.1,a0.2.1.2.2.1,a0.1.2.2.2.1.2.1,a0.2.1.2.2.2.2),a0.2.2)
theorem q81:EQ (en81 p81) (sE 1 25 [] [] []) Tryz.f81 [(.tmp 4,38,false)]:=fun _ _ _=>by kernel_rfl
def F81:FT81:=p81
theorem ok81:OKP (en81 F81):=ST.ok0 q81 Ab Tryz.func81
abbrev FT14:=(R:Type)→Tq29→Tq6→(Tq29→Tq17→Option R)→Option R
def en14 (F:FT14):Ent:=eV 14 [Kq29,Kq6] [Kq29,Kq17] F
def e38i0 (R:Type):Env R:=⟨TT,EQT,0,3,Bk [],Bb [] R,fun _ _ _=>none,[],Ba [],[],fun _ _ _ _=>none⟩
theorem zz5 (R:Type):Ax Tryz.prog (e38i0 R):=⟨tabOK,eqOK,Aq Ab,Bu,Ak,noYl⟩
def e14 (F21:FT21) (F68:FT68) (F69:FT69) (F70:FT70) (F71:FT71) (F74:FT74) (F76:FT76) (F77:FT77) (F78:FT78) (F79:FT79) (F80:FT80) (F81:FT81) (R:Type):Env R:=⟨TT,EQT,0,46,Bk [(1,0)],Bb [en21 F21,en68 F68,en69 F69,en70 F70,en71 F71,en74 F74,en76 F76,en77 F77,en78 F78,en79 F79,en80 F80,en81 F81] R,Bj [] R,[],Ba [(38,xinl (e38i0 R) (Ag Tryz.f38) [.tmp 0] 0)],[(FnV.fn 68),(FnV.fn 69),(FnV.fn 70),(FnV.fn 71),(FnV.fn 74),(FnV.fn 76),(FnV.fn 77),(FnV.fn 78),(FnV.fn 79),(FnV.fn 80),(FnV.fn 81)],fun _ _ _ _=>none⟩
def p14 (F21:FT21) (F68:FT68) (F69:FT69) (F70:FT70) (F71:FT71) (F74:FT74) (F76:FT76) (F77:FT77) (F78:FT78) (F79:FT79) (F80:FT80) (F81:FT81):FT14:=fun R a0 a1 k=>
(match (Option.isNone (B1 (Kd.eqv (.int .i64)) ([]:List (Int×FnV)) (1:Int))) with
|true=>let v1:=([]:List (Int×FnV))++[((1:Int),(FnV.fn 68))];(match (Option.isNone (B1 (Kd.eqv (.int .i64)) v1 (2:Int))) with
|true=>let v2:=v1++[((2:Int),(FnV.fn 69))];(match (Option.isNone (B1 (Kd.eqv (.int .i64)) v2 (3:Int))) with
|true=>let v3:=v2++[((3:Int),(FnV.fn 70))];(match (Option.isNone (B1 (Kd.eqv (.int .i64)) v3 (4:Int))) with
|true=>let v4:=v3++[((4:Int),(FnV.fn 71))];(match (Option.isNone (B1 (Kd.eqv (.int .i64)) v4 (5:Int))) with
|true=>let v5:=v4++[((5:Int),(FnV.fn 74))];(match (Option.isNone (B1 (Kd.eqv (.int .i64)) v5 (6:Int))) with
|true=>let v6:=v5++[((6:Int),(FnV.fn 76))];(match (Option.isNone (B1 (Kd.eqv (.int .i64)) v6 (7:Int))) with
|true=>let v7:=v6++[((7:Int),(FnV.fn 77))];(match (Option.isNone (B1 (Kd.eqv (.int .i64)) v7 (8:Int))) with
|true=>let v8:=v7++[((8:Int),(FnV.fn 78))];(match (Option.isNone (B1 (Kd.eqv (.int .i64)) v8 (9:Int))) with
|true=>let v9:=v8++[((9:Int),(FnV.fn 79))];(match (Option.isNone (B1 (Kd.eqv (.int .i64)) v9 (10:Int))) with
|true=>let v10:=v9++[((10:Int),(FnV.fn 80))];(match (Option.isNone (B1 (Kd.eqv (.int .i64)) v10 (11:Int))) with
|true=>let v11:=v10++[((11:Int),(FnV.fn 81))];let v12:=Option.getD (B1 (Kd.eqv (.int .i64)) v11 a1.1) FnV.nil;let v13:=Option.isSome (B1 (Kd.eqv (.int .i64)) v11 a1.1);(match (!v13) with
|true=>k a0 ((2:Int),(0:Int),([]:LI),(List.replicate 32 (0:Int)),())
|false=>F21 R a1 fun y14=>
(match (!y14) with
|true=>k a0 ((2:Int),(0:Int),([]:LI),(List.replicate 32 (0:Int)),())
|false=>(match (FnV.same v12 (FnV.fn 68)) with
|true=>F68 R (a0,((0:Int),(0:Int),([]:LI),(List.replicate 32 (0:Int)),()),()) a1 fun y15 p16=>
let v17:=y15 !=0;(match v17 with
|true=>k a0 (y15,(0:Int),([]:LI),(List.replicate 32 (0:Int)),())
|false=>k p16.1 p16.2.1)
|false=>(match (FnV.same v12 (FnV.fn 69)) with
|true=>F69 R (a0,((0:Int),(0:Int),([]:LI),(List.replicate 32 (0:Int)),()),()) a1 fun y18 p19=>
let v20:=y18 !=0;(match v20 with
|true=>k a0 (y18,(0:Int),([]:LI),(List.replicate 32 (0:Int)),())
|false=>k p19.1 p19.2.1)
|false=>(match (FnV.same v12 (FnV.fn 70)) with
|true=>F70 R (a0,((0:Int),(0:Int),([]:LI),(List.replicate 32 (0:Int)),()),()) a1 fun y21 p22=>
let v23:=y21 !=0;(match v23 with
|true=>k a0 (y21,(0:Int),([]:LI),(List.replicate 32 (0:Int)),())
|false=>k p22.1 p22.2.1)
|false=>(match (FnV.same v12 (FnV.fn 71)) with
|true=>F71 R (a0,((0:Int),(0:Int),([]:LI),(List.replicate 32 (0:Int)),()),()) a1 fun y24 p25=>
let v26:=y24 !=0;(match v26 with
|true=>k a0 (y24,(0:Int),([]:LI),(List.replicate 32 (0:Int)),())
|false=>k p25.1 p25.2.1)
|false=>(match (FnV.same v12 (FnV.fn 74)) with
|true=>F74 R (a0,((0:Int),(0:Int),([]:LI),(List.replicate 32 (0:Int)),()),()) a1 fun y27 p28=>
let v29:=y27 !=0;(match v29 with
|true=>k a0 (y27,(0:Int),([]:LI),(List.replicate 32 (0:Int)),())
|false=>k p28.1 p28.2.1)
|false=>(match (FnV.same v12 (FnV.fn 76)) with
|true=>F76 R (a0,((0:Int),(0:Int),([]:LI),(List.replicate 32 (0:Int)),()),()) a1 fun y30 p31=>
let v32:=y30 !=0;(match v32 with
|true=>k a0 (y30,(0:Int),([]:LI),(List.replicate 32 (0:Int)),())
|false=>k p31.1 p31.2.1)
|false=>(match (FnV.same v12 (FnV.fn 77)) with
|true=>F77 R (a0,((0:Int),(0:Int),([]:LI),(List.replicate 32 (0:Int)),()),()) a1 fun y33 p34=>
let v35:=y33 !=0;(match v35 with
|true=>k a0 (y33,(0:Int),([]:LI),(List.replicate 32 (0:Int)),())
|false=>k p34.1 p34.2.1)
|false=>(match (FnV.same v12 (FnV.fn 78)) with
|true=>F78 R (a0,((0:Int),(0:Int),([]:LI),(List.replicate 32 (0:Int)),()),()) a1 fun y36 p37=>
let v38:=y36 !=0;(match v38 with
|true=>k a0 (y36,(0:Int),([]:LI),(List.replicate 32 (0:Int)),())
|false=>k p37.1 p37.2.1)
|false=>(match (FnV.same v12 (FnV.fn 79)) with
|true=>F79 R (a0,((0:Int),(0:Int),([]:LI),(List.replicate 32 (0:Int)),()),()) a1 fun y39 p40=>
let v41:=y39 !=0;(match v41 with
|true=>k a0 (y39,(0:Int),([]:LI),(List.replicate 32 (0:Int)),())
|false=>k p40.1 p40.2.1)
|false=>(match (FnV.same v12 (FnV.fn 80)) with
|true=>F80 R (a0,((0:Int),(0:Int),([]:LI),(List.replicate 32 (0:Int)),()),()) a1 fun y42 p43=>
let v44:=y42 !=0;(match v44 with
|true=>k a0 (y42,(0:Int),([]:LI),(List.replicate 32 (0:Int)),())
|false=>k p43.1 p43.2.1)
|false=>(match (FnV.same v12 (FnV.fn 81)) with
|true=>F81 R (a0,((0:Int),(0:Int),([]:LI),(List.replicate 32 (0:Int)),()),()) a1 fun y45 p46=>
let v47:=y45 !=0;(match v47 with
|true=>k a0 (y45,(0:Int),([]:LI),(List.replicate 32 (0:Int)),())
|false=>k p46.1 p46.2.1)
|false=>none)))))))))))))
|false=>none)
|false=>none)
|false=>none)
|false=>none)
|false=>none)
|false=>none)
|false=>none)
|false=>none)
|false=>none)
|false=>none)
|false=>none)
theorem q14 (F21:FT21) (F68:FT68) (F69:FT69) (F70:FT70) (F71:FT71) (F74:FT74) (F76:FT76) (F77:FT77) (F78:FT78) (F79:FT79) (F80:FT80) (F81:FT81):EQ (en14 (p14 F21 F68 F69 F70 F71 F74 F76 F77 F78 F79 F80 F81)) (e14 F21 F68 F69 F70 F71 F74 F76 F77 F78 F79 F80 F81) Tryz.f14 [(.cell 4 37,37,false),(.cell 5 45,45,false)]:=fun _ _ _=>by kernel_rfl
def F14:FT14:=p14 F21 F68 F69 F70 F71 F74 F76 F77 F78 F79 F80 F81
theorem env14 (R:Type):Ax Tryz.prog (e14 F21 F68 F69 F70 F71 F74 F76 F77 F78 F79 F80 F81 R):=⟨tabOK,eqOK,Aq (Aa ok21 (Aa ok68 (Aa ok69 (Aa ok70 (Aa ok71 (Aa ok74 (Aa ok76 (Aa ok77 (Aa ok78 (Aa ok79 (Aa ok80 (Aa ok81 Ab)))))))))))),Bu,(A6 (A9 (zz5 R) mixed Tryz.func38 (body:=Ag Tryz.f38) (by kernel_rfl) (by kernel_rfl) (by kernel_rfl) (res:=[.tmp 0]) (by kernel_rfl) (n:=0) (Nat.le_of_ble_eq_true rfl) (by kernel_rfl)) Ak),noYl⟩
theorem ok14:OKP (en14 F14):=ST.ok3 (q14 F21 F68 F69 F70 F71 F74 F76 F77 F78 F79 F80 F81) env14 Tryz.func14 (fun _=>rfl) (fun _=>rfl) (fun _=>rfl) [] trivial
abbrev FT42:=(R:Type)→Tq29→(List Tq6)→(Tq29→(List Tq17)→Option R)→Option R
def en42 (F:FT42):Ent:=eV 42 [Kq29,(.sl Kq6)] [Kq29,(.sl Kq17)] F
abbrev D42_3 (Z:Type):=(List Tq6)→Int→Int→Tq29→Tq29→(List Tq17)→Z
abbrev E42_3 (R:Type):=(Tq29→Tq29→(List Tq17)→Option R)→Option R
abbrev Rn:=(R:Type)→D42_3 (E42_3 R)
def zi7 (L:Rn):LEnt:=lM 3 [.fix 2 (.ptr 0 [] Kq29),.fix 4 (.ptr 1 [] Kq29),.fix 6 (.own 2 0),.val 11 (.sl Kq6),.val 12 (.int .i64),.val 13 (.int .i64),.var 0 Kq29 false,.var 1 Kq29 false,.row 2 Kq17 false] 3 [(.exit 0,[.fix 2 (.ptr 0 [] Kq29),.fix 4 (.ptr 1 [] Kq29),.fix 6 (.own 2 0),.var 0 Kq29 false,.var 1 Kq29 false,.row 2 Kq17 false])] L
def e42 (F14:FT14) (L3:Rn):=sE 0 31 [(1,0)] [en14 F14] [zi7 L3]
def zx9 (F14:FT14) (R:Type):D42_3 (D42_3 (Option R)→E42_3 R):=fun x1 x2 x3 x4 x5 x6 kc k0=>
let v7:=decide (x3<x2);(match v7 with
|true=>(match bnd x3 x1.length with
|true=>let v8:=x1.getD x3.toNat (0,0,0,(List.replicate 32 0),0,());F14 R x4 v8 fun y9 y10=>
let v11:=([y10]:(List Tq17));(match (decide (x6.length+v11.length≤1954687338268)) with
|true=>let v12:=x6++v11;let v13:=IntKind.i64.wrap (x3+1);kc x1 x2 v13 y9 x5 v12
|false=>none)
|false=>none)
|false=>k0 x4 x5 x6)
theorem q42_3 (F14:FT14) (L3:Rn):LEQ (zi7 L3) (e42 F14 L3) Tryz.f42 (zx9 F14):=fun _ _ _ _=>by kernel_rfl
def zak:Nat→Rn
 | 0=>fun _ _ _ _ _ _ _ _=>none
 | n+1=>fun R x1 x2 x3 x4 x5 x6 k0=>zx9 F14 R x1 x2 x3 x4 x5 x6 (fun x1 x2 x3 x4 x5 x6=>zak n R x1 x2 x3 x4 x5 x6 k0) k0
def p42 (L3:Rn):FT42:=fun R a0 a1 k=>
let v1:=(a1.length:Int);L3 R a1 v1 (0:Int) a0 (((0:Int),(0:Int),(0:Int),(0:Int),(0:Int),()),(0:Int),([]:(List Tq11)),((0:Int),(List.replicate 32 (0:Int)),(List.replicate 32 (0:Int)),([]:(List Tq9)),()),([]:LI),([]:LI),()) ([]:(List Tq17)) (fun x2 x3 x4=>
k x2 x4)
theorem q42 (F14:FT14) (L3:Rn):EQ (en42 (p42 L3)) (e42 F14 L3) Tryz.f42 [(.cell 4 37,37,false),(.tmp 5,56,false)]:=fun _ _ _=>by kernel_rfl
def F42:FT42:=p42 (zak FUEL)
theorem zzk:LKP (zi7 (zak FUEL)) 0 31 3 Tryz.f42:=ST.lok (q42_3 F14 (zak FUEL)) (Aa ok14 Ab) [] trivial
theorem ok42:OKP (en42 F42):=ST.ok1 (q42 F14 (zak FUEL)) (Aa ok14 Ab) Tryz.func42 [3] ⟨⟨_,rfl,zzk⟩,trivial⟩
abbrev FT19:=(R:Type)→Tq21→LI→LI→(Tq29→(List Tq17)→Int→Option R)→Option R
def en19 (F:FT19):Ent:=eV 19 [Kq21,(.arr 32 (.int .u8)),(.sl (.int .u8))] [Kq29,(.sl Kq17),(.int .i64)] F
def p19 (F11:FT11) (F13:FT13) (F42:FT42):FT19:=fun R a0 a1 a2 k=>
F11 R a0 a1 fun y1 y2=>
let v3:=y2 !=0;(match v3 with
|true=>k (((0:Int),(0:Int),(0:Int),(0:Int),(0:Int),()),(0:Int),([]:(List Tq11)),((0:Int),(List.replicate 32 (0:Int)),(List.replicate 32 (0:Int)),([]:(List Tq9)),()),([]:LI),([]:LI),()) ([]:(List Tq17)) y2
|false=>let v4:=(a2.length:Int);let v5:=decide (v4>100000);(match v5 with
|true=>k (((0:Int),(0:Int),(0:Int),(0:Int),(0:Int),()),(0:Int),([]:(List Tq11)),((0:Int),(List.replicate 32 (0:Int)),(List.replicate 32 (0:Int)),([]:(List Tq9)),()),([]:LI),([]:LI),()) ([]:(List Tq17)) (14:Int)
|false=>F13 R a2 fun y6=>
let v7:=(y6.length:Int);let v8:=decide (v7>2000);(match v8 with
|true=>k (((0:Int),(0:Int),(0:Int),(0:Int),(0:Int),()),(0:Int),([]:(List Tq11)),((0:Int),(List.replicate 32 (0:Int)),(List.replicate 32 (0:Int)),([]:(List Tq9)),()),([]:LI),([]:LI),()) ([]:(List Tq17)) (14:Int)
|false=>F42 R y1 y6 fun y9 y10=>
k y9 y10 (0:Int))))
theorem q19 (F11:FT11) (F13:FT13) (F42:FT42):EQ (en19 (p19 F11 F13 F42)) (sE 0 41 [] [en11 F11,en13 F13,en42 F42] []) Tryz.f19 [(.cell 6 37,37,false),(.tmp 7,56,false),(.tmp 8,38,false)]:=fun _ _ _=>by kernel_rfl
def F19:FT19:=p19 F11 F13 F42
theorem ok19:OKP (en19 F19):=ST.ok0 (q19 F11 F13 F42) (Aa ok11 (Aa ok13 (Aa ok42 Ab))) Tryz.func19
def Jh:Code→Option (Operand×Array Tmp×Code×Code)
 | .rangeFunc g p a b=>some (g,p,a,b)
 | .seq a b=>match Jh a with
  | some x=>some x
  | none=>Jh b
 | .block _ c=>Jh c
 | _=>none
def rfG (fn:Func):Operand:=match Jh (Ag fn) with | some (g,_,_,_)=>g | none=>.const (.bool false)
def rfP (fn:Func):Array Tmp:=match Jh (Ag fn) with | some (_,p,_,_)=>p | none=>#[]
def rfA (fn:Func):Code:=match Jh (Ag fn) with | some (_,_,a,_)=>a | none=>.skip
def rfB (fn:Func):Code:=match Jh (Ag fn) with | some (_,_,_,b)=>b | none=>.skip
def tm29:List (Nat×SV):=[(8,.mptr 3 0 (.sl Kq37)),(9,.ptr 4 [] Kq37)]
def gs29:SV→Bool
 | .dead=>true
 | .yv i=>Nat.beq i 1000
 | .mptr b _ _=>Nat.beq b 3
 | .ptr b _ _=>Nat.beq b 4
 | _=>false
def d29:RD:=⟨tget tm29,(rfP Tryz.f29).toList,rfA Tryz.f29,rfB Tryz.f29,55,1000⟩
def nt91:NT:=⟨50,gs29,some d29⟩
def e53 (R:Type):Env R:=⟨TT,EQT,0,8,Bk [],fun _ _ _=>none,fun _ _ _=>none,[],Ba [],[],fun _ _ _ _=>none⟩
def e29 (F34:FT34) (F54:FT54) (F55:FT55) (R:Type):Env R:=⟨TT,EQT,0,55,Bk [(0,2),(4,4)],Bb [en34 F34,en54 F54,en55 F55] R,fun _ _ _=>none,[],Ba [(53,xinl (e53 R) (Ag Tryz.f53) [.tmp 6] 3)],[],fun _ _ _ _=>none⟩
abbrev D91 (Z:Type):=Int→Int→Int→List Bool→Int→List Tq6→List Tq17→List Tq37→Unit→Tq37→Z
abbrev E91 (R:Type):=(List Bool→List Tq37→Unit→Tq37→Option R)→Option R
abbrev LT91:=(R:Type)→D91 (E91 R)
abbrev H91:List HI:=[.fix 0 (.yv 1000),.fix 1 (.ptr 6 [] (.sl Kq6)),.fix 2 (.ptr 7 [] (.sl Kq17)),.fix 3 (.ptr 5 [] (.int .i64)),.val 5 (.int .i64),.val 12 (.int .i64),.val 13 (.int .i64),.row 1000 .bool false,.var 5 (.int .i64) false,.var 6 (.sl Kq6) false,.var 7 (.sl Kq17) false,.row 2 Kq37 false,.mix 3 [(.sl Kq37,some 2)],.var 4 Kq37 false]
abbrev X91:Exs:=[(.exit 0,[.fix 0 (.yv 1000),.row 1000 .bool false,.row 2 Kq37 false,.mix 3 [(.sl Kq37,some 2)],.var 4 Kq37 false])]
def le91 (L:LT91):LEnt:=lM 2 H91 8 X91 L
def e91 (F34:FT34) (F54:FT54) (F55:FT55) (L:LT91) (R:Type):Env R:=⟨TT,EQT,0,nt91,Bk [(11,6)],fun _ _ _=>none,Bj [le91 L] R,[],Ba [],[],zf5 (e29 F34 F54 F55 R) tm29 d29⟩
def p91r (F54:FT54) (F55:FT55) (R:Type) (n lim i:Int) (mk:List Bool) (slots:Int) (ops:List Tq6) (ans:List Tq17) (folds:List Tq37) (u:Unit) (f:Tq37) (ends:Bool) (kc:D91 (Option R)):Option R:=
 (match bnd i (ops.length:Int) with
 | true=>
  let o:Tq6:=ops.getD i.toNat ((0:Int),(0:Int),(0:Int),(List.replicate 32 (0:Int)),(0:Int),())
  let tail:Tq37→Option R:=fun f=>(match ends with
   | true=>F55 R f.2.1 f.1 f.2.2.1 fun nx=>(match decide (folds.length+[((f.1,f.2.1,f.2.2.1,nx,()):Tq37)].length≤1353245080339) with
    | true=>kc n lim (IntKind.i64.wrap (i+1)) mk slots ops ans (folds++[(f.1,f.2.1,f.2.2.1,nx,())]) u (IntKind.u64.wrap (f.1+1),nx,List.replicate 32 (0:Int),List.replicate 32 (0:Int),())
    | false=>none)
   | false=>kc n lim (IntKind.i64.wrap (i+1)) mk slots ops ans folds u f)
  (match (o.1==5) with
  | true=>F54 R [f.2.2.1,o.2.2.2.1] fun m=>tail (f.1,f.2.1,m,f.2.2.2)
  | false=>tail f)
 | false=>none)
def p91 (F54:FT54) (F55:FT55) (R:Type):D91 (D91 (Option R)→E91 R):=fun n lim i mk slots ops ans folds u f kc k0=>
 (match decide (i<lim) with
 | true=>(match bnd i (ans.length:Int) with
  | true=>(match ((ans.getD i.toNat ((0:Int),(0:Int),([]:List Int),(List.replicate 32 (0:Int)),())).1 !=0) with
   | true=>kc n lim (IntKind.i64.wrap (i+1)) mk slots ops ans folds u f
   | false=>(match bnd i (ans.length:Int) with
    | true=>(match bnd i (ops.length:Int) with
     | true=>(match ((ops.getD i.toNat ((0:Int),(0:Int),(0:Int),(List.replicate 32 (0:Int)),(0:Int),())).1==6) with
      | true=>(match (IntKind.i64.wrap (n+1)==slots) with
       | true=>p91r F54 F55 R 0 lim i mk slots ops ans folds u f (IntKind.i64.wrap (n+1)==slots) kc
       | false=>p91r F54 F55 R (IntKind.i64.wrap (n+1)) lim i mk slots ops ans folds u f (IntKind.i64.wrap (n+1)==slots) kc)
      | false=>p91r F54 F55 R n lim i mk slots ops ans folds u f false kc)
     | false=>none)
    | false=>none))
  | false=>none)
 | false=>k0 mk folds u f)
theorem q91 (F34:FT34) (F54:FT54) (F55:FT55) (L:LT91):LEQ (le91 L) (e91 F34 F54 F55 L) Tryz.f91 (p91 F54 F55):=fun _ _ _ _=>by kernel_rfl
def G91 (F54:FT54) (F55:FT55):Nat→LT91
 | 0=>fun _ _ _ _ _ _ _ _ _ _ _ _=>none
 | n+1=>fun R x1 x2 x3 x4 x5 x6 x7 x8 x9 x10 k0=>p91 F54 F55 R x1 x2 x3 x4 x5 x6 x7 x8 x9 x10 (fun x1 x2 x3 x4 x5 x6 x7 x8 x9 x10=>G91 F54 F55 n R x1 x2 x3 x4 x5 x6 x7 x8 x9 x10 k0) k0
abbrev FT29:=(R:Type)→Tq21→LI→(List Tq6)→(List Tq17)→(List Tq37→Option R)→Option R
def en29 (F:FT29):Ent:=eM 29 (vI [Kq21,(.arr 32 (.int .u8)),(.sl Kq6),(.sl Kq17)]) [(true,Kq37)] F
def p29 (F34:FT34) (L:LT91):FT29:=fun R c seed ops ans k=>F34 R c fun y=>
 (match (!y) with
 | true=>none
 | false=>L R 0 (if (ans.length:Int)<(ops.length:Int) then (ans.length:Int) else (ops.length:Int)) 0 [] c.1 ops ans [] () ((0:Int),seed,(List.replicate 32 (0:Int)),(List.replicate 32 (0:Int)),()) (fun _ folds _ _=>k folds))
def rg29 (F34:FT34) (F54:FT54) (F55:FT55) (L:LT91) (R:Type):St→(St→Option R)→Option R:=zf6 (e91 F34 F54 F55 L R) tm29 1000 (Ag Tryz.f91) (rfG Tryz.f29) 91
theorem q29 (F34:FT34) (F54:FT54) (F55:FT55) (L:LT91) (R:Type) (x:AT (en29 (p29 F34 L)).ins) (k:RT (en29 (p29 F34 L)).outs→PT (en29 (p29 F34 L)).ins→Option R):
 zpq (e29 F34 F54 F55 R) (rg29 F34 F54 F55 L R) (Ag Tryz.f29) [(.cell 8 71,71,true)] (avs (en29 (p29 F34 L)).ins x) (finK (en29 (p29 F34 L)).outs (en29 (p29 F34 L)).ins k)=(en29 (p29 F34 L)).F R x k:=by kernel_rfl
theorem env53 (R:Type):Ax Tryz.prog (e53 R):=⟨tabOK,eqOK,(fun f b K r h=>by cases h),Bu,Ak,noYl⟩
theorem env29 (R:Type):Ax Tryz.prog (e29 F34 F54 F55 R):=⟨tabOK,eqOK,Aq (Aa ok34 (Aa ok54 (Aa ok55 Ab))),Bu,
 A6 (A9 (env53 R) mixed Tryz.func53 (body:=Ag Tryz.f53) (by kernel_rfl) (by kernel_rfl) (by kernel_rfl) (res:=[.tmp 6]) (by kernel_rfl) (n:=3) (Nat.le_of_ble_eq_true rfl) (by kernel_rfl)) Ak,noYl⟩
theorem env91 (L:LT91) (R:Type):Ax Tryz.prog (e91 F34 F54 F55 L R):=⟨tabOK,eqOK,(fun f b K r h=>by cases h),Bu,Ak,
 zf4 (env29 R) mixed rfl rfl (by decide) (by kernel_rfl) (by kernel_rfl) rfl rfl⟩
theorem zjs:∀sv,nt91.gs sv=true→Hk H91 sv=true∧∀p∈X91,Hk p.2 sv=true:=by
 intro sv h;have h:gs29 sv=true:=h;have key:Hk H91 sv=true∧Hk [.fix 0 (.yv 1000),.row 1000 .bool false,.row 2 Kq37 false,.mix 3 [(.sl Kq37,some 2)],.var 4 Kq37 false] sv=true:=by
  cases sv<;>simp only [gs29,reduceCtorEq] at h
  case dead=>exact ⟨rfl,rfl⟩
  case yv i=>rw [Nat.eq_of_beq_eq_true h]; exact ⟨rfl,rfl⟩
  case mptr b i k=>rw [Nat.eq_of_beq_eq_true h]; exact ⟨rfl,rfl⟩
  case ptr b p k=>rw [Nat.eq_of_beq_eq_true h]; exact ⟨rfl,rfl⟩
 exact ⟨key.1,fun p hp=>by rw [List.mem_singleton.1 hp]; exact key.2⟩
theorem lok91:(le91 (G91 F54 F55 FUEL)).OK Tryz.prog 0 nt91 (Cb 2 (Ag Tryz.f91)):=
 lokX (id:=2) (H:=H91) (nx:=8) (exs:=X91) (G:=G91 F54 F55) (p:=p91 F54 F55) mixed (q91 F34 F54 F55 (G91 F54 F55 FUEL)) (env91 (G91 F54 F55 FUEL)) (fun _=>rfl) (fun _=>rfl) zjs (fun R l hl=>by
  rw [show Al (Cb 2 (Ag Tryz.f91))=[] from by kernel_rfl] at hl; cases hl) (by intro _ _ _; kernel_rfl) (by intro _ _ _ _; kernel_rfl)
theorem hgs29:∀t,gs29 (tget tm29 t)=true:=by
 intro t;unfold tm29;rw [A8]
 by_cases h:t=8
 ·subst h; rw [Ae]; rfl
 ·rw [Ac _ _ h,A8]
  by_cases h:t=9
  ·subst h; rw [Ae]; rfl
  ·rw [Ac _ _ h]; rfl
def F29:FT29:=p29 F34 (G91 F54 F55 FUEL)
theorem rgOK29 (R:Type) (σ:St) (K:St→Option R) (r:R) (h:rg29 F34 F54 F55 (G91 F54 F55 FUEL) R σ K=some r):∃σ',K σ'=some r∧LeadsX 0 (55:Nat) Tryz.prog (.rangeFunc (rfG Tryz.f29) (rfP Tryz.f29) (rfA Tryz.f29) (rfB Tryz.f29)) σ .normal σ':=
 X1 (Ei:=e91 F34 F54 F55 (G91 F54 F55 FUEL) R) (env91 _ R) mixed Tryz.func91 (body:=Ag Tryz.f91) (by kernel_rfl) (by kernel_rfl) (by kernel_rfl) (n0:=55) (gs:=gs29) (by kernel_rfl) rfl hgs29 rfl
  (fun l hl=>by
   rw [show Al (Ag Tryz.f91)=[Cb 2 (Ag Tryz.f91)] from by kernel_rfl] at hl;rw [List.mem_singleton.1 hl];exact G4 (l:=[le91 (G91 F54 F55 FUEL)]) rfl (by kernel_rfl) lok91) σ K r h
theorem ok29:OKP (en29 F29):=
 zz6 (Ef:=fun R=>e29 F34 F54 F55 R) (rg:=fun R=>rg29 F34 F54 F55 (G91 F54 F55 FUEL) R) env29 mixed Tryz.func29 (body:=Ag Tryz.f29) (by kernel_rfl) (by kernel_rfl) (nt:=55) (fun _=>rfl) (fun _=>rfl) (by kernel_rfl) (res:=[(.cell 8 71,71,true)]) (by kernel_rfl)
  (fun _=>rfl) (fun _=>Nat.le_of_ble_eq_true rfl) (fun R l hl=>by
   rw [show Al (Ag Tryz.f29)=[] from by kernel_rfl] at hl; cases hl) (rf:=.rangeFunc (rfG Tryz.f29) (rfP Tryz.f29) (rfA Tryz.f29) (rfB Tryz.f29)) (by
   show Ou _ (Ag Tryz.f29);exact ⟨trivial,⟨trivial,trivial⟩,trivial,⟨trivial,rfl⟩,trivial,trivial⟩) rgOK29 (q29 F34 F54 F55 (G91 F54 F55 FUEL))
abbrev FT24:=(R:Type)→LI→Int→LI→(LI→Option R)→Option R
def en24 (F:FT24):Ent:=eV 24 [(.arr 32 (.int .u8)),(.int .u64),(.arr 32 (.int .u8))] [(.arr 32 (.int .u8))] F
abbrev D24_4 (Z:Type):=Int→LI→LI→LI→LI→Z
abbrev E24_4 (R:Type):=(LI→LI→LI→Option R)→Option R
abbrev Rq:=(R:Type)→D24_4 (E24_4 R)
def zjb (L:Rq):LEnt:=lM 4 [.fix 5 (.ptr 1 [] (.arr 32 (.int .u8))),.fix 6 (.ptr 2 [] (.arr 32 (.int .u8))),.fix 7 (.own 3 0),.fix 8 (.ptr 4 [] (.arr 8 (.int .u8))),.val 9 (.int .i64),.var 1 (.arr 32 (.int .u8)) false,.var 2 (.arr 32 (.int .u8)) false,.row 3 (.int .u8) false,.var 4 (.arr 8 (.int .u8)) false] 5 [(.exit 0,[.fix 5 (.ptr 1 [] (.arr 32 (.int .u8))),.fix 6 (.ptr 2 [] (.arr 32 (.int .u8))),.fix 7 (.own 3 0),.var 1 (.arr 32 (.int .u8)) false,.var 2 (.arr 32 (.int .u8)) false,.row 3 (.int .u8) false])] L
def e24 (F45:FT45) (F46:FT46) (F47:FT47) (L4:Rq):=sE 0 29 [] [en45 F45,en46 F46,en47 F47] [zjb L4]
def zyc (R:Type):D24_4 (D24_4 (Option R)→E24_4 R):=fun x1 x2 x3 x4 x5 kc k0=>
let v6:=decide (x1<8);(match v6 with
|true=>(match (bnd x1 (8:Int)) with
|true=>let v7:=x5.getD x1.toNat 0;let v8:=([v7]:LI);(match (decide (x4.length+v8.length≤140737488355328)) with
|true=>let v9:=x4++v8;let v10:=IntKind.i64.wrap (x1+1);kc v10 x2 x3 v9 x5
|false=>none)
|false=>none)
|false=>k0 x2 x3 x4)
theorem q24_4 (F45:FT45) (F46:FT46) (F47:FT47) (L4:Rq):LEQ (zjb L4) (e24 F45 F46 F47 L4) Tryz.f24 zyc:=fun _ _ _ _=>by kernel_rfl
def zan:Nat→Rq
 | 0=>fun _ _ _ _ _ _ _=>none
 | n+1=>fun R x1 x2 x3 x4 x5 k0=>zyc R x1 x2 x3 x4 x5 (fun x1 x2 x3 x4 x5=>zan n R x1 x2 x3 x4 x5 k0) k0
def p24 (F45:FT45) (F46:FT46) (F47:FT47) (L4:Rq):FT24:=fun R a0 a1 a2 k=>
F45 R a0 fun y1=>
F46 R a1 fun y2=>
L4 R (0:Int) a2 (List.replicate 32 (0:Int)) y1 y2 (fun x3 x4 x5=>
F45 R x3 fun y6=>
(match (decide (x5.length+y6.length≤140737488355328)) with
|true=>let v7:=x5++y6;F47 R v7 fun y8=>
k y8
|false=>none))
theorem q24 (F45:FT45) (F46:FT46) (F47:FT47) (L4:Rq):EQ (en24 (p24 F45 F46 F47 L4)) (e24 F45 F46 F47 L4) Tryz.f24 [(.cell 6 24,24,false)]:=fun _ _ _=>by kernel_rfl
def F24:FT24:=p24 F45 F46 F47 (zan FUEL)
theorem zzo:LKP (zjb (zan FUEL)) 0 29 4 Tryz.f24:=ST.lok (q24_4 F45 F46 F47 (zan FUEL)) (Aa ok45 (Aa ok46 (Aa ok47 Ab))) [] trivial
theorem ok24:OKP (en24 F24):=ST.ok1 (q24 F45 F46 F47 (zan FUEL)) (Aa ok45 (Aa ok46 (Aa ok47 Ab))) Tryz.func24 [4] ⟨⟨_,rfl,zzo⟩,trivial⟩
abbrev FT27:=(R:Type)→LI→LI→(Bool→Option R)→Option R
def en27 (F:FT27):Ent:=eV 27 [(.sl (.int .i64)),(.sl (.int .i64))] [.bool] F
abbrev D27_4 (Z:Type):=LI→LI→Int→Z
abbrev E27_4 (R:Type):=(Bool→Option R)→(Option R)→Option R
abbrev Rp:=(R:Type)→D27_4 (E27_4 R)
def zja (L:Rp):LEnt:=lM 4 [.val 0 (.sl (.int .i64)),.val 1 (.sl (.int .i64)),.val 5 (.int .i64)] 0 [(.ret,[.val 4 .bool]),(.exit 0,[])] L
def e27 (L4:Rp):=sE 0 26 [] [] [zja L4]
def zyb (R:Type):D27_4 (D27_4 (Option R)→E27_4 R):=fun x1 x2 x3 kc k0 k1=>
let v4:=(x1.length:Int);let v5:=decide (x3<v4);(match v5 with
|true=>(match bnd x3 x1.length with
|true=>let v6:=x1.getD x3.toNat 0;(match bnd x3 x2.length with
|true=>let v7:=x2.getD x3.toNat 0;let v8:=v6 !=v7;(match v8 with
|true=>k0 false
|false=>let v9:=IntKind.i64.wrap (x3+1);kc x1 x2 v9)
|false=>none)
|false=>none)
|false=>k1)
theorem q27_4 (L4:Rp):LEQ (zja L4) (e27 L4) Tryz.f27 zyb:=fun _ _ _ _=>by kernel_rfl
def zam:Nat→Rp
 | 0=>fun _ _ _ _ _ _=>none
 | n+1=>fun R x1 x2 x3 k0 k1=>zyb R x1 x2 x3 (fun x1 x2 x3=>zam n R x1 x2 x3 k0 k1) k0 k1
def p27 (L4:Rp):FT27:=fun R a0 a1 k=>
let v1:=(a0.length:Int);let v2:=(a1.length:Int);let v3:=v1 !=v2;(match v3 with
|true=>k false
|false=>L4 R a0 a1 (0:Int) (fun x4=>
k x4) (k true))
theorem q27 (L4:Rp):EQ (en27 (p27 L4)) (e27 L4) Tryz.f27 [(.tmp 4,4,false)]:=fun _ _ _=>by kernel_rfl
def F27:FT27:=p27 (zam FUEL)
theorem zzn:LKP (zja (zam FUEL)) 0 26 4 Tryz.f27:=ST.lok (q27_4 (zam FUEL)) Ab [] trivial
theorem ok27:OKP (en27 F27):=ST.ok1 (q27 (zam FUEL)) Ab Tryz.func27 [4] ⟨⟨_,rfl,zzn⟩,trivial⟩
abbrev FT9:=(R:Type)→(Bool→Option R)→Option R
def en9 (F:FT9):Ent:=eV 9 [] [.bool] F
def p9 (F13:FT13) (F19:FT19) (F22:FT22) (F24:FT24) (F26:FT26) (F27:FT27) (F29:FT29):FT9:=fun R k=>
let v1:=List.set (List.replicate 32 (0:Int)) 0 (7:Int);F26 R v1 fun y2=>
let v3:=([((1:Int),(0:Int),(5:Int),v1,(0:Int),()),((4:Int),(0:Int),(0:Int),y2,(0:Int),()),((6:Int),(0:Int),(0:Int),(List.replicate 32 (0:Int)),(0:Int),()),((5:Int),(0:Int),(0:Int),v1,(0:Int),()),((6:Int),(0:Int),(0:Int),(List.replicate 32 (0:Int)),(0:Int),()),((7:Int),(0:Int),(0:Int),(List.replicate 32 (0:Int)),(0:Int),())]:(List Tq6));F22 R v3 fun y4 y5=>
let v6:=List.replicate 32 (0:Int);F19 R ((2:Int),(1:Int),(1:Int),(64:Int),(1:Int),()) v6 y4 fun y7 y8 y9=>
let v10:=List.replicate 32 (0:Int);F13 R y4 fun y11=>
F29 R ((2:Int),(1:Int),(1:Int),(64:Int),(1:Int),()) v10 y11 y8 fun y12=>
let v13:=y5==0;(match v13 with
|true=>let v14:=y9==0;(match v14 with
|true=>let v15:=(y8.length:Int);let v16:=v15==6;(match v16 with
|true=>(match bnd 4 y8.length with
|true=>let v17:=(y8.getD 4 (0,0,[],(List.replicate 32 0),())).2.2.2.1;let v18:=List.replicate 32 (0:Int);F24 R v18 (0:Int) v1 fun y19=>
let v20:=Kd.eqv (.arr 32 (.int .u8)) v17 y19;(match v20 with
|true=>(match bnd 5 y8.length with
|true=>let v21:=(y8.getD 5 (0,0,[],(List.replicate 32 0),())).2.2.1;let v22:=([(0:Int)]:LI);F27 R v21 v22 fun y23=>
(match y23 with
|true=>let v24:=(y12.length:Int);let v25:=v24==1;(match v25 with
|true=>(match bnd 0 y12.length with
|true=>let v26:=(y12.getD 0 (0,(List.replicate 32 0),(List.replicate 32 0),(List.replicate 32 0),())).2.2.2.1;let v27:=Kd.eqv (.arr 32 (.int .u8)) v26 y7.2.2.2.1.2.1;(match v27 with
|true=>let v28:=(y7.2.2.2.2.2.1.length:Int);let v29:=v28==0;k v29
|false=>k false)
|false=>none)
|false=>k false)
|false=>k false)
|false=>none)
|false=>k false)
|false=>none)
|false=>k false)
|false=>k false)
|false=>k false)
theorem q9 (F13:FT13) (F19:FT19) (F22:FT22) (F24:FT24) (F26:FT26) (F27:FT27) (F29:FT29):EQ (en9 (p9 F13 F19 F22 F24 F26 F27 F29)) (sE 0 90 [] [en13 F13,en19 F19,en22 F22,en24 F24,en26 F26,en27 F27,en29 F29] []) Tryz.f9 [(.tmp 0,4,false)]:=fun _ _ _=>by kernel_rfl
def F9:FT9:=p9 F13 F19 F22 F24 F26 F27 F29
theorem ok9:OKP (en9 F9):=ST.ok0 (q9 F13 F19 F22 F24 F26 F27 F29) (Aa ok13 (Aa ok19 (Aa ok22 (Aa ok24 (Aa ok26 (Aa ok27 (Aa ok29 Ab))))))) Tryz.func9
abbrev FT50:=(R:Type)→Int→(ByteArray→Option R)→Option R
def en50 (F:FT50):Ent:=eV 50 [(.int .i64)] [.str] F
def p50:FT50:=fun R a0 k=>
let v1:=a0==1;(match v1 with
|true=>k (⟨#[104,97]⟩:ByteArray)
|false=>let v2:=a0==2;(match v2 with
|true=>k (⟨#[119,97]⟩:ByteArray)
|false=>let v3:=a0==3;(match v3 with
|true=>k (⟨#[119,97]⟩:ByteArray)
|false=>let v4:=a0==4;(match v4 with
|true=>k (⟨#[119,104]⟩:ByteArray)
|false=>let v5:=a0==5;(match v5 with
|true=>k (⟨#[119,104]⟩:ByteArray)
|false=>let v6:=a0==6;(match v6 with
|true=>k (⟨#[45]⟩:ByteArray)
|false=>let v7:=a0==11;(match v7 with
|true=>k (⟨#[45]⟩:ByteArray)
|false=>let v8:=a0==7;(match v8 with
|true=>k (⟨#[110]⟩:ByteArray)
|false=>let v9:=a0==8;(match v9 with
|true=>k (⟨#[110]⟩:ByteArray)
|false=>let v10:=a0==9;(match v10 with
|true=>k (⟨#[110,119]⟩:ByteArray)
|false=>let v11:=a0==10;(match v11 with
|true=>k (⟨#[119,110]⟩:ByteArray)
|false=>k (⟨#[]⟩:ByteArray))))))))))))
theorem q50:EQ (en50 p50) (sE 0 22 [] [] []) Tryz.f50 [(.tmp 2,9,false)]:=fun _ _ _=>by kernel_rfl
def F50:FT50:=p50
theorem ok50:OKP (en50 F50):=ST.ok0 q50 Ab Tryz.func50
abbrev FT52:=(R:Type)→Int→(Int→Option R)→Option R
def en52 (F:FT52):Ent:=eV 52 [(.int .u8)] [(.int .i64)] F
def p52:FT52:=fun R a0 k=>
let v1:=a0==119;(match v1 with
|true=>k (4:Int)
|false=>let v2:=a0==110;(match v2 with
|true=>k (4:Int)
|false=>let v3:=a0==97;(match v3 with
|true=>k (8:Int)
|false=>let v4:=a0==104;(match v4 with
|true=>k (32:Int)
|false=>k (0:Int)))))
theorem q52:EQ (en52 p52) (sE 0 11 [] [] []) Tryz.f52 [(.tmp 2,3,false)]:=fun _ _ _=>by kernel_rfl
def F52:FT52:=p52
theorem ok52:OKP (en52 F52):=ST.ok0 q52 Ab Tryz.func52
abbrev FT49:=(R:Type)→Int→(Int→Bool→Option R)→Option R
def en49 (F:FT49):Ent:=eV 49 [(.int .i64)] [(.int .i64),.bool] F
abbrev D49_6 (Z:Type):=ByteArray→Int→Int→Z
abbrev E49_6 (R:Type):=(Int→Option R)→Option R
abbrev Rj:=(R:Type)→D49_6 (E49_6 R)
def zi3 (L:Rj):LEnt:=lM 6 [.val 4 .str,.val 5 (.int .i64),.val 6 (.int .i64)] 0 [(.exit 0,[.val 5 (.int .i64)])] L
def e49 (F50:FT50) (F52:FT52) (L6:Rj):=sE 0 24 [] [en50 F50,en52 F52] [zi3 L6]
def zx6 (F52:FT52) (R:Type):D49_6 (D49_6 (Option R)→E49_6 R):=fun x1 x2 x3 kc k0=>
let v4:=(ByteArray.size x1:Int);let v5:=decide (x3<v4);(match v5 with
|true=>(match (bnd x3 (ByteArray.size x1:Int)) with
|true=>let v6:=((List.getD (Array.toList (ByteArray.data x1)) x3.toNat 0).toNat:Int);F52 R v6 fun y7=>
let v8:=IntKind.i64.wrap (x2+y7);let v9:=IntKind.i64.wrap (x3+1);kc x1 v8 v9
|false=>none)
|false=>k0 x2)
theorem q49_6 (F50:FT50) (F52:FT52) (L6:Rj):LEQ (zi3 L6) (e49 F50 F52 L6) Tryz.f49 (zx6 F52):=fun _ _ _ _=>by kernel_rfl
def zai:Nat→Rj
 | 0=>fun _ _ _ _ _=>none
 | n+1=>fun R x1 x2 x3 k0=>zx6 F52 R x1 x2 x3 (fun x1 x2 x3=>zai n R x1 x2 x3 k0) k0
def p49 (F50:FT50) (L6:Rj):FT49:=fun R a0 k=>
F50 R a0 fun y1=>
let v2:=ByteArray.toList y1==ByteArray.toList (⟨#[]⟩:ByteArray);(match v2 with
|true=>k (0:Int) false
|false=>L6 R y1 (1:Int) (0:Int) (fun x3=>
k x3 true))
theorem q49 (F50:FT50) (F52:FT52) (L6:Rj):EQ (en49 (p49 F50 L6)) (e49 F50 F52 L6) Tryz.f49 [(.tmp 2,3,false),(.tmp 3,4,false)]:=fun _ _ _=>by kernel_rfl
def F49:FT49:=p49 F50 (zai FUEL)
theorem zzg:LKP (zi3 (zai FUEL)) 0 24 6 Tryz.f49:=ST.lok (q49_6 F50 F52 (zai FUEL)) (Aa ok50 (Aa ok52 Ab)) [] trivial
theorem ok49:OKP (en49 F49):=ST.ok1 (q49 F50 F52 (zai FUEL)) (Aa ok50 (Aa ok52 Ab)) Tryz.func49 [6] ⟨⟨_,rfl,zzg⟩,trivial⟩
abbrev FT51:=(R:Type)→Tq6→Int→LI→(Tq6→Option R)→Option R
def en51 (F:FT51):Ent:=eV 51 [Kq6,(.int .u8),(.sl (.int .u8))] [Kq6] F
abbrev zoj (Z:Type):=LI→Int→Tq6→Tq6→Z
abbrev zv2 (R:Type):=(Tq6→Tq6→Option R)→Option R
abbrev Lu:=(R:Type)→zoj (zv2 R)
def Yo (L:Lu):LEnt:=lM 10 [.val 2 (.sl (.int .u8)),.fix 3 (.ptr 0 [] Kq6),.fix 6 (.ptr 1 [] Kq6),.val 7 (.int .i64),.var 0 Kq6 false,.var 1 Kq6 false] 2 [(.exit 1,[.fix 3 (.ptr 0 [] Kq6),.fix 6 (.ptr 1 [] Kq6),.var 0 Kq6 false,.var 1 Kq6 false])] L
def e51 (F89:FT89) (F90:FT90) (L10:Lu):=sE 0 88 [] [en89 F89,en90 F90] [Yo L10]
def zhf (R:Type):zoj (zoj (Option R)→zv2 R):=fun x1 x2 x3 x4 kc k0=>
let v5:=decide (x2<32);(match v5 with
|true=>(match bnd x2 x1.length with
|true=>let v6:=x1.getD x2.toNat 0;(match (bnd x2 (32:Int)) with
|true=>let v7:=IntKind.i64.wrap (x2+1);kc x1 v7 (x3.1,x3.2.1,x3.2.2.1,(x3.2.2.2.1.set x2.toNat v6),x3.2.2.2.2) x4
|false=>none)
|false=>none)
|false=>k0 x3 x4)
theorem q51_10 (F89:FT89) (F90:FT90) (L10:Lu):LEQ (Yo L10) (e51 F89 F90 L10) Tryz.f51 zhf:=fun _ _ _ _=>by kernel_rfl
def Pu:Nat→Lu
 | 0=>fun _ _ _ _ _ _=>none
 | n+1=>fun R x1 x2 x3 x4 k0=>zhf R x1 x2 x3 x4 (fun x1 x2 x3 x4=>Pu n R x1 x2 x3 x4 k0) k0
def p51 (F89:FT89) (F90:FT90) (L10:Lu):FT51:=fun R a0 a1 a2 k=>
let v1:=a1==119;(match v1 with
|true=>(match bnd 0 a2.length with
|true=>let v2:=a2.getD 0 0;(match bnd 1 a2.length with
|true=>let v3:=a2.getD 1 0;(match bnd 2 a2.length with
|true=>let v4:=a2.getD 2 0;(match bnd 3 a2.length with
|true=>let v5:=a2.getD 3 0;let v6:=List.set (List.set (List.set (List.set (List.replicate 4 (0:Int)) 0 v2) 1 v3) 2 v4) 3 v5;F89 R v6 fun y7=>
let v8:=IntKind.i64.wrap y7;k (a0.1,v8,a0.2.2)
|false=>none)
|false=>none)
|false=>none)
|false=>none)
|false=>let v9:=a1==110;(match v9 with
|true=>(match bnd 0 a2.length with
|true=>let v10:=a2.getD 0 0;(match bnd 1 a2.length with
|true=>let v11:=a2.getD 1 0;(match bnd 2 a2.length with
|true=>let v12:=a2.getD 2 0;(match bnd 3 a2.length with
|true=>let v13:=a2.getD 3 0;let v14:=List.set (List.set (List.set (List.set (List.replicate 4 (0:Int)) 0 v10) 1 v11) 2 v12) 3 v13;F89 R v14 fun y15=>
let v16:=IntKind.i64.wrap y15;k (a0.1,a0.2.1,a0.2.2.1,a0.2.2.2.1,v16,a0.2.2.2.2.2)
|false=>none)
|false=>none)
|false=>none)
|false=>none)
|false=>let v17:=a1==97;(match v17 with
|true=>(match bnd 0 a2.length with
|true=>let v18:=a2.getD 0 0;(match bnd 1 a2.length with
|true=>let v19:=a2.getD 1 0;(match bnd 2 a2.length with
|true=>let v20:=a2.getD 2 0;(match bnd 3 a2.length with
|true=>let v21:=a2.getD 3 0;(match bnd 4 a2.length with
|true=>let v22:=a2.getD 4 0;(match bnd 5 a2.length with
|true=>let v23:=a2.getD 5 0;(match bnd 6 a2.length with
|true=>let v24:=a2.getD 6 0;(match bnd 7 a2.length with
|true=>let v25:=a2.getD 7 0;let v26:=List.set (List.set (List.set (List.set (List.set (List.set (List.set (List.set (List.replicate 8 (0:Int)) 0 v18) 1 v19) 2 v20) 3 v21) 4 v22) 5 v23) 6 v24) 7 v25;F90 R v26 fun y27=>
k (a0.1,a0.2.1,y27,a0.2.2.2.1,a0.2.2.2.2.1,a0.2.2.2.2.2)
|false=>none)
|false=>none)
|false=>none)
|false=>none)
|false=>none)
|false=>none)
|false=>none)
|false=>none)
|false=>let v28:=a1==104;(match v28 with
|true=>L10 R a2 (0:Int) a0 ((0:Int),(0:Int),(0:Int),(List.replicate 32 (0:Int)),(0:Int),()) (fun x29 x30=>
k x29)
|false=>k a0))))
theorem q51 (F89:FT89) (F90:FT90) (L10:Lu):EQ (en51 (p51 F89 F90 L10)) (e51 F89 F90 L10) Tryz.f51 [(.cell 6 49,49,false)]:=fun _ _ _=>by kernel_rfl
def F51:FT51:=p51 F89 F90 (Pu FUEL)
theorem zq5:LKP (Yo (Pu FUEL)) 0 88 10 Tryz.f51:=ST.lok (q51_10 F89 F90 (Pu FUEL)) (Aa ok89 (Aa ok90 Ab)) [] trivial
theorem ok51:OKP (en51 F51):=ST.ok1 (q51 F89 F90 (Pu FUEL)) (Aa ok89 (Aa ok90 Ab)) Tryz.func51 [10] ⟨⟨_,rfl,zq5⟩,trivial⟩
abbrev FT28:=(R:Type)→LI→((List Tq6)→Option R)→Option R
def en28 (F:FT28):Ent:=eV 28 [(.sl (.int .u8))] [(.sl Kq6)] F
abbrev D28_2 (Z:Type):=LI→(List Tq6)→Z
abbrev E28_2 (R:Type):=((List Tq6)→Option R)→((List Tq6)→Option R)→Option R
abbrev Pq:=(R:Type)→D28_2 (E28_2 R)
def zi9 (L:Pq):LEnt:=lM 2 [.val 0 (.sl (.int .u8)),.fix 3 (.own 0 0),.row 0 Kq6 false] 1 [(.ret,[.fix 2 (.own 0 0),.row 0 Kq6 false]),(.exit 0,[.fix 3 (.own 0 0),.row 0 Kq6 false])] L
abbrev zol (Z:Type):=LI→Int→Int→ByteArray→Int→(List Tq6)→Tq6→Z
abbrev zv4 (R:Type):=(LI→Int→(List Tq6)→Tq6→Option R)→Option R
abbrev Jq:=(R:Type)→zol (zv4 R)
def Yq (L:Jq):LEnt:=lM 13 [.val 0 (.sl (.int .u8)),.fix 3 (.own 0 0),.val 5 (.int .i64),.fix 7 (.ptr 1 [] Kq6),.val 8 (.int .i64),.val 9 .str,.val 10 (.int .i64),.row 0 Kq6 false,.var 1 Kq6 false] 2 [(.exit 2,[.val 0 (.sl (.int .u8)),.fix 3 (.own 0 0),.val 5 (.int .i64),.fix 7 (.ptr 1 [] Kq6),.row 0 Kq6 false,.var 1 Kq6 false])] L
def e28 (F49:FT49) (F50:FT50) (F51:FT51) (F52:FT52) (L2:Pq) (L13:Jq):=sE 0 73 [(1,0)] [en49 F49,en50 F50,en51 F51,en52 F52] [zi9 L2,Yq L13]
def zcu (F51:FT51) (F52:FT52) (R:Type):zol (zol (Option R)→zv4 R):=fun x1 x2 x3 x4 x5 x6 x7 kc k0=>
let v8:=(ByteArray.size x4:Int);let v9:=decide (x5<v8);(match v9 with
|true=>(match (bnd x5 (ByteArray.size x4:Int)) with
|true=>let v10:=((List.getD (Array.toList (ByteArray.data x4)) x5.toNat 0).toNat:Int);(match (decide (0≤x3∧x3≤(x1.length:Int)∧(x1.length:Int)≤(x1.length:Int)∧(x1.length:Int)≤(x1.length:Int))) with
|true=>let v11:=List.take (Int.toNat ((x1.length:Int) - x3)) (List.drop x3.toNat x1);F51 R x7 v10 v11 fun y12=>
(match (bnd x5 (ByteArray.size x4:Int)) with
|true=>let v13:=((List.getD (Array.toList (ByteArray.data x4)) x5.toNat 0).toNat:Int);F52 R v13 fun y14=>
let v15:=IntKind.i64.wrap (x3+y14);let v16:=IntKind.i64.wrap (x5+1);kc x1 x2 v15 x4 v16 x6 y12
|false=>none)
|false=>none)
|false=>none)
|false=>k0 x1 x2 x6 x7)
theorem q28_13 (F49:FT49) (F50:FT50) (F51:FT51) (F52:FT52) (L2:Pq) (L13:Jq):LEQ (Yq L13) (e28 F49 F50 F51 F52 L2 L13) Tryz.f28 (zcu F51 F52):=fun _ _ _ _=>by kernel_rfl
def Gu:Nat→Jq
 | 0=>fun _ _ _ _ _ _ _ _ _=>none
 | n+1=>fun R x1 x2 x3 x4 x5 x6 x7 k0=>zcu F51 F52 R x1 x2 x3 x4 x5 x6 x7 (fun x1 x2 x3 x4 x5 x6 x7=>Gu n R x1 x2 x3 x4 x5 x6 x7 k0) k0
def zqn (F49:FT49) (F50:FT50) (L13:Jq) (R:Type):D28_2 (D28_2 (Option R)→E28_2 R):=fun x1 x2 kc k0 k1=>
let v3:=(x1.length:Int);let v4:=decide (v3>0);(match v4 with
|true=>(match bnd 0 x1.length with
|true=>let v5:=x1.getD 0 0;let v6:=IntKind.i64.wrap v5;F49 R v6 fun y7 y8=>
(match (!y8) with
|true=>let v9:=([((0:Int),(0:Int),(0:Int),(List.replicate 32 (0:Int)),v6,())]:(List Tq6));(match (decide (x2.length+v9.length≤2199023255552)) with
|true=>let v10:=x2++v9;(match (decide (0≤(1:Int)∧(1:Int)≤(x1.length:Int)∧(x1.length:Int)≤(x1.length:Int)∧(x1.length:Int)≤(x1.length:Int))) with
|true=>let v11:=List.take (Int.toNat ((x1.length:Int) - (1:Int))) (List.drop 1 x1);kc v11 v10
|false=>none)
|false=>none)
|false=>let v12:=(x1.length:Int);let v13:=decide (v12<y7);(match v13 with
|true=>let v14:=([((0:Int),(0:Int),(0:Int),(List.replicate 32 (0:Int)),v6,())]:(List Tq6));(match (decide (x2.length+v14.length≤2199023255552)) with
|true=>let v15:=x2++v14;k0 v15
|false=>none)
|false=>F50 R v6 fun y16=>
L13 R x1 y7 (1:Int) y16 (0:Int) x2 (v6,(0:Int),(0:Int),(List.replicate 32 (0:Int)),(0:Int),()) (fun x17 x18 x19 x20=>
let v21:=([x20]:(List Tq6));(match (decide (x19.length+v21.length≤2199023255552)) with
|true=>let v22:=x19++v21;(match (decide (0≤x18∧x18≤(x17.length:Int)∧(x17.length:Int)≤(x17.length:Int)∧(x17.length:Int)≤(x17.length:Int))) with
|true=>let v23:=List.take (Int.toNat ((x17.length:Int) - x18)) (List.drop x18.toNat x17);kc v23 v22
|false=>none)
|false=>none))))
|false=>none)
|false=>k1 x2)
theorem q28_2 (F49:FT49) (F50:FT50) (F51:FT51) (F52:FT52) (L2:Pq) (L13:Jq):LEQ (zi9 L2) (e28 F49 F50 F51 F52 L2 L13) Tryz.f28 (zqn F49 F50 L13):=fun _ _ _ _=>by kernel_rfl
def To:Nat→Pq
 | 0=>fun _ _ _ _ _=>none
 | n+1=>fun R x1 x2 k0 k1=>zqn F49 F50 (Gu FUEL) R x1 x2 (fun x1 x2=>To n R x1 x2 k0 k1) k0 k1
def p28 (L2:Pq):FT28:=fun R a0 k=>
L2 R a0 ([]:(List Tq6)) (fun x1=>
k x1) (fun x2=>
k x2)
theorem q28 (F49:FT49) (F50:FT50) (F51:FT51) (F52:FT52) (L2:Pq) (L13:Jq):EQ (en28 (p28 L2)) (e28 F49 F50 F51 F52 L2 L13) Tryz.f28 [(.tmp 2,42,false)]:=fun _ _ _=>by kernel_rfl
def F28:FT28:=p28 (To FUEL)
theorem zq7:LKP (Yq (Gu FUEL)) 0 73 13 Tryz.f28:=ST.lok (q28_13 F49 F50 F51 F52 (To FUEL) (Gu FUEL)) (Aa ok49 (Aa ok50 (Aa ok51 (Aa ok52 Ab)))) [] trivial
theorem zzm:LKP (zi9 (To FUEL)) 0 73 2 Tryz.f28:=ST.lok (q28_2 F49 F50 F51 F52 (To FUEL) (Gu FUEL)) (Aa ok49 (Aa ok50 (Aa ok51 (Aa ok52 Ab)))) [13] ⟨⟨_,rfl,zq7⟩,trivial⟩
theorem ok28:OKP (en28 F28):=ST.ok1 (q28 F49 F50 F51 F52 (To FUEL) (Gu FUEL)) (Aa ok49 (Aa ok50 (Aa ok51 (Aa ok52 Ab)))) Tryz.func28 [2] ⟨⟨_,rfl,zzm⟩,trivial⟩
abbrev FT10:=(R:Type)→LI→(Bool→Option R)→Option R
def en10 (F:FT10):Ent:=eV 10 [(.sl (.int .u8))] [.bool] F
def p10 (F28:FT28):FT10:=fun R a0 k=>
let v1:=(a0.length:Int);let v2:=decide (v1≤1500);(match v2 with
|true=>F28 R a0 fun y3=>
let v4:=(y3.length:Int);let v5:=decide (v4≤60);k v5
|false=>k false)
theorem q10 (F28:FT28):EQ (en10 (p10 F28)) (sE 0 12 [] [en28 F28] []) Tryz.f10 [(.tmp 2,4,false)]:=fun _ _ _=>by kernel_rfl
def F10:FT10:=p10 F28
theorem ok10:OKP (en10 F10):=ST.ok0 (q10 F28) (Aa ok28 Ab) Tryz.func10
abbrev FT12:=(R:Type)→LI→(Tq21→Option R)→Option R
def en12 (F:FT12):Ent:=eV 12 [(.arr 5 (.int .u8))] [Kq21] F
def p12:FT12:=fun R a0 k=>
let v1:=a0.getD 0 0;let v2:=Int.tmod v1 (6:Int);let v3:=IntKind.i64.wrap v2;let v4:=IntKind.i64.wrap ((1:Int)+v3);let v5:=a0.getD 3 0;let v6:=Int.tmod v5 (64:Int);let v7:=IntKind.i64.wrap v6;let v8:=IntKind.i64.wrap ((1:Int)+v7);let v9:=a0.getD 4 0;let v10:=Int.tmod v9 (6:Int);let v11:=IntKind.i64.wrap v10;let v12:=IntKind.i64.wrap ((1:Int)+v11);let v13:=a0.getD 1 0;let v14:=IntKind.i64.wrap v13;let v15:=IntKind.i64.wrap (v4+1);(match (!(v15==0)) with
|true=>let v16:=Int.tmod v14 v15;let v17:=a0.getD 2 0;let v18:=IntKind.i64.wrap v17;let v19:=IntKind.i64.wrap (v4 - v16);let v20:=IntKind.i64.wrap (v19+1);(match (!(v20==0)) with
|true=>let v21:=Int.tmod v18 v20;k (v4,v16,v21,v8,v12,())
|false=>none)
|false=>none)
theorem q12:EQ (en12 p12) (sE 0 40 [] [] []) Tryz.f12 [(.cell 2 29,29,false)]:=fun _ _ _=>by kernel_rfl
def F12:FT12:=p12
theorem ok12:OKP (en12 F12):=ST.ok0 q12 Ab Tryz.func12
abbrev FT39:=(R:Type)→(List Tq11)→(List Tq11)→(Bool→Option R)→Option R
abbrev D39_4 (Z:Type):=(List Tq11)→(List Tq11)→Int→Z
abbrev E39_4 (R:Type):=(Bool→Option R)→(Option R)→Option R
abbrev zu9:=(R:Type)→D39_4 (E39_4 R)
def p39_4 (R:Type):D39_4 (D39_4 (Option R)→E39_4 R):=fun x1 x2 x3 kc k0 k1=>
let v4:=(x1.length:Int);let v5:=decide (x3<v4);(match v5 with
|true=>(match bnd x3 x1.length with
|true=>let v6:=x1.getD x3.toNat ((List.replicate 32 0),0,0,());(match bnd x3 x2.length with
|true=>let v7:=x2.getD x3.toNat ((List.replicate 32 0),0,0,());let v8:= !(Kd.eqv Kq11 v6 v7);(match v8 with
|true=>k0 false
|false=>let v9:=IntKind.i64.wrap (x3+1);kc x1 x2 v9)
|false=>none)
|false=>none)
|false=>k1)
def G39_4:Nat→zu9
 | 0=>fun _ _ _ _ _ _=>none
 | n+1=>fun R x1 x2 x3 k0 k1=>p39_4 R x1 x2 x3 (fun x1 x2 x3=>G39_4 n R x1 x2 x3 k0 k1) k0 k1
def p39 (L4:zu9):FT39:=fun R a0 a1 k=>
let v1:=(a0.length:Int);let v2:=(a1.length:Int);let v3:=v1 !=v2;(match v3 with
|true=>k false
|false=>L4 R a0 a1 (0:Int) (fun x4=>
k x4) (k true))
def F39:FT39:=p39 (G39_4 FUEL)
abbrev FT82:=(R:Type)→(List Tq9)→(List Tq9)→(Bool→Option R)→Option R
abbrev D82_4 (Z:Type):=(List Tq9)→(List Tq9)→Int→Z
abbrev E82_4 (R:Type):=(Bool→Option R)→(Option R)→Option R
abbrev zu8:=(R:Type)→D82_4 (E82_4 R)
def p82_4 (R:Type):D82_4 (D82_4 (Option R)→E82_4 R):=fun x1 x2 x3 kc k0 k1=>
let v4:=(x1.length:Int);let v5:=decide (x3<v4);(match v5 with
|true=>(match bnd x3 x1.length with
|true=>let v6:=x1.getD x3.toNat (0,(List.replicate 32 0),false,(List.replicate 32 0),());(match bnd x3 x2.length with
|true=>let v7:=x2.getD x3.toNat (0,(List.replicate 32 0),false,(List.replicate 32 0),());let v8:= !(Kd.eqv Kq9 v6 v7);(match v8 with
|true=>k0 false
|false=>let v9:=IntKind.i64.wrap (x3+1);kc x1 x2 v9)
|false=>none)
|false=>none)
|false=>k1)
def G82_4:Nat→zu8
 | 0=>fun _ _ _ _ _ _=>none
 | n+1=>fun R x1 x2 x3 k0 k1=>p82_4 R x1 x2 x3 (fun x1 x2 x3=>G82_4 n R x1 x2 x3 k0 k1) k0 k1
def p82 (L4:zu8):FT82:=fun R a0 a1 k=>
let v1:=(a0.length:Int);let v2:=(a1.length:Int);let v3:=v1 !=v2;(match v3 with
|true=>k false
|false=>L4 R a0 a1 (0:Int) (fun x4=>
k x4) (k true))
def F82:FT82:=p82 (G82_4 FUEL)
abbrev FT40:=(R:Type)→Tq24→Tq24→(Bool→Option R)→Option R
def p40 (F82:FT82):FT40:=fun R a0 a1 k=>
let v1:=a0.1==a1.1;(match v1 with
|true=>let v2:=Kd.eqv (.arr 32 (.int .u8)) a0.2.1 a1.2.1;(match v2 with
|true=>let v3:=Kd.eqv (.arr 32 (.int .u8)) a0.2.2.1 a1.2.2.1;(match v3 with
|true=>F82 R a0.2.2.2.1 a1.2.2.2.1 fun y4=>
k y4
|false=>k false)
|false=>k false)
|false=>k false)
def F40:FT40:=p40 F82
abbrev FT15:=(R:Type)→Tq29→Tq29→(Bool→Option R)→Option R
def en15 (F:FT15):Ent:=eV 15 [Kq29,Kq29] [.bool] F
def p15 (F27:FT27) (F39:FT39) (F40:FT40):FT15:=fun R a0 a1 k=>
let v1:=Kd.eqv Kq21 a0.1 a1.1;(match v1 with
|true=>let v2:=a0.2.1==a1.2.1;(match v2 with
|true=>F39 R a0.2.2.1 a1.2.2.1 fun y3=>
(match y3 with
|true=>F40 R a0.2.2.2.1 a1.2.2.2.1 fun y4=>
(match y4 with
|true=>F27 R a0.2.2.2.2.1 a1.2.2.2.2.1 fun y5=>
(match y5 with
|true=>F27 R a0.2.2.2.2.2.1 a1.2.2.2.2.2.1 fun y6=>
k y6
|false=>k false)
|false=>k false)
|false=>k false)
|false=>k false)
|false=>k false)
def F15:FT15:=p15 F27 F39 F40
abbrev FT3:=(R:Type)→LI→LI→LI→(Bool→Option R)→Option R
def en3 (F:FT3):Ent:=eV 3 [(.arr 5 (.int .u8)),(.arr 32 (.int .u8)),(.sl (.int .u8))] [.bool] F
abbrev D3_8 (Z:Type):=(List Tq6)→Int→LI→LI→Tq29→Z
abbrev E3_8 (R:Type):=(Bool→Option R)→((List Tq6)→LI→LI→Tq29→Option R)→Option R
abbrev zt7:=(R:Type)→D3_8 (E3_8 R)
def le3_8 (L:zt7):LEnt:=lM 8 [.fix 3 (.ptr 0 [] (.arr 5 (.int .u8))),.fix 4 (.ptr 1 [] (.arr 32 (.int .u8))),.fix 7 (.ptr 2 [] Kq29),.val 9 (.sl Kq6),.val 10 (.int .i64),.var 0 (.arr 5 (.int .u8)) false,.var 1 (.arr 32 (.int .u8)) false,.var 2 Kq29 false] 3 [(.ret,[.val 6 .bool]),(.exit 0,[.fix 3 (.ptr 0 [] (.arr 5 (.int .u8))),.fix 4 (.ptr 1 [] (.arr 32 (.int .u8))),.fix 7 (.ptr 2 [] Kq29),.val 9 (.sl Kq6),.var 0 (.arr 5 (.int .u8)) false,.var 1 (.arr 32 (.int .u8)) false,.var 2 Kq29 false])] L
abbrev D3_18 (Z:Type):=(List Tq6)→Int→Tq29→Tq29→Z
abbrev E3_18 (R:Type):=(Tq29→Tq29→Option R)→Option R
abbrev zdt:=(R:Type)→D3_18 (E3_18 R)
def le3_18 (L:zdt):LEnt:=lM 18 [.fix 7 (.ptr 2 [] Kq29),.val 9 (.sl Kq6),.fix 13 (.ptr 3 [] Kq29),.val 15 (.int .i64),.var 2 Kq29 false,.var 3 Kq29 false] 4 [(.exit 2,[.fix 7 (.ptr 2 [] Kq29),.fix 13 (.ptr 3 [] Kq29),.var 2 Kq29 false,.var 3 Kq29 false])] L
def e3 (F9:FT9) (F10:FT10) (F11:FT11) (F12:FT12) (F13:FT13) (F14:FT14) (F15:FT15) (L8:zt7) (L18:zdt):=sE 0 97 [] [en9 F9,en10 F10,en11 F11,en12 F12,en13 F13,en14 F14,en15 F15] [le3_8 L8,le3_18 L18]
def p3 (F9:FT9) (F10:FT10) (F11:FT11) (F12:FT12) (F13:FT13) (F15:FT15) (L8:zt7) (L18:zdt):FT3:=fun R a0 a1 a2 k=>
F9 R  fun y1=>
(match (!y1) with
|true=>k false
|false=>F10 R a2 fun y2=>
(match (!y2) with
|true=>k true
|false=>F12 R a0 fun y3=>
F11 R y3 a1 fun y4 y5=>
F13 R a2 fun y6=>
L8 R y6 (0:Int) a0 a1 y4 (fun x7=>
k x7) (fun x8 x9 x10 x11=>
F12 R x9 fun y12=>
F11 R y12 x10 fun y13 y14=>
L18 R x8 (0:Int) x11 y13 (fun x15 x16=>
F15 R x15 x16 fun y17=>
k y17))))
theorem q3 (F9:FT9) (F10:FT10) (F11:FT11) (F12:FT12) (F13:FT13) (F14:FT14) (F15:FT15) (L8:zt7) (L18:zdt):EQ (en3 (p3 F9 F10 F11 F12 F13 F15 L8 L18)) (e3 F9 F10 F11 F12 F13 F14 F15 L8 L18) Tryz.f3 [(.tmp 6,4,false)]:=fun _ _ _=>by kernel_rfl
abbrev FT17:=(R:Type)→(List Tq11)→(LI→Option R)→Option R
def en17 (F:FT17):Ent:=eV 17 [(.sl Kq11)] [(.sl (.int .u64))] F
abbrev D17_3 (Z:Type):=(List Tq11)→Int→LI→Z
abbrev E17_3 (R:Type):=(LI→Option R)→Option R
abbrev zvb:=(R:Type)→D17_3 (E17_3 R)
def p17_3 (R:Type):D17_3 (D17_3 (Option R)→E17_3 R):=fun x1 x2 x3 kc k0=>
let v4:=(x1.length:Int);let v5:=decide (x2<v4);(match v5 with
|true=>(match bnd x2 x1.length with
|true=>let v6:=(x1.getD x2.toNat ((List.replicate 32 0),0,0,())).2.2.1;let v7:=([v6]:LI);(match (decide (x3.length+v7.length≤17592186044416)) with
|true=>let v8:=x3++v7;let v9:=IntKind.i64.wrap (x2+1);kc x1 v9 v8
|false=>none)
|false=>none)
|false=>k0 x3)
def G17_3:Nat→zvb
 | 0=>fun _ _ _ _ _=>none
 | n+1=>fun R x1 x2 x3 k0=>p17_3 R x1 x2 x3 (fun x1 x2 x3=>G17_3 n R x1 x2 x3 k0) k0
def p17 (L3:zvb):FT17:=fun R a0 k=>
L3 R a0 (0:Int) ([]:LI) (fun x1=>
k x1)
def F17:FT17:=p17 (G17_3 FUEL)
abbrev FT41:=(R:Type)→Int→Int→(Int→Bool→Option R)→Option R
def en41 (F:FT41):Ent:=eV 41 [(.int .u64),(.int .u64)] [(.int .u64),.bool] F
def p41:FT41:=fun R a0 a1 k=>
let v1:=decide (a0≥9223372036854775808);(match v1 with
|true=>k (0:Int) false
|false=>let v2:=IntKind.u64.wrap ((9223372036854775808:Int) - a0);let v3:=decide (a1≥v2);(match v3 with
|true=>k (0:Int) false
|false=>let v4:=IntKind.u64.wrap (a0+a1);k v4 true))
def F41:FT41:=p41
abbrev FT16:=(R:Type)→LI→(Int→Bool→Option R)→Option R
def en16 (F:FT16):Ent:=eV 16 [(.sl (.int .u64))] [(.int .u64),.bool] F
abbrev D16_3 (Z:Type):=LI→Int→Int→Z
abbrev E16_3 (R:Type):=(Int→Bool→Option R)→(Int→Option R)→Option R
abbrev zdu:=(R:Type)→D16_3 (E16_3 R)
def le16_3 (L:zdu):LEnt:=lM 3 [.val 0 (.sl (.int .u64)),.val 4 (.int .u64),.val 5 (.int .i64)] 0 [(.ret,[.val 2 (.int .u64),.val 3 .bool]),(.exit 0,[.val 4 (.int .u64)])] L
def e16 (F41:FT41) (L3:zdu):=sE 0 27 [] [en41 F41] [le16_3 L3]
def p16_3 (F41:FT41) (R:Type):D16_3 (D16_3 (Option R)→E16_3 R):=fun x1 x2 x3 kc k0 k1=>
let v4:=(x1.length:Int);let v5:=decide (x3<v4);(match v5 with
|true=>(match bnd x3 x1.length with
|true=>let v6:=x1.getD x3.toNat 0;F41 R x2 v6 fun y7 y8=>
(match (!y8) with
|true=>k0 (0:Int) false
|false=>let v9:=IntKind.i64.wrap (x3+1);kc x1 y7 v9)
|false=>none)
|false=>k1 x2)
def G16_3:Nat→zdu
 | 0=>fun _ _ _ _ _ _=>none
 | n+1=>fun R x1 x2 x3 k0 k1=>p16_3 F41 R x1 x2 x3 (fun x1 x2 x3=>G16_3 n R x1 x2 x3 k0 k1) k0 k1
def p16 (L3:zdu):FT16:=fun R a0 k=>
L3 R a0 (0:Int) (0:Int) (fun x1 x2=>
k x1 x2) (fun x3=>
k x3 true)
def F16:FT16:=p16 (G16_3 FUEL)
abbrev FT18:=(R:Type)→(List Tq11)→(LI→Option R)→Option R
def en18 (F:FT18):Ent:=eV 18 [(.sl Kq11)] [(.sl (.int .u64))] F
abbrev D18_3 (Z:Type):=(List Tq11)→Int→LI→Z
abbrev E18_3 (R:Type):=(LI→Option R)→Option R
abbrev zva:=(R:Type)→D18_3 (E18_3 R)
def p18_3 (R:Type):D18_3 (D18_3 (Option R)→E18_3 R):=fun x1 x2 x3 kc k0=>
let v4:=(x1.length:Int);let v5:=decide (x2<v4);(match v5 with
|true=>(match bnd x2 x1.length with
|true=>let v6:=(x1.getD x2.toNat ((List.replicate 32 0),0,0,())).2.1;let v7:=([v6]:LI);(match (decide (x3.length+v7.length≤17592186044416)) with
|true=>let v8:=x3++v7;let v9:=IntKind.i64.wrap (x2+1);kc x1 v9 v8
|false=>none)
|false=>none)
|false=>k0 x3)
def G18_3:Nat→zva
 | 0=>fun _ _ _ _ _=>none
 | n+1=>fun R x1 x2 x3 k0=>p18_3 R x1 x2 x3 (fun x1 x2 x3=>G18_3 n R x1 x2 x3 k0) k0
def p18 (L3:zva):FT18:=fun R a0 k=>
L3 R a0 (0:Int) ([]:LI) (fun x1=>
k x1)
def F18:FT18:=p18 (G18_3 FUEL)
abbrev FT4:=(R:Type)→LI→LI→LI→(Bool→Option R)→Option R
def en4 (F:FT4):Ent:=eV 4 [(.arr 5 (.int .u8)),(.arr 32 (.int .u8)),(.sl (.int .u8))] [.bool] F
abbrev D4_10 (Z:Type):=(List Tq6)→Int→Int→Tq21→Tq29→Z
abbrev E4_10 (R:Type):=(Bool→Option R)→(Option R)→Option R
abbrev zds:=(R:Type)→D4_10 (E4_10 R)
def le4_10 (L:zds):LEnt:=lM 10 [.fix 7 (.ptr 2 [] Kq21),.fix 8 (.ptr 3 [] Kq29),.val 10 (.sl Kq6),.val 11 (.int .u64),.val 12 (.int .i64),.var 2 Kq21 false,.var 3 Kq29 false] 4 [(.ret,[.val 6 .bool]),(.exit 0,[])] L
def e4 (F9:FT9) (F10:FT10) (F11:FT11) (F12:FT12) (F13:FT13) (F14:FT14) (F16:FT16) (F17:FT17) (F18:FT18) (L10:zds):=sE 0 115 [] [en9 F9,en10 F10,en11 F11,en12 F12,en13 F13,en14 F14,en16 F16,en17 F17,en18 F18] [le4_10 L10]
def p4 (F9:FT9) (F10:FT10) (F11:FT11) (F12:FT12) (F13:FT13) (L10:zds):FT4:=fun R a0 a1 a2 k=>
F9 R  fun y1=>
(match (!y1) with
|true=>k false
|false=>F10 R a2 fun y2=>
(match (!y2) with
|true=>k true
|false=>F12 R a0 fun y3=>
F11 R y3 a1 fun y4 y5=>
F13 R a2 fun y6=>
L10 R y6 (0:Int) (0:Int) y3 y4 (fun x7=>
k x7) (k true)))
theorem q4 (F9:FT9) (F10:FT10) (F11:FT11) (F12:FT12) (F13:FT13) (F14:FT14) (F16:FT16) (F17:FT17) (F18:FT18) (L10:zds):EQ (en4 (p4 F9 F10 F11 F12 F13 L10)) (e4 F9 F10 F11 F12 F13 F14 F16 F17 F18 L10) Tryz.f4 [(.tmp 6,4,false)]:=fun _ _ _=>by kernel_rfl
abbrev FT20:=(R:Type)→Tq17→Tq17→(Bool→Option R)→Option R
def en20 (F:FT20):Ent:=eV 20 [Kq17,Kq17] [.bool] F
def p20 (F27:FT27):FT20:=fun R a0 a1 k=>
let v1:=a0.1==a1.1;(match v1 with
|true=>let v2:=a0.2.1==a1.2.1;(match v2 with
|true=>F27 R a0.2.2.1 a1.2.2.1 fun y3=>
(match y3 with
|true=>let v4:=Kd.eqv (.arr 32 (.int .u8)) a0.2.2.2.1 a1.2.2.2.1;k v4
|false=>k false)
|false=>k false)
|false=>k false)
def F20:FT20:=p20 F27
abbrev FT5:=(R:Type)→LI→LI→LI→(Bool→Option R)→Option R
def en5 (F:FT5):Ent:=eV 5 [(.arr 5 (.int .u8)),(.arr 32 (.int .u8)),(.sl (.int .u8))] [.bool] F
abbrev D5_12 (Z:Type):=(List Tq17)→(List Tq6)→Int→LI→Tq21→Tq29→Tq29→Z
abbrev E5_12 (R:Type):=(Bool→Option R)→((List Tq6)→LI→Tq21→Tq29→Tq29→Option R)→Option R
abbrev zdr:=(R:Type)→D5_12 (E5_12 R)
def le5_12 (L:zdr):LEnt:=lM 12 [.fix 4 (.ptr 1 [] (.arr 32 (.int .u8))),.fix 7 (.ptr 2 [] Kq21),.fix 8 (.ptr 3 [] Kq29),.val 9 (.sl Kq17),.val 11 (.sl Kq6),.fix 12 (.ptr 4 [] Kq29),.val 14 (.int .i64),.var 1 (.arr 32 (.int .u8)) false,.var 2 Kq21 false,.var 3 Kq29 false,.var 4 Kq29 false] 5 [(.ret,[.val 6 .bool]),(.exit 0,[.fix 4 (.ptr 1 [] (.arr 32 (.int .u8))),.fix 7 (.ptr 2 [] Kq21),.fix 8 (.ptr 3 [] Kq29),.val 11 (.sl Kq6),.fix 12 (.ptr 4 [] Kq29),.var 1 (.arr 32 (.int .u8)) false,.var 2 Kq21 false,.var 3 Kq29 false,.var 4 Kq29 false])] L
def e5 (F9:FT9) (F10:FT10) (F11:FT11) (F12:FT12) (F13:FT13) (F14:FT14) (F15:FT15) (F19:FT19) (F20:FT20) (F21:FT21) (F22:FT22) (L12:zdr):=sE 0 126 [] [en9 F9,en10 F10,en11 F11,en12 F12,en13 F13,en14 F14,en15 F15,en19 F19,en20 F20,en21 F21,en22 F22] [le5_12 L12]
def p5 (F9:FT9) (F10:FT10) (F11:FT11) (F12:FT12) (F13:FT13) (F15:FT15) (F19:FT19) (F21:FT21) (F22:FT22) (L12:zdr):FT5:=fun R a0 a1 a2 k=>
F9 R  fun y1=>
(match (!y1) with
|true=>k false
|false=>F10 R a2 fun y2=>
(match (!y2) with
|true=>k true
|false=>F12 R a0 fun y3=>
F19 R y3 a1 a2 fun y4 y5 y6=>
F13 R a2 fun y7=>
F11 R y3 a1 fun y8 y9=>
let v10:=y6 !=0;(match v10 with
|true=>k false
|false=>let v11:=y9 !=0;(match v11 with
|true=>k false
|false=>let v12:=(y5.length:Int);let v13:=(y7.length:Int);let v14:=v12 !=v13;(match v14 with
|true=>k false
|false=>L12 R y5 y7 (0:Int) a1 y3 y4 y8 (fun x15=>
k x15) (fun x16 x17 x18 x19 x20=>
let v21:=(x16.length:Int);let v22:=decide (v21>0);(match v22 with
|true=>let v23:=(x16.length:Int);let v24:=IntKind.i64.wrap (v23 - 1);(match bnd v24 x16.length with
|true=>let v25:=x16.getD v24.toNat (0,0,0,(List.replicate 32 0),0,());F21 R v25 fun y26=>
(match (!y26) with
|true=>let v27:=(x16.length:Int);let v28:=IntKind.i64.wrap (v27 - 1);(match (decide (0≤(0:Int)∧(0:Int)≤v28∧v28≤v28∧v28≤(x16.length:Int))) with
|true=>let v29:=List.take (Int.toNat (v28 - 0)) (List.drop 0 x16);F22 R v29 fun y30 y31=>
F19 R x18 x17 y30 fun y32 y33 y34=>
let v35:=y31 !=0;(match v35 with
|true=>k false
|false=>let v36:=y34 !=0;(match v36 with
|true=>k false
|false=>F15 R y32 x19 fun y37=>
(match (!y37) with
|true=>k false
|false=>F15 R x19 x20 fun y38=>
k y38)))
|false=>none)
|false=>F15 R x19 x20 fun y39=>
k y39)
|false=>none)
|false=>F15 R x19 x20 fun y40=>
k y40)))))))
theorem q5 (F9:FT9) (F10:FT10) (F11:FT11) (F12:FT12) (F13:FT13) (F14:FT14) (F15:FT15) (F19:FT19) (F20:FT20) (F21:FT21) (F22:FT22) (L12:zdr):EQ (en5 (p5 F9 F10 F11 F12 F13 F15 F19 F21 F22 L12)) (e5 F9 F10 F11 F12 F13 F14 F15 F19 F20 F21 F22 L12) Tryz.f5 [(.tmp 6,4,false)]:=fun _ _ _=>by kernel_rfl
abbrev FT23:=(R:Type)→(List LI)→(LI→Option R)→Option R
def en23 (F:FT23):Ent:=eV 23 [(.sl (.arr 32 (.int .u8)))] [(.arr 32 (.int .u8))] F
abbrev D23_3 (Z:Type):=(List LI)→Int→LI→LI→Z
abbrev E23_3 (R:Type):=(LI→LI→Option R)→Option R
abbrev Ps:=(R:Type)→D23_3 (E23_3 R)
def zjd (L:Ps):LEnt:=lM 3 [.val 0 (.sl (.arr 32 (.int .u8))),.fix 2 (.ptr 0 [] (.arr 32 (.int .u8))),.fix 3 (.ptr 1 [] (.arr 32 (.int .u8))),.val 4 (.int .i64),.var 0 (.arr 32 (.int .u8)) false,.var 1 (.arr 32 (.int .u8)) false] 2 [(.exit 0,[.fix 2 (.ptr 0 [] (.arr 32 (.int .u8))),.fix 3 (.ptr 1 [] (.arr 32 (.int .u8))),.var 0 (.arr 32 (.int .u8)) false,.var 1 (.arr 32 (.int .u8)) false])] L
abbrev D23_6 (Z:Type):=(List LI)→Int→Int→LI→LI→Z
abbrev E23_6 (R:Type):=((List LI)→Int→LI→LI→Option R)→Option R
abbrev Pr:=(R:Type)→D23_6 (E23_6 R)
def zjc (L:Pr):LEnt:=lM 6 [.val 0 (.sl (.arr 32 (.int .u8))),.fix 2 (.ptr 0 [] (.arr 32 (.int .u8))),.fix 3 (.ptr 1 [] (.arr 32 (.int .u8))),.val 4 (.int .i64),.val 5 (.int .i64),.var 0 (.arr 32 (.int .u8)) false,.var 1 (.arr 32 (.int .u8)) false] 2 [(.exit 2,[.val 0 (.sl (.arr 32 (.int .u8))),.fix 2 (.ptr 0 [] (.arr 32 (.int .u8))),.fix 3 (.ptr 1 [] (.arr 32 (.int .u8))),.val 4 (.int .i64),.var 0 (.arr 32 (.int .u8)) false,.var 1 (.arr 32 (.int .u8)) false])] L
def e23 (L3:Ps) (L6:Pr):=sE 0 29 [] [] [zjd L3,zjc L6]
def zqo (R:Type):D23_6 (D23_6 (Option R)→E23_6 R):=fun x1 x2 x3 x4 x5 kc k0=>
let v6:=decide (x3<32);(match v6 with
|true=>(match (bnd x3 (32:Int)) with
|true=>let v7:=x5.getD x3.toNat 0;(match bnd x2 x1.length with
|true=>(match (bnd x3 (32:Int)) with
|true=>let v8:=List.getD (x1.getD x2.toNat (List.replicate 32 0)) x3.toNat (0:Int);let v9:=ixor .u8 v7 v8;(match (bnd x3 (32:Int)) with
|true=>let v10:=x5.set x3.toNat v9;let v11:=IntKind.i64.wrap (x3+1);kc x1 x2 v11 x4 v10
|false=>none)
|false=>none)
|false=>none)
|false=>none)
|false=>k0 x1 x2 x4 x5)
theorem q23_6 (L3:Ps) (L6:Pr):LEQ (zjc L6) (e23 L3 L6) Tryz.f23 zqo:=fun _ _ _ _=>by kernel_rfl
def Tp:Nat→Pr
 | 0=>fun _ _ _ _ _ _ _=>none
 | n+1=>fun R x1 x2 x3 x4 x5 k0=>zqo R x1 x2 x3 x4 x5 (fun x1 x2 x3 x4 x5=>Tp n R x1 x2 x3 x4 x5 k0) k0
def zyd (L6:Pr) (R:Type):D23_3 (D23_3 (Option R)→E23_3 R):=fun x1 x2 x3 x4 kc k0=>
let v5:=(x1.length:Int);let v6:=decide (x2<v5);(match v6 with
|true=>L6 R x1 x2 (0:Int) x3 x4 (fun x7 x8 x9 x10=>
let v11:=IntKind.i64.wrap (x8+1);kc x7 v11 x9 x10)
|false=>k0 x3 x4)
theorem q23_3 (L3:Ps) (L6:Pr):LEQ (zjd L3) (e23 L3 L6) Tryz.f23 (zyd L6):=fun _ _ _ _=>by kernel_rfl
def Wo:Nat→Ps
 | 0=>fun _ _ _ _ _ _=>none
 | n+1=>fun R x1 x2 x3 x4 k0=>zyd (Tp FUEL) R x1 x2 x3 x4 (fun x1 x2 x3 x4=>Wo n R x1 x2 x3 x4 k0) k0
def p23 (L3:Ps):FT23:=fun R a0 k=>
L3 R a0 (0:Int) (List.replicate 32 (0:Int)) (List.replicate 32 (0:Int)) (fun x1 x2=>
k x2)
theorem q23 (L3:Ps) (L6:Pr):EQ (en23 (p23 L3)) (e23 L3 L6) Tryz.f23 [(.cell 2 24,24,false)]:=fun _ _ _=>by kernel_rfl
def F23:FT23:=p23 (Wo FUEL)
theorem zzp:LKP (zjc (Tp FUEL)) 0 29 6 Tryz.f23:=ST.lok (q23_6 (Wo FUEL) (Tp FUEL)) Ab [] trivial
theorem zzq:LKP (zjd (Wo FUEL)) 0 29 3 Tryz.f23:=ST.lok (q23_3 (Wo FUEL) (Tp FUEL)) Ab [6] ⟨⟨_,rfl,zzp⟩,trivial⟩
theorem ok23:OKP (en23 F23):=ST.ok1 (q23 (Wo FUEL) (Tp FUEL)) Ab Tryz.func23 [3] ⟨⟨_,rfl,zzq⟩,trivial⟩
abbrev FT6:=(R:Type)→LI→LI→LI→(Bool→Option R)→Option R
def en6 (F:FT6):Ent:=eV 6 [(.arr 5 (.int .u8)),(.arr 32 (.int .u8)),(.sl (.int .u8))] [.bool] F
abbrev D6_10 (Z:Type):=(List Tq6)→Int→Int→Int→Tq21→Tq29→LI→LI→Z
abbrev E6_10 (R:Type):=(Bool→Option R)→(Option R)→Option R
abbrev Ri:=(R:Type)→D6_10 (E6_10 R)
def zi0 (L:Ri):LEnt:=lM 10 [.fix 7 (.ptr 2 [] Kq21),.fix 8 (.ptr 3 [] Kq29),.val 10 (.sl Kq6),.fix 11 (.ptr 4 [] (.arr 32 (.int .u8))),.fix 12 (.ptr 5 [] (.arr 32 (.int .u8))),.val 13 (.int .u64),.val 14 (.int .i64),.val 15 (.int .i64),.var 2 Kq21 false,.var 3 Kq29 false,.var 4 (.arr 32 (.int .u8)) false,.var 5 (.arr 32 (.int .u8)) false] 6 [(.ret,[.val 6 .bool]),(.exit 0,[])] L
def e6 (F9:FT9) (F10:FT10) (F11:FT11) (F12:FT12) (F13:FT13) (F14:FT14) (F23:FT23) (F24:FT24) (L10:Ri):=sE 0 105 [] [en9 F9,en10 F10,en11 F11,en12 F12,en13 F13,en14 F14,en23 F23,en24 F24] [zi0 L10]
def zx4 (F14:FT14) (F23:FT23) (F24:FT24) (R:Type):D6_10 (D6_10 (Option R)→E6_10 R):=fun x1 x2 x3 x4 x5 x6 x7 x8 kc k0 k1=>
let v9:=(x1.length:Int);let v10:=decide (x4<v9);(match v10 with
|true=>(match bnd x4 x1.length with
|true=>let v11:=x1.getD x4.toNat (0,0,0,(List.replicate 32 0),0,());F14 R x6 v11 fun y12 y13=>
let v14:=y13.1 !=0;(match v14 with
|true=>let v15:=IntKind.i64.wrap (x4+1);kc x1 x2 x3 v15 x5 y12 x7 x8
|false=>(match bnd x4 x1.length with
|true=>let v16:=(x1.getD x4.toNat (0,0,0,(List.replicate 32 0),0,())).1;let v17:=v16==5;(match v17 with
|true=>(match bnd x4 x1.length with
|true=>let v18:=(x1.getD x4.toNat (0,0,0,(List.replicate 32 0),0,())).2.2.2.1;let v19:=([x8,v18]:(List LI));F23 R v19 fun y20=>
(match bnd x4 x1.length with
|true=>let v21:=(x1.getD x4.toNat (0,0,0,(List.replicate 32 0),0,())).1;let v22:=v21==6;(match v22 with
|true=>let v23:=IntKind.i64.wrap (x3+1);let v24:=v23==x5.1;(match v24 with
|true=>F24 R x7 x2 y20 fun y25=>
let v26:=List.replicate 32 (0:Int);let v27:=IntKind.u64.wrap (x2+1);let v28:= !(Kd.eqv (.arr 32 (.int .u8)) y12.2.2.2.1.2.1 y25);(match v28 with
|true=>k0 false
|false=>let v29:=y12.2.2.2.1.1 !=v27;(match v29 with
|true=>k0 false
|false=>let v30:=y12.2.1 !=0;(match v30 with
|true=>k0 false
|false=>let v31:=IntKind.i64.wrap (x4+1);kc x1 v27 (0:Int) v31 x5 y12 y25 v26)))
|false=>let v32:= !(Kd.eqv (.arr 32 (.int .u8)) y12.2.2.2.1.2.1 x7);(match v32 with
|true=>k0 false
|false=>let v33:=y12.2.2.2.1.1 !=x2;(match v33 with
|true=>k0 false
|false=>let v34:=y12.2.1 !=v23;(match v34 with
|true=>k0 false
|false=>let v35:=IntKind.i64.wrap (x4+1);kc x1 x2 v23 v35 x5 y12 x7 y20))))
|false=>let v36:= !(Kd.eqv (.arr 32 (.int .u8)) y12.2.2.2.1.2.1 x7);(match v36 with
|true=>k0 false
|false=>let v37:=y12.2.2.2.1.1 !=x2;(match v37 with
|true=>k0 false
|false=>let v38:=y12.2.1 !=x3;(match v38 with
|true=>k0 false
|false=>let v39:=IntKind.i64.wrap (x4+1);kc x1 x2 x3 v39 x5 y12 x7 y20))))
|false=>none)
|false=>none)
|false=>(match bnd x4 x1.length with
|true=>let v40:=(x1.getD x4.toNat (0,0,0,(List.replicate 32 0),0,())).1;let v41:=v40==6;(match v41 with
|true=>let v42:=IntKind.i64.wrap (x3+1);let v43:=v42==x5.1;(match v43 with
|true=>F24 R x7 x2 x8 fun y44=>
let v45:=List.replicate 32 (0:Int);let v46:=IntKind.u64.wrap (x2+1);let v47:= !(Kd.eqv (.arr 32 (.int .u8)) y12.2.2.2.1.2.1 y44);(match v47 with
|true=>k0 false
|false=>let v48:=y12.2.2.2.1.1 !=v46;(match v48 with
|true=>k0 false
|false=>let v49:=y12.2.1 !=0;(match v49 with
|true=>k0 false
|false=>let v50:=IntKind.i64.wrap (x4+1);kc x1 v46 (0:Int) v50 x5 y12 y44 v45)))
|false=>let v51:= !(Kd.eqv (.arr 32 (.int .u8)) y12.2.2.2.1.2.1 x7);(match v51 with
|true=>k0 false
|false=>let v52:=y12.2.2.2.1.1 !=x2;(match v52 with
|true=>k0 false
|false=>let v53:=y12.2.1 !=v42;(match v53 with
|true=>k0 false
|false=>let v54:=IntKind.i64.wrap (x4+1);kc x1 x2 v42 v54 x5 y12 x7 x8))))
|false=>let v55:= !(Kd.eqv (.arr 32 (.int .u8)) y12.2.2.2.1.2.1 x7);(match v55 with
|true=>k0 false
|false=>let v56:=y12.2.2.2.1.1 !=x2;(match v56 with
|true=>k0 false
|false=>let v57:=y12.2.1 !=x3;(match v57 with
|true=>k0 false
|false=>let v58:=IntKind.i64.wrap (x4+1);kc x1 x2 x3 v58 x5 y12 x7 x8))))
|false=>none))
|false=>none))
|false=>none)
|false=>k1)
theorem q6_10 (F9:FT9) (F10:FT10) (F11:FT11) (F12:FT12) (F13:FT13) (F14:FT14) (F23:FT23) (F24:FT24) (L10:Ri):LEQ (zi0 L10) (e6 F9 F10 F11 F12 F13 F14 F23 F24 L10) Tryz.f6 (zx4 F14 F23 F24):=fun _ _ _ _=>by kernel_rfl
def zah:Nat→Ri
 | 0=>fun _ _ _ _ _ _ _ _ _ _ _=>none
 | n+1=>fun R x1 x2 x3 x4 x5 x6 x7 x8 k0 k1=>zx4 F14 F23 F24 R x1 x2 x3 x4 x5 x6 x7 x8 (fun x1 x2 x3 x4 x5 x6 x7 x8=>zah n R x1 x2 x3 x4 x5 x6 x7 x8 k0 k1) k0 k1
def p6 (F9:FT9) (F10:FT10) (F11:FT11) (F12:FT12) (F13:FT13) (L10:Ri):FT6:=fun R a0 a1 a2 k=>
F9 R  fun y1=>
(match (!y1) with
|true=>k false
|false=>F10 R a2 fun y2=>
(match (!y2) with
|true=>k true
|false=>F12 R a0 fun y3=>
F11 R y3 a1 fun y4 y5=>
F13 R a2 fun y6=>
let v7:=List.replicate 32 (0:Int);L10 R y6 (0:Int) (0:Int) (0:Int) y3 y4 a1 v7 (fun x8=>
k x8) (k true)))
theorem q6 (F9:FT9) (F10:FT10) (F11:FT11) (F12:FT12) (F13:FT13) (F14:FT14) (F23:FT23) (F24:FT24) (L10:Ri):EQ (en6 (p6 F9 F10 F11 F12 F13 L10)) (e6 F9 F10 F11 F12 F13 F14 F23 F24 L10) Tryz.f6 [(.tmp 6,4,false)]:=fun _ _ _=>by kernel_rfl
def F6:FT6:=p6 F9 F10 F11 F12 F13 (zah FUEL)
theorem zzd:LKP (zi0 (zah FUEL)) 0 105 10 Tryz.f6:=ST.lok (q6_10 F9 F10 F11 F12 F13 F14 F23 F24 (zah FUEL)) (Aa ok9 (Aa ok10 (Aa ok11 (Aa ok12 (Aa ok13 (Aa ok14 (Aa ok23 (Aa ok24 Ab)))))))) [] trivial
theorem ok6:OKP (en6 F6):=ST.ok1 (q6 F9 F10 F11 F12 F13 F14 F23 F24 (zah FUEL)) (Aa ok9 (Aa ok10 (Aa ok11 (Aa ok12 (Aa ok13 (Aa ok14 (Aa ok23 (Aa ok24 Ab)))))))) Tryz.func6 [10] ⟨⟨_,rfl,zzd⟩,trivial⟩
abbrev FT48:=(R:Type)→Tq21→(Bool→Option R)→Option R
def p48:FT48:=fun R a0 k=>
let v1:=decide (a0.1≥1);(match v1 with
|true=>let v2:=decide (a0.1≤1024);(match v2 with
|true=>let v3:=decide (a0.2.1≥0);(match v3 with
|true=>let v4:=decide (a0.2.1≤a0.1);(match v4 with
|true=>let v5:=decide (a0.2.2.1≥0);(match v5 with
|true=>let v6:=IntKind.i64.wrap (a0.1 - a0.2.1);let v7:=decide (a0.2.2.1≤v6);(match v7 with
|true=>let v8:=decide (a0.2.2.2.1≥1);(match v8 with
|true=>let v9:=decide (a0.2.2.2.1≤64);(match v9 with
|true=>let v10:=decide (a0.2.2.2.2.1≥1);(match v10 with
|true=>let v11:=decide (a0.2.2.2.2.1≤1048576);k v11
|false=>k false)
|false=>k false)
|false=>k false)
|false=>k false)
|false=>k false)
|false=>k false)
|false=>k false)
|false=>k false)
|false=>k false)
def F48:FT48:=p48
abbrev FT25:=(R:Type)→Tq21→Int→(Int→Option R)→Option R
def p25 (F48:FT48):FT25:=fun R a0 a1 k=>
F48 R a0 fun y1=>
(match (!y1) with
|true=>k (0:Int)
|false=>let v2:=decide (a1<0);(match v2 with
|true=>k (0:Int)
|false=>let v3:=decide (a1≥a0.1);(match v3 with
|true=>k (0:Int)
|false=>let v4:=decide (a1<a0.2.1);(match v4 with
|true=>k (1:Int)
|false=>let v5:=IntKind.i64.wrap (a0.2.1+a0.2.2.1);let v6:=decide (a1<v5);(match v6 with
|true=>k (2:Int)
|false=>k (3:Int))))))
end Go.PG
set_option maxRecDepth 100000
namespace Go.PG
open Go.Proofs
abbrev FT7:=(R:Type)→LI→LI→LI→(Bool→Option R)→Option R
abbrev D7_10 (Z:Type):=(List Tq6)→Int→Tq21→Tq29→(List Tq9)→Z
abbrev E7_10 (R:Type):=(Bool→Option R)→(Option R)→Option R
abbrev LT7_10:=(R:Type)→D7_10 (E7_10 R)
def p7 (F9:FT9) (F10:FT10) (F11:FT11) (F12:FT12) (F13:FT13) (L10:LT7_10):FT7:=fun R a0 a1 a2 k=>
F9 R  fun y1=>
(match (!y1) with
|true=>k false
|false=>F10 R a2 fun y2=>
(match (!y2) with
|true=>k true
|false=>F12 R a0 fun y3=>
F11 R y3 a1 fun y4 y5=>
F13 R a2 fun y6=>
L10 R y6 (0:Int) y3 y4 ([]:(List Tq9)) (fun x7=>
k x7) (k true)))
end Go.PG
namespace Go.PG
end Go.PG
namespace Go.PG
def U32 (x:Int):Prop:=0≤x∧x<4294967296
def U8 (x:Int):Prop:=0≤x∧x<256
theorem So {x:Int} (h:U32 x):(BitVec.ofInt 32 x).toNat=x.toNat:=by
 rw [BitVec.toNat_ofInt];unfold U32 at h;have:x % ((2^32:Nat):Int)=x:=by omega
 rw [this]
theorem Ob (b:BitVec 32):IntKind.u32.wrap ((b.toNat:Nat):Int)=(b.toNat:Int):=by
 have:=b.isLt;exact Cs (by omega) (by omega)
theorem zc8 (a b:Int):iand .u32 a b=((BitVec.ofInt 32 a&&& BitVec.ofInt 32 b).toNat:Int):=Ob _
theorem Sx (a b:Int):ior .u32 a b=((BitVec.ofInt 32 a||| BitVec.ofInt 32 b).toNat:Int):=Ob _
theorem Sw (a b:Int):ixor .u32 a b=((BitVec.ofInt 32 a^^^BitVec.ofInt 32 b).toNat:Int):=Ob _
theorem J5 (a:Int):U32 (IntKind.u32.wrap a):=by rw [Dc]; unfold U32; omega
theorem H1 (b:BitVec 32):BitVec.ofInt 32 ((b.toNat:Nat):Int)=b:=by
 rw [BitVec.ofInt_natCast,BitVec.ofNat_toNat,BitVec.setWidth_eq]
theorem zkx {a:Int} (b c:Int) (ha:U32 a):ixor .u32 (iand .u32 a b) (iand .u32 (ixor .u32 4294967295 a) c)=ior .u32 (iand .u32 a b) (iand .u32 (IntKind.u32.wrap (4294967295 - a)) c):=by
 have h1:IntKind.u32.wrap (4294967295 - a)=ixor .u32 4294967295 a:=by
  rw [Sw,Cs (by unfold U32 at ha; omega) (by unfold U32 at ha; omega)];have e:BitVec.ofInt 32 4294967295=BitVec.allOnes 32:=by decide
  rw [e,BitVec.allOnes_xor,BitVec.toNat_not,So ha];unfold U32 at ha;omega
 rw [h1];simp only [zc8,Sx,Sw,H1]
 congr 2
 have e:BitVec.ofInt 32 4294967295=BitVec.allOnes 32:=by decide
 rw [e]
 ext i hi
 simp only [BitVec.getElem_xor,BitVec.getElem_and,BitVec.getElem_or,BitVec.getElem_allOnes];cases (BitVec.ofInt 32 a)[i]<;>simp
theorem Yi (a b c:Int):ixor .u32 (ixor .u32 (iand .u32 a b) (iand .u32 a c)) (iand .u32 b c)=ior .u32 (ior .u32 (iand .u32 a b) (iand .u32 a c)) (iand .u32 b c):=by
 simp only [zc8,Sx,Sw,H1]
 congr 2
 ext i hi
 simp;cases (BitVec.ofInt 32 a)[i]<;>cases (BitVec.ofInt 32 b)[i]<;>cases (BitVec.ofInt 32 c)[i]<;>rfl
def rotS (x:Int) (r:Nat):Int:=x/2^r+(x % 2^r)*2^(32 - r)
theorem Un {x:Int} {r:Nat} (hx:U32 x) (hr:r<32):rotS x (r+1)=rotS x r/2+(rotS x r % 2)*2147483648:=by
 unfold rotS U32 at*;have e1:(2:Int)^(32 - r)=2*2^(31 - r):=by
  rw [show 32 - r=(31 - r)+1 by omega,Int.pow_succ]; omega
 have e2:(2:Int)^(32 - (r+1))=2^(31 - r):=by rw [show 32 - (r+1)=31 - r by omega]
 have e3:(2:Int)^(r+1)=2^r*2:=Int.pow_succ _ _;have e4:(2:Int)^r*2^(31 - r)=2147483648:=by
  rw [←Int.pow_add,show r+(31 - r)=31 by omega]; decide
 rw [e1,e2,e3];have hp:(0:Int)<2^r:=Int.pow_pos (by decide);generalize (2:Int)^r=p at*;generalize (2:Int)^(31 - r)=s at*;have d1:x/(p*2)=x/p/2:=(Int.ediv_ediv_of_nonneg (by omega)).symm;have d2:x % (p*2)=x % p+p*(x/p % 2):=by
  have a1:=Int.emod_add_mul_ediv x p;have a2:=Int.emod_add_mul_ediv x (p*2);have a3:=Int.emod_add_mul_ediv (x/p) 2;rw [d1] at a2;generalize x/p=q at*;generalize x % p=m at*;generalize q/2=h at*;generalize q % 2=t at*;have:p*(t+2*h)=p*q:=by rw [a3]
  rw [Int.mul_add,←Int.mul_assoc] at this;omega
 rw [d1,d2,Int.add_mul];have e5:p*(x/p % 2)*s=(x/p % 2)*2147483648:=by
  rw [Int.mul_comm p,Int.mul_assoc,e4]
 rw [e5];have e6:x % p*(2*s)=2*(x % p*s):=by rw [Int.mul_left_comm]
 rw [e6];generalize x % p*s=u;omega
theorem Um (x:Int):rotS x 0=x:=by simp [rotS]
theorem zgu {x:Int} (hx:U32 x):∀{r:Nat},r≤32→U32 (rotS x r)
 | 0,_=>by rw [Um]; exact hx
 | r+1,h=>by
  have ih:=zgu hx (r:=r) (by omega);rw [Un hx (by omega)];unfold U32 at*;omega
theorem two_pow_pos (r:Nat):(0:Int)<2^r:=Int.pow_pos (by decide)
theorem rot_or {x:Int} (hx:U32 x) {r:Nat} (h0:0<r) (hr:r<32):ior .u32 (ishr .u32 x r) (ishl .u32 x ((32:Int) - r))=rotS x r:=by
 unfold U32 at hx;obtain ⟨n,rfl⟩:∃n:Nat,x=n:=⟨x.toNat,by omega⟩
 have hn:n<2^32:=by omega
 have e1:ishr .u32 (n:Int) r=((n/2^r:Nat):Int):=by
  unfold ishr;rw [show IntKind.u32.bits=32 from rfl,show ((r:Int).toNat)=r by simp,Nat.min_eq_left (by omega),Int.fdiv_eq_ediv_of_nonneg _ (by have:=two_pow_pos r; omega)];simp
 have e2:ishl .u32 (n:Int) ((32:Int) - r)=((n*2^(32 - r) % 2^32:Nat):Int):=by
  unfold ishl;rw [show IntKind.u32.bits=32 from rfl,show ((32:Int) - r).toNat=32 - r by omega,Nat.min_eq_left (by omega),Dc];simp
 rw [e1,e2,Sx,BitVec.ofInt_natCast,BitVec.ofInt_natCast,BitVec.toNat_or,BitVec.toNat_ofNat,BitVec.toNat_ofNat];have hd:n/2^r<2^(32 - r):=by
  rw [Nat.div_lt_iff_lt_mul (Nat.two_pow_pos r),←Nat.pow_add,show 32 - r+r=32 by omega]; exact hn
 have h3:n*2^(32 - r) % 2^32=(n % 2^r)*2^(32 - r):=by
  have:2^32=2^r*2^(32 - r):=by rw [←Nat.pow_add,show r+(32 - r)=32 by omega]
  rw [this,Nat.mul_mod_mul_right]
 have h4:n/2^r<2^32:=Nat.lt_of_le_of_lt (Nat.div_le_self _ _) hn;rw [h3,Nat.mod_eq_of_lt h4,Nat.mod_eq_of_lt (by
  have:n % 2^r<2^r:=Nat.mod_lt _ (Nat.two_pow_pos r);have h5:2^32=2^r*2^(32 - r):=by rw [←Nat.pow_add,show r+(32 - r)=32 by omega]
  rw [h5]; exact Nat.mul_lt_mul_of_pos_right this (Nat.two_pow_pos _)),Nat.or_comm]
 have h6:=Nat.shiftLeft_add_eq_or_of_lt hd (n % 2^r);rw [Nat.shiftLeft_eq] at h6;rw [←h6];unfold rotS;simp;omega
end Go.PG
namespace Go.PG
theorem F260_eq (R:Type) {x:Int} (hx:U32 x) {r:Nat} (h0:0<r) (hr:r<32) (k:Int→Option R):F260 R x (r:Int) k=k (rotS x r):=by
 simp only [F260,p260];rw [Aj (n:=(r:Int)) (by omega) (by omega),Int.tmod_eq_of_lt (by omega) (by omega),Aj (by omega) (by omega)];rw [show decide (0≤(r:Int))=true by simp,show decide (0≤(32:Int) - r)=true by simp; omega];simp only;rw [rot_or hx h0 hr]
theorem zlu (R:Type) {x:Int} (hx:U32 x) {r:Nat} (hr:r≤32) (k:Int→Option R):∀(m i:Nat),i≤r→r - i<m→Pw m R (rotS x i) (r:Int) (i:Int) k=k (rotS x r)
 | 0,i,_,h=>by omega
 | m+1,i,h1,h2=>by
  simp only [Pw,zhh]
  by_cases hi:i<r
  ·have hd:decide ((i:Int)<(r:Int))=true:=by simpa using hi
   have hu:=zgu hx (r:=i) (by omega);have hs:=Un hx (r:=i) (by omega);simp only [hd];have ih:=zlu R hx hr k m (i+1) (by omega) (by omega);rw [hs] at ih;rw [←ih];unfold U32 at hu;rw [Int.tdiv_eq_ediv_of_nonneg hu.1,Int.tmod_eq_emod_of_nonneg hu.1];rw [Cs (n:=rotS x i/2) (by omega) (by omega),Cs (n:=rotS x i % 2*2147483648) (by omega) (by omega),Cs (by omega) (by omega),wrap_i64 (by omega) (by omega)];rfl
  ·have hd:decide ((i:Int)<(r:Int))=false:=by simpa using hi
   have:i=r:=by omega
   subst this;simp only [hd]
theorem F235_eq (R:Type) {x:Int} (hx:U32 x) {r:Nat} (hr:r<32) (k:Int→Option R):F235 R x (r:Int) k=k (rotS x r):=by
 simp only [F235,p235];rw [Int.tmod_eq_of_lt (by omega) (by omega)];have hd:decide ((r:Int)<0)=false:=by simp
 simp only [hd];have:=zlu R hx (r:=r) (by omega) k FUEL 0 (by omega) (by rw [Am]; omega);rw [Um] at this;exact this
def shrS (x:Int) (r:Nat):Int:=x/2^r
theorem zcl {x:Int} (hx:U32 x) {r:Nat} (hr:r≤32):ishr .u32 x r=shrS x r:=by
 unfold ishr shrS;rw [show IntKind.u32.bits=32 from rfl,show ((r:Int).toNat)=r by simp,Nat.min_eq_left hr,Int.fdiv_eq_ediv_of_nonneg _ (by have:=two_pow_pos r; omega)]
theorem F261_eq (R:Type) {x:Int} (hx:U32 x) {r:Nat} (hr:r≤32) (k:Int→Option R):F261 R x (r:Int) k=k (shrS x r):=by
 simp only [F261,p261];have e:(if (0:Int)>(r:Int) then (0:Int) else (r:Int))=r:=by split<;>omega
 rw [e,Aj (by omega) (by omega),zcl hx hr];have hd:decide ((0:Int)≤(r:Int))=true:=by simp
 simp only [hd]
theorem zxd {x:Int} (hx:U32 x) (r:Nat):U32 (shrS x r):=by
 unfold shrS U32 at*;have hp:=two_pow_pos r;exact ⟨Int.ediv_nonneg hx.1 (by omega),Int.lt_of_le_of_lt (Int.ediv_le_self _ hx.1) hx.2⟩
theorem zgh (x:Int) (r:Nat):shrS x (r+1)=shrS x r/2:=by
 unfold shrS;rw [Int.pow_succ,Int.ediv_ediv_of_nonneg (by have:=two_pow_pos r; omega)]
theorem zlw (R:Type) {x:Int} (hx:U32 x) {r:Nat} (hr:r≤32) (k:Int→Option R):∀(m i:Nat),i≤r→r - i<m→Py m R (shrS x i) (r:Int) (i:Int) k=k (shrS x r)
 | 0,i,_,h=>by omega
 | m+1,i,h1,h2=>by
  simp only [Py,zhk]
  by_cases hi:i<r
  ·have hd:decide ((i:Int)<(r:Int))=true:=by simpa using hi
   have hu:=zxd hx i;simp only [hd];have ih:=zlw R hx hr k m (i+1) (by omega) (by omega);rw [zgh] at ih;rw [←ih];unfold U32 at hu;rw [Int.tdiv_eq_ediv_of_nonneg hu.1,Cs (by omega) (by omega),wrap_i64 (by omega) (by omega)];rfl
  ·have hd:decide ((i:Int)<(r:Int))=false:=by simpa using hi
   have:i=r:=by omega
   subst this;simp only [hd]
theorem F219_eq (R:Type) {x:Int} (hx:U32 x) {r:Nat} (hr:r<32) (k:Int→Option R):F219 R x (r:Int) k=k (shrS x r):=by
 simp only [F219,p219];have hd:decide ((r:Int)>31)=false:=by simp; omega
 simp only [hd];have:=zlw R hx (r:=r) (by omega) k FUEL 0 (by omega) (by rw [Am]; omega);rw [show shrS x 0=x by simp [shrS]] at this;exact this
theorem Ej (R:Type) {x:Int} (hx:U32 x) {n:Int} (r:Nat) (e:n=(r:Int)) (h0:0<r) (hr:r<32) (k:Int→Option R):F260 R x n k=k (rotS x r):=by rw [e]; exact F260_eq R hx h0 hr k
theorem Hj (R:Type) {x:Int} (hx:U32 x) {n:Int} (r:Nat) (e:n=(r:Int)) (hr:r<32) (k:Int→Option R):F235 R x n k=k (rotS x r):=by rw [e]; exact F235_eq R hx hr k
theorem zd5 (R:Type) {x:Int} (hx:U32 x) {n:Int} (r:Nat) (e:n=(r:Int)) (hr:r≤32) (k:Int→Option R):F261 R x n k=k (shrS x r):=by rw [e]; exact F261_eq R hx hr k
theorem zd6 (R:Type) {x:Int} (hx:U32 x) {n:Int} (r:Nat) (e:n=(r:Int)) (hr:r<32) (k:Int→Option R):F219 R x n k=k (shrS x r):=by rw [e]; exact F219_eq R hx hr k
def sig3 (x:Int) (a b c:Nat):Int:=ixor .u32 (ixor .u32 (rotS x a) (rotS x b)) (rotS x c)
def sig2 (x:Int) (a b c:Nat):Int:=ixor .u32 (ixor .u32 (rotS x a) (rotS x b)) (shrS x c)
theorem F250_eq (R:Type) {x:Int} (hx:U32 x) (k:Int→Option R):F250 R x k=k (sig2 x 17 19 10):=by
 simp only [F250,p250,F257,p257];rw [Ej R hx (n:=17) 17 rfl (by omega) (by omega),Ej R hx (n:=19) 19 rfl (by omega) (by omega),zd5 R hx (n:=10) 10 rfl (by omega)];simp only [sig2]
theorem F251_eq (R:Type) {x:Int} (hx:U32 x) (k:Int→Option R):F251 R x k=k (sig2 x 7 18 3):=by
 simp only [F251,p251,F257,p257];rw [Ej R hx (n:=7) 7 rfl (by omega) (by omega),Ej R hx (n:=18) 18 rfl (by omega) (by omega),zd5 R hx (n:=3) 3 rfl (by omega)];simp only [sig2]
theorem F209_eq (R:Type) {x:Int} (hx:U32 x) (k:Int→Option R):F209 R x k=k (sig2 x 17 19 10):=by
 have h1:=Hj R hx (n:=17) 17 rfl (by omega);have h2:=Hj R hx (n:=19) 19 rfl (by omega);have h3:=zd6 R hx (n:=10) 10 rfl (by omega);show p209 F219 F235 R x k=_;generalize F235=f at*;generalize F219=g at*;simp only [p209,h1,h2,h3,sig2]
theorem F210_eq (R:Type) {x:Int} (hx:U32 x) (k:Int→Option R):F210 R x k=k (sig2 x 7 18 3):=by
 have h1:=Hj R hx (n:=7) 7 rfl (by omega);have h2:=Hj R hx (n:=18) 18 rfl (by omega);have h3:=zd6 R hx (n:=3) 3 rfl (by omega);show p210 F219 F235 R x k=_;generalize F235=f at*;generalize F219=g at*;simp only [p210,h1,h2,h3,sig2]
def chS (a b c:Int):Int:=ior .u32 (iand .u32 a b) (iand .u32 (IntKind.u32.wrap (4294967295 - a)) c)
def majS (a b c:Int):Int:=ior .u32 (ior .u32 (iand .u32 a b) (iand .u32 a c)) (iand .u32 b c)
theorem F252_eq (R:Type) {a:Int} (ha:U32 a) (b c:Int) (k:Int→Option R):F252 R a b c k=k (IntKind.u32.wrap (sig3 a 6 11 25+chS a b c)):=by
 simp only [F252,p252,F258,p258];rw [Ej R ha (n:=6) 6 rfl (by omega) (by omega),Ej R ha (n:=11) 11 rfl (by omega) (by omega),Ej R ha (n:=25) 25 rfl (by omega) (by omega)];simp only [sig3,chS,zkx b c ha]
theorem F253_eq (R:Type) {a:Int} (ha:U32 a) (b c:Int) (k:Int→Option R):F253 R a b c k=k (IntKind.u32.wrap (sig3 a 2 13 22+majS a b c)):=by
 simp only [F253,p253,F258,p258];rw [Ej R ha (n:=2) 2 rfl (by omega) (by omega),Ej R ha (n:=13) 13 rfl (by omega) (by omega),Ej R ha (n:=22) 22 rfl (by omega) (by omega)];simp only [sig3,majS,Yi]
theorem znw (R:Type) {x:Int} (hx:U32 x) {a b c:Int} (p q r:Nat) (ea:a=(p:Int)) (eb:b=(q:Int)) (ec:c=(r:Int)) (hp:p<32) (hq:q<32) (hr:r<32) (k:Int→Option R):F211 R x a b c k=k (sig3 x p q r):=by
 simp only [F211,p211];rw [Hj R hx p ea hp,Hj R hx q eb hq,Hj R hx r ec hr];simp only [sig3]
def Kb (s:List Int) (w c:Int):List Int:=
 let t:=IntKind.u32.wrap (s.getD 7 0+sig3 (s.getD 4 0) 6 11 25+chS (s.getD 4 0) (s.getD 5 0) (s.getD 6 0)+c+w)
 [IntKind.u32.wrap (t+(sig3 (s.getD 0 0) 2 13 22+majS (s.getD 0 0) (s.getD 1 0) (s.getD 2 0))),s.getD 0 0,s.getD 1 0,s.getD 2 0,IntKind.u32.wrap (s.getD 3 0+t),s.getD 4 0,s.getD 5 0,s.getD 6 0]
theorem F175_eq (R:Type) {s:List Int} (h0:U32 (s.getD 0 0)) (h4:U32 (s.getD 4 0)) (w c:Int) (k:List Int→Option R):F175 R s w c k=k (Kb s w c):=by
 have e1:=znw R h4 (a:=6) (b:=11) (c:=25) 6 11 25 rfl rfl rfl (by omega) (by omega) (by omega);have e2:=znw R h0 (a:=2) (b:=13) (c:=22) 2 13 22 rfl rfl rfl (by omega) (by omega) (by omega);show p175 F211 F212 F213 R s w c k=_;generalize F211=f at*;simp only [p175,e1,e2,F212,p212,F213,p213]
 congr 1
 simp only [Kb,chS,majS,List.replicate,List.set];simp only [Dc]
 congr 1
 ·omega
 ·congr 4
  omega
theorem F238_eq (R:Type) {a0 a1 a2 a3 a4 a5 a6 a7:Int} (h0:U32 a0) (h4:U32 a4) (w c:Int) (k:List Int→Option R):F238 R [a0,a1,a2,a3,a4,a5,a6,a7] w c k=k (Kb [a0,a1,a2,a3,a4,a5,a6,a7] w c):=by
 simp only [F238,p238,List.getD_cons_zero,List.getD_cons_succ];rw [F252_eq R h4,F253_eq R h0]
 congr 1
 simp [Kb,lay,List.replicate];simp only [Dc];refine ⟨?_,?_⟩<;>omega
end Go.PG
namespace Go.PG
theorem list4 {l:List Int} (h:l.length=4):∃a b c d,l=[a,b,c,d]:=by
 match l,h with
 | [a,b,c,d],_=>exact ⟨a,b,c,d,rfl⟩
theorem list8 {l:List Int} (h:l.length=8):∃a b c d e f g i,l=[a,b,c,d,e,f,g,i]:=by
 match l,h with
 | [a,b,c,d,e,f,g,i],_=>exact ⟨a,b,c,d,e,f,g,i,rfl⟩
def AllU8 (l:List Int):Prop:=∀x∈l,U8 x
def AllU32 (l:List Int):Prop:=∀x∈l,U32 x
def Jc (a b c d:Int):Int:=((a*256+b)*256+c)*256+d
theorem Eu (n:Nat) (h:n≤1000):∃m,FUEL=m+n:=⟨FUEL - n,by rw [Am]; omega⟩
theorem zvs (R:Type) {a b c d:Int} (ha:U8 a) (hb:U8 b) (hc:U8 c) (hd:U8 d) (k:Int→Option R):F89 R [a,b,c,d] k=k (Jc a b c d):=by
 obtain ⟨m,hm⟩:=Eu 5 (by omega);unfold U8 at*;simp only [F89,p89,hm,zf0,zxx];simp [bnd,Ek,Dc,Jc]
 congr 1
 omega
theorem N1 {x b:Int} (hx:0≤x∧x<16777216) (hb:U8 b):ior .u32 (ishl .u32 x 8) b=x*256+b:=by
 unfold U8 at hb;obtain ⟨n,rfl⟩:∃n:Nat,x=n:=⟨x.toNat,by omega⟩
 obtain ⟨c,rfl⟩:∃c:Nat,b=c:=⟨b.toNat,by omega⟩
 have e2:ishl .u32 (n:Int) 8=((n*256:Nat):Int):=by
  unfold ishl;rw [show (2:Int)^(min (8:Int).toNat IntKind.u32.bits)=256 by decide,Cs (by omega) (by omega)];simp
 rw [e2,Sx,BitVec.ofInt_natCast,BitVec.ofInt_natCast,BitVec.toNat_or,BitVec.toNat_ofNat,BitVec.toNat_ofNat,Nat.mod_eq_of_lt (by omega),Nat.mod_eq_of_lt (by omega)];have h6:=Nat.shiftLeft_add_eq_or_of_lt (i:=8) (b:=c) (by omega) n;rw [Nat.shiftLeft_eq] at h6;rw [show n*256=n*2^8 by rfl,←h6];simp
theorem zny (R:Type) {a b c d:Int} (ha:U8 a) (hb:U8 b) (hc:U8 c) (hd:U8 d) (k:Int→Option R):F194 R [a,b,c,d] k=k (Jc a b c d):=by
 obtain ⟨m,hm⟩:=Eu 5 (by omega);simp only [F194,p194,hm,Ru,zhq];have w:∀x,U8 x→IntKind.u32.wrap x=x:=fun x h=>Cs h.1 (by unfold U8 at h; omega)
 simp [bnd,Ek,w a ha,w b hb,w c hc,w d hd];have u:=ha; have v:=hb; have y:=hc; have z:=hd;unfold U8 at u v y z;rw [N1 (x:=0) (by omega) ha,N1 (by omega) hb,N1 (by omega) hc,N1 (by omega) hd];simp [Jc]
theorem zju {a b c d:Int} (ha:U8 a) (hb:U8 b) (hc:U8 c) (hd:U8 d):U32 (Jc a b c d):=by
 unfold U8 U32 Jc at*; omega
def zpu (blk:List Int) (i:Nat):Int:=Jc (blk.getD (4*i) 0) (blk.getD (4*i+1) 0) (blk.getD (4*i+2) 0) (blk.getD (4*i+3) 0)
def zxt (l:List Int) (i:Nat):Int:=IntKind.u32.wrap (IntKind.u32.wrap (IntKind.u32.wrap (sig2 (l.getD (i - 2) 0) 17 19 10+l.getD (i - 7) 0)+sig2 (l.getD (i - 15) 0) 7 18 3)+l.getD (i - 16) 0)
def B6 (blk l:List Int) (i:Nat):List Int:=l.set i (if i<16 then zpu blk i else zxt l i)
def zeq (blk:List Int):List Int:=(List.range' 0 64).foldl (B6 blk) (List.replicate 64 0)
theorem Au {p:Int→Prop} {l:List Int} (h:∀x∈l,p x) (h0:p 0) (i:Nat):p (l.getD i 0):=by
 rw [List.getD_eq_getElem?_getD];cases hi:l[i]? with
 | none=>exact h0
 | some x=>exact h x (List.mem_of_getElem? hi)
theorem u8_0:U8 0:=by unfold U8; omega
theorem Qg:U32 0:=by unfold U32; omega
theorem AllU32.set {l:List Int} (h:AllU32 l) {i:Nat} {x:Int} (hx:U32 x):AllU32 (l.set i x):=fun y hy=>by
 rcases List.mem_or_eq_of_mem_set hy with h1 | h1
 ·exact h y h1
 ·rw [h1]; exact hx
theorem AllU32.rep (n:Nat):AllU32 (List.replicate n 0):=fun y hy=>by rw [List.eq_of_mem_replicate hy]; exact Qg
theorem zpt {blk:List Int} (h:AllU8 blk) (i:Nat):U32 (zpu blk i):=zju (Au h u8_0 _) (Au h u8_0 _) (Au h u8_0 _) (Au h u8_0 _)
theorem G1 {blk l:List Int} (hb:AllU8 blk) (hl:l.length=64) (h:AllU32 l) (i:Nat):(B6 blk l i).length=64∧AllU32 (B6 blk l i):=by
 unfold B6;refine ⟨by simpa using hl,h.set ?_⟩;split
 ·exact zpt hb i
 ·exact J5 _
theorem take4 {l:List Int} {i:Nat} (h:i+4≤l.length):List.take 4 (List.drop i l)=[l.getD i 0,l.getD (i+1) 0,l.getD (i+2) 0,l.getD (i+3) 0]:=by
 have e0:List.drop i l=l[i]::List.drop (i+1) l:=List.drop_eq_getElem_cons (by omega);have e1:List.drop (i+1) l=l[i+1]::List.drop (i+1+1) l:=List.drop_eq_getElem_cons (by omega);have e2:List.drop (i+1+1) l=l[i+1+1]::List.drop (i+1+1+1) l:=List.drop_eq_getElem_cons (by omega);have e3:List.drop (i+1+1+1) l=l[i+1+1+1]::List.drop (i+1+1+1+1) l:=List.drop_eq_getElem_cons (by omega);rw [e0,e1,e2,e3];show [l[i],l[i+1],l[i+1+1],l[i+1+1+1]]=_;simp [show i<l.length by omega,show i+1<l.length by omega,show i+2<l.length by omega,show i+3<l.length by omega]
theorem By {i n:Nat} (h:i<n):List.range' i (n - i)=i::List.range' (i+1) (n - (i+1)):=by
 rw [show n - i=(n - (i+1))+1 by omega,List.range'_succ]
theorem zlt (R:Type) {blk:List Int} (hb:blk.length=64) (h8:AllU8 blk) (k0:List Int→Option R):∀(m i:Nat) (l:List Int),i≤64→64 - i<m→l.length=64→AllU32 l→
  Pv m R (i:Int) blk l k0=k0 ((List.range' i (64 - i)).foldl (B6 blk) l)
 | 0,i,l,_,h,_,_=>by omega
 | m+1,i,l,h1,h2,hl,hu=>by
  simp only [Pv,zhg]
  by_cases hi:i<64
  ·have ok:=G1 h8 hl hu i
   have ih:=zlt R hb h8 k0 m (i+1) (B6 blk l i) (by omega) (by omega) ok.1 ok.2;rw [By hi,List.foldl_cons,←ih];rw [wrap_i64 (n:=4*(i:Int)) (by omega) (by omega),wrap_i64 (n:=(i:Int)+1) (by omega) (by omega),wrap_i64 (n:=4*(i:Int)+4) (by omega) (by omega)];have hd:decide ((i:Int)<64)=true:=by simp; omega
   have hbn:bnd (i:Int) 64=true:=by unfold bnd; simp; omega
   by_cases h16:i<16
   ·have c1:decide (4*(i:Int)<64)=true:=by simp; omega
    have c2:decide (0≤4*(i:Int)∧4*(i:Int)≤4*(i:Int)+4∧4*(i:Int)+4≤64)=true:=by simp; omega
    have c3:decide ((4:Int)≤((Int.toNat (4*(i:Int)+4 - 4*(i:Int)):Nat):Int))=true:=by simp; omega
    have e1:(4*(i:Int)).toNat=4*i:=by omega
    simp only [hd,c1,c2,c3,e1,hbn];rw [take4 (by omega),zny R (Au h8 u8_0 _) (Au h8 u8_0 _) (Au h8 u8_0 _) (Au h8 u8_0 _)];simp only [B6,if_pos h16,zpu,Int.toNat_natCast];rfl
   ·have c1:decide (4*(i:Int)<64)=false:=by simp; omega
    rw [wrap_i64 (n:=(i:Int) - 2) (by omega) (by omega),wrap_i64 (n:=(i:Int) - 7) (by omega) (by omega),wrap_i64 (n:=(i:Int) - 15) (by omega) (by omega),wrap_i64 (n:=(i:Int) - 16) (by omega) (by omega)];have b2:bnd ((i:Int) - 2) 64=true:=by unfold bnd; simp; omega
    have b7:bnd ((i:Int) - 7) 64=true:=by unfold bnd; simp; omega
    have b15:bnd ((i:Int) - 15) 64=true:=by unfold bnd; simp; omega
    have b16:bnd ((i:Int) - 16) 64=true:=by unfold bnd; simp; omega
    have n2:((i:Int) - 2).toNat=i - 2:=by omega
    have n7:((i:Int) - 7).toNat=i - 7:=by omega
    have n15:((i:Int) - 15).toNat=i - 15:=by omega
    have n16:((i:Int) - 16).toNat=i - 16:=by omega
    simp only [hd,c1,hbn,b2,b7,b15,b16,n2,n7,n15,n16];rw [F250_eq R (Au hu Qg _),F251_eq R (Au hu Qg _)];simp only [B6,if_neg h16,zxt,Int.toNat_natCast];rfl
  ·have:i=64:=by omega
   subst this;rfl
theorem F237_eq (R:Type) {blk:List Int} (hb:blk.length=64) (h8:AllU8 blk) (k:List Int→Option R):F237 R blk k=k (zeq blk):=by
 simp only [F237,p237];exact zlt R hb h8 _ FUEL 0 (List.replicate 64 0) (by omega) (by rw [Am]; omega) (by simp) (AllU32.rep 64)
theorem Wv (R:Type) {blk:List Int} (hb:blk.length=64) (h8:AllU8 blk) (x3:List Int) (k0:List Int→List Int→Option R):∀(m i:Nat) (l:List Int),i≤16→16 - i<m→l.length=64→AllU32 l→
  Ng m R (i:Int) blk x3 l k0=k0 x3 ((List.range' i (16 - i)).foldl (B6 blk) l)
 | 0,i,l,_,h,_,_=>by omega
 | m+1,i,l,h1,h2,hl,hu=>by
  simp only [Ng,zhw]
  by_cases hi:i<16
  ·have ok:=G1 h8 hl hu i
   have ih:=Wv R hb h8 x3 k0 m (i+1) (B6 blk l i) (by omega) (by omega) ok.1 ok.2;rw [By hi,List.foldl_cons,←ih];rw [wrap_i64 (n:=4*(i:Int)) (by omega) (by omega),wrap_i64 (n:=(i:Int)+1) (by omega) (by omega),wrap_i64 (n:=4*(i:Int)+1) (by omega) (by omega),wrap_i64 (n:=4*(i:Int)+2) (by omega) (by omega),wrap_i64 (n:=4*(i:Int)+3) (by omega) (by omega)];have hd:decide ((i:Int)<16)=true:=by simp; omega
   have hbn:bnd (i:Int) 64=true:=by unfold bnd; simp; omega
   have b0:bnd (4*(i:Int)) 64=true:=by unfold bnd; simp; omega
   have b1:bnd (4*(i:Int)+1) 64=true:=by unfold bnd; simp; omega
   have b2:bnd (4*(i:Int)+2) 64=true:=by unfold bnd; simp; omega
   have b3:bnd (4*(i:Int)+3) 64=true:=by unfold bnd; simp; omega
   have n0:(4*(i:Int)).toNat=4*i:=by omega
   have n1:(4*(i:Int)+1).toNat=4*i+1:=by omega
   have n2:(4*(i:Int)+2).toNat=4*i+2:=by omega
   have n3:(4*(i:Int)+3).toNat=4*i+3:=by omega
   simp only [hd,hbn,b0,b1,b2,b3,n0,n1,n2,n3,List.replicate,List.set];rw [zvs R (Au h8 u8_0 _) (Au h8 u8_0 _) (Au h8 u8_0 _) (Au h8 u8_0 _)];simp only [B6,if_pos hi,zpu,Int.toNat_natCast];rfl
  ·have:i=16:=by omega
   subst this;rfl
theorem Wu (R:Type) {blk:List Int} (h8:AllU8 blk) (x2:List Int) (k0:List Int→List Int→Option R):∀(m i:Nat) (l:List Int),16≤i→i≤64→64 - i<m→l.length=64→AllU32 l→
  K0 m R (i:Int) x2 l k0=k0 x2 ((List.range' i (64 - i)).foldl (B6 blk) l)
 | 0,i,l,_,_,h,_,_=>by omega
 | m+1,i,l,h16,h1,h2,hl,hu=>by
  simp only [K0,zhv]
  by_cases hi:i<64
  ·have ok:=G1 h8 hl hu i
   have ih:=Wu R h8 x2 k0 m (i+1) (B6 blk l i) (by omega) (by omega) (by omega) ok.1 ok.2;rw [By hi,List.foldl_cons,←ih];rw [wrap_i64 (n:=(i:Int)+1) (by omega) (by omega),wrap_i64 (n:=(i:Int) - 2) (by omega) (by omega),wrap_i64 (n:=(i:Int) - 7) (by omega) (by omega),wrap_i64 (n:=(i:Int) - 15) (by omega) (by omega),wrap_i64 (n:=(i:Int) - 16) (by omega) (by omega)];have hd:decide ((i:Int)<64)=true:=by simp; omega
   have hbn:bnd (i:Int) 64=true:=by unfold bnd; simp; omega
   have b2:bnd ((i:Int) - 2) 64=true:=by unfold bnd; simp; omega
   have b7:bnd ((i:Int) - 7) 64=true:=by unfold bnd; simp; omega
   have b15:bnd ((i:Int) - 15) 64=true:=by unfold bnd; simp; omega
   have b16:bnd ((i:Int) - 16) 64=true:=by unfold bnd; simp; omega
   have n2:((i:Int) - 2).toNat=i - 2:=by omega
   have n7:((i:Int) - 7).toNat=i - 7:=by omega
   have n15:((i:Int) - 15).toNat=i - 15:=by omega
   have n16:((i:Int) - 16).toNat=i - 16:=by omega
   simp only [hd,hbn,b2,b7,b15,b16,n2,n7,n15,n16];rw [F209_eq R (Au hu Qg _),F210_eq R (Au hu Qg _)];simp only [B6,if_neg (show ¬i<16 by omega),zxt,Int.toNat_natCast];rfl
  ·have:i=64:=by omega
   subst this;rfl
theorem Ot {blk:List Int} (h8:AllU8 blk):∀(is:List Nat) (l:List Int),l.length=64→AllU32 l→(is.foldl (B6 blk) l).length=64∧AllU32 (is.foldl (B6 blk) l)
 | [],l,h1,h2=>⟨h1,h2⟩
 | i::is,l,h1,h2=>by
  have ok:=G1 h8 h1 h2 i;exact Ot h8 is _ ok.1 ok.2
theorem F174_eq (R:Type) {blk:List Int} (hb:blk.length=64) (h8:AllU8 blk) (k:List Int→Option R):F174 R blk k=k (zeq blk):=by
 simp only [F174,p174];have g1:=Wv R hb h8 (List.replicate 64 0) (fun x1 x2=>K0 FUEL R 16 x1 x2 fun x3 x4=>k x4) FUEL 0 (List.replicate 64 0) (by omega) (by rw [Am]; omega) (by simp) (AllU32.rep 64);refine g1.trans ?_;have ok:=Ot h8 (List.range' 0 (16 - 0)) (List.replicate 64 0) (by simp) (AllU32.rep 64);have g2:=Wu R h8 (List.replicate 64 0) (fun _ x4=>k x4) FUEL 16 _ (by omega) (by omega) (by rw [Am]; omega) ok.1 ok.2;refine g2.trans ?_;rw [←List.foldl_append];rfl
end Go.PG
namespace Go.PG
def KS:List Int:=[1116352408,1899447441,3049323471,3921009573,961987163,1508970993,2453635748,2870763221,3624381080,310598401,607225278,1426881987,1925078388,2162078206,2614888103,3248222580,3835390401,4022224774,264347078,604807628,770255983,1249150122,1555081692,1996064986,2554220882,2821834349,2952996808,3210313671,3336571891,3584528711,113926993,338241895,666307205,773529912,1294757372,1396182291,1695183700,1986661051,2177026350,2456956037,2730485921,2820302411,3259730800,3345764771,3516065817,3600352804,4094571909,275423344,430227734,506948616,659060556,883997877,958139571,1322822218,1537002063,1747873779,1955562222,2024104815,2227730452,2361852424,2428436474,2756734187,3204031479,3329325298]
theorem F236_eq (R:Type) (k:List Int→Option R):F236 R k=k KS:=by kernel_rfl
theorem zn1 (R:Type) (a:Int) (k:Int→Option R):F176 R a k=(match decide (a<0) with | true=>k 0 | false=>match decide (a>63) with | true=>k 0 | false=>match bnd a 64 with | true=>k (List.getD KS a.toNat 0) | false=>none):=by kernel_rfl
theorem F176_eq (R:Type) {i:Nat} (h:i<64) (k:Int→Option R):F176 R (i:Int) k=k (KS.getD i 0):=by
 rw [zn1];have h1:decide ((i:Int)<0)=false:=by simp
 have h2:decide ((i:Int)>63)=false:=by simp; omega
 have h3:bnd (i:Int) 64=true:=by unfold bnd; simp; omega
 simp only [h1,h2,h3,Int.toNat_natCast]
def Dz (plan s:List Int) (i:Nat):List Int:=Kb s (plan.getD i 0) (KS.getD i 0)
theorem Ol {s:List Int} (h:AllU32 s) (w c:Int):(Kb s w c).length=8∧AllU32 (Kb s w c):=by
 refine ⟨rfl,fun x hx=>?_⟩;have g:=fun i=>Au h Qg i
 simp only [Kb,List.mem_cons,List.not_mem_nil,or_false] at hx;rcases hx with rfl | rfl | rfl | rfl | rfl | rfl | rfl | rfl
 ·exact J5 _
 ·exact g 0
 ·exact g 1
 ·exact g 2
 ·exact J5 _
 ·exact g 4
 ·exact g 5
 ·exact g 6
theorem zud (R:Type) {s:List Int} (hl:s.length=8) (h:AllU32 s) (w c:Int) (k:List Int→Option R):F238 R s w c k=k (Kb s w c):=by
 obtain ⟨a0,a1,a2,a3,a4,a5,a6,a7,rfl⟩:=list8 hl;exact F238_eq R (h a0 (by simp)) (h a4 (by simp)) w c k
theorem Wq (R:Type) (plan:List Int) (x3 x4:List Int) (k0:List Int→List Int→List Int→Option R):∀(m i:Nat) (s:List Int),i≤64→64 - i<m→s.length=8→AllU32 s→
  Nd m R plan (i:Int) x3 x4 s KS k0=k0 x3 x4 ((List.range' i (64 - i)).foldl (Dz plan) s)
 | 0,i,s,_,h,_,_=>by omega
 | m+1,i,s,h1,h2,hl,hu=>by
  simp only [Nd,zhm]
  by_cases hi:i<64
  ·have ok:=Ol hu (plan.getD i 0) (KS.getD i 0)
   have ih:=Wq R plan x3 x4 k0 m (i+1) (Dz plan s i) (by omega) (by omega) ok.1 ok.2;rw [By hi,List.foldl_cons,←ih,wrap_i64 (n:=(i:Int)+1) (by omega) (by omega)];have hd:decide ((i:Int)<64)=true:=by simp; omega
   have hbn:bnd (i:Int) 64=true:=by unfold bnd; simp; omega
   simp only [hd,hbn,Int.toNat_natCast];rw [zud R hl hu];rfl
  ·have:i=64:=by omega
   subst this;rfl
theorem Wy (R:Type) (plan:List Int) (x2 x3:List Int) (k0:List Int→List Int→List Int→Option R):∀(m i:Nat) (s:List Int),i≤64→64 - i<m→s.length=8→AllU32 s→
  Nj m R (i:Int) x2 x3 plan s k0=k0 x2 x3 ((List.range' i (64 - i)).foldl (Dz plan) s)
 | 0,i,s,_,h,_,_=>by omega
 | m+1,i,s,h1,h2,hl,hu=>by
  simp only [Nj,zh5]
  by_cases hi:i<64
  ·have ok:=Ol hu (plan.getD i 0) (KS.getD i 0)
   have ih:=Wy R plan x2 x3 k0 m (i+1) (Dz plan s i) (by omega) (by omega) ok.1 ok.2;rw [By hi,List.foldl_cons,←ih,wrap_i64 (n:=(i:Int)+1) (by omega) (by omega)];have hd:decide ((i:Int)<64)=true:=by simp; omega
   have hbn:bnd (i:Int) 64=true:=by unfold bnd; simp; omega
   simp only [hd,hbn,Int.toNat_natCast];rw [F176_eq R hi,F175_eq R (Au hu Qg _) (Au hu Qg _)];rfl
  ·have:i=64:=by omega
   subst this;rfl
def Gg (a l:List Int) (i:Nat):List Int:=l.set i (IntKind.u32.wrap (l.getD i 0+a.getD i 0))
theorem zfr {a l:List Int} (hl:l.length=8) (h:AllU32 l) (i:Nat):(Gg a l i).length=8∧AllU32 (Gg a l i):=⟨by simpa [Gg] using hl,h.set (J5 _)⟩
theorem Wp (R:Type) (a x3:List Int) (k0:List Int→List Int→Option R):∀(m i:Nat) (l:List Int),i≤8→8 - i<m→Ky m R (i:Int) a x3 l k0=k0 x3 ((List.range' i (8 - i)).foldl (Gg a) l)
 | 0,i,l,_,h=>by omega
 | m+1,i,l,h1,h2=>by
  simp only [Ky,zhl]
  by_cases hi:i<8
  ·have ih:=Wp R a x3 k0 m (i+1) (Gg a l i) (by omega) (by omega)
   rw [By hi,List.foldl_cons,←ih,wrap_i64 (n:=(i:Int)+1) (by omega) (by omega)];have hd:decide ((i:Int)<8)=true:=by simp; omega
   have hbn:bnd (i:Int) 8=true:=by unfold bnd; simp; omega
   simp only [hd,hbn,Int.toNat_natCast];rfl
  ·have:i=8:=by omega
   subst this;rfl
theorem Wx (R:Type) (a x3:List Int) (k0:List Int→List Int→Option R):∀(m i:Nat) (l:List Int),i≤8→8 - i<m→K1 m R (i:Int) a x3 l k0=k0 x3 ((List.range' i (8 - i)).foldl (Gg a) l)
 | 0,i,l,_,h=>by omega
 | m+1,i,l,h1,h2=>by
  simp only [K1,zh4]
  by_cases hi:i<8
  ·have ih:=Wx R a x3 k0 m (i+1) (Gg a l i) (by omega) (by omega)
   rw [By hi,List.foldl_cons,←ih,wrap_i64 (n:=(i:Int)+1) (by omega) (by omega)];have hd:decide ((i:Int)<8)=true:=by simp; omega
   have hbn:bnd (i:Int) 8=true:=by unfold bnd; simp; omega
   simp only [hd,hbn,Int.toNat_natCast];rfl
  ·have:i=8:=by omega
   subst this;rfl
def Xw (st blk:List Int):List Int:=(List.range' 0 8).foldl (Gg st) ((List.range' 0 64).foldl (Dz (zeq blk)) st)
theorem F217_eq (R:Type) {st blk:List Int} (hl:st.length=8) (hu:AllU32 st) (hb:blk.length=64) (h8:AllU8 blk) (k:List Int→Option R):F217 R st blk k=k (Xw st blk):=by
 simp only [F217,p217];rw [F236_eq,F237_eq R hb h8];refine (Wq R (zeq blk) st (List.replicate 8 0) (fun x3 x4 x5=>Ky FUEL R 0 x3 x4 x5 fun x6 x7=>k x7) FUEL 0 st (by omega) (by rw [Am]; omega) hl hu).trans ?_;exact Wp R st (List.replicate 8 0) (fun _ x7=>k x7) FUEL 0 _ (by omega) (by rw [Am]; omega)
theorem F127_eq (R:Type) {st blk:List Int} (hl:st.length=8) (hu:AllU32 st) (hb:blk.length=64) (h8:AllU8 blk) (k:List Int→Option R):F127 R st blk k=k (Xw st blk):=by
 simp only [F127,p127];rw [F174_eq R hb h8];refine (Wy R (zeq blk) st (List.replicate 8 0) (fun x3 x4 x5=>K1 FUEL R 0 x3 x4 x5 fun x6 x7=>k x7) FUEL 0 st (by omega) (by rw [Am]; omega) hl hu).trans ?_;exact Wx R st (List.replicate 8 0) (fun _ x7=>k x7) FUEL 0 _ (by omega) (by rw [Am]; omega)
theorem Ka (plan:List Int):∀(is:List Nat) (s:List Int),s.length=8→AllU32 s→(is.foldl (Dz plan) s).length=8∧AllU32 (is.foldl (Dz plan) s)
 | [],s,h1,h2=>⟨h1,h2⟩
 | i::is,s,h1,h2=>by
  have ok:=Ol h2 (plan.getD i 0) (KS.getD i 0);exact Ka plan is _ ok.1 ok.2
theorem Q9 (a:List Int):∀(is:List Nat) (s:List Int),s.length=8→AllU32 s→(is.foldl (Gg a) s).length=8∧AllU32 (is.foldl (Gg a) s)
 | [],s,h1,h2=>⟨h1,h2⟩
 | i::is,s,h1,h2=>by
  have ok:=zfr (a:=a) h1 h2 i;exact Q9 a is _ ok.1 ok.2
theorem R7 {st:List Int} (blk:List Int) (hl:st.length=8) (hu:AllU32 st):(Xw st blk).length=8∧AllU32 (Xw st blk):=by
 have h:=Ka (zeq blk) (List.range' 0 64) st hl hu;exact Q9 st _ _ h.1 h.2
end Go.PG
namespace Go.PG
def blkF:Nat→List Int→List (List Int)
 | 0,_=>[]
 | n+1,b=>if 64≤b.length then b.take 64::blkF n (b.drop 64) else []
def R8:Nat→List Int→List Int
 | 0,b=>b
 | n+1,b=>if 64≤b.length then R8 n (b.drop 64) else b
def blkS (b:List Int):List (List Int):=blkF (b.length/64+1) b
def Em (b:List Int):List Int:=R8 (b.length/64+1) b
theorem zdn:∀(n m:Nat) (b:List Int),b.length/64<n→b.length/64<m→blkF n b=blkF m b
 | 0,_,_,h,_=>by omega
 | _,0,_,_,h=>by omega
 | n+1,m+1,b,h1,h2=>by
  simp only [blkF]
  by_cases h:64≤b.length
  ·rw [if_pos h,if_pos h,zdn n m (b.drop 64) (by rw [List.length_drop]; omega) (by rw [List.length_drop]; omega)]
  ·rw [if_neg h,if_neg h]
theorem T9:∀(n m:Nat) (b:List Int),b.length/64<n→b.length/64<m→R8 n b=R8 m b
 | 0,_,_,h,_=>by omega
 | _,0,_,_,h=>by omega
 | n+1,m+1,b,h1,h2=>by
  simp only [R8]
  by_cases h:64≤b.length
  ·rw [if_pos h,if_pos h,T9 n m (b.drop 64) (by rw [List.length_drop]; omega) (by rw [List.length_drop]; omega)]
  ·rw [if_neg h,if_neg h]
theorem Gt {b:List Int} (h:64≤b.length):blkS b=b.take 64::blkS (b.drop 64):=by
 unfold blkS;rw [show blkF (b.length/64+1) b=b.take 64::blkF (b.length/64) (b.drop 64) by simp only [blkF,if_pos h]];rw [zdn (b.length/64) ((b.drop 64).length/64+1) (b.drop 64) (by rw [List.length_drop]; omega) (by omega)]
theorem E5 {b:List Int} (h:b.length<64):blkS b=[]:=by
 unfold blkS; simp only [blkF,if_neg (show ¬64≤b.length by omega)]
theorem E8 {b:List Int} (h:64≤b.length):Em b=Em (b.drop 64):=by
 unfold Em;rw [show R8 (b.length/64+1) b=R8 (b.length/64) (b.drop 64) by simp only [R8,if_pos h]];rw [T9 (b.length/64) ((b.drop 64).length/64+1) (b.drop 64) (by rw [List.length_drop]; omega) (by omega)]
theorem Dl {b:List Int} (h:b.length<64):Em b=b:=by
 unfold Em; simp only [R8,if_neg (show ¬64≤b.length by omega)]
theorem J9:∀(n:Nat) (b:List Int),b.length≤n→(Em b).length=b.length % 64∧(blkS b).length=b.length/64
 | 0,b,h=>by
  rw [Dl (by omega),E5 (by omega)];simp; omega
 | n+1,b,h=>by
  by_cases h6:64≤b.length
  ·have ih:=J9 n (b.drop 64) (by rw [List.length_drop]; omega)
   rw [E8 h6,Gt h6,ih.1,List.length_cons,ih.2,List.length_drop];omega
  ·rw [Dl (by omega),E5 (by omega)]
   simp; omega
theorem Lo:∀(n:Nat) (a b:List Int),a.length≤n→blkS (a++b)=blkS a++blkS (Em a++b)∧Em (a++b)=Em (Em a++b)
 | 0,a,b,h=>by
  rw [E5 (show a.length<64 by omega),Dl (show a.length<64 by omega)];exact ⟨rfl,rfl⟩
 | n+1,a,b,h=>by
  by_cases h6:64≤a.length
  ·have ih:=Lo n (a.drop 64) b (by rw [List.length_drop]; omega)
   have hl:64≤(a++b).length:=by rw [List.length_append]; omega
   rw [Gt hl,Gt h6,E8 hl,E8 h6,List.take_append_of_le_length h6,List.drop_append_of_le_length h6,ih.1,ih.2];exact ⟨rfl,rfl⟩
  ·rw [E5 (show a.length<64 by omega),Dl (show a.length<64 by omega)]
   exact ⟨rfl,rfl⟩
theorem zlx (R:Type) (k0:List Int→List (List Int)→Option R):∀(m:Nat) (b:List Int) (acc:List (List Int)),b.length/64<m→acc.length+b.length/64≤1000000000→b.length≤100000000000→
  Pz m R b acc k0=k0 (Em b) (acc++blkS b)
 | 0,b,acc,h,_,_=>by omega
 | m+1,b,acc,h1,h2,h3=>by
  simp only [Pz,zhn]
  by_cases h6:64≤b.length
  ·have ih:=zlx R k0 m (b.drop 64) (acc++[b.take 64]) (by rw [List.length_drop]; omega) (by rw [List.length_drop,List.length_append]; simp; omega) (by rw [List.length_drop]; omega)
   have c1:decide ((b.length:Int)≥64)=true:=by simp; omega
   have c2:decide ((64:Int)≤(b.length:Int))=true:=by simp; omega
   have c3:decide (acc.length+[b.take 64].length≤2199023255552)=true:=by simp; omega
   have c4:decide (0≤(64:Int)∧(64:Int)≤(b.length:Int)∧(b.length:Int)≤(b.length:Int)∧(b.length:Int)≤(b.length:Int))=true:=by simp; omega
   have e1:List.take (Int.toNat ((b.length:Int) - 64)) (List.drop 64 b)=List.drop 64 b:=List.take_of_length_le (by rw [List.length_drop]; omega);simp only [c1,c2,c3,c4,e1];rw [ih,Gt h6,E8 h6,List.append_assoc];rfl
  ·have c1:decide ((b.length:Int)≥64)=false:=by simp; omega
   simp only [c1];rw [E5 (by omega),Dl (by omega),List.append_nil]
theorem F216_eq (R:Type) {b:List Int} (h:b.length≤1000000000) (k:List (List Int)→List Int→Option R):F216 R b k=k (blkS b) (Em b):=by
 simp only [F216,p216];refine (zlx R (fun x1 x2=>k x2 x1) FUEL b [] (by rw [Am]; omega) (by simp; omega) (by omega)).trans ?_;rw [List.nil_append]
end Go.PG
namespace Go.PG
abbrev Wr:=List Int×List Int×Int×Unit
def Kr (st:List Int) (bs:List (List Int)):List Int:=bs.foldl Xw st
theorem Pd:∀(n:Nat) (b:List Int),b.length≤n→AllU8 b→(∀x∈blkS b,x.length=64∧AllU8 x)∧AllU8 (Em b)
 | 0,b,h,h8=>by
  rw [E5 (by omega),Dl (by omega)];exact ⟨fun x hx=>(by cases hx),h8⟩
 | n+1,b,h,h8=>by
  by_cases h6:64≤b.length
  ·have ih:=Pd n (b.drop 64) (by rw [List.length_drop]; omega) (fun x hx=>h8 x (List.mem_of_mem_drop hx))
   rw [Gt h6,E8 h6];refine ⟨fun x hx=>?_,ih.2⟩;rcases List.mem_cons.1 hx with rfl | hx
   ·exact ⟨by rw [List.length_take]; omega,fun y hy=>h8 y (List.mem_of_mem_take hy)⟩
   ·exact ih.1 x hx
  ·rw [E5 (by omega),Dl (by omega)]
   exact ⟨fun x hx=>(by cases hx),h8⟩
theorem Kq:∀(bs:List (List Int)) {st:List Int},st.length=8→AllU32 st→(Kr st bs).length=8∧AllU32 (Kr st bs)
 | [],st,h1,h2=>⟨h1,h2⟩
 | b::bs,st,h1,h2=>by
  have ok:=R7 b h1 h2;exact Kq bs ok.1 ok.2
theorem zl0 (R:Type) (rest:List Int) (bs:List (List Int)) (hb:∀x∈bs,x.length=64∧AllU8 x) (hn:bs.length≤1000000000) (u:List Int×Int×Unit) (k0:List Int→(Wr×Unit)→Option R):
  ∀(m i:Nat) (st:List Int),i≤bs.length→bs.length - i<m→st.length=8→AllU32 st→P4 m R rest bs (bs.length:Int) (i:Int) ((st,u),()) k0=k0 rest ((Kr st (bs.drop i),u),())
 | 0,i,st,_,h,_,_=>by omega
 | m+1,i,st,h1,h2,hl,hu=>by
  simp only [P4,zhu]
  by_cases hi:i<bs.length
  ·have hd:decide ((i:Int)<(bs.length:Int))=true:=by simpa using hi
   have hbn:bnd (i:Int) (bs.length:Int)=true:=by unfold bnd; simp; omega
   have hx:=hb bs[i] (List.getElem_mem hi);have hg:List.getD bs i (List.replicate 64 0)=bs[i]:=by simp [hi]
   simp only [hd,hbn,Int.toNat_natCast,hg];rw [F217_eq R hl hu hx.1 hx.2,wrap_i64 (by omega) (by omega)];have ok:=R7 bs[i] hl hu;have ih:=zl0 R rest bs hb hn u k0 m (i+1) (Xw st bs[i]) (by omega) (by omega) ok.1 ok.2;rw [List.drop_eq_getElem_cons hi];exact ih
  ·have:i=bs.length:=by omega
   subst this;have hd:decide ((bs.length:Int)<(bs.length:Int))=false:=by simp
   simp only [hd];rw [List.drop_of_length_le (Nat.le_refl _)];rfl
theorem zn0 (R:Type) {st:List Int} (u:List Int×Int×Unit) {b:List Int} (hl:st.length=8) (hu:AllU32 st) (h8:AllU8 b) (hn:b.length≤1000000000) (k:List Int→(Wr×Unit)→Option R):
  F181 R ((st,u),()) b k=k (Em b) ((Kr st (blkS b),u),()):=by
 simp only [F181,p181];rw [F216_eq R hn];have ok:=Pd b.length b (Nat.le_refl _) h8;have hlen:=(J9 b.length b (Nat.le_refl _)).2;exact zl0 R (Em b) (blkS b) ok.1 (by omega) u (fun x4 x5=>k x4 x5) FUEL 0 st (by omega) (by rw [Am]; omega) hl hu
theorem F178_eq (R:Type) {st rest part:List Int} {n:Nat} (hl:st.length=8) (hu:AllU32 st) (hr:AllU8 rest) (hp:AllU8 part) (hlen:rest.length+part.length≤1000000000) (hn:n+part.length≤1000000000) (k:(Wr×Unit)→Option R):
  F178 R ((st,rest,(n:Int),()),()) part k=k ((Kr st (blkS (rest++part)),Em (rest++part),((n+part.length:Nat):Int),()),()):=by
 simp only [F178,p178,F214];rw [Aj (n:=(part.length:Int)) (by omega) (by omega),Aj (by omega) (by omega)];have c1:decide (([]:List Int).length+rest.length≤140737488355328)=true:=by simp; omega
 have c2:decide (rest.length+part.length≤140737488355328)=true:=by simp; omega
 simp only [c1,c2];have h8:AllU8 (rest++part):=fun x hx=>by
  rcases List.mem_append.1 hx with h | h
  ·exact hr x h
  ·exact hp x h
 rw [zn0 R _ hl hu h8 (by rw [List.length_append]; omega)]
 congr 1
def wrS (st m:List Int):Wr:=(Kr st (blkS m),Em m,(m.length:Int),())
theorem AllU8.append {a b:List Int} (ha:AllU8 a) (hb:AllU8 b):AllU8 (a++b):=fun x hx=>by
 rcases List.mem_append.1 hx with h | h
 ·exact ha x h
 ·exact hb x h
theorem zef (st m p:List Int):Kr (Kr st (blkS m)) (blkS (Em m++p))=Kr st (blkS (m++p))∧Em (Em m++p)=Em (m++p):=by
 obtain ⟨h1,h2⟩:=Lo m.length m p (Nat.le_refl _);rw [h1,h2];refine ⟨?_,rfl⟩;unfold Kr;rw [List.foldl_append]
theorem zl6 (R:Type) {st:List Int} (hl:st.length=8) (hu:AllU32 st) (x4:Wr) (k0:Int→Wr→Option R) (k1:Wr→(Wr×Unit)→Option R):∀(n:Nat) (ps done:List (List Int)) (m:List Int),m=done.flatten→AllU8 m→(∀p∈ps,AllU8 p)→
  m.length+ps.flatten.length≤500000000→(done++ps).length≤1000000000→ps.length<n→Ni n R (done++ps) ((done++ps).length:Int) (done.length:Int) x4 (wrS st m,()) k0 k1=k1 x4 (wrS st (m++ps.flatten),())
 | 0,ps,done,m,_,_,_,_,_,h=>by omega
 | n+1,[],done,m,hm,h8,hps,hlen,hnum,h=>by
  simp only [Ni,zcz];have hd:decide ((done.length:Int)<((done++[]).length:Int))=false:=by simp
  simp only [hd];simp
 | n+1,p::ps,done,m,hm,h8,hps,hlen,hnum,h=>by
  simp only [Ni,zcz];have hlt:done.length<(done++p::ps).length:=by simp
  have hd:decide ((done.length:Int)<((done++p::ps).length:Int))=true:=by simp; omega
  have hbn:bnd (done.length:Int) ((done++p::ps).length:Int)=true:=by unfold bnd; simp; omega
  have hg:List.getD (done++p::ps) done.length []=p:=by simp
  have hp8:=hps p (by simp);have hfl:(p::ps).flatten=p++ps.flatten:=by simp
  rw [hfl,List.length_append] at hlen;have ok:=Kq (blkS m) hl hu;have ok2:=Pd m.length m (Nat.le_refl _) h8;have tl:=(J9 m.length m (Nat.le_refl _)).1;simp only [hd,hbn,Int.toNat_natCast,hg];unfold wrS;rw [F178_eq R ok.1 ok.2 ok2.2 hp8 (by omega) (by omega)];obtain ⟨a1,a2⟩:=zef st m p;rw [a1,a2,←List.length_append];have hb:decide (((m++p).length:Int)≥2305843009213693952)=false:=by simp; omega
  simp only [hb];rw [wrap_i64 (by omega) (by simp at hnum; omega)];have ih:=zl6 R hl hu x4 k0 k1 n ps (done++[p]) (m++p) (by rw [hm]; simp) (h8.append hp8) (fun q hq=>hps q (by simp [hq])) (by rw [List.length_append]; omega) (by simpa using hnum) (by simp at h; omega);unfold wrS at ih;rw [hfl,←List.append_assoc];have e1:done++[p]++ps=done++p::ps:=by simp
  have e2:(((done++[p]).length:Nat):Int)=(done.length:Int)+1:=by simp
  rw [e1,e2] at ih;exact ih
theorem F128_eq (R:Type) {st:List Int} (hl:st.length=8) (hu:AllU32 st) {ps:List (List Int)} (h8:∀p∈ps,AllU8 p) (hlen:ps.flatten.length≤500000000) (hnum:ps.length≤1000000000) (k:Wr→Int→Option R):
  F128 R (st,[],(0:Int),()) ps k=k (wrS st ps.flatten) 0:=by
 have hr:F177 R (st,[],(0:Int),())=fun k=>k true:=by
  funext k
  simp only [F177,p177];rfl
 simp only [F128,p128];rw [hr];have:=zl6 R hl hu (List.replicate 8 0,[],0,()) (fun x3 x4=>k x4 x3) (fun _ x6=>k x6.1 0) FUEL ps [] [] rfl (fun x hx=>by cases hx) h8 (by simpa using hlen) (by simpa using hnum) (by rw [Am]; omega);rw [List.nil_append] at this;refine Eq.trans ?_ this;unfold wrS;rw [E5 (by simp),Dl (by simp)];rfl
end Go.PG
namespace Go.PG
def putS (x:Int):List Int:=[x/72057594037927936 % 256,x/281474976710656 % 256,x/1099511627776 % 256,x/4294967296 % 256,x/16777216 % 256,x/65536 % 256,x/256 % 256,x % 256]
theorem zxe {x:Int} (r:Nat) (hr:r≤64):ishr .u64 x (r:Int)=x/2^r:=by
 unfold ishr;rw [show IntKind.u64.bits=64 from rfl,show ((r:Int).toNat)=r by simp,Nat.min_eq_left hr,Int.fdiv_eq_ediv_of_nonneg _ (by have:=two_pow_pos r; omega)]
theorem zve (R:Type) (x:Int) (k0:List Int→Option R):∀(m i:Nat) (l:List Int),i≤8→8 - i<m→zae m R x (i:Int) l k0=k0 ((List.range' i (8 - i)).foldl (fun l i=>l.set i (x/2^(8*(7 - i)) % 256)) l)
 | 0,i,l,_,h=>by omega
 | m+1,i,l,h1,h2=>by
  simp only [zae,zxv]
  by_cases hi:i<8
  ·have ih:=zve R x k0 m (i+1) (l.set i (x/2^(8*(7 - i)) % 256)) (by omega) (by omega)
   rw [By hi,List.foldl_cons,←ih];have hd:decide ((i:Int)<8)=true:=by simp; omega
   have hbn:bnd (i:Int) 8=true:=by unfold bnd; simp; omega
   rw [wrap_i64 (n:=7 - (i:Int)) (by omega) (by omega),wrap_i64 (n:=8*(7 - (i:Int))) (by omega) (by omega),Aj (n:=8*(7 - (i:Int))) (by omega) (by omega),wrap_i64 (n:=(i:Int)+1) (by omega) (by omega)];have e1:8*(7 - (i:Int))=((8*(7 - i):Nat):Int):=by omega
   have hp:decide ((0:Int)≤((8*(7 - i):Nat):Int))=true:=decide_eq_true (by omega);rw [e1,zxe _ (by omega),Fk];simp only [hd,hbn,hp,Int.toNat_natCast];rfl
  ·have:i=8:=by omega
   subst this;rfl
theorem Xi (R:Type) (x:Int) (k:List Int→Option R):F92 R x k=k (putS x):=by
 simp only [F92,p92];refine (zve R x (fun x1=>k x1) FUEL 0 (List.replicate 8 0) (by omega) (by rw [Am]; omega)).trans ?_
 congr 1
 simp [List.range'_succ,putS,List.replicate]
theorem zvi (R:Type) {x:Int} (hx:0≤x∧x<18446744073709551616) (x3:List Int) (k0:List Int→List Int→Option R):∀(i m:Nat) (l:List Int),i≤8→i<m→Wm m R (x/2^(8*(8 - i))) ((i:Int) - 1) x3 l k0=k0 x3 ((List.range i).reverse.foldl (fun l j=>l.set j (x/2^(8*(7 - j)) % 256)) l)
 | i,0,l,_,h=>by omega
 | 0,m+1,l,h1,h2=>by
  simp only [Wm,zqm];have hd:decide (((0:Nat):Int) - 1≥0)=false:=by simp
  simp only [hd];rfl
 | i+1,m+1,l,h1,h2=>by
  simp only [Wm,zqm];have ih:=zvi R hx x3 k0 i m (l.set i (x/2^(8*(7 - i)) % 256)) (by omega) (by omega);rw [List.range_succ,List.reverse_append,List.reverse_singleton,List.singleton_append,List.foldl_cons,←ih];have e0:(((i+1:Nat):Int) - 1)=(i:Int):=by omega
  rw [e0];have hd:decide ((i:Int)≥0)=true:=by simp
  have hbn:bnd (i:Int) 8=true:=by unfold bnd; simp; omega
  have e1:8 - (i+1)=7 - i:=by omega
  rw [e1];have hp:=two_pow_pos (8*(7 - i));have hge:0≤x/2^(8*(7 - i)):=Int.ediv_nonneg hx.1 (by omega);have hle:x/2^(8*(7 - i))≤x:=Int.ediv_le_self _ hx.1;have hstep:x/2^(8*(8 - i))=x/2^(8*(7 - i))/256:=by
   rw [show 8*(8 - i)=8*(7 - i)+8 by omega,Int.pow_add,←Int.ediv_ediv_of_nonneg (by omega)];rfl
  rw [hstep];generalize x/2^(8*(7 - i))=q at*;rw [Int.tmod_eq_emod_of_nonneg hge,Int.tdiv_eq_ediv_of_nonneg hge,zf9 (by omega) (by omega),Aj (by omega) (by omega),wrap_i64 (by omega) (by omega)];simp only [hd,hbn,Int.toNat_natCast]
theorem zvw (R:Type) {x:Int} (hx:0≤x∧x<18446744073709551616) (k:List Int→Option R):F46 R x k=k (putS x):=by
 simp only [F46,p46];have:=zvi R hx (List.replicate 8 0) (fun _ x2=>k x2) 8 FUEL (List.replicate 8 0) (by omega) (by rw [Am]; omega);rw [show x/2^(8*(8 - 8))=x by simp] at this;refine Eq.trans this ?_
 congr 1
 simp [List.range_succ,putS,List.replicate]
end Go.PG
namespace Go.PG
def Cx (n:Nat):Nat:=(119 - n % 64) % 64
def padT (rest:List Int) (n:Nat):List Int:=rest++128::(List.replicate (Cx n) 0++putS (8*(n:Int)))
theorem W0 (R:Type) (x:Int) (k0:Int→List Int→Option R):∀(z m:Nat) (l:List Int),z<64→(l.length+z) % 64=56→(∀y,y<z→(l.length+y) % 64≠56)→z<m→l.length+z≤100000→K3 m R x l k0=k0 x (l++List.replicate z 0)
 | z,0,l,_,_,_,h,_=>by omega
 | 0,m+1,l,h1,h2,_,h3,h4=>by
  simp only [K3,zc0];have hm:Int.tmod (l.length:Int) 64=56:=by rw [Int.tmod_eq_emod_of_nonneg (by omega)]; omega
  rw [hm];have:((56:Int) !=56)=false:=by simp
  simp only [this];simp
 | z+1,m+1,l,h1,h2,h5,h3,h4=>by
  simp only [K3,zc0];have hne:(Int.tmod (l.length:Int) 64 !=56)=true:=by
   rw [Int.tmod_eq_emod_of_nonneg (by omega)];have:=h5 0 (by omega);simp; omega
  have hc:decide (l.length+[(0:Int)].length≤140737488355328)=true:=by simp; omega
  have ih:=W0 R x k0 z m (l++[0]) (by omega) (by rw [List.length_append]; simp; omega) (fun y hy=>by rw [List.length_append]; have:=h5 (y+1) (by omega); simp; omega) (by omega) (by rw [List.length_append]; simp; omega);simp only [hne,hc];rw [ih,List.append_assoc];rfl
theorem Wz (R:Type) (ds:List Int) (k0:List Int→Option R):∀(m i:Nat) (l:List Int),i≤8→8 - i<m→ds.length=8→l.length≤100000+i→K2 m R (i:Int) l ds k0=k0 (l++ds.drop i)
 | 0,i,l,_,h,_,_=>by omega
 | m+1,i,l,h1,h2,hd8,hl=>by
  simp only [K2,zh6]
  by_cases hi:i<8
  ·have hd:decide ((i:Int)<8)=true:=by simp; omega
   have hbn:bnd (i:Int) 8=true:=by unfold bnd; simp; omega
   have hg:List.getD ds i 0=ds[i]:=by simp [show i<ds.length by omega]
   have hc:decide (l.length+[ds[i]].length≤140737488355328)=true:=by simp; omega
   have ih:=Wz R ds k0 m (i+1) (l++[ds[i]]) (by omega) (by omega) hd8 (by rw [List.length_append]; simp; omega);simp only [hd,hbn,Int.toNat_natCast,hg,hc];rw [wrap_i64 (by omega) (by omega),List.drop_eq_getElem_cons (show i<ds.length by omega)];rw [List.append_assoc] at ih;exact ih
  ·have:i=8:=by omega
   subst this;have hd:decide (((8:Nat):Int)<8)=false:=by simp
   simp only [hd];rw [List.drop_of_length_le (by omega),List.append_nil]
theorem F125_eq (R:Type) {rest:List Int} {n:Nat} (hr:rest.length=n % 64) (hn:n≤1000000000) (k:List Int→Bool→Option R):F125 R rest (n:Int) k=k (padT rest n) true:=by
 simp only [F125,p125];have c0:decide ((n:Int)≥2305843009213693952)=false:=by simp; omega
 have c1:(IntKind.u64.wrap (rest.length:Int) !=Int.tmod (n:Int) 64)=false:=by
  rw [Aj (by omega) (by omega),Int.tmod_eq_emod_of_nonneg (by omega)];simp; omega
 have c2:decide (([]:List Int).length+rest.length≤140737488355328)=true:=by simp; omega
 have c3:decide (([]++rest).length+[(128:Int)].length≤140737488355328)=true:=by simp; omega
 simp only [c0,c1,c2,c3];have g:=W0 R (n:Int) (fun x10 x11=>F46 R (IntKind.u64.wrap (8*x10)) fun y13=>K2 FUEL R 0 x11 y13 fun x14=>k x14 true) (Cx n) FUEL ([]++rest++[128]) (by unfold Cx; omega) (by simp; unfold Cx; omega) (fun y hy=>by simp; unfold Cx at hy; omega) (by rw [Am]; unfold Cx; omega) (by simp; unfold Cx; omega);refine g.trans ?_;rw [Aj (by omega) (by omega),zvw R (by omega)];refine (Wz R (putS (8*(n:Int))) (fun x14=>k x14 true) FUEL 0 _ (by omega) (by rw [Am]; omega) rfl (by simp; unfold Cx; omega)).trans ?_
 congr 1
 simp [padT]
theorem F215_eq (R:Type) {n:Nat} (hn:n≤1000000000) (k:Int→Option R):F215 R (n:Int) k=k (((n+72)/64:Nat):Int):=by
 simp only [F215,p215];have c0:decide ((n:Int)≥2305843009213693952)=false:=by simp; omega
 simp only [c0];rw [Aj (n:=(n:Int)+8) (by omega) (by omega),Aj (n:=(n:Int)+8+64) (by omega) (by omega),Int.tdiv_eq_ediv_of_nonneg (by omega),Aj (by omega) (by omega)]
 congr 1
theorem zzw {a b c xs:List Int} (h:xs.length=b.length):lay (a++b++c) a.length xs=a++xs++c:=by
 unfold lay;have e1:List.take a.length (a++b++c)=a:=by rw [List.append_assoc,List.take_left]
 have e2:List.drop (a.length+xs.length) (a++b++c)=c:=by
  rw [h,show a.length+b.length=(a++b).length by simp,List.drop_left]
 rw [e1,e2]
theorem F180_eq (R:Type) {rest:List Int} {n:Nat} (hr:rest.length=n % 64) (hn:n≤1000000000) (k:List Int→Bool→Option R):F180 R rest (n:Int) k=k (padT rest n) true:=by
 simp only [F180,p180];have c0:decide ((n:Int)≥2305843009213693952)=false:=by simp; omega
 have c1:(IntKind.u64.wrap (rest.length:Int) !=Int.tmod (n:Int) 64)=false:=by
  rw [Aj (by omega) (by omega),Int.tmod_eq_emod_of_nonneg (by omega)];simp; omega
 simp only [c0,c1];rw [F215_eq R hn,Int.tdiv_eq_ediv_of_nonneg (by omega),Aj (n:=(n:Int)/64) (by omega) (by omega),Aj (by omega) (by omega),wrap_i64 (n:=(((n+72)/64:Nat):Int) - (n:Int)/64) (by omega) (by omega),wrap_i64 (n:=_*64) (by omega) (by omega)];obtain ⟨sz,hsz⟩:∃sz:Nat,((((n+72)/64:Nat):Int) - (n:Int)/64)*64=sz:=⟨((n+72)/64 - n/64)*64,by omega⟩
 have hz:sz=rest.length+1+Cx n+8:=by unfold Cx; omega
 rw [hsz];have l1:lay (List.replicate sz (0:Int)) 0 (List.take (List.replicate sz (0:Int)).length rest)=rest++List.replicate (1+Cx n+8) 0:=by
  unfold lay;rw [List.take_of_length_le (l:=rest) (by simp; omega)];simp;omega
 have l2:List.set (rest++List.replicate (1+Cx n+8) 0) rest.length 128=(rest++128::List.replicate (Cx n) 0)++List.replicate 8 0++[]:=by
  rw [List.set_append_right _ _ (Nat.le_refl _),Nat.sub_self,show 1+Cx n+8=(Cx n+8)+1 by omega,List.replicate_succ,List.set_cons_zero,←List.replicate_append_replicate];simp
 have sh:ishl .u64 (n:Int) 3=8*(n:Int):=by
  unfold ishl;rw [show (2:Int)^(min (3:Int).toNat IntKind.u64.bits)=8 by decide,Aj (by omega) (by omega)];omega
 have hl3:((rest++128::List.replicate (Cx n) 0)++List.replicate 8 (0:Int)++[]).length=sz:=by simp; omega
 have d1:decide (0≤(sz:Int)∧(sz:Int)≤(sz:Int)∧(sz:Int)≤140737488355328)=true:=decide_eq_true (by omega);have d2:bnd (rest.length:Int) ((rest++List.replicate (1+Cx n+8) (0:Int)).length:Int)=true:=by unfold bnd; simp; omega
 have d3:decide (0≤(sz:Int) - 8∧(sz:Int) - 8≤(sz:Int)∧(sz:Int)≤(sz:Int)∧(sz:Int)≤(sz:Int))=true:=decide_eq_true (by omega);have e8:((sz:Int) - 8).toNat=(rest++128::List.replicate (Cx n) 0).length:=by simp; omega
 have e9:List.take ((sz:Int) - ((sz:Int) - 8)).toNat (List.take 8 (List.drop 0 (putS (8*(n:Int)))))=putS (8*(n:Int)):=by
  rw [show ((sz:Int) - ((sz:Int) - 8)).toNat=8 by omega]; rfl
 simp only [d1,Int.toNat_natCast,l1,d2,l2,sh];rw [Xi,wrap_i64 (by omega) (by omega)];simp only [hl3,d3,e9,e8];rw [zzw (by rfl)]
 congr 1
 simp [padT]
end Go.PG
namespace Go.PG
def Bt (a:Int):List Int:=[a/16777216 % 256,a/65536 % 256,a/256 % 256,a % 256]
theorem zby (R:Type) {a:Int} (ha:U32 a) (k:List Int→Option R):F192 R a k=k (Bt a):=by
 have e24:ishr .u32 a 24=a/16777216:=zcl ha (r:=24) (by omega);have e16:ishr .u32 a 16=a/65536:=zcl ha (r:=16) (by omega);have e8:ishr .u32 a 8=a/256:=zcl ha (r:=8) (by omega);simp only [F192,p192,e24,e16,e8,Fk];rfl
theorem F126_eq (R:Type) {a:Int} (ha:U32 a) (k:List Int→Option R):F126 R a k=k (Bt a):=by
 have h:=ha;unfold U32 at h;simp only [F126,p126];rw [Int.tdiv_eq_ediv_of_nonneg h.1,Int.tdiv_eq_ediv_of_nonneg h.1,Int.tdiv_eq_ediv_of_nonneg h.1,Cs (n:=a/16777216) (by omega) (by omega),Cs (n:=a/65536) (by omega) (by omega),Cs (n:=a/256) (by omega) (by omega)];rw [Int.tmod_eq_emod_of_nonneg (a:=a/65536) (by omega),Int.tmod_eq_emod_of_nonneg (a:=a/256) (by omega),Int.tmod_eq_emod_of_nonneg h.1];simp only [Fk,Int.emod_emod];rfl
theorem zvf (R:Type) (bs:List (List Int)) (hb:∀x∈bs,x.length=64∧AllU8 x) (hn:bs.length≤1000000000) (x4:List Int) (k0:List Int→List Int→Option R):
  ∀(m i:Nat) (st:List Int),i≤bs.length→bs.length - i<m→st.length=8→AllU32 st→zaf m R bs (i:Int) st x4 k0=k0 (Kr st (bs.drop i)) x4
 | 0,i,st,_,h,_,_=>by omega
 | m+1,i,st,h1,h2,hl,hu=>by
  simp only [zaf,zxy]
  by_cases hi:i<bs.length
  ·have hd:decide ((i:Int)<(bs.length:Int))=true:=by simpa using hi
   have hbn:bnd (i:Int) (bs.length:Int)=true:=by unfold bnd; simp; omega
   have hx:=hb bs[i] (List.getElem_mem hi);have hg:List.getD bs i (List.replicate 64 0)=bs[i]:=by simp [hi]
   simp only [hd,hbn,Int.toNat_natCast,hg];rw [F127_eq R hl hu hx.1 hx.2,wrap_i64 (by omega) (by omega)];have ok:=R7 bs[i] hl hu;have ih:=zvf R bs hb hn x4 k0 m (i+1) (Xw st bs[i]) (by omega) (by omega) ok.1 ok.2;rw [List.drop_eq_getElem_cons hi];exact ih
  ·have:i=bs.length:=by omega
   subst this;have hd:decide ((bs.length:Int)<(bs.length:Int))=false:=by simp
   simp only [hd];rw [List.drop_of_length_le (Nat.le_refl _)];rfl
theorem F87_eq (R:Type) {st:List Int} {bs:List (List Int)} (hl:st.length=8) (hu:AllU32 st) (hb:∀x∈bs,x.length=64∧AllU8 x) (hn:bs.length≤1000000000) (k:List Int→Option R):F87 R st bs k=k (Kr st bs):=by
 simp only [F87,p87];exact zvf R bs hb hn (List.replicate 8 0) (fun x1 _=>k x1) FUEL 0 st (by omega) (by rw [Am]; omega) hl hu
def H0:List Int:=[1779033703,3144134277,1013904242,2773480762,1359893119,2600822924,528734635,1541459225]
theorem F88_eq (R:Type) (k:List Int→Option R):F88 R k=k H0:=by kernel_rfl
theorem F129_eq (R:Type) (k:Wr→Option R):F129 R k=k (H0,[],0,()):=by kernel_rfl
theorem Wi:H0.length=8∧AllU32 H0:=⟨rfl,fun x hx=>by
 simp only [H0,List.mem_cons,List.not_mem_nil,or_false] at hx;unfold U32;omega⟩
def Ge (st l:List Int) (i:Nat):List Int:=lay l (4*i) (Bt (st.getD i 0))
theorem zjg {l xs:List Int} {lo:Nat} (h:lo+xs.length≤l.length):(lay l lo xs).length=l.length:=by
 unfold lay; simp; omega
theorem zlz (R:Type) {st:List Int} (hu:AllU32 st) (w:Wr×Unit) (k0:(Wr×Unit)→List Int→Option R):∀(m i:Nat) (l:List Int),i≤8→8 - i<m→P3 m R st (i:Int) w l k0=k0 w ((List.range' i (8 - i)).foldl (Ge st) l)
 | 0,i,l,_,h=>by omega
 | m+1,i,l,h1,h2=>by
  simp only [P3,zht]
  by_cases hi:i<8
  ·have ih:=zlz R hu w k0 m (i+1) (Ge st l i) (by omega) (by omega)
   rw [By hi,List.foldl_cons,←ih];have hd:decide ((i:Int)<8)=true:=by simp; omega
   have hbn:bnd (i:Int) 8=true:=by unfold bnd; simp; omega
   rw [wrap_i64 (n:=4*(i:Int)) (by omega) (by omega),wrap_i64 (n:=(i:Int)+1) (by omega) (by omega)];have c:decide (0≤4*(i:Int)∧4*(i:Int)≤32∧(32:Int)≤32)=true:=decide_eq_true (by omega);have e1:(4*(i:Int)).toNat=4*i:=by omega
   have e2:∀a,List.take (Int.toNat (32 - 4*(i:Int))) (List.take 4 (List.drop 0 (Bt a)))=Bt a:=fun a=>by
    rw [List.take_of_length_le (l:=List.take 4 (List.drop 0 (Bt a))) (by simp [Bt]; omega)];rfl
   simp only [hd,hbn,c,Int.toNat_natCast];rw [zby R (Au hu Qg _)];simp only [c,e1,e2];rfl
  ·have:i=8:=by omega
   subst this;rfl
end Go.PG
namespace Go.PG
theorem zdy (R:Type) {b:List Int} {o:Nat} (ho:o+64≤b.length) (hb:b.length≤1000000000) (acc:List (List Int)) (k0:List Int→Int→List (List Int)→List Int→Option R):∀(m i:Nat),i≤64→64 - i<m→
  Wk m R b (o:Int) (i:Int) acc ((b.drop o).take i++List.replicate (64 - i) 0) k0=k0 b (o:Int) acc ((b.drop o).take 64)
 | 0,i,_,h=>by omega
 | m+1,i,h1,h2=>by
  simp only [Wk,zx1]
  by_cases hi:i<64
  ·have ih:=zdy R ho hb acc k0 m (i+1) (by omega) (by omega)
   have hd:decide ((i:Int)<64)=true:=by simp; omega
   have hbn:bnd (i:Int) 64=true:=by unfold bnd; simp; omega
   have hb2:bnd ((o:Int)+(i:Int)) (b.length:Int)=true:=by unfold bnd; simp; omega
   have e1:((o:Int)+(i:Int)).toNat=o+i:=by omega
   have hl:((b.drop o).take i).length=i:=by rw [List.length_take,List.length_drop]; omega
   have hs:List.set ((b.drop o).take i++List.replicate (64 - i) 0) i (List.getD b (o+i) 0)=(b.drop o).take (i+1)++List.replicate (64 - (i+1)) 0:=by
    rw [List.set_append_right _ _ (by omega),hl,Nat.sub_self,show 64 - i=(64 - (i+1))+1 by omega,List.replicate_succ,List.set_cons_zero];rw [List.take_succ_eq_append_getElem (by rw [List.length_drop]; omega),List.append_assoc];simp [show o+i<b.length by omega]
   rw [wrap_i64 (n:=(o:Int)+(i:Int)) (by omega) (by omega),wrap_i64 (n:=(i:Int)+1) (by omega) (by omega)];simp only [hd,hbn,hb2,e1,Int.toNat_natCast,hs];exact ih
  ·have:i=64:=by omega
   subst this;have hd:decide (((64:Nat):Int)<64)=false:=by simp
   simp only [hd];simp
theorem zdz (R:Type) {b:List Int} (hb:b.length≤1000000000) (k0:List Int→Int→List (List Int)→Option R):∀(m o:Nat) (acc:List (List Int)),o≤b.length→(b.length - o)/64<m→acc.length+(b.length - o)/64≤1000000000→
  ∃o':Nat,o'≤b.length∧b.drop o'=Em (b.drop o)∧Tm m R b (o:Int) acc k0=k0 b (o':Int) (acc++blkS (b.drop o))
 | 0,o,acc,_,h,_=>by omega
 | m+1,o,acc,h0,h1,h2=>by
  simp only [Tm,zx2];rw [wrap_i64 (n:=(o:Int)+64) (by omega) (by omega)]
  by_cases hi:o+64≤b.length
  ·have hd:decide ((o:Int)+64≤(b.length:Int))=true:=by simp; omega
   obtain ⟨o',g1,g2,g3⟩:=zdz R hb k0 m (o+64) (acc++[(b.drop o).take 64]) (by omega) (by omega) (by rw [List.length_append]; simp; omega);have hl:64≤(b.drop o).length:=by rw [List.length_drop]; omega
   refine ⟨o',g1,?_,?_⟩
   ·rw [g2,E8 hl,List.drop_drop]
   ·have g:=zdy R hi hb acc (fun x7 x8 x9 x10=>match decide (x9.length+[x10].length≤2199023255552) with | true=>Tm m R x7 (IntKind.i64.wrap (x8+64)) (x9++[x10]) k0 | false=>none) FUEL 0 (by omega) (by rw [Am]; omega)
    have hc:decide (acc.length+[(b.drop o).take 64].length≤2199023255552)=true:=by simp; omega
    simp only [hd];refine Eq.trans ?_ (g.trans ?_)
    ·rfl
    ·simp only [hc]
     rw [wrap_i64 (by omega) (by omega),Gt hl,List.drop_drop];rw [List.append_assoc] at g3;exact g3
  ·have hd:decide ((o:Int)+64≤(b.length:Int))=false:=by simp; omega
   simp only [hd];have hl:(b.drop o).length<64:=by rw [List.length_drop]; omega
   exact ⟨o,h0,by rw [Dl hl],by rw [E5 hl,List.append_nil]⟩
theorem F84_eq (R:Type) {b:List Int} (hb:b.length≤1000000000) (k:List (List Int)→List Int→Option R):F84 R b k=k (blkS b) (Em b):=by
 simp only [F84,p84];obtain ⟨o',g1,g2,g3⟩:=zdz R hb (fun x1 x2 x3=>match decide (0≤x2∧x2≤(x1.length:Int)∧(x1.length:Int)≤(x1.length:Int)∧(x1.length:Int)≤(x1.length:Int)) with | true=>k x3 (List.take (Int.toNat ((x1.length:Int) - x2)) (List.drop (Int.toNat x2) x1)) | false=>none) FUEL 0 [] (by omega) (by rw [Am]; omega) (by simp; omega);refine g3.trans ?_;have c:decide (0≤(o':Int)∧(o':Int)≤(b.length:Int)∧(b.length:Int)≤(b.length:Int)∧(b.length:Int)≤(b.length:Int))=true:=decide_eq_true (by omega);simp only [c,Int.toNat_natCast];rw [List.take_of_length_le (by rw [List.length_drop]; omega),g2];rfl
def padM (m:List Int):List Int:=m++128::(List.replicate (Cx m.length) 0++putS (8*(m.length:Int)))
theorem F85_eq (R:Type) {m:List Int} (hm:m.length≤500000000) (k:List Int→Option R):F85 R m k=k (padM m):=by
 simp only [F85,p85];rw [Int.tmod_eq_emod_of_nonneg (by omega),wrap_i64 (by omega) (by omega),Aj (n:=(m.length:Int)) (by omega) (by omega)];obtain ⟨q,hq⟩:∃q:Nat,(m.length:Int) - (m.length:Int) % 64=q:=⟨m.length - m.length % 64,by omega⟩
 have hq':q=m.length - m.length % 64:=by omega
 rw [hq];have c1:decide (0≤(q:Int)∧(q:Int)≤(m.length:Int)∧(m.length:Int)≤(m.length:Int)∧(m.length:Int)≤(m.length:Int))=true:=decide_eq_true (by omega);have c2:decide (0≤(0:Int)∧(0:Int)≤(q:Int)∧(q:Int)≤(q:Int)∧(q:Int)≤(m.length:Int))=true:=decide_eq_true (by omega);have e1:List.take (Int.toNat ((m.length:Int) - (q:Int))) (List.drop q m)=List.drop q m:=List.take_of_length_le (by rw [List.length_drop]; omega);have e2:List.take (Int.toNat ((q:Int) - 0)) (List.drop 0 m)=List.take q m:=by simp
 simp only [c1,Int.toNat_natCast,e1];rw [F125_eq R (by rw [List.length_drop]; omega) (by omega)];have c3:decide (([]:List Int).length+(List.take q m).length≤140737488355328)=true:=decide_eq_true (by simp; omega);have c4:decide (([]++List.take q m).length+(padT (List.drop q m) m.length).length≤140737488355328)=true:=decide_eq_true (by simp [padT,putS]; unfold Cx; omega);simp only [c2,e2,c3,c4]
 congr 1
 simp only [padT,padM,List.nil_append];rw [←List.append_assoc,List.take_append_drop]
end Go.PG
namespace Go.PG
def zsk (st:List Int):List Int:=(List.range' 0 8).foldl (Ge st) (List.replicate 32 0)
theorem F182_eq (R:Type) {st:List Int} (u:List Int×Int×Unit) (hu:AllU32 st) (k:List Int→(Wr×Unit)→Option R):F182 R ((st,u),()) k=k (zsk st) ((st,u),()):=by
 simp only [F182,p182];exact zlz R hu ((st,u),()) (fun x1 x2=>k x2 x1) FUEL 0 (List.replicate 32 0) (by omega) (by rw [Am]; omega)
def SHA (m:List Int):List Int:=zsk (Kr H0 (blkS (padM m)))
theorem Oo (x:Int):AllU8 (putS x):=fun y hy=>by
 simp only [putS,List.mem_cons,List.not_mem_nil,or_false] at hy;unfold U8;omega
theorem zhc {rest:List Int} (h:AllU8 rest) (n:Nat):AllU8 (padT rest n):=fun y hy=>by
 unfold padT at hy;rcases List.mem_append.1 hy with h1 | h1
 ·exact h y h1
 ·rcases List.mem_cons.1 h1 with rfl | h1
  ·unfold U8; omega
  ·rcases List.mem_append.1 h1 with h1 | h1
   ·rw [List.eq_of_mem_replicate h1]; exact u8_0
   ·exact Oo _ y h1
theorem zqk (m:List Int):blkS (padM m)=blkS m++blkS (padT (Em m) m.length):=(Lo m.length m _ (Nat.le_refl _)).1
theorem F130_eq (R:Type) {m:List Int} (h8:AllU8 m) (hm:m.length≤500000000) (k:List Int→Int→Option R):F130 R (wrS H0 m) k=k (SHA m) 0:=by
 have tl:=(J9 m.length m (Nat.le_refl _)).1;have ok:=Pd m.length m (Nat.le_refl _) h8;have hf:=Kq (blkS m) Wi.1 Wi.2;have hp:=zhc ok.2 m.length;simp only [F130,p130,wrS];rw [F180_eq R tl (by omega)];simp only [Bool.not_true];rw [zn0 R (Em m,(m.length:Int),()) hf.1 hf.2 hp (by simp [padT,putS]; unfold Cx; omega)];have hf2:=Kq (blkS (padT (Em m) m.length)) hf.1 hf.2;rw [F182_eq R _ hf2.2];unfold SHA;rw [zqk];unfold Kr;rw [List.foldl_append]
theorem znh (R:Type) {ps:List (List Int)} (h8:∀p∈ps,AllU8 p) (hlen:ps.flatten.length≤500000000) (hnum:ps.length≤1000000000) (k:List Int→Option R):F93 R ps k=k (SHA ps.flatten):=by
 simp only [F93,p93];rw [F129_eq,F128_eq R Wi.1 Wi.2 h8 hlen hnum];refine F130_eq R (fun x hx=>?_) hlen _;obtain ⟨p,h1,h2⟩:=List.mem_flatten.1 hx;exact h8 p h1 x h2
end Go.PG
namespace Go.PG
theorem zdw (R:Type) (x1:Nat) (h:x1<8) (x3 x4 ys:List Int) (hy:ys.length=4) (k0:Int→List Int→List Int→List Int→Option R):∀(m j:Nat) (l:List Int),j≤4→4 - j<m→Wj m R (x1:Int) (j:Int) x3 x4 l ys k0=k0 (x1:Int) x3 x4 ((List.range' j (4 - j)).foldl (fun l j=>l.set (4*x1+j) (ys.getD j 0)) l)
 | 0,j,l,_,h=>by omega
 | m+1,j,l,h1,h2=>by
  simp only [Wj,zxz]
  by_cases hi:j<4
  ·have ih:=zdw R x1 h x3 x4 ys hy k0 m (j+1) (l.set (4*x1+j) (ys.getD j 0)) (by omega) (by omega)
   rw [By hi,List.foldl_cons,←ih];have hd:decide ((j:Int)<4)=true:=by simp; omega
   have hbn:bnd (j:Int) 4=true:=by unfold bnd; simp; omega
   rw [wrap_i64 (n:=4*(x1:Int)) (by omega) (by omega),wrap_i64 (n:=4*(x1:Int)+(j:Int)) (by omega) (by omega),wrap_i64 (n:=(j:Int)+1) (by omega) (by omega)];have hb2:bnd (4*(x1:Int)+(j:Int)) 32=true:=by unfold bnd; simp; omega
   have e1:(4*(x1:Int)+(j:Int)).toNat=4*x1+j:=by omega
   simp only [hd,hbn,hb2,e1,Int.toNat_natCast];rfl
  ·have:j=4:=by omega
   subst this;rfl
end Go.PG
namespace Go.PG
theorem zp8 (l:List Int) (p:Nat) (h:p+4≤l.length) (a b c d:Int):
  (List.range' 0 4).foldl (fun l j=>l.set (p+j) (List.getD [a,b,c,d] j 0)) l=lay l p [a,b,c,d]:=by
 have e:(List.range' 0 4).foldl (fun l j=>l.set (p+j) (List.getD [a,b,c,d] j 0)) l=(((l.set p a).set (p+1) b).set (p+2) c).set (p+3) d:=rfl;rw [e];apply List.ext_getElem?;intro i;unfold lay;simp only [List.getElem?_set,List.getElem?_append,List.length_take,List.length_set,List.getElem?_drop,List.length_append,List.length_cons,List.length_nil,List.getElem?_take];have hm:min p l.length=p:=by omega
 have hx:[a,b,c,d].length=4:=rfl
 by_cases h1:i<p
 ·have n1:¬p+3=i:=by omega
  have n2:¬p+2=i:=by omega
  have n3:¬p+1=i:=by omega
  have n4:¬p=i:=by omega
  simp only [n1,n2,n3,n4,if_false,hm];rw [if_pos (by omega),if_pos (by omega),if_pos h1]
 ·by_cases h2:i<p+4
  ·obtain ⟨q,rfl⟩:∃q,i=p+q:=⟨i - p,by omega⟩
   have hq:q=0∨q=1∨q=2∨q=3:=by omega
   rcases hq with rfl | rfl | rfl | rfl
   ·simp [hm,show ¬p+3=p from by omega,show p<l.length from by omega]
   ·simp [hm,show p+1<l.length from by omega,show ¬p+1<p from by omega]
   ·simp [hm,show p+2<l.length from by omega,show ¬p+2<p from by omega]
   ·simp [hm,show p+3<l.length from by omega,show ¬p+3<p from by omega]
  ·have n1:¬p+3=i:=by omega
   have n2:¬p+2=i:=by omega
   have n3:¬p+1=i:=by omega
   have n4:¬p=i:=by omega
   simp only [n1,n2,n3,n4,if_false,hm];rw [if_neg (by omega)]
   congr 1
   omega
theorem zdx (R:Type) {st:List Int} (hu:AllU32 st) (x3:List Int) (k0:List Int→List Int→Option R):∀(m i:Nat) (l:List Int),i≤8→8 - i<m→l.length=32→Nu m R (i:Int) st x3 l k0=k0 x3 ((List.range' i (8 - i)).foldl (Ge st) l)
 | 0,i,l,_,h,_=>by omega
 | m+1,i,l,h1,h2,hl=>by
  simp only [Nu,zx0]
  by_cases hi:i<8
  ·have hs:lay l (4*i) (Bt (st.getD i 0))=Ge st l i:=rfl
   have ih:=zdx R hu x3 k0 m (i+1) (Ge st l i) (by omega) (by omega) (by rw [←hs,zjg (by simp [Bt]; omega)]; exact hl);rw [By hi,List.foldl_cons,←ih];have hd:decide ((i:Int)<8)=true:=by simp; omega
   have hbn:bnd (i:Int) 8=true:=by unfold bnd; simp; omega
   simp only [hd,hbn,Int.toNat_natCast];rw [F126_eq R (Au hu Qg _)];refine (zdw R i hi st x3 _ rfl _ FUEL 0 l (by omega) (by rw [Am]; omega)).trans ?_;have e4:=zp8 l (4*i) (by omega) (st.getD i 0/16777216 % 256) (st.getD i 0/65536 % 256) (st.getD i 0/256 % 256) (st.getD i 0 % 256);rw [wrap_i64 (n:=(i:Int)+1) (by omega) (by omega)];show Nu m R ((i:Int)+1) st x3 _ k0=Nu m R ((i+1:Nat):Int) st x3 _ k0;rw [←hs];show Nu m R ((i:Int)+1) st x3 _ k0=Nu m R ((i:Int)+1) st x3 _ k0
   congr 1
  ·have:i=8:=by omega
   subst this;rfl
theorem F86_eq (R:Type) {st:List Int} (hu:AllU32 st) (k:List Int→Option R):F86 R st k=k (zsk st):=by
 simp only [F86,p86];exact zdx R hu _ (fun x1 x2=>k x2) FUEL 0 (List.replicate 32 0) (by omega) (by rw [Am]; omega) rfl
theorem zxu {m:List Int} (h:AllU8 m):AllU8 (padM m):=fun x hx=>by
 unfold padM at hx;rcases List.mem_append.1 hx with h1 | h1
 ·exact h x h1
 ·exact zhc (rest:=[]) (fun y hy=>absurd hy (by simp)) m.length x h1
theorem zqj (m:List Int):(padM m).length≤m.length+72:=by
 simp [padM,putS,Cx]; omega
theorem zdm:∀(n:Nat) (b:List Int),(blkF n b).length≤n
 | 0,b=>by simp [blkF]
 | n+1,b=>by
  simp only [blkF];split
  ·simp only [List.length_cons]
   have:=zdm n (b.drop 64);omega
  ·simp
theorem zvv (R:Type) {m:List Int} (h8:AllU8 m) (hm:m.length≤500000000) (k:List Int→Option R):F47 R m k=k (SHA m):=by
 simp only [F47,p47];have hp:=zqj m;rw [F85_eq R hm,F84_eq R (by omega),F88_eq];have ok:=Pd (padM m).length (padM m) (Nat.le_refl _) (zxu h8);rw [F87_eq R Wi.1 Wi.2 ok.1 (by have:=zdm ((padM m).length/64+1) (padM m); unfold blkS; omega),F86_eq R (Kq (blkS (padM m)) Wi.1 Wi.2).2];rfl
end Go.PG
namespace Go.PG
theorem zb6 (b:BitVec 8):IntKind.u8.wrap ((b.toNat:Nat):Int)=(b.toNat:Int):=by
 have:=b.isLt;exact zf9 (by omega) (by omega)
theorem Sv (a b:Int):ixor .u8 a b=((BitVec.ofInt 8 a^^^BitVec.ofInt 8 b).toNat:Int):=zb6 _
theorem Ja (b:BitVec 8):BitVec.ofInt 8 ((b.toNat:Nat):Int)=b:=by
 rw [BitVec.ofInt_natCast,BitVec.ofNat_toNat,BitVec.setWidth_eq]
theorem U6 {x:Int} (h:U8 x):((BitVec.ofInt 8 x).toNat:Int)=x:=by
 rw [BitVec.toNat_ofInt];unfold U8 at h;have:x % ((2^8:Nat):Int)=x:=by omega
 rw [this];omega
theorem zse (a b:Int):U8 (ixor .u8 a b):=by
 rw [Sv];have:=(BitVec.ofInt 8 a^^^BitVec.ofInt 8 b).isLt;unfold U8;omega
theorem zsd (a b c:Int):ixor .u8 (ixor .u8 a b) c=ixor .u8 (ixor .u8 a c) b:=by
 simp only [Sv,Ja];rw [BitVec.xor_assoc,BitVec.xor_comm (BitVec.ofInt 8 b),BitVec.xor_assoc]
theorem Zs (a b c:Int):ixor .u8 (ixor .u8 a b) c=ixor .u8 a (ixor .u8 b c):=by
 simp only [Sv,Ja];rw [BitVec.xor_assoc]
theorem zzy {a:Int} (h:U8 a):ixor .u8 0 a=a:=by
 rw [Sv,show BitVec.ofInt 8 0=0#8 from rfl,BitVec.zero_xor,U6 h]
def xorS (h x:List Int):List Int:=List.zipWith (ixor .u8) h x
def Ce:List Int:=List.replicate 32 0
def Dt (l:List (List Int)):List Int:=l.foldl xorS Ce
def H32 (l:List Int):Prop:=l.length=32∧AllU8 l
theorem zf2:∀h a b:List Int,xorS (xorS h a) b=xorS (xorS h b) a
 | [],a,b=>by simp [xorS]
 | h::hs,[],b=>by cases b<;>simp [xorS]
 | h::hs,a::ts,[]=>by simp [xorS]
 | h::hs,a::ts,b::bs=>by
  have:=zf2 hs ts bs;simp only [xorS,List.zipWith_cons_cons] at*;rw [this,zsd]
theorem T3:∀h a b:List Int,xorS (xorS h a) b=xorS h (xorS a b)
 | [],a,b=>by simp [xorS]
 | h::hs,[],b=>by simp [xorS]
 | h::hs,a::ts,[]=>by simp [xorS]
 | h::hs,a::ts,b::bs=>by
  have:=T3 hs ts bs;simp only [xorS,List.zipWith_cons_cons] at*;rw [this,Zs]
theorem Ry:∀{n:Nat} {a:List Int},a.length=n→AllU8 a→xorS (List.replicate n 0) a=a
 | 0,[],_,_=>rfl
 | n+1,a::ts,hl,h=>by
  have ih:=Ry (n:=n) (a:=ts) (by simpa using hl) (fun x hx=>h x (List.mem_cons_of_mem _ hx));simp only [xorS,List.replicate_succ,List.zipWith_cons_cons] at*;rw [ih,zzy (h a List.mem_cons_self)]
theorem zf7:∀h x:List Int,AllU8 (xorS h x)
 | [],x=>fun y hy=>by simp [xorS] at hy
 | h::hs,[]=>fun y hy=>by simp [xorS] at hy
 | h::hs,x::xs=>fun y hy=>by
  simp only [xorS,List.zipWith_cons_cons,List.mem_cons] at hy;rcases hy with rfl | hy
  ·exact zse _ _
  ·exact zf7 hs xs y hy
theorem N6 {h x:List Int} (hh:H32 h) (hx:H32 x):H32 (xorS h x):=⟨by simp [xorS,hh.1,hx.1],zf7 h x⟩
theorem Ay:H32 Ce:=⟨by simp [Ce],fun x hx=>by rw [List.eq_of_mem_replicate hx]; exact u8_0⟩
theorem zf8:∀(l:List (List Int)) {h:List Int},H32 h→(∀x∈l,H32 x)→H32 (l.foldl xorS h)
 | [],h,hh,_=>hh
 | x::xs,h,hh,hl=>zf8 xs (N6 hh (hl x List.mem_cons_self)) (fun y hy=>hl y (List.mem_cons_of_mem _ hy))
theorem N7 {l:List (List Int)} (hl:∀x∈l,H32 x):H32 (Dt l):=zf8 l Ay hl
theorem xor0 {x:List Int} (h:H32 x):xorS Ce x=x:=Ry h.1 h.2
theorem Xm:∀(l:List (List Int)) {h:List Int},H32 h→(∀x∈l,H32 x)→l.foldl xorS h=xorS h (Dt l)
 | [],h,hh,_=>by
  show h=xorS h Ce;have:=Ry hh.1 hh.2;have e:xorS h Ce=xorS Ce h:=by
   have e1:=xor0 hh;have:xorS (xorS Ce h) Ce=xorS (xorS Ce Ce) h:=zf2 _ _ _;rw [e1] at this;rw [this,xor0 Ay]
  rw [e,xor0 hh]
 | x::xs,h,hh,hl=>by
  have hx:=hl x List.mem_cons_self;have hxs:=fun y hy=>hl y (List.mem_cons_of_mem x hy)
  unfold Dt;rw [List.foldl_cons,List.foldl_cons,Xm xs (N6 hh hx) hxs,xor0 hx,Xm xs hx hxs,T3]
theorem Rz {a b:List (List Int)} (ha:∀x∈a,H32 x) (hb:∀x∈b,H32 x):Dt (a++b)=xorS (Dt a) (Dt b):=by
 unfold Dt;rw [List.foldl_append];exact Xm b (N7 ha) hb
theorem Xn {a b:List (List Int)} (h:a.Perm b):Dt a=Dt b:=by
 unfold Dt;generalize Ce=z
 induction h generalizing z with
 | nil=>rfl
 | cons x _ ih=>exact ih _
 | swap x y l=>simp only [List.foldl_cons,zf2]
 | trans _ _ i1 i2=>rw [i1 z,i2 z]
theorem zgk (A:List Int) (h:Int) (hs:List Int) (v:Int):(A++h::hs).set A.length v=(A++[v])++hs:=by
 rw [List.set_append_right _ _ (Nat.le_refl _)];simp
theorem N3 (A:List Int) (h:Int) (hs:List Int):(A++h::hs).getD A.length 0=h:=by
 simp
theorem zd0 (R:Type) (x1:List (List Int)) (x2 x3:Int) (k0:List (List Int)→Int→Int→List Int→Option R):∀(m:Nat) (hs xs A X:List Int),hs.length=xs.length→A.length=X.length→A.length+hs.length=32→hs.length<m→
  Tn m R x1 x2 x3 (X++xs) (A.length:Int) (A++hs) k0=k0 x1 x2 x3 (A++xorS hs xs)
 | 0,_,_,_,_,_,_,_,h=>by omega
 | m+1,[],[],A,X,_,h2,h3,_=>by
  have:A.length=32:=by simpa using h3
  simp only [Tn,zql,this];simp [xorS]
 | m+1,h::hs,x::xs,A,X,h1,h2,h3,h4=>by
  simp only [List.length_cons] at h1 h3 h4;have ih:=zd0 R x1 x2 x3 k0 m hs xs (A++[ixor .u8 h x]) (X++[x]) (by omega) (by simp; omega) (by simp; omega) (by omega);simp only [Tn,zql];have hd:decide ((A.length:Int)<32)=true:=by simp; omega
  have hbn:bnd (A.length:Int) 32=true:=by unfold bnd; simp; omega
  simp only [hd,hbn,Int.toNat_natCast];rw [zgk,N3,wrap_i64 (n:=(A.length:Int)+1) (by omega) (by omega),h2,N3];simp only [List.append_assoc,List.cons_append,List.nil_append,List.length_append,List.length_cons,List.length_nil] at ih;rw [h2] at ih;simp only [List.append_assoc,List.cons_append,List.nil_append];exact ih
theorem zd1 (R:Type) (l:List (List Int)) (hl:∀x∈l,H32 x) (hn:l.length≤1000000000) (k0:List Int→Option R):∀(m i:Nat) (h:List Int),i≤l.length→l.length - i<m→H32 h→
  Wl m R l (l.length:Int) (i:Int) h k0=k0 ((l.drop i).foldl xorS h)
 | 0,i,_,_,h,_=>by omega
 | m+1,i,h,h1,h2,hh=>by
  simp only [Wl,zx5]
  by_cases hi:i<l.length
  ·have hd:decide ((i:Int)<(l.length:Int))=true:=by simpa using hi
   have hbn:bnd (i:Int) (l.length:Int)=true:=by unfold bnd; simp; omega
   have hx:=hl l[i] (List.getElem_mem hi);have hg:List.getD l i (List.replicate 32 0)=l[i]:=by simp [hi]
   have ih:=zd1 R l hl hn k0 m (i+1) (xorS h l[i]) (by omega) (by omega) (N6 hh hx);simp only [hd,hbn,Int.toNat_natCast,hg];refine (zd0 R l (l.length:Int) (i:Int) _ FUEL h l[i] [] [] (by rw [hh.1,hx.1]) rfl (by simp [hh.1]) (by rw [Am,hh.1]; omega)).trans ?_;rw [wrap_i64 (n:=(i:Int)+1) (by omega) (by omega),List.drop_eq_getElem_cons hi];exact ih
  ·have:i=l.length:=by omega
   subst this;have hd:decide ((l.length:Int)<(l.length:Int))=false:=by simp
   simp only [hd];rw [List.drop_of_length_le (Nat.le_refl _)];rfl
theorem zvu (R:Type) {l:List (List Int)} (hl:∀x∈l,H32 x) (hn:l.length≤1000000000) (k:List Int→Option R):F54 R l k=k (Dt l):=by
 simp only [F54,p54];exact zd1 R l hl hn (fun x2=>k x2) FUEL 0 Ce (by omega) (by rw [Am]; omega) Ay
theorem zd2 (R:Type) (x1:List (List Int)) (n:Nat) (xi:List Int) (hn:n<x1.length) (hxi:x1.getD n (List.replicate 32 0)=xi) (x4:List Int) (k0:List (List Int)→Int→List Int→List Int→Option R):∀(m:Nat) (hs xs A X:List Int),xi=X++xs→hs.length=xs.length→A.length=X.length→A.length+hs.length=32→hs.length<m→
  Tp m R x1 (n:Int) (A.length:Int) x4 (A++hs) k0=k0 x1 (n:Int) x4 (A++xorS hs xs)
 | 0,_,_,_,_,_,_,_,_,h=>by omega
 | m+1,[],[],A,X,_,_,h2,h3,_=>by
  have:A.length=32:=by simpa using h3
  simp only [Tp,zqo,this];simp [xorS]
 | m+1,h::hs,x::xs,A,X,h0,h1,h2,h3,h4=>by
  simp only [List.length_cons] at h1 h3 h4;have ih:=zd2 R x1 n xi hn hxi x4 k0 m hs xs (A++[ixor .u8 h x]) (X++[x]) (by simp [h0]) (by omega) (by simp; omega) (by simp; omega) (by omega);simp only [Tp,zqo];have hd:decide ((A.length:Int)<32)=true:=by simp; omega
  have hbn:bnd (A.length:Int) 32=true:=by unfold bnd; simp; omega
  have hbm:bnd (n:Int) (x1.length:Int)=true:=by unfold bnd; simp; omega
  simp only [hd,hbn,hbm,Int.toNat_natCast,hxi,h0];rw [zgk,N3,wrap_i64 (n:=(A.length:Int)+1) (by omega) (by omega),h2,N3];simp only [List.append_assoc,List.cons_append,List.nil_append,List.length_append,List.length_cons,List.length_nil] at ih;rw [h2] at ih;simp only [List.append_assoc,List.cons_append,List.nil_append];exact ih
theorem zd3 (R:Type) (l:List (List Int)) (hl:∀x∈l,H32 x) (hn:l.length≤1000000000) (x3:List Int) (k0:List Int→List Int→Option R):∀(m i:Nat) (h:List Int),i≤l.length→l.length - i<m→H32 h→
  Wo m R l (i:Int) x3 h k0=k0 x3 ((l.drop i).foldl xorS h)
 | 0,i,_,_,h,_=>by omega
 | m+1,i,h,h1,h2,hh=>by
  simp only [Wo,zyd]
  by_cases hi:i<l.length
  ·have hd:decide ((i:Int)<(l.length:Int))=true:=by simpa using hi
   have hx:=hl l[i] (List.getElem_mem hi);have hg:List.getD l i (List.replicate 32 0)=l[i]:=by simp [hi]
   have ih:=zd3 R l hl hn x3 k0 m (i+1) (xorS h l[i]) (by omega) (by omega) (N6 hh hx);simp only [hd];refine (zd2 R l i l[i] hi hg x3 _ FUEL h l[i] [] [] rfl (by rw [hh.1,hx.1]) rfl (by simp [hh.1]) (by rw [Am,hh.1]; omega)).trans ?_;rw [wrap_i64 (n:=(i:Int)+1) (by omega) (by omega),List.drop_eq_getElem_cons hi];exact ih
  ·have:i=l.length:=by omega
   subst this;have hd:decide ((l.length:Int)<(l.length:Int))=false:=by simp
   simp only [hd];rw [List.drop_of_length_le (Nat.le_refl _)];rfl
theorem F23_eq (R:Type) {l:List (List Int)} (hl:∀x∈l,H32 x) (hn:l.length≤1000000000) (k:List Int→Option R):F23 R l k=k (Dt l):=by
 simp only [F23,p23];exact zd3 R l hl hn Ce (fun _ x2=>k x2) FUEL 0 Ce (by omega) (by rw [Am]; omega) Ay
end Go.PG
namespace Go.PG
theorem Kc (x:Int):(putS x).length=8:=rfl
theorem zcf {l:List Int} (h:H32 l):List.take 32 (List.drop 0 l)=l:=by
 rw [List.drop_zero,List.take_of_length_le (by rw [h.1]; omega)]
theorem take8 (x:Int):List.take 8 (List.drop 0 (putS x))=putS x:=rfl
theorem zn2 (R:Type) {a:List Int} (ha:H32 a) (k:List Int→Option R):F166 R a k=k (SHA a):=by
 simp only [F166,p166,zcf ha];rw [znh R (fun p hp=>by simp only [List.mem_cons,List.not_mem_nil,or_false] at hp; rw [hp]; exact ha.2) (by simp [ha.1]) (by simp)];simp
def Qh (a:List Int) (e:Int) (b:List Int):List Int:=SHA (a++(putS e++b))
theorem zvt (R:Type) {a b:List Int} (ha:H32 a) (hb:H32 b) (e:Int) (k:List Int→Option R):F55 R a e b k=k (Qh a e b):=by
 simp only [F55,p55];rw [Xi];simp only [zcf ha,zcf hb,take8];rw [znh R (fun p hp=>by
  simp only [List.mem_cons,List.not_mem_nil,or_false] at hp;rcases hp with rfl | rfl | rfl
  ·exact ha.2
  ·exact Oo e
  ·exact hb.2) (by simp [ha.1,hb.1,Kc]) (by simp)]
 simp [Qh]
theorem Vw {l:List Int} {i:Nat} (h:i<l.length):l.drop i=l.getD i 0::l.drop (i+1):=by
 rw [List.drop_eq_getElem_cons h];simp [h]
theorem zvj (R:Type) {a:List Int} (ha:a.length=32) (k0:List Int→Option R):∀(m i:Nat) (o:List Int),i≤32→32 - i<m→o.length≤1000000+i→zaj m R (i:Int) a o k0=k0 (o++a.drop i)
 | 0,i,_,_,h,_=>by omega
 | m+1,i,o,h1,h2,h3=>by
  simp only [zaj,zx7]
  by_cases hi:i<32
  ·have ih:=zvj R ha k0 m (i+1) (o++[a.getD i 0]) (by omega) (by omega) (by simp; omega)
   have hd:decide ((i:Int)<32)=true:=by simp; omega
   have hbn:bnd (i:Int) 32=true:=by unfold bnd; simp; omega
   have hc:∀y:Int,decide (List.length o+List.length [y]≤140737488355328)=true:=fun y=>by simp; omega
   simp only [hd,hbn,Int.toNat_natCast,hc];rw [wrap_i64 (n:=(i:Int)+1) (by omega) (by omega),Vw (by omega)];simp only [List.append_assoc,List.cons_append,List.nil_append] at ih;exact ih
  ·have:i=32:=by omega
   subst this;rw [List.drop_of_length_le (by omega),List.append_nil];rfl
theorem znn (R:Type) {a:List Int} (ha:a.length=32) (k:List Int→Option R):F45 R a k=k a:=by
 simp only [F45,p45];exact zvj R ha (fun x=>k x) FUEL 0 [] (by omega) (by rw [Am]; omega) (by simp)
theorem F26_eq (R:Type) {a:List Int} (ha:H32 a) (k:List Int→Option R):F26 R a k=k (SHA a):=by
 simp only [F26,p26];rw [znn R ha.1,zvv R ha.2 (by rw [ha.1]; omega)]
theorem zvp (R:Type) {a:List Int} (ha:a.length=8) (x2 x3:List Int) (k0:List Int→List Int→List Int→Option R):∀(m i:Nat) (o:List Int),i≤8→8 - i<m→o.length≤1000000+i→zan m R (i:Int) x2 x3 o a k0=k0 x2 x3 (o++a.drop i)
 | 0,i,_,_,h,_=>by omega
 | m+1,i,o,h1,h2,h3=>by
  simp only [zan,zyc]
  by_cases hi:i<8
  ·have ih:=zvp R ha x2 x3 k0 m (i+1) (o++[a.getD i 0]) (by omega) (by omega) (by simp; omega)
   have hd:decide ((i:Int)<8)=true:=by simp; omega
   have hbn:bnd (i:Int) 8=true:=by unfold bnd; simp; omega
   have hc:∀y:Int,decide (List.length o+List.length [y]≤140737488355328)=true:=fun y=>by simp; omega
   simp only [hd,hbn,Int.toNat_natCast,hc];rw [wrap_i64 (n:=(i:Int)+1) (by omega) (by omega),Vw (by omega)];simp only [List.append_assoc,List.cons_append,List.nil_append] at ih;exact ih
  ·have:i=8:=by omega
   subst this;rw [List.drop_of_length_le (by omega),List.append_nil];rfl
theorem AllU8.app {a b:List Int} (ha:AllU8 a) (hb:AllU8 b):AllU8 (a++b):=fun x hx=>(List.mem_append.1 hx).elim (ha x) (hb x)
theorem zvy (R:Type) {a b:List Int} (ha:H32 a) (hb:H32 b) {e:Int} (he:0≤e∧e<18446744073709551616) (k:List Int→Option R):F24 R a e b k=k (Qh a e b):=by
 simp only [F24,p24];rw [znn R ha.1,zvw R he];refine (zvp R (Kc e) b _ _ FUEL 0 a (by omega) (by rw [Am]; omega) (by rw [ha.1]; omega)).trans ?_;simp only [List.drop_zero];rw [znn R hb.1];have hc:decide (List.length (a++putS e)+List.length b≤140737488355328)=true:=by simp [ha.1,hb.1,Kc]
 simp only [hc];rw [zvv R ((ha.2.app (Oo e)).app hb.2) (by simp [ha.1,hb.1,Kc])];rw [List.append_assoc];rfl
theorem fit_h32 {x:List Int} (h:Fit (.arr 32 (.int .u8)) x):H32 x:=⟨h.1,fun y hy=>by have:=fit_u8 (h.2 y hy); unfold U8; omega⟩
end Go.PG
namespace Go.PG
end Go.PG
namespace Go.PG
theorem zez {st l:List Int} (hl:H32 l) {i:Nat} (hi:i<8):H32 (Ge st l i):=by
 refine ⟨by unfold Ge; rw [zjg (by simp [Bt,hl.1]; omega)]; exact hl.1,?_⟩;unfold Ge lay;refine AllU8.app (AllU8.app (fun x hx=>hl.2 x (List.mem_of_mem_take hx)) ?_) (fun x hx=>hl.2 x (List.mem_of_mem_drop hx));intro y hy;simp only [Bt,List.mem_cons,List.not_mem_nil,or_false] at hy;unfold U8;omega
theorem Q1 (st:List Int):∀(is:List Nat) {l:List Int},(∀i∈is,i<8)→H32 l→H32 (is.foldl (Ge st) l)
 | [],_,_,hl=>hl
 | i::is,_,h,hl=>Q1 st is (fun j hj=>h j (List.mem_cons_of_mem _ hj)) (zez hl (h i List.mem_cons_self))
theorem Rb (m:List Int):H32 (SHA m):=by
 unfold SHA zsk;refine Q1 _ _ (fun i hi=>?_) Ay;rw [List.mem_range'] at hi;obtain ⟨j,hj,rfl⟩:=hi;omega
def M7 (a:List Int) (d i:Int):List Int:=SHA (a++(putS d++putS i))
theorem zk1 (a:List Int) (d i:Int):H32 (M7 a d i):=Rb _
theorem F259_eq (R:Type) {a:List Int} (ha:H32 a) (d i:Int) (k:List Int→Option R):F259 R a d i k=k (M7 a d i):=by
 simp only [F259,p259];rw [Xi,Xi];simp only [zcf ha,take8];rw [znh R (fun p hp=>by
  simp only [List.mem_cons,List.not_mem_nil,or_false] at hp;rcases hp with rfl | rfl | rfl
  ·exact ha.2
  ·exact Oo d
  ·exact Oo i) (by simp [ha.1,Kc]) (by simp)]
 simp [M7]
def U64 (x:Int):Prop:=0≤x∧x<18446744073709551616
theorem T4 (b:BitVec 64):IntKind.u64.wrap ((b.toNat:Nat):Int)=(b.toNat:Int):=by
 have:=b.isLt;exact Aj (by omega) (by omega)
theorem zsj (a b:Int):iand .u64 a b=((BitVec.ofInt 64 a&&& BitVec.ofInt 64 b).toNat:Int):=T4 _
theorem Zt (a b:Int):ior .u64 a b=((BitVec.ofInt 64 a||| BitVec.ofInt 64 b).toNat:Int):=T4 _
theorem zjq {x:Int} (hx:U64 x) (n:Nat) (hn:n<64):iand .u64 x ((2^n - 1:Nat):Int)=x % 2^n:=by
 unfold U64 at hx;obtain ⟨y,rfl⟩:∃y:Nat,x=y:=⟨x.toNat,by omega⟩
 have h1:(2:Nat)^n<2^64:=Nat.pow_lt_pow_right (by omega) hn;have h0:0<(2:Nat)^n:=Nat.pow_pos (by omega);rw [zsj,BitVec.ofInt_natCast,BitVec.ofInt_natCast,BitVec.toNat_and,BitVec.toNat_ofNat,BitVec.toNat_ofNat,Nat.mod_eq_of_lt (by omega),Nat.mod_eq_of_lt (by omega),Nat.and_two_pow_sub_one_eq_mod];simp
def bitS (a:List Int) (d n:Int):Int:=(M7 a d (n/256)).getD (n % 256/8).toNat 0/2^(7 - n % 8).toNat % 2
end Go.PG
namespace Go.PG
abbrev Cm:=Int×(List Int×(Bool×(List Int×Unit)))
abbrev zC:Cm:=((0:Int),(List.replicate 32 (0:Int)),false,(List.replicate 32 (0:Int)),())
def I64 (x:Int):Prop:= -9223372036854775808≤x∧x<9223372036854775808
structure CmOK (c:Cm):Prop where
 who:I64 c.1
 hash:H32 c.2.1
 value:H32 c.2.2.2.1
def CsOK (l:List Cm):Prop:=∀c∈l,CmOK c
theorem zC_ok:CmOK zC:=⟨by show I64 0; unfold I64; omega,Ay,Ay⟩
theorem CsOK.get {l:List Cm} (h:CsOK l) (i:Nat):CmOK (l.getD i zC):=by
 rw [List.getD_eq_getElem?_getD];cases hi:l[i]? with
 | none=>exact zC_ok
 | some c=>exact h c (List.mem_of_getElem? hi)
theorem zdf:∀{a b:List Int},a.length=b.length→eqvL (Kd.eqv (.int .u8)) a b=decide (a=b)
 | [],[],_=>rfl
 | x::xs,y::ys,h=>by
  simp only [eqvL,zdf (a:=xs) (b:=ys) (by simpa using h)]
  by_cases e:x=y
  ·subst e; simp [Kd.eqv]
  ·simp [Kd.eqv,e]
theorem Ep {a b:List Int} (ha:a.length=32) (hb:b.length=32):Kd.eqv (.arr 32 (.int .u8)) a b=decide (a=b):=zdf (by rw [ha,hb])
def Gf (f:Nat→Bool):Nat→Nat→Bool
 | 0,_=>true
 | d+1,i=>f i&&Gf f d (i+1)
theorem Fy {f:Nat→Bool}:∀{d i:Nat},Gf f d i=true↔∀j,i≤j→j<i+d→f j=true
 | 0,i=>⟨fun _ j h1 h2=>by omega,fun _=>rfl⟩
 | d+1,i=>by
  simp only [Gf,Bool.and_eq_true,Fy (d:=d)];constructor
  ·rintro ⟨h1,h2⟩ j h3 h4
   by_cases e:j=i
   ·subst e; exact h1
   ·exact h2 j (by omega) (by omega)
  ·intro h
   exact ⟨h i (by omega) (by omega),fun j h1 h2=>h j (by omega) (by omega)⟩
def Qt (c:Cm):Bool:=decide (0≤c.1)&&match c.2.2.1 with
 | true=>decide (SHA c.2.2.2.1=c.2.1)
 | false=>decide (c.2.2.2.1=Ce)
def D3 (l:List Cm) (i:Nat):Bool:=Qt (l.getD i zC)&&(Nat.beq i 0||decide ((l.getD (i - 1) zC).1<(l.getD i zC).1))
def E1 (l:List Cm):Bool:=Gf (D3 l) l.length 0
theorem zgj (x:List Int):(SHA x).length=32:=by
 exact (Rb x).1
theorem F199_eq (R:Type) {c:Cm} (h:CmOK c) (k:Bool→Option R):F199 R c k=k (Qt c):=by
 obtain ⟨a1,a2,a3,a4,⟨⟩⟩:=c;simp only [F199,p199,Qt];have hv:H32 a4:=h.value;have hh:H32 a2:=h.hash
 by_cases h0:(0:Int)≤a1
 ·have hd:decide (a1≥(0:Int))=true:=decide_eq_true h0
  have hd':decide ((0:Int)≤a1)=true:=decide_eq_true h0;simp only [hd,hd',Bool.true_and];cases a3 with
  | true=>
   simp only;rw [zn2 R hv,Ep (zgj _) hh.1]
  | false=>
   simp only;rw [show List.replicate 32 (0:Int)=Ce from rfl,Ep hv.1 Ay.1]
 ·have hd:decide (a1≥(0:Int))=false:=decide_eq_false h0
  have hd':decide ((0:Int)≤a1)=false:=decide_eq_false h0;simp only [hd,hd',Bool.false_and];cases a3<;>rfl
theorem zl2 (R:Type) {l:List Cm} (h:CsOK l) (hn:l.length≤1000) (k0:Bool→Option R) (k1:Option R):∀(m i:Nat),i≤l.length→l.length - i<m→
  P8 m R l l (l.length:Int) (i:Int) k0 k1=match Gf (D3 l) (l.length - i) i with | true=>k1 | false=>k0 false
 | 0,i,_,h=>by omega
 | m+1,i,h1,h2=>by
  simp only [P8,zh0]
  by_cases hi:i<l.length
  ·have hd:decide ((i:Int)<(l.length:Int))=true:=by simpa using hi
   have hbn:bnd (i:Int) (l.length:Int)=true:=by unfold bnd; simp; omega
   have ih:=zl2 R h hn k0 k1 m (i+1) (by omega) (by omega);have hw:IntKind.i64.wrap ((i:Int)+1)=((i+1:Nat):Int):=by rw [wrap_i64 (by omega) (by omega)]; omega
   simp only [hd,hbn,Int.toNat_natCast];rw [F199_eq R (h.get i),hw,show l.length - i=(l.length - (i+1))+1 by omega];simp only [Gf];cases hr:Qt (l.getD i zC) with
   | false=>
    have e2:D3 l i=false:=by simp only [D3,hr,Bool.false_and]
    simp only [e2,Bool.false_and,Bool.not_false]
   | true=>
    simp only [Bool.not_true]
    by_cases h0:i=0
    ·subst h0
     have e1:decide (((0:Nat):Int)>0)=false:=by simp
     have e2:D3 l 0=true:=by simp [D3]; exact hr
     simp only [e1,e2,Bool.true_and];exact ih
    ·have e1:decide ((i:Int)>0)=true:=decide_eq_true (by omega)
     have e3:IntKind.i64.wrap ((i:Int) - 1)=((i - 1:Nat):Int):=by rw [wrap_i64 (by omega) (by omega)]; omega
     have e4:bnd ((i - 1:Nat):Int) (l.length:Int)=true:=by unfold bnd; simp; omega
     have e5:Nat.beq i 0=false:=by
      cases hb:Nat.beq i 0 with
      | false=>rfl
      | true=>exact absurd (Nat.eq_of_beq_eq_true hb) h0
     simp only [e1,e3,e4,Int.toNat_natCast]
     by_cases hlt:(l.getD (i - 1) zC).1<(l.getD i zC).1
     ·have e6:decide ((l.getD (i - 1) zC).1≥(l.getD i zC).1)=false:=decide_eq_false (by omega)
      have e2:D3 l i=true:=by simp only [D3,hr,e5,decide_eq_true hlt,Bool.or_true,Bool.and_self]
      simp only [e6,e2,Bool.true_and];exact ih
     ·have e6:decide ((l.getD (i - 1) zC).1≥(l.getD i zC).1)=true:=decide_eq_true (by omega)
      have e2:D3 l i=false:=by simp only [D3,hr,e5,decide_eq_false hlt,Bool.or_self,Bool.and_false]
      simp only [e6,e2,Bool.false_and]
  ·have:i=l.length:=by omega
   subst this;have hd:decide ((l.length:Int)<(l.length:Int))=false:=by simp
   simp only [hd,Nat.sub_self,Gf]
theorem zb0 (R:Type) {l:List Cm} (h:CsOK l) (hn:l.length≤1000) (k:Bool→Option R):F161 R l k=k (E1 l):=by
 simp only [F161,p161];refine (zl2 R h hn (fun x2=>k x2) (k true) FUEL 0 (by omega) (by rw [Am]; omega)).trans ?_;unfold E1;rw [Nat.sub_zero];cases Gf (D3 l) l.length 0<;>rfl
end Go.PG
namespace Go.PG
theorem B5 {i n:Nat} (h:i<n) (hn:n≤1000):IntKind.i64.wrap ((i:Int)+1)=((i+1:Nat):Int):=by rw [wrap_i64 (by omega) (by omega)]; omega
theorem A7 {i n:Nat} (h:i<n):bnd (i:Int) (n:Int)=true:=by unfold bnd; simp; omega
theorem Du {i n:Nat} (h:i<n):decide ((i:Int)<(n:Int))=true:=by simpa using h
theorem Da (n:Nat):decide ((n:Int)<(n:Int))=false:=by simp
structure zdq (l:List Cm):Prop where
 each:∀c∈l,Qt c=true
 ord:∀i j,i<j→j<l.length→(l.getD i zC).1<(l.getD j zC).1
theorem zsn {l:List Cm} {i:Nat} (h:i<l.length):l.getD i zC∈l:=by
 rw [List.getD_eq_getElem?_getD,List.getElem?_eq_getElem h]; exact List.getElem_mem h
theorem zq0 {l:List Cm} {c:Cm} (h:c∈l):∃i,i<l.length∧l.getD i zC=c:=by
 obtain ⟨i,hi,e⟩:=List.getElem_of_mem h;exact ⟨i,hi,by rw [List.getD_eq_getElem?_getD,List.getElem?_eq_getElem hi]; exact e⟩
theorem Qs {l:List Cm}:E1 l=true↔zdq l:=by
 unfold E1;rw [Fy];constructor
 ·intro h
  have hat:∀i,i<l.length→Qt (l.getD i zC)=true∧(i=0∨(l.getD (i - 1) zC).1<(l.getD i zC).1):=by
   intro i hi;have:=h i (by omega) (by omega);simp only [D3,Bool.and_eq_true,Bool.or_eq_true,decide_eq_true_eq] at this;refine ⟨this.1,?_⟩;rcases this.2 with h1 | h1
   ·exact .inl (Nat.eq_of_beq_eq_true h1)
   ·exact .inr h1
  refine ⟨fun c hc=>?_,fun i j hij hj=>?_⟩
  ·obtain ⟨i,hi,rfl⟩:=zq0 hc
   exact (hat i hi).1
  ·induction j with
   | zero=>omega
   | succ j ih=>
    have h1:=(hat (j+1) hj).2;rcases h1 with h1 | h1
    ·omega
    ·rw [Nat.add_sub_cancel] at h1
     by_cases e:i=j
     ·subst e; exact h1
     ·have:=ih (by omega) (by omega)
      omega
 ·intro h j _ hj
  simp only [D3,Bool.and_eq_true,Bool.or_eq_true,decide_eq_true_eq];refine ⟨h.each _ (zsn (by omega)),?_⟩
  by_cases e:j=0
  ·subst e; exact .inl rfl
  ·exact .inr (h.ord _ _ (by omega) (by omega))
def Bs:List Cm→Int→Nat
 | [],_=>0
 | c::l,w=>if c.1<w then Bs l w+1 else 0
theorem Oq:∀(l:List Cm) (w:Int),Bs l w≤l.length
 | [],_=>Nat.le_refl _
 | c::l,w=>by
  have:=Oq l w;simp only [Bs,List.length_cons];split<;>omega
theorem zg7:∀(l:List Cm) (w:Int) (i:Nat),i<Bs l w→(l.getD i zC).1<w
 | [],_,i,h=>by simp [Bs] at h
 | c::l,w,i,h=>by
  simp only [Bs] at h;split at h
  ·rename_i hc
   cases i with
   | zero=>simpa using hc
   | succ i=>have:=zg7 l w i (by omega); simpa using this
  ·omega
theorem zg9:∀(l:List Cm) (w:Int),Bs l w<l.length→w≤(l.getD (Bs l w) zC).1
 | [],_,h=>by simp [Bs] at h
 | c::l,w,h=>by
  simp only [Bs] at h ⊢;split
  ·rename_i hc
   rw [if_pos hc] at h;have:=zg9 l w (by simpa using h);simpa using this
  ·rename_i hc; simp; omega
theorem zg8 {l:List Cm} (h:zdq l) (w:Int) {i:Nat} (h1:Bs l w≤i) (h2:i<l.length):w≤(l.getD i zC).1:=by
 have:=zg9 l w (by omega)
 by_cases e:i=Bs l w
 ·rw [e]; exact this
 ·have:=h.ord (Bs l w) i (by omega) h2
  omega
def Fo (l:List Cm) (w:Int):Bool:=decide (Bs l w<l.length)&&decide ((l.getD (Bs l w) zC).1=w)
theorem zd7 (R:Type) (a b:Int) (k:Int→Option R):F202 R a b k=k (if a<b then -1 else if a>b then 1 else 0):=by
 simp only [F202,p202,F227,p227,bne_self_eq_false]
 by_cases h:a<b
 ·simp only [decide_eq_true h,if_pos h]
 ·simp only [decide_eq_false h,if_neg h]
  by_cases h2:a>b
  ·simp only [decide_eq_true h2,if_pos h2]
  ·simp only [decide_eq_false h2,if_neg h2]
theorem zsl {i j:Nat} (hi:i≤1000) (hj:j≤1000):IntKind.i64.wrap (ishr .u64 (IntKind.u64.wrap (IntKind.i64.wrap ((i:Int)+(j:Int)))) 1)=(((i+j)/2:Nat):Int):=by
 rw [wrap_i64 (n:=(i:Int)+(j:Int)) (by omega) (by omega),Aj (by omega) (by omega)];have:=zxe (x:=(i:Int)+(j:Int)) 1 (by omega);rw [show ishr .u64 ((i:Int)+(j:Int)) 1=((i:Int)+(j:Int))/2^1 from this,wrap_i64 (by omega) (by omega)];omega
theorem Mv (R:Type) {l:List Cm} (h:zdq l) (hn:l.length≤1000) (w:Int) (k0:List Cm→Int→Int→Int→Option R):∀(m i j:Nat),i≤Bs l w→Bs l w≤j→j≤l.length→j - i<m→
  Bd m R l w (l.length:Int) (i:Int) (j:Int) k0=k0 l w (l.length:Int) (Bs l w:Int)
 | 0,i,j,_,_,_,h=>by omega
 | m+1,i,j,h1,h2,h3,h4=>by
  simp only [Bd,Ki]
  by_cases hij:i<j
  ·have e1:=zsl (i:=i) (j:=j) (by omega) (by omega)
   have hq:(i+j)/2<l.length:=by omega
   simp only [Du hij,e1,A7 hq,Int.toNat_natCast,F201,p201];rw [zd7]
   by_cases hp:(i+j)/2<Bs l w
   ·have hlt:=zg7 l w _ hp
    simp only [if_pos hlt,show decide ((-1:Int)<0)=true from rfl];rw [B5 (n:=l.length) hq hn];exact Mv R h hn w k0 m ((i+j)/2+1) j (by omega) h2 h3 (by omega)
   ·have hge:=zg8 h w (i:=(i+j)/2) (by omega) hq
    have hd:∀z:Int,0≤z→decide (z<0)=false:=fun z hz=>decide_eq_false (by omega)
    rw [hd _ (by rw [if_neg (Int.not_lt.2 hge)]; split<;>omega)];exact Mv R h hn w k0 m i ((i+j)/2) h1 (by omega) (by omega) (by omega)
  ·have e1:decide ((i:Int)<(j:Int))=false:=decide_eq_false (by omega)
   simp only [e1];rw [show i=Bs l w by omega]
theorem zn5 (R:Type) {l:List Cm} (h:zdq l) (hn:l.length≤1000) (w:Int) (k:Int→Bool→Option R):F162 R l w k=k (Bs l w:Int) (Fo l w):=by
 simp only [F162,p162,D8,X7];refine (Mv R h hn w _ FUEL 0 l.length (by omega) (Oq l w) (Nat.le_refl _) (by rw [Am]; omega)).trans ?_;have hp:=Oq l w;unfold Fo
 by_cases hlt:Bs l w<l.length
 ·simp only [Du hlt,A7 hlt,Int.toNat_natCast,F201,p201,decide_eq_true hlt,Bool.true_and]
  rw [zd7];have hge:=zg8 h w (Nat.le_refl _) hlt
  by_cases e:(l.getD (Bs l w) zC).1=w
  ·rw [if_neg (Int.not_lt.2 hge),if_neg (show ¬(l.getD (Bs l w) zC).1>w by omega),decide_eq_true e]; rfl
  ·rw [if_neg (Int.not_lt.2 hge),if_pos (show (l.getD (Bs l w) zC).1>w by omega),decide_eq_false e]; rfl
 ·have e1:decide ((Bs l w:Int)<(l.length:Int))=false:=decide_eq_false (by omega)
  simp only [e1,decide_eq_false hlt,Bool.false_and]
end Go.PG
namespace Go.PG
theorem zn4 (R:Type) {l:List Cm} (hn:l.length≤1000) (k:List Cm→Option R):F164 R l k=k l:=by
 have:decide (List.length ([]:List Cm)+l.length≤1759218604441)=true:=decide_eq_true (by simp; omega);simp only [F164,this]
def newC (w:Int) (h:List Int):Cm:=(w,h,false,Ce,())
def putL (l:List Cm) (w:Int) (h:List Int):List Cm:=l.take (Bs l w)++[newC w h]++l.drop (Bs l w)
def Ke (l:List Cm) (w:Int) (h:List Int):List Cm×Int:=
 if w<0∨E1 l=false then ([],1) else if Fo l w then ([],6) else (putL l w h,0)
theorem F116_eq (R:Type) {l:List Cm} (h:CsOK l) (hn:l.length≤500) (w:Int) (x:List Int) (k:List Cm→Int→Option R):F116 R l w x k=k (Ke l w x).1 (Ke l w x).2:=by
 simp only [F116,p116,Ke]
 by_cases hw:w<0
 ·simp only [decide_eq_true hw,if_pos (Or.inl hw)]
 ·simp only [decide_eq_false hw]
  rw [zb0 R h (by omega)];cases hr:E1 l with
  | false=>simp only [Bool.not_false,or_true,if_true]
  | true=>
   have hn1:¬(w<0∨true=false):=by simp; omega
   simp only [Bool.not_true,if_neg hn1];rw [zn5 R (Qs.1 hr) (by omega)];cases ht:Fo l w with
   | true=>simp only [if_true]
   | false=>
    have hp:=Oq l w;have hc:decide ((0:Int)≤(Bs l w:Int)∧(Bs l w:Int)≤(l.length:Int)∧l.length+1≤1759218604441)=true:=decide_eq_true ⟨by omega,by omega,by omega⟩;simp only [Bool.false_eq_true,if_false];rw [zn4 R (by omega)];simp only [List.length_cons,List.length_nil,Nat.zero_add,hc,Int.toNat_natCast];rfl
def setL (l:List Cm) (i:Nat) (v:List Int):List Cm:=l.set i ((l.getD i zC).1,(l.getD i zC).2.1,true,v,())
def revS (l:List Cm) (w:Int) (v:List Int):List Cm×Int:=
 if E1 l=false then ([],1) else if Fo l w=false then ([],5) else if (l.getD (Bs l w) zC).2.2.1 then ([],6)
 else if SHA v=(l.getD (Bs l w) zC).2.1 then (setL l (Bs l w) v,0) else ([],13)
theorem zp3 {l:List Cm} {i:Nat} (hi:i<l.length) (v:List Int):
  List.set (List.set l i ((List.getD l i zC).1,(List.getD l i zC).2.1,true,(List.getD l i zC).2.2.2)) i
   ((List.getD (List.set l i ((List.getD l i zC).1,(List.getD l i zC).2.1,true,(List.getD l i zC).2.2.2)) i zC).1,(List.getD (List.set l i ((List.getD l i zC).1,(List.getD l i zC).2.1,true,(List.getD l i zC).2.2.2)) i zC).2.1,(List.getD (List.set l i ((List.getD l i zC).1,(List.getD l i zC).2.1,true,(List.getD l i zC).2.2.2)) i zC).2.2.1,v,(List.getD (List.set l i ((List.getD l i zC).1,(List.getD l i zC).2.1,true,(List.getD l i zC).2.2.2)) i zC).2.2.2.2)=setL l i v:=by
 have e:List.getD (List.set l i ((List.getD l i zC).1,(List.getD l i zC).2.1,true,(List.getD l i zC).2.2.2)) i zC=((List.getD l i zC).1,(List.getD l i zC).2.1,true,(List.getD l i zC).2.2.2):=by
  rw [List.getD_eq_getElem?_getD,List.getElem?_set_self hi]; rfl
 rw [e,List.set_set];rfl
theorem F118_eq (R:Type) {l:List Cm} (h:CsOK l) (hn:l.length≤500) (w:Int) {v:List Int} (hv:H32 v) (k:List Cm→Int→Option R):F118 R l w v k=k (revS l w v).1 (revS l w v).2:=by
 simp only [F118,p118,revS];rw [zb0 R h (by omega)];cases hr:E1 l with
 | false=>simp only [Bool.not_false,if_pos]
 | true=>
  simp only [Bool.not_true,Bool.true_eq_false,if_false];rw [zn5 R (Qs.1 hr) (by omega)];cases ht:Fo l w with
  | false=>simp only [Bool.not_false,if_pos]
  | true=>
   have hp:Bs l w<l.length:=by
    unfold Fo at ht;rw [Bool.and_eq_true] at ht;exact of_decide_eq_true ht.1
   simp only [Bool.not_true,Bool.true_eq_false,if_false,A7 hp,Int.toNat_natCast];cases hd:(l.getD (Bs l w) zC).2.2.1 with
   | true=>simp only [if_pos]
   | false=>
    simp only [Bool.false_eq_true,if_false];rw [zn2 R hv,Ep (zgj v) (h.get _).hash.1]
    by_cases hs:SHA v=(l.getD (Bs l w) zC).2.1
    ·simp only [decide_eq_true hs,Bool.not_true,if_pos hs]
     rw [zn4 R (by omega)];have hq:Bs l w<(List.set l (Bs l w) ((List.getD l (Bs l w) zC).1,(List.getD l (Bs l w) zC).2.1,true,(List.getD l (Bs l w) zC).2.2.2)).length:=by rw [List.length_set]; exact hp
     simp only [A7 hp,A7 hq,zp3 hp]
    ·simp only [decide_eq_false hs,Bool.not_false,if_neg hs]
end Go.PG
end
