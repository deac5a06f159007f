/- A part of the proof over this seat (own work; the framework that reads a Go function as a pure one, or a use of it). No condition of its own. -/
import Derived.Test.YtldfbfilibnpmaaGreatWv5
import Derived.Test.YtldfbfilibnpmaaGreatProg
import Derived.KernelRfl
set_option linter.unusedVariables false
set_option linter.unusedSimpArgs false
set_option linter.unusedSectionVars false
noncomputable section
set_option maxRecDepth 100000
namespace Go.PG
open Go.Proofs
abbrev zny:=(R:Type)→(List Tq9)→Int→LI→((List Tq9)→Int→Option R)→Option R
def en118 (F:zny):Ent:=eV 118 [(.sl Kq9),(.int .i64),(.arr 32 (.int .u8))] [(.sl Kq9),(.int .i64)] F
def p118 (F161:Q4) (F162:X3) (F164:zcb) (F166:zb9):zny:=fun R a0 a1 a2 k=>
F161 R a0 fun y1=>
(match (!y1) with
|true=>k ([]:(List Tq9)) (1:Int)
|false=>F162 R a0 a1 fun y2 y3=>
(match (!y3) with
|true=>k ([]:(List Tq9)) (5:Int)
|false=>(match bnd y2 a0.length with
|true=>let v4:=(a0.getD y2.toNat (0,(List.replicate 32 0),false,(List.replicate 32 0),())).2.2.1;(match v4 with
|true=>k ([]:(List Tq9)) (6:Int)
|false=>F166 R a2 fun y5=>
(match bnd y2 a0.length with
|true=>let v6:=(a0.getD y2.toNat (0,(List.replicate 32 0),false,(List.replicate 32 0),())).2.1;let v7:= !(Kd.eqv (.arr 32 (.int .u8)) y5 v6);(match v7 with
|true=>k ([]:(List Tq9)) (13:Int)
|false=>F164 R a0 fun y8=>
(match bnd y2 y8.length with
|true=>let v9:=y8.set y2.toNat ((y8.getD y2.toNat (0,(List.replicate 32 0),false,(List.replicate 32 0),())).1,(y8.getD y2.toNat (0,(List.replicate 32 0),false,(List.replicate 32 0),())).2.1,true,(y8.getD y2.toNat (0,(List.replicate 32 0),false,(List.replicate 32 0),())).2.2.2);(match bnd y2 v9.length with
|true=>let v10:=v9.set y2.toNat ((v9.getD y2.toNat (0,(List.replicate 32 0),false,(List.replicate 32 0),())).1,(v9.getD y2.toNat (0,(List.replicate 32 0),false,(List.replicate 32 0),())).2.1,(v9.getD y2.toNat (0,(List.replicate 32 0),false,(List.replicate 32 0),())).2.2.1,a2,(v9.getD y2.toNat (0,(List.replicate 32 0),false,(List.replicate 32 0),())).2.2.2.2);k v10 (0:Int)
|false=>none)
|false=>none))
|false=>none))
|false=>none)))
theorem q118 (F161:Q4) (F162:X3) (F164:zcb) (F166:zb9):EQ (en118 (p118 F161 F162 F164 F166)) (sE 0 50 [] [zk6 F161,zt5 F162,en164 F164,zt3 F166] []) Tryz.f118 [(.tmp 6,32,false),(.tmp 7,38,false)]:=fun _ _ _=>by kernel_rfl
def F118:zny:=p118 F161 F162 F164 F166
theorem ok118:OKP (en118 F118):=ST.ok0 (q118 F161 F162 F164 F166) (Aa zzp (Aa ok162 (Aa ok164 (Aa ok166 Ab)))) Tryz.func118
abbrev FT75:=(R:Type)→Tq24→Int→Int→LI→(Tq24→Int→Option R)→Option R
def en75 (F:FT75):Ent:=eV 75 [Kq24,(.int .i64),(.int .i64),(.arr 32 (.int .u8))] [Kq24,(.int .i64)] F
def p75 (F115:zcl) (F117:zck) (F118:zny):FT75:=fun R a0 a1 a2 a3 k=>
F115 R a0 a1 (2:Int) fun y1=>
let v2:=y1 !=0;(match v2 with
|true=>k ((0:Int),(List.replicate 32 (0:Int)),(List.replicate 32 (0:Int)),([]:(List Tq9)),()) y1
|false=>F118 R a0.2.2.2.1 a2 a3 fun y3 y4=>
F117 R a0 y3 y4 fun y5 y6=>
k y5 y6)
theorem q75 (F115:zcl) (F117:zck) (F118:zny):EQ (en75 (p75 F115 F117 F118)) (sE 0 34 [] [zug F115,zuf F117,en118 F118] []) Tryz.f75 [(.cell 8 34,34,false),(.tmp 9,38,false)]:=fun _ _ _=>by kernel_rfl
def F75:FT75:=p75 F115 F117 F118
theorem ok75:OKP (en75 F75):=ST.ok0 (q75 F115 F117 F118) (Aa ok115 (Aa ok117 (Aa ok118 Ab))) Tryz.func75
abbrev Kf:Type 1:=(R:Type)→Tq31→Tq6→(Int→Tq31→Option R)→Option R
def Ia (F:Kf):EntF:=⟨72,75,[(true,Kq31),(false,Kq6)],[(false,(.int .i64))],fun R x k=>F R x.1 x.2.1 (fun y1 p1=>k (y1,()) (p1,()))⟩
def zdf:List (ResultVar×TypeId×Bool):=[(.tmp 6,38,false)]
def zlb (F75:FT75) (F113:Qv) (F114:Uf) (R:Type):Env R:=⟨TT,EQT,1,45,Bm [],Bd [en75 F75,zla F113,zuh F114] R,Bl [] R,[],Bc [],[],fun _ _ _ _=>none⟩
def zh2 (F75:FT75) (F113:Qv) (F114:Uf):Kf:=fun R a0 a1 k=>
F113 R a0 a1.2.1 fun y1 p2=>
let v3:=y1 !=0;(match v3 with
|true=>k y1 p2
|false=>F114 R p2.1.1 p2.1.2.1 fun y4=>
F75 R p2.1.2.2.2.1 y4 a1.2.1 a1.2.2.2.1 fun y5 y6=>
k y6 ((p2.1.1,p2.1.2.1,p2.1.2.2.1,y5,p2.1.2.2.2.2),p2.2))
theorem q73075 (F75:FT75) (F113:Qv) (F114:Uf) (F:Kf) (R:Type) (x:AT (Ia F).ins) (k:RT (Ia F).outs→PT (Ia F).ins→Option R):
 xfun (zlb F75 F113 F114 R) (Ag Tryz.f72) zdf (avs (Ia F).ins x++[AV.fn 75]) (finK (Ia F).outs (Ia F).ins k)=zh2 F75 F113 F114 R x.1 x.2.1 (fun y1 p1=>k (y1,()) (p1,())):=by kernel_rfl
def G2:Kf:=zh2 F75 F113 F114
theorem zti (R:Type):Az Tryz.prog (zlb F75 F113 F114 R):=⟨tabOK,eqOK,Aq (Aa ok75 (Aa zzv (Aa ok114 Ab))),Bw,Ak,noYl⟩
theorem zzd:(Ia G2).OK Tryz.prog:=
 Jy (Ef:=fun R=>zlb F75 F113 F114 R) (fun R=>zti R) mixed Tryz.func72 (body:=Ag Tryz.f72) (by kernel_rfl) (by kernel_rfl) (np:=1) (nt:=45) (fun _=>rfl) (fun _=>rfl) (by kernel_rfl) (res:=zdf) (by kernel_rfl) (fun _=>rfl) (fun _=>Nat.le_of_ble_eq_true rfl) (by
  intro R;rw [show Am (Ag Tryz.f72)=[] from by kernel_rfl];exact Bx) (fun R x k=>q73075 F75 F113 F114 G2 R x k)
abbrev FT74:=(R:Type)→Tq31→Tq6→(Int→Tq31→Option R)→Option R
def en74 (F:FT74):Ent:=eM 74 [(true,Kq31),(false,Kq6)] [(false,(.int .i64))] F
def e74 (G2:Kf) (R:Type):Env R:=⟨TT,EQT,1,8,Bm [],E6 [Ia G2] [] R,Bl [] R,[],Bc [],[],fun _ _ _ _=>none⟩
def p74 (G2:Kf):FT74:=fun R a0 a1 k=>
G2 R a0 a1 fun y1 p2=>
k y1 p2
theorem q74 (G2:Kf):EQ (en74 (p74 G2)) (e74 G2) Tryz.f74 [(.tmp 4,38,false)]:=fun _ _ _=>by kernel_rfl
def F74:FT74:=p74 G2
theorem env74 (R:Type):Az Tryz.prog (e74 G2 R):=⟨tabOK,eqOK,C0 (F4 zzd Fc) Ab,Bw,Ak,noYl⟩
theorem ok74:OKP (en74 F74):=ST.ok3 (q74 G2) env74 Tryz.func74 (fun _=>rfl) (fun _=>rfl) (fun _=>rfl) [] trivial
abbrev znx:=(R:Type)→Tq21→Int→(Int→Bool→Option R)→Option R
def en119 (F:znx):Ent:=eV 119 [Kq21,(.int .i64)] [(.int .i64),.bool] F
def p119 (F159:zcd):znx:=fun R a0 a1 k=>
F159 R a0 a1 fun y1=>
(match (!y1) with
|true=>k (0:Int) false
|false=>let v2:=IntKind.i64.wrap (a1+1);(match (!(a0.1==0)) with
|true=>let v3:=Int.tmod v2 a0.1;let v4:=v3==0;k v3 v4
|false=>none))
theorem q119 (F159:zcd):EQ (en119 (p119 F159)) (sE 0 19 [] [zt7 F159] []) Tryz.f119 [(.tmp 4,3,false),(.tmp 5,4,false)]:=fun _ _ _=>by kernel_rfl
def F119:znx:=p119 F159
theorem ok119:OKP (en119 F119):=ST.ok0 (q119 F159) (Aa ok159 Ab) Tryz.func119
abbrev FT55:=(R:Type)→LI→Int→LI→(LI→Option R)→Option R
def en55 (F:FT55):Ent:=eV 55 [(.arr 32 (.int .u8)),(.int .u64),(.arr 32 (.int .u8))] [(.arr 32 (.int .u8))] F
def p55 (F92:FT92) (F93:FT93):FT55:=fun R a0 a1 a2 k=>
F92 R a1 fun y1=>
let v2:=([(List.take 32 (List.drop 0 a0)),(List.take 8 (List.drop 0 y1)),(List.take 32 (List.drop 0 a2))]:(List LI));F93 R v2 fun y3=>
k y3
theorem q55 (F92:FT92) (F93:FT93):EQ (en55 (p55 F92 F93)) (sE 0 15 [] [en92 F92,en93 F93] []) Tryz.f55 [(.cell 6 24,24,false)]:=fun _ _ _=>by kernel_rfl
def F55:FT55:=p55 F92 F93
theorem ok55:OKP (en55 F55):=ST.ok0 (q55 F92 F93) (Aa ok92 (Aa ok93 Ab)) Tryz.func55
abbrev znh:=(R:Type)→(List Tq9)→(LI→Option R)→Option R
def en205 (F:znh):Ent:=eV 205 [(.sl Kq9)] [(.sl (.int .i64))] F
abbrev zpp (Z:Type):=(List Tq9)→Int→Int→LI→Z
abbrev zw8 (R:Type):=(LI→Option R)→Option R
abbrev Mt:=(R:Type)→zpp (zw8 R)
def Zq (L:Mt):LEnt:=lM 2 [.fix 2 (.own 0 0),.val 5 (.sl Kq9),.val 6 (.int .i64),.val 7 (.int .i64),.row 0 (.int .i64) false] 1 [(.exit 0,[.fix 2 (.own 0 0),.row 0 (.int .i64) false])] L
def e205 (L2:Mt):=sE 0 21 [(0,0)] [] [Zq L2]
def zie (R:Type):zpp (zpp (Option R)→zw8 R):=fun x1 x2 x3 x4 kc k0=>
let v5:=decide (x3<x2);(match v5 with
|true=>(match bnd x3 x1.length with
|true=>let v6:=x1.getD x3.toNat (0,(List.replicate 32 0),false,(List.replicate 32 0),());let v7:= !v6.2.2.1;(match v7 with
|true=>let v8:=([v6.1]:LI);(match (decide (x4.length+v8.length≤17592186044416)) with
|true=>let v9:=x4++v8;let v10:=IntKind.i64.wrap (x3+1);kc x1 x2 v10 v9
|false=>none)
|false=>let v11:=IntKind.i64.wrap (x3+1);kc x1 x2 v11 x4)
|false=>none)
|false=>k0 x4)
theorem q205_2 (L2:Mt):LEQ (Zq L2) (e205 L2) Tryz.f205 zie:=fun _ _ _ _=>by kernel_rfl
def Qi:Nat→Mt
 | 0=>fun _ _ _ _ _ _=>none
 | n+1=>fun R x1 x2 x3 x4 k0=>zie R x1 x2 x3 x4 (fun x1 x2 x3 x4=>Qi n R x1 x2 x3 x4 k0) k0
def p205 (L2:Mt):znh:=fun R a0 k=>
let v1:=(a0.length:Int);L2 R a0 v1 (0:Int) ([]:LI) (fun x2=>
k x2)
theorem q205 (L2:Mt):EQ (en205 (p205 L2)) (e205 L2) Tryz.f205 [(.tmp 2,35,false)]:=fun _ _ _=>by kernel_rfl
def F205:znh:=p205 (Qi FUEL)
theorem zr9:LKP (Zq (Qi FUEL)) 0 21 2 Tryz.f205:=ST.lok (q205_2 (Qi FUEL)) Ab [] trivial
theorem ok205:OKP (en205 F205):=ST.ok1 (q205 (Qi FUEL)) Ab Tryz.func205 [2] ⟨⟨_,rfl,zr9⟩,trivial⟩
abbrev znq:=(R:Type)→Tq24→(Tq24→Tq37→LI→Int→Option R)→Option R
def en167 (F:znq):Ent:=eV 167 [Kq24] [Kq24,Kq37,(.sl (.int .i64)),(.int .i64)] F
def p167 (F55:FT55) (F160:zcc) (F205:znh):znq:=fun R a0 k=>
F160 R a0 fun y1=>
(match (!y1) with
|true=>k ((0:Int),(List.replicate 32 (0:Int)),(List.replicate 32 (0:Int)),([]:(List Tq9)),()) ((0:Int),(List.replicate 32 (0:Int)),(List.replicate 32 (0:Int)),(List.replicate 32 (0:Int)),()) ([]:LI) (1:Int)
|false=>let v2:=a0.1==18446744073709551615;(match v2 with
|true=>k ((0:Int),(List.replicate 32 (0:Int)),(List.replicate 32 (0:Int)),([]:(List Tq9)),()) ((0:Int),(List.replicate 32 (0:Int)),(List.replicate 32 (0:Int)),(List.replicate 32 (0:Int)),()) ([]:LI) (3:Int)
|false=>F55 R a0.2.1 a0.1 a0.2.2.1 fun y3=>
let v4:=IntKind.u64.wrap (a0.1+1);F205 R a0.2.2.2.1 fun y5=>
k (v4,y3,(List.replicate 32 (0:Int)),([]:(List Tq9)),()) (a0.1,a0.2.1,a0.2.2.1,y3,()) y5 (0:Int)))
theorem q167 (F55:FT55) (F160:zcc) (F205:znh):EQ (en167 (p167 F55 F160 F205)) (sE 0 43 [] [en55 F55,zt6 F160,en205 F205] []) Tryz.f167 [(.cell 2 34,34,false),(.cell 3 75,75,false),(.tmp 4,35,false),(.tmp 5,38,false)]:=fun _ _ _=>by kernel_rfl
def F167:znq:=p167 F55 F160 F205
theorem ok167:OKP (en167 F167):=ST.ok0 (q167 F55 F160 F205) (Aa ok55 (Aa ok160 (Aa ok205 Ab))) Tryz.func167
abbrev znp:=(R:Type)→(List Tq11)→((List Tq11)→Option R)→Option R
def en168 (F:znp):Ent:=eV 168 [(.sl Kq11)] [(.sl Kq11)] F
abbrev zpz (Z:Type):=Int→Int→(List Tq11)→Z
abbrev zxi (R:Type):=((List Tq11)→Option R)→Option R
abbrev Mz:=(R:Type)→zpz (zxi R)
def Z0 (L:Mz):LEnt:=lM 3 [.fix 3 (.own 0 0),.val 8 (.int .i64),.val 9 (.int .i64),.row 0 Kq11 false] 1 [(.exit 0,[.fix 3 (.own 0 0),.row 0 Kq11 false])] L
def e168 (F198:Xz) (L3:Mz):=sE 0 23 [] [en198 F198] [Z0 L3]
def zin (R:Type):zpz (zpz (Option R)→zxi R):=fun x1 x2 x3 kc k0=>
let v4:=decide (x2<x1);(match v4 with
|true=>(match bnd x2 x3.length with
|true=>let v5:=(x3.getD x2.toNat ((List.replicate 32 0),0,0,())).2.2.1;(match bnd x2 x3.length with
|true=>let v6:=x3.set x2.toNat ((x3.getD x2.toNat ((List.replicate 32 0),0,0,())).1,v5,(x3.getD x2.toNat ((List.replicate 32 0),0,0,())).2.2);let v7:=IntKind.i64.wrap (x2+1);kc x1 v7 v6
|false=>none)
|false=>none)
|false=>k0 x3)
theorem q168_3 (F198:Xz) (L3:Mz):LEQ (Z0 L3) (e168 F198 L3) Tryz.f168 zin:=fun _ _ _ _=>by kernel_rfl
def Qn:Nat→Mz
 | 0=>fun _ _ _ _ _=>none
 | n+1=>fun R x1 x2 x3 k0=>zin R x1 x2 x3 (fun x1 x2 x3=>Qn n R x1 x2 x3 k0) k0
def p168 (F198:Xz) (L3:Mz):znp:=fun R a0 k=>
F198 R a0 fun y1=>
let v2:=(y1.length:Int);L3 R v2 (0:Int) y1 (fun x3=>
k x3)
theorem q168 (F198:Xz) (L3:Mz):EQ (en168 (p168 F198 L3)) (e168 F198 L3) Tryz.f168 [(.tmp 2,30,false)]:=fun _ _ _=>by kernel_rfl
def F168:znp:=p168 F198 (Qn FUEL)
theorem zsj:LKP (Z0 (Qn FUEL)) 0 23 3 Tryz.f168:=ST.lok (q168_3 F198 (Qn FUEL)) (Aa zzl Ab) [] trivial
theorem ok168:OKP (en168 F168):=ST.ok1 (q168 F198 (Qn FUEL)) (Aa zzl Ab) Tryz.func168 [3] ⟨⟨_,rfl,zsj⟩,trivial⟩
abbrev zu2:Type 1:=(R:Type)→LI→(LI→Option R)→Option R
def en169 (F:zu2):Ent:=⟨169,[(false,(.sl (.int .i64)))],[(true,(.int .i64))],fun R x k=>F R x.1 (fun y1=>k (y1,()) ())⟩
def e169:Env (RT [(true,(.int .i64))]):=⟨TT,EQT,0,8,Bm [(2,0),(3,0)],fun _ _ _=>none,fun _ _ _=>none,[],Bc [],[],fun _ _ _ _=>none⟩
def F169:zu2:=fun R a0 k=>match decide (List.length ([]:LI)+a0.length≤17592186044416) with | true=>k a0 | false=>none
theorem ok169:(en169 F169).OK Tryz.prog:=
 I6 (e:=(.int .i64)) e169 ⟨tabOK,eqOK,(fun f b K r h=>by cases h),Bw,Ak,noYl⟩ mixed Tryz.func169 (body:=Ag Tryz.f169) (by kernel_rfl) (by kernel_rfl) (by kernel_rfl) (res:=[(.tmp 2,35,true)]) (by kernel_rfl) rfl (by decide) (by kernel_rfl) (lim:=17592186044416) (by kernel_rfl) (fun l=>by kernel_rfl)
abbrev FT62:=(R:Type)→Tq3→Int→(Bool→Option R)→Option R
def en62 (F:FT62):Ent:=eV 62 [Kq3,(.int .i64)] [.bool] F
def p62:FT62:=fun R a0 a1 k=>
let v1:=decide (a1≥0);(match v1 with
|true=>let v2:=decide (a1<1024);(match v2 with
|true=>let v3:=decide (a0.2.1>0);(match v3 with
|true=>let v4:=decide (a0.2.1≤64);k v4
|false=>k false)
|false=>k false)
|false=>k false)
theorem q62:EQ (en62 p62) (sE 0 21 [] [] []) Tryz.f62 [(.tmp 4,4,false)]:=fun _ _ _=>by kernel_rfl
def F62:FT62:=p62
theorem ok62:OKP (en62 F62):=ST.ok0 q62 Ab Tryz.func62
abbrev Lm:Type 1:=(R:Type)→LI→(LI→Option R)→Option R
def zud (F:Lm):Ent:=⟨137,[(false,(.sl (.int .u64)))],[(true,(.int .u64))],fun R x k=>F R x.1 (fun y1=>k (y1,()) ())⟩
def e137:Env (RT [(true,(.int .u64))]):=⟨TT,EQT,0,8,Bm [(2,0),(3,0)],fun _ _ _=>none,fun _ _ _=>none,[],Bc [],[],fun _ _ _ _=>none⟩
def F137:Lm:=fun R a0 k=>match decide (List.length ([]:LI)+a0.length≤17592186044416) with | true=>k a0 | false=>none
theorem zfo:(zud F137).OK Tryz.prog:=
 I6 (e:=(.int .u64)) e137 ⟨tabOK,eqOK,(fun f b K r h=>by cases h),Bw,Ak,noYl⟩ mixed Tryz.func137 (body:=Ag Tryz.f137) (by kernel_rfl) (by kernel_rfl) (by kernel_rfl) (res:=[(.tmp 2,54,true)]) (by kernel_rfl) rfl (by decide) (by kernel_rfl) (lim:=17592186044416) (by kernel_rfl) (fun l=>by kernel_rfl)
abbrev Hp:=(R:Type)→Int→(Int→Option R)→Option R
def zf8 (F:Hp):Ent:=eV 138 [(.int .i64)] [(.int .i64)] F
def p138:Hp:=fun R a0 k=>
let v1:=IntKind.i64.wrap (0 - a0);let v2:=iand .i64 a0 v1;k v2
theorem q138:EQ (zf8 p138) (sE 0 7 [] [] []) Tryz.f138 [(.tmp 2,3,false)]:=fun _ _ _=>by kernel_rfl
def F138:Hp:=p138
theorem Vt:OKP (zf8 F138):=ST.ok0 q138 Ab Tryz.func138
abbrev Ug:=(R:Type)→LI→((LI×Unit)→Int→Option R)→Option R
def zuj (F:Ug):Ent:=eV 100 [(.sl (.int .u64))] [(.pair (.sl (.int .u64)) .unit),(.int .i64)] F
abbrev zqd (Z:Type):=Int→(LI×Unit)→LI→Z
abbrev zxw (R:Type):=((LI×Unit)→LI→Option R)→Option R
abbrev Na:=(R:Type)→zqd (zxw R)
def zae (L:Na):LEnt:=lM 8 [.fix 2 (.ptr 0 [] (.pair (.sl (.int .u64)) .unit)),.fix 6 (.own 1 0),.val 7 (.int .i64),.var 0 (.pair (.sl (.int .u64)) .unit) false,.row 1 (.int .u64) false] 2 [(.exit 0,[.fix 2 (.ptr 0 [] (.pair (.sl (.int .u64)) .unit)),.fix 6 (.own 1 0),.var 0 (.pair (.sl (.int .u64)) .unit) false,.row 1 (.int .u64) false])] L
def e100 (F136:Kh) (F137:Lm) (F138:Hp) (L8:Na):=sE 0 51 [] [zf9 F136,zud F137,zf8 F138] [zae L8]
def ziy (F138:Hp) (R:Type):zqd (zqd (Option R)→zxw R):=fun x1 x2 x3 kc k0=>
let v4:=(x3.length:Int);let v5:=decide (x1≤v4);(match v5 with
|true=>F138 R x1 fun y6=>
let v7:=IntKind.i64.wrap (x1+y6);let v8:=(x3.length:Int);let v9:=decide (v7≤v8);(match v9 with
|true=>let v10:=IntKind.i64.wrap (v7 - 1);(match bnd v10 x3.length with
|true=>let v11:=x3.getD v10.toNat 0;let v12:=IntKind.i64.wrap (x1 - 1);(match bnd v12 x3.length with
|true=>let v13:=x3.getD v12.toNat 0;let v14:=IntKind.u64.wrap (v11+v13);(match bnd v10 x3.length with
|true=>let v15:=x3.set v10.toNat v14;let v16:=IntKind.i64.wrap (x1+1);kc v16 x2 v15
|false=>none)
|false=>none)
|false=>none)
|false=>let v17:=IntKind.i64.wrap (x1+1);kc v17 x2 x3)
|false=>k0 x2 x3)
theorem q100_8 (F136:Kh) (F137:Lm) (F138:Hp) (L8:Na):LEQ (zae L8) (e100 F136 F137 F138 L8) Tryz.f100 (ziy F138):=fun _ _ _ _=>by kernel_rfl
def Qt:Nat→Na
 | 0=>fun _ _ _ _ _=>none
 | n+1=>fun R x1 x2 x3 k0=>ziy F138 R x1 x2 x3 (fun x1 x2 x3=>Qt n R x1 x2 x3 k0) k0
def p100 (F136:Kh) (F137:Lm) (L8:Na):Ug:=fun R a0 k=>
let v1:=(a0.length:Int);let v2:=decide (v1>1048576);(match v2 with
|true=>k (([]:LI),()) (14:Int)
|false=>F136 R a0 fun y3 y4=>
(match (!y4) with
|true=>k (([]:LI),()) (11:Int)
|false=>F137 R a0 fun y5=>
L8 R (1:Int) (([]:LI),()) y5 (fun x6 x7=>
k (x7,()) (0:Int))))
theorem q100 (F136:Kh) (F137:Lm) (F138:Hp) (L8:Na):EQ (zuj (p100 F136 F137 L8)) (e100 F136 F137 F138 L8) Tryz.f100 [(.cell 2 122,122,false),(.tmp 3,38,false)]:=fun _ _ _=>by kernel_rfl
def F100:Ug:=p100 F136 F137 (Qt FUEL)
theorem zsy:LKP (zae (Qt FUEL)) 0 51 8 Tryz.f100:=ST.lok (q100_8 F136 F137 F138 (Qt FUEL)) (Aa zi4 (Aa zfo (Aa Vt Ab))) [] trivial
theorem zzw:OKP (zuj F100):=ST.ok1 (q100 F136 F137 F138 (Qt FUEL)) (Aa zi4 (Aa zfo (Aa Vt Ab))) Tryz.func100 [8] ⟨⟨_,rfl,zsy⟩,trivial⟩
abbrev zn7:=(R:Type)→Int→Int→(Int→Option R)→Option R
def en103 (F:zn7):Ent:=eV 103 [(.int .u32),(.int .u32)] [(.int .u64)] F
def p103:zn7:=fun R a0 a1 k=>
let v1:=IntKind.u64.wrap a0;let v2:=ishl .u64 v1 (32:Int);let v3:=IntKind.u64.wrap a1;let v4:=ior .u64 v2 v3;k v4
theorem q103:EQ (en103 p103) (sE 0 11 [] [] []) Tryz.f103 [(.tmp 4,31,false)]:=fun _ _ _=>by kernel_rfl
def F103:zn7:=p103
theorem ok103:OKP (en103 F103):=ST.ok0 q103 Ab Tryz.func103
abbrev zn8:=(R:Type)→LI→Int→(Tq40→Option R)→Option R
def en102 (F:zn8):Ent:=eV 102 [(.arr 32 (.int .u8)),(.int .u64)] [Kq40] F
def p102:zn8:=fun R a0 a1 k=>
k ((2:Int),([]:LI),(0:Int),a0,a1,(0:Int),())
theorem q102:EQ (en102 p102) (sE 0 8 [] [] []) Tryz.f102 [(.cell 4 126,126,false)]:=fun _ _ _=>by kernel_rfl
def F102:zn8:=p102
theorem ok102:OKP (en102 F102):=ST.ok0 q102 Ab Tryz.func102
abbrev FT64:=(R:Type)→Tq3→Int→Int→(Tq40→Option R)→Option R
def en64 (F:FT64):Ent:=eV 64 [Kq3,(.int .u32),(.int .i64)] [Kq40] F
def p64 (F102:zn8) (F103:zn7):FT64:=fun R a0 a1 a2 k=>
let v1:=IntKind.u32.wrap a2;F103 R a1 v1 fun y2=>
F102 R a0.1 y2 fun y3=>
k y3
theorem q64 (F102:zn8) (F103:zn7):EQ (en64 (p64 F102 F103)) (sE 0 14 [] [en102 F102,en103 F103] []) Tryz.f64 [(.cell 6 126,126,false)]:=fun _ _ _=>by kernel_rfl
def F64:FT64:=p64 F102 F103
theorem ok64:OKP (en64 F64):=ST.ok0 (q64 F102 F103) (Aa ok102 (Aa ok103 Ab)) Tryz.func64
abbrev Nd:=(R:Type)→(LI×Unit)→(Int→Option R)→Option R
def zk2 (F:Nd):Ent:=eV 222 [(.pair (.sl (.int .u64)) .unit)] [(.int .i64)] F
def p222:Nd:=fun R a0 k=>
let v1:=(a0.1.length:Int);k v1
theorem q222:EQ (zk2 p222) (sE 0 6 [] [] []) Tryz.f222 [(.tmp 2,3,false)]:=fun _ _ _=>by kernel_rfl
def F222:Nd:=p222
theorem zi1:OKP (zk2 F222):=ST.ok0 q222 Ab Tryz.func222
abbrev zbu:=(R:Type)→(LI×Unit)→Int→(Int→Option R)→Option R
def ztx (F:zbu):Ent:=eV 221 [(.pair (.sl (.int .u64)) .unit),(.int .i64)] [(.int .u64)] F
abbrev zpj (Z:Type):=Int→Int→(LI×Unit)→Z
abbrev zw2 (R:Type):=(Int→Option R)→Option R
abbrev Mq:=(R:Type)→zpj (zw2 R)
def Zk (L:Mq):LEnt:=lM 1 [.val 1 (.int .i64),.fix 2 (.ptr 0 [] (.pair (.sl (.int .u64)) .unit)),.val 4 (.int .u64),.var 0 (.pair (.sl (.int .u64)) .unit) false] 1 [(.exit 0,[.val 4 (.int .u64)])] L
def e221 (F138:Hp) (L1:Mq):=sE 0 20 [] [zf8 F138] [Zk L1]
def zh8 (F138:Hp) (R:Type):zpj (zpj (Option R)→zw2 R):=fun x1 x2 x3 kc k0=>
let v4:=decide (x1>0);(match v4 with
|true=>let v5:=IntKind.i64.wrap (x1 - 1);(match bnd v5 x3.1.length with
|true=>let v6:=x3.1.getD v5.toNat 0;let v7:=IntKind.u64.wrap (x2+v6);F138 R x1 fun y8=>
let v9:=IntKind.i64.wrap (x1 - y8);kc v9 v7 x3
|false=>none)
|false=>k0 x2)
theorem q221_1 (F138:Hp) (L1:Mq):LEQ (Zk L1) (e221 F138 L1) Tryz.f221 (zh8 F138):=fun _ _ _ _=>by kernel_rfl
def Qe:Nat→Mq
 | 0=>fun _ _ _ _ _=>none
 | n+1=>fun R x1 x2 x3 k0=>zh8 F138 R x1 x2 x3 (fun x1 x2 x3=>Qe n R x1 x2 x3 k0) k0
def p221 (L1:Mq):zbu:=fun R a0 a1 k=>
L1 R a1 (0:Int) a0 (fun x1=>
k x1)
theorem q221 (F138:Hp) (L1:Mq):EQ (ztx (p221 L1)) (e221 F138 L1) Tryz.f221 [(.tmp 4,31,false)]:=fun _ _ _=>by kernel_rfl
def F221:zbu:=p221 (Qe FUEL)
theorem zr3:LKP (Zk (Qe FUEL)) 0 20 1 Tryz.f221:=ST.lok (q221_1 F138 (Qe FUEL)) (Aa Vt Ab) [] trivial
theorem ok221:OKP (ztx F221):=ST.ok1 (q221 F138 (Qe FUEL)) (Aa Vt Ab) Tryz.func221 [1] ⟨⟨_,rfl,zr3⟩,trivial⟩
abbrev Lk:=(R:Type)→(LI×Unit)→(Int→Option R)→Option R
def zk5 (F:Lk):Ent:=eV 187 [(.pair (.sl (.int .u64)) .unit)] [(.int .u64)] F
def p187 (F221:zbu) (F222:Nd):Lk:=fun R a0 k=>
F222 R a0 fun y1=>
F221 R a0 y1 fun y2=>
k y2
theorem q187 (F221:zbu) (F222:Nd):EQ (zk5 (p187 F221 F222)) (sE 0 7 [] [ztx F221,zk2 F222] []) Tryz.f187 [(.tmp 2,31,false)]:=fun _ _ _=>by kernel_rfl
def F187:Lk:=p187 F221 F222
theorem zfn:OKP (zk5 F187):=ST.ok0 (q187 F221 F222) (Aa ok221 (Aa zi1 Ab)) Tryz.func187
abbrev zbv:=(R:Type)→Tq40→(Int→Bool→Option R)→Option R
def zty (F:zbv):Ent:=eV 220 [Kq40] [(.int .u64),.bool] F
def p220:zbv:=fun R a0 k=>
let v1:=a0.1==1;(match v1 with
|true=>let v2:=(a0.2.1.length:Int);let v3:=IntKind.u64.wrap v2;let v4:=IntKind.u64.wrap (v3*8);let v5:=decide (a0.2.2.1≤v4);k a0.2.2.1 v5
|false=>let v6:=a0.1==2;(match v6 with
|true=>k (4611686018427387904:Int) true
|false=>k (0:Int) false))
theorem q220:EQ (zty p220) (sE 0 20 [] [] []) Tryz.f220 [(.tmp 2,31,false),(.tmp 3,4,false)]:=fun _ _ _=>by kernel_rfl
def F220:zbv:=p220
theorem ok220:OKP (zty F220):=ST.ok0 q220 Ab Tryz.func220
abbrev Nf:=(R:Type)→Tq40→(Bool→Option R)→Option R
def zf7 (F:Nf):Ent:=eV 186 [Kq40] [.bool] F
def p186 (F220:zbv):Nf:=fun R a0 k=>
F220 R a0 fun y1 y2=>
(match y2 with
|true=>let v3:=decide (a0.2.2.2.2.2.1≤y1);k v3
|false=>k false)
theorem q186 (F220:zbv):EQ (zf7 (p186 F220)) (sE 0 17 [] [zty F220] []) Tryz.f186 [(.tmp 2,4,false)]:=fun _ _ _=>by kernel_rfl
def F186:Nf:=p186 F220
theorem zi2:OKP (zf7 F186):=ST.ok0 (q186 F220) (Aa ok220 Ab) Tryz.func186
abbrev zbt:=(R:Type)→Tq40→Int→Int→(Bool→Option R)→Option R
def en223 (F:zbt):Ent:=eV 223 [Kq40,(.int .u64),(.int .i64)] [.bool] F
def p223 (F186:Nf):zbt:=fun R a0 a1 a2 k=>
F186 R a0 fun y1=>
(match y1 with
|true=>let v2:=decide (a1>0);(match v2 with
|true=>let v3:=decide (a1<9223372036854775808);(match v3 with
|true=>let v4:=decide (a2>0);(match v4 with
|true=>let v5:=decide (a2≤64);k v5
|false=>k false)
|false=>k false)
|false=>k false)
|false=>k false)
theorem q223 (F186:Nf):EQ (en223 (p223 F186)) (sE 0 25 [] [zf7 F186] []) Tryz.f223 [(.tmp 6,4,false)]:=fun _ _ _=>by kernel_rfl
def F223:zbt:=p223 F186
theorem ok223:OKP (en223 F223):=ST.ok0 (q223 F186) (Aa zi2 Ab) Tryz.func223
abbrev zbr:=(R:Type)→Int→(Int→Option R)→Option R
def en225 (F:zbr):Ent:=eV 225 [(.int .u64)] [(.int .i64)] F
def p225 (F243:zm7):zbr:=fun R a0 k=>
let v1:=if (1:Int)>a0 then (1:Int) else a0;let v2:=IntKind.u64.wrap (v1 - 1);F243 R v2 fun y3=>
k y3
theorem q225 (F243:zm7):EQ (en225 (p225 F243)) (sE 0 7 [] [en243 F243] []) Tryz.f225 [(.tmp 2,3,false)]:=fun _ _ _=>by kernel_rfl
def F225:zbr:=p225 F243
theorem ok225:OKP (en225 F225):=ST.ok0 (q225 F243) (Aa ok243 Ab) Tryz.func225
abbrev zbp:=(R:Type)→Tq40→(Int→Option R)→Option R
def en241 (F:zbp):Ent:=eV 241 [Kq40] [(.int .u64)] F
def p241 (F186:Nf) (F220:zbv):zbp:=fun R a0 k=>
F186 R a0 fun y1=>
(match (!y1) with
|true=>k (0:Int)
|false=>F220 R a0 fun y2 y3=>
let v4:=IntKind.u64.wrap (y2 - a0.2.2.2.2.2.1);k v4)
theorem q241 (F186:Nf) (F220:zbv):EQ (en241 (p241 F186 F220)) (sE 0 17 [] [zf7 F186,zty F220] []) Tryz.f241 [(.tmp 2,31,false)]:=fun _ _ _=>by kernel_rfl
def F241:zbp:=p241 F186 F220
theorem ok241:OKP (en241 F241):=ST.ok0 (q241 F186 F220) (Aa zi2 (Aa ok220 Ab)) Tryz.func241
abbrev zm2:=(R:Type)→LI→Int→Int→(LI→Option R)→Option R
def en259 (F:zm2):Ent:=eV 259 [(.arr 32 (.int .u8)),(.int .u64),(.int .u64)] [(.arr 32 (.int .u8))] F
def p259 (F92:FT92) (F93:FT93):zm2:=fun R a0 a1 a2 k=>
F92 R a1 fun y1=>
F92 R a2 fun y2=>
let v3:=([(List.take 32 (List.drop 0 a0)),(List.take 8 (List.drop 0 y1)),(List.take 8 (List.drop 0 y2))]:(List LI));F93 R v3 fun y4=>
k y4
theorem q259 (F92:FT92) (F93:FT93):EQ (en259 (p259 F92 F93)) (sE 0 18 [] [en92 F92,en93 F93] []) Tryz.f259 [(.cell 6 24,24,false)]:=fun _ _ _=>by kernel_rfl
def F259:zm2:=p259 F92 F93
theorem ok259:OKP (en259 F259):=ST.ok0 (q259 F92 F93) (Aa ok92 (Aa ok93 Ab)) Tryz.func259
abbrev FT254:=(R:Type)→Tq43→Int→(Int→Tq43→Option R)→Option R
def en254 (F:FT254):Ent:=eM 254 [(true,Kq43),(false,(.int .u64))] [(false,(.int .u8))] F
def p254 (F259:zm2):FT254:=fun R a0 a1 k=>
let v1:=a0.1.1==1;(match v1 with
|true=>(match bnd a1 a0.1.2.1.length with
|true=>let v2:=a0.1.2.1.getD a1.toNat 0;k v2 a0
|false=>none)
|false=>let v3:=IntKind.u64.wrap (Int.tdiv a1 (32:Int));let v4:= !a0.2.2.2.1;(match v4 with
|true=>F259 R a0.1.2.2.2.1 a0.1.2.2.2.2.1 v3 fun y5=>
let v6:=Int.tmod a1 (32:Int);(match (bnd v6 (32:Int)) with
|true=>let v7:=y5.getD v6.toNat 0;k v7 (a0.1,y5,v3,true,a0.2.2.2.2)
|false=>none)
|false=>let v8:=v3 !=a0.2.2.1;(match v8 with
|true=>F259 R a0.1.2.2.2.1 a0.1.2.2.2.2.1 v3 fun y9=>
let v10:=Int.tmod a1 (32:Int);(match (bnd v10 (32:Int)) with
|true=>let v11:=y9.getD v10.toNat 0;k v11 (a0.1,y9,v3,true,a0.2.2.2.2)
|false=>none)
|false=>let v12:=Int.tmod a1 (32:Int);(match (bnd v12 (32:Int)) with
|true=>let v13:=a0.2.1.getD v12.toNat 0;k v13 a0
|false=>none))))
theorem q254 (F259:zm2):EQ (en254 (p254 F259)) (sE 1 67 [] [en259 F259] []) Tryz.f254 [(.tmp 4,5,false)]:=fun _ _ _=>by kernel_rfl
def F254:FT254:=p254 F259
theorem ok254:OKP (en254 F254):=ST.ok0 (q254 F259) (Aa ok259 Ab) Tryz.func254
abbrev zgv:Type 1:=(R:Type)→Tq43→(Int→Tq43→Option R)→Option R
abbrev KS242:Kd:=Kq40
abbrev W9:Kd:=Kq42
abbrev K242:Kd:=.pair KS242 W9
def en242 (F:zgv):Ent:=⟨242,[(true,K242)],[(false,(.int .u64))],fun R x k=>F R x.1 (fun y1 p1=>k (y1,()) (p1,()))⟩
def zvc:List (ResultVar×TypeId×Bool):=[(.tmp 2,31,false)]
def u242:(R:Type)→K242.T→Int→W9.T→(Int→K242.T→Option R)→Option R:=fun R a0 y2 q k=>
let v6:=ishr .u8 y2 (IntKind.u64.wrap ((7:Int) - (Int.tmod a0.1.2.2.2.2.2.1 (8:Int))));let v7:=IntKind.u64.wrap (a0.1.2.2.2.2.2.1+1);let v8:=iand .u8 v6 (1:Int);let v9:=IntKind.u64.wrap v8;k v9 ((a0.1.1,a0.1.2.1,a0.1.2.2.1,a0.1.2.2.2.1,a0.1.2.2.2.2.1,v7,a0.1.2.2.2.2.2.2),q)
def F242:zgv:=fun R a0 k=>
F254 R a0 (IntKind.u64.wrap (Int.tdiv a0.1.2.2.2.2.2.1 (8:Int))) fun y2 p3=>
match decide (0≤IntKind.u64.wrap ((7:Int) - (Int.tmod a0.1.2.2.2.2.2.1 (8:Int)))) with
|true=>u242 R a0 y2 p3.2 k
|false=>none
theorem zok (R:Type) (a0:K242.T) (a1:Int) (k:Int→K242.T→Option R):F254 R a0 a1 k=F254 R a0 a1 (fun y p=>@ite (Option R) (p.1=a0.1) (Classical.propDecidable _) (k y p) none):=by
 simp only [F254,p254,if_true]
def zq1 {α:Type} (x y:α):Bool:=@decide (x=y) (Classical.propDecidable _)
theorem zfe {α:Type} (x:α):zq1 x x=true:=@decide_eq_true _ (Classical.propDecidable _) rfl
theorem zq0 {α:Type} {x y:α} (h:zq1 x y=true):x=y:=@of_decide_eq_true _ (Classical.propDecidable _) h
def zk0 (a0:K242.T) (a1 y:Int) (q:W9.T):Ent:=⟨254,[(true,K242),(false,(.int .u64))],[(false,(.int .u8))],fun _ x k=>match zq1 x (a0,a1,()) with | true=>k (y,()) ((a0.1,q),()) | false=>none⟩
theorem ok254c {a0:K242.T} {a1 y:Int} {q:W9.T} (h:P8 Tryz.prog 254 (avs [(true,K242),(false,(.int .u64))] (a0,a1,())) (rvs [(false,(.int .u8))] (y,())) (tvs [(true,K242),(false,(.int .u64))] ((a0.1,q),()))):(zk0 a0 a1 y q).OK Tryz.prog:=by
 intro R x k r hr;simp only [zk0] at hr;split at hr
 ·rename_i he
  have:=zq0 he;subst this;exact ⟨(y,()),((a0.1,q),()),h,hr⟩
 ·cases hr
def c242 (a0:K242.T) (a1 y:Int) (q:W9.T):Env (St×List Acc):=⟨TT,EQT,1,32,Bm [],Bd [zk0 a0 a1 y q] _,Bl [] _,[],Bc [],[],fun _ _ _ _=>none⟩
def e242 (R:Type):Env R:=⟨TT,EQT,1,32,Bm [],Bd [] R,Bl [] R,[],Bc [],[],fun _ _ _ _=>none⟩
def K6:Code→Code
 | .seq a _=>a
 | c=>c
def zdt:Code→Array Oper
 | .seq _ (.seq (.region _ ops _) _)=>ops
 | _=>#[]
def zve:Code→Oper
 | .seq _ (.seq (.region _ ops _) _)=>(ops[12]?).getD ⟨none,.assign (.tmp 0),0,"",#[],none⟩
 | _=>⟨none,.assign (.tmp 0),0,"",#[],none⟩
def S3:Code→Code
 | .seq _ (.seq _ c)=>c
 | c=>c
def zqg (a0:K242.T):St:=⟨[(0,.ptr 0 [] K242)],[(0,.var K242 a0 false)],1⟩
def zqf (a0:K242.T):St:=⟨[(2,.val (.int .u64) (0:Int)),(0,.ptr 0 [] K242)],[(0,.var K242 a0 false)],1⟩
def zxx (a0:K242.T) (y:Int) (q:W9.T):St:=
  ⟨[(3,.val (.int .u8) (ishr .u8 y (IntKind.u64.wrap ((7:Int) - (Int.tmod a0.1.2.2.2.2.2.1 (8:Int)))))),(19,.val (.int .u8) (ishr .u8 y (IntKind.u64.wrap ((7:Int) - (Int.tmod a0.1.2.2.2.2.2.1 (8:Int)))))),
    (18,.val (.int .u64) (IntKind.u64.wrap ((7:Int) - (Int.tmod a0.1.2.2.2.2.2.1 (8:Int))))),(17,.val (.int .u64) (Int.tmod a0.1.2.2.2.2.2.1 (8:Int))),(16,.val (.int .u64) a0.1.2.2.2.2.2.1),
    (15,.ptr 0 [.fld 0,.fld 5] (.int .u64)),(14,.ptr 0 [.fld 0] KS242),(13,.ptr 0 [] K242),(12,.ptr 0 [] K242),(11,.val (.int .u8) y),(10,.val (.int .u64) (IntKind.u64.wrap (Int.tdiv a0.1.2.2.2.2.2.1 (8:Int)))),(9,.val (.int .u64) a0.1.2.2.2.2.2.1),
    (8,.ptr 0 [.fld 0,.fld 5] (.int .u64)),(7,.ptr 0 [.fld 0] KS242),(6,.ptr 0 [] K242),(5,.ptr 0 [] K242),(4,.ptr 0 [] K242),(2,.val (.int .u64) (0:Int)),(0,.ptr 0 [] K242)],
   [(0,.var K242 (a0.1,q) false),(0,.var K242 a0 false)],1⟩
def zvx:List Acc:=[([],[],false),([],[],false),([],[],false),([],[],false),([],[0],false),([],[],false),([],[],false),([],[],false),([],[],false),([0],[0,0],false),([],[],false),([],[0],false),([],[],false),([],[],false),([],[],false),([],[],false),([],[],false)]
theorem x0242 (a0:K242.T):exec (e242 St) (K6 (Ag Tryz.f242)) (zqg a0) (fun e σ=>match e with | .normal=>some σ | _=>none)=some (zqf a0):=by kernel_rfl
theorem x1242 (a0:K242.T) (y:Int) (q:W9.T):xops (c242 a0 (IntKind.u64.wrap (Int.tdiv a0.1.2.2.2.2.2.1 (8:Int))) y q) 1 (zdt (Ag Tryz.f242)) (zdt (Ag Tryz.f242)).toList 0 (zqf a0) [] (fun σ' accs=>some (σ',accs))=
    (match zq1 (a0,IntKind.u64.wrap (Int.tdiv a0.1.2.2.2.2.2.1 (8:Int)),()) (a0,IntKind.u64.wrap (Int.tdiv a0.1.2.2.2.2.2.1 (8:Int)),()) with
     | true=>(match decide (0≤IntKind.u64.wrap ((7:Int) - (Int.tmod a0.1.2.2.2.2.2.1 (8:Int)))) with | true=>some (zxx a0 y q,zvx) | false=>none)
     | false=>none):=by kernel_rfl
theorem x2242 (R:Type) (a0:K242.T) (y:Int) (q:W9.T) (k:RT [(false,Kd.int .u64)]→PT [(true,K242)]→Option R):
  exec (e242 R) (S3 (Ag Tryz.f242)) (zxx a0 y q) (funK (e242 R) zvc (finK [(false,.int .u64)] [(true,K242)] k))=u242 R a0 y q (fun y1 p1=>k (y1,()) (p1,())):=by kernel_rfl
theorem ok242:(en242 F242).OK Tryz.prog:=by
 intro R x k r h;obtain ⟨a0,u⟩:=x
 change F242 R a0 (fun y1 p1=>k (y1,()) (p1,()))=some r at h
 unfold F242 at h;rw [zok] at h;obtain ⟨⟨y,uy⟩,⟨⟨p1,q⟩,up⟩,hH,hk⟩:=ok254 R (a0,IntKind.u64.wrap (Int.tdiv a0.1.2.2.2.2.2.1 (8:Int)),()) (fun y p=>(fun (y:Int) (p:K242.T)=>@ite (Option R) (p.1=a0.1) (Classical.propDecidable _) (match decide (0≤IntKind.u64.wrap ((7:Int) - (Int.tmod a0.1.2.2.2.2.2.1 (8:Int)))) with
  | true=>u242 R a0 y p.2 (fun y1 p1=>k (y1,()) (p1,()))
  | false=>none) none) y.1 p.1) r h
 simp only at hk;split at hk<;>try (cases hk; done)
 rename_i hp;subst hp;split at hk<;>try (cases hk; done)
 rename_i hv;have hE0:Az Tryz.prog (e242 R):=⟨tabOK,eqOK,Aq Ab,Bw,Ak,noYl⟩
 have hE1:Az Tryz.prog (e242 St):=⟨tabOK,eqOK,Aq Ab,Bw,Ak,noYl⟩
 have hE2:Az Tryz.prog (c242 a0 (IntKind.u64.wrap (Int.tdiv a0.1.2.2.2.2.2.1 (8:Int))) y q):=⟨tabOK,eqOK,Aq (Aa (ok254c hH) Ab),Bw,Ak,noYl⟩
 have hL0:Leads 1 32 Tryz.prog (K6 (Ag Tryz.f242)) (zqg a0) .normal (zqf a0):=by
  obtain ⟨e,σ,h1,_,h2⟩:=B0 hE1 mixed (K6 (Ag Tryz.f242)) (by rw [show Am (K6 (Ag Tryz.f242))=[] from by kernel_rfl]; exact Bx) _ _ _ (x0242 a0);cases e with
  | normal=>simp only [Option.some.injEq] at h1; subst h1; exact h2
  | exit i=>cases h1
  | ret=>cases h1
 have hL1:Leads 1 32 Tryz.prog (.region 1 (zdt (Ag Tryz.f242)) true) (zqf a0) .normal (zxx a0 y q):=by
  have hx:=x1242 a0 y q;rw [zfe,hv] at hx;obtain ⟨w1,w2⟩:=zq5 (i0:=7) (b:=0) (l:=zvx.reverse) (by kernel_rfl);exact zfs (j0:=12) (i0:=7) (b:=0) (d:=16) (t:=15) (nx:=1) (o:=zve (Ag Tryz.f242)) (b1:=.var K242 a0 false) (b2:=.var K242 (a0.1,q) false) hE2 mixed hx (by kernel_rfl) w1 w2 (by omega)
   (by kernel_rfl) (by kernel_rfl) (by kernel_rfl) (by kernel_rfl) rfl (Nat.lt_of_succ_le (Nat.le_of_ble_eq_true rfl)) (zhs (by kernel_rfl)) (zhr (by kernel_rfl))
   (by rw [show (zve (Ag Tryz.f242)).op.operands=#[.tmp 15] from by kernel_rfl]; intro x hx; simpa using hx) rfl rfl
   (fun B hB=>by rcases hB with rfl | rfl<;>kernel_rfl)
 have hbody:Ag Tryz.f242=.seq (K6 (Ag Tryz.f242)) (.seq (.region 1 (zdt (Ag Tryz.f242)) true) (S3 (Ag Tryz.f242))):=by kernel_rfl
 have hx2:=x2242 R a0 y q k;rw [hk] at hx2;obtain ⟨e,σ,h1,_,h2⟩:=B0 hE0 mixed (S3 (Ag Tryz.f242)) (by rw [show Am (S3 (Ag Tryz.f242))=[] from by kernel_rfl]; exact Bx) _ _ _ hx2;have hL:=Leads.seq hL0 (Leads.seq hL1 h2);rw [←hbody] at hL;obtain ⟨rs,os,g1,g2⟩:=ze6 hE0 Tryz.func242 (body:=Ag Tryz.f242) (by kernel_rfl) (enters Tryz.func242 (by kernel_rfl) (by kernel_rfl)) (by kernel_rfl) (res:=zvc) (by kernel_rfl) («as»:=[.ptr K242 a0]) rfl (Nat.le_of_ble_eq_true rfl) (tm0:=(zqg a0).tm) (me0:=(zqg a0).me) rfl hL h1;unfold finK at g2;split at g2<;>try (cases g2; done)
 rename_i y' hy;split at g2<;>try (cases g2; done)
 rename_i p' hp;rw [Hg hy,I9 hp] at g1;exact ⟨y',p',g1,g2⟩
abbrev zbs:=(R:Type)→Tq40→Int→(Int→Tq40→Int→Option R)→Option R
def en224 (F:zbs):Ent:=eV 224 [Kq40,(.int .i64)] [(.int .u64),Kq40,(.int .i64)] F
abbrev zpi (Z:Type):=Int→Int→Int→Tq40→Tq43→Z
abbrev zw1 (R:Type):=(Int→Tq40→Tq43→Option R)→Option R
abbrev Mp:=(R:Type)→zpi (zw1 R)
def Zj (L:Mp):LEnt:=lM 7 [.val 4 (.int .u64),.fix 5 (.ptr 1 [] Kq40),.fix 7 (.ptr 2 [] Kq43),.val 31 (.int .i64),.val 32 (.int .i64),.var 1 Kq40 false,.var 2 Kq43 false] 3 [(.exit 1,[.val 4 (.int .u64),.fix 5 (.ptr 1 [] Kq40),.fix 7 (.ptr 2 [] Kq43),.var 1 Kq40 false,.var 2 Kq43 false])] L
def e224 (F186:Nf) (F241:zbp) (F242:zgv) (L7:Mp):=sE 0 45 [] [zf7 F186,en241 F241,en242 F242] [Zj L7]
def zh7 (F242:zgv) (R:Type):zpi (zpi (Option R)→zw1 R):=fun x1 x2 x3 x4 x5 kc k0=>
let v6:=decide (x3<x2);(match v6 with
|true=>let v7:=ishl .u64 x1 (1:Int);F242 R x5 fun y8 p9=>
let v10:=ior .u64 v7 y8;let v11:=IntKind.i64.wrap (x3+1);kc v10 x2 v11 x4 p9
|false=>k0 x1 x4 x5)
theorem q224_7 (F186:Nf) (F241:zbp) (F242:zgv) (L7:Mp):LEQ (Zj L7) (e224 F186 F241 F242 L7) Tryz.f224 (zh7 F242):=fun _ _ _ _=>by kernel_rfl
def Nu:Nat→Mp
 | 0=>fun _ _ _ _ _ _ _=>none
 | n+1=>fun R x1 x2 x3 x4 x5 k0=>zh7 F242 R x1 x2 x3 x4 x5 (fun x1 x2 x3 x4 x5=>Nu n R x1 x2 x3 x4 x5 k0) k0
def p224 (F186:Nf) (F241:zbp) (L7:Mp):zbs:=fun R a0 a1 k=>
F186 R a0 fun y1=>
(match (!y1) with
|true=>k (0:Int) a0 (1:Int)
|false=>let v2:=decide (a1<0);(match v2 with
|true=>k (0:Int) a0 (1:Int)
|false=>let v3:=decide (a1>64);(match v3 with
|true=>k (0:Int) a0 (1:Int)
|false=>let v4:=IntKind.u64.wrap a1;F241 R a0 fun y5=>
let v6:=decide (v4>y5);(match v6 with
|true=>k (0:Int) a0 (8:Int)
|false=>L7 R (0:Int) a1 (0:Int) ((0:Int),([]:LI),(0:Int),(List.replicate 32 (0:Int)),(0:Int),(0:Int),()) (a0,(List.replicate 32 (0:Int)),(0:Int),false,()) (fun x7 x8 x9=>
k x7 x9.1 (0:Int))))))
theorem q224 (F186:Nf) (F241:zbp) (F242:zgv) (L7:Mp):EQ (en224 (p224 F186 F241 L7)) (e224 F186 F241 F242 L7) Tryz.f224 [(.tmp 4,31,false),(.cell 5 126,126,false),(.tmp 6,38,false)]:=fun _ _ _=>by kernel_rfl
def F224:zbs:=p224 F186 F241 (Nu FUEL)
theorem zr2:LKP (Zj (Nu FUEL)) 0 45 7 Tryz.f224:=ST.lok (q224_7 F186 F241 F242 (Nu FUEL)) (Aa zi2 (Aa ok241 (Aa ok242 Ab))) [] trivial
theorem ok224:OKP (en224 F224):=ST.ok1 (q224 F186 F241 F242 (Nu FUEL)) (Aa zi2 (Aa ok241 (Aa ok242 Ab))) Tryz.func224 [7] ⟨⟨_,rfl,zr2⟩,trivial⟩
abbrev zb4:=(R:Type)→Tq40→Int→Int→(Int→Tq40→Int→Option R)→Option R
def zt1 (F:zb4):Ent:=eV 188 [Kq40,(.int .u64),(.int .i64)] [(.int .u64),Kq40,(.int .i64)] F
abbrev zpt (Z:Type):=Int→Int→Int→Tq40→Tq40→Z
abbrev zxc (R:Type):=(Int→Int→Tq40→Option R)→(Tq40→Tq40→Option R)→Option R
abbrev Mv:=(R:Type)→zpt (zxc R)
def Zu (L:Mv):LEnt:=lM 4 [.val 1 (.int .u64),.fix 3 (.ptr 0 [] Kq40),.fix 7 (.ptr 1 [] Kq40),.val 18 (.int .i64),.val 19 (.int .i64),.var 0 Kq40 false,.var 1 Kq40 false] 2 [(.ret,[.val 6 (.int .u64),.fix 7 (.ptr 1 [] Kq40),.val 8 (.int .i64),.var 1 Kq40 false]),(.exit 0,[.fix 3 (.ptr 0 [] Kq40),.fix 7 (.ptr 1 [] Kq40),.var 0 Kq40 false,.var 1 Kq40 false])] L
def e188 (F223:zbt) (F224:zbs) (F225:zbr) (L4:Mv):=sE 0 43 [] [en223 F223,en224 F224,en225 F225] [Zu L4]
def zih (F224:zbs) (F225:zbr) (R:Type):zpt (zpt (Option R)→zxc R):=fun x1 x2 x3 x4 x5 kc k0 k1=>
let v6:=decide (x3<x2);(match v6 with
|true=>F225 R x1 fun y7=>
F224 R x4 y7 fun y8 y9 y10=>
let v11:=y10 !=0;(match v11 with
|true=>k0 (0:Int) y10 x4
|false=>let v12:=decide (y8<x1);(match v12 with
|true=>k0 y8 (0:Int) y9
|false=>let v13:=IntKind.i64.wrap (x3+1);kc x1 x2 v13 y9 x5))
|false=>k1 x4 x5)
theorem q188_4 (F223:zbt) (F224:zbs) (F225:zbr) (L4:Mv):LEQ (Zu L4) (e188 F223 F224 F225 L4) Tryz.f188 (zih F224 F225):=fun _ _ _ _=>by kernel_rfl
def Qj:Nat→Mv
 | 0=>fun _ _ _ _ _ _ _ _=>none
 | n+1=>fun R x1 x2 x3 x4 x5 k0 k1=>zih F224 F225 R x1 x2 x3 x4 x5 (fun x1 x2 x3 x4 x5=>Qj n R x1 x2 x3 x4 x5 k0 k1) k0 k1
def p188 (F223:zbt) (L4:Mv):zb4:=fun R a0 a1 a2 k=>
F223 R a0 a1 a2 fun y1=>
(match (!y1) with
|true=>k (0:Int) a0 (1:Int)
|false=>L4 R a1 a2 (0:Int) a0 ((0:Int),([]:LI),(0:Int),(List.replicate 32 (0:Int)),(0:Int),(0:Int),()) (fun x2 x3 x4=>
k x2 x4 x3) (fun x5 x6=>
k (0:Int) x5 (9:Int)))
theorem q188 (F223:zbt) (F224:zbs) (F225:zbr) (L4:Mv):EQ (zt1 (p188 F223 L4)) (e188 F223 F224 F225 L4) Tryz.f188 [(.tmp 6,31,false),(.cell 7 126,126,false),(.tmp 8,38,false)]:=fun _ _ _=>by kernel_rfl
def F188:zb4:=p188 F223 (Qj FUEL)
theorem zsd:LKP (Zu (Qj FUEL)) 0 43 4 Tryz.f188:=ST.lok (q188_4 F223 F224 F225 (Qj FUEL)) (Aa ok223 (Aa ok224 (Aa ok225 Ab))) [] trivial
theorem ok188:OKP (zt1 F188):=ST.ok1 (q188 F223 F224 F225 (Qj FUEL)) (Aa ok223 (Aa ok224 (Aa ok225 Ab))) Tryz.func188 [4] ⟨⟨_,rfl,zsd⟩,trivial⟩
abbrev znj:=(R:Type)→(LI×Unit)→Int→(Int→Int→Option R)→Option R
def en189 (F:znj):Ent:=eV 189 [(.pair (.sl (.int .u64)) .unit),(.int .u64)] [(.int .i64),(.int .i64)] F
abbrev zps (Z:Type):=Int→Int→Int→(LI×Unit)→Z
abbrev zxb (R:Type):=(Int→Int→Int→(LI×Unit)→Option R)→Option R
abbrev J7:=(R:Type)→zps (zxb R)
def Zt (L:J7):LEnt:=lM 4 [.val 1 (.int .u64),.fix 2 (.ptr 0 [] (.pair (.sl (.int .u64)) .unit)),.val 6 (.int .i64),.val 7 (.int .i64),.var 0 (.pair (.sl (.int .u64)) .unit) false] 1 [(.exit 0,[.val 1 (.int .u64),.fix 2 (.ptr 0 [] (.pair (.sl (.int .u64)) .unit)),.val 6 (.int .i64),.val 7 (.int .i64),.var 0 (.pair (.sl (.int .u64)) .unit) false])] L
abbrev zpr (Z:Type):=Int→Int→Int→(LI×Unit)→Z
abbrev zxa (R:Type):=(Int→Option R)→Option R
abbrev J6:=(R:Type)→zpr (zxa R)
def Zs (L:J6):LEnt:=lM 6 [.val 1 (.int .u64),.fix 2 (.ptr 0 [] (.pair (.sl (.int .u64)) .unit)),.val 6 (.int .i64),.val 7 (.int .i64),.var 0 (.pair (.sl (.int .u64)) .unit) false] 1 [(.exit 2,[.val 6 (.int .i64)])] L
def e189 (F187:Lk) (F222:Nd) (L4:J7) (L6:J6):=sE 0 51 [] [zk5 F187,zk2 F222] [Zt L4,Zs L6]
def zig (F222:Nd) (R:Type):zps (zps (Option R)→zxb R):=fun x1 x2 x3 x4 kc k0=>
let v5:=ishl .i64 x3 (1:Int);F222 R x4 fun y6=>
let v7:=decide (v5≤y6);(match v7 with
|true=>let v8:=ishl .i64 x3 (1:Int);kc x1 x2 v8 x4
|false=>k0 x1 x2 x3 x4)
theorem q189_4 (F187:Lk) (F222:Nd) (L4:J7) (L6:J6):LEQ (Zt L4) (e189 F187 F222 L4 L6) Tryz.f189 (zig F222):=fun _ _ _ _=>by kernel_rfl
def Nw:Nat→J7
 | 0=>fun _ _ _ _ _ _=>none
 | n+1=>fun R x1 x2 x3 x4 k0=>zig F222 R x1 x2 x3 x4 (fun x1 x2 x3 x4=>Nw n R x1 x2 x3 x4 k0) k0
def zdl (F222:Nd) (R:Type):zpr (zpr (Option R)→zxa R):=fun x1 x2 x3 x4 kc k0=>
let v5:=decide (x3>0);(match v5 with
|true=>let v6:=IntKind.i64.wrap (x2+x3);F222 R x4 fun y7=>
let v8:=decide (v6≤y7);(match v8 with
|true=>let v9:=IntKind.i64.wrap (v6 - 1);(match bnd v9 x4.1.length with
|true=>let v10:=x4.1.getD v9.toNat 0;let v11:=decide (v10≤x1);(match v11 with
|true=>let v12:=IntKind.i64.wrap (v6 - 1);(match bnd v12 x4.1.length with
|true=>let v13:=x4.1.getD v12.toNat 0;let v14:=IntKind.u64.wrap (x1 - v13);let v15:=ishr .i64 x3 (1:Int);kc v14 v6 v15 x4
|false=>none)
|false=>let v16:=ishr .i64 x3 (1:Int);kc x1 x2 v16 x4)
|false=>none)
|false=>let v17:=ishr .i64 x3 (1:Int);kc x1 x2 v17 x4)
|false=>k0 x2)
theorem q189_6 (F187:Lk) (F222:Nd) (L4:J7) (L6:J6):LEQ (Zs L6) (e189 F187 F222 L4 L6) Tryz.f189 (zdl F222):=fun _ _ _ _=>by kernel_rfl
def Io:Nat→J6
 | 0=>fun _ _ _ _ _ _=>none
 | n+1=>fun R x1 x2 x3 x4 k0=>zdl F222 R x1 x2 x3 x4 (fun x1 x2 x3 x4=>Io n R x1 x2 x3 x4 k0) k0
def p189 (F187:Lk) (L4:J7) (L6:J6):znj:=fun R a0 a1 k=>
F187 R a0 fun y1=>
let v2:=decide (a1≥y1);(match v2 with
|true=>k (0:Int) (3:Int)
|false=>L4 R a1 (0:Int) (1:Int) a0 (fun x3 x4 x5 x6=>
L6 R x3 x4 x5 x6 (fun x7=>
k x7 (0:Int))))
theorem q189 (F187:Lk) (F222:Nd) (L4:J7) (L6:J6):EQ (en189 (p189 F187 L4 L6)) (e189 F187 F222 L4 L6) Tryz.f189 [(.tmp 4,3,false),(.tmp 5,38,false)]:=fun _ _ _=>by kernel_rfl
def F189:znj:=p189 F187 (Nw FUEL) (Io FUEL)
theorem zsc:LKP (Zt (Nw FUEL)) 0 51 4 Tryz.f189:=ST.lok (q189_4 F187 F222 (Nw FUEL) (Io FUEL)) (Aa zfn (Aa zi1 Ab)) [] trivial
theorem zsb:LKP (Zs (Io FUEL)) 0 51 6 Tryz.f189:=ST.lok (q189_6 F187 F222 (Nw FUEL) (Io FUEL)) (Aa zfn (Aa zi1 Ab)) [] trivial
theorem ok189:OKP (en189 F189):=ST.ok1 (q189 F187 F222 (Nw FUEL) (Io FUEL)) (Aa zfn (Aa zi1 Ab)) Tryz.func189 [4,6] ⟨⟨_,rfl,zsc⟩,⟨⟨_,rfl,zsb⟩,trivial⟩⟩
abbrev Uc:=(R:Type)→(LI×Unit)→Tq40→Int→(Int→Tq40→Int→Option R)→Option R
def zuc (F:Uc):Ent:=eV 141 [(.pair (.sl (.int .u64)) .unit),Kq40,(.int .i64)] [(.int .i64),Kq40,(.int .i64)] F
def p141 (F187:Lk) (F188:zb4) (F189:znj):Uc:=fun R a0 a1 a2 k=>
F187 R a0 fun y1=>
let v2:=y1==0;(match v2 with
|true=>k (0:Int) a1 (10:Int)
|false=>F188 R a1 y1 a2 fun y3 y4 y5=>
let v6:=y5 !=0;(match v6 with
|true=>k (0:Int) y4 y5
|false=>F189 R a0 y3 fun y7 y8=>
k y7 y4 y8))
theorem q141 (F187:Lk) (F188:zb4) (F189:znj):EQ (zuc (p141 F187 F188 F189)) (sE 0 40 [] [zk5 F187,zt1 F188,en189 F189] []) Tryz.f141 [(.tmp 6,3,false),(.cell 7 126,126,false),(.tmp 8,38,false)]:=fun _ _ _=>by kernel_rfl
def F141:Uc:=p141 F187 F188 F189
theorem zzr:OKP (zuc F141):=ST.ok0 (q141 F187 F188 F189) (Aa zfn (Aa ok188 (Aa ok189 Ab))) Tryz.func141
abbrev zbz:=(R:Type)→Tq3→(LI×Unit)→Int→(Int→Int→Option R)→Option R
def en206 (F:zbz):Ent:=eV 206 [Kq3,(.pair (.sl (.int .u64)) .unit),(.int .i64)] [(.int .i64),(.int .i64)] F
def p206 (F64:FT64) (F141:Uc):zbz:=fun R a0 a1 a2 k=>
F64 R a0 (1:Int) a2 fun y1=>
F141 R a1 y1 a0.2.1 fun y2 y3 y4=>
k y2 y4
theorem q206 (F64:FT64) (F141:Uc):EQ (en206 (p206 F64 F141)) (sE 0 24 [] [en64 F64,zuc F141] []) Tryz.f206 [(.tmp 6,3,false),(.tmp 7,38,false)]:=fun _ _ _=>by kernel_rfl
def F206:zbz:=p206 F64 F141
theorem ok206:OKP (en206 F206):=ST.ok0 (q206 F64 F141) (Aa ok64 (Aa zzr Ab)) Tryz.func206
abbrev zno:=(R:Type)→LI→Int→Int→LI→(LI→Int→Option R)→Option R
def en170 (F:zno):Ent:=eV 170 [(.arr 32 (.int .u8)),(.int .i64),(.int .i64),(.sl (.int .u64))] [(.sl (.int .i64)),(.int .i64)] F
abbrev zpy (Z:Type):=Int→Int→Tq3→(LI×Unit)→LI→Z
abbrev zxh (R:Type):=(LI→Option R)→Option R
abbrev My:=(R:Type)→zpy (zxh R)
def Zz (L:My):LEnt:=lM 9 [.fix 10 (.ptr 1 [] Kq3),.fix 11 (.ptr 2 [] (.pair (.sl (.int .u64)) .unit)),.fix 13 (.own 3 0),.val 38 (.int .i64),.val 39 (.int .i64),.var 1 Kq3 false,.var 2 (.pair (.sl (.int .u64)) .unit) false,.row 3 (.int .i64) false] 4 [(.exit 0,[.fix 13 (.own 3 0),.row 3 (.int .i64) false])] L
def e170 (F62:FT62) (F100:Ug) (F206:zbz) (L9:My):=sE 0 59 [] [en62 F62,zuj F100,en206 F206] [Zz L9]
def zim (F206:zbz) (R:Type):zpy (zpy (Option R)→zxh R):=fun x1 x2 x3 x4 x5 kc k0=>
let v6:=decide (x2<x1);(match v6 with
|true=>F206 R x3 x4 x2 fun y7 y8=>
(match bnd x2 x5.length with
|true=>let v9:=x5.set x2.toNat y7;let v10:=y8 !=0;(match v10 with
|true=>(match bnd x2 v9.length with
|true=>let v11:=v9.set x2.toNat (-1:Int);let v12:=IntKind.i64.wrap (x2+1);kc x1 v12 x3 x4 v11
|false=>none)
|false=>let v13:=IntKind.i64.wrap (x2+1);kc x1 v13 x3 x4 v9)
|false=>none)
|false=>k0 x5)
theorem q170_9 (F62:FT62) (F100:Ug) (F206:zbz) (L9:My):LEQ (Zz L9) (e170 F62 F100 F206 L9) Tryz.f170 (zim F206):=fun _ _ _ _=>by kernel_rfl
def Qm:Nat→My
 | 0=>fun _ _ _ _ _ _ _=>none
 | n+1=>fun R x1 x2 x3 x4 x5 k0=>zim F206 R x1 x2 x3 x4 x5 (fun x1 x2 x3 x4 x5=>Qm n R x1 x2 x3 x4 x5 k0) k0
def p170 (F62:FT62) (F100:Ug) (L9:My):zno:=fun R a0 a1 a2 a3 k=>
let v1:=decide (a1<1);(match v1 with
|true=>k ([]:LI) (1:Int)
|false=>let v2:=IntKind.i64.wrap (a1 - 1);F62 R (a0,a2,()) v2 fun y3=>
(match (!y3) with
|true=>k ([]:LI) (1:Int)
|false=>F100 R a3 fun y4 y5=>
let v6:=y5 !=0;(match v6 with
|true=>k ([]:LI) y5
|false=>(match (decide (0≤a1∧a1≤a1∧a1≤17592186044416)) with
|true=>let v7:=List.replicate a1.toNat (0:Int);let v8:=(v7.length:Int);L9 R v8 (0:Int) (a0,a2,()) y4 v7 (fun x9=>
k x9 (0:Int))
|false=>none))))
theorem q170 (F62:FT62) (F100:Ug) (F206:zbz) (L9:My):EQ (en170 (p170 F62 F100 L9)) (e170 F62 F100 F206 L9) Tryz.f170 [(.tmp 8,35,false),(.tmp 9,38,false)]:=fun _ _ _=>by kernel_rfl
def F170:zno:=p170 F62 F100 (Qm FUEL)
theorem zsi:LKP (Zz (Qm FUEL)) 0 59 9 Tryz.f170:=ST.lok (q170_9 F62 F100 F206 (Qm FUEL)) (Aa ok62 (Aa zzw (Aa ok206 Ab))) [] trivial
theorem ok170:OKP (en170 F170):=ST.ok1 (q170 F62 F100 F206 (Qm FUEL)) (Aa ok62 (Aa zzw (Aa ok206 Ab))) Tryz.func170 [9] ⟨⟨_,rfl,zsi⟩,trivial⟩
abbrev znw:=(R:Type)→Tq31→(Int→Tq31→Option R)→Option R
def en120 (F:znw):Ent:=eM 120 [(true,Kq31)] [(false,(.int .i64))] F
def p120 (F123:Ln) (F167:znq) (F168:znp) (F169:zu2) (F170:zno):znw:=fun R a0 k=>
F167 R a0.1.2.2.2.1 fun y1 y2 y3 y4=>
let v5:=y4 !=0;(match v5 with
|true=>k y4 ((a0.1.1,a0.1.2.1,a0.1.2.2.1,y1,a0.1.2.2.2.2.1,y3,a0.1.2.2.2.2.2.2),a0.2)
|false=>F168 R a0.1.2.2.1 fun y6=>
F169 R y3 fun y7=>
F123 R y6 fun y8=>
F170 R y1.2.1 a0.1.1.1 a0.1.1.2.2.2.1 y8 fun y9 y10=>
k y10 ((a0.1.1,a0.1.2.1,y6,y1,y9,y3,a0.1.2.2.2.2.2.2),(a0.2.1.1,a0.2.1.2.1,y7,y1.2.1,a0.2.1.2.2.2.2),a0.2.2))
theorem q120 (F123:Ln) (F167:znq) (F168:znp) (F169:zu2) (F170:zno):EQ (en120 (p120 F123 F167 F168 F169 F170)) (sE 1 88 [] [zao F123,en167 F167,en168 F168,en169 F169,en170 F170] []) Tryz.f120 [(.tmp 2,38,false)]:=fun _ _ _=>by kernel_rfl
def F120:znw:=p120 F123 F167 F168 F169 F170
theorem ok120:OKP (en120 F120):=ST.ok0 (q120 F123 F167 F168 F169 F170) (Aa zi5 (Aa ok167 (Aa ok168 (Aa ok169 (Aa ok170 Ab))))) Tryz.func120
abbrev FT76:=(R:Type)→Tq31→Tq6→(Int→Tq31→Option R)→Option R
def en76 (F:FT76):Ent:=eM 76 [(true,Kq31),(false,Kq6)] [(false,(.int .i64))] F
def p76 (F119:znx) (F120:znw):FT76:=fun R a0 a1 k=>
F119 R a0.1.1 a0.1.2.1 fun y1 y2=>
let v3:=IntKind.u64.wrap y1;(match y2 with
|true=>F120 R ((a0.1.1,y1,a0.1.2.2),(a0.2.1.1,v3,a0.2.1.2.2),a0.2.2) fun y4 p5=>
k y4 p5
|false=>k (0:Int) ((a0.1.1,y1,a0.1.2.2),(a0.2.1.1,v3,a0.2.1.2.2),a0.2.2))
theorem q76 (F119:znx) (F120:znw):EQ (en76 (p76 F119 F120)) (sE 1 35 [] [en119 F119,en120 F120] []) Tryz.f76 [(.tmp 4,38,false)]:=fun _ _ _=>by kernel_rfl
def F76:FT76:=p76 F119 F120
theorem ok76:OKP (en76 F76):=ST.ok0 (q76 F119 F120) (Aa ok119 (Aa ok120 Ab)) Tryz.func76
abbrev Ue:=(R:Type)→Tq31→Int→(Int→Tq31→Option R)→Option R
def zk9 (F:Ue):Ent:=eM 121 [(true,Kq31),(false,(.int .i64))] [(false,(.int .i64))] F
def p121:Ue:=fun R a0 a1 k=>
let v1:=decide (a1<0);(match v1 with
|true=>k (3:Int) a0
|false=>let v2:=decide (a1≥a0.1.1.1);(match v2 with
|true=>k (3:Int) a0
|false=>k (0:Int) a0))
theorem q121:EQ (zk9 p121) (sE 1 17 [] [] []) Tryz.f121 [(.tmp 4,38,false)]:=fun _ _ _=>by kernel_rfl
def F121:Ue:=p121
theorem zzu:OKP (zk9 F121):=ST.ok0 q121 Ab Tryz.func121
abbrev Ud:=(R:Type)→LI→(Int→Option R)→Option R
def zue (F:Ud):Ent:=eV 122 [(.sl (.int .u64))] [(.int .i64)] F
abbrev zqb (Z:Type):=Int→LI→Int→Int→Z
abbrev zxu (R:Type):=(Int→Option R)→Option R
abbrev M8:=(R:Type)→zqb (zxu R)
def zac (L:M8):LEnt:=lM 2 [.val 2 (.int .i64),.val 5 (.sl (.int .u64)),.val 6 (.int .i64),.val 7 (.int .i64)] 0 [(.exit 0,[.val 2 (.int .i64)])] L
def e122 (L2:M8):=sE 0 17 [] [] [zac L2]
def zix (R:Type):zqb (zqb (Option R)→zxu R):=fun x1 x2 x3 x4 kc k0=>
let v5:=decide (x4<x3);(match v5 with
|true=>(match bnd x4 x2.length with
|true=>let v6:=x2.getD x4.toNat 0;let v7:=decide (v6>0);(match v7 with
|true=>let v8:=IntKind.i64.wrap (x1+1);let v9:=IntKind.i64.wrap (x4+1);kc v8 x2 x3 v9
|false=>let v10:=IntKind.i64.wrap (x4+1);kc x1 x2 x3 v10)
|false=>none)
|false=>k0 x1)
theorem q122_2 (L2:M8):LEQ (zac L2) (e122 L2) Tryz.f122 zix:=fun _ _ _ _=>by kernel_rfl
def Qs:Nat→M8
 | 0=>fun _ _ _ _ _ _=>none
 | n+1=>fun R x1 x2 x3 x4 k0=>zix R x1 x2 x3 x4 (fun x1 x2 x3 x4=>Qs n R x1 x2 x3 x4 k0) k0
def p122 (L2:M8):Ud:=fun R a0 k=>
let v1:=(a0.length:Int);L2 R (0:Int) a0 v1 (0:Int) (fun x2=>
k x2)
theorem q122 (L2:M8):EQ (zue (p122 L2)) (e122 L2) Tryz.f122 [(.tmp 2,3,false)]:=fun _ _ _=>by kernel_rfl
def F122:Ud:=p122 (Qs FUEL)
theorem zsw:LKP (zac (Qs FUEL)) 0 17 2 Tryz.f122:=ST.lok (q122_2 (Qs FUEL)) Ab [] trivial
theorem zzt:OKP (zue F122):=ST.ok1 (q122 (Qs FUEL)) Ab Tryz.func122 [2] ⟨⟨_,rfl,zsw⟩,trivial⟩
abbrev FT77:=(R:Type)→Tq31→Tq6→(Int→Tq31→Option R)→Option R
def en77 (F:FT77):Ent:=eM 77 [(true,Kq31),(false,Kq6)] [(false,(.int .i64))] F
def p77 (F121:Ue) (F122:Ud) (F123:Ln):FT77:=fun R a0 a1 k=>
F121 R a0 a1.2.2.2.2.1 fun y1 p2=>
let v3:=y1 !=0;(match v3 with
|true=>k y1 p2
|false=>F123 R p2.1.2.2.1 fun y4=>
F122 R y4 fun y5=>
let v6:=y5==0;(match v6 with
|true=>k (10:Int) p2
|false=>(match bnd a1.2.2.2.2.1 p2.1.2.2.2.2.1.length with
|true=>let v7:=p2.1.2.2.2.2.1.getD a1.2.2.2.2.1.toNat 0;let v8:=v7==(-1:Int);(match v8 with
|true=>k (9:Int) p2
|false=>(match bnd a1.2.2.2.2.1 p2.1.2.2.2.2.1.length with
|true=>let v9:=p2.1.2.2.2.2.1.getD a1.2.2.2.2.1.toNat 0;let v10:=([v9]:LI);k (0:Int) (p2.1,(p2.2.1.1,p2.2.1.2.1,v10,p2.2.1.2.2.2),p2.2.2)
|false=>none))
|false=>none)))
theorem q77 (F121:Ue) (F122:Ud) (F123:Ln):EQ (en77 (p77 F121 F122 F123)) (sE 1 45 [] [zk9 F121,zue F122,zao F123] []) Tryz.f77 [(.tmp 4,38,false)]:=fun _ _ _=>by kernel_rfl
def F77:FT77:=p77 F121 F122 F123
theorem ok77:OKP (en77 F77):=ST.ok0 (q77 F121 F122 F123) (Aa zzu (Aa zzt (Aa zi5 Ab))) Tryz.func77
abbrev Xr:=(R:Type)→Int→Int→(Int→Bool→Option R)→Option R
def ztv (F:Xr):Ent:=eV 245 [(.int .u64),(.int .u64)] [(.int .u64),.bool] F
def p245 (F105:zcm) (F196:zb1):Xr:=fun R a0 a1 k=>
F105 R a0 a1 fun y1 y2=>
F196 R y2 y1 fun y3 y4=>
k y3 y4
theorem q245 (F105:zcm) (F196:zb1):EQ (ztv (p245 F105 F196)) (sE 0 19 [] [zui F105,zt0 F196] []) Tryz.f245 [(.tmp 4,31,false),(.tmp 5,4,false)]:=fun _ _ _=>by kernel_rfl
def F245:Xr:=p245 F105 F196
theorem ok245:OKP (ztv F245):=ST.ok0 (q245 F105 F196) (Aa ok105 (Aa ok196 Ab)) Tryz.func245
abbrev Xv:=(R:Type)→LI→(Int→Int→Option R)→Option R
def en229 (F:Xv):Ent:=eV 229 [(.sl (.int .u64))] [(.int .u64),(.int .i64)] F
def p229 (F136:Kh) (F245:Xr):Xv:=fun R a0 k=>
let v1:=(a0.length:Int);let v2:=IntKind.u64.wrap v1;let v3:=v2==0;(match v3 with
|true=>k (0:Int) (10:Int)
|false=>F136 R a0 fun y4 y5=>
(match (!y5) with
|true=>k (0:Int) (11:Int)
|false=>let v6:=y4==0;(match v6 with
|true=>k (0:Int) (10:Int)
|false=>F245 R v2 y4 fun y7 y8=>
(match (!y8) with
|true=>k (0:Int) (11:Int)
|false=>k y4 (0:Int)))))
theorem q229 (F136:Kh) (F245:Xr):EQ (en229 (p229 F136 F245)) (sE 0 32 [] [zf9 F136,ztv F245] []) Tryz.f229 [(.tmp 2,31,false),(.tmp 3,38,false)]:=fun _ _ _=>by kernel_rfl
def F229:Xv:=p229 F136 F245
theorem ok229:OKP (en229 F229):=ST.ok0 (q229 F136 F245) (Aa zi4 (Aa ok245 Ab)) Tryz.func229
abbrev zng:=(R:Type)→LI→(Tq44→Int→Option R)→Option R
def en207 (F:zng):Ent:=eV 207 [(.sl (.int .u64))] [Kq44,(.int .i64)] F
abbrev zpo (Z:Type):=LI→Int→LI→Int→Int→Tq44→LI→(List Tq13)→LI→LI→(Int×Unit)→Z
abbrev zw7 (R:Type):=(Tq44→LI→(List Tq13)→LI→LI→(Int×Unit)→Option R)→Option R
abbrev J5:=(R:Type)→zpo (zw7 R)
def Zp (L:J5):LEnt:=lM 7 [.val 0 (.sl (.int .u64)),.fix 2 (.ptr 0 [] Kq44),.val 4 (.int .u64),.fix 6 (.mptr 6 0 Kq46),.val 28 (.sl (.int .u64)),.val 29 (.int .i64),.val 30 (.int .i64),.var 0 Kq44 false,.row 1 (.int .u64) false,.row 2 Kq13 false,.row 4 (.int .i64) false,.row 5 (.int .i64) false,.mix 6 [((.int .u64),none),((.sl Kq13),some 2),((.sl (.int .u64)),some 1),((.sl (.int .i64)),some 4),((.sl (.int .i64)),some 5)]] 7 [(.exit 0,[.fix 2 (.ptr 0 [] Kq44),.fix 6 (.mptr 6 0 Kq46),.var 0 Kq44 false,.row 1 (.int .u64) false,.row 2 Kq13 false,.row 4 (.int .i64) false,.row 5 (.int .i64) false,.mix 6 [((.int .u64),none),((.sl Kq13),some 2),((.sl (.int .u64)),some 1),((.sl (.int .i64)),some 4),((.sl (.int .i64)),some 5)]])] L
abbrev zcu (Z:Type):=Tq44→LI→(List Tq13)→LI→LI→(Int×Unit)→Z
abbrev zpb (R:Type):=(Tq44→LI→(List Tq13)→LI→LI→(Int×Unit)→Option R)→Option R
abbrev Hh:=(R:Type)→zcu (zpb R)
def Th (L:Hh):LEnt:=lM 13 [.fix 2 (.ptr 0 [] Kq44),.fix 6 (.mptr 6 0 Kq46),.var 0 Kq44 false,.row 1 (.int .u64) false,.row 2 Kq13 false,.row 4 (.int .i64) false,.row 5 (.int .i64) false,.mix 6 [((.int .u64),none),((.sl Kq13),some 2),((.sl (.int .u64)),some 1),((.sl (.int .i64)),some 4),((.sl (.int .i64)),some 5)]] 7 [(.exit 2,[.fix 2 (.ptr 0 [] Kq44),.fix 6 (.mptr 6 0 Kq46),.var 0 Kq44 false,.row 1 (.int .u64) false,.row 2 Kq13 false,.row 4 (.int .i64) false,.row 5 (.int .i64) false,.mix 6 [((.int .u64),none),((.sl Kq13),some 2),((.sl (.int .u64)),some 1),((.sl (.int .i64)),some 4),((.sl (.int .i64)),some 5)]])] L
def zld (R:Type):Env R:=⟨TT,EQT,0,37,Bm [],Bd [] R,fun _ _ _=>none,[],Bc [],[],fun _ _ _ _=>none⟩
theorem zd7 (R:Type):Az Tryz.prog (zld R):=⟨tabOK,eqOK,Aq Ab,Bw,Ak,noYl⟩
def zvn (R:Type):Env R:=⟨TT,EQT,0,26,Bm [(2,9)],Bd [] R,fun _ _ _=>none,[],Bc [],[],fun _ _ _ _=>none⟩
theorem ztk (R:Type):Az Tryz.prog (zvn R):=⟨tabOK,eqOK,Aq Ab,Bw,Ak,noYl⟩
def zvo (R:Type):Env R:=⟨TT,EQT,0,53,Bm [(0,3),(0,7),(3,2)],Bd [] R,fun _ _ _=>none,[],Bc [(230,xinl (zld R) (Ag Tryz.f230) [] 2),(246,xinl (zvn R) (Ag Tryz.f246) [.tmp 2] 1)],[],fun _ _ _ _=>none⟩
theorem ztl (R:Type):Az Tryz.prog (zvo R):=⟨tabOK,eqOK,Aq Ab,Bw,(A9 (Bb (zd7 R) mixed Tryz.func230 (body:=Ag Tryz.f230) (by kernel_rfl) (by kernel_rfl) (by kernel_rfl) (res:=[]) (by kernel_rfl) (n:=2) (Nat.le_of_ble_eq_true rfl) (by kernel_rfl)) (A9 (Bb (ztk R) mixed Tryz.func246 (body:=Ag Tryz.f246) (by kernel_rfl) (by kernel_rfl) (by kernel_rfl) (res:=[.tmp 2]) (by kernel_rfl) (n:=1) (Nat.le_of_ble_eq_true rfl) (by kernel_rfl)) Ak)),noYl⟩
def e207 (F229:Xv) (L7:J5) (L13:Hh) (R:Type):Env R:=⟨TT,EQT,0,84,Bm [(4,3),(4,4),(11,2),(14,1)],Bd [en229 F229] R,Bl [Zp L7,Th L13] R,[],Bc [(230,xinl (zld R) (Ag Tryz.f230) [] 2),(231,xinl (zvo R) (Ag Tryz.f231) [] 1)],[],fun _ _ _ _=>none⟩
def zid (R:Type):zpo (zpo (Option R)→zw7 R):=fun x1 x2 x3 x4 x5 x6 x7 x8 x9 x10 x11 kc k0=>
let v12:=decide (x5<x4);(match v12 with
|true=>(match bnd x5 x3.length with
|true=>let v13:=x3.getD x5.toNat 0;let v14:=(x1.length:Int);let v15:=IntKind.u64.wrap v14;let v16:=IntKind.u64.wrap (v13*v15);(match bnd x5 x7.length with
|true=>let v17:=x7.set x5.toNat v16;let v18:=([(x2,x5,())]:(List Tq13));(match (decide (x8.length+v18.length≤8796093022208)) with
|true=>let v19:=x8++v18;(match bnd x5 v17.length with
|true=>let v20:=v17.getD x5.toNat 0;let v21:=decide (v20<x11.1);(match v21 with
|true=>let v22:=([x5]:LI);(match (decide (x9.length+v22.length≤17592186044416)) with
|true=>let v23:=x9++v22;let v24:=IntKind.i64.wrap (x5+1);kc x1 x2 x3 x4 v24 x6 v17 v19 v23 x10 (x11.1,())
|false=>none)
|false=>let v25:=([x5]:LI);(match (decide (x10.length+v25.length≤17592186044416)) with
|true=>let v26:=x10++v25;let v27:=IntKind.i64.wrap (x5+1);kc x1 x2 x3 x4 v27 x6 v17 v19 x9 v26 (x11.1,())
|false=>none))
|false=>none)
|false=>none)
|false=>none)
|false=>none)
|false=>k0 x6 x7 x8 x9 x10 (x11.1,()))
theorem q207_7 (F229:Xv) (L7:J5) (L13:Hh):LEQ (Zp L7) (e207 F229 L7 L13) Tryz.f207 zid:=fun _ _ _ _=>by kernel_rfl
def Lf:Nat→J5
 | 0=>fun _ _ _ _ _ _ _ _ _ _ _ _ _=>none
 | n+1=>fun R x1 x2 x3 x4 x5 x6 x7 x8 x9 x10 x11 k0=>zid R x1 x2 x3 x4 x5 x6 x7 x8 x9 x10 x11 (fun x1 x2 x3 x4 x5 x6 x7 x8 x9 x10 x11=>Lf n R x1 x2 x3 x4 x5 x6 x7 x8 x9 x10 x11 k0) k0
def Yw (R:Type):zcu (zcu (Option R)→zpb R):=fun x1 x2 x3 x4 x5 x6 kc k0=>
let v7:=(x4.length:Int);let v8:=decide (v7>0);(match v8 with
|true=>let v9:=(x5.length:Int);let v10:=decide (v9>0);(match v10 with
|true=>let v11:=(x4.length:Int);let v12:=IntKind.i64.wrap (v11 - 1);(match bnd v12 x4.length with
|true=>let v13:=x4.getD v12.toNat 0;let v14:=(x4.length:Int);let v15:=IntKind.i64.wrap (v14 - 1);(match (decide (0≤v15∧v15≤(x4.length:Int))) with
|true=>let v16:=List.take v15.toNat x4;let v17:=(x5.length:Int);let v18:=IntKind.i64.wrap (v17 - 1);(match bnd v18 x5.length with
|true=>let v19:=x5.getD v18.toNat 0;let v20:=(x5.length:Int);let v21:=IntKind.i64.wrap (v20 - 1);(match (decide (0≤v21∧v21≤(x5.length:Int))) with
|true=>let v22:=List.take v21.toNat x5;(match bnd v13 x2.length with
|true=>let v23:=x2.getD v13.toNat 0;(match bnd v13 x3.length with
|true=>let v24:=x3.set v13.toNat (v23,v19,());(match bnd v19 x2.length with
|true=>let v25:=x2.getD v19.toNat 0;(match bnd v13 x2.length with
|true=>let v26:=x2.getD v13.toNat 0;let v27:=IntKind.u64.wrap (x6.1 - v26);let v28:=IntKind.u64.wrap (v25 - v27);(match bnd v19 x2.length with
|true=>let v29:=x2.set v19.toNat v28;(match bnd v19 v29.length with
|true=>let v30:=v29.getD v19.toNat 0;let v31:=decide (v30<x6.1);(match v31 with
|true=>let v32:=([v19]:LI);(match (decide (v16.length+v32.length≤17592186044416)) with
|true=>let v33:=v16++v32;kc x1 v29 v24 v33 v22 (x6.1,())
|false=>none)
|false=>let v34:=([v19]:LI);(match (decide (v22.length+v34.length≤17592186044416)) with
|true=>let v35:=v22++v34;kc x1 v29 v24 v16 v35 (x6.1,())
|false=>none))
|false=>none)
|false=>none)
|false=>none)
|false=>none)
|false=>none)
|false=>none)
|false=>none)
|false=>none)
|false=>none)
|false=>none)
|false=>k0 x1 x2 x3 x4 x5 (x6.1,()))
|false=>k0 x1 x2 x3 x4 x5 (x6.1,()))
theorem zyf (F229:Xv) (L7:J5) (L13:Hh):LEQ (Th L13) (e207 F229 L7 L13) Tryz.f207 Yw:=fun _ _ _ _=>by kernel_rfl
def Gm:Nat→Hh
 | 0=>fun _ _ _ _ _ _ _ _=>none
 | n+1=>fun R x1 x2 x3 x4 x5 x6 k0=>Yw R x1 x2 x3 x4 x5 x6 (fun x1 x2 x3 x4 x5 x6=>Gm n R x1 x2 x3 x4 x5 x6 k0) k0
def p207 (F229:Xv) (L7:J5) (L13:Hh):zng:=fun R a0 k=>
F229 R a0 fun y1 y2=>
let v3:=y2 !=0;(match v3 with
|true=>k ((0:Int),([]:(List Tq13)),()) y2
|false=>let v4:=(a0.length:Int);(match (decide (0≤v4∧v4≤v4∧v4≤17592186044416)) with
|true=>let v5:=List.replicate v4.toNat (0:Int);let v6:=(a0.length:Int);L7 R a0 y1 a0 v6 (0:Int) ((0:Int),([]:(List Tq13)),()) v5 ([]:(List Tq13)) ([]:LI) ([]:LI) (y1,()) (fun x7 x8 x9 x10 x11 x12=>
L13 R x7 x8 x9 x10 x11 (x12.1,()) (fun x13 x14 x15 x16 x17 x18=>
k (x18.1,x15,()) (0:Int)))
|false=>none))
theorem q207 (F229:Xv) (L7:J5) (L13:Hh):EQ (en207 (p207 F229 L7 L13)) (e207 F229 L7 L13) Tryz.f207 [(.cell 2 269,269,false),(.tmp 3,38,false)]:=fun _ _ _=>by kernel_rfl
def F207:zng:=p207 F229 (Lf FUEL) (Gm FUEL)
theorem zku (R:Type):Az Tryz.prog (e207 F229 (Lf FUEL) (Gm FUEL) R):=⟨tabOK,eqOK,Aq (Aa ok229 Ab),Bw,(A9 (Bb (zd7 R) mixed Tryz.func230 (body:=Ag Tryz.f230) (by kernel_rfl) (by kernel_rfl) (by kernel_rfl) (res:=[]) (by kernel_rfl) (n:=2) (Nat.le_of_ble_eq_true rfl) (by kernel_rfl)) (A9 (Bb (ztl R) mixed Tryz.func231 (body:=Ag Tryz.f231) (by kernel_rfl) (by kernel_rfl) (by kernel_rfl) (res:=[]) (by kernel_rfl) (n:=1) (Nat.le_of_ble_eq_true rfl) (by kernel_rfl)) Ak)),noYl⟩
theorem zr8:LKP (Zp (Lf FUEL)) 0 84 7 Tryz.f207:=ST.lok3 (q207_7 F229 (Lf FUEL) (Gm FUEL)) zku (fun _=>rfl) (fun _=>rfl) (fun _=>rfl) [] trivial
theorem zjg:LKP (Th (Gm FUEL)) 0 84 13 Tryz.f207:=ST.lok3 (zyf F229 (Lf FUEL) (Gm FUEL)) zku (fun _=>rfl) (fun _=>rfl) (fun _=>rfl) [] trivial
theorem ok207:OKP (en207 F207):=ST.ok3 (q207 F229 (Lf FUEL) (Gm FUEL)) zku Tryz.func207 (fun _=>rfl) (fun _=>rfl) (fun _=>rfl) [7,13] ⟨⟨_,rfl,zr8⟩,⟨⟨_,rfl,zjg⟩,trivial⟩⟩
abbrev zbo:=(R:Type)→Tq13→Tq44→(Bool→Tq44→Option R)→Option R
def en248 (F:zbo):Ent:=eM 248 [(false,Kq13),(true,Kq44)] [(false,.bool)] F
def p248:zbo:=fun R a0 a1 k=>
let v1:=decide (a0.1>a1.1);(match v1 with
|true=>k true a1
|false=>let v2:=decide (a0.2.1<0);(match v2 with
|true=>k true a1
|false=>let v3:=(a1.2.1.length:Int);let v4:=decide (a0.2.1≥v3);k v4 a1))
theorem q248:EQ (en248 p248) (sE 1 22 [] [] []) Tryz.f248 [(.tmp 3,4,false)]:=fun _ _ _=>by kernel_rfl
def F248:zbo:=p248
theorem ok248:OKP (en248 F248):=ST.ok0 q248 Ab Tryz.func248
abbrev Hi:Type 1:=(R:Type)→(List Tq13)→Tq44→(Int→Tq44→Option R)→Option R
def C9 (F:Hi):EntC:=⟨255,248,Kq44,[(false,(.sl Kq13))],[(false,(.int .i64))],fun R x c k=>F R x.1 c (fun y1 c1=>k (y1,()) () c1)⟩
def Vd:List (ResultVar×TypeId×Bool):=[(.tmp 4,3,false)]
abbrev Fl:Type 1:=(R:Type)→(List Tq13)→Int→Int→Tq44→(Int→Tq44→Option R)→(Tq44→Option R)→Option R
def Bn (L:Fl):LEnt:=⟨2,[.val 0 (.sl Kq13),.fix 1 (.clo 248 [(0,Kq44)]),.val 7 (.int .i64),.val 8 (.int .i64),.var 0 Kq44 false],1,[(.ret,[.val 4 (.int .i64),.var 0 Kq44 false]),(.exit 0,[.var 0 Kq44 false])],fun R x ke=>L R x.1 x.2.1 x.2.2.1 x.2.2.2.1 (fun y1 y2=>ke.1 (y1,y2,())) (fun y1=>ke.2.1 (y1,()))⟩
def Pl (F248:zbo) (L2:Fl) (R:Type):Env R:=⟨TT,EQT,1,19,Bm [],Bd [en248 F248] R,Bl [Bn L2] R,[],Bc [],[],fun _ _ _ _=>none⟩
def Ku (F248:zbo):(R:Type)→(List Tq13)→Int→Int→Tq44→((List Tq13)→Int→Int→Tq44→Option R)→(Int→Tq44→Option R)→(Tq44→Option R)→Option R:=fun R x1 x2 x3 x4 kc k0 k1=>
let v5:=decide (x3<x2);(match v5 with
|true=>(match bnd x3 x1.length with
|true=>let v6:=x1.getD x3.toNat (0,0,());F248 R v6 x4 fun y7 p8=>
(match y7 with
|true=>k0 x3 p8
|false=>let v9:=IntKind.i64.wrap (x3+1);kc x1 x2 v9 p8)
|false=>none)
|false=>k1 x4)
theorem zht (F248:zbo) (L2:Fl) (R:Type) (x:HT (Bn L2).H) (kc:HT (Bn L2).H→Option R) (ke:KT R (Bn L2).exs):
 exec (Pl F248 L2 R) (Cd 2 (Ag Tryz.f255)) (stOf (Bn L2).H x 1) (Ni (Bn L2).H (Bn L2).exs kc ke)=
  Ku F248 R x.1 x.2.1 x.2.2.1 x.2.2.2.1 (fun x1 x2 x3 x4=>kc (x1,x2,x3,x4,())) (fun y1 y2=>ke.1 (y1,y2,())) (fun y1=>ke.2.1 (y1,())):=by kernel_rfl
def Be:Nat→Fl
 | 0=>fun _ _ _ _ _ _ _=>none
 | n+1=>fun R x1 x2 x3 x4 k0 k1=>Ku F248 R x1 x2 x3 x4 (fun x1 x2 x3 x4=>Be n R x1 x2 x3 x4 k0 k1) k0 k1
def Yu (L2:Fl):Hi:=fun R a0 c0 k=>
let v1:=(a0.length:Int);L2 R a0 v1 (0:Int) c0 (fun x2 x3=>
k x2 x3) (fun x4=>
k (-1:Int) x4)
theorem zyd (F248:zbo) (L2:Fl) (F:Hi) (R:Type) (x:AT (C9 F).ins) (c:(C9 F).ck.T) (k:RT (C9 F).outs→PT (C9 F).ins→(C9 F).ck.T→Option R):
 xfun (Pl F248 L2 R) (Ag Tryz.f255) Vd (avs (C9 F).ins x++[AV.clo 248 (C9 F).ck c]) (ztg (C9 F).outs (C9 F).ins (C9 F).ck k)=Yu L2 R x.1 c (fun y1 c1=>k (y1,()) () c1):=by kernel_rfl
def Dw:Hi:=Yu (Be FUEL)
theorem We (R:Type):Az Tryz.prog (Pl F248 (Be FUEL) R):=⟨tabOK,eqOK,Aq (Aa ok248 Ab),Bw,Ak,noYl⟩
def Ij:(R:Type)→HT (Bn (Be FUEL)).H→(HT (Bn (Be FUEL)).H→Option R)→KT R (Bn (Be FUEL)).exs→Option R:=fun R x kc ke=>Ku F248 R x.1 x.2.1 x.2.2.1 x.2.2.2.1 (fun x1 x2 x3 x4=>kc (x1,x2,x3,x4,())) (fun y1 y2=>ke.1 (y1,y2,())) (fun y1=>ke.2.1 (y1,()))
theorem zfw:∀(n:Nat) (R:Type) (x:HT (Bn (Be FUEL)).H) (ke:KT R (Bn (Be FUEL)).exs),iter Ij n R x ke=Be n R x.1 x.2.1 x.2.2.1 x.2.2.2.1 (fun y1 y2=>ke.1 (y1,y2,())) (fun y1=>ke.2.1 (y1,())):=by
 intro n
 induction n with
 | zero=>intro R x ke; rfl
 | succ n ih=>
  intro R x ke;show Ij R x (fun x'=>iter Ij n R x' ke) ke=_
  rw [show (fun x'=>iter Ij n R x' ke)=fun x=>Be n R x.1 x.2.1 x.2.2.1 x.2.2.2.1 (fun y1 y2=>ke.1 (y1,y2,())) (fun y1=>ke.2.1 (y1,())) from funext fun x'=>ih R x' ke];rfl
theorem Y9:(Bn (Be FUEL)).OK Tryz.prog 1 19 (Cd 2 (Ag Tryz.f255)):=⟨⟨fun _ h=>(by cases h),by kernel_rfl⟩,fun R x ke r h=>
 D9 (fun R=>Pl F248 (Be FUEL) R) 1 19 (fun _=>rfl) (fun _=>rfl) (fun R=>We R) mixed (by
  intro R;rw [show Am (Cd 2 (Ag Tryz.f255))=[] from by kernel_rfl];exact Bx) (fun _ h=>(by cases h)) (K0 (by kernel_rfl)) (T:=Ij) (fun R x kc ke=>zht F248 (Be FUEL) R x kc ke) FUEL R x ke r ((zfw FUEL R x ke).trans h)⟩
theorem zrg:(C9 Dw).OK Tryz.prog:=
 zkx (Ef:=fun R=>Pl F248 (Be FUEL) R) (fun R=>We R) mixed Tryz.func255 (body:=Ag Tryz.f255) (by kernel_rfl) (by kernel_rfl) (np:=1) (nt:=19) (fun _=>rfl) (fun _=>rfl) (by kernel_rfl) (res:=Vd) (by kernel_rfl) (fun _ _=>rfl) (fun _ _=>Nat.le_of_ble_eq_true rfl) (by
  intro R;rw [show Am (Ag Tryz.f255)=[Cd 2 (Ag Tryz.f255)] from by kernel_rfl];exact (Ah (Hb (e:=Bn (Be FUEL)) rfl rfl Y9) Bx)) (fun R x c k=>zyd F248 (Be FUEL) Dw R x c k)
abbrev Hj:Type 1:=(R:Type)→(List Tq13)→Tq44→(Bool→Tq44→Option R)→Option R
def Da (F:Hj):EntC:=⟨247,248,Kq44,[(false,(.sl Kq13))],[(false,.bool)],fun R x c k=>F R x.1 c (fun y1 c1=>k (y1,()) () c1)⟩
def Ve:List (ResultVar×TypeId×Bool):=[(.tmp 4,4,false)]
def zap (Dw:Hi) (R:Type):Env R:=⟨TT,EQT,1,9,Bm [],Md [C9 Dw] [] [] R,Bl [] R,[],Bc [],[],fun _ _ _ _=>none⟩
def Yv (Dw:Hi):Hj:=fun R a0 c0 k=>
Dw R a0 c0 fun y1 p2=>
let v3:=decide (y1≥0);k v3 p2
theorem zye (Dw:Hi) (F:Hj) (R:Type) (x:AT (Da F).ins) (c:(Da F).ck.T) (k:RT (Da F).outs→PT (Da F).ins→(Da F).ck.T→Option R):
 xfun (zap Dw R) (Ag Tryz.f247) Ve (avs (Da F).ins x++[AV.clo 248 (Da F).ck c]) (ztg (Da F).outs (Da F).ins (Da F).ck k)=Yv Dw R x.1 c (fun y1 c1=>k (y1,()) () c1):=by kernel_rfl
def Ea:Hj:=Yv Dw
theorem zkt (R:Type):Az Tryz.prog (zap Dw R):=⟨tabOK,eqOK,Mc (Wx zrg zeg) Fc Ab,Bw,Ak,noYl⟩
theorem zrh:(Da Ea).OK Tryz.prog:=
 zkx (Ef:=fun R=>zap Dw R) (fun R=>zkt R) mixed Tryz.func247 (body:=Ag Tryz.f247) (by kernel_rfl) (by kernel_rfl) (np:=1) (nt:=9) (fun _=>rfl) (fun _=>rfl) (by kernel_rfl) (res:=Ve) (by kernel_rfl) (fun _ _=>rfl) (fun _ _=>Nat.le_of_ble_eq_true rfl) (by
  intro R;rw [show Am (Ag Tryz.f247)=[] from by kernel_rfl];exact Bx) (fun R x c k=>zye Dw Ea R x c k)
abbrev Qu:=(R:Type)→Tq44→(Bool→Option R)→Option R
def zf6 (F:Qu):Ent:=eV 232 [Kq44] [.bool] F
def e232 (F245:Xr) (Ea:Hj) (R:Type):Env R:=⟨TT,EQT,0,33,Bm [],Md [Da Ea] [] [ztv F245] R,Bl [] R,[],Bc [],[],fun _ _ _ _=>none⟩
def p232 (F245:Xr) (Ea:Hj):Qu:=fun R a0 k=>
let v1:=(a0.2.1.length:Int);let v2:=IntKind.u64.wrap v1;F245 R v2 a0.1 fun y3 y4=>
(match (!y4) with
|true=>k false
|false=>let v5:=(a0.2.1.length:Int);let v6:=v5==0;(match v6 with
|true=>k false
|false=>let v7:=a0.1==0;(match v7 with
|true=>k false
|false=>Ea R a0.2.1 a0 fun y8 p9=>
k (!y8))))
theorem q232 (F245:Xr) (Ea:Hj):EQ (zf6 (p232 F245 Ea)) (e232 F245 Ea) Tryz.f232 [(.tmp 2,4,false)]:=fun _ _ _=>by kernel_rfl
def F232:Qu:=p232 F245 Ea
theorem env232 (R:Type):Az Tryz.prog (e232 F245 Ea R):=⟨tabOK,eqOK,Mc (Wx zrh zeg) Fc (Aa ok245 Ab),Bw,Ak,noYl⟩
theorem zri:OKP (zf6 F232):=ST.ok3 (q232 F245 Ea) env232 Tryz.func232 (fun _=>rfl) (fun _=>rfl) (fun _=>rfl) [] trivial
abbrev zbq:=(R:Type)→Tq44→(Int→Option R)→Option R
def ztw (F:zbq):Ent:=eV 233 [Kq44] [(.int .u64)] F
def p233 (F232:Qu):zbq:=fun R a0 k=>
F232 R a0 fun y1=>
(match (!y1) with
|true=>k (0:Int)
|false=>let v2:=(a0.2.1.length:Int);let v3:=IntKind.u64.wrap v2;let v4:=IntKind.u64.wrap (v3*a0.1);k v4)
theorem q233 (F232:Qu):EQ (ztw (p233 F232)) (sE 0 13 [] [zf6 F232] []) Tryz.f233 [(.tmp 2,31,false)]:=fun _ _ _=>by kernel_rfl
def F233:zbq:=p233 F232
theorem ok233:OKP (ztw F233):=ST.ok0 (q233 F232) (Aa zri Ab) Tryz.func233
abbrev zm3:=(R:Type)→Tq44→Int→(Int→Option R)→Option R
def en256 (F:zm3):Ent:=eV 256 [Kq44,(.int .i64)] [(.int .i64)] F
def p256 (F232:Qu):zm3:=fun R a0 a1 k=>
F232 R a0 fun y1=>
(match (!y1) with
|true=>k (1:Int)
|false=>let v2:=decide (a1<0);(match v2 with
|true=>k (3:Int)
|false=>let v3:=(a0.2.1.length:Int);let v4:=decide (a1≥v3);(match v4 with
|true=>k (3:Int)
|false=>k (0:Int))))
theorem q256 (F232:Qu):EQ (en256 (p256 F232)) (sE 0 19 [] [zf6 F232] []) Tryz.f256 [(.tmp 4,38,false)]:=fun _ _ _=>by kernel_rfl
def F256:zm3:=p256 F232
theorem ok256:OKP (en256 F256):=ST.ok0 (q256 F232) (Aa zri Ab) Tryz.func256
abbrev zm6:=(R:Type)→Tq44→Int→Int→(Int→Int→Option R)→Option R
def en249 (F:zm6):Ent:=eV 249 [Kq44,(.int .i64),(.int .u64)] [(.int .i64),(.int .i64)] F
def p249 (F256:zm3):zm6:=fun R a0 a1 a2 k=>
F256 R a0 a1 fun y1=>
let v2:=y1 !=0;(match v2 with
|true=>k (0:Int) y1
|false=>let v3:=decide (a2≥a0.1);(match v3 with
|true=>k (0:Int) (3:Int)
|false=>(match bnd a1 a0.2.1.length with
|true=>let v4:=a0.2.1.getD a1.toNat (0,0,());let v5:=decide (a2≥v4.1);(match v5 with
|true=>k v4.2.1 (0:Int)
|false=>k a1 (0:Int))
|false=>none)))
theorem q249 (F256:zm3):EQ (en249 (p249 F256)) (sE 0 32 [] [en256 F256] []) Tryz.f249 [(.tmp 6,3,false),(.tmp 7,38,false)]:=fun _ _ _=>by kernel_rfl
def F249:zm6:=p249 F256
theorem ok249:OKP (en249 F249):=ST.ok0 (q249 F256) (Aa ok256 Ab) Tryz.func249
abbrev zm8:=(R:Type)→Tq44→Int→(Int→Int→Option R)→Option R
def en234 (F:zm8):Ent:=eV 234 [Kq44,(.int .u64)] [(.int .i64),(.int .i64)] F
def p234 (F232:Qu) (F233:zbq) (F249:zm6):zm8:=fun R a0 a1 k=>
F232 R a0 fun y1=>
(match (!y1) with
|true=>k (0:Int) (1:Int)
|false=>F233 R a0 fun y2=>
let v3:=decide (a1≥y2);(match v3 with
|true=>k (0:Int) (3:Int)
|false=>(match (!(a0.1==0)) with
|true=>let v4:=IntKind.u64.wrap (Int.tdiv a1 a0.1);let v5:=IntKind.i64.wrap v4;(match (!(a0.1==0)) with
|true=>let v6:=Int.tmod a1 a0.1;F249 R a0 v5 v6 fun y7 y8=>
k y7 y8
|false=>none)
|false=>none)))
theorem q234 (F232:Qu) (F233:zbq) (F249:zm6):EQ (en234 (p234 F232 F233 F249)) (sE 0 28 [] [zf6 F232,ztw F233,en249 F249] []) Tryz.f234 [(.tmp 4,3,false),(.tmp 5,38,false)]:=fun _ _ _=>by kernel_rfl
def F234:zm8:=p234 F232 F233 F249
theorem ok234:OKP (en234 F234):=ST.ok0 (q234 F232 F233 F249) (Aa zri (Aa ok233 (Aa ok249 Ab))) Tryz.func234
abbrev znf:=(R:Type)→Tq44→Tq40→Int→(Int→Tq40→Int→Option R)→Option R
def en208 (F:znf):Ent:=eV 208 [Kq44,Kq40,(.int .i64)] [(.int .i64),Kq40,(.int .i64)] F
def p208 (F188:zb4) (F232:Qu) (F233:zbq) (F234:zm8):znf:=fun R a0 a1 a2 k=>
F232 R a0 fun y1=>
(match (!y1) with
|true=>k (0:Int) a1 (1:Int)
|false=>F233 R a0 fun y2=>
F188 R a1 y2 a2 fun y3 y4 y5=>
let v6:=y5 !=0;(match v6 with
|true=>k (0:Int) y4 y5
|false=>F234 R a0 y3 fun y7 y8=>
k y7 y4 y8))
theorem q208 (F188:zb4) (F232:Qu) (F233:zbq) (F234:zm8):EQ (en208 (p208 F188 F232 F233 F234)) (sE 0 39 [] [zt1 F188,zf6 F232,ztw F233,en234 F234] []) Tryz.f208 [(.tmp 6,3,false),(.cell 7 126,126,false),(.tmp 8,38,false)]:=fun _ _ _=>by kernel_rfl
def F208:znf:=p208 F188 F232 F233 F234
theorem ok208:OKP (en208 F208):=ST.ok0 (q208 F188 F232 F233 F234) (Aa ok188 (Aa zri (Aa ok233 (Aa ok234 Ab)))) Tryz.func208
abbrev znn:=(R:Type)→Tq40→Int→LI→(Int→Tq40→Int→Option R)→Option R
def en173 (F:znn):Ent:=eV 173 [Kq40,(.int .i64),(.sl (.int .u64))] [(.int .i64),Kq40,(.int .i64)] F
def p173 (F207:zng) (F208:znf):znn:=fun R a0 a1 a2 k=>
F207 R a2 fun y1 y2=>
let v3:=y2 !=0;(match v3 with
|true=>k (0:Int) a0 y2
|false=>F208 R y1 a0 a1 fun y4 y5 y6=>
k y4 y5 y6)
theorem q173 (F207:zng) (F208:znf):EQ (en173 (p173 F207 F208)) (sE 0 27 [] [en207 F207,en208 F208] []) Tryz.f173 [(.tmp 6,3,false),(.cell 7 126,126,false),(.tmp 8,38,false)]:=fun _ _ _=>by kernel_rfl
def F173:znn:=p173 F207 F208
theorem ok173:OKP (en173 F173):=ST.ok0 (q173 F207 F208) (Aa ok207 (Aa ok208 Ab)) Tryz.func173
abbrev znv:=(R:Type)→LI→Int→Int→LI→(Int→Int→Option R)→Option R
def en124 (F:znv):Ent:=eV 124 [(.arr 32 (.int .u8)),(.int .i64),(.int .i64),(.sl (.int .u64))] [(.int .i64),(.int .i64)] F
def p124 (F62:FT62) (F64:FT64) (F173:znn):znv:=fun R a0 a1 a2 a3 k=>
F62 R (a0,a2,()) a1 fun y1=>
(match (!y1) with
|true=>k (0:Int) (1:Int)
|false=>F64 R (a0,a2,()) (2:Int) a1 fun y2=>
F173 R y2 a2 a3 fun y3 y4 y5=>
k y3 y5)
theorem q124 (F62:FT62) (F64:FT64) (F173:znn):EQ (en124 (p124 F62 F64 F173)) (sE 0 33 [] [en62 F62,en64 F64,en173 F173] []) Tryz.f124 [(.tmp 8,3,false),(.tmp 9,38,false)]:=fun _ _ _=>by kernel_rfl
def F124:znv:=p124 F62 F64 F173
theorem ok124:OKP (en124 F124):=ST.ok0 (q124 F62 F64 F173) (Aa ok62 (Aa ok64 (Aa ok173 Ab))) Tryz.func124
abbrev FT78:=(R:Type)→Tq31→Tq6→(Int→Tq31→Option R)→Option R
def en78 (F:FT78):Ent:=eM 78 [(true,Kq31),(false,Kq6)] [(false,(.int .i64))] F
def p78 (F121:Ue) (F123:Ln) (F124:znv):FT78:=fun R a0 a1 k=>
F121 R a0 a1.2.2.2.2.1 fun y1 p2=>
let v3:=y1 !=0;(match v3 with
|true=>k y1 p2
|false=>F123 R p2.1.2.2.1 fun y4=>
F124 R p2.1.2.2.2.1.2.1 a1.2.2.2.2.1 p2.1.1.2.2.2.1 y4 fun y5 y6=>
let v7:=([y5]:LI);k y6 (p2.1,(p2.2.1.1,p2.2.1.2.1,v7,p2.2.1.2.2.2),p2.2.2))
theorem q78 (F121:Ue) (F123:Ln) (F124:znv):EQ (en78 (p78 F121 F123 F124)) (sE 1 46 [] [zk9 F121,zao F123,en124 F124] []) Tryz.f78 [(.tmp 4,38,false)]:=fun _ _ _=>by kernel_rfl
def F78:FT78:=p78 F121 F123 F124
theorem ok78:OKP (en78 F78):=ST.ok0 (q78 F121 F123 F124) (Aa zzu (Aa zi5 (Aa ok124 Ab))) Tryz.func78
abbrev zci:=(R:Type)→Int→Tq40→Int→(Bool→Option R)→Option R
def en139 (F:zci):Ent:=eV 139 [(.int .i64),Kq40,(.int .i64)] [.bool] F
def p139 (F186:Nf):zci:=fun R a0 a1 a2 k=>
let v1:=decide (a0≥0);(match v1 with
|true=>let v2:=decide (a0≤256);(match v2 with
|true=>F186 R a1 fun y3=>
(match y3 with
|true=>let v4:=decide (a2>0);(match v4 with
|true=>let v5:=decide (a2≤64);k v5
|false=>k false)
|false=>k false)
|false=>k false)
|false=>k false)
theorem q139 (F186:Nf):EQ (en139 (p139 F186)) (sE 0 25 [] [zf7 F186] []) Tryz.f139 [(.tmp 6,4,false)]:=fun _ _ _=>by kernel_rfl
def F139:zci:=p139 F186
theorem ok139:OKP (en139 F139):=ST.ok0 (q139 F186) (Aa zi2 Ab) Tryz.func139
abbrev zch:=(R:Type)→(LI×Unit)→(LI→Option R)→Option R
def en140 (F:zch):Ent:=eV 140 [(.pair (.sl (.int .u64)) .unit)] [(.sl (.int .u64))] F
abbrev zp4 (Z:Type):=Int→LI→Z
abbrev zxn (R:Type):=(LI→Option R)→Option R
abbrev M5:=(R:Type)→zp4 (zxn R)
def Z5 (L:M5):LEnt:=lM 3 [.fix 3 (.own 1 0),.val 4 (.int .i64),.row 1 (.int .u64) false] 2 [(.exit 0,[.fix 3 (.own 1 0),.row 1 (.int .u64) false])] L
def e140 (F137:Lm) (F138:Hp) (L3:M5):=sE 0 36 [] [zud F137,zf8 F138] [Z5 L3]
def zdn (F138:Hp) (R:Type):zp4 (zp4 (Option R)→zxn R):=fun x1 x2 kc k0=>
let v3:=decide (x1>0);(match v3 with
|true=>F138 R x1 fun y4=>
let v5:=IntKind.i64.wrap (x1+y4);let v6:=(x2.length:Int);let v7:=decide (v5≤v6);(match v7 with
|true=>let v8:=IntKind.i64.wrap (v5 - 1);(match bnd v8 x2.length with
|true=>let v9:=x2.getD v8.toNat 0;let v10:=IntKind.i64.wrap (x1 - 1);(match bnd v10 x2.length with
|true=>let v11:=x2.getD v10.toNat 0;let v12:=IntKind.u64.wrap (v9 - v11);(match bnd v8 x2.length with
|true=>let v13:=x2.set v8.toNat v12;let v14:=IntKind.i64.wrap (x1 - 1);kc v14 v13
|false=>none)
|false=>none)
|false=>none)
|false=>let v15:=IntKind.i64.wrap (x1 - 1);kc v15 x2)
|false=>k0 x2)
theorem q140_3 (F137:Lm) (F138:Hp) (L3:M5):LEQ (Z5 L3) (e140 F137 F138 L3) Tryz.f140 (zdn F138):=fun _ _ _ _=>by kernel_rfl
def Ny:Nat→M5
 | 0=>fun _ _ _ _=>none
 | n+1=>fun R x1 x2 k0=>zdn F138 R x1 x2 (fun x1 x2=>Ny n R x1 x2 k0) k0
def p140 (F137:Lm) (L3:M5):zch:=fun R a0 k=>
F137 R a0.1 fun y1=>
let v2:=(y1.length:Int);L3 R v2 y1 (fun x3=>
k x3)
theorem q140 (F137:Lm) (F138:Hp) (L3:M5):EQ (en140 (p140 F137 L3)) (e140 F137 F138 L3) Tryz.f140 [(.tmp 2,54,false)]:=fun _ _ _=>by kernel_rfl
def F140:zch:=p140 F137 (Ny FUEL)
theorem zsp:LKP (Z5 (Ny FUEL)) 0 36 3 Tryz.f140:=ST.lok (q140_3 F137 F138 (Ny FUEL)) (Aa zfo (Aa Vt Ab)) [] trivial
theorem ok140:OKP (en140 F140):=ST.ok1 (q140 F137 F138 (Ny FUEL)) (Aa zfo (Aa Vt Ab)) Tryz.func140 [3] ⟨⟨_,rfl,zsp⟩,trivial⟩
abbrev zb3:=(R:Type)→(LI×Unit)→Int→(Int→Int→Option R)→Option R
def en190 (F:zb3):Ent:=eV 190 [(.pair (.sl (.int .u64)) .unit),(.int .i64)] [(.int .u64),(.int .i64)] F
def p190 (F221:zbu) (F222:Nd):zb3:=fun R a0 a1 k=>
let v1:=decide (a1<0);(match v1 with
|true=>k (0:Int) (3:Int)
|false=>F222 R a0 fun y2=>
let v3:=decide (a1≥y2);(match v3 with
|true=>k (0:Int) (3:Int)
|false=>let v4:=IntKind.i64.wrap (a1+1);F221 R a0 v4 fun y5=>
F221 R a0 a1 fun y6=>
let v7:=IntKind.u64.wrap (y5 - y6);k v7 (0:Int)))
theorem q190 (F221:zbu) (F222:Nd):EQ (en190 (p190 F221 F222)) (sE 0 22 [] [ztx F221,zk2 F222] []) Tryz.f190 [(.tmp 4,31,false),(.tmp 5,38,false)]:=fun _ _ _=>by kernel_rfl
def F190:zb3:=p190 F221 F222
theorem ok190:OKP (en190 F190):=ST.ok0 (q190 F221 F222) (Aa ok221 (Aa zi1 Ab)) Tryz.func190
abbrev zcg:=(R:Type)→(LI×Unit)→Int→Int→((LI×Unit)→Int→Option R)→Option R
def en142 (F:zcg):Ent:=eV 142 [(.pair (.sl (.int .u64)) .unit),(.int .i64),(.int .u64)] [(.pair (.sl (.int .u64)) .unit),(.int .i64)] F
abbrev zp3 (Z:Type):=Int→Int→Int→(LI×Unit)→LI→Z
abbrev zxm (R:Type):=((LI×Unit)→LI→Option R)→Option R
abbrev M4:=(R:Type)→zp3 (zxm R)
def Z4 (L:M4):LEnt:=lM 9 [.val 2 (.int .u64),.fix 6 (.ptr 1 [] (.pair (.sl (.int .u64)) .unit)),.val 8 (.int .u64),.fix 12 (.own 2 0),.val 13 (.int .i64),.var 1 (.pair (.sl (.int .u64)) .unit) false,.row 2 (.int .u64) false] 3 [(.exit 0,[.fix 6 (.ptr 1 [] (.pair (.sl (.int .u64)) .unit)),.fix 12 (.own 2 0),.var 1 (.pair (.sl (.int .u64)) .unit) false,.row 2 (.int .u64) false])] L
def e142 (F137:Lm) (F138:Hp) (F155:Ll) (F187:Lk) (F190:zb3) (L9:M4):=sE 0 64 [] [zud F137,zf8 F138,zk8 F155,zk5 F187,en190 F190] [Z4 L9]
def zis (F138:Hp) (R:Type):zp3 (zp3 (Option R)→zxm R):=fun x1 x2 x3 x4 x5 kc k0=>
let v6:=(x5.length:Int);let v7:=decide (x3≤v6);(match v7 with
|true=>let v8:=IntKind.i64.wrap (x3 - 1);let v9:=IntKind.i64.wrap (x3 - 1);(match bnd v9 x5.length with
|true=>let v10:=x5.getD v9.toNat 0;let v11:=IntKind.u64.wrap (v10 - x2);let v12:=IntKind.u64.wrap (v11+x1);(match bnd v8 x5.length with
|true=>let v13:=x5.set v8.toNat v12;F138 R x3 fun y14=>
let v15:=IntKind.i64.wrap (x3+y14);kc x1 x2 v15 x4 v13
|false=>none)
|false=>none)
|false=>k0 x4 x5)
theorem q142_9 (F137:Lm) (F138:Hp) (F155:Ll) (F187:Lk) (F190:zb3) (L9:M4):LEQ (Z4 L9) (e142 F137 F138 F155 F187 F190 L9) Tryz.f142 (zis F138):=fun _ _ _ _=>by kernel_rfl
def Qq:Nat→M4
 | 0=>fun _ _ _ _ _ _ _=>none
 | n+1=>fun R x1 x2 x3 x4 x5 k0=>zis F138 R x1 x2 x3 x4 x5 (fun x1 x2 x3 x4 x5=>Qq n R x1 x2 x3 x4 x5 k0) k0
def p142 (F137:Lm) (F155:Ll) (F187:Lk) (F190:zb3) (L9:M4):zcg:=fun R a0 a1 a2 k=>
F190 R a0 a1 fun y1 y2=>
let v3:=y2 !=0;(match v3 with
|true=>k (([]:LI),()) y2
|false=>F187 R a0 fun y4=>
let v5:=IntKind.u64.wrap (y4 - y1);F155 R v5 a2 fun y6 y7=>
(match (!y7) with
|true=>k (([]:LI),()) (11:Int)
|false=>F137 R a0.1 fun y8=>
let v9:=IntKind.i64.wrap (a1+1);L9 R a2 y1 v9 (([]:LI),()) y8 (fun x10 x11=>
k (x11,()) (0:Int))))
theorem q142 (F137:Lm) (F138:Hp) (F155:Ll) (F187:Lk) (F190:zb3) (L9:M4):EQ (en142 (p142 F137 F155 F187 F190 L9)) (e142 F137 F138 F155 F187 F190 L9) Tryz.f142 [(.cell 6 122,122,false),(.tmp 7,38,false)]:=fun _ _ _=>by kernel_rfl
def F142:zcg:=p142 F137 F155 F187 F190 (Qq FUEL)
theorem zso:LKP (Z4 (Qq FUEL)) 0 64 9 Tryz.f142:=ST.lok (q142_9 F137 F138 F155 F187 F190 (Qq FUEL)) (Aa zfo (Aa Vt (Aa zi3 (Aa zfn (Aa ok190 Ab))))) [] trivial
theorem ok142:OKP (en142 F142):=ST.ok1 (q142 F137 F138 F155 F187 F190 (Qq FUEL)) (Aa zfo (Aa Vt (Aa zi3 (Aa zfn (Aa ok190 Ab))))) Tryz.func142 [9] ⟨⟨_,rfl,zso⟩,trivial⟩
abbrev zn9:=(R:Type)→(LI×Unit)→Int→Tq40→Int→(LI→Tq40→Int→Option R)→Option R
def en101 (F:zn9):Ent:=eV 101 [(.pair (.sl (.int .u64)) .unit),(.int .i64),Kq40,(.int .i64)] [(.sl (.int .i64)),Kq40,(.int .i64)] F
abbrev zqc (Z:Type):=Int→Int→(LI×Unit)→Tq40→LI→Tq40→Z
abbrev zxv (R:Type):=(Int→Tq40→Option R)→(Tq40→LI→Tq40→Option R)→Option R
abbrev M9:=(R:Type)→zqc (zxv R)
def zad (L:M9):LEnt:=lM 5 [.val 1 (.int .i64),.val 3 (.int .i64),.fix 4 (.ptr 0 [] (.pair (.sl (.int .u64)) .unit)),.fix 6 (.ptr 1 [] Kq40),.fix 8 (.own 2 0),.fix 9 (.ptr 3 [] Kq40),.var 0 (.pair (.sl (.int .u64)) .unit) false,.var 1 Kq40 false,.row 2 (.int .i64) false,.var 3 Kq40 false] 4 [(.ret,[.fix 8 .nil,.fix 9 (.ptr 3 [] Kq40),.val 10 (.int .i64),.var 3 Kq40 false]),(.exit 1,[.fix 6 (.ptr 1 [] Kq40),.fix 8 (.own 2 0),.fix 9 (.ptr 3 [] Kq40),.var 1 Kq40 false,.row 2 (.int .i64) false,.var 3 Kq40 false])] L
def e101 (F122:Ud) (F139:zci) (F140:zch) (F141:Uc) (F142:zcg) (L5:M9):=sE 0 61 [(0,2)] [zue F122,en139 F139,en140 F140,zuc F141,en142 F142] [zad L5]
def zdq (F141:Uc) (F142:zcg) (R:Type):zqc (zqc (Option R)→zxv R):=fun x1 x2 x3 x4 x5 x6 kc k0 k1=>
let v7:=(x5.length:Int);let v8:=decide (v7<x1);(match v8 with
|true=>F141 R x3 x4 x2 fun y9 y10 y11=>
let v12:=y11 !=0;(match v12 with
|true=>k0 y11 y10
|false=>let v13:=([y9]:LI);(match (decide (x5.length+v13.length≤17592186044416)) with
|true=>let v14:=x5++v13;F142 R x3 y9 (0:Int) fun y15 y16=>
let v17:=y16 !=0;(match v17 with
|true=>k0 y16 y10
|false=>kc x1 x2 y15 y10 v14 x6)
|false=>none))
|false=>k1 x4 x5 x6)
theorem q101_5 (F122:Ud) (F139:zci) (F140:zch) (F141:Uc) (F142:zcg) (L5:M9):LEQ (zad L5) (e101 F122 F139 F140 F141 F142 L5) Tryz.f101 (zdq F141 F142):=fun _ _ _ _=>by kernel_rfl
def N1:Nat→M9
 | 0=>fun _ _ _ _ _ _ _ _ _=>none
 | n+1=>fun R x1 x2 x3 x4 x5 x6 k0 k1=>zdq F141 F142 R x1 x2 x3 x4 x5 x6 (fun x1 x2 x3 x4 x5 x6=>N1 n R x1 x2 x3 x4 x5 x6 k0 k1) k0 k1
def p101 (F122:Ud) (F139:zci) (F140:zch) (L5:M9):zn9:=fun R a0 a1 a2 a3 k=>
F139 R a1 a2 a3 fun y1=>
(match (!y1) with
|true=>k ([]:LI) a2 (1:Int)
|false=>F140 R a0 fun y2=>
F122 R y2 fun y3=>
let v4:=decide (y3<a1);(match v4 with
|true=>k ([]:LI) a2 (12:Int)
|false=>L5 R a1 a3 a0 a2 ([]:LI) ((0:Int),([]:LI),(0:Int),(List.replicate 32 (0:Int)),(0:Int),(0:Int),()) (fun x5 x6=>
k ([]:LI) x6 x5) (fun x7 x8 x9=>
k x8 x7 (0:Int))))
theorem q101 (F122:Ud) (F139:zci) (F140:zch) (F141:Uc) (F142:zcg) (L5:M9):EQ (en101 (p101 F122 F139 F140 L5)) (e101 F122 F139 F140 F141 F142 L5) Tryz.f101 [(.tmp 8,35,false),(.cell 9 126,126,false),(.tmp 10,38,false)]:=fun _ _ _=>by kernel_rfl
def F101:zn9:=p101 F122 F139 F140 (N1 FUEL)
theorem zsx:LKP (zad (N1 FUEL)) 0 61 5 Tryz.f101:=ST.lok (q101_5 F122 F139 F140 F141 F142 (N1 FUEL)) (Aa zzt (Aa ok139 (Aa ok140 (Aa zzr (Aa ok142 Ab))))) [] trivial
theorem ok101:OKP (en101 F101):=ST.ok1 (q101 F122 F139 F140 F141 F142 (N1 FUEL)) (Aa zzt (Aa ok139 (Aa ok140 (Aa zzr (Aa ok142 Ab))))) Tryz.func101 [5] ⟨⟨_,rfl,zsx⟩,trivial⟩
abbrev FT63:=(R:Type)→Int→Tq40→Int→LI→(LI→Tq40→Int→Option R)→Option R
def en63 (F:FT63):Ent:=eV 63 [(.int .i64),Kq40,(.int .i64),(.sl (.int .u64))] [(.sl (.int .i64)),Kq40,(.int .i64)] F
def p63 (F100:Ug) (F101:zn9):FT63:=fun R a0 a1 a2 a3 k=>
F100 R a3 fun y1 y2=>
let v3:=y2 !=0;(match v3 with
|true=>k ([]:LI) a1 y2
|false=>F101 R y1 a0 a1 a2 fun y4 y5 y6=>
k y4 y5 y6)
theorem q63 (F100:Ug) (F101:zn9):EQ (en63 (p63 F100 F101)) (sE 0 30 [] [zuj F100,en101 F101] []) Tryz.f63 [(.tmp 8,35,false),(.cell 9 126,126,false),(.tmp 10,38,false)]:=fun _ _ _=>by kernel_rfl
def F63:FT63:=p63 F100 F101
theorem ok63:OKP (en63 F63):=ST.ok0 (q63 F100 F101) (Aa zzw (Aa ok101 Ab)) Tryz.func63
abbrev FT33:=(R:Type)→LI→Int→Int→Int→LI→(LI→Int→Option R)→Option R
def en33 (F:FT33):Ent:=eV 33 [(.arr 32 (.int .u8)),(.int .i64),(.int .i64),(.int .i64),(.sl (.int .u64))] [(.sl (.int .i64)),(.int .i64)] F
def p33 (F62:FT62) (F63:FT63) (F64:FT64):FT33:=fun R a0 a1 a2 a3 a4 k=>
F62 R (a0,a3,()) a1 fun y1=>
(match (!y1) with
|true=>k ([]:LI) (1:Int)
|false=>F64 R (a0,a3,()) (3:Int) a1 fun y2=>
F63 R a2 y2 a3 a4 fun y3 y4 y5=>
k y3 y5)
theorem q33 (F62:FT62) (F63:FT63) (F64:FT64):EQ (en33 (p33 F62 F63 F64)) (sE 0 36 [] [en62 F62,en63 F63,en64 F64] []) Tryz.f33 [(.tmp 10,35,false),(.tmp 11,38,false)]:=fun _ _ _=>by kernel_rfl
def F33:FT33:=p33 F62 F63 F64
theorem ok33:OKP (en33 F33):=ST.ok0 (q33 F62 F63 F64) (Aa ok62 (Aa ok63 (Aa ok64 Ab))) Tryz.func33
abbrev FT79:=(R:Type)→Tq31→Tq6→(Int→Tq31→Option R)→Option R
def en79 (F:FT79):Ent:=eM 79 [(true,Kq31),(false,Kq6)] [(false,(.int .i64))] F
def p79 (F33:FT33) (F121:Ue) (F123:Ln):FT79:=fun R a0 a1 k=>
F121 R a0 a1.2.2.2.2.1 fun y1 p2=>
let v3:=y1 !=0;(match v3 with
|true=>k y1 p2
|false=>F123 R p2.1.2.2.1 fun y4=>
F33 R p2.1.2.2.2.1.2.1 a1.2.2.2.2.1 a1.2.1 p2.1.1.2.2.2.1 y4 fun y5 y6=>
k y6 (p2.1,(p2.2.1.1,p2.2.1.2.1,y5,p2.2.1.2.2.2),p2.2.2))
theorem q79 (F33:FT33) (F121:Ue) (F123:Ln):EQ (en79 (p79 F33 F121 F123)) (sE 1 44 [] [en33 F33,zk9 F121,zao F123] []) Tryz.f79 [(.tmp 4,38,false)]:=fun _ _ _=>by kernel_rfl
def F79:FT79:=p79 F33 F121 F123
theorem ok79:OKP (en79 F79):=ST.ok0 (q79 F33 F121 F123) (Aa ok33 (Aa zzu (Aa zi5 Ab))) Tryz.func79
abbrev FT80:=(R:Type)→Tq31→Tq6→(Int→Tq31→Option R)→Option R
def en80 (F:FT80):Ent:=eM 80 [(true,Kq31),(false,Kq6)] [(false,(.int .i64))] F
def p80 (F113:Qv):FT80:=fun R a0 a1 k=>
F113 R a0 a1.2.1 fun y1 p2=>
let v3:=y1 !=0;(match v3 with
|true=>k y1 p2
|false=>(match bnd a1.2.1 p2.1.2.2.1.length with
|true=>let v4:=p2.1.2.2.1.getD a1.2.1.toNat ((List.replicate 32 0),0,0,());let v5:=a1.2.2.2.2.1==0;(match v5 with
|true=>k (0:Int) (p2.1,(p2.2.1.1,v4.2.1,p2.2.1.2.2),p2.2.2)
|false=>k (0:Int) (p2.1,(p2.2.1.1,v4.2.2.1,p2.2.1.2.2),p2.2.2))
|false=>none))
theorem q80 (F113:Qv):EQ (en80 (p80 F113)) (sE 1 38 [] [zla F113] []) Tryz.f80 [(.tmp 4,38,false)]:=fun _ _ _=>by kernel_rfl
def F80:FT80:=p80 F113
theorem ok80:OKP (en80 F80):=ST.ok0 (q80 F113) (Aa zzv Ab) Tryz.func80
abbrev FT81:=(R:Type)→Tq31→Tq6→(Int→Tq31→Option R)→Option R
def en81 (F:FT81):Ent:=eM 81 [(true,Kq31),(false,Kq6)] [(false,(.int .i64))] F
def p81:FT81:=fun R a0 a1 k=>
k (0:Int) (a0.1,(a0.2.1.1,a0.1.2.2.2.1.1,a0.2.1.2.2.1,a0.1.2.2.2.1.2.1,a0.2.1.2.2.2.2),a0.2.2)
theorem q81:EQ (en81 p81) (sE 1 25 [] [] []) Tryz.f81 [(.tmp 4,38,false)]:=fun _ _ _=>by kernel_rfl
def F81:FT81:=p81
theorem ok81:OKP (en81 F81):=ST.ok0 q81 Ab Tryz.func81
abbrev FT14:=(R:Type)→Tq29→Tq6→(Tq29→Tq17→Option R)→Option R
def en14 (F:FT14):Ent:=eV 14 [Kq29,Kq6] [Kq29,Kq17] F
def e38i0 (R:Type):Env R:=⟨TT,EQT,0,3,Bm [],Bd [] R,fun _ _ _=>none,[],Bc [],[],fun _ _ _ _=>none⟩
theorem env38i0 (R:Type):Az Tryz.prog (e38i0 R):=⟨tabOK,eqOK,Aq Ab,Bw,Ak,noYl⟩
def e14 (F21:FT21) (F68:FT68) (F69:FT69) (F70:FT70) (F71:FT71) (F74:FT74) (F76:FT76) (F77:FT77) (F78:FT78) (F79:FT79) (F80:FT80) (F81:FT81) (R:Type):Env R:=⟨TT,EQT,0,46,Bm [(1,0)],Bd [en21 F21,en68 F68,en69 F69,en70 F70,en71 F71,en74 F74,en76 F76,en77 F77,en78 F78,en79 F79,en80 F80,en81 F81] R,Bl [] R,[],Bc [(38,xinl (e38i0 R) (Ag Tryz.f38) [.tmp 0] 0)],[(FnV.fn 68),(FnV.fn 69),(FnV.fn 70),(FnV.fn 71),(FnV.fn 74),(FnV.fn 76),(FnV.fn 77),(FnV.fn 78),(FnV.fn 79),(FnV.fn 80),(FnV.fn 81)],fun _ _ _ _=>none⟩
def p14 (F21:FT21) (F68:FT68) (F69:FT69) (F70:FT70) (F71:FT71) (F74:FT74) (F76:FT76) (F77:FT77) (F78:FT78) (F79:FT79) (F80:FT80) (F81:FT81):FT14:=fun R a0 a1 k=>
(match (Option.isNone (B2 (Kd.eqv (.int .i64)) ([]:List (Int×FnV)) (1:Int))) with
|true=>let v1:=([]:List (Int×FnV))++[((1:Int),(FnV.fn 68))];(match (Option.isNone (B2 (Kd.eqv (.int .i64)) v1 (2:Int))) with
|true=>let v2:=v1++[((2:Int),(FnV.fn 69))];(match (Option.isNone (B2 (Kd.eqv (.int .i64)) v2 (3:Int))) with
|true=>let v3:=v2++[((3:Int),(FnV.fn 70))];(match (Option.isNone (B2 (Kd.eqv (.int .i64)) v3 (4:Int))) with
|true=>let v4:=v3++[((4:Int),(FnV.fn 71))];(match (Option.isNone (B2 (Kd.eqv (.int .i64)) v4 (5:Int))) with
|true=>let v5:=v4++[((5:Int),(FnV.fn 74))];(match (Option.isNone (B2 (Kd.eqv (.int .i64)) v5 (6:Int))) with
|true=>let v6:=v5++[((6:Int),(FnV.fn 76))];(match (Option.isNone (B2 (Kd.eqv (.int .i64)) v6 (7:Int))) with
|true=>let v7:=v6++[((7:Int),(FnV.fn 77))];(match (Option.isNone (B2 (Kd.eqv (.int .i64)) v7 (8:Int))) with
|true=>let v8:=v7++[((8:Int),(FnV.fn 78))];(match (Option.isNone (B2 (Kd.eqv (.int .i64)) v8 (9:Int))) with
|true=>let v9:=v8++[((9:Int),(FnV.fn 79))];(match (Option.isNone (B2 (Kd.eqv (.int .i64)) v9 (10:Int))) with
|true=>let v10:=v9++[((10:Int),(FnV.fn 80))];(match (Option.isNone (B2 (Kd.eqv (.int .i64)) v10 (11:Int))) with
|true=>let v11:=v10++[((11:Int),(FnV.fn 81))];let v12:=Option.getD (B2 (Kd.eqv (.int .i64)) v11 a1.1) FnV.nil;let v13:=Option.isSome (B2 (Kd.eqv (.int .i64)) v11 a1.1);(match (!v13) with
|true=>k a0 ((2:Int),(0:Int),([]:LI),(List.replicate 32 (0:Int)),())
|false=>F21 R a1 fun y14=>
(match (!y14) with
|true=>k a0 ((2:Int),(0:Int),([]:LI),(List.replicate 32 (0:Int)),())
|false=>(match (FnV.same v12 (FnV.fn 68)) with
|true=>F68 R (a0,((0:Int),(0:Int),([]:LI),(List.replicate 32 (0:Int)),()),()) a1 fun y15 p16=>
let v17:=y15 !=0;(match v17 with
|true=>k a0 (y15,(0:Int),([]:LI),(List.replicate 32 (0:Int)),())
|false=>k p16.1 p16.2.1)
|false=>(match (FnV.same v12 (FnV.fn 69)) with
|true=>F69 R (a0,((0:Int),(0:Int),([]:LI),(List.replicate 32 (0:Int)),()),()) a1 fun y18 p19=>
let v20:=y18 !=0;(match v20 with
|true=>k a0 (y18,(0:Int),([]:LI),(List.replicate 32 (0:Int)),())
|false=>k p19.1 p19.2.1)
|false=>(match (FnV.same v12 (FnV.fn 70)) with
|true=>F70 R (a0,((0:Int),(0:Int),([]:LI),(List.replicate 32 (0:Int)),()),()) a1 fun y21 p22=>
let v23:=y21 !=0;(match v23 with
|true=>k a0 (y21,(0:Int),([]:LI),(List.replicate 32 (0:Int)),())
|false=>k p22.1 p22.2.1)
|false=>(match (FnV.same v12 (FnV.fn 71)) with
|true=>F71 R (a0,((0:Int),(0:Int),([]:LI),(List.replicate 32 (0:Int)),()),()) a1 fun y24 p25=>
let v26:=y24 !=0;(match v26 with
|true=>k a0 (y24,(0:Int),([]:LI),(List.replicate 32 (0:Int)),())
|false=>k p25.1 p25.2.1)
|false=>(match (FnV.same v12 (FnV.fn 74)) with
|true=>F74 R (a0,((0:Int),(0:Int),([]:LI),(List.replicate 32 (0:Int)),()),()) a1 fun y27 p28=>
let v29:=y27 !=0;(match v29 with
|true=>k a0 (y27,(0:Int),([]:LI),(List.replicate 32 (0:Int)),())
|false=>k p28.1 p28.2.1)
|false=>(match (FnV.same v12 (FnV.fn 76)) with
|true=>F76 R (a0,((0:Int),(0:Int),([]:LI),(List.replicate 32 (0:Int)),()),()) a1 fun y30 p31=>
let v32:=y30 !=0;(match v32 with
|true=>k a0 (y30,(0:Int),([]:LI),(List.replicate 32 (0:Int)),())
|false=>k p31.1 p31.2.1)
|false=>(match (FnV.same v12 (FnV.fn 77)) with
|true=>F77 R (a0,((0:Int),(0:Int),([]:LI),(List.replicate 32 (0:Int)),()),()) a1 fun y33 p34=>
let v35:=y33 !=0;(match v35 with
|true=>k a0 (y33,(0:Int),([]:LI),(List.replicate 32 (0:Int)),())
|false=>k p34.1 p34.2.1)
|false=>(match (FnV.same v12 (FnV.fn 78)) with
|true=>F78 R (a0,((0:Int),(0:Int),([]:LI),(List.replicate 32 (0:Int)),()),()) a1 fun y36 p37=>
let v38:=y36 !=0;(match v38 with
|true=>k a0 (y36,(0:Int),([]:LI),(List.replicate 32 (0:Int)),())
|false=>k p37.1 p37.2.1)
|false=>(match (FnV.same v12 (FnV.fn 79)) with
|true=>F79 R (a0,((0:Int),(0:Int),([]:LI),(List.replicate 32 (0:Int)),()),()) a1 fun y39 p40=>
let v41:=y39 !=0;(match v41 with
|true=>k a0 (y39,(0:Int),([]:LI),(List.replicate 32 (0:Int)),())
|false=>k p40.1 p40.2.1)
|false=>(match (FnV.same v12 (FnV.fn 80)) with
|true=>F80 R (a0,((0:Int),(0:Int),([]:LI),(List.replicate 32 (0:Int)),()),()) a1 fun y42 p43=>
let v44:=y42 !=0;(match v44 with
|true=>k a0 (y42,(0:Int),([]:LI),(List.replicate 32 (0:Int)),())
|false=>k p43.1 p43.2.1)
|false=>(match (FnV.same v12 (FnV.fn 81)) with
|true=>F81 R (a0,((0:Int),(0:Int),([]:LI),(List.replicate 32 (0:Int)),()),()) a1 fun y45 p46=>
let v47:=y45 !=0;(match v47 with
|true=>k a0 (y45,(0:Int),([]:LI),(List.replicate 32 (0:Int)),())
|false=>k p46.1 p46.2.1)
|false=>none)))))))))))))
|false=>none)
|false=>none)
|false=>none)
|false=>none)
|false=>none)
|false=>none)
|false=>none)
|false=>none)
|false=>none)
|false=>none)
|false=>none)
theorem q14 (F21:FT21) (F68:FT68) (F69:FT69) (F70:FT70) (F71:FT71) (F74:FT74) (F76:FT76) (F77:FT77) (F78:FT78) (F79:FT79) (F80:FT80) (F81:FT81):EQ (en14 (p14 F21 F68 F69 F70 F71 F74 F76 F77 F78 F79 F80 F81)) (e14 F21 F68 F69 F70 F71 F74 F76 F77 F78 F79 F80 F81) Tryz.f14 [(.cell 4 37,37,false),(.cell 5 45,45,false)]:=fun _ _ _=>by kernel_rfl
def F14:FT14:=p14 F21 F68 F69 F70 F71 F74 F76 F77 F78 F79 F80 F81
theorem env14 (R:Type):Az Tryz.prog (e14 F21 F68 F69 F70 F71 F74 F76 F77 F78 F79 F80 F81 R):=⟨tabOK,eqOK,Aq (Aa ok21 (Aa ok68 (Aa ok69 (Aa ok70 (Aa ok71 (Aa ok74 (Aa ok76 (Aa ok77 (Aa ok78 (Aa ok79 (Aa ok80 (Aa ok81 Ab)))))))))))),Bw,(A9 (Bb (env38i0 R) mixed Tryz.func38 (body:=Ag Tryz.f38) (by kernel_rfl) (by kernel_rfl) (by kernel_rfl) (res:=[.tmp 0]) (by kernel_rfl) (n:=0) (Nat.le_of_ble_eq_true rfl) (by kernel_rfl)) Ak),noYl⟩
theorem ok14:OKP (en14 F14):=ST.ok3 (q14 F21 F68 F69 F70 F71 F74 F76 F77 F78 F79 F80 F81) env14 Tryz.func14 (fun _=>rfl) (fun _=>rfl) (fun _=>rfl) [] trivial
abbrev FT42:=(R:Type)→Tq29→(List Tq6)→(Tq29→(List Tq17)→Option R)→Option R
def en42 (F:FT42):Ent:=eV 42 [Kq29,(.sl Kq6)] [Kq29,(.sl Kq17)] F
abbrev D42_3 (Z:Type):=(List Tq6)→Int→Int→Tq29→Tq29→(List Tq17)→Z
abbrev E42_3 (R:Type):=(Tq29→Tq29→(List Tq17)→Option R)→Option R
abbrev R6:=(R:Type)→D42_3 (E42_3 R)
def zj2 (L:R6):LEnt:=lM 3 [.fix 2 (.ptr 0 [] Kq29),.fix 4 (.ptr 1 [] Kq29),.fix 6 (.own 2 0),.val 11 (.sl Kq6),.val 12 (.int .i64),.val 13 (.int .i64),.var 0 Kq29 false,.var 1 Kq29 false,.row 2 Kq17 false] 3 [(.exit 0,[.fix 2 (.ptr 0 [] Kq29),.fix 4 (.ptr 1 [] Kq29),.fix 6 (.own 2 0),.var 0 Kq29 false,.var 1 Kq29 false,.row 2 Kq17 false])] L
def e42 (F14:FT14) (L3:R6):=sE 0 31 [(1,0)] [en14 F14] [zj2 L3]
def zy6 (F14:FT14) (R:Type):D42_3 (D42_3 (Option R)→E42_3 R):=fun x1 x2 x3 x4 x5 x6 kc k0=>
let v7:=decide (x3<x2);(match v7 with
|true=>(match bnd x3 x1.length with
|true=>let v8:=x1.getD x3.toNat (0,0,0,(List.replicate 32 0),0,());F14 R x4 v8 fun y9 y10=>
let v11:=([y10]:(List Tq17));(match (decide (x6.length+v11.length≤1954687338268)) with
|true=>let v12:=x6++v11;let v13:=IntKind.i64.wrap (x3+1);kc x1 x2 v13 y9 x5 v12
|false=>none)
|false=>none)
|false=>k0 x4 x5 x6)
theorem q42_3 (F14:FT14) (L3:R6):LEQ (zj2 L3) (e42 F14 L3) Tryz.f42 (zy6 F14):=fun _ _ _ _=>by kernel_rfl
def za9:Nat→R6
 | 0=>fun _ _ _ _ _ _ _ _=>none
 | n+1=>fun R x1 x2 x3 x4 x5 x6 k0=>zy6 F14 R x1 x2 x3 x4 x5 x6 (fun x1 x2 x3 x4 x5 x6=>za9 n R x1 x2 x3 x4 x5 x6 k0) k0
def p42 (L3:R6):FT42:=fun R a0 a1 k=>
let v1:=(a1.length:Int);L3 R a1 v1 (0:Int) a0 (((0:Int),(0:Int),(0:Int),(0:Int),(0:Int),()),(0:Int),([]:(List Tq11)),((0:Int),(List.replicate 32 (0:Int)),(List.replicate 32 (0:Int)),([]:(List Tq9)),()),([]:LI),([]:LI),()) ([]:(List Tq17)) (fun x2 x3 x4=>
k x2 x4)
theorem q42 (F14:FT14) (L3:R6):EQ (en42 (p42 L3)) (e42 F14 L3) Tryz.f42 [(.cell 4 37,37,false),(.tmp 5,56,false)]:=fun _ _ _=>by kernel_rfl
def F42:FT42:=p42 (za9 FUEL)
theorem lok42_3:LKP (zj2 (za9 FUEL)) 0 31 3 Tryz.f42:=ST.lok (q42_3 F14 (za9 FUEL)) (Aa ok14 Ab) [] trivial
theorem ok42:OKP (en42 F42):=ST.ok1 (q42 F14 (za9 FUEL)) (Aa ok14 Ab) Tryz.func42 [3] ⟨⟨_,rfl,lok42_3⟩,trivial⟩
abbrev FT19:=(R:Type)→Tq21→LI→LI→(Tq29→(List Tq17)→Int→Option R)→Option R
def en19 (F:FT19):Ent:=eV 19 [Kq21,(.arr 32 (.int .u8)),(.sl (.int .u8))] [Kq29,(.sl Kq17),(.int .i64)] F
def p19 (F11:FT11) (F13:FT13) (F42:FT42):FT19:=fun R a0 a1 a2 k=>
F11 R a0 a1 fun y1 y2=>
let v3:=y2 !=0;(match v3 with
|true=>k (((0:Int),(0:Int),(0:Int),(0:Int),(0:Int),()),(0:Int),([]:(List Tq11)),((0:Int),(List.replicate 32 (0:Int)),(List.replicate 32 (0:Int)),([]:(List Tq9)),()),([]:LI),([]:LI),()) ([]:(List Tq17)) y2
|false=>let v4:=(a2.length:Int);let v5:=decide (v4>100000);(match v5 with
|true=>k (((0:Int),(0:Int),(0:Int),(0:Int),(0:Int),()),(0:Int),([]:(List Tq11)),((0:Int),(List.replicate 32 (0:Int)),(List.replicate 32 (0:Int)),([]:(List Tq9)),()),([]:LI),([]:LI),()) ([]:(List Tq17)) (14:Int)
|false=>F13 R a2 fun y6=>
let v7:=(y6.length:Int);let v8:=decide (v7>2000);(match v8 with
|true=>k (((0:Int),(0:Int),(0:Int),(0:Int),(0:Int),()),(0:Int),([]:(List Tq11)),((0:Int),(List.replicate 32 (0:Int)),(List.replicate 32 (0:Int)),([]:(List Tq9)),()),([]:LI),([]:LI),()) ([]:(List Tq17)) (14:Int)
|false=>F42 R y1 y6 fun y9 y10=>
k y9 y10 (0:Int))))
theorem q19 (F11:FT11) (F13:FT13) (F42:FT42):EQ (en19 (p19 F11 F13 F42)) (sE 0 41 [] [en11 F11,en13 F13,en42 F42] []) Tryz.f19 [(.cell 6 37,37,false),(.tmp 7,56,false),(.tmp 8,38,false)]:=fun _ _ _=>by kernel_rfl
def F19:FT19:=p19 F11 F13 F42
theorem ok19:OKP (en19 F19):=ST.ok0 (q19 F11 F13 F42) (Aa ok11 (Aa ok13 (Aa ok42 Ab))) Tryz.func19
def Js:Code→Option (Operand×Array Tmp×Code×Code)
 | .rangeFunc g p a b=>some (g,p,a,b)
 | .seq a b=>match Js a with
  | some x=>some x
  | none=>Js b
 | .block _ c=>Js c
 | _=>none
def rfG (fn:Func):Operand:=match Js (Ag fn) with | some (g,_,_,_)=>g | none=>.const (.bool false)
def rfP (fn:Func):Array Tmp:=match Js (Ag fn) with | some (_,p,_,_)=>p | none=>#[]
def rfA (fn:Func):Code:=match Js (Ag fn) with | some (_,_,a,_)=>a | none=>.skip
def rfB (fn:Func):Code:=match Js (Ag fn) with | some (_,_,_,b)=>b | none=>.skip
def tm29:List (Nat×SV):=[(8,.mptr 3 0 (.sl Kq37)),(9,.ptr 4 [] Kq37)]
def gs29:SV→Bool
 | .dead=>true
 | .yv i=>Nat.beq i 1000
 | .mptr b _ _=>Nat.beq b 3
 | .ptr b _ _=>Nat.beq b 4
 | _=>false
def d29:RD:=⟨tget tm29,(rfP Tryz.f29).toList,rfA Tryz.f29,rfB Tryz.f29,55,1000⟩
def nt91:NT:=⟨50,gs29,some d29⟩
def e53 (R:Type):Env R:=⟨TT,EQT,0,8,Bm [],fun _ _ _=>none,fun _ _ _=>none,[],Bc [],[],fun _ _ _ _=>none⟩
def e29 (F34:FT34) (F54:FT54) (F55:FT55) (R:Type):Env R:=⟨TT,EQT,0,55,Bm [(0,2),(4,4)],Bd [en34 F34,en54 F54,en55 F55] R,fun _ _ _=>none,[],Bc [(53,xinl (e53 R) (Ag Tryz.f53) [.tmp 6] 3)],[],fun _ _ _ _=>none⟩
abbrev D91 (Z:Type):=Int→Int→Int→List Bool→Int→List Tq6→List Tq17→List Tq37→Unit→Tq37→Z
abbrev E91 (R:Type):=(List Bool→List Tq37→Unit→Tq37→Option R)→Option R
abbrev LT91:=(R:Type)→D91 (E91 R)
abbrev H91:List HI:=[.fix 0 (.yv 1000),.fix 1 (.ptr 6 [] (.sl Kq6)),.fix 2 (.ptr 7 [] (.sl Kq17)),.fix 3 (.ptr 5 [] (.int .i64)),.val 5 (.int .i64),.val 12 (.int .i64),.val 13 (.int .i64),.row 1000 .bool false,.var 5 (.int .i64) false,.var 6 (.sl Kq6) false,.var 7 (.sl Kq17) false,.row 2 Kq37 false,.mix 3 [(.sl Kq37,some 2)],.var 4 Kq37 false]
abbrev X91:Exs:=[(.exit 0,[.fix 0 (.yv 1000),.row 1000 .bool false,.row 2 Kq37 false,.mix 3 [(.sl Kq37,some 2)],.var 4 Kq37 false])]
def le91 (L:LT91):LEnt:=lM 2 H91 8 X91 L
def e91 (F34:FT34) (F54:FT54) (F55:FT55) (L:LT91) (R:Type):Env R:=⟨TT,EQT,0,nt91,Bm [(11,6)],fun _ _ _=>none,Bl [le91 L] R,[],Bc [],[],zgz (e29 F34 F54 F55 R) tm29 d29⟩
def p91r (F54:FT54) (F55:FT55) (R:Type) (n lim i:Int) (mk:List Bool) (slots:Int) (ops:List Tq6) (ans:List Tq17) (folds:List Tq37) (u:Unit) (f:Tq37) (ends:Bool) (kc:D91 (Option R)):Option R:=
 (match bnd i (ops.length:Int) with
 | true=>
  let o:Tq6:=ops.getD i.toNat ((0:Int),(0:Int),(0:Int),(List.replicate 32 (0:Int)),(0:Int),())
  let tail:Tq37→Option R:=fun f=>(match ends with
   | true=>F55 R f.2.1 f.1 f.2.2.1 fun nx=>(match decide (folds.length+[((f.1,f.2.1,f.2.2.1,nx,()):Tq37)].length≤1353245080339) with
    | true=>kc n lim (IntKind.i64.wrap (i+1)) mk slots ops ans (folds++[(f.1,f.2.1,f.2.2.1,nx,())]) u (IntKind.u64.wrap (f.1+1),nx,List.replicate 32 (0:Int),List.replicate 32 (0:Int),())
    | false=>none)
   | false=>kc n lim (IntKind.i64.wrap (i+1)) mk slots ops ans folds u f)
  (match (o.1==5) with
  | true=>F54 R [f.2.2.1,o.2.2.2.1] fun m=>tail (f.1,f.2.1,m,f.2.2.2)
  | false=>tail f)
 | false=>none)
def p91 (F54:FT54) (F55:FT55) (R:Type):D91 (D91 (Option R)→E91 R):=fun n lim i mk slots ops ans folds u f kc k0=>
 (match decide (i<lim) with
 | true=>(match bnd i (ans.length:Int) with
  | true=>(match ((ans.getD i.toNat ((0:Int),(0:Int),([]:List Int),(List.replicate 32 (0:Int)),())).1 !=0) with
   | true=>kc n lim (IntKind.i64.wrap (i+1)) mk slots ops ans folds u f
   | false=>(match bnd i (ans.length:Int) with
    | true=>(match bnd i (ops.length:Int) with
     | true=>(match ((ops.getD i.toNat ((0:Int),(0:Int),(0:Int),(List.replicate 32 (0:Int)),(0:Int),())).1==6) with
      | true=>(match (IntKind.i64.wrap (n+1)==slots) with
       | true=>p91r F54 F55 R 0 lim i mk slots ops ans folds u f (IntKind.i64.wrap (n+1)==slots) kc
       | false=>p91r F54 F55 R (IntKind.i64.wrap (n+1)) lim i mk slots ops ans folds u f (IntKind.i64.wrap (n+1)==slots) kc)
      | false=>p91r F54 F55 R n lim i mk slots ops ans folds u f false kc)
     | false=>none)
    | false=>none))
  | false=>none)
 | false=>k0 mk folds u f)
theorem q91 (F34:FT34) (F54:FT54) (F55:FT55) (L:LT91):LEQ (le91 L) (e91 F34 F54 F55 L) Tryz.f91 (p91 F54 F55):=fun _ _ _ _=>by kernel_rfl
def G91 (F54:FT54) (F55:FT55):Nat→LT91
 | 0=>fun _ _ _ _ _ _ _ _ _ _ _ _=>none
 | n+1=>fun R x1 x2 x3 x4 x5 x6 x7 x8 x9 x10 k0=>p91 F54 F55 R x1 x2 x3 x4 x5 x6 x7 x8 x9 x10 (fun x1 x2 x3 x4 x5 x6 x7 x8 x9 x10=>G91 F54 F55 n R x1 x2 x3 x4 x5 x6 x7 x8 x9 x10 k0) k0
abbrev FT29:=(R:Type)→Tq21→LI→(List Tq6)→(List Tq17)→(List Tq37→Option R)→Option R
def en29 (F:FT29):Ent:=eM 29 (vI [Kq21,(.arr 32 (.int .u8)),(.sl Kq6),(.sl Kq17)]) [(true,Kq37)] F
def p29 (F34:FT34) (L:LT91):FT29:=fun R c seed ops ans k=>F34 R c fun y=>
 (match (!y) with
 | true=>none
 | false=>L R 0 (if (ans.length:Int)<(ops.length:Int) then (ans.length:Int) else (ops.length:Int)) 0 [] c.1 ops ans [] () ((0:Int),seed,(List.replicate 32 (0:Int)),(List.replicate 32 (0:Int)),()) (fun _ folds _ _=>k folds))
def rg29 (F34:FT34) (F54:FT54) (F55:FT55) (L:LT91) (R:Type):St→(St→Option R)→Option R:=zg0 (e91 F34 F54 F55 L R) tm29 1000 (Ag Tryz.f91) (rfG Tryz.f29) 91
theorem q29 (F34:FT34) (F54:FT54) (F55:FT55) (L:LT91) (R:Type) (x:AT (en29 (p29 F34 L)).ins) (k:RT (en29 (p29 F34 L)).outs→PT (en29 (p29 F34 L)).ins→Option R):
 zqj (e29 F34 F54 F55 R) (rg29 F34 F54 F55 L R) (Ag Tryz.f29) [(.cell 8 71,71,true)] (avs (en29 (p29 F34 L)).ins x) (finK (en29 (p29 F34 L)).outs (en29 (p29 F34 L)).ins k)=(en29 (p29 F34 L)).F R x k:=by kernel_rfl
theorem env53 (R:Type):Az Tryz.prog (e53 R):=⟨tabOK,eqOK,(fun f b K r h=>by cases h),Bw,Ak,noYl⟩
theorem env29 (R:Type):Az Tryz.prog (e29 F34 F54 F55 R):=⟨tabOK,eqOK,Aq (Aa ok34 (Aa ok54 (Aa ok55 Ab))),Bw,
 A9 (Bb (env53 R) mixed Tryz.func53 (body:=Ag Tryz.f53) (by kernel_rfl) (by kernel_rfl) (by kernel_rfl) (res:=[.tmp 6]) (by kernel_rfl) (n:=3) (Nat.le_of_ble_eq_true rfl) (by kernel_rfl)) Ak,noYl⟩
theorem env91 (L:LT91) (R:Type):Az Tryz.prog (e91 F34 F54 F55 L R):=⟨tabOK,eqOK,(fun f b K r h=>by cases h),Bw,Ak,
 zgy (env29 R) mixed rfl rfl (by decide) (by kernel_rfl) (by kernel_rfl) rfl rfl⟩
theorem zkl:∀sv,nt91.gs sv=true→Hs H91 sv=true∧∀p∈X91,Hs p.2 sv=true:=by
 intro sv h;have h:gs29 sv=true:=h;have key:Hs H91 sv=true∧Hs [.fix 0 (.yv 1000),.row 1000 .bool false,.row 2 Kq37 false,.mix 3 [(.sl Kq37,some 2)],.var 4 Kq37 false] sv=true:=by
  cases sv<;>simp only [gs29,reduceCtorEq] at h
  case dead=>exact ⟨rfl,rfl⟩
  case yv i=>rw [Nat.eq_of_beq_eq_true h]; exact ⟨rfl,rfl⟩
  case mptr b i k=>rw [Nat.eq_of_beq_eq_true h]; exact ⟨rfl,rfl⟩
  case ptr b p k=>rw [Nat.eq_of_beq_eq_true h]; exact ⟨rfl,rfl⟩
 exact ⟨key.1,fun p hp=>by rw [List.mem_singleton.1 hp]; exact key.2⟩
theorem lok91:(le91 (G91 F54 F55 FUEL)).OK Tryz.prog 0 nt91 (Cd 2 (Ag Tryz.f91)):=
 lokX (id:=2) (H:=H91) (nx:=8) (exs:=X91) (G:=G91 F54 F55) (p:=p91 F54 F55) mixed (q91 F34 F54 F55 (G91 F54 F55 FUEL)) (env91 (G91 F54 F55 FUEL)) (fun _=>rfl) (fun _=>rfl) zkl (fun R l hl=>by
  rw [show Am (Cd 2 (Ag Tryz.f91))=[] from by kernel_rfl] at hl; cases hl) (by intro _ _ _; kernel_rfl) (by intro _ _ _ _; kernel_rfl)
theorem hgs29:∀t,gs29 (tget tm29 t)=true:=by
 intro t;unfold tm29;rw [Ba]
 by_cases h:t=8
 ·subst h; rw [Ae]; rfl
 ·rw [Ac _ _ h,Ba]
  by_cases h:t=9
  ·subst h; rw [Ae]; rfl
  ·rw [Ac _ _ h]; rfl
def F29:FT29:=p29 F34 (G91 F54 F55 FUEL)
theorem rgOK29 (R:Type) (σ:St) (K:St→Option R) (r:R) (h:rg29 F34 F54 F55 (G91 F54 F55 FUEL) R σ K=some r):∃σ',K σ'=some r∧LeadsX 0 (55:Nat) Tryz.prog (.rangeFunc (rfG Tryz.f29) (rfP Tryz.f29) (rfA Tryz.f29) (rfB Tryz.f29)) σ .normal σ':=
 Yr (Ei:=e91 F34 F54 F55 (G91 F54 F55 FUEL) R) (env91 _ R) mixed Tryz.func91 (body:=Ag Tryz.f91) (by kernel_rfl) (by kernel_rfl) (by kernel_rfl) (n0:=55) (gs:=gs29) (by kernel_rfl) rfl hgs29 rfl
  (fun l hl=>by
   rw [show Am (Ag Tryz.f91)=[Cd 2 (Ag Tryz.f91)] from by kernel_rfl] at hl;rw [List.mem_singleton.1 hl];exact Hb (l:=[le91 (G91 F54 F55 FUEL)]) rfl (by kernel_rfl) lok91) σ K r h
theorem ok29:OKP (en29 F29):=
 ent_okX (Ef:=fun R=>e29 F34 F54 F55 R) (rg:=fun R=>rg29 F34 F54 F55 (G91 F54 F55 FUEL) R) env29 mixed Tryz.func29 (body:=Ag Tryz.f29) (by kernel_rfl) (by kernel_rfl) (nt:=55) (fun _=>rfl) (fun _=>rfl) (by kernel_rfl) (res:=[(.cell 8 71,71,true)]) (by kernel_rfl)
  (fun _=>rfl) (fun _=>Nat.le_of_ble_eq_true rfl) (fun R l hl=>by
   rw [show Am (Ag Tryz.f29)=[] from by kernel_rfl] at hl; cases hl) (rf:=.rangeFunc (rfG Tryz.f29) (rfP Tryz.f29) (rfA Tryz.f29) (rfB Tryz.f29)) (by
   show Pb _ (Ag Tryz.f29);exact ⟨trivial,⟨trivial,trivial⟩,trivial,⟨trivial,rfl⟩,trivial,trivial⟩) rgOK29 (q29 F34 F54 F55 (G91 F54 F55 FUEL))
abbrev FT24:=(R:Type)→LI→Int→LI→(LI→Option R)→Option R
def en24 (F:FT24):Ent:=eV 24 [(.arr 32 (.int .u8)),(.int .u64),(.arr 32 (.int .u8))] [(.arr 32 (.int .u8))] F
abbrev D24_4 (Z:Type):=Int→LI→LI→LI→LI→Z
abbrev E24_4 (R:Type):=(LI→LI→LI→Option R)→Option R
abbrev R9:=(R:Type)→D24_4 (E24_4 R)
def zj6 (L:R9):LEnt:=lM 4 [.fix 5 (.ptr 1 [] (.arr 32 (.int .u8))),.fix 6 (.ptr 2 [] (.arr 32 (.int .u8))),.fix 7 (.own 3 0),.fix 8 (.ptr 4 [] (.arr 8 (.int .u8))),.val 9 (.int .i64),.var 1 (.arr 32 (.int .u8)) false,.var 2 (.arr 32 (.int .u8)) false,.row 3 (.int .u8) false,.var 4 (.arr 8 (.int .u8)) false] 5 [(.exit 0,[.fix 5 (.ptr 1 [] (.arr 32 (.int .u8))),.fix 6 (.ptr 2 [] (.arr 32 (.int .u8))),.fix 7 (.own 3 0),.var 1 (.arr 32 (.int .u8)) false,.var 2 (.arr 32 (.int .u8)) false,.row 3 (.int .u8) false])] L
def e24 (F45:FT45) (F46:FT46) (F47:FT47) (L4:R9):=sE 0 29 [] [en45 F45,en46 F46,en47 F47] [zj6 L4]
def zy9 (R:Type):D24_4 (D24_4 (Option R)→E24_4 R):=fun x1 x2 x3 x4 x5 kc k0=>
let v6:=decide (x1<8);(match v6 with
|true=>(match (bnd x1 (8:Int)) with
|true=>let v7:=x5.getD x1.toNat 0;let v8:=([v7]:LI);(match (decide (x4.length+v8.length≤140737488355328)) with
|true=>let v9:=x4++v8;let v10:=IntKind.i64.wrap (x1+1);kc v10 x2 x3 v9 x5
|false=>none)
|false=>none)
|false=>k0 x2 x3 x4)
theorem q24_4 (F45:FT45) (F46:FT46) (F47:FT47) (L4:R9):LEQ (zj6 L4) (e24 F45 F46 F47 L4) Tryz.f24 zy9:=fun _ _ _ _=>by kernel_rfl
def zbc:Nat→R9
 | 0=>fun _ _ _ _ _ _ _=>none
 | n+1=>fun R x1 x2 x3 x4 x5 k0=>zy9 R x1 x2 x3 x4 x5 (fun x1 x2 x3 x4 x5=>zbc n R x1 x2 x3 x4 x5 k0) k0
def p24 (F45:FT45) (F46:FT46) (F47:FT47) (L4:R9):FT24:=fun R a0 a1 a2 k=>
F45 R a0 fun y1=>
F46 R a1 fun y2=>
L4 R (0:Int) a2 (List.replicate 32 (0:Int)) y1 y2 (fun x3 x4 x5=>
F45 R x3 fun y6=>
(match (decide (x5.length+y6.length≤140737488355328)) with
|true=>let v7:=x5++y6;F47 R v7 fun y8=>
k y8
|false=>none))
theorem q24 (F45:FT45) (F46:FT46) (F47:FT47) (L4:R9):EQ (en24 (p24 F45 F46 F47 L4)) (e24 F45 F46 F47 L4) Tryz.f24 [(.cell 6 24,24,false)]:=fun _ _ _=>by kernel_rfl
def F24:FT24:=p24 F45 F46 F47 (zbc FUEL)
theorem lok24_4:LKP (zj6 (zbc FUEL)) 0 29 4 Tryz.f24:=ST.lok (q24_4 F45 F46 F47 (zbc FUEL)) (Aa ok45 (Aa ok46 (Aa ok47 Ab))) [] trivial
theorem ok24:OKP (en24 F24):=ST.ok1 (q24 F45 F46 F47 (zbc FUEL)) (Aa ok45 (Aa ok46 (Aa ok47 Ab))) Tryz.func24 [4] ⟨⟨_,rfl,lok24_4⟩,trivial⟩
abbrev FT27:=(R:Type)→LI→LI→(Bool→Option R)→Option R
def en27 (F:FT27):Ent:=eV 27 [(.sl (.int .i64)),(.sl (.int .i64))] [.bool] F
abbrev D27_4 (Z:Type):=LI→LI→Int→Z
abbrev E27_4 (R:Type):=(Bool→Option R)→(Option R)→Option R
abbrev R8:=(R:Type)→D27_4 (E27_4 R)
def zj5 (L:R8):LEnt:=lM 4 [.val 0 (.sl (.int .i64)),.val 1 (.sl (.int .i64)),.val 5 (.int .i64)] 0 [(.ret,[.val 4 .bool]),(.exit 0,[])] L
def e27 (L4:R8):=sE 0 26 [] [] [zj5 L4]
def zy8 (R:Type):D27_4 (D27_4 (Option R)→E27_4 R):=fun x1 x2 x3 kc k0 k1=>
let v4:=(x1.length:Int);let v5:=decide (x3<v4);(match v5 with
|true=>(match bnd x3 x1.length with
|true=>let v6:=x1.getD x3.toNat 0;(match bnd x3 x2.length with
|true=>let v7:=x2.getD x3.toNat 0;let v8:=v6 !=v7;(match v8 with
|true=>k0 false
|false=>let v9:=IntKind.i64.wrap (x3+1);kc x1 x2 v9)
|false=>none)
|false=>none)
|false=>k1)
theorem q27_4 (L4:R8):LEQ (zj5 L4) (e27 L4) Tryz.f27 zy8:=fun _ _ _ _=>by kernel_rfl
def zbb:Nat→R8
 | 0=>fun _ _ _ _ _ _=>none
 | n+1=>fun R x1 x2 x3 k0 k1=>zy8 R x1 x2 x3 (fun x1 x2 x3=>zbb n R x1 x2 x3 k0 k1) k0 k1
def p27 (L4:R8):FT27:=fun R a0 a1 k=>
let v1:=(a0.length:Int);let v2:=(a1.length:Int);let v3:=v1 !=v2;(match v3 with
|true=>k false
|false=>L4 R a0 a1 (0:Int) (fun x4=>
k x4) (k true))
theorem q27 (L4:R8):EQ (en27 (p27 L4)) (e27 L4) Tryz.f27 [(.tmp 4,4,false)]:=fun _ _ _=>by kernel_rfl
def F27:FT27:=p27 (zbb FUEL)
theorem lok27_4:LKP (zj5 (zbb FUEL)) 0 26 4 Tryz.f27:=ST.lok (q27_4 (zbb FUEL)) Ab [] trivial
theorem ok27:OKP (en27 F27):=ST.ok1 (q27 (zbb FUEL)) Ab Tryz.func27 [4] ⟨⟨_,rfl,lok27_4⟩,trivial⟩
abbrev FT9:=(R:Type)→(Bool→Option R)→Option R
def en9 (F:FT9):Ent:=eV 9 [] [.bool] F
def p9 (F13:FT13) (F19:FT19) (F22:FT22) (F24:FT24) (F26:FT26) (F27:FT27) (F29:FT29):FT9:=fun R k=>
let v1:=List.set (List.replicate 32 (0:Int)) 0 (7:Int);F26 R v1 fun y2=>
let v3:=([((1:Int),(0:Int),(5:Int),v1,(0:Int),()),((4:Int),(0:Int),(0:Int),y2,(0:Int),()),((6:Int),(0:Int),(0:Int),(List.replicate 32 (0:Int)),(0:Int),()),((5:Int),(0:Int),(0:Int),v1,(0:Int),()),((6:Int),(0:Int),(0:Int),(List.replicate 32 (0:Int)),(0:Int),()),((7:Int),(0:Int),(0:Int),(List.replicate 32 (0:Int)),(0:Int),())]:(List Tq6));F22 R v3 fun y4 y5=>
let v6:=List.replicate 32 (0:Int);F19 R ((2:Int),(1:Int),(1:Int),(64:Int),(1:Int),()) v6 y4 fun y7 y8 y9=>
let v10:=List.replicate 32 (0:Int);F13 R y4 fun y11=>
F29 R ((2:Int),(1:Int),(1:Int),(64:Int),(1:Int),()) v10 y11 y8 fun y12=>
let v13:=y5==0;(match v13 with
|true=>let v14:=y9==0;(match v14 with
|true=>let v15:=(y8.length:Int);let v16:=v15==6;(match v16 with
|true=>(match bnd 4 y8.length with
|true=>let v17:=(y8.getD 4 (0,0,[],(List.replicate 32 0),())).2.2.2.1;let v18:=List.replicate 32 (0:Int);F24 R v18 (0:Int) v1 fun y19=>
let v20:=Kd.eqv (.arr 32 (.int .u8)) v17 y19;(match v20 with
|true=>(match bnd 5 y8.length with
|true=>let v21:=(y8.getD 5 (0,0,[],(List.replicate 32 0),())).2.2.1;let v22:=([(0:Int)]:LI);F27 R v21 v22 fun y23=>
(match y23 with
|true=>let v24:=(y12.length:Int);let v25:=v24==1;(match v25 with
|true=>(match bnd 0 y12.length with
|true=>let v26:=(y12.getD 0 (0,(List.replicate 32 0),(List.replicate 32 0),(List.replicate 32 0),())).2.2.2.1;let v27:=Kd.eqv (.arr 32 (.int .u8)) v26 y7.2.2.2.1.2.1;(match v27 with
|true=>let v28:=(y7.2.2.2.2.2.1.length:Int);let v29:=v28==0;k v29
|false=>k false)
|false=>none)
|false=>k false)
|false=>k false)
|false=>none)
|false=>k false)
|false=>none)
|false=>k false)
|false=>k false)
|false=>k false)
theorem q9 (F13:FT13) (F19:FT19) (F22:FT22) (F24:FT24) (F26:FT26) (F27:FT27) (F29:FT29):EQ (en9 (p9 F13 F19 F22 F24 F26 F27 F29)) (sE 0 90 [] [en13 F13,en19 F19,en22 F22,en24 F24,en26 F26,en27 F27,en29 F29] []) Tryz.f9 [(.tmp 0,4,false)]:=fun _ _ _=>by kernel_rfl
def F9:FT9:=p9 F13 F19 F22 F24 F26 F27 F29
theorem ok9:OKP (en9 F9):=ST.ok0 (q9 F13 F19 F22 F24 F26 F27 F29) (Aa ok13 (Aa ok19 (Aa ok22 (Aa ok24 (Aa ok26 (Aa ok27 (Aa ok29 Ab))))))) Tryz.func9
abbrev FT50:=(R:Type)→Int→(ByteArray→Option R)→Option R
def en50 (F:FT50):Ent:=eV 50 [(.int .i64)] [.str] F
def p50:FT50:=fun R a0 k=>
let v1:=a0==1;(match v1 with
|true=>k (⟨#[104,97]⟩:ByteArray)
|false=>let v2:=a0==2;(match v2 with
|true=>k (⟨#[119,97]⟩:ByteArray)
|false=>let v3:=a0==3;(match v3 with
|true=>k (⟨#[119,97]⟩:ByteArray)
|false=>let v4:=a0==4;(match v4 with
|true=>k (⟨#[119,104]⟩:ByteArray)
|false=>let v5:=a0==5;(match v5 with
|true=>k (⟨#[119,104]⟩:ByteArray)
|false=>let v6:=a0==6;(match v6 with
|true=>k (⟨#[45]⟩:ByteArray)
|false=>let v7:=a0==11;(match v7 with
|true=>k (⟨#[45]⟩:ByteArray)
|false=>let v8:=a0==7;(match v8 with
|true=>k (⟨#[110]⟩:ByteArray)
|false=>let v9:=a0==8;(match v9 with
|true=>k (⟨#[110]⟩:ByteArray)
|false=>let v10:=a0==9;(match v10 with
|true=>k (⟨#[110,119]⟩:ByteArray)
|false=>let v11:=a0==10;(match v11 with
|true=>k (⟨#[119,110]⟩:ByteArray)
|false=>k (⟨#[]⟩:ByteArray))))))))))))
theorem q50:EQ (en50 p50) (sE 0 22 [] [] []) Tryz.f50 [(.tmp 2,9,false)]:=fun _ _ _=>by kernel_rfl
def F50:FT50:=p50
theorem ok50:OKP (en50 F50):=ST.ok0 q50 Ab Tryz.func50
abbrev FT52:=(R:Type)→Int→(Int→Option R)→Option R
def en52 (F:FT52):Ent:=eV 52 [(.int .u8)] [(.int .i64)] F
def p52:FT52:=fun R a0 k=>
let v1:=a0==119;(match v1 with
|true=>k (4:Int)
|false=>let v2:=a0==110;(match v2 with
|true=>k (4:Int)
|false=>let v3:=a0==97;(match v3 with
|true=>k (8:Int)
|false=>let v4:=a0==104;(match v4 with
|true=>k (32:Int)
|false=>k (0:Int)))))
theorem q52:EQ (en52 p52) (sE 0 11 [] [] []) Tryz.f52 [(.tmp 2,3,false)]:=fun _ _ _=>by kernel_rfl
def F52:FT52:=p52
theorem ok52:OKP (en52 F52):=ST.ok0 q52 Ab Tryz.func52
abbrev FT49:=(R:Type)→Int→(Int→Bool→Option R)→Option R
def en49 (F:FT49):Ent:=eV 49 [(.int .i64)] [(.int .i64),.bool] F
abbrev D49_6 (Z:Type):=ByteArray→Int→Int→Z
abbrev E49_6 (R:Type):=(Int→Option R)→Option R
abbrev Rz:=(R:Type)→D49_6 (E49_6 R)
def zjy (L:Rz):LEnt:=lM 6 [.val 4 .str,.val 5 (.int .i64),.val 6 (.int .i64)] 0 [(.exit 0,[.val 5 (.int .i64)])] L
def e49 (F50:FT50) (F52:FT52) (L6:Rz):=sE 0 24 [] [en50 F50,en52 F52] [zjy L6]
def zy3 (F52:FT52) (R:Type):D49_6 (D49_6 (Option R)→E49_6 R):=fun x1 x2 x3 kc k0=>
let v4:=(ByteArray.size x1:Int);let v5:=decide (x3<v4);(match v5 with
|true=>(match (bnd x3 (ByteArray.size x1:Int)) with
|true=>let v6:=((List.getD (Array.toList (ByteArray.data x1)) x3.toNat 0).toNat:Int);F52 R v6 fun y7=>
let v8:=IntKind.i64.wrap (x2+y7);let v9:=IntKind.i64.wrap (x3+1);kc x1 v8 v9
|false=>none)
|false=>k0 x2)
theorem q49_6 (F50:FT50) (F52:FT52) (L6:Rz):LEQ (zjy L6) (e49 F50 F52 L6) Tryz.f49 (zy3 F52):=fun _ _ _ _=>by kernel_rfl
def za7:Nat→Rz
 | 0=>fun _ _ _ _ _=>none
 | n+1=>fun R x1 x2 x3 k0=>zy3 F52 R x1 x2 x3 (fun x1 x2 x3=>za7 n R x1 x2 x3 k0) k0
def p49 (F50:FT50) (L6:Rz):FT49:=fun R a0 k=>
F50 R a0 fun y1=>
let v2:=ByteArray.toList y1==ByteArray.toList (⟨#[]⟩:ByteArray);(match v2 with
|true=>k (0:Int) false
|false=>L6 R y1 (1:Int) (0:Int) (fun x3=>
k x3 true))
theorem q49 (F50:FT50) (F52:FT52) (L6:Rz):EQ (en49 (p49 F50 L6)) (e49 F50 F52 L6) Tryz.f49 [(.tmp 2,3,false),(.tmp 3,4,false)]:=fun _ _ _=>by kernel_rfl
def F49:FT49:=p49 F50 (za7 FUEL)
theorem lok49_6:LKP (zjy (za7 FUEL)) 0 24 6 Tryz.f49:=ST.lok (q49_6 F50 F52 (za7 FUEL)) (Aa ok50 (Aa ok52 Ab)) [] trivial
theorem ok49:OKP (en49 F49):=ST.ok1 (q49 F50 F52 (za7 FUEL)) (Aa ok50 (Aa ok52 Ab)) Tryz.func49 [6] ⟨⟨_,rfl,lok49_6⟩,trivial⟩
abbrev FT51:=(R:Type)→Tq6→Int→LI→(Tq6→Option R)→Option R
def en51 (F:FT51):Ent:=eV 51 [Kq6,(.int .u8),(.sl (.int .u8))] [Kq6] F
abbrev zpc (Z:Type):=LI→Int→Tq6→Tq6→Z
abbrev zwv (R:Type):=(Tq6→Tq6→Option R)→Option R
abbrev Mk:=(R:Type)→zpc (zwv R)
def Zd (L:Mk):LEnt:=lM 10 [.val 2 (.sl (.int .u8)),.fix 3 (.ptr 0 [] Kq6),.fix 6 (.ptr 1 [] Kq6),.val 7 (.int .i64),.var 0 Kq6 false,.var 1 Kq6 false] 2 [(.exit 1,[.fix 3 (.ptr 0 [] Kq6),.fix 6 (.ptr 1 [] Kq6),.var 0 Kq6 false,.var 1 Kq6 false])] L
def e51 (F89:FT89) (F90:FT90) (L10:Mk):=sE 0 88 [] [en89 F89,en90 F90] [Zd L10]
def zh4 (R:Type):zpc (zpc (Option R)→zwv R):=fun x1 x2 x3 x4 kc k0=>
let v5:=decide (x2<32);(match v5 with
|true=>(match bnd x2 x1.length with
|true=>let v6:=x1.getD x2.toNat 0;(match (bnd x2 (32:Int)) with
|true=>let v7:=IntKind.i64.wrap (x2+1);kc x1 v7 (x3.1,x3.2.1,x3.2.2.1,(x3.2.2.2.1.set x2.toNat v6),x3.2.2.2.2) x4
|false=>none)
|false=>none)
|false=>k0 x3 x4)
theorem q51_10 (F89:FT89) (F90:FT90) (L10:Mk):LEQ (Zd L10) (e51 F89 F90 L10) Tryz.f51 zh4:=fun _ _ _ _=>by kernel_rfl
def Qb:Nat→Mk
 | 0=>fun _ _ _ _ _ _=>none
 | n+1=>fun R x1 x2 x3 x4 k0=>zh4 R x1 x2 x3 x4 (fun x1 x2 x3 x4=>Qb n R x1 x2 x3 x4 k0) k0
def p51 (F89:FT89) (F90:FT90) (L10:Mk):FT51:=fun R a0 a1 a2 k=>
let v1:=a1==119;(match v1 with
|true=>(match bnd 0 a2.length with
|true=>let v2:=a2.getD 0 0;(match bnd 1 a2.length with
|true=>let v3:=a2.getD 1 0;(match bnd 2 a2.length with
|true=>let v4:=a2.getD 2 0;(match bnd 3 a2.length with
|true=>let v5:=a2.getD 3 0;let v6:=List.set (List.set (List.set (List.set (List.replicate 4 (0:Int)) 0 v2) 1 v3) 2 v4) 3 v5;F89 R v6 fun y7=>
let v8:=IntKind.i64.wrap y7;k (a0.1,v8,a0.2.2)
|false=>none)
|false=>none)
|false=>none)
|false=>none)
|false=>let v9:=a1==110;(match v9 with
|true=>(match bnd 0 a2.length with
|true=>let v10:=a2.getD 0 0;(match bnd 1 a2.length with
|true=>let v11:=a2.getD 1 0;(match bnd 2 a2.length with
|true=>let v12:=a2.getD 2 0;(match bnd 3 a2.length with
|true=>let v13:=a2.getD 3 0;let v14:=List.set (List.set (List.set (List.set (List.replicate 4 (0:Int)) 0 v10) 1 v11) 2 v12) 3 v13;F89 R v14 fun y15=>
let v16:=IntKind.i64.wrap y15;k (a0.1,a0.2.1,a0.2.2.1,a0.2.2.2.1,v16,a0.2.2.2.2.2)
|false=>none)
|false=>none)
|false=>none)
|false=>none)
|false=>let v17:=a1==97;(match v17 with
|true=>(match bnd 0 a2.length with
|true=>let v18:=a2.getD 0 0;(match bnd 1 a2.length with
|true=>let v19:=a2.getD 1 0;(match bnd 2 a2.length with
|true=>let v20:=a2.getD 2 0;(match bnd 3 a2.length with
|true=>let v21:=a2.getD 3 0;(match bnd 4 a2.length with
|true=>let v22:=a2.getD 4 0;(match bnd 5 a2.length with
|true=>let v23:=a2.getD 5 0;(match bnd 6 a2.length with
|true=>let v24:=a2.getD 6 0;(match bnd 7 a2.length with
|true=>let v25:=a2.getD 7 0;let v26:=List.set (List.set (List.set (List.set (List.set (List.set (List.set (List.set (List.replicate 8 (0:Int)) 0 v18) 1 v19) 2 v20) 3 v21) 4 v22) 5 v23) 6 v24) 7 v25;F90 R v26 fun y27=>
k (a0.1,a0.2.1,y27,a0.2.2.2.1,a0.2.2.2.2.1,a0.2.2.2.2.2)
|false=>none)
|false=>none)
|false=>none)
|false=>none)
|false=>none)
|false=>none)
|false=>none)
|false=>none)
|false=>let v28:=a1==104;(match v28 with
|true=>L10 R a2 (0:Int) a0 ((0:Int),(0:Int),(0:Int),(List.replicate 32 (0:Int)),(0:Int),()) (fun x29 x30=>
k x29)
|false=>k a0))))
theorem q51 (F89:FT89) (F90:FT90) (L10:Mk):EQ (en51 (p51 F89 F90 L10)) (e51 F89 F90 L10) Tryz.f51 [(.cell 6 49,49,false)]:=fun _ _ _=>by kernel_rfl
def F51:FT51:=p51 F89 F90 (Qb FUEL)
theorem zrw:LKP (Zd (Qb FUEL)) 0 88 10 Tryz.f51:=ST.lok (q51_10 F89 F90 (Qb FUEL)) (Aa ok89 (Aa ok90 Ab)) [] trivial
theorem ok51:OKP (en51 F51):=ST.ok1 (q51 F89 F90 (Qb FUEL)) (Aa ok89 (Aa ok90 Ab)) Tryz.func51 [10] ⟨⟨_,rfl,zrw⟩,trivial⟩
abbrev FT28:=(R:Type)→LI→((List Tq6)→Option R)→Option R
def en28 (F:FT28):Ent:=eV 28 [(.sl (.int .u8))] [(.sl Kq6)] F
abbrev D28_2 (Z:Type):=LI→(List Tq6)→Z
abbrev E28_2 (R:Type):=((List Tq6)→Option R)→((List Tq6)→Option R)→Option R
abbrev P7:=(R:Type)→D28_2 (E28_2 R)
def zj4 (L:P7):LEnt:=lM 2 [.val 0 (.sl (.int .u8)),.fix 3 (.own 0 0),.row 0 Kq6 false] 1 [(.ret,[.fix 2 (.own 0 0),.row 0 Kq6 false]),(.exit 0,[.fix 3 (.own 0 0),.row 0 Kq6 false])] L
abbrev zpe (Z:Type):=LI→Int→Int→ByteArray→Int→(List Tq6)→Tq6→Z
abbrev zwx (R:Type):=(LI→Int→(List Tq6)→Tq6→Option R)→Option R
abbrev J2:=(R:Type)→zpe (zwx R)
def Zf (L:J2):LEnt:=lM 13 [.val 0 (.sl (.int .u8)),.fix 3 (.own 0 0),.val 5 (.int .i64),.fix 7 (.ptr 1 [] Kq6),.val 8 (.int .i64),.val 9 .str,.val 10 (.int .i64),.row 0 Kq6 false,.var 1 Kq6 false] 2 [(.exit 2,[.val 0 (.sl (.int .u8)),.fix 3 (.own 0 0),.val 5 (.int .i64),.fix 7 (.ptr 1 [] Kq6),.row 0 Kq6 false,.var 1 Kq6 false])] L
def e28 (F49:FT49) (F50:FT50) (F51:FT51) (F52:FT52) (L2:P7) (L13:J2):=sE 0 73 [(1,0)] [en49 F49,en50 F50,en51 F51,en52 F52] [zj4 L2,Zf L13]
def zdj (F51:FT51) (F52:FT52) (R:Type):zpe (zpe (Option R)→zwx R):=fun x1 x2 x3 x4 x5 x6 x7 kc k0=>
let v8:=(ByteArray.size x4:Int);let v9:=decide (x5<v8);(match v9 with
|true=>(match (bnd x5 (ByteArray.size x4:Int)) with
|true=>let v10:=((List.getD (Array.toList (ByteArray.data x4)) x5.toNat 0).toNat:Int);(match (decide (0≤x3∧x3≤(x1.length:Int)∧(x1.length:Int)≤(x1.length:Int)∧(x1.length:Int)≤(x1.length:Int))) with
|true=>let v11:=List.take (Int.toNat ((x1.length:Int) - x3)) (List.drop x3.toNat x1);F51 R x7 v10 v11 fun y12=>
(match (bnd x5 (ByteArray.size x4:Int)) with
|true=>let v13:=((List.getD (Array.toList (ByteArray.data x4)) x5.toNat 0).toNat:Int);F52 R v13 fun y14=>
let v15:=IntKind.i64.wrap (x3+y14);let v16:=IntKind.i64.wrap (x5+1);kc x1 x2 v15 x4 v16 x6 y12
|false=>none)
|false=>none)
|false=>none)
|false=>k0 x1 x2 x6 x7)
theorem q28_13 (F49:FT49) (F50:FT50) (F51:FT51) (F52:FT52) (L2:P7) (L13:J2):LEQ (Zf L13) (e28 F49 F50 F51 F52 L2 L13) Tryz.f28 (zdj F51 F52):=fun _ _ _ _=>by kernel_rfl
def G1:Nat→J2
 | 0=>fun _ _ _ _ _ _ _ _ _=>none
 | n+1=>fun R x1 x2 x3 x4 x5 x6 x7 k0=>zdj F51 F52 R x1 x2 x3 x4 x5 x6 x7 (fun x1 x2 x3 x4 x5 x6 x7=>G1 n R x1 x2 x3 x4 x5 x6 x7 k0) k0
def zre (F49:FT49) (F50:FT50) (L13:J2) (R:Type):D28_2 (D28_2 (Option R)→E28_2 R):=fun x1 x2 kc k0 k1=>
let v3:=(x1.length:Int);let v4:=decide (v3>0);(match v4 with
|true=>(match bnd 0 x1.length with
|true=>let v5:=x1.getD 0 0;let v6:=IntKind.i64.wrap v5;F49 R v6 fun y7 y8=>
(match (!y8) with
|true=>let v9:=([((0:Int),(0:Int),(0:Int),(List.replicate 32 (0:Int)),v6,())]:(List Tq6));(match (decide (x2.length+v9.length≤2199023255552)) with
|true=>let v10:=x2++v9;(match (decide (0≤(1:Int)∧(1:Int)≤(x1.length:Int)∧(x1.length:Int)≤(x1.length:Int)∧(x1.length:Int)≤(x1.length:Int))) with
|true=>let v11:=List.take (Int.toNat ((x1.length:Int) - (1:Int))) (List.drop 1 x1);kc v11 v10
|false=>none)
|false=>none)
|false=>let v12:=(x1.length:Int);let v13:=decide (v12<y7);(match v13 with
|true=>let v14:=([((0:Int),(0:Int),(0:Int),(List.replicate 32 (0:Int)),v6,())]:(List Tq6));(match (decide (x2.length+v14.length≤2199023255552)) with
|true=>let v15:=x2++v14;k0 v15
|false=>none)
|false=>F50 R v6 fun y16=>
L13 R x1 y7 (1:Int) y16 (0:Int) x2 (v6,(0:Int),(0:Int),(List.replicate 32 (0:Int)),(0:Int),()) (fun x17 x18 x19 x20=>
let v21:=([x20]:(List Tq6));(match (decide (x19.length+v21.length≤2199023255552)) with
|true=>let v22:=x19++v21;(match (decide (0≤x18∧x18≤(x17.length:Int)∧(x17.length:Int)≤(x17.length:Int)∧(x17.length:Int)≤(x17.length:Int))) with
|true=>let v23:=List.take (Int.toNat ((x17.length:Int) - x18)) (List.drop x18.toNat x17);kc v23 v22
|false=>none)
|false=>none))))
|false=>none)
|false=>k1 x2)
theorem q28_2 (F49:FT49) (F50:FT50) (F51:FT51) (F52:FT52) (L2:P7) (L13:J2):LEQ (zj4 L2) (e28 F49 F50 F51 F52 L2 L13) Tryz.f28 (zre F49 F50 L13):=fun _ _ _ _=>by kernel_rfl
def T8:Nat→P7
 | 0=>fun _ _ _ _ _=>none
 | n+1=>fun R x1 x2 k0 k1=>zre F49 F50 (G1 FUEL) R x1 x2 (fun x1 x2=>T8 n R x1 x2 k0 k1) k0 k1
def p28 (L2:P7):FT28:=fun R a0 k=>
L2 R a0 ([]:(List Tq6)) (fun x1=>
k x1) (fun x2=>
k x2)
theorem q28 (F49:FT49) (F50:FT50) (F51:FT51) (F52:FT52) (L2:P7) (L13:J2):EQ (en28 (p28 L2)) (e28 F49 F50 F51 F52 L2 L13) Tryz.f28 [(.tmp 2,42,false)]:=fun _ _ _=>by kernel_rfl
def F28:FT28:=p28 (T8 FUEL)
theorem zry:LKP (Zf (G1 FUEL)) 0 73 13 Tryz.f28:=ST.lok (q28_13 F49 F50 F51 F52 (T8 FUEL) (G1 FUEL)) (Aa ok49 (Aa ok50 (Aa ok51 (Aa ok52 Ab)))) [] trivial
theorem lok28_2:LKP (zj4 (T8 FUEL)) 0 73 2 Tryz.f28:=ST.lok (q28_2 F49 F50 F51 F52 (T8 FUEL) (G1 FUEL)) (Aa ok49 (Aa ok50 (Aa ok51 (Aa ok52 Ab)))) [13] ⟨⟨_,rfl,zry⟩,trivial⟩
theorem ok28:OKP (en28 F28):=ST.ok1 (q28 F49 F50 F51 F52 (T8 FUEL) (G1 FUEL)) (Aa ok49 (Aa ok50 (Aa ok51 (Aa ok52 Ab)))) Tryz.func28 [2] ⟨⟨_,rfl,lok28_2⟩,trivial⟩
abbrev FT10:=(R:Type)→LI→(Bool→Option R)→Option R
def en10 (F:FT10):Ent:=eV 10 [(.sl (.int .u8))] [.bool] F
def p10 (F28:FT28):FT10:=fun R a0 k=>
let v1:=(a0.length:Int);let v2:=decide (v1≤1500);(match v2 with
|true=>F28 R a0 fun y3=>
let v4:=(y3.length:Int);let v5:=decide (v4≤60);k v5
|false=>k false)
theorem q10 (F28:FT28):EQ (en10 (p10 F28)) (sE 0 12 [] [en28 F28] []) Tryz.f10 [(.tmp 2,4,false)]:=fun _ _ _=>by kernel_rfl
def F10:FT10:=p10 F28
theorem ok10:OKP (en10 F10):=ST.ok0 (q10 F28) (Aa ok28 Ab) Tryz.func10
abbrev FT12:=(R:Type)→LI→(Tq21→Option R)→Option R
def en12 (F:FT12):Ent:=eV 12 [(.arr 5 (.int .u8))] [Kq21] F
def p12:FT12:=fun R a0 k=>
let v1:=a0.getD 0 0;let v2:=Int.tmod v1 (6:Int);let v3:=IntKind.i64.wrap v2;let v4:=IntKind.i64.wrap ((1:Int)+v3);let v5:=a0.getD 3 0;let v6:=Int.tmod v5 (64:Int);let v7:=IntKind.i64.wrap v6;let v8:=IntKind.i64.wrap ((1:Int)+v7);let v9:=a0.getD 4 0;let v10:=Int.tmod v9 (6:Int);let v11:=IntKind.i64.wrap v10;let v12:=IntKind.i64.wrap ((1:Int)+v11);let v13:=a0.getD 1 0;let v14:=IntKind.i64.wrap v13;let v15:=IntKind.i64.wrap (v4+1);(match (!(v15==0)) with
|true=>let v16:=Int.tmod v14 v15;let v17:=a0.getD 2 0;let v18:=IntKind.i64.wrap v17;let v19:=IntKind.i64.wrap (v4 - v16);let v20:=IntKind.i64.wrap (v19+1);(match (!(v20==0)) with
|true=>let v21:=Int.tmod v18 v20;k (v4,v16,v21,v8,v12,())
|false=>none)
|false=>none)
theorem q12:EQ (en12 p12) (sE 0 40 [] [] []) Tryz.f12 [(.cell 2 29,29,false)]:=fun _ _ _=>by kernel_rfl
def F12:FT12:=p12
theorem ok12:OKP (en12 F12):=ST.ok0 q12 Ab Tryz.func12
abbrev FT39:=(R:Type)→(List Tq11)→(List Tq11)→(Bool→Option R)→Option R
abbrev D39_4 (Z:Type):=(List Tq11)→(List Tq11)→Int→Z
abbrev E39_4 (R:Type):=(Bool→Option R)→(Option R)→Option R
abbrev zv0:=(R:Type)→D39_4 (E39_4 R)
def p39_4 (R:Type):D39_4 (D39_4 (Option R)→E39_4 R):=fun x1 x2 x3 kc k0 k1=>
let v4:=(x1.length:Int);let v5:=decide (x3<v4);(match v5 with
|true=>(match bnd x3 x1.length with
|true=>let v6:=x1.getD x3.toNat ((List.replicate 32 0),0,0,());(match bnd x3 x2.length with
|true=>let v7:=x2.getD x3.toNat ((List.replicate 32 0),0,0,());let v8:= !(Kd.eqv Kq11 v6 v7);(match v8 with
|true=>k0 false
|false=>let v9:=IntKind.i64.wrap (x3+1);kc x1 x2 v9)
|false=>none)
|false=>none)
|false=>k1)
def G39_4:Nat→zv0
 | 0=>fun _ _ _ _ _ _=>none
 | n+1=>fun R x1 x2 x3 k0 k1=>p39_4 R x1 x2 x3 (fun x1 x2 x3=>G39_4 n R x1 x2 x3 k0 k1) k0 k1
def p39 (L4:zv0):FT39:=fun R a0 a1 k=>
let v1:=(a0.length:Int);let v2:=(a1.length:Int);let v3:=v1 !=v2;(match v3 with
|true=>k false
|false=>L4 R a0 a1 (0:Int) (fun x4=>
k x4) (k true))
def F39:FT39:=p39 (G39_4 FUEL)
abbrev FT82:=(R:Type)→(List Tq9)→(List Tq9)→(Bool→Option R)→Option R
abbrev D82_4 (Z:Type):=(List Tq9)→(List Tq9)→Int→Z
abbrev E82_4 (R:Type):=(Bool→Option R)→(Option R)→Option R
abbrev zvz:=(R:Type)→D82_4 (E82_4 R)
def p82_4 (R:Type):D82_4 (D82_4 (Option R)→E82_4 R):=fun x1 x2 x3 kc k0 k1=>
let v4:=(x1.length:Int);let v5:=decide (x3<v4);(match v5 with
|true=>(match bnd x3 x1.length with
|true=>let v6:=x1.getD x3.toNat (0,(List.replicate 32 0),false,(List.replicate 32 0),());(match bnd x3 x2.length with
|true=>let v7:=x2.getD x3.toNat (0,(List.replicate 32 0),false,(List.replicate 32 0),());let v8:= !(Kd.eqv Kq9 v6 v7);(match v8 with
|true=>k0 false
|false=>let v9:=IntKind.i64.wrap (x3+1);kc x1 x2 v9)
|false=>none)
|false=>none)
|false=>k1)
def G82_4:Nat→zvz
 | 0=>fun _ _ _ _ _ _=>none
 | n+1=>fun R x1 x2 x3 k0 k1=>p82_4 R x1 x2 x3 (fun x1 x2 x3=>G82_4 n R x1 x2 x3 k0 k1) k0 k1
def p82 (L4:zvz):FT82:=fun R a0 a1 k=>
let v1:=(a0.length:Int);let v2:=(a1.length:Int);let v3:=v1 !=v2;(match v3 with
|true=>k false
|false=>L4 R a0 a1 (0:Int) (fun x4=>
k x4) (k true))
def F82:FT82:=p82 (G82_4 FUEL)
abbrev FT40:=(R:Type)→Tq24→Tq24→(Bool→Option R)→Option R
def p40 (F82:FT82):FT40:=fun R a0 a1 k=>
let v1:=a0.1==a1.1;(match v1 with
|true=>let v2:=Kd.eqv (.arr 32 (.int .u8)) a0.2.1 a1.2.1;(match v2 with
|true=>let v3:=Kd.eqv (.arr 32 (.int .u8)) a0.2.2.1 a1.2.2.1;(match v3 with
|true=>F82 R a0.2.2.2.1 a1.2.2.2.1 fun y4=>
k y4
|false=>k false)
|false=>k false)
|false=>k false)
def F40:FT40:=p40 F82
abbrev FT15:=(R:Type)→Tq29→Tq29→(Bool→Option R)→Option R
def en15 (F:FT15):Ent:=eV 15 [Kq29,Kq29] [.bool] F
def p15 (F27:FT27) (F39:FT39) (F40:FT40):FT15:=fun R a0 a1 k=>
let v1:=Kd.eqv Kq21 a0.1 a1.1;(match v1 with
|true=>let v2:=a0.2.1==a1.2.1;(match v2 with
|true=>F39 R a0.2.2.1 a1.2.2.1 fun y3=>
(match y3 with
|true=>F40 R a0.2.2.2.1 a1.2.2.2.1 fun y4=>
(match y4 with
|true=>F27 R a0.2.2.2.2.1 a1.2.2.2.2.1 fun y5=>
(match y5 with
|true=>F27 R a0.2.2.2.2.2.1 a1.2.2.2.2.2.1 fun y6=>
k y6
|false=>k false)
|false=>k false)
|false=>k false)
|false=>k false)
|false=>k false)
def F15:FT15:=p15 F27 F39 F40
abbrev FT3:=(R:Type)→LI→LI→LI→(Bool→Option R)→Option R
def en3 (F:FT3):Ent:=eV 3 [(.arr 5 (.int .u8)),(.arr 32 (.int .u8)),(.sl (.int .u8))] [.bool] F
abbrev D3_8 (Z:Type):=(List Tq6)→Int→LI→LI→Tq29→Z
abbrev E3_8 (R:Type):=(Bool→Option R)→((List Tq6)→LI→LI→Tq29→Option R)→Option R
abbrev zuy:=(R:Type)→D3_8 (E3_8 R)
def le3_8 (L:zuy):LEnt:=lM 8 [.fix 3 (.ptr 0 [] (.arr 5 (.int .u8))),.fix 4 (.ptr 1 [] (.arr 32 (.int .u8))),.fix 7 (.ptr 2 [] Kq29),.val 9 (.sl Kq6),.val 10 (.int .i64),.var 0 (.arr 5 (.int .u8)) false,.var 1 (.arr 32 (.int .u8)) false,.var 2 Kq29 false] 3 [(.ret,[.val 6 .bool]),(.exit 0,[.fix 3 (.ptr 0 [] (.arr 5 (.int .u8))),.fix 4 (.ptr 1 [] (.arr 32 (.int .u8))),.fix 7 (.ptr 2 [] Kq29),.val 9 (.sl Kq6),.var 0 (.arr 5 (.int .u8)) false,.var 1 (.arr 32 (.int .u8)) false,.var 2 Kq29 false])] L
abbrev D3_18 (Z:Type):=(List Tq6)→Int→Tq29→Tq29→Z
abbrev E3_18 (R:Type):=(Tq29→Tq29→Option R)→Option R
abbrev zek:=(R:Type)→D3_18 (E3_18 R)
def le3_18 (L:zek):LEnt:=lM 18 [.fix 7 (.ptr 2 [] Kq29),.val 9 (.sl Kq6),.fix 13 (.ptr 3 [] Kq29),.val 15 (.int .i64),.var 2 Kq29 false,.var 3 Kq29 false] 4 [(.exit 2,[.fix 7 (.ptr 2 [] Kq29),.fix 13 (.ptr 3 [] Kq29),.var 2 Kq29 false,.var 3 Kq29 false])] L
def e3 (F9:FT9) (F10:FT10) (F11:FT11) (F12:FT12) (F13:FT13) (F14:FT14) (F15:FT15) (L8:zuy) (L18:zek):=sE 0 97 [] [en9 F9,en10 F10,en11 F11,en12 F12,en13 F13,en14 F14,en15 F15] [le3_8 L8,le3_18 L18]
def p3 (F9:FT9) (F10:FT10) (F11:FT11) (F12:FT12) (F13:FT13) (F15:FT15) (L8:zuy) (L18:zek):FT3:=fun R a0 a1 a2 k=>
F9 R  fun y1=>
(match (!y1) with
|true=>k false
|false=>F10 R a2 fun y2=>
(match (!y2) with
|true=>k true
|false=>F12 R a0 fun y3=>
F11 R y3 a1 fun y4 y5=>
F13 R a2 fun y6=>
L8 R y6 (0:Int) a0 a1 y4 (fun x7=>
k x7) (fun x8 x9 x10 x11=>
F12 R x9 fun y12=>
F11 R y12 x10 fun y13 y14=>
L18 R x8 (0:Int) x11 y13 (fun x15 x16=>
F15 R x15 x16 fun y17=>
k y17))))
theorem q3 (F9:FT9) (F10:FT10) (F11:FT11) (F12:FT12) (F13:FT13) (F14:FT14) (F15:FT15) (L8:zuy) (L18:zek):EQ (en3 (p3 F9 F10 F11 F12 F13 F15 L8 L18)) (e3 F9 F10 F11 F12 F13 F14 F15 L8 L18) Tryz.f3 [(.tmp 6,4,false)]:=fun _ _ _=>by kernel_rfl
abbrev FT17:=(R:Type)→(List Tq11)→(LI→Option R)→Option R
def en17 (F:FT17):Ent:=eV 17 [(.sl Kq11)] [(.sl (.int .u64))] F
abbrev D17_3 (Z:Type):=(List Tq11)→Int→LI→Z
abbrev E17_3 (R:Type):=(LI→Option R)→Option R
abbrev zv3:=(R:Type)→D17_3 (E17_3 R)
def p17_3 (R:Type):D17_3 (D17_3 (Option R)→E17_3 R):=fun x1 x2 x3 kc k0=>
let v4:=(x1.length:Int);let v5:=decide (x2<v4);(match v5 with
|true=>(match bnd x2 x1.length with
|true=>let v6:=(x1.getD x2.toNat ((List.replicate 32 0),0,0,())).2.2.1;let v7:=([v6]:LI);(match (decide (x3.length+v7.length≤17592186044416)) with
|true=>let v8:=x3++v7;let v9:=IntKind.i64.wrap (x2+1);kc x1 v9 v8
|false=>none)
|false=>none)
|false=>k0 x3)
def G17_3:Nat→zv3
 | 0=>fun _ _ _ _ _=>none
 | n+1=>fun R x1 x2 x3 k0=>p17_3 R x1 x2 x3 (fun x1 x2 x3=>G17_3 n R x1 x2 x3 k0) k0
def p17 (L3:zv3):FT17:=fun R a0 k=>
L3 R a0 (0:Int) ([]:LI) (fun x1=>
k x1)
def F17:FT17:=p17 (G17_3 FUEL)
abbrev FT41:=(R:Type)→Int→Int→(Int→Bool→Option R)→Option R
def en41 (F:FT41):Ent:=eV 41 [(.int .u64),(.int .u64)] [(.int .u64),.bool] F
def p41:FT41:=fun R a0 a1 k=>
let v1:=decide (a0≥9223372036854775808);(match v1 with
|true=>k (0:Int) false
|false=>let v2:=IntKind.u64.wrap ((9223372036854775808:Int) - a0);let v3:=decide (a1≥v2);(match v3 with
|true=>k (0:Int) false
|false=>let v4:=IntKind.u64.wrap (a0+a1);k v4 true))
def F41:FT41:=p41
abbrev FT16:=(R:Type)→LI→(Int→Bool→Option R)→Option R
def en16 (F:FT16):Ent:=eV 16 [(.sl (.int .u64))] [(.int .u64),.bool] F
abbrev D16_3 (Z:Type):=LI→Int→Int→Z
abbrev E16_3 (R:Type):=(Int→Bool→Option R)→(Int→Option R)→Option R
abbrev zem:=(R:Type)→D16_3 (E16_3 R)
def le16_3 (L:zem):LEnt:=lM 3 [.val 0 (.sl (.int .u64)),.val 4 (.int .u64),.val 5 (.int .i64)] 0 [(.ret,[.val 2 (.int .u64),.val 3 .bool]),(.exit 0,[.val 4 (.int .u64)])] L
def e16 (F41:FT41) (L3:zem):=sE 0 27 [] [en41 F41] [le16_3 L3]
def p16_3 (F41:FT41) (R:Type):D16_3 (D16_3 (Option R)→E16_3 R):=fun x1 x2 x3 kc k0 k1=>
let v4:=(x1.length:Int);let v5:=decide (x3<v4);(match v5 with
|true=>(match bnd x3 x1.length with
|true=>let v6:=x1.getD x3.toNat 0;F41 R x2 v6 fun y7 y8=>
(match (!y8) with
|true=>k0 (0:Int) false
|false=>let v9:=IntKind.i64.wrap (x3+1);kc x1 y7 v9)
|false=>none)
|false=>k1 x2)
def G16_3:Nat→zem
 | 0=>fun _ _ _ _ _ _=>none
 | n+1=>fun R x1 x2 x3 k0 k1=>p16_3 F41 R x1 x2 x3 (fun x1 x2 x3=>G16_3 n R x1 x2 x3 k0 k1) k0 k1
def p16 (L3:zem):FT16:=fun R a0 k=>
L3 R a0 (0:Int) (0:Int) (fun x1 x2=>
k x1 x2) (fun x3=>
k x3 true)
def F16:FT16:=p16 (G16_3 FUEL)
abbrev FT18:=(R:Type)→(List Tq11)→(LI→Option R)→Option R
def en18 (F:FT18):Ent:=eV 18 [(.sl Kq11)] [(.sl (.int .u64))] F
abbrev D18_3 (Z:Type):=(List Tq11)→Int→LI→Z
abbrev E18_3 (R:Type):=(LI→Option R)→Option R
abbrev zel:=(R:Type)→D18_3 (E18_3 R)
def le18_3 (L:zel):LEnt:=lM 3 [.val 0 (.sl Kq11),.fix 3 (.own 0 0),.val 4 (.int .i64),.row 0 (.int .u64) false] 1 [(.exit 0,[.fix 3 (.own 0 0),.row 0 (.int .u64) false])] L
def e18 (L3:zel):=sE 0 20 [(1,0)] [] [le18_3 L3]
def p18_3 (R:Type):D18_3 (D18_3 (Option R)→E18_3 R):=fun x1 x2 x3 kc k0=>
let v4:=(x1.length:Int);let v5:=decide (x2<v4);(match v5 with
|true=>(match bnd x2 x1.length with
|true=>let v6:=(x1.getD x2.toNat ((List.replicate 32 0),0,0,())).2.1;let v7:=([v6]:LI);(match (decide (x3.length+v7.length≤17592186044416)) with
|true=>let v8:=x3++v7;let v9:=IntKind.i64.wrap (x2+1);kc x1 v9 v8
|false=>none)
|false=>none)
|false=>k0 x3)
def G18_3:Nat→zel
 | 0=>fun _ _ _ _ _=>none
 | n+1=>fun R x1 x2 x3 k0=>p18_3 R x1 x2 x3 (fun x1 x2 x3=>G18_3 n R x1 x2 x3 k0) k0
def p18 (L3:zel):FT18:=fun R a0 k=>
L3 R a0 (0:Int) ([]:LI) (fun x1=>
k x1)
def F18:FT18:=p18 (G18_3 FUEL)
abbrev FT4:=(R:Type)→LI→LI→LI→(Bool→Option R)→Option R
def en4 (F:FT4):Ent:=eV 4 [(.arr 5 (.int .u8)),(.arr 32 (.int .u8)),(.sl (.int .u8))] [.bool] F
abbrev D4_10 (Z:Type):=(List Tq6)→Int→Int→Tq21→Tq29→Z
abbrev E4_10 (R:Type):=(Bool→Option R)→(Option R)→Option R
abbrev zej:=(R:Type)→D4_10 (E4_10 R)
def le4_10 (L:zej):LEnt:=lM 10 [.fix 7 (.ptr 2 [] Kq21),.fix 8 (.ptr 3 [] Kq29),.val 10 (.sl Kq6),.val 11 (.int .u64),.val 12 (.int .i64),.var 2 Kq21 false,.var 3 Kq29 false] 4 [(.ret,[.val 6 .bool]),(.exit 0,[])] L
def e4 (F9:FT9) (F10:FT10) (F11:FT11) (F12:FT12) (F13:FT13) (F14:FT14) (F16:FT16) (F17:FT17) (F18:FT18) (L10:zej):=sE 0 115 [] [en9 F9,en10 F10,en11 F11,en12 F12,en13 F13,en14 F14,en16 F16,en17 F17,en18 F18] [le4_10 L10]
def p4 (F9:FT9) (F10:FT10) (F11:FT11) (F12:FT12) (F13:FT13) (L10:zej):FT4:=fun R a0 a1 a2 k=>
F9 R  fun y1=>
(match (!y1) with
|true=>k false
|false=>F10 R a2 fun y2=>
(match (!y2) with
|true=>k true
|false=>F12 R a0 fun y3=>
F11 R y3 a1 fun y4 y5=>
F13 R a2 fun y6=>
L10 R y6 (0:Int) (0:Int) y3 y4 (fun x7=>
k x7) (k true)))
theorem q4 (F9:FT9) (F10:FT10) (F11:FT11) (F12:FT12) (F13:FT13) (F14:FT14) (F16:FT16) (F17:FT17) (F18:FT18) (L10:zej):EQ (en4 (p4 F9 F10 F11 F12 F13 L10)) (e4 F9 F10 F11 F12 F13 F14 F16 F17 F18 L10) Tryz.f4 [(.tmp 6,4,false)]:=fun _ _ _=>by kernel_rfl
abbrev FT20:=(R:Type)→Tq17→Tq17→(Bool→Option R)→Option R
def en20 (F:FT20):Ent:=eV 20 [Kq17,Kq17] [.bool] F
def p20 (F27:FT27):FT20:=fun R a0 a1 k=>
let v1:=a0.1==a1.1;(match v1 with
|true=>let v2:=a0.2.1==a1.2.1;(match v2 with
|true=>F27 R a0.2.2.1 a1.2.2.1 fun y3=>
(match y3 with
|true=>let v4:=Kd.eqv (.arr 32 (.int .u8)) a0.2.2.2.1 a1.2.2.2.1;k v4
|false=>k false)
|false=>k false)
|false=>k false)
def F20:FT20:=p20 F27
abbrev FT5:=(R:Type)→LI→LI→LI→(Bool→Option R)→Option R
def en5 (F:FT5):Ent:=eV 5 [(.arr 5 (.int .u8)),(.arr 32 (.int .u8)),(.sl (.int .u8))] [.bool] F
abbrev D5_12 (Z:Type):=(List Tq17)→(List Tq6)→Int→LI→Tq21→Tq29→Tq29→Z
abbrev E5_12 (R:Type):=(Bool→Option R)→((List Tq6)→LI→Tq21→Tq29→Tq29→Option R)→Option R
abbrev zei:=(R:Type)→D5_12 (E5_12 R)
def le5_12 (L:zei):LEnt:=lM 12 [.fix 4 (.ptr 1 [] (.arr 32 (.int .u8))),.fix 7 (.ptr 2 [] Kq21),.fix 8 (.ptr 3 [] Kq29),.val 9 (.sl Kq17),.val 11 (.sl Kq6),.fix 12 (.ptr 4 [] Kq29),.val 14 (.int .i64),.var 1 (.arr 32 (.int .u8)) false,.var 2 Kq21 false,.var 3 Kq29 false,.var 4 Kq29 false] 5 [(.ret,[.val 6 .bool]),(.exit 0,[.fix 4 (.ptr 1 [] (.arr 32 (.int .u8))),.fix 7 (.ptr 2 [] Kq21),.fix 8 (.ptr 3 [] Kq29),.val 11 (.sl Kq6),.fix 12 (.ptr 4 [] Kq29),.var 1 (.arr 32 (.int .u8)) false,.var 2 Kq21 false,.var 3 Kq29 false,.var 4 Kq29 false])] L
def e5 (F9:FT9) (F10:FT10) (F11:FT11) (F12:FT12) (F13:FT13) (F14:FT14) (F15:FT15) (F19:FT19) (F20:FT20) (F21:FT21) (F22:FT22) (L12:zei):=sE 0 126 [] [en9 F9,en10 F10,en11 F11,en12 F12,en13 F13,en14 F14,en15 F15,en19 F19,en20 F20,en21 F21,en22 F22] [le5_12 L12]
def p5 (F9:FT9) (F10:FT10) (F11:FT11) (F12:FT12) (F13:FT13) (F15:FT15) (F19:FT19) (F21:FT21) (F22:FT22) (L12:zei):FT5:=fun R a0 a1 a2 k=>
F9 R  fun y1=>
(match (!y1) with
|true=>k false
|false=>F10 R a2 fun y2=>
(match (!y2) with
|true=>k true
|false=>F12 R a0 fun y3=>
F19 R y3 a1 a2 fun y4 y5 y6=>
F13 R a2 fun y7=>
F11 R y3 a1 fun y8 y9=>
let v10:=y6 !=0;(match v10 with
|true=>k false
|false=>let v11:=y9 !=0;(match v11 with
|true=>k false
|false=>let v12:=(y5.length:Int);let v13:=(y7.length:Int);let v14:=v12 !=v13;(match v14 with
|true=>k false
|false=>L12 R y5 y7 (0:Int) a1 y3 y4 y8 (fun x15=>
k x15) (fun x16 x17 x18 x19 x20=>
let v21:=(x16.length:Int);let v22:=decide (v21>0);(match v22 with
|true=>let v23:=(x16.length:Int);let v24:=IntKind.i64.wrap (v23 - 1);(match bnd v24 x16.length with
|true=>let v25:=x16.getD v24.toNat (0,0,0,(List.replicate 32 0),0,());F21 R v25 fun y26=>
(match (!y26) with
|true=>let v27:=(x16.length:Int);let v28:=IntKind.i64.wrap (v27 - 1);(match (decide (0≤(0:Int)∧(0:Int)≤v28∧v28≤v28∧v28≤(x16.length:Int))) with
|true=>let v29:=List.take (Int.toNat (v28 - 0)) (List.drop 0 x16);F22 R v29 fun y30 y31=>
F19 R x18 x17 y30 fun y32 y33 y34=>
let v35:=y31 !=0;(match v35 with
|true=>k false
|false=>let v36:=y34 !=0;(match v36 with
|true=>k false
|false=>F15 R y32 x19 fun y37=>
(match (!y37) with
|true=>k false
|false=>F15 R x19 x20 fun y38=>
k y38)))
|false=>none)
|false=>F15 R x19 x20 fun y39=>
k y39)
|false=>none)
|false=>F15 R x19 x20 fun y40=>
k y40)))))))
theorem q5 (F9:FT9) (F10:FT10) (F11:FT11) (F12:FT12) (F13:FT13) (F14:FT14) (F15:FT15) (F19:FT19) (F20:FT20) (F21:FT21) (F22:FT22) (L12:zei):EQ (en5 (p5 F9 F10 F11 F12 F13 F15 F19 F21 F22 L12)) (e5 F9 F10 F11 F12 F13 F14 F15 F19 F20 F21 F22 L12) Tryz.f5 [(.tmp 6,4,false)]:=fun _ _ _=>by kernel_rfl
abbrev FT23:=(R:Type)→(List LI)→(LI→Option R)→Option R
def en23 (F:FT23):Ent:=eV 23 [(.sl (.arr 32 (.int .u8)))] [(.arr 32 (.int .u8))] F
abbrev D23_3 (Z:Type):=(List LI)→Int→LI→LI→Z
abbrev E23_3 (R:Type):=(LI→LI→Option R)→Option R
abbrev zv2:=(R:Type)→D23_3 (E23_3 R)
abbrev D23_6 (Z:Type):=(List LI)→Int→Int→LI→LI→Z
abbrev E23_6 (R:Type):=((List LI)→Int→LI→LI→Option R)→Option R
abbrev zv1:=(R:Type)→D23_6 (E23_6 R)
def p23_6 (R:Type):D23_6 (D23_6 (Option R)→E23_6 R):=fun x1 x2 x3 x4 x5 kc k0=>
let v6:=decide (x3<32);(match v6 with
|true=>(match (bnd x3 (32:Int)) with
|true=>let v7:=x5.getD x3.toNat 0;(match bnd x2 x1.length with
|true=>(match (bnd x3 (32:Int)) with
|true=>let v8:=List.getD (x1.getD x2.toNat (List.replicate 32 0)) x3.toNat (0:Int);let v9:=ixor .u8 v7 v8;(match (bnd x3 (32:Int)) with
|true=>let v10:=x5.set x3.toNat v9;let v11:=IntKind.i64.wrap (x3+1);kc x1 x2 v11 x4 v10
|false=>none)
|false=>none)
|false=>none)
|false=>none)
|false=>k0 x1 x2 x4 x5)
def G23_6:Nat→zv1
 | 0=>fun _ _ _ _ _ _ _=>none
 | n+1=>fun R x1 x2 x3 x4 x5 k0=>p23_6 R x1 x2 x3 x4 x5 (fun x1 x2 x3 x4 x5=>G23_6 n R x1 x2 x3 x4 x5 k0) k0
def p23_3 (L6:zv1) (R:Type):D23_3 (D23_3 (Option R)→E23_3 R):=fun x1 x2 x3 x4 kc k0=>
let v5:=(x1.length:Int);let v6:=decide (x2<v5);(match v6 with
|true=>L6 R x1 x2 (0:Int) x3 x4 (fun x7 x8 x9 x10=>
let v11:=IntKind.i64.wrap (x8+1);kc x7 v11 x9 x10)
|false=>k0 x3 x4)
def G23_3:Nat→zv2
 | 0=>fun _ _ _ _ _ _=>none
 | n+1=>fun R x1 x2 x3 x4 k0=>p23_3 (G23_6 FUEL) R x1 x2 x3 x4 (fun x1 x2 x3 x4=>G23_3 n R x1 x2 x3 x4 k0) k0
def p23 (L3:zv2):FT23:=fun R a0 k=>
L3 R a0 (0:Int) (List.replicate 32 (0:Int)) (List.replicate 32 (0:Int)) (fun x1 x2=>
k x2)
def F23:FT23:=p23 (G23_3 FUEL)
abbrev FT6:=(R:Type)→LI→LI→LI→(Bool→Option R)→Option R
def en6 (F:FT6):Ent:=eV 6 [(.arr 5 (.int .u8)),(.arr 32 (.int .u8)),(.sl (.int .u8))] [.bool] F
abbrev D6_10 (Z:Type):=(List Tq6)→Int→Int→Int→Tq21→Tq29→LI→LI→Z
abbrev E6_10 (R:Type):=(Bool→Option R)→(Option R)→Option R
abbrev zeh:=(R:Type)→D6_10 (E6_10 R)
def le6_10 (L:zeh):LEnt:=lM 10 [.fix 7 (.ptr 2 [] Kq21),.fix 8 (.ptr 3 [] Kq29),.val 10 (.sl Kq6),.fix 11 (.ptr 4 [] (.arr 32 (.int .u8))),.fix 12 (.ptr 5 [] (.arr 32 (.int .u8))),.val 13 (.int .u64),.val 14 (.int .i64),.val 15 (.int .i64),.var 2 Kq21 false,.var 3 Kq29 false,.var 4 (.arr 32 (.int .u8)) false,.var 5 (.arr 32 (.int .u8)) false] 6 [(.ret,[.val 6 .bool]),(.exit 0,[])] L
def e6 (F9:FT9) (F10:FT10) (F11:FT11) (F12:FT12) (F13:FT13) (F14:FT14) (F23:FT23) (F24:FT24) (L10:zeh):=sE 0 105 [] [en9 F9,en10 F10,en11 F11,en12 F12,en13 F13,en14 F14,en23 F23,en24 F24] [le6_10 L10]
def p6 (F9:FT9) (F10:FT10) (F11:FT11) (F12:FT12) (F13:FT13) (L10:zeh):FT6:=fun R a0 a1 a2 k=>
F9 R  fun y1=>
(match (!y1) with
|true=>k false
|false=>F10 R a2 fun y2=>
(match (!y2) with
|true=>k true
|false=>F12 R a0 fun y3=>
F11 R y3 a1 fun y4 y5=>
F13 R a2 fun y6=>
let v7:=List.replicate 32 (0:Int);L10 R y6 (0:Int) (0:Int) (0:Int) y3 y4 a1 v7 (fun x8=>
k x8) (k true)))
theorem q6 (F9:FT9) (F10:FT10) (F11:FT11) (F12:FT12) (F13:FT13) (F14:FT14) (F23:FT23) (F24:FT24) (L10:zeh):EQ (en6 (p6 F9 F10 F11 F12 F13 L10)) (e6 F9 F10 F11 F12 F13 F14 F23 F24 L10) Tryz.f6 [(.tmp 6,4,false)]:=fun _ _ _=>by kernel_rfl
abbrev FT48:=(R:Type)→Tq21→(Bool→Option R)→Option R
def en48 (F:FT48):Ent:=eV 48 [Kq21] [.bool] F
def p48:FT48:=fun R a0 k=>
let v1:=decide (a0.1≥1);(match v1 with
|true=>let v2:=decide (a0.1≤1024);(match v2 with
|true=>let v3:=decide (a0.2.1≥0);(match v3 with
|true=>let v4:=decide (a0.2.1≤a0.1);(match v4 with
|true=>let v5:=decide (a0.2.2.1≥0);(match v5 with
|true=>let v6:=IntKind.i64.wrap (a0.1 - a0.2.1);let v7:=decide (a0.2.2.1≤v6);(match v7 with
|true=>let v8:=decide (a0.2.2.2.1≥1);(match v8 with
|true=>let v9:=decide (a0.2.2.2.1≤64);(match v9 with
|true=>let v10:=decide (a0.2.2.2.2.1≥1);(match v10 with
|true=>let v11:=decide (a0.2.2.2.2.1≤1048576);k v11
|false=>k false)
|false=>k false)
|false=>k false)
|false=>k false)
|false=>k false)
|false=>k false)
|false=>k false)
|false=>k false)
|false=>k false)
theorem q48:EQ (en48 p48) (sE 0 58 [] [] []) Tryz.f48 [(.tmp 2,4,false)]:=fun _ _ _=>by kernel_rfl
def F48:FT48:=p48
theorem ok48:OKP (en48 F48):=ST.ok0 q48 Ab Tryz.func48
abbrev FT25:=(R:Type)→Tq21→Int→(Int→Option R)→Option R
def en25 (F:FT25):Ent:=eV 25 [Kq21,(.int .i64)] [(.int .i64)] F
def p25 (F48:FT48):FT25:=fun R a0 a1 k=>
F48 R a0 fun y1=>
(match (!y1) with
|true=>k (0:Int)
|false=>let v2:=decide (a1<0);(match v2 with
|true=>k (0:Int)
|false=>let v3:=decide (a1≥a0.1);(match v3 with
|true=>k (0:Int)
|false=>let v4:=decide (a1<a0.2.1);(match v4 with
|true=>k (1:Int)
|false=>let v5:=IntKind.i64.wrap (a0.2.1+a0.2.2.1);let v6:=decide (a1<v5);(match v6 with
|true=>k (2:Int)
|false=>k (3:Int))))))
theorem q25 (F48:FT48):EQ (en25 (p25 F48)) (sE 0 32 [] [en48 F48] []) Tryz.f25 [(.tmp 4,3,false)]:=fun _ _ _=>by kernel_rfl
def F25:FT25:=p25 F48
theorem ok25:OKP (en25 F25):=ST.ok0 (q25 F48) (Aa ok48 Ab) Tryz.func25
end Go.PG
set_option maxRecDepth 100000
namespace Go.PG
open Go.Proofs
abbrev FT7:=(R:Type)→LI→LI→LI→(Bool→Option R)→Option R
def en7 (F:FT7):Ent:=eV 7 [(.arr 5 (.int .u8)),(.arr 32 (.int .u8)),(.sl (.int .u8))] [.bool] F
abbrev D7_10 (Z:Type):=(List Tq6)→Int→Tq21→Tq29→(List Tq9)→Z
abbrev E7_10 (R:Type):=(Bool→Option R)→(Option R)→Option R
abbrev Ld:=(R:Type)→D7_10 (E7_10 R)
def zjv (L:Ld):LEnt:=lM 10 [.fix 7 (.ptr 2 [] Kq21),.fix 8 (.ptr 3 [] Kq29),.val 10 (.sl Kq6),.fix 11 (.own 4 0),.val 12 (.int .i64),.var 2 Kq21 false,.var 3 Kq29 false,.row 4 Kq9 false] 5 [(.ret,[.val 6 .bool]),(.exit 0,[])] L
abbrev D7_18 (Z:Type):=(List Tq6)→Int→Int→Int→Int→Int→Tq21→Tq29→(List Tq9)→Tq6→Tq29→Tq17→Z
abbrev E7_18 (R:Type):=((List Tq6)→Int→Int→Int→Int→Tq21→Tq29→(List Tq9)→Tq6→Tq29→Tq17→Option R)→Option R
abbrev Lc:=(R:Type)→D7_18 (E7_18 R)
def zju (L:Lc):LEnt:=lM 18 [.fix 7 (.ptr 2 [] Kq21),.fix 8 (.ptr 3 [] Kq29),.val 10 (.sl Kq6),.fix 11 (.own 4 0),.val 12 (.int .i64),.fix 13 (.ptr 5 [] Kq6),.val 14 (.int .i64),.val 15 (.int .i64),.fix 16 (.ptr 6 [] Kq29),.fix 17 (.ptr 7 [] Kq17),.val 18 (.int .i64),.val 19 (.int .i64),.var 2 Kq21 false,.var 3 Kq29 false,.row 4 Kq9 false,.var 5 Kq6 false,.var 6 Kq29 false,.var 7 Kq17 false] 8 [(.exit 2,[.fix 7 (.ptr 2 [] Kq21),.fix 8 (.ptr 3 [] Kq29),.val 10 (.sl Kq6),.fix 11 (.own 4 0),.val 12 (.int .i64),.fix 13 (.ptr 5 [] Kq6),.val 14 (.int .i64),.val 15 (.int .i64),.fix 16 (.ptr 6 [] Kq29),.fix 17 (.ptr 7 [] Kq17),.val 18 (.int .i64),.var 2 Kq21 false,.var 3 Kq29 false,.row 4 Kq9 false,.var 5 Kq6 false,.var 6 Kq29 false,.var 7 Kq17 false])] L
abbrev D7_36 (Z:Type):=(List Tq6)→Int→Int→Int→Tq21→Tq29→(List Tq9)→Tq29→Tq17→LI→Z
abbrev E7_36 (R:Type):=((List Tq6)→Int→Tq21→Tq29→Tq29→Tq17→LI→Option R)→Option R
abbrev Lb:=(R:Type)→D7_36 (E7_36 R)
def zjt (L:Lb):LEnt:=lM 36 [.fix 7 (.ptr 2 [] Kq21),.fix 8 (.ptr 3 [] Kq29),.val 10 (.sl Kq6),.fix 11 (.own 4 0),.val 12 (.int .i64),.val 15 (.int .i64),.fix 16 (.ptr 6 [] Kq29),.fix 17 (.ptr 7 [] Kq17),.fix 21 (.own 9 0),.val 22 (.int .i64),.var 2 Kq21 false,.var 3 Kq29 false,.row 4 Kq9 false,.var 6 Kq29 false,.var 7 Kq17 false,.row 9 (.int .i64) false] 10 [(.exit 4,[.fix 7 (.ptr 2 [] Kq21),.fix 8 (.ptr 3 [] Kq29),.val 10 (.sl Kq6),.val 12 (.int .i64),.fix 16 (.ptr 6 [] Kq29),.fix 17 (.ptr 7 [] Kq17),.fix 21 (.own 9 0),.var 2 Kq21 false,.var 3 Kq29 false,.var 6 Kq29 false,.var 7 Kq17 false,.row 9 (.int .i64) false])] L
abbrev D7_39 (Z:Type):=(List Tq6)→Int→Int→Int→Int→Tq21→Tq29→(List Tq9)→Tq29→Tq17→LI→Z
abbrev E7_39 (R:Type):=((List Tq6)→Int→Int→Int→Tq21→Tq29→(List Tq9)→Tq29→Tq17→LI→Option R)→Option R
abbrev La:=(R:Type)→D7_39 (E7_39 R)
def zjs (L:La):LEnt:=lM 39 [.fix 7 (.ptr 2 [] Kq21),.fix 8 (.ptr 3 [] Kq29),.val 10 (.sl Kq6),.fix 11 (.own 4 0),.val 12 (.int .i64),.val 15 (.int .i64),.fix 16 (.ptr 6 [] Kq29),.fix 17 (.ptr 7 [] Kq17),.fix 21 (.own 9 0),.val 22 (.int .i64),.val 23 (.int .i64),.var 2 Kq21 false,.var 3 Kq29 false,.row 4 Kq9 false,.var 6 Kq29 false,.var 7 Kq17 false,.row 9 (.int .i64) false] 10 [(.exit 6,[.fix 7 (.ptr 2 [] Kq21),.fix 8 (.ptr 3 [] Kq29),.val 10 (.sl Kq6),.fix 11 (.own 4 0),.val 12 (.int .i64),.val 15 (.int .i64),.fix 16 (.ptr 6 [] Kq29),.fix 17 (.ptr 7 [] Kq17),.fix 21 (.own 9 0),.val 22 (.int .i64),.var 2 Kq21 false,.var 3 Kq29 false,.row 4 Kq9 false,.var 6 Kq29 false,.var 7 Kq17 false,.row 9 (.int .i64) false])] L
def e7 (F9:FT9) (F10:FT10) (F11:FT11) (F12:FT12) (F13:FT13) (F14:FT14) (F25:FT25) (F26:FT26) (F27:FT27) (L10:Ld) (L18:Lc) (L36:Lb) (L39:La):=sE 0 204 [(8,0),(34,0),(45,0)] [en9 F9,en10 F10,en11 F11,en12 F12,en13 F13,en14 F14,en25 F25,en26 F26,en27 F27] [zjv L10,zju L18,zjt L36,zjs L39]
def zy0 (R:Type):D7_18 (D7_18 (Option R)→E7_18 R):=fun x1 x2 x3 x4 x5 x6 x7 x8 x9 x10 x11 x12 kc k0=>
let v13:=(x9.length:Int);let v14:=decide (x6<v13);(match v14 with
|true=>(match bnd x6 x9.length with
|true=>let v15:=(x9.getD x6.toNat (0,(List.replicate 32 0),false,(List.replicate 32 0),())).1;let v16:=v15==x10.2.1;(match v16 with
|true=>let v17:=IntKind.i64.wrap (x6+1);kc x1 x2 x3 x4 x6 v17 x7 x8 x9 x10 x11 x12
|false=>let v18:=IntKind.i64.wrap (x6+1);kc x1 x2 x3 x4 x5 v18 x7 x8 x9 x10 x11 x12)
|false=>none)
|false=>k0 x1 x2 x3 x4 x5 x7 x8 x9 x10 x11 x12)
theorem q7_18 (F9:FT9) (F10:FT10) (F11:FT11) (F12:FT12) (F13:FT13) (F14:FT14) (F25:FT25) (F26:FT26) (F27:FT27) (L10:Ld) (L18:Lc) (L36:Lb) (L39:La):LEQ (zju L18) (e7 F9 F10 F11 F12 F13 F14 F25 F26 F27 L10 L18 L36 L39) Tryz.f7 zy0:=fun _ _ _ _=>by kernel_rfl
def Q3:Nat→Lc
 | 0=>fun _ _ _ _ _ _ _ _ _ _ _ _ _ _=>none
 | n+1=>fun R x1 x2 x3 x4 x5 x6 x7 x8 x9 x10 x11 x12 k0=>zy0 R x1 x2 x3 x4 x5 x6 x7 x8 x9 x10 x11 x12 (fun x1 x2 x3 x4 x5 x6 x7 x8 x9 x10 x11 x12=>Q3 n R x1 x2 x3 x4 x5 x6 x7 x8 x9 x10 x11 x12 k0) k0
def zyy (R:Type):D7_39 (D7_39 (Option R)→E7_39 R):=fun x1 x2 x3 x4 x5 x6 x7 x8 x9 x10 x11 kc k0=>
let v12:=(x8.length:Int);let v13:=decide (x5<v12);(match v13 with
|true=>(match bnd x5 x8.length with
|true=>let v14:=(x8.getD x5.toNat (0,(List.replicate 32 0),false,(List.replicate 32 0),())).1;let v15:=v14==x4;(match v15 with
|true=>(match bnd x5 x8.length with
|true=>let v16:=(x8.getD x5.toNat (0,(List.replicate 32 0),false,(List.replicate 32 0),())).2.2.1;(match (!v16) with
|true=>let v17:=([x4]:LI);(match (decide (x11.length+v17.length≤17592186044416)) with
|true=>let v18:=x11++v17;let v19:=IntKind.i64.wrap (x5+1);kc x1 x2 x3 x4 v19 x6 x7 x8 x9 x10 v18
|false=>none)
|false=>let v20:=IntKind.i64.wrap (x5+1);kc x1 x2 x3 x4 v20 x6 x7 x8 x9 x10 x11)
|false=>none)
|false=>let v21:=IntKind.i64.wrap (x5+1);kc x1 x2 x3 x4 v21 x6 x7 x8 x9 x10 x11)
|false=>none)
|false=>k0 x1 x2 x3 x4 x6 x7 x8 x9 x10 x11)
theorem q7_39 (F9:FT9) (F10:FT10) (F11:FT11) (F12:FT12) (F13:FT13) (F14:FT14) (F25:FT25) (F26:FT26) (F27:FT27) (L10:Ld) (L18:Lc) (L36:Lb) (L39:La):LEQ (zjs L39) (e7 F9 F10 F11 F12 F13 F14 F25 F26 F27 L10 L18 L36 L39) Tryz.f7 zyy:=fun _ _ _ _=>by kernel_rfl
def Q2:Nat→La
 | 0=>fun _ _ _ _ _ _ _ _ _ _ _ _ _=>none
 | n+1=>fun R x1 x2 x3 x4 x5 x6 x7 x8 x9 x10 x11 k0=>zyy R x1 x2 x3 x4 x5 x6 x7 x8 x9 x10 x11 (fun x1 x2 x3 x4 x5 x6 x7 x8 x9 x10 x11=>Q2 n R x1 x2 x3 x4 x5 x6 x7 x8 x9 x10 x11 k0) k0
def zyz (L39:La) (R:Type):D7_36 (D7_36 (Option R)→E7_36 R):=fun x1 x2 x3 x4 x5 x6 x7 x8 x9 x10 kc k0=>
let v11:=decide (x4<x3);(match v11 with
|true=>L39 R x1 x2 x3 x4 (0:Int) x5 x6 x7 x8 x9 x10 (fun x12 x13 x14 x15 x16 x17 x18 x19 x20 x21=>
let v22:=IntKind.i64.wrap (x15+1);kc x12 x13 x14 v22 x16 x17 x18 x19 x20 x21)
|false=>k0 x1 x2 x5 x6 x8 x9 x10)
theorem q7_36 (F9:FT9) (F10:FT10) (F11:FT11) (F12:FT12) (F13:FT13) (F14:FT14) (F25:FT25) (F26:FT26) (F27:FT27) (L10:Ld) (L18:Lc) (L36:Lb) (L39:La):LEQ (zjt L36) (e7 F9 F10 F11 F12 F13 F14 F25 F26 F27 L10 L18 L36 L39) Tryz.f7 (zyz L39):=fun _ _ _ _=>by kernel_rfl
def P9:Nat→Lb
 | 0=>fun _ _ _ _ _ _ _ _ _ _ _ _=>none
 | n+1=>fun R x1 x2 x3 x4 x5 x6 x7 x8 x9 x10 k0=>zyz (Q2 FUEL) R x1 x2 x3 x4 x5 x6 x7 x8 x9 x10 (fun x1 x2 x3 x4 x5 x6 x7 x8 x9 x10=>P9 n R x1 x2 x3 x4 x5 x6 x7 x8 x9 x10 k0) k0
def zy1 (F14:FT14) (F25:FT25) (F26:FT26) (F27:FT27) (L18:Lc) (L36:Lb) (R:Type):D7_10 (D7_10 (Option R)→E7_10 R):=fun x1 x2 x3 x4 x5 kc k0 k1=>
let v6:=(x1.length:Int);let v7:=decide (x2<v6);(match v7 with
|true=>(match bnd x2 x1.length with
|true=>let v8:=x1.getD x2.toNat (0,0,0,(List.replicate 32 0),0,());F25 R x3 x4.2.1 fun y9=>
let v10:=(x4.2.2.1.length:Int);F14 R x4 v8 fun y11 y12=>
L18 R x1 x2 y9 v10 (-1:Int) (0:Int) x3 x4 x5 v8 y11 y12 (fun x13 x14 x15 x16 x17 x18 x19 x20 x21 x22 x23=>
let v24:=x21.1==4;(match v24 with
|true=>let v25:=x23.1==0;let v26:=decide (x21.2.1<x16);(match v26 with
|true=>let v27:=x15==1;(match v27 with
|true=>let v28:=decide (x17<0);let v29:= !(v25==v28);(match v29 with
|true=>k0 false
|false=>let v30:=x23.1==0;(match v30 with
|true=>let v31:=([(x21.2.1,x21.2.2.2.1,false,(List.replicate 32 (0:Int)),())]:(List Tq9));(match (decide (x20.length+v31.length≤1759218604441)) with
|true=>let v32:=x20++v31;let v33:=x21.1==5;(match v33 with
|true=>let v34:=decide (x21.2.1<x16);(match v34 with
|true=>let v35:=x15==2;(match v35 with
|true=>let v36:=decide (x17≥0);(match v36 with
|true=>let v37:=if (0:Int)>x17 then (0:Int) else x17;(match bnd v37 v32.length with
|true=>let v38:=(v32.getD v37.toNat (0,(List.replicate 32 0),false,(List.replicate 32 0),())).2.2.1;(match (!v38) with
|true=>F26 R x21.2.2.2.1 fun y39=>
let v40:=if (0:Int)>x17 then (0:Int) else x17;(match bnd v40 v32.length with
|true=>let v41:=(v32.getD v40.toNat (0,(List.replicate 32 0),false,(List.replicate 32 0),())).2.1;let v42:=Kd.eqv (.arr 32 (.int .u8)) y39 v41;let v43:=x23.1==0;let v44:= !(v43==v42);(match v44 with
|true=>k0 false
|false=>(match v42 with
|true=>(match bnd x17 v32.length with
|true=>let v45:=v32.set x17.toNat ((v32.getD x17.toNat (0,(List.replicate 32 0),false,(List.replicate 32 0),())).1,(v32.getD x17.toNat (0,(List.replicate 32 0),false,(List.replicate 32 0),())).2.1,true,(v32.getD x17.toNat (0,(List.replicate 32 0),false,(List.replicate 32 0),())).2.2.2);let v46:=x21.1==6;(match v46 with
|true=>let v47:=x22.2.1==0;(match v47 with
|true=>L36 R x13 x14 x16 (0:Int) x18 x19 v45 x22 x23 ([]:LI) (fun x48 x49 x50 x51 x52 x53 x54=>
F27 R x52.2.2.2.2.2.1 x54 fun y55=>
(match (!y55) with
|true=>k0 false
|false=>F27 R x53.2.2.1 x54 fun y56=>
(match (!y56) with
|true=>k0 false
|false=>let v57:=IntKind.i64.wrap (x49+1);kc x48 v57 x50 x52 ([]:(List Tq9)))))
|false=>let v58:=IntKind.i64.wrap (x14+1);kc x13 v58 x18 x22 v45)
|false=>let v59:=IntKind.i64.wrap (x14+1);kc x13 v59 x18 x22 v45)
|false=>none)
|false=>let v60:=x21.1==6;(match v60 with
|true=>let v61:=x22.2.1==0;(match v61 with
|true=>L36 R x13 x14 x16 (0:Int) x18 x19 v32 x22 x23 ([]:LI) (fun x62 x63 x64 x65 x66 x67 x68=>
F27 R x66.2.2.2.2.2.1 x68 fun y69=>
(match (!y69) with
|true=>k0 false
|false=>F27 R x67.2.2.1 x68 fun y70=>
(match (!y70) with
|true=>k0 false
|false=>let v71:=IntKind.i64.wrap (x63+1);kc x62 v71 x64 x66 ([]:(List Tq9)))))
|false=>let v72:=IntKind.i64.wrap (x14+1);kc x13 v72 x18 x22 v32)
|false=>let v73:=IntKind.i64.wrap (x14+1);kc x13 v73 x18 x22 v32)))
|false=>none)
|false=>let v74:=x23.1==0;let v75:= !(v74==false);(match v75 with
|true=>k0 false
|false=>let v76:=x21.1==6;(match v76 with
|true=>let v77:=x22.2.1==0;(match v77 with
|true=>L36 R x13 x14 x16 (0:Int) x18 x19 v32 x22 x23 ([]:LI) (fun x78 x79 x80 x81 x82 x83 x84=>
F27 R x82.2.2.2.2.2.1 x84 fun y85=>
(match (!y85) with
|true=>k0 false
|false=>F27 R x83.2.2.1 x84 fun y86=>
(match (!y86) with
|true=>k0 false
|false=>let v87:=IntKind.i64.wrap (x79+1);kc x78 v87 x80 x82 ([]:(List Tq9)))))
|false=>let v88:=IntKind.i64.wrap (x14+1);kc x13 v88 x18 x22 v32)
|false=>let v89:=IntKind.i64.wrap (x14+1);kc x13 v89 x18 x22 v32)))
|false=>none)
|false=>let v90:=x23.1==0;let v91:= !(v90==false);(match v91 with
|true=>k0 false
|false=>let v92:=x21.1==6;(match v92 with
|true=>let v93:=x22.2.1==0;(match v93 with
|true=>L36 R x13 x14 x16 (0:Int) x18 x19 v32 x22 x23 ([]:LI) (fun x94 x95 x96 x97 x98 x99 x100=>
F27 R x98.2.2.2.2.2.1 x100 fun y101=>
(match (!y101) with
|true=>k0 false
|false=>F27 R x99.2.2.1 x100 fun y102=>
(match (!y102) with
|true=>k0 false
|false=>let v103:=IntKind.i64.wrap (x95+1);kc x94 v103 x96 x98 ([]:(List Tq9)))))
|false=>let v104:=IntKind.i64.wrap (x14+1);kc x13 v104 x18 x22 v32)
|false=>let v105:=IntKind.i64.wrap (x14+1);kc x13 v105 x18 x22 v32)))
|false=>let v106:=x23.1==0;let v107:= !(v106==false);(match v107 with
|true=>k0 false
|false=>let v108:=x21.1==6;(match v108 with
|true=>let v109:=x22.2.1==0;(match v109 with
|true=>L36 R x13 x14 x16 (0:Int) x18 x19 v32 x22 x23 ([]:LI) (fun x110 x111 x112 x113 x114 x115 x116=>
F27 R x114.2.2.2.2.2.1 x116 fun y117=>
(match (!y117) with
|true=>k0 false
|false=>F27 R x115.2.2.1 x116 fun y118=>
(match (!y118) with
|true=>k0 false
|false=>let v119:=IntKind.i64.wrap (x111+1);kc x110 v119 x112 x114 ([]:(List Tq9)))))
|false=>let v120:=IntKind.i64.wrap (x14+1);kc x13 v120 x18 x22 v32)
|false=>let v121:=IntKind.i64.wrap (x14+1);kc x13 v121 x18 x22 v32)))
|false=>let v122:=x23.1==0;let v123:= !(v122==false);(match v123 with
|true=>k0 false
|false=>let v124:=x21.1==6;(match v124 with
|true=>let v125:=x22.2.1==0;(match v125 with
|true=>L36 R x13 x14 x16 (0:Int) x18 x19 v32 x22 x23 ([]:LI) (fun x126 x127 x128 x129 x130 x131 x132=>
F27 R x130.2.2.2.2.2.1 x132 fun y133=>
(match (!y133) with
|true=>k0 false
|false=>F27 R x131.2.2.1 x132 fun y134=>
(match (!y134) with
|true=>k0 false
|false=>let v135:=IntKind.i64.wrap (x127+1);kc x126 v135 x128 x130 ([]:(List Tq9)))))
|false=>let v136:=IntKind.i64.wrap (x14+1);kc x13 v136 x18 x22 v32)
|false=>let v137:=IntKind.i64.wrap (x14+1);kc x13 v137 x18 x22 v32)))
|false=>let v138:=x21.1==6;(match v138 with
|true=>let v139:=x22.2.1==0;(match v139 with
|true=>L36 R x13 x14 x16 (0:Int) x18 x19 v32 x22 x23 ([]:LI) (fun x140 x141 x142 x143 x144 x145 x146=>
F27 R x144.2.2.2.2.2.1 x146 fun y147=>
(match (!y147) with
|true=>k0 false
|false=>F27 R x145.2.2.1 x146 fun y148=>
(match (!y148) with
|true=>k0 false
|false=>let v149:=IntKind.i64.wrap (x141+1);kc x140 v149 x142 x144 ([]:(List Tq9)))))
|false=>let v150:=IntKind.i64.wrap (x14+1);kc x13 v150 x18 x22 v32)
|false=>let v151:=IntKind.i64.wrap (x14+1);kc x13 v151 x18 x22 v32))
|false=>none)
|false=>let v152:=x21.1==5;(match v152 with
|true=>let v153:=decide (x21.2.1<x16);(match v153 with
|true=>let v154:=x15==2;(match v154 with
|true=>let v155:=decide (x17≥0);(match v155 with
|true=>let v156:=if (0:Int)>x17 then (0:Int) else x17;(match bnd v156 x20.length with
|true=>let v157:=(x20.getD v156.toNat (0,(List.replicate 32 0),false,(List.replicate 32 0),())).2.2.1;(match (!v157) with
|true=>F26 R x21.2.2.2.1 fun y158=>
let v159:=if (0:Int)>x17 then (0:Int) else x17;(match bnd v159 x20.length with
|true=>let v160:=(x20.getD v159.toNat (0,(List.replicate 32 0),false,(List.replicate 32 0),())).2.1;let v161:=Kd.eqv (.arr 32 (.int .u8)) y158 v160;let v162:=x23.1==0;let v163:= !(v162==v161);(match v163 with
|true=>k0 false
|false=>(match v161 with
|true=>(match bnd x17 x20.length with
|true=>let v164:=x20.set x17.toNat ((x20.getD x17.toNat (0,(List.replicate 32 0),false,(List.replicate 32 0),())).1,(x20.getD x17.toNat (0,(List.replicate 32 0),false,(List.replicate 32 0),())).2.1,true,(x20.getD x17.toNat (0,(List.replicate 32 0),false,(List.replicate 32 0),())).2.2.2);let v165:=x21.1==6;(match v165 with
|true=>let v166:=x22.2.1==0;(match v166 with
|true=>L36 R x13 x14 x16 (0:Int) x18 x19 v164 x22 x23 ([]:LI) (fun x167 x168 x169 x170 x171 x172 x173=>
F27 R x171.2.2.2.2.2.1 x173 fun y174=>
(match (!y174) with
|true=>k0 false
|false=>F27 R x172.2.2.1 x173 fun y175=>
(match (!y175) with
|true=>k0 false
|false=>let v176:=IntKind.i64.wrap (x168+1);kc x167 v176 x169 x171 ([]:(List Tq9)))))
|false=>let v177:=IntKind.i64.wrap (x14+1);kc x13 v177 x18 x22 v164)
|false=>let v178:=IntKind.i64.wrap (x14+1);kc x13 v178 x18 x22 v164)
|false=>none)
|false=>let v179:=x21.1==6;(match v179 with
|true=>let v180:=x22.2.1==0;(match v180 with
|true=>L36 R x13 x14 x16 (0:Int) x18 x19 x20 x22 x23 ([]:LI) (fun x181 x182 x183 x184 x185 x186 x187=>
F27 R x185.2.2.2.2.2.1 x187 fun y188=>
(match (!y188) with
|true=>k0 false
|false=>F27 R x186.2.2.1 x187 fun y189=>
(match (!y189) with
|true=>k0 false
|false=>let v190:=IntKind.i64.wrap (x182+1);kc x181 v190 x183 x185 ([]:(List Tq9)))))
|false=>let v191:=IntKind.i64.wrap (x14+1);kc x13 v191 x18 x22 x20)
|false=>let v192:=IntKind.i64.wrap (x14+1);kc x13 v192 x18 x22 x20)))
|false=>none)
|false=>let v193:=x23.1==0;let v194:= !(v193==false);(match v194 with
|true=>k0 false
|false=>let v195:=x21.1==6;(match v195 with
|true=>let v196:=x22.2.1==0;(match v196 with
|true=>L36 R x13 x14 x16 (0:Int) x18 x19 x20 x22 x23 ([]:LI) (fun x197 x198 x199 x200 x201 x202 x203=>
F27 R x201.2.2.2.2.2.1 x203 fun y204=>
(match (!y204) with
|true=>k0 false
|false=>F27 R x202.2.2.1 x203 fun y205=>
(match (!y205) with
|true=>k0 false
|false=>let v206:=IntKind.i64.wrap (x198+1);kc x197 v206 x199 x201 ([]:(List Tq9)))))
|false=>let v207:=IntKind.i64.wrap (x14+1);kc x13 v207 x18 x22 x20)
|false=>let v208:=IntKind.i64.wrap (x14+1);kc x13 v208 x18 x22 x20)))
|false=>none)
|false=>let v209:=x23.1==0;let v210:= !(v209==false);(match v210 with
|true=>k0 false
|false=>let v211:=x21.1==6;(match v211 with
|true=>let v212:=x22.2.1==0;(match v212 with
|true=>L36 R x13 x14 x16 (0:Int) x18 x19 x20 x22 x23 ([]:LI) (fun x213 x214 x215 x216 x217 x218 x219=>
F27 R x217.2.2.2.2.2.1 x219 fun y220=>
(match (!y220) with
|true=>k0 false
|false=>F27 R x218.2.2.1 x219 fun y221=>
(match (!y221) with
|true=>k0 false
|false=>let v222:=IntKind.i64.wrap (x214+1);kc x213 v222 x215 x217 ([]:(List Tq9)))))
|false=>let v223:=IntKind.i64.wrap (x14+1);kc x13 v223 x18 x22 x20)
|false=>let v224:=IntKind.i64.wrap (x14+1);kc x13 v224 x18 x22 x20)))
|false=>let v225:=x23.1==0;let v226:= !(v225==false);(match v226 with
|true=>k0 false
|false=>let v227:=x21.1==6;(match v227 with
|true=>let v228:=x22.2.1==0;(match v228 with
|true=>L36 R x13 x14 x16 (0:Int) x18 x19 x20 x22 x23 ([]:LI) (fun x229 x230 x231 x232 x233 x234 x235=>
F27 R x233.2.2.2.2.2.1 x235 fun y236=>
(match (!y236) with
|true=>k0 false
|false=>F27 R x234.2.2.1 x235 fun y237=>
(match (!y237) with
|true=>k0 false
|false=>let v238:=IntKind.i64.wrap (x230+1);kc x229 v238 x231 x233 ([]:(List Tq9)))))
|false=>let v239:=IntKind.i64.wrap (x14+1);kc x13 v239 x18 x22 x20)
|false=>let v240:=IntKind.i64.wrap (x14+1);kc x13 v240 x18 x22 x20)))
|false=>let v241:=x23.1==0;let v242:= !(v241==false);(match v242 with
|true=>k0 false
|false=>let v243:=x21.1==6;(match v243 with
|true=>let v244:=x22.2.1==0;(match v244 with
|true=>L36 R x13 x14 x16 (0:Int) x18 x19 x20 x22 x23 ([]:LI) (fun x245 x246 x247 x248 x249 x250 x251=>
F27 R x249.2.2.2.2.2.1 x251 fun y252=>
(match (!y252) with
|true=>k0 false
|false=>F27 R x250.2.2.1 x251 fun y253=>
(match (!y253) with
|true=>k0 false
|false=>let v254:=IntKind.i64.wrap (x246+1);kc x245 v254 x247 x249 ([]:(List Tq9)))))
|false=>let v255:=IntKind.i64.wrap (x14+1);kc x13 v255 x18 x22 x20)
|false=>let v256:=IntKind.i64.wrap (x14+1);kc x13 v256 x18 x22 x20)))
|false=>let v257:=x21.1==6;(match v257 with
|true=>let v258:=x22.2.1==0;(match v258 with
|true=>L36 R x13 x14 x16 (0:Int) x18 x19 x20 x22 x23 ([]:LI) (fun x259 x260 x261 x262 x263 x264 x265=>
F27 R x263.2.2.2.2.2.1 x265 fun y266=>
(match (!y266) with
|true=>k0 false
|false=>F27 R x264.2.2.1 x265 fun y267=>
(match (!y267) with
|true=>k0 false
|false=>let v268:=IntKind.i64.wrap (x260+1);kc x259 v268 x261 x263 ([]:(List Tq9)))))
|false=>let v269:=IntKind.i64.wrap (x14+1);kc x13 v269 x18 x22 x20)
|false=>let v270:=IntKind.i64.wrap (x14+1);kc x13 v270 x18 x22 x20))))
|false=>let v271:= !(v25==false);(match v271 with
|true=>k0 false
|false=>let v272:=x23.1==0;(match v272 with
|true=>let v273:=([(x21.2.1,x21.2.2.2.1,false,(List.replicate 32 (0:Int)),())]:(List Tq9));(match (decide (x20.length+v273.length≤1759218604441)) with
|true=>let v274:=x20++v273;let v275:=x21.1==5;(match v275 with
|true=>let v276:=decide (x21.2.1<x16);(match v276 with
|true=>let v277:=x15==2;(match v277 with
|true=>let v278:=decide (x17≥0);(match v278 with
|true=>let v279:=if (0:Int)>x17 then (0:Int) else x17;(match bnd v279 v274.length with
|true=>let v280:=(v274.getD v279.toNat (0,(List.replicate 32 0),false,(List.replicate 32 0),())).2.2.1;(match (!v280) with
|true=>F26 R x21.2.2.2.1 fun y281=>
let v282:=if (0:Int)>x17 then (0:Int) else x17;(match bnd v282 v274.length with
|true=>let v283:=(v274.getD v282.toNat (0,(List.replicate 32 0),false,(List.replicate 32 0),())).2.1;let v284:=Kd.eqv (.arr 32 (.int .u8)) y281 v283;let v285:=x23.1==0;let v286:= !(v285==v284);(match v286 with
|true=>k0 false
|false=>(match v284 with
|true=>(match bnd x17 v274.length with
|true=>let v287:=v274.set x17.toNat ((v274.getD x17.toNat (0,(List.replicate 32 0),false,(List.replicate 32 0),())).1,(v274.getD x17.toNat (0,(List.replicate 32 0),false,(List.replicate 32 0),())).2.1,true,(v274.getD x17.toNat (0,(List.replicate 32 0),false,(List.replicate 32 0),())).2.2.2);let v288:=x21.1==6;(match v288 with
|true=>let v289:=x22.2.1==0;(match v289 with
|true=>L36 R x13 x14 x16 (0:Int) x18 x19 v287 x22 x23 ([]:LI) (fun x290 x291 x292 x293 x294 x295 x296=>
F27 R x294.2.2.2.2.2.1 x296 fun y297=>
(match (!y297) with
|true=>k0 false
|false=>F27 R x295.2.2.1 x296 fun y298=>
(match (!y298) with
|true=>k0 false
|false=>let v299:=IntKind.i64.wrap (x291+1);kc x290 v299 x292 x294 ([]:(List Tq9)))))
|false=>let v300:=IntKind.i64.wrap (x14+1);kc x13 v300 x18 x22 v287)
|false=>let v301:=IntKind.i64.wrap (x14+1);kc x13 v301 x18 x22 v287)
|false=>none)
|false=>let v302:=x21.1==6;(match v302 with
|true=>let v303:=x22.2.1==0;(match v303 with
|true=>L36 R x13 x14 x16 (0:Int) x18 x19 v274 x22 x23 ([]:LI) (fun x304 x305 x306 x307 x308 x309 x310=>
F27 R x308.2.2.2.2.2.1 x310 fun y311=>
(match (!y311) with
|true=>k0 false
|false=>F27 R x309.2.2.1 x310 fun y312=>
(match (!y312) with
|true=>k0 false
|false=>let v313:=IntKind.i64.wrap (x305+1);kc x304 v313 x306 x308 ([]:(List Tq9)))))
|false=>let v314:=IntKind.i64.wrap (x14+1);kc x13 v314 x18 x22 v274)
|false=>let v315:=IntKind.i64.wrap (x14+1);kc x13 v315 x18 x22 v274)))
|false=>none)
|false=>let v316:=x23.1==0;let v317:= !(v316==false);(match v317 with
|true=>k0 false
|false=>let v318:=x21.1==6;(match v318 with
|true=>let v319:=x22.2.1==0;(match v319 with
|true=>L36 R x13 x14 x16 (0:Int) x18 x19 v274 x22 x23 ([]:LI) (fun x320 x321 x322 x323 x324 x325 x326=>
F27 R x324.2.2.2.2.2.1 x326 fun y327=>
(match (!y327) with
|true=>k0 false
|false=>F27 R x325.2.2.1 x326 fun y328=>
(match (!y328) with
|true=>k0 false
|false=>let v329:=IntKind.i64.wrap (x321+1);kc x320 v329 x322 x324 ([]:(List Tq9)))))
|false=>let v330:=IntKind.i64.wrap (x14+1);kc x13 v330 x18 x22 v274)
|false=>let v331:=IntKind.i64.wrap (x14+1);kc x13 v331 x18 x22 v274)))
|false=>none)
|false=>let v332:=x23.1==0;let v333:= !(v332==false);(match v333 with
|true=>k0 false
|false=>let v334:=x21.1==6;(match v334 with
|true=>let v335:=x22.2.1==0;(match v335 with
|true=>L36 R x13 x14 x16 (0:Int) x18 x19 v274 x22 x23 ([]:LI) (fun x336 x337 x338 x339 x340 x341 x342=>
F27 R x340.2.2.2.2.2.1 x342 fun y343=>
(match (!y343) with
|true=>k0 false
|false=>F27 R x341.2.2.1 x342 fun y344=>
(match (!y344) with
|true=>k0 false
|false=>let v345:=IntKind.i64.wrap (x337+1);kc x336 v345 x338 x340 ([]:(List Tq9)))))
|false=>let v346:=IntKind.i64.wrap (x14+1);kc x13 v346 x18 x22 v274)
|false=>let v347:=IntKind.i64.wrap (x14+1);kc x13 v347 x18 x22 v274)))
|false=>let v348:=x23.1==0;let v349:= !(v348==false);(match v349 with
|true=>k0 false
|false=>let v350:=x21.1==6;(match v350 with
|true=>let v351:=x22.2.1==0;(match v351 with
|true=>L36 R x13 x14 x16 (0:Int) x18 x19 v274 x22 x23 ([]:LI) (fun x352 x353 x354 x355 x356 x357 x358=>
F27 R x356.2.2.2.2.2.1 x358 fun y359=>
(match (!y359) with
|true=>k0 false
|false=>F27 R x357.2.2.1 x358 fun y360=>
(match (!y360) with
|true=>k0 false
|false=>let v361:=IntKind.i64.wrap (x353+1);kc x352 v361 x354 x356 ([]:(List Tq9)))))
|false=>let v362:=IntKind.i64.wrap (x14+1);kc x13 v362 x18 x22 v274)
|false=>let v363:=IntKind.i64.wrap (x14+1);kc x13 v363 x18 x22 v274)))
|false=>let v364:=x23.1==0;let v365:= !(v364==false);(match v365 with
|true=>k0 false
|false=>let v366:=x21.1==6;(match v366 with
|true=>let v367:=x22.2.1==0;(match v367 with
|true=>L36 R x13 x14 x16 (0:Int) x18 x19 v274 x22 x23 ([]:LI) (fun x368 x369 x370 x371 x372 x373 x374=>
F27 R x372.2.2.2.2.2.1 x374 fun y375=>
(match (!y375) with
|true=>k0 false
|false=>F27 R x373.2.2.1 x374 fun y376=>
(match (!y376) with
|true=>k0 false
|false=>let v377:=IntKind.i64.wrap (x369+1);kc x368 v377 x370 x372 ([]:(List Tq9)))))
|false=>let v378:=IntKind.i64.wrap (x14+1);kc x13 v378 x18 x22 v274)
|false=>let v379:=IntKind.i64.wrap (x14+1);kc x13 v379 x18 x22 v274)))
|false=>let v380:=x21.1==6;(match v380 with
|true=>let v381:=x22.2.1==0;(match v381 with
|true=>L36 R x13 x14 x16 (0:Int) x18 x19 v274 x22 x23 ([]:LI) (fun x382 x383 x384 x385 x386 x387 x388=>
F27 R x386.2.2.2.2.2.1 x388 fun y389=>
(match (!y389) with
|true=>k0 false
|false=>F27 R x387.2.2.1 x388 fun y390=>
(match (!y390) with
|true=>k0 false
|false=>let v391:=IntKind.i64.wrap (x383+1);kc x382 v391 x384 x386 ([]:(List Tq9)))))
|false=>let v392:=IntKind.i64.wrap (x14+1);kc x13 v392 x18 x22 v274)
|false=>let v393:=IntKind.i64.wrap (x14+1);kc x13 v393 x18 x22 v274))
|false=>none)
|false=>let v394:=x21.1==5;(match v394 with
|true=>let v395:=decide (x21.2.1<x16);(match v395 with
|true=>let v396:=x15==2;(match v396 with
|true=>let v397:=decide (x17≥0);(match v397 with
|true=>let v398:=if (0:Int)>x17 then (0:Int) else x17;(match bnd v398 x20.length with
|true=>let v399:=(x20.getD v398.toNat (0,(List.replicate 32 0),false,(List.replicate 32 0),())).2.2.1;(match (!v399) with
|true=>F26 R x21.2.2.2.1 fun y400=>
let v401:=if (0:Int)>x17 then (0:Int) else x17;(match bnd v401 x20.length with
|true=>let v402:=(x20.getD v401.toNat (0,(List.replicate 32 0),false,(List.replicate 32 0),())).2.1;let v403:=Kd.eqv (.arr 32 (.int .u8)) y400 v402;let v404:=x23.1==0;let v405:= !(v404==v403);(match v405 with
|true=>k0 false
|false=>(match v403 with
|true=>(match bnd x17 x20.length with
|true=>let v406:=x20.set x17.toNat ((x20.getD x17.toNat (0,(List.replicate 32 0),false,(List.replicate 32 0),())).1,(x20.getD x17.toNat (0,(List.replicate 32 0),false,(List.replicate 32 0),())).2.1,true,(x20.getD x17.toNat (0,(List.replicate 32 0),false,(List.replicate 32 0),())).2.2.2);let v407:=x21.1==6;(match v407 with
|true=>let v408:=x22.2.1==0;(match v408 with
|true=>L36 R x13 x14 x16 (0:Int) x18 x19 v406 x22 x23 ([]:LI) (fun x409 x410 x411 x412 x413 x414 x415=>
F27 R x413.2.2.2.2.2.1 x415 fun y416=>
(match (!y416) with
|true=>k0 false
|false=>F27 R x414.2.2.1 x415 fun y417=>
(match (!y417) with
|true=>k0 false
|false=>let v418:=IntKind.i64.wrap (x410+1);kc x409 v418 x411 x413 ([]:(List Tq9)))))
|false=>let v419:=IntKind.i64.wrap (x14+1);kc x13 v419 x18 x22 v406)
|false=>let v420:=IntKind.i64.wrap (x14+1);kc x13 v420 x18 x22 v406)
|false=>none)
|false=>let v421:=x21.1==6;(match v421 with
|true=>let v422:=x22.2.1==0;(match v422 with
|true=>L36 R x13 x14 x16 (0:Int) x18 x19 x20 x22 x23 ([]:LI) (fun x423 x424 x425 x426 x427 x428 x429=>
F27 R x427.2.2.2.2.2.1 x429 fun y430=>
(match (!y430) with
|true=>k0 false
|false=>F27 R x428.2.2.1 x429 fun y431=>
(match (!y431) with
|true=>k0 false
|false=>let v432:=IntKind.i64.wrap (x424+1);kc x423 v432 x425 x427 ([]:(List Tq9)))))
|false=>let v433:=IntKind.i64.wrap (x14+1);kc x13 v433 x18 x22 x20)
|false=>let v434:=IntKind.i64.wrap (x14+1);kc x13 v434 x18 x22 x20)))
|false=>none)
|false=>let v435:=x23.1==0;let v436:= !(v435==false);(match v436 with
|true=>k0 false
|false=>let v437:=x21.1==6;(match v437 with
|true=>let v438:=x22.2.1==0;(match v438 with
|true=>L36 R x13 x14 x16 (0:Int) x18 x19 x20 x22 x23 ([]:LI) (fun x439 x440 x441 x442 x443 x444 x445=>
F27 R x443.2.2.2.2.2.1 x445 fun y446=>
(match (!y446) with
|true=>k0 false
|false=>F27 R x444.2.2.1 x445 fun y447=>
(match (!y447) with
|true=>k0 false
|false=>let v448:=IntKind.i64.wrap (x440+1);kc x439 v448 x441 x443 ([]:(List Tq9)))))
|false=>let v449:=IntKind.i64.wrap (x14+1);kc x13 v449 x18 x22 x20)
|false=>let v450:=IntKind.i64.wrap (x14+1);kc x13 v450 x18 x22 x20)))
|false=>none)
|false=>let v451:=x23.1==0;let v452:= !(v451==false);(match v452 with
|true=>k0 false
|false=>let v453:=x21.1==6;(match v453 with
|true=>let v454:=x22.2.1==0;(match v454 with
|true=>L36 R x13 x14 x16 (0:Int) x18 x19 x20 x22 x23 ([]:LI) (fun x455 x456 x457 x458 x459 x460 x461=>
F27 R x459.2.2.2.2.2.1 x461 fun y462=>
(match (!y462) with
|true=>k0 false
|false=>F27 R x460.2.2.1 x461 fun y463=>
(match (!y463) with
|true=>k0 false
|false=>let v464:=IntKind.i64.wrap (x456+1);kc x455 v464 x457 x459 ([]:(List Tq9)))))
|false=>let v465:=IntKind.i64.wrap (x14+1);kc x13 v465 x18 x22 x20)
|false=>let v466:=IntKind.i64.wrap (x14+1);kc x13 v466 x18 x22 x20)))
|false=>let v467:=x23.1==0;let v468:= !(v467==false);(match v468 with
|true=>k0 false
|false=>let v469:=x21.1==6;(match v469 with
|true=>let v470:=x22.2.1==0;(match v470 with
|true=>L36 R x13 x14 x16 (0:Int) x18 x19 x20 x22 x23 ([]:LI) (fun x471 x472 x473 x474 x475 x476 x477=>
F27 R x475.2.2.2.2.2.1 x477 fun y478=>
(match (!y478) with
|true=>k0 false
|false=>F27 R x476.2.2.1 x477 fun y479=>
(match (!y479) with
|true=>k0 false
|false=>let v480:=IntKind.i64.wrap (x472+1);kc x471 v480 x473 x475 ([]:(List Tq9)))))
|false=>let v481:=IntKind.i64.wrap (x14+1);kc x13 v481 x18 x22 x20)
|false=>let v482:=IntKind.i64.wrap (x14+1);kc x13 v482 x18 x22 x20)))
|false=>let v483:=x23.1==0;let v484:= !(v483==false);(match v484 with
|true=>k0 false
|false=>let v485:=x21.1==6;(match v485 with
|true=>let v486:=x22.2.1==0;(match v486 with
|true=>L36 R x13 x14 x16 (0:Int) x18 x19 x20 x22 x23 ([]:LI) (fun x487 x488 x489 x490 x491 x492 x493=>
F27 R x491.2.2.2.2.2.1 x493 fun y494=>
(match (!y494) with
|true=>k0 false
|false=>F27 R x492.2.2.1 x493 fun y495=>
(match (!y495) with
|true=>k0 false
|false=>let v496:=IntKind.i64.wrap (x488+1);kc x487 v496 x489 x491 ([]:(List Tq9)))))
|false=>let v497:=IntKind.i64.wrap (x14+1);kc x13 v497 x18 x22 x20)
|false=>let v498:=IntKind.i64.wrap (x14+1);kc x13 v498 x18 x22 x20)))
|false=>let v499:=x21.1==6;(match v499 with
|true=>let v500:=x22.2.1==0;(match v500 with
|true=>L36 R x13 x14 x16 (0:Int) x18 x19 x20 x22 x23 ([]:LI) (fun x501 x502 x503 x504 x505 x506 x507=>
F27 R x505.2.2.2.2.2.1 x507 fun y508=>
(match (!y508) with
|true=>k0 false
|false=>F27 R x506.2.2.1 x507 fun y509=>
(match (!y509) with
|true=>k0 false
|false=>let v510:=IntKind.i64.wrap (x502+1);kc x501 v510 x503 x505 ([]:(List Tq9)))))
|false=>let v511:=IntKind.i64.wrap (x14+1);kc x13 v511 x18 x22 x20)
|false=>let v512:=IntKind.i64.wrap (x14+1);kc x13 v512 x18 x22 x20)))))
|false=>let v513:= !(v25==false);(match v513 with
|true=>k0 false
|false=>let v514:=x23.1==0;(match v514 with
|true=>let v515:=([(x21.2.1,x21.2.2.2.1,false,(List.replicate 32 (0:Int)),())]:(List Tq9));(match (decide (x20.length+v515.length≤1759218604441)) with
|true=>let v516:=x20++v515;let v517:=x21.1==5;(match v517 with
|true=>let v518:=decide (x21.2.1<x16);(match v518 with
|true=>let v519:=x15==2;(match v519 with
|true=>let v520:=decide (x17≥0);(match v520 with
|true=>let v521:=if (0:Int)>x17 then (0:Int) else x17;(match bnd v521 v516.length with
|true=>let v522:=(v516.getD v521.toNat (0,(List.replicate 32 0),false,(List.replicate 32 0),())).2.2.1;(match (!v522) with
|true=>F26 R x21.2.2.2.1 fun y523=>
let v524:=if (0:Int)>x17 then (0:Int) else x17;(match bnd v524 v516.length with
|true=>let v525:=(v516.getD v524.toNat (0,(List.replicate 32 0),false,(List.replicate 32 0),())).2.1;let v526:=Kd.eqv (.arr 32 (.int .u8)) y523 v525;let v527:=x23.1==0;let v528:= !(v527==v526);(match v528 with
|true=>k0 false
|false=>(match v526 with
|true=>(match bnd x17 v516.length with
|true=>let v529:=v516.set x17.toNat ((v516.getD x17.toNat (0,(List.replicate 32 0),false,(List.replicate 32 0),())).1,(v516.getD x17.toNat (0,(List.replicate 32 0),false,(List.replicate 32 0),())).2.1,true,(v516.getD x17.toNat (0,(List.replicate 32 0),false,(List.replicate 32 0),())).2.2.2);let v530:=x21.1==6;(match v530 with
|true=>let v531:=x22.2.1==0;(match v531 with
|true=>L36 R x13 x14 x16 (0:Int) x18 x19 v529 x22 x23 ([]:LI) (fun x532 x533 x534 x535 x536 x537 x538=>
F27 R x536.2.2.2.2.2.1 x538 fun y539=>
(match (!y539) with
|true=>k0 false
|false=>F27 R x537.2.2.1 x538 fun y540=>
(match (!y540) with
|true=>k0 false
|false=>let v541:=IntKind.i64.wrap (x533+1);kc x532 v541 x534 x536 ([]:(List Tq9)))))
|false=>let v542:=IntKind.i64.wrap (x14+1);kc x13 v542 x18 x22 v529)
|false=>let v543:=IntKind.i64.wrap (x14+1);kc x13 v543 x18 x22 v529)
|false=>none)
|false=>let v544:=x21.1==6;(match v544 with
|true=>let v545:=x22.2.1==0;(match v545 with
|true=>L36 R x13 x14 x16 (0:Int) x18 x19 v516 x22 x23 ([]:LI) (fun x546 x547 x548 x549 x550 x551 x552=>
F27 R x550.2.2.2.2.2.1 x552 fun y553=>
(match (!y553) with
|true=>k0 false
|false=>F27 R x551.2.2.1 x552 fun y554=>
(match (!y554) with
|true=>k0 false
|false=>let v555:=IntKind.i64.wrap (x547+1);kc x546 v555 x548 x550 ([]:(List Tq9)))))
|false=>let v556:=IntKind.i64.wrap (x14+1);kc x13 v556 x18 x22 v516)
|false=>let v557:=IntKind.i64.wrap (x14+1);kc x13 v557 x18 x22 v516)))
|false=>none)
|false=>let v558:=x23.1==0;let v559:= !(v558==false);(match v559 with
|true=>k0 false
|false=>let v560:=x21.1==6;(match v560 with
|true=>let v561:=x22.2.1==0;(match v561 with
|true=>L36 R x13 x14 x16 (0:Int) x18 x19 v516 x22 x23 ([]:LI) (fun x562 x563 x564 x565 x566 x567 x568=>
F27 R x566.2.2.2.2.2.1 x568 fun y569=>
(match (!y569) with
|true=>k0 false
|false=>F27 R x567.2.2.1 x568 fun y570=>
(match (!y570) with
|true=>k0 false
|false=>let v571:=IntKind.i64.wrap (x563+1);kc x562 v571 x564 x566 ([]:(List Tq9)))))
|false=>let v572:=IntKind.i64.wrap (x14+1);kc x13 v572 x18 x22 v516)
|false=>let v573:=IntKind.i64.wrap (x14+1);kc x13 v573 x18 x22 v516)))
|false=>none)
|false=>let v574:=x23.1==0;let v575:= !(v574==false);(match v575 with
|true=>k0 false
|false=>let v576:=x21.1==6;(match v576 with
|true=>let v577:=x22.2.1==0;(match v577 with
|true=>L36 R x13 x14 x16 (0:Int) x18 x19 v516 x22 x23 ([]:LI) (fun x578 x579 x580 x581 x582 x583 x584=>
F27 R x582.2.2.2.2.2.1 x584 fun y585=>
(match (!y585) with
|true=>k0 false
|false=>F27 R x583.2.2.1 x584 fun y586=>
(match (!y586) with
|true=>k0 false
|false=>let v587:=IntKind.i64.wrap (x579+1);kc x578 v587 x580 x582 ([]:(List Tq9)))))
|false=>let v588:=IntKind.i64.wrap (x14+1);kc x13 v588 x18 x22 v516)
|false=>let v589:=IntKind.i64.wrap (x14+1);kc x13 v589 x18 x22 v516)))
|false=>let v590:=x23.1==0;let v591:= !(v590==false);(match v591 with
|true=>k0 false
|false=>let v592:=x21.1==6;(match v592 with
|true=>let v593:=x22.2.1==0;(match v593 with
|true=>L36 R x13 x14 x16 (0:Int) x18 x19 v516 x22 x23 ([]:LI) (fun x594 x595 x596 x597 x598 x599 x600=>
F27 R x598.2.2.2.2.2.1 x600 fun y601=>
(match (!y601) with
|true=>k0 false
|false=>F27 R x599.2.2.1 x600 fun y602=>
(match (!y602) with
|true=>k0 false
|false=>let v603:=IntKind.i64.wrap (x595+1);kc x594 v603 x596 x598 ([]:(List Tq9)))))
|false=>let v604:=IntKind.i64.wrap (x14+1);kc x13 v604 x18 x22 v516)
|false=>let v605:=IntKind.i64.wrap (x14+1);kc x13 v605 x18 x22 v516)))
|false=>let v606:=x23.1==0;let v607:= !(v606==false);(match v607 with
|true=>k0 false
|false=>let v608:=x21.1==6;(match v608 with
|true=>let v609:=x22.2.1==0;(match v609 with
|true=>L36 R x13 x14 x16 (0:Int) x18 x19 v516 x22 x23 ([]:LI) (fun x610 x611 x612 x613 x614 x615 x616=>
F27 R x614.2.2.2.2.2.1 x616 fun y617=>
(match (!y617) with
|true=>k0 false
|false=>F27 R x615.2.2.1 x616 fun y618=>
(match (!y618) with
|true=>k0 false
|false=>let v619:=IntKind.i64.wrap (x611+1);kc x610 v619 x612 x614 ([]:(List Tq9)))))
|false=>let v620:=IntKind.i64.wrap (x14+1);kc x13 v620 x18 x22 v516)
|false=>let v621:=IntKind.i64.wrap (x14+1);kc x13 v621 x18 x22 v516)))
|false=>let v622:=x21.1==6;(match v622 with
|true=>let v623:=x22.2.1==0;(match v623 with
|true=>L36 R x13 x14 x16 (0:Int) x18 x19 v516 x22 x23 ([]:LI) (fun x624 x625 x626 x627 x628 x629 x630=>
F27 R x628.2.2.2.2.2.1 x630 fun y631=>
(match (!y631) with
|true=>k0 false
|false=>F27 R x629.2.2.1 x630 fun y632=>
(match (!y632) with
|true=>k0 false
|false=>let v633:=IntKind.i64.wrap (x625+1);kc x624 v633 x626 x628 ([]:(List Tq9)))))
|false=>let v634:=IntKind.i64.wrap (x14+1);kc x13 v634 x18 x22 v516)
|false=>let v635:=IntKind.i64.wrap (x14+1);kc x13 v635 x18 x22 v516))
|false=>none)
|false=>let v636:=x21.1==5;(match v636 with
|true=>let v637:=decide (x21.2.1<x16);(match v637 with
|true=>let v638:=x15==2;(match v638 with
|true=>let v639:=decide (x17≥0);(match v639 with
|true=>let v640:=if (0:Int)>x17 then (0:Int) else x17;(match bnd v640 x20.length with
|true=>let v641:=(x20.getD v640.toNat (0,(List.replicate 32 0),false,(List.replicate 32 0),())).2.2.1;(match (!v641) with
|true=>F26 R x21.2.2.2.1 fun y642=>
let v643:=if (0:Int)>x17 then (0:Int) else x17;(match bnd v643 x20.length with
|true=>let v644:=(x20.getD v643.toNat (0,(List.replicate 32 0),false,(List.replicate 32 0),())).2.1;let v645:=Kd.eqv (.arr 32 (.int .u8)) y642 v644;let v646:=x23.1==0;let v647:= !(v646==v645);(match v647 with
|true=>k0 false
|false=>(match v645 with
|true=>(match bnd x17 x20.length with
|true=>let v648:=x20.set x17.toNat ((x20.getD x17.toNat (0,(List.replicate 32 0),false,(List.replicate 32 0),())).1,(x20.getD x17.toNat (0,(List.replicate 32 0),false,(List.replicate 32 0),())).2.1,true,(x20.getD x17.toNat (0,(List.replicate 32 0),false,(List.replicate 32 0),())).2.2.2);let v649:=x21.1==6;(match v649 with
|true=>let v650:=x22.2.1==0;(match v650 with
|true=>L36 R x13 x14 x16 (0:Int) x18 x19 v648 x22 x23 ([]:LI) (fun x651 x652 x653 x654 x655 x656 x657=>
F27 R x655.2.2.2.2.2.1 x657 fun y658=>
(match (!y658) with
|true=>k0 false
|false=>F27 R x656.2.2.1 x657 fun y659=>
(match (!y659) with
|true=>k0 false
|false=>let v660:=IntKind.i64.wrap (x652+1);kc x651 v660 x653 x655 ([]:(List Tq9)))))
|false=>let v661:=IntKind.i64.wrap (x14+1);kc x13 v661 x18 x22 v648)
|false=>let v662:=IntKind.i64.wrap (x14+1);kc x13 v662 x18 x22 v648)
|false=>none)
|false=>let v663:=x21.1==6;(match v663 with
|true=>let v664:=x22.2.1==0;(match v664 with
|true=>L36 R x13 x14 x16 (0:Int) x18 x19 x20 x22 x23 ([]:LI) (fun x665 x666 x667 x668 x669 x670 x671=>
F27 R x669.2.2.2.2.2.1 x671 fun y672=>
(match (!y672) with
|true=>k0 false
|false=>F27 R x670.2.2.1 x671 fun y673=>
(match (!y673) with
|true=>k0 false
|false=>let v674:=IntKind.i64.wrap (x666+1);kc x665 v674 x667 x669 ([]:(List Tq9)))))
|false=>let v675:=IntKind.i64.wrap (x14+1);kc x13 v675 x18 x22 x20)
|false=>let v676:=IntKind.i64.wrap (x14+1);kc x13 v676 x18 x22 x20)))
|false=>none)
|false=>let v677:=x23.1==0;let v678:= !(v677==false);(match v678 with
|true=>k0 false
|false=>let v679:=x21.1==6;(match v679 with
|true=>let v680:=x22.2.1==0;(match v680 with
|true=>L36 R x13 x14 x16 (0:Int) x18 x19 x20 x22 x23 ([]:LI) (fun x681 x682 x683 x684 x685 x686 x687=>
F27 R x685.2.2.2.2.2.1 x687 fun y688=>
(match (!y688) with
|true=>k0 false
|false=>F27 R x686.2.2.1 x687 fun y689=>
(match (!y689) with
|true=>k0 false
|false=>let v690:=IntKind.i64.wrap (x682+1);kc x681 v690 x683 x685 ([]:(List Tq9)))))
|false=>let v691:=IntKind.i64.wrap (x14+1);kc x13 v691 x18 x22 x20)
|false=>let v692:=IntKind.i64.wrap (x14+1);kc x13 v692 x18 x22 x20)))
|false=>none)
|false=>let v693:=x23.1==0;let v694:= !(v693==false);(match v694 with
|true=>k0 false
|false=>let v695:=x21.1==6;(match v695 with
|true=>let v696:=x22.2.1==0;(match v696 with
|true=>L36 R x13 x14 x16 (0:Int) x18 x19 x20 x22 x23 ([]:LI) (fun x697 x698 x699 x700 x701 x702 x703=>
F27 R x701.2.2.2.2.2.1 x703 fun y704=>
(match (!y704) with
|true=>k0 false
|false=>F27 R x702.2.2.1 x703 fun y705=>
(match (!y705) with
|true=>k0 false
|false=>let v706:=IntKind.i64.wrap (x698+1);kc x697 v706 x699 x701 ([]:(List Tq9)))))
|false=>let v707:=IntKind.i64.wrap (x14+1);kc x13 v707 x18 x22 x20)
|false=>let v708:=IntKind.i64.wrap (x14+1);kc x13 v708 x18 x22 x20)))
|false=>let v709:=x23.1==0;let v710:= !(v709==false);(match v710 with
|true=>k0 false
|false=>let v711:=x21.1==6;(match v711 with
|true=>let v712:=x22.2.1==0;(match v712 with
|true=>L36 R x13 x14 x16 (0:Int) x18 x19 x20 x22 x23 ([]:LI) (fun x713 x714 x715 x716 x717 x718 x719=>
F27 R x717.2.2.2.2.2.1 x719 fun y720=>
(match (!y720) with
|true=>k0 false
|false=>F27 R x718.2.2.1 x719 fun y721=>
(match (!y721) with
|true=>k0 false
|false=>let v722:=IntKind.i64.wrap (x714+1);kc x713 v722 x715 x717 ([]:(List Tq9)))))
|false=>let v723:=IntKind.i64.wrap (x14+1);kc x13 v723 x18 x22 x20)
|false=>let v724:=IntKind.i64.wrap (x14+1);kc x13 v724 x18 x22 x20)))
|false=>let v725:=x23.1==0;let v726:= !(v725==false);(match v726 with
|true=>k0 false
|false=>let v727:=x21.1==6;(match v727 with
|true=>let v728:=x22.2.1==0;(match v728 with
|true=>L36 R x13 x14 x16 (0:Int) x18 x19 x20 x22 x23 ([]:LI) (fun x729 x730 x731 x732 x733 x734 x735=>
F27 R x733.2.2.2.2.2.1 x735 fun y736=>
(match (!y736) with
|true=>k0 false
|false=>F27 R x734.2.2.1 x735 fun y737=>
(match (!y737) with
|true=>k0 false
|false=>let v738:=IntKind.i64.wrap (x730+1);kc x729 v738 x731 x733 ([]:(List Tq9)))))
|false=>let v739:=IntKind.i64.wrap (x14+1);kc x13 v739 x18 x22 x20)
|false=>let v740:=IntKind.i64.wrap (x14+1);kc x13 v740 x18 x22 x20)))
|false=>let v741:=x21.1==6;(match v741 with
|true=>let v742:=x22.2.1==0;(match v742 with
|true=>L36 R x13 x14 x16 (0:Int) x18 x19 x20 x22 x23 ([]:LI) (fun x743 x744 x745 x746 x747 x748 x749=>
F27 R x747.2.2.2.2.2.1 x749 fun y750=>
(match (!y750) with
|true=>k0 false
|false=>F27 R x748.2.2.1 x749 fun y751=>
(match (!y751) with
|true=>k0 false
|false=>let v752:=IntKind.i64.wrap (x744+1);kc x743 v752 x745 x747 ([]:(List Tq9)))))
|false=>let v753:=IntKind.i64.wrap (x14+1);kc x13 v753 x18 x22 x20)
|false=>let v754:=IntKind.i64.wrap (x14+1);kc x13 v754 x18 x22 x20)))))
|false=>let v755:=x21.1==5;(match v755 with
|true=>let v756:=decide (x21.2.1<x16);(match v756 with
|true=>let v757:=x15==2;(match v757 with
|true=>let v758:=decide (x17≥0);(match v758 with
|true=>let v759:=if (0:Int)>x17 then (0:Int) else x17;(match bnd v759 x20.length with
|true=>let v760:=(x20.getD v759.toNat (0,(List.replicate 32 0),false,(List.replicate 32 0),())).2.2.1;(match (!v760) with
|true=>F26 R x21.2.2.2.1 fun y761=>
let v762:=if (0:Int)>x17 then (0:Int) else x17;(match bnd v762 x20.length with
|true=>let v763:=(x20.getD v762.toNat (0,(List.replicate 32 0),false,(List.replicate 32 0),())).2.1;let v764:=Kd.eqv (.arr 32 (.int .u8)) y761 v763;let v765:=x23.1==0;let v766:= !(v765==v764);(match v766 with
|true=>k0 false
|false=>(match v764 with
|true=>(match bnd x17 x20.length with
|true=>let v767:=x20.set x17.toNat ((x20.getD x17.toNat (0,(List.replicate 32 0),false,(List.replicate 32 0),())).1,(x20.getD x17.toNat (0,(List.replicate 32 0),false,(List.replicate 32 0),())).2.1,true,(x20.getD x17.toNat (0,(List.replicate 32 0),false,(List.replicate 32 0),())).2.2.2);let v768:=x21.1==6;(match v768 with
|true=>let v769:=x22.2.1==0;(match v769 with
|true=>L36 R x13 x14 x16 (0:Int) x18 x19 v767 x22 x23 ([]:LI) (fun x770 x771 x772 x773 x774 x775 x776=>
F27 R x774.2.2.2.2.2.1 x776 fun y777=>
(match (!y777) with
|true=>k0 false
|false=>F27 R x775.2.2.1 x776 fun y778=>
(match (!y778) with
|true=>k0 false
|false=>let v779:=IntKind.i64.wrap (x771+1);kc x770 v779 x772 x774 ([]:(List Tq9)))))
|false=>let v780:=IntKind.i64.wrap (x14+1);kc x13 v780 x18 x22 v767)
|false=>let v781:=IntKind.i64.wrap (x14+1);kc x13 v781 x18 x22 v767)
|false=>none)
|false=>let v782:=x21.1==6;(match v782 with
|true=>let v783:=x22.2.1==0;(match v783 with
|true=>L36 R x13 x14 x16 (0:Int) x18 x19 x20 x22 x23 ([]:LI) (fun x784 x785 x786 x787 x788 x789 x790=>
F27 R x788.2.2.2.2.2.1 x790 fun y791=>
(match (!y791) with
|true=>k0 false
|false=>F27 R x789.2.2.1 x790 fun y792=>
(match (!y792) with
|true=>k0 false
|false=>let v793:=IntKind.i64.wrap (x785+1);kc x784 v793 x786 x788 ([]:(List Tq9)))))
|false=>let v794:=IntKind.i64.wrap (x14+1);kc x13 v794 x18 x22 x20)
|false=>let v795:=IntKind.i64.wrap (x14+1);kc x13 v795 x18 x22 x20)))
|false=>none)
|false=>let v796:=x23.1==0;let v797:= !(v796==false);(match v797 with
|true=>k0 false
|false=>let v798:=x21.1==6;(match v798 with
|true=>let v799:=x22.2.1==0;(match v799 with
|true=>L36 R x13 x14 x16 (0:Int) x18 x19 x20 x22 x23 ([]:LI) (fun x800 x801 x802 x803 x804 x805 x806=>
F27 R x804.2.2.2.2.2.1 x806 fun y807=>
(match (!y807) with
|true=>k0 false
|false=>F27 R x805.2.2.1 x806 fun y808=>
(match (!y808) with
|true=>k0 false
|false=>let v809:=IntKind.i64.wrap (x801+1);kc x800 v809 x802 x804 ([]:(List Tq9)))))
|false=>let v810:=IntKind.i64.wrap (x14+1);kc x13 v810 x18 x22 x20)
|false=>let v811:=IntKind.i64.wrap (x14+1);kc x13 v811 x18 x22 x20)))
|false=>none)
|false=>let v812:=x23.1==0;let v813:= !(v812==false);(match v813 with
|true=>k0 false
|false=>let v814:=x21.1==6;(match v814 with
|true=>let v815:=x22.2.1==0;(match v815 with
|true=>L36 R x13 x14 x16 (0:Int) x18 x19 x20 x22 x23 ([]:LI) (fun x816 x817 x818 x819 x820 x821 x822=>
F27 R x820.2.2.2.2.2.1 x822 fun y823=>
(match (!y823) with
|true=>k0 false
|false=>F27 R x821.2.2.1 x822 fun y824=>
(match (!y824) with
|true=>k0 false
|false=>let v825:=IntKind.i64.wrap (x817+1);kc x816 v825 x818 x820 ([]:(List Tq9)))))
|false=>let v826:=IntKind.i64.wrap (x14+1);kc x13 v826 x18 x22 x20)
|false=>let v827:=IntKind.i64.wrap (x14+1);kc x13 v827 x18 x22 x20)))
|false=>let v828:=x23.1==0;let v829:= !(v828==false);(match v829 with
|true=>k0 false
|false=>let v830:=x21.1==6;(match v830 with
|true=>let v831:=x22.2.1==0;(match v831 with
|true=>L36 R x13 x14 x16 (0:Int) x18 x19 x20 x22 x23 ([]:LI) (fun x832 x833 x834 x835 x836 x837 x838=>
F27 R x836.2.2.2.2.2.1 x838 fun y839=>
(match (!y839) with
|true=>k0 false
|false=>F27 R x837.2.2.1 x838 fun y840=>
(match (!y840) with
|true=>k0 false
|false=>let v841:=IntKind.i64.wrap (x833+1);kc x832 v841 x834 x836 ([]:(List Tq9)))))
|false=>let v842:=IntKind.i64.wrap (x14+1);kc x13 v842 x18 x22 x20)
|false=>let v843:=IntKind.i64.wrap (x14+1);kc x13 v843 x18 x22 x20)))
|false=>let v844:=x23.1==0;let v845:= !(v844==false);(match v845 with
|true=>k0 false
|false=>let v846:=x21.1==6;(match v846 with
|true=>let v847:=x22.2.1==0;(match v847 with
|true=>L36 R x13 x14 x16 (0:Int) x18 x19 x20 x22 x23 ([]:LI) (fun x848 x849 x850 x851 x852 x853 x854=>
F27 R x852.2.2.2.2.2.1 x854 fun y855=>
(match (!y855) with
|true=>k0 false
|false=>F27 R x853.2.2.1 x854 fun y856=>
(match (!y856) with
|true=>k0 false
|false=>let v857:=IntKind.i64.wrap (x849+1);kc x848 v857 x850 x852 ([]:(List Tq9)))))
|false=>let v858:=IntKind.i64.wrap (x14+1);kc x13 v858 x18 x22 x20)
|false=>let v859:=IntKind.i64.wrap (x14+1);kc x13 v859 x18 x22 x20)))
|false=>let v860:=x21.1==6;(match v860 with
|true=>let v861:=x22.2.1==0;(match v861 with
|true=>L36 R x13 x14 x16 (0:Int) x18 x19 x20 x22 x23 ([]:LI) (fun x862 x863 x864 x865 x866 x867 x868=>
F27 R x866.2.2.2.2.2.1 x868 fun y869=>
(match (!y869) with
|true=>k0 false
|false=>F27 R x867.2.2.1 x868 fun y870=>
(match (!y870) with
|true=>k0 false
|false=>let v871:=IntKind.i64.wrap (x863+1);kc x862 v871 x864 x866 ([]:(List Tq9)))))
|false=>let v872:=IntKind.i64.wrap (x14+1);kc x13 v872 x18 x22 x20)
|false=>let v873:=IntKind.i64.wrap (x14+1);kc x13 v873 x18 x22 x20))))
|false=>none)
|false=>k1)
theorem q7_10 (F9:FT9) (F10:FT10) (F11:FT11) (F12:FT12) (F13:FT13) (F14:FT14) (F25:FT25) (F26:FT26) (F27:FT27) (L10:Ld) (L18:Lc) (L36:Lb) (L39:La):LEQ (zjv L10) (e7 F9 F10 F11 F12 F13 F14 F25 F26 F27 L10 L18 L36 L39) Tryz.f7 (zy1 F14 F25 F26 F27 L18 L36):=fun _ _ _ _=>by kernel_rfl
def Qa:Nat→Ld
 | 0=>fun _ _ _ _ _ _ _ _=>none
 | n+1=>fun R x1 x2 x3 x4 x5 k0 k1=>zy1 F14 F25 F26 F27 (Q3 FUEL) (P9 FUEL) R x1 x2 x3 x4 x5 (fun x1 x2 x3 x4 x5=>Qa n R x1 x2 x3 x4 x5 k0 k1) k0 k1
def p7 (F9:FT9) (F10:FT10) (F11:FT11) (F12:FT12) (F13:FT13) (L10:Ld):FT7:=fun R a0 a1 a2 k=>
F9 R  fun y1=>
(match (!y1) with
|true=>k false
|false=>F10 R a2 fun y2=>
(match (!y2) with
|true=>k true
|false=>F12 R a0 fun y3=>
F11 R y3 a1 fun y4 y5=>
F13 R a2 fun y6=>
L10 R y6 (0:Int) y3 y4 ([]:(List Tq9)) (fun x7=>
k x7) (k true)))
theorem q7 (F9:FT9) (F10:FT10) (F11:FT11) (F12:FT12) (F13:FT13) (F14:FT14) (F25:FT25) (F26:FT26) (F27:FT27) (L10:Ld) (L18:Lc) (L36:Lb) (L39:La):EQ (en7 (p7 F9 F10 F11 F12 F13 L10)) (e7 F9 F10 F11 F12 F13 F14 F25 F26 F27 L10 L18 L36 L39) Tryz.f7 [(.tmp 6,4,false)]:=fun _ _ _=>by kernel_rfl
def F7:FT7:=p7 F9 F10 F11 F12 F13 (Qa FUEL)
theorem lok7_18:LKP (zju (Q3 FUEL)) 0 204 18 Tryz.f7:=ST.lok (q7_18 F9 F10 F11 F12 F13 F14 F25 F26 F27 (Qa FUEL) (Q3 FUEL) (P9 FUEL) (Q2 FUEL)) (Aa ok9 (Aa ok10 (Aa ok11 (Aa ok12 (Aa ok13 (Aa ok14 (Aa ok25 (Aa ok26 (Aa ok27 Ab))))))))) [] trivial
theorem zz9:LKP (zjs (Q2 FUEL)) 0 204 39 Tryz.f7:=ST.lok (q7_39 F9 F10 F11 F12 F13 F14 F25 F26 F27 (Qa FUEL) (Q3 FUEL) (P9 FUEL) (Q2 FUEL)) (Aa ok9 (Aa ok10 (Aa ok11 (Aa ok12 (Aa ok13 (Aa ok14 (Aa ok25 (Aa ok26 (Aa ok27 Ab))))))))) [] trivial
theorem lok7_36:LKP (zjt (P9 FUEL)) 0 204 36 Tryz.f7:=ST.lok (q7_36 F9 F10 F11 F12 F13 F14 F25 F26 F27 (Qa FUEL) (Q3 FUEL) (P9 FUEL) (Q2 FUEL)) (Aa ok9 (Aa ok10 (Aa ok11 (Aa ok12 (Aa ok13 (Aa ok14 (Aa ok25 (Aa ok26 (Aa ok27 Ab))))))))) [39] ⟨⟨_,rfl,zz9⟩,trivial⟩
theorem lok7_10:LKP (zjv (Qa FUEL)) 0 204 10 Tryz.f7:=ST.lok (q7_10 F9 F10 F11 F12 F13 F14 F25 F26 F27 (Qa FUEL) (Q3 FUEL) (P9 FUEL) (Q2 FUEL)) (Aa ok9 (Aa ok10 (Aa ok11 (Aa ok12 (Aa ok13 (Aa ok14 (Aa ok25 (Aa ok26 (Aa ok27 Ab))))))))) [18,36] ⟨⟨_,rfl,lok7_18⟩,⟨⟨_,rfl,lok7_36⟩,trivial⟩⟩
theorem ok7:OKP (en7 F7):=ST.ok1 (q7 F9 F10 F11 F12 F13 F14 F25 F26 F27 (Qa FUEL) (Q3 FUEL) (P9 FUEL) (Q2 FUEL)) (Aa ok9 (Aa ok10 (Aa ok11 (Aa ok12 (Aa ok13 (Aa ok14 (Aa ok25 (Aa ok26 (Aa ok27 Ab))))))))) Tryz.func7 [10] ⟨⟨_,rfl,lok7_10⟩,trivial⟩
end Go.PG
namespace Go.PG
end Go.PG
namespace Go.PG
def U32 (x:Int):Prop:=0≤x∧x<4294967296
def U8 (x:Int):Prop:=0≤x∧x<256
theorem Tb {x:Int} (h:U32 x):(BitVec.ofInt 32 x).toNat=x.toNat:=by
 rw [BitVec.toNat_ofInt];unfold U32 at h;have:x % ((2^32:Nat):Int)=x:=by omega
 rw [this]
theorem Ou (b:BitVec 32):IntKind.u32.wrap ((b.toNat:Nat):Int)=(b.toNat:Int):=by
 have:=b.isLt;exact Cw (by omega) (by omega)
theorem zdx (a b:Int):iand .u32 a b=((BitVec.ofInt 32 a&&& BitVec.ofInt 32 b).toNat:Int):=Ou _
theorem Tk (a b:Int):ior .u32 a b=((BitVec.ofInt 32 a||| BitVec.ofInt 32 b).toNat:Int):=Ou _
theorem Tj (a b:Int):ixor .u32 a b=((BitVec.ofInt 32 a^^^BitVec.ofInt 32 b).toNat:Int):=Ou _
theorem Ki (a:Int):U32 (IntKind.u32.wrap a):=by rw [Df]; unfold U32; omega
theorem H8 (b:BitVec 32):BitVec.ofInt 32 ((b.toNat:Nat):Int)=b:=by
 rw [BitVec.ofInt_natCast,BitVec.ofNat_toNat,BitVec.setWidth_eq]
theorem zlp {a:Int} (b c:Int) (ha:U32 a):ixor .u32 (iand .u32 a b) (iand .u32 (ixor .u32 4294967295 a) c)=ior .u32 (iand .u32 a b) (iand .u32 (IntKind.u32.wrap (4294967295 - a)) c):=by
 have h1:IntKind.u32.wrap (4294967295 - a)=ixor .u32 4294967295 a:=by
  rw [Tj,Cw (by unfold U32 at ha; omega) (by unfold U32 at ha; omega)];have e:BitVec.ofInt 32 4294967295=BitVec.allOnes 32:=by decide
  rw [e,BitVec.allOnes_xor,BitVec.toNat_not,Tb ha];unfold U32 at ha;omega
 rw [h1];simp only [zdx,Tk,Tj,H8]
 congr 2
 have e:BitVec.ofInt 32 4294967295=BitVec.allOnes 32:=by decide
 rw [e]
 ext i hi
 simp only [BitVec.getElem_xor,BitVec.getElem_and,BitVec.getElem_or,BitVec.getElem_allOnes];cases (BitVec.ofInt 32 a)[i]<;>simp
theorem Y7 (a b c:Int):ixor .u32 (ixor .u32 (iand .u32 a b) (iand .u32 a c)) (iand .u32 b c)=ior .u32 (ior .u32 (iand .u32 a b) (iand .u32 a c)) (iand .u32 b c):=by
 simp only [zdx,Tk,Tj,H8]
 congr 2
 ext i hi
 simp;cases (BitVec.ofInt 32 a)[i]<;>cases (BitVec.ofInt 32 b)[i]<;>cases (BitVec.ofInt 32 c)[i]<;>rfl
def rotS (x:Int) (r:Nat):Int:=x/2^r+(x % 2^r)*2^(32 - r)
theorem U9 {x:Int} {r:Nat} (hx:U32 x) (hr:r<32):rotS x (r+1)=rotS x r/2+(rotS x r % 2)*2147483648:=by
 unfold rotS U32 at*;have e1:(2:Int)^(32 - r)=2*2^(31 - r):=by
  rw [show 32 - r=(31 - r)+1 by omega,Int.pow_succ]; omega
 have e2:(2:Int)^(32 - (r+1))=2^(31 - r):=by rw [show 32 - (r+1)=31 - r by omega]
 have e3:(2:Int)^(r+1)=2^r*2:=Int.pow_succ _ _;have e4:(2:Int)^r*2^(31 - r)=2147483648:=by
  rw [←Int.pow_add,show r+(31 - r)=31 by omega]; decide
 rw [e1,e2,e3];have hp:(0:Int)<2^r:=Int.pow_pos (by decide);generalize (2:Int)^r=p at*;generalize (2:Int)^(31 - r)=s at*;have d1:x/(p*2)=x/p/2:=(Int.ediv_ediv_of_nonneg (by omega)).symm;have d2:x % (p*2)=x % p+p*(x/p % 2):=by
  have a1:=Int.emod_add_mul_ediv x p;have a2:=Int.emod_add_mul_ediv x (p*2);have a3:=Int.emod_add_mul_ediv (x/p) 2;rw [d1] at a2;generalize x/p=q at*;generalize x % p=m at*;generalize q/2=h at*;generalize q % 2=t at*;have:p*(t+2*h)=p*q:=by rw [a3]
  rw [Int.mul_add,←Int.mul_assoc] at this;omega
 rw [d1,d2,Int.add_mul];have e5:p*(x/p % 2)*s=(x/p % 2)*2147483648:=by
  rw [Int.mul_comm p,Int.mul_assoc,e4]
 rw [e5];have e6:x % p*(2*s)=2*(x % p*s):=by rw [Int.mul_left_comm]
 rw [e6];generalize x % p*s=u;omega
theorem U7 (x:Int):rotS x 0=x:=by simp [rotS]
theorem zhm {x:Int} (hx:U32 x):∀{r:Nat},r≤32→U32 (rotS x r)
 | 0,_=>by rw [U7]; exact hx
 | r+1,h=>by
  have ih:=zhm hx (r:=r) (by omega);rw [U9 hx (by omega)];unfold U32 at*;omega
theorem two_pow_pos (r:Nat):(0:Int)<2^r:=Int.pow_pos (by decide)
theorem rot_or {x:Int} (hx:U32 x) {r:Nat} (h0:0<r) (hr:r<32):ior .u32 (ishr .u32 x r) (ishl .u32 x ((32:Int) - r))=rotS x r:=by
 unfold U32 at hx;obtain ⟨n,rfl⟩:∃n:Nat,x=n:=⟨x.toNat,by omega⟩
 have hn:n<2^32:=by omega
 have e1:ishr .u32 (n:Int) r=((n/2^r:Nat):Int):=by
  unfold ishr;rw [show IntKind.u32.bits=32 from rfl,show ((r:Int).toNat)=r by simp,Nat.min_eq_left (by omega),Int.fdiv_eq_ediv_of_nonneg _ (by have:=two_pow_pos r; omega)];simp
 have e2:ishl .u32 (n:Int) ((32:Int) - r)=((n*2^(32 - r) % 2^32:Nat):Int):=by
  unfold ishl;rw [show IntKind.u32.bits=32 from rfl,show ((32:Int) - r).toNat=32 - r by omega,Nat.min_eq_left (by omega),Df];simp
 rw [e1,e2,Tk,BitVec.ofInt_natCast,BitVec.ofInt_natCast,BitVec.toNat_or,BitVec.toNat_ofNat,BitVec.toNat_ofNat];have hd:n/2^r<2^(32 - r):=by
  rw [Nat.div_lt_iff_lt_mul (Nat.two_pow_pos r),←Nat.pow_add,show 32 - r+r=32 by omega]; exact hn
 have h3:n*2^(32 - r) % 2^32=(n % 2^r)*2^(32 - r):=by
  have:2^32=2^r*2^(32 - r):=by rw [←Nat.pow_add,show r+(32 - r)=32 by omega]
  rw [this,Nat.mul_mod_mul_right]
 have h4:n/2^r<2^32:=Nat.lt_of_le_of_lt (Nat.div_le_self _ _) hn;rw [h3,Nat.mod_eq_of_lt h4,Nat.mod_eq_of_lt (by
  have:n % 2^r<2^r:=Nat.mod_lt _ (Nat.two_pow_pos r);have h5:2^32=2^r*2^(32 - r):=by rw [←Nat.pow_add,show r+(32 - r)=32 by omega]
  rw [h5]; exact Nat.mul_lt_mul_of_pos_right this (Nat.two_pow_pos _)),Nat.or_comm]
 have h6:=Nat.shiftLeft_add_eq_or_of_lt hd (n % 2^r);rw [Nat.shiftLeft_eq] at h6;rw [←h6];unfold rotS;simp;omega
end Go.PG
namespace Go.PG
theorem F260_eq (R:Type) {x:Int} (hx:U32 x) {r:Nat} (h0:0<r) (hr:r<32) (k:Int→Option R):F260 R x (r:Int) k=k (rotS x r):=by
 simp only [F260,p260];rw [Aj (n:=(r:Int)) (by omega) (by omega),Int.tmod_eq_of_lt (by omega) (by omega),Aj (by omega) (by omega)];rw [show decide (0≤(r:Int))=true by simp,show decide (0≤(32:Int) - r)=true by simp; omega];simp only;rw [rot_or hx h0 hr]
theorem zmn (R:Type) {x:Int} (hx:U32 x) {r:Nat} (hr:r≤32) (k:Int→Option R):∀(m i:Nat),i≤r→r - i<m→Qd m R (rotS x i) (r:Int) (i:Int) k=k (rotS x r)
 | 0,i,_,h=>by omega
 | m+1,i,h1,h2=>by
  simp only [Qd,zh6]
  by_cases hi:i<r
  ·have hd:decide ((i:Int)<(r:Int))=true:=by simpa using hi
   have hu:=zhm hx (r:=i) (by omega);have hs:=U9 hx (r:=i) (by omega);simp only [hd];have ih:=zmn R hx hr k m (i+1) (by omega) (by omega);rw [hs] at ih;rw [←ih];unfold U32 at hu;rw [Int.tdiv_eq_ediv_of_nonneg hu.1,Int.tmod_eq_emod_of_nonneg hu.1];rw [Cw (n:=rotS x i/2) (by omega) (by omega),Cw (n:=rotS x i % 2*2147483648) (by omega) (by omega),Cw (by omega) (by omega),wrap_i64 (by omega) (by omega)];rfl
  ·have hd:decide ((i:Int)<(r:Int))=false:=by simpa using hi
   have:i=r:=by omega
   subst this;simp only [hd]
theorem F235_eq (R:Type) {x:Int} (hx:U32 x) {r:Nat} (hr:r<32) (k:Int→Option R):F235 R x (r:Int) k=k (rotS x r):=by
 simp only [F235,p235];rw [Int.tmod_eq_of_lt (by omega) (by omega)];have hd:decide ((r:Int)<0)=false:=by simp
 simp only [hd];have:=zmn R hx (r:=r) (by omega) k FUEL 0 (by omega) (by rw [Al]; omega);rw [U7] at this;exact this
def shrS (x:Int) (r:Nat):Int:=x/2^r
theorem zda {x:Int} (hx:U32 x) {r:Nat} (hr:r≤32):ishr .u32 x r=shrS x r:=by
 unfold ishr shrS;rw [show IntKind.u32.bits=32 from rfl,show ((r:Int).toNat)=r by simp,Nat.min_eq_left hr,Int.fdiv_eq_ediv_of_nonneg _ (by have:=two_pow_pos r; omega)]
theorem F261_eq (R:Type) {x:Int} (hx:U32 x) {r:Nat} (hr:r≤32) (k:Int→Option R):F261 R x (r:Int) k=k (shrS x r):=by
 simp only [F261,p261];have e:(if (0:Int)>(r:Int) then (0:Int) else (r:Int))=r:=by split<;>omega
 rw [e,Aj (by omega) (by omega),zda hx hr];have hd:decide ((0:Int)≤(r:Int))=true:=by simp
 simp only [hd]
theorem zx6 {x:Int} (hx:U32 x) (r:Nat):U32 (shrS x r):=by
 unfold shrS U32 at*;have hp:=two_pow_pos r;exact ⟨Int.ediv_nonneg hx.1 (by omega),Int.lt_of_le_of_lt (Int.ediv_le_self _ hx.1) hx.2⟩
theorem zhb (x:Int) (r:Nat):shrS x (r+1)=shrS x r/2:=by
 unfold shrS;rw [Int.pow_succ,Int.ediv_ediv_of_nonneg (by have:=two_pow_pos r; omega)]
theorem zmp (R:Type) {x:Int} (hx:U32 x) {r:Nat} (hr:r≤32) (k:Int→Option R):∀(m i:Nat),i≤r→r - i<m→Qf m R (shrS x i) (r:Int) (i:Int) k=k (shrS x r)
 | 0,i,_,h=>by omega
 | m+1,i,h1,h2=>by
  simp only [Qf,zh9]
  by_cases hi:i<r
  ·have hd:decide ((i:Int)<(r:Int))=true:=by simpa using hi
   have hu:=zx6 hx i;simp only [hd];have ih:=zmp R hx hr k m (i+1) (by omega) (by omega);rw [zhb] at ih;rw [←ih];unfold U32 at hu;rw [Int.tdiv_eq_ediv_of_nonneg hu.1,Cw (by omega) (by omega),wrap_i64 (by omega) (by omega)];rfl
  ·have hd:decide ((i:Int)<(r:Int))=false:=by simpa using hi
   have:i=r:=by omega
   subst this;simp only [hd]
theorem F219_eq (R:Type) {x:Int} (hx:U32 x) {r:Nat} (hr:r<32) (k:Int→Option R):F219 R x (r:Int) k=k (shrS x r):=by
 simp only [F219,p219];have hd:decide ((r:Int)>31)=false:=by simp; omega
 simp only [hd];have:=zmp R hx (r:=r) (by omega) k FUEL 0 (by omega) (by rw [Al]; omega);rw [show shrS x 0=x by simp [shrS]] at this;exact this
theorem Em (R:Type) {x:Int} (hx:U32 x) {n:Int} (r:Nat) (e:n=(r:Int)) (h0:0<r) (hr:r<32) (k:Int→Option R):F260 R x n k=k (rotS x r):=by rw [e]; exact F260_eq R hx h0 hr k
theorem Hq (R:Type) {x:Int} (hx:U32 x) {n:Int} (r:Nat) (e:n=(r:Int)) (hr:r<32) (k:Int→Option R):F235 R x n k=k (rotS x r):=by rw [e]; exact F235_eq R hx hr k
theorem zex (R:Type) {x:Int} (hx:U32 x) {n:Int} (r:Nat) (e:n=(r:Int)) (hr:r≤32) (k:Int→Option R):F261 R x n k=k (shrS x r):=by rw [e]; exact F261_eq R hx hr k
theorem zey (R:Type) {x:Int} (hx:U32 x) {n:Int} (r:Nat) (e:n=(r:Int)) (hr:r<32) (k:Int→Option R):F219 R x n k=k (shrS x r):=by rw [e]; exact F219_eq R hx hr k
def sig3 (x:Int) (a b c:Nat):Int:=ixor .u32 (ixor .u32 (rotS x a) (rotS x b)) (rotS x c)
def sig2 (x:Int) (a b c:Nat):Int:=ixor .u32 (ixor .u32 (rotS x a) (rotS x b)) (shrS x c)
theorem F250_eq (R:Type) {x:Int} (hx:U32 x) (k:Int→Option R):F250 R x k=k (sig2 x 17 19 10):=by
 simp only [F250,p250,F257,p257];rw [Em R hx (n:=17) 17 rfl (by omega) (by omega),Em R hx (n:=19) 19 rfl (by omega) (by omega),zex R hx (n:=10) 10 rfl (by omega)];simp only [sig2]
theorem F251_eq (R:Type) {x:Int} (hx:U32 x) (k:Int→Option R):F251 R x k=k (sig2 x 7 18 3):=by
 simp only [F251,p251,F257,p257];rw [Em R hx (n:=7) 7 rfl (by omega) (by omega),Em R hx (n:=18) 18 rfl (by omega) (by omega),zex R hx (n:=3) 3 rfl (by omega)];simp only [sig2]
theorem F209_eq (R:Type) {x:Int} (hx:U32 x) (k:Int→Option R):F209 R x k=k (sig2 x 17 19 10):=by
 have h1:=Hq R hx (n:=17) 17 rfl (by omega);have h2:=Hq R hx (n:=19) 19 rfl (by omega);have h3:=zey R hx (n:=10) 10 rfl (by omega);show p209 F219 F235 R x k=_;generalize F235=f at*;generalize F219=g at*;simp only [p209,h1,h2,h3,sig2]
theorem F210_eq (R:Type) {x:Int} (hx:U32 x) (k:Int→Option R):F210 R x k=k (sig2 x 7 18 3):=by
 have h1:=Hq R hx (n:=7) 7 rfl (by omega);have h2:=Hq R hx (n:=18) 18 rfl (by omega);have h3:=zey R hx (n:=3) 3 rfl (by omega);show p210 F219 F235 R x k=_;generalize F235=f at*;generalize F219=g at*;simp only [p210,h1,h2,h3,sig2]
def chS (a b c:Int):Int:=ior .u32 (iand .u32 a b) (iand .u32 (IntKind.u32.wrap (4294967295 - a)) c)
def majS (a b c:Int):Int:=ior .u32 (ior .u32 (iand .u32 a b) (iand .u32 a c)) (iand .u32 b c)
theorem F252_eq (R:Type) {a:Int} (ha:U32 a) (b c:Int) (k:Int→Option R):F252 R a b c k=k (IntKind.u32.wrap (sig3 a 6 11 25+chS a b c)):=by
 simp only [F252,p252,F258,p258];rw [Em R ha (n:=6) 6 rfl (by omega) (by omega),Em R ha (n:=11) 11 rfl (by omega) (by omega),Em R ha (n:=25) 25 rfl (by omega) (by omega)];simp only [sig3,chS,zlp b c ha]
theorem F253_eq (R:Type) {a:Int} (ha:U32 a) (b c:Int) (k:Int→Option R):F253 R a b c k=k (IntKind.u32.wrap (sig3 a 2 13 22+majS a b c)):=by
 simp only [F253,p253,F258,p258];rw [Em R ha (n:=2) 2 rfl (by omega) (by omega),Em R ha (n:=13) 13 rfl (by omega) (by omega),Em R ha (n:=22) 22 rfl (by omega) (by omega)];simp only [sig3,majS,Y7]
theorem zop (R:Type) {x:Int} (hx:U32 x) {a b c:Int} (p q r:Nat) (ea:a=(p:Int)) (eb:b=(q:Int)) (ec:c=(r:Int)) (hp:p<32) (hq:q<32) (hr:r<32) (k:Int→Option R):F211 R x a b c k=k (sig3 x p q r):=by
 simp only [F211,p211];rw [Hq R hx p ea hp,Hq R hx q eb hq,Hq R hx r ec hr];simp only [sig3]
def Kp (s:List Int) (w c:Int):List Int:=
 let t:=IntKind.u32.wrap (s.getD 7 0+sig3 (s.getD 4 0) 6 11 25+chS (s.getD 4 0) (s.getD 5 0) (s.getD 6 0)+c+w)
 [IntKind.u32.wrap (t+(sig3 (s.getD 0 0) 2 13 22+majS (s.getD 0 0) (s.getD 1 0) (s.getD 2 0))),s.getD 0 0,s.getD 1 0,s.getD 2 0,IntKind.u32.wrap (s.getD 3 0+t),s.getD 4 0,s.getD 5 0,s.getD 6 0]
theorem F175_eq (R:Type) {s:List Int} (h0:U32 (s.getD 0 0)) (h4:U32 (s.getD 4 0)) (w c:Int) (k:List Int→Option R):F175 R s w c k=k (Kp s w c):=by
 have e1:=zop R h4 (a:=6) (b:=11) (c:=25) 6 11 25 rfl rfl rfl (by omega) (by omega) (by omega);have e2:=zop R h0 (a:=2) (b:=13) (c:=22) 2 13 22 rfl rfl rfl (by omega) (by omega) (by omega);show p175 F211 F212 F213 R s w c k=_;generalize F211=f at*;simp only [p175,e1,e2,F212,p212,F213,p213]
 congr 1
 simp only [Kp,chS,majS,List.replicate,List.set];simp only [Df]
 congr 1
 ·omega
 ·congr 4
  omega
theorem F238_eq (R:Type) {a0 a1 a2 a3 a4 a5 a6 a7:Int} (h0:U32 a0) (h4:U32 a4) (w c:Int) (k:List Int→Option R):F238 R [a0,a1,a2,a3,a4,a5,a6,a7] w c k=k (Kp [a0,a1,a2,a3,a4,a5,a6,a7] w c):=by
 simp only [F238,p238,List.getD_cons_zero,List.getD_cons_succ];rw [F252_eq R h4,F253_eq R h0]
 congr 1
 simp [Kp,lay,List.replicate];simp only [Df];refine ⟨?_,?_⟩<;>omega
end Go.PG
namespace Go.PG
theorem list4 {l:List Int} (h:l.length=4):∃a b c d,l=[a,b,c,d]:=by
 match l,h with
 | [a,b,c,d],_=>exact ⟨a,b,c,d,rfl⟩
theorem list8 {l:List Int} (h:l.length=8):∃a b c d e f g i,l=[a,b,c,d,e,f,g,i]:=by
 match l,h with
 | [a,b,c,d,e,f,g,i],_=>exact ⟨a,b,c,d,e,f,g,i,rfl⟩
def AllU8 (l:List Int):Prop:=∀x∈l,U8 x
def AllU32 (l:List Int):Prop:=∀x∈l,U32 x
def Jm (a b c d:Int):Int:=((a*256+b)*256+c)*256+d
theorem E0 (n:Nat) (h:n≤1000):∃m,FUEL=m+n:=⟨FUEL - n,by rw [Al]; omega⟩
theorem zwk (R:Type) {a b c d:Int} (ha:U8 a) (hb:U8 b) (hc:U8 c) (hd:U8 d) (k:Int→Option R):F89 R [a,b,c,d] k=k (Jm a b c d):=by
 obtain ⟨m,hm⟩:=E0 5 (by omega);unfold U8 at*;simp only [F89,p89,hm,zgu,zyr];simp [bnd,Eo,Df,Jm]
 congr 1
 omega
theorem Oj {x b:Int} (hx:0≤x∧x<16777216) (hb:U8 b):ior .u32 (ishl .u32 x 8) b=x*256+b:=by
 unfold U8 at hb;obtain ⟨n,rfl⟩:∃n:Nat,x=n:=⟨x.toNat,by omega⟩
 obtain ⟨c,rfl⟩:∃c:Nat,b=c:=⟨b.toNat,by omega⟩
 have e2:ishl .u32 (n:Int) 8=((n*256:Nat):Int):=by
  unfold ishl;rw [show (2:Int)^(min (8:Int).toNat IntKind.u32.bits)=256 by decide,Cw (by omega) (by omega)];simp
 rw [e2,Tk,BitVec.ofInt_natCast,BitVec.ofInt_natCast,BitVec.toNat_or,BitVec.toNat_ofNat,BitVec.toNat_ofNat,Nat.mod_eq_of_lt (by omega),Nat.mod_eq_of_lt (by omega)];have h6:=Nat.shiftLeft_add_eq_or_of_lt (i:=8) (b:=c) (by omega) n;rw [Nat.shiftLeft_eq] at h6;rw [show n*256=n*2^8 by rfl,←h6];simp
theorem zor (R:Type) {a b c d:Int} (ha:U8 a) (hb:U8 b) (hc:U8 c) (hd:U8 d) (k:Int→Option R):F194 R [a,b,c,d] k=k (Jm a b c d):=by
 obtain ⟨m,hm⟩:=E0 5 (by omega);simp only [F194,p194,hm,Sd,zif];have w:∀x,U8 x→IntKind.u32.wrap x=x:=fun x h=>Cw h.1 (by unfold U8 at h; omega)
 simp [bnd,Eo,w a ha,w b hb,w c hc,w d hd];have u:=ha; have v:=hb; have y:=hc; have z:=hd;unfold U8 at u v y z;rw [Oj (x:=0) (by omega) ha,Oj (by omega) hb,Oj (by omega) hc,Oj (by omega) hd];simp [Jm]
theorem zkn {a b c d:Int} (ha:U8 a) (hb:U8 b) (hc:U8 c) (hd:U8 d):U32 (Jm a b c d):=by
 unfold U8 U32 Jm at*; omega
def zqn (blk:List Int) (i:Nat):Int:=Jm (blk.getD (4*i) 0) (blk.getD (4*i+1) 0) (blk.getD (4*i+2) 0) (blk.getD (4*i+3) 0)
def zyn (l:List Int) (i:Nat):Int:=IntKind.u32.wrap (IntKind.u32.wrap (IntKind.u32.wrap (sig2 (l.getD (i - 2) 0) 17 19 10+l.getD (i - 7) 0)+sig2 (l.getD (i - 15) 0) 7 18 3)+l.getD (i - 16) 0)
def B7 (blk l:List Int) (i:Nat):List Int:=l.set i (if i<16 then zqn blk i else zyn l i)
def zfl (blk:List Int):List Int:=(List.range' 0 64).foldl (B7 blk) (List.replicate 64 0)
theorem Av {p:Int→Prop} {l:List Int} (h:∀x∈l,p x) (h0:p 0) (i:Nat):p (l.getD i 0):=by
 rw [List.getD_eq_getElem?_getD];cases hi:l[i]? with
 | none=>exact h0
 | some x=>exact h x (List.mem_of_getElem? hi)
theorem u8_0:U8 0:=by unfold U8; omega
theorem Qx:U32 0:=by unfold U32; omega
theorem AllU32.set {l:List Int} (h:AllU32 l) {i:Nat} {x:Int} (hx:U32 x):AllU32 (l.set i x):=fun y hy=>by
 rcases List.mem_or_eq_of_mem_set hy with h1 | h1
 ·exact h y h1
 ·rw [h1]; exact hx
theorem AllU32.rep (n:Nat):AllU32 (List.replicate n 0):=fun y hy=>by rw [List.eq_of_mem_replicate hy]; exact Qx
theorem zqm {blk:List Int} (h:AllU8 blk) (i:Nat):U32 (zqn blk i):=zkn (Av h u8_0 _) (Av h u8_0 _) (Av h u8_0 _) (Av h u8_0 _)
theorem G8 {blk l:List Int} (hb:AllU8 blk) (hl:l.length=64) (h:AllU32 l) (i:Nat):(B7 blk l i).length=64∧AllU32 (B7 blk l i):=by
 unfold B7;refine ⟨by simpa using hl,h.set ?_⟩;split
 ·exact zqm hb i
 ·exact Ki _
theorem take4 {l:List Int} {i:Nat} (h:i+4≤l.length):List.take 4 (List.drop i l)=[l.getD i 0,l.getD (i+1) 0,l.getD (i+2) 0,l.getD (i+3) 0]:=by
 have e0:List.drop i l=l[i]::List.drop (i+1) l:=List.drop_eq_getElem_cons (by omega);have e1:List.drop (i+1) l=l[i+1]::List.drop (i+1+1) l:=List.drop_eq_getElem_cons (by omega);have e2:List.drop (i+1+1) l=l[i+1+1]::List.drop (i+1+1+1) l:=List.drop_eq_getElem_cons (by omega);have e3:List.drop (i+1+1+1) l=l[i+1+1+1]::List.drop (i+1+1+1+1) l:=List.drop_eq_getElem_cons (by omega);rw [e0,e1,e2,e3];show [l[i],l[i+1],l[i+1+1],l[i+1+1+1]]=_;simp [show i<l.length by omega,show i+1<l.length by omega,show i+2<l.length by omega,show i+3<l.length by omega]
theorem Bz {i n:Nat} (h:i<n):List.range' i (n - i)=i::List.range' (i+1) (n - (i+1)):=by
 rw [show n - i=(n - (i+1))+1 by omega,List.range'_succ]
theorem zmm (R:Type) {blk:List Int} (hb:blk.length=64) (h8:AllU8 blk) (k0:List Int→Option R):∀(m i:Nat) (l:List Int),i≤64→64 - i<m→l.length=64→AllU32 l→
  Qc m R (i:Int) blk l k0=k0 ((List.range' i (64 - i)).foldl (B7 blk) l)
 | 0,i,l,_,h,_,_=>by omega
 | m+1,i,l,h1,h2,hl,hu=>by
  simp only [Qc,zh5]
  by_cases hi:i<64
  ·have ok:=G8 h8 hl hu i
   have ih:=zmm R hb h8 k0 m (i+1) (B7 blk l i) (by omega) (by omega) ok.1 ok.2;rw [Bz hi,List.foldl_cons,←ih];rw [wrap_i64 (n:=4*(i:Int)) (by omega) (by omega),wrap_i64 (n:=(i:Int)+1) (by omega) (by omega),wrap_i64 (n:=4*(i:Int)+4) (by omega) (by omega)];have hd:decide ((i:Int)<64)=true:=by simp; omega
   have hbn:bnd (i:Int) 64=true:=by unfold bnd; simp; omega
   by_cases h16:i<16
   ·have c1:decide (4*(i:Int)<64)=true:=by simp; omega
    have c2:decide (0≤4*(i:Int)∧4*(i:Int)≤4*(i:Int)+4∧4*(i:Int)+4≤64)=true:=by simp; omega
    have c3:decide ((4:Int)≤((Int.toNat (4*(i:Int)+4 - 4*(i:Int)):Nat):Int))=true:=by simp; omega
    have e1:(4*(i:Int)).toNat=4*i:=by omega
    simp only [hd,c1,c2,c3,e1,hbn];rw [take4 (by omega),zor R (Av h8 u8_0 _) (Av h8 u8_0 _) (Av h8 u8_0 _) (Av h8 u8_0 _)];simp only [B7,if_pos h16,zqn,Int.toNat_natCast];rfl
   ·have c1:decide (4*(i:Int)<64)=false:=by simp; omega
    rw [wrap_i64 (n:=(i:Int) - 2) (by omega) (by omega),wrap_i64 (n:=(i:Int) - 7) (by omega) (by omega),wrap_i64 (n:=(i:Int) - 15) (by omega) (by omega),wrap_i64 (n:=(i:Int) - 16) (by omega) (by omega)];have b2:bnd ((i:Int) - 2) 64=true:=by unfold bnd; simp; omega
    have b7:bnd ((i:Int) - 7) 64=true:=by unfold bnd; simp; omega
    have b15:bnd ((i:Int) - 15) 64=true:=by unfold bnd; simp; omega
    have b16:bnd ((i:Int) - 16) 64=true:=by unfold bnd; simp; omega
    have n2:((i:Int) - 2).toNat=i - 2:=by omega
    have n7:((i:Int) - 7).toNat=i - 7:=by omega
    have n15:((i:Int) - 15).toNat=i - 15:=by omega
    have n16:((i:Int) - 16).toNat=i - 16:=by omega
    simp only [hd,c1,hbn,b2,b7,b15,b16,n2,n7,n15,n16];rw [F250_eq R (Av hu Qx _),F251_eq R (Av hu Qx _)];simp only [B7,if_neg h16,zyn,Int.toNat_natCast];rfl
  ·have:i=64:=by omega
   subst this;rfl
theorem F237_eq (R:Type) {blk:List Int} (hb:blk.length=64) (h8:AllU8 blk) (k:List Int→Option R):F237 R blk k=k (zfl blk):=by
 simp only [F237,p237];exact zmm R hb h8 _ FUEL 0 (List.replicate 64 0) (by omega) (by rw [Al]; omega) (by simp) (AllU32.rep 64)
theorem Xl (R:Type) {blk:List Int} (hb:blk.length=64) (h8:AllU8 blk) (x3:List Int) (k0:List Int→List Int→Option R):∀(m i:Nat) (l:List Int),i≤16→16 - i<m→l.length=64→AllU32 l→
  Nx m R (i:Int) blk x3 l k0=k0 x3 ((List.range' i (16 - i)).foldl (B7 blk) l)
 | 0,i,l,_,h,_,_=>by omega
 | m+1,i,l,h1,h2,hl,hu=>by
  simp only [Nx,zil]
  by_cases hi:i<16
  ·have ok:=G8 h8 hl hu i
   have ih:=Xl R hb h8 x3 k0 m (i+1) (B7 blk l i) (by omega) (by omega) ok.1 ok.2;rw [Bz hi,List.foldl_cons,←ih];rw [wrap_i64 (n:=4*(i:Int)) (by omega) (by omega),wrap_i64 (n:=(i:Int)+1) (by omega) (by omega),wrap_i64 (n:=4*(i:Int)+1) (by omega) (by omega),wrap_i64 (n:=4*(i:Int)+2) (by omega) (by omega),wrap_i64 (n:=4*(i:Int)+3) (by omega) (by omega)];have hd:decide ((i:Int)<16)=true:=by simp; omega
   have hbn:bnd (i:Int) 64=true:=by unfold bnd; simp; omega
   have b0:bnd (4*(i:Int)) 64=true:=by unfold bnd; simp; omega
   have b1:bnd (4*(i:Int)+1) 64=true:=by unfold bnd; simp; omega
   have b2:bnd (4*(i:Int)+2) 64=true:=by unfold bnd; simp; omega
   have b3:bnd (4*(i:Int)+3) 64=true:=by unfold bnd; simp; omega
   have n0:(4*(i:Int)).toNat=4*i:=by omega
   have n1:(4*(i:Int)+1).toNat=4*i+1:=by omega
   have n2:(4*(i:Int)+2).toNat=4*i+2:=by omega
   have n3:(4*(i:Int)+3).toNat=4*i+3:=by omega
   simp only [hd,hbn,b0,b1,b2,b3,n0,n1,n2,n3,List.replicate,List.set];rw [zwk R (Av h8 u8_0 _) (Av h8 u8_0 _) (Av h8 u8_0 _) (Av h8 u8_0 _)];simp only [B7,if_pos hi,zqn,Int.toNat_natCast];rfl
  ·have:i=16:=by omega
   subst this;rfl
theorem Xk (R:Type) {blk:List Int} (h8:AllU8 blk) (x2:List Int) (k0:List Int→List Int→Option R):∀(m i:Nat) (l:List Int),16≤i→i≤64→64 - i<m→l.length=64→AllU32 l→
  Lg m R (i:Int) x2 l k0=k0 x2 ((List.range' i (64 - i)).foldl (B7 blk) l)
 | 0,i,l,_,_,h,_,_=>by omega
 | m+1,i,l,h16,h1,h2,hl,hu=>by
  simp only [Lg,zik]
  by_cases hi:i<64
  ·have ok:=G8 h8 hl hu i
   have ih:=Xk R h8 x2 k0 m (i+1) (B7 blk l i) (by omega) (by omega) (by omega) ok.1 ok.2;rw [Bz hi,List.foldl_cons,←ih];rw [wrap_i64 (n:=(i:Int)+1) (by omega) (by omega),wrap_i64 (n:=(i:Int) - 2) (by omega) (by omega),wrap_i64 (n:=(i:Int) - 7) (by omega) (by omega),wrap_i64 (n:=(i:Int) - 15) (by omega) (by omega),wrap_i64 (n:=(i:Int) - 16) (by omega) (by omega)];have hd:decide ((i:Int)<64)=true:=by simp; omega
   have hbn:bnd (i:Int) 64=true:=by unfold bnd; simp; omega
   have b2:bnd ((i:Int) - 2) 64=true:=by unfold bnd; simp; omega
   have b7:bnd ((i:Int) - 7) 64=true:=by unfold bnd; simp; omega
   have b15:bnd ((i:Int) - 15) 64=true:=by unfold bnd; simp; omega
   have b16:bnd ((i:Int) - 16) 64=true:=by unfold bnd; simp; omega
   have n2:((i:Int) - 2).toNat=i - 2:=by omega
   have n7:((i:Int) - 7).toNat=i - 7:=by omega
   have n15:((i:Int) - 15).toNat=i - 15:=by omega
   have n16:((i:Int) - 16).toNat=i - 16:=by omega
   simp only [hd,hbn,b2,b7,b15,b16,n2,n7,n15,n16];rw [F209_eq R (Av hu Qx _),F210_eq R (Av hu Qx _)];simp only [B7,if_neg (show ¬i<16 by omega),zyn,Int.toNat_natCast];rfl
  ·have:i=64:=by omega
   subst this;rfl
theorem Pa {blk:List Int} (h8:AllU8 blk):∀(is:List Nat) (l:List Int),l.length=64→AllU32 l→(is.foldl (B7 blk) l).length=64∧AllU32 (is.foldl (B7 blk) l)
 | [],l,h1,h2=>⟨h1,h2⟩
 | i::is,l,h1,h2=>by
  have ok:=G8 h8 h1 h2 i;exact Pa h8 is _ ok.1 ok.2
theorem F174_eq (R:Type) {blk:List Int} (hb:blk.length=64) (h8:AllU8 blk) (k:List Int→Option R):F174 R blk k=k (zfl blk):=by
 simp only [F174,p174];have g1:=Xl R hb h8 (List.replicate 64 0) (fun x1 x2=>Lg FUEL R 16 x1 x2 fun x3 x4=>k x4) FUEL 0 (List.replicate 64 0) (by omega) (by rw [Al]; omega) (by simp) (AllU32.rep 64);refine g1.trans ?_;have ok:=Pa h8 (List.range' 0 (16 - 0)) (List.replicate 64 0) (by simp) (AllU32.rep 64);have g2:=Xk R h8 (List.replicate 64 0) (fun _ x4=>k x4) FUEL 16 _ (by omega) (by omega) (by rw [Al]; omega) ok.1 ok.2;refine g2.trans ?_;rw [←List.foldl_append];rfl
end Go.PG
namespace Go.PG
def KS:List Int:=[1116352408,1899447441,3049323471,3921009573,961987163,1508970993,2453635748,2870763221,3624381080,310598401,607225278,1426881987,1925078388,2162078206,2614888103,3248222580,3835390401,4022224774,264347078,604807628,770255983,1249150122,1555081692,1996064986,2554220882,2821834349,2952996808,3210313671,3336571891,3584528711,113926993,338241895,666307205,773529912,1294757372,1396182291,1695183700,1986661051,2177026350,2456956037,2730485921,2820302411,3259730800,3345764771,3516065817,3600352804,4094571909,275423344,430227734,506948616,659060556,883997877,958139571,1322822218,1537002063,1747873779,1955562222,2024104815,2227730452,2361852424,2428436474,2756734187,3204031479,3329325298]
theorem F236_eq (R:Type) (k:List Int→Option R):F236 R k=k KS:=by kernel_rfl
theorem zou (R:Type) (a:Int) (k:Int→Option R):F176 R a k=(match decide (a<0) with | true=>k 0 | false=>match decide (a>63) with | true=>k 0 | false=>match bnd a 64 with | true=>k (List.getD KS a.toNat 0) | false=>none):=by kernel_rfl
theorem F176_eq (R:Type) {i:Nat} (h:i<64) (k:Int→Option R):F176 R (i:Int) k=k (KS.getD i 0):=by
 rw [zou];have h1:decide ((i:Int)<0)=false:=by simp
 have h2:decide ((i:Int)>63)=false:=by simp; omega
 have h3:bnd (i:Int) 64=true:=by unfold bnd; simp; omega
 simp only [h1,h2,h3,Int.toNat_natCast]
def D3 (plan s:List Int) (i:Nat):List Int:=Kp s (plan.getD i 0) (KS.getD i 0)
theorem O4 {s:List Int} (h:AllU32 s) (w c:Int):(Kp s w c).length=8∧AllU32 (Kp s w c):=by
 refine ⟨rfl,fun x hx=>?_⟩;have g:=fun i=>Av h Qx i
 simp only [Kp,List.mem_cons,List.not_mem_nil,or_false] at hx;rcases hx with rfl | rfl | rfl | rfl | rfl | rfl | rfl | rfl
 ·exact Ki _
 ·exact g 0
 ·exact g 1
 ·exact g 2
 ·exact Ki _
 ·exact g 4
 ·exact g 5
 ·exact g 6
theorem zu4 (R:Type) {s:List Int} (hl:s.length=8) (h:AllU32 s) (w c:Int) (k:List Int→Option R):F238 R s w c k=k (Kp s w c):=by
 obtain ⟨a0,a1,a2,a3,a4,a5,a6,a7,rfl⟩:=list8 hl;exact F238_eq R (h a0 (by simp)) (h a4 (by simp)) w c k
theorem Xh (R:Type) (plan:List Int) (x3 x4:List Int) (k0:List Int→List Int→List Int→Option R):∀(m i:Nat) (s:List Int),i≤64→64 - i<m→s.length=8→AllU32 s→
  Nv m R plan (i:Int) x3 x4 s KS k0=k0 x3 x4 ((List.range' i (64 - i)).foldl (D3 plan) s)
 | 0,i,s,_,h,_,_=>by omega
 | m+1,i,s,h1,h2,hl,hu=>by
  simp only [Nv,zib]
  by_cases hi:i<64
  ·have ok:=O4 hu (plan.getD i 0) (KS.getD i 0)
   have ih:=Xh R plan x3 x4 k0 m (i+1) (D3 plan s i) (by omega) (by omega) ok.1 ok.2;rw [Bz hi,List.foldl_cons,←ih,wrap_i64 (n:=(i:Int)+1) (by omega) (by omega)];have hd:decide ((i:Int)<64)=true:=by simp; omega
   have hbn:bnd (i:Int) 64=true:=by unfold bnd; simp; omega
   simp only [hd,hbn,Int.toNat_natCast];rw [zu4 R hl hu];rfl
  ·have:i=64:=by omega
   subst this;rfl
theorem Xo (R:Type) (plan:List Int) (x2 x3:List Int) (k0:List Int→List Int→List Int→Option R):∀(m i:Nat) (s:List Int),i≤64→64 - i<m→s.length=8→AllU32 s→
  N0 m R (i:Int) x2 x3 plan s k0=k0 x2 x3 ((List.range' i (64 - i)).foldl (D3 plan) s)
 | 0,i,s,_,h,_,_=>by omega
 | m+1,i,s,h1,h2,hl,hu=>by
  simp only [N0,ziv]
  by_cases hi:i<64
  ·have ok:=O4 hu (plan.getD i 0) (KS.getD i 0)
   have ih:=Xo R plan x2 x3 k0 m (i+1) (D3 plan s i) (by omega) (by omega) ok.1 ok.2;rw [Bz hi,List.foldl_cons,←ih,wrap_i64 (n:=(i:Int)+1) (by omega) (by omega)];have hd:decide ((i:Int)<64)=true:=by simp; omega
   have hbn:bnd (i:Int) 64=true:=by unfold bnd; simp; omega
   simp only [hd,hbn,Int.toNat_natCast];rw [F176_eq R hi,F175_eq R (Av hu Qx _) (Av hu Qx _)];rfl
  ·have:i=64:=by omega
   subst this;rfl
def Gk (a l:List Int) (i:Nat):List Int:=l.set i (IntKind.u32.wrap (l.getD i 0+a.getD i 0))
theorem zgl {a l:List Int} (hl:l.length=8) (h:AllU32 l) (i:Nat):(Gk a l i).length=8∧AllU32 (Gk a l i):=⟨by simpa [Gk] using hl,h.set (Ki _)⟩
theorem Xg (R:Type) (a x3:List Int) (k0:List Int→List Int→Option R):∀(m i:Nat) (l:List Int),i≤8→8 - i<m→Le m R (i:Int) a x3 l k0=k0 x3 ((List.range' i (8 - i)).foldl (Gk a) l)
 | 0,i,l,_,h=>by omega
 | m+1,i,l,h1,h2=>by
  simp only [Le,zia]
  by_cases hi:i<8
  ·have ih:=Xg R a x3 k0 m (i+1) (Gk a l i) (by omega) (by omega)
   rw [Bz hi,List.foldl_cons,←ih,wrap_i64 (n:=(i:Int)+1) (by omega) (by omega)];have hd:decide ((i:Int)<8)=true:=by simp; omega
   have hbn:bnd (i:Int) 8=true:=by unfold bnd; simp; omega
   simp only [hd,hbn,Int.toNat_natCast];rfl
  ·have:i=8:=by omega
   subst this;rfl
theorem Xn (R:Type) (a x3:List Int) (k0:List Int→List Int→Option R):∀(m i:Nat) (l:List Int),i≤8→8 - i<m→Lh m R (i:Int) a x3 l k0=k0 x3 ((List.range' i (8 - i)).foldl (Gk a) l)
 | 0,i,l,_,h=>by omega
 | m+1,i,l,h1,h2=>by
  simp only [Lh,ziu]
  by_cases hi:i<8
  ·have ih:=Xn R a x3 k0 m (i+1) (Gk a l i) (by omega) (by omega)
   rw [Bz hi,List.foldl_cons,←ih,wrap_i64 (n:=(i:Int)+1) (by omega) (by omega)];have hd:decide ((i:Int)<8)=true:=by simp; omega
   have hbn:bnd (i:Int) 8=true:=by unfold bnd; simp; omega
   simp only [hd,hbn,Int.toNat_natCast];rfl
  ·have:i=8:=by omega
   subst this;rfl
def Yl (st blk:List Int):List Int:=(List.range' 0 8).foldl (Gk st) ((List.range' 0 64).foldl (D3 (zfl blk)) st)
theorem F217_eq (R:Type) {st blk:List Int} (hl:st.length=8) (hu:AllU32 st) (hb:blk.length=64) (h8:AllU8 blk) (k:List Int→Option R):F217 R st blk k=k (Yl st blk):=by
 simp only [F217,p217];rw [F236_eq,F237_eq R hb h8];refine (Xh R (zfl blk) st (List.replicate 8 0) (fun x3 x4 x5=>Le FUEL R 0 x3 x4 x5 fun x6 x7=>k x7) FUEL 0 st (by omega) (by rw [Al]; omega) hl hu).trans ?_;exact Xg R st (List.replicate 8 0) (fun _ x7=>k x7) FUEL 0 _ (by omega) (by rw [Al]; omega)
theorem F127_eq (R:Type) {st blk:List Int} (hl:st.length=8) (hu:AllU32 st) (hb:blk.length=64) (h8:AllU8 blk) (k:List Int→Option R):F127 R st blk k=k (Yl st blk):=by
 simp only [F127,p127];rw [F174_eq R hb h8];refine (Xo R (zfl blk) st (List.replicate 8 0) (fun x3 x4 x5=>Lh FUEL R 0 x3 x4 x5 fun x6 x7=>k x7) FUEL 0 st (by omega) (by rw [Al]; omega) hl hu).trans ?_;exact Xn R st (List.replicate 8 0) (fun _ x7=>k x7) FUEL 0 _ (by omega) (by rw [Al]; omega)
theorem Ko (plan:List Int):∀(is:List Nat) (s:List Int),s.length=8→AllU32 s→(is.foldl (D3 plan) s).length=8∧AllU32 (is.foldl (D3 plan) s)
 | [],s,h1,h2=>⟨h1,h2⟩
 | i::is,s,h1,h2=>by
  have ok:=O4 h2 (plan.getD i 0) (KS.getD i 0);exact Ko plan is _ ok.1 ok.2
theorem Rr (a:List Int):∀(is:List Nat) (s:List Int),s.length=8→AllU32 s→(is.foldl (Gk a) s).length=8∧AllU32 (is.foldl (Gk a) s)
 | [],s,h1,h2=>⟨h1,h2⟩
 | i::is,s,h1,h2=>by
  have ok:=zgl (a:=a) h1 h2 i;exact Rr a is _ ok.1 ok.2
theorem Sn {st:List Int} (blk:List Int) (hl:st.length=8) (hu:AllU32 st):(Yl st blk).length=8∧AllU32 (Yl st blk):=by
 have h:=Ko (zfl blk) (List.range' 0 64) st hl hu;exact Rr st _ _ h.1 h.2
end Go.PG
namespace Go.PG
def blkF:Nat→List Int→List (List Int)
 | 0,_=>[]
 | n+1,b=>if 64≤b.length then b.take 64::blkF n (b.drop 64) else []
def So:Nat→List Int→List Int
 | 0,b=>b
 | n+1,b=>if 64≤b.length then So n (b.drop 64) else b
def blkS (b:List Int):List (List Int):=blkF (b.length/64+1) b
def Es (b:List Int):List Int:=So (b.length/64+1) b
theorem zee:∀(n m:Nat) (b:List Int),b.length/64<n→b.length/64<m→blkF n b=blkF m b
 | 0,_,_,h,_=>by omega
 | _,0,_,_,h=>by omega
 | n+1,m+1,b,h1,h2=>by
  simp only [blkF]
  by_cases h:64≤b.length
  ·rw [if_pos h,if_pos h,zee n m (b.drop 64) (by rw [List.length_drop]; omega) (by rw [List.length_drop]; omega)]
  ·rw [if_neg h,if_neg h]
theorem Uu:∀(n m:Nat) (b:List Int),b.length/64<n→b.length/64<m→So n b=So m b
 | 0,_,_,h,_=>by omega
 | _,0,_,_,h=>by omega
 | n+1,m+1,b,h1,h2=>by
  simp only [So]
  by_cases h:64≤b.length
  ·rw [if_pos h,if_pos h,Uu n m (b.drop 64) (by rw [List.length_drop]; omega) (by rw [List.length_drop]; omega)]
  ·rw [if_neg h,if_neg h]
theorem Gy {b:List Int} (h:64≤b.length):blkS b=b.take 64::blkS (b.drop 64):=by
 unfold blkS;rw [show blkF (b.length/64+1) b=b.take 64::blkF (b.length/64) (b.drop 64) by simp only [blkF,if_pos h]];rw [zee (b.length/64) ((b.drop 64).length/64+1) (b.drop 64) (by rw [List.length_drop]; omega) (by omega)]
theorem Fa {b:List Int} (h:b.length<64):blkS b=[]:=by
 unfold blkS; simp only [blkF,if_neg (show ¬64≤b.length by omega)]
theorem Fe {b:List Int} (h:64≤b.length):Es b=Es (b.drop 64):=by
 unfold Es;rw [show So (b.length/64+1) b=So (b.length/64) (b.drop 64) by simp only [So,if_pos h]];rw [Uu (b.length/64) ((b.drop 64).length/64+1) (b.drop 64) (by rw [List.length_drop]; omega) (by omega)]
theorem Do {b:List Int} (h:b.length<64):Es b=b:=by
 unfold Es; simp only [So,if_neg (show ¬64≤b.length by omega)]
theorem Kn:∀(n:Nat) (b:List Int),b.length≤n→(Es b).length=b.length % 64∧(blkS b).length=b.length/64
 | 0,b,h=>by
  rw [Do (by omega),Fa (by omega)];simp; omega
 | n+1,b,h=>by
  by_cases h6:64≤b.length
  ·have ih:=Kn n (b.drop 64) (by rw [List.length_drop]; omega)
   rw [Fe h6,Gy h6,ih.1,List.length_cons,ih.2,List.length_drop];omega
  ·rw [Do (by omega),Fa (by omega)]
   simp; omega
theorem Me:∀(n:Nat) (a b:List Int),a.length≤n→blkS (a++b)=blkS a++blkS (Es a++b)∧Es (a++b)=Es (Es a++b)
 | 0,a,b,h=>by
  rw [Fa (show a.length<64 by omega),Do (show a.length<64 by omega)];exact ⟨rfl,rfl⟩
 | n+1,a,b,h=>by
  by_cases h6:64≤a.length
  ·have ih:=Me n (a.drop 64) b (by rw [List.length_drop]; omega)
   have hl:64≤(a++b).length:=by rw [List.length_append]; omega
   rw [Gy hl,Gy h6,Fe hl,Fe h6,List.take_append_of_le_length h6,List.drop_append_of_le_length h6,ih.1,ih.2];exact ⟨rfl,rfl⟩
  ·rw [Fa (show a.length<64 by omega),Do (show a.length<64 by omega)]
   exact ⟨rfl,rfl⟩
theorem zmq (R:Type) (k0:List Int→List (List Int)→Option R):∀(m:Nat) (b:List Int) (acc:List (List Int)),b.length/64<m→acc.length+b.length/64≤1000000000→b.length≤100000000000→
  Qg m R b acc k0=k0 (Es b) (acc++blkS b)
 | 0,b,acc,h,_,_=>by omega
 | m+1,b,acc,h1,h2,h3=>by
  simp only [Qg,zic]
  by_cases h6:64≤b.length
  ·have ih:=zmq R k0 m (b.drop 64) (acc++[b.take 64]) (by rw [List.length_drop]; omega) (by rw [List.length_drop,List.length_append]; simp; omega) (by rw [List.length_drop]; omega)
   have c1:decide ((b.length:Int)≥64)=true:=by simp; omega
   have c2:decide ((64:Int)≤(b.length:Int))=true:=by simp; omega
   have c3:decide (acc.length+[b.take 64].length≤2199023255552)=true:=by simp; omega
   have c4:decide (0≤(64:Int)∧(64:Int)≤(b.length:Int)∧(b.length:Int)≤(b.length:Int)∧(b.length:Int)≤(b.length:Int))=true:=by simp; omega
   have e1:List.take (Int.toNat ((b.length:Int) - 64)) (List.drop 64 b)=List.drop 64 b:=List.take_of_length_le (by rw [List.length_drop]; omega);simp only [c1,c2,c3,c4,e1];rw [ih,Gy h6,Fe h6,List.append_assoc];rfl
  ·have c1:decide ((b.length:Int)≥64)=false:=by simp; omega
   simp only [c1];rw [Fa (by omega),Do (by omega),List.append_nil]
theorem F216_eq (R:Type) {b:List Int} (h:b.length≤1000000000) (k:List (List Int)→List Int→Option R):F216 R b k=k (blkS b) (Es b):=by
 simp only [F216,p216];refine (zmq R (fun x1 x2=>k x2 x1) FUEL b [] (by rw [Al]; omega) (by simp; omega) (by omega)).trans ?_;rw [List.nil_append]
end Go.PG
namespace Go.PG
abbrev Wr:=List Int×List Int×Int×Unit
def K4 (st:List Int) (bs:List (List Int)):List Int:=bs.foldl Yl st
theorem Pt:∀(n:Nat) (b:List Int),b.length≤n→AllU8 b→(∀x∈blkS b,x.length=64∧AllU8 x)∧AllU8 (Es b)
 | 0,b,h,h8=>by
  rw [Fa (by omega),Do (by omega)];exact ⟨fun x hx=>(by cases hx),h8⟩
 | n+1,b,h,h8=>by
  by_cases h6:64≤b.length
  ·have ih:=Pt n (b.drop 64) (by rw [List.length_drop]; omega) (fun x hx=>h8 x (List.mem_of_mem_drop hx))
   rw [Gy h6,Fe h6];refine ⟨fun x hx=>?_,ih.2⟩;rcases List.mem_cons.1 hx with rfl | hx
   ·exact ⟨by rw [List.length_take]; omega,fun y hy=>h8 y (List.mem_of_mem_take hy)⟩
   ·exact ih.1 x hx
  ·rw [Fa (by omega),Do (by omega)]
   exact ⟨fun x hx=>(by cases hx),h8⟩
theorem K3:∀(bs:List (List Int)) {st:List Int},st.length=8→AllU32 st→(K4 st bs).length=8∧AllU32 (K4 st bs)
 | [],st,h1,h2=>⟨h1,h2⟩
 | b::bs,st,h1,h2=>by
  have ok:=Sn b h1 h2;exact K3 bs ok.1 ok.2
theorem zmt (R:Type) (rest:List Int) (bs:List (List Int)) (hb:∀x∈bs,x.length=64∧AllU8 x) (hn:bs.length≤1000000000) (u:List Int×Int×Unit) (k0:List Int→(Wr×Unit)→Option R):
  ∀(m i:Nat) (st:List Int),i≤bs.length→bs.length - i<m→st.length=8→AllU32 st→Ql m R rest bs (bs.length:Int) (i:Int) ((st,u),()) k0=k0 rest ((K4 st (bs.drop i),u),())
 | 0,i,st,_,h,_,_=>by omega
 | m+1,i,st,h1,h2,hl,hu=>by
  simp only [Ql,zij]
  by_cases hi:i<bs.length
  ·have hd:decide ((i:Int)<(bs.length:Int))=true:=by simpa using hi
   have hbn:bnd (i:Int) (bs.length:Int)=true:=by unfold bnd; simp; omega
   have hx:=hb bs[i] (List.getElem_mem hi);have hg:List.getD bs i (List.replicate 64 0)=bs[i]:=by simp [hi]
   simp only [hd,hbn,Int.toNat_natCast,hg];rw [F217_eq R hl hu hx.1 hx.2,wrap_i64 (by omega) (by omega)];have ok:=Sn bs[i] hl hu;have ih:=zmt R rest bs hb hn u k0 m (i+1) (Yl st bs[i]) (by omega) (by omega) ok.1 ok.2;rw [List.drop_eq_getElem_cons hi];exact ih
  ·have:i=bs.length:=by omega
   subst this;have hd:decide ((bs.length:Int)<(bs.length:Int))=false:=by simp
   simp only [hd];rw [List.drop_of_length_le (Nat.le_refl _)];rfl
theorem zot (R:Type) {st:List Int} (u:List Int×Int×Unit) {b:List Int} (hl:st.length=8) (hu:AllU32 st) (h8:AllU8 b) (hn:b.length≤1000000000) (k:List Int→(Wr×Unit)→Option R):
  F181 R ((st,u),()) b k=k (Es b) ((K4 st (blkS b),u),()):=by
 simp only [F181,p181];rw [F216_eq R hn];have ok:=Pt b.length b (Nat.le_refl _) h8;have hlen:=(Kn b.length b (Nat.le_refl _)).2;exact zmt R (Es b) (blkS b) ok.1 (by omega) u (fun x4 x5=>k x4 x5) FUEL 0 st (by omega) (by rw [Al]; omega) hl hu
theorem F178_eq (R:Type) {st rest part:List Int} {n:Nat} (hl:st.length=8) (hu:AllU32 st) (hr:AllU8 rest) (hp:AllU8 part) (hlen:rest.length+part.length≤1000000000) (hn:n+part.length≤1000000000) (k:(Wr×Unit)→Option R):
  F178 R ((st,rest,(n:Int),()),()) part k=k ((K4 st (blkS (rest++part)),Es (rest++part),((n+part.length:Nat):Int),()),()):=by
 simp only [F178,p178,F214];rw [Aj (n:=(part.length:Int)) (by omega) (by omega),Aj (by omega) (by omega)];have c1:decide (([]:List Int).length+rest.length≤140737488355328)=true:=by simp; omega
 have c2:decide (rest.length+part.length≤140737488355328)=true:=by simp; omega
 simp only [c1,c2];have h8:AllU8 (rest++part):=fun x hx=>by
  rcases List.mem_append.1 hx with h | h
  ·exact hr x h
  ·exact hp x h
 rw [zot R _ hl hu h8 (by rw [List.length_append]; omega)]
 congr 1
def wrS (st m:List Int):Wr:=(K4 st (blkS m),Es m,(m.length:Int),())
theorem AllU8.append {a b:List Int} (ha:AllU8 a) (hb:AllU8 b):AllU8 (a++b):=fun x hx=>by
 rcases List.mem_append.1 hx with h | h
 ·exact ha x h
 ·exact hb x h
theorem ze7 (st m p:List Int):K4 (K4 st (blkS m)) (blkS (Es m++p))=K4 st (blkS (m++p))∧Es (Es m++p)=Es (m++p):=by
 obtain ⟨h1,h2⟩:=Me m.length m p (Nat.le_refl _);rw [h1,h2];refine ⟨?_,rfl⟩;unfold K4;rw [List.foldl_append]
theorem zmz (R:Type) {st:List Int} (hl:st.length=8) (hu:AllU32 st) (x4:Wr) (k0:Int→Wr→Option R) (k1:Wr→(Wr×Unit)→Option R):∀(n:Nat) (ps done:List (List Int)) (m:List Int),m=done.flatten→AllU8 m→(∀p∈ps,AllU8 p)→
  m.length+ps.flatten.length≤500000000→(done++ps).length≤1000000000→ps.length<n→Nz n R (done++ps) ((done++ps).length:Int) (done.length:Int) x4 (wrS st m,()) k0 k1=k1 x4 (wrS st (m++ps.flatten),())
 | 0,ps,done,m,_,_,_,_,_,h=>by omega
 | n+1,[],done,m,hm,h8,hps,hlen,hnum,h=>by
  simp only [Nz,zdo];have hd:decide ((done.length:Int)<((done++[]).length:Int))=false:=by simp
  simp only [hd];simp
 | n+1,p::ps,done,m,hm,h8,hps,hlen,hnum,h=>by
  simp only [Nz,zdo];have hlt:done.length<(done++p::ps).length:=by simp
  have hd:decide ((done.length:Int)<((done++p::ps).length:Int))=true:=by simp; omega
  have hbn:bnd (done.length:Int) ((done++p::ps).length:Int)=true:=by unfold bnd; simp; omega
  have hg:List.getD (done++p::ps) done.length []=p:=by simp
  have hp8:=hps p (by simp);have hfl:(p::ps).flatten=p++ps.flatten:=by simp
  rw [hfl,List.length_append] at hlen;have ok:=K3 (blkS m) hl hu;have ok2:=Pt m.length m (Nat.le_refl _) h8;have tl:=(Kn m.length m (Nat.le_refl _)).1;simp only [hd,hbn,Int.toNat_natCast,hg];unfold wrS;rw [F178_eq R ok.1 ok.2 ok2.2 hp8 (by omega) (by omega)];obtain ⟨a1,a2⟩:=ze7 st m p;rw [a1,a2,←List.length_append];have hb:decide (((m++p).length:Int)≥2305843009213693952)=false:=by simp; omega
  simp only [hb];rw [wrap_i64 (by omega) (by simp at hnum; omega)];have ih:=zmz R hl hu x4 k0 k1 n ps (done++[p]) (m++p) (by rw [hm]; simp) (h8.append hp8) (fun q hq=>hps q (by simp [hq])) (by rw [List.length_append]; omega) (by simpa using hnum) (by simp at h; omega);unfold wrS at ih;rw [hfl,←List.append_assoc];have e1:done++[p]++ps=done++p::ps:=by simp
  have e2:(((done++[p]).length:Nat):Int)=(done.length:Int)+1:=by simp
  rw [e1,e2] at ih;exact ih
theorem F128_eq (R:Type) {st:List Int} (hl:st.length=8) (hu:AllU32 st) {ps:List (List Int)} (h8:∀p∈ps,AllU8 p) (hlen:ps.flatten.length≤500000000) (hnum:ps.length≤1000000000) (k:Wr→Int→Option R):
  F128 R (st,[],(0:Int),()) ps k=k (wrS st ps.flatten) 0:=by
 have hr:F177 R (st,[],(0:Int),())=fun k=>k true:=by
  funext k
  simp only [F177,p177];rfl
 simp only [F128,p128];rw [hr];have:=zmz R hl hu (List.replicate 8 0,[],0,()) (fun x3 x4=>k x4 x3) (fun _ x6=>k x6.1 0) FUEL ps [] [] rfl (fun x hx=>by cases hx) h8 (by simpa using hlen) (by simpa using hnum) (by rw [Al]; omega);rw [List.nil_append] at this;refine Eq.trans ?_ this;unfold wrS;rw [Fa (by simp),Do (by simp)];rfl
end Go.PG
namespace Go.PG
def putS (x:Int):List Int:=[x/72057594037927936 % 256,x/281474976710656 % 256,x/1099511627776 % 256,x/4294967296 % 256,x/16777216 % 256,x/65536 % 256,x/256 % 256,x % 256]
theorem zx7 {x:Int} (r:Nat) (hr:r≤64):ishr .u64 x (r:Int)=x/2^r:=by
 unfold ishr;rw [show IntKind.u64.bits=64 from rfl,show ((r:Int).toNat)=r by simp,Nat.min_eq_left hr,Int.fdiv_eq_ediv_of_nonneg _ (by have:=two_pow_pos r; omega)]
theorem zv6 (R:Type) (x:Int) (k0:List Int→Option R):∀(m i:Nat) (l:List Int),i≤8→8 - i<m→za4 m R x (i:Int) l k0=k0 ((List.range' i (8 - i)).foldl (fun l i=>l.set i (x/2^(8*(7 - i)) % 256)) l)
 | 0,i,l,_,h=>by omega
 | m+1,i,l,h1,h2=>by
  simp only [za4,zyp]
  by_cases hi:i<8
  ·have ih:=zv6 R x k0 m (i+1) (l.set i (x/2^(8*(7 - i)) % 256)) (by omega) (by omega)
   rw [Bz hi,List.foldl_cons,←ih];have hd:decide ((i:Int)<8)=true:=by simp; omega
   have hbn:bnd (i:Int) 8=true:=by unfold bnd; simp; omega
   rw [wrap_i64 (n:=7 - (i:Int)) (by omega) (by omega),wrap_i64 (n:=8*(7 - (i:Int))) (by omega) (by omega),Aj (n:=8*(7 - (i:Int))) (by omega) (by omega),wrap_i64 (n:=(i:Int)+1) (by omega) (by omega)];have e1:8*(7 - (i:Int))=((8*(7 - i):Nat):Int):=by omega
   have hp:decide ((0:Int)≤((8*(7 - i):Nat):Int))=true:=decide_eq_true (by omega);rw [e1,zx7 _ (by omega),Fr];simp only [hd,hbn,hp,Int.toNat_natCast];rfl
  ·have:i=8:=by omega
   subst this;rfl
theorem X7 (R:Type) (x:Int) (k:List Int→Option R):F92 R x k=k (putS x):=by
 simp only [F92,p92];refine (zv6 R x (fun x1=>k x1) FUEL 0 (List.replicate 8 0) (by omega) (by rw [Al]; omega)).trans ?_
 congr 1
 simp [List.range'_succ,putS,List.replicate]
theorem zwa (R:Type) {x:Int} (hx:0≤x∧x<18446744073709551616) (x3:List Int) (k0:List Int→List Int→Option R):∀(i m:Nat) (l:List Int),i≤8→i<m→Xe m R (x/2^(8*(8 - i))) ((i:Int) - 1) x3 l k0=k0 x3 ((List.range i).reverse.foldl (fun l j=>l.set j (x/2^(8*(7 - j)) % 256)) l)
 | i,0,l,_,h=>by omega
 | 0,m+1,l,h1,h2=>by
  simp only [Xe,zrd];have hd:decide (((0:Nat):Int) - 1≥0)=false:=by simp
  simp only [hd];rfl
 | i+1,m+1,l,h1,h2=>by
  simp only [Xe,zrd];have ih:=zwa R hx x3 k0 i m (l.set i (x/2^(8*(7 - i)) % 256)) (by omega) (by omega);rw [List.range_succ,List.reverse_append,List.reverse_singleton,List.singleton_append,List.foldl_cons,←ih];have e0:(((i+1:Nat):Int) - 1)=(i:Int):=by omega
  rw [e0];have hd:decide ((i:Int)≥0)=true:=by simp
  have hbn:bnd (i:Int) 8=true:=by unfold bnd; simp; omega
  have e1:8 - (i+1)=7 - i:=by omega
  rw [e1];have hp:=two_pow_pos (8*(7 - i));have hge:0≤x/2^(8*(7 - i)):=Int.ediv_nonneg hx.1 (by omega);have hle:x/2^(8*(7 - i))≤x:=Int.ediv_le_self _ hx.1;have hstep:x/2^(8*(8 - i))=x/2^(8*(7 - i))/256:=by
   rw [show 8*(8 - i)=8*(7 - i)+8 by omega,Int.pow_add,←Int.ediv_ediv_of_nonneg (by omega)];rfl
  rw [hstep];generalize x/2^(8*(7 - i))=q at*;rw [Int.tmod_eq_emod_of_nonneg hge,Int.tdiv_eq_ediv_of_nonneg hge,zg3 (by omega) (by omega),Aj (by omega) (by omega),wrap_i64 (by omega) (by omega)];simp only [hd,hbn,Int.toNat_natCast]
theorem zwo (R:Type) {x:Int} (hx:0≤x∧x<18446744073709551616) (k:List Int→Option R):F46 R x k=k (putS x):=by
 simp only [F46,p46];have:=zwa R hx (List.replicate 8 0) (fun _ x2=>k x2) 8 FUEL (List.replicate 8 0) (by omega) (by rw [Al]; omega);rw [show x/2^(8*(8 - 8))=x by simp] at this;refine Eq.trans this ?_
 congr 1
 simp [List.range_succ,putS,List.replicate]
end Go.PG
namespace Go.PG
def C1 (n:Nat):Nat:=(119 - n % 64) % 64
def padT (rest:List Int) (n:Nat):List Int:=rest++128::(List.replicate (C1 n) 0++putS (8*(n:Int)))
theorem Xq (R:Type) (x:Int) (k0:Int→List Int→Option R):∀(z m:Nat) (l:List Int),z<64→(l.length+z) % 64=56→(∀y,y<z→(l.length+y) % 64≠56)→z<m→l.length+z≤100000→Lj m R x l k0=k0 x (l++List.replicate z 0)
 | z,0,l,_,_,_,h,_=>by omega
 | 0,m+1,l,h1,h2,_,h3,h4=>by
  simp only [Lj,zdp];have hm:Int.tmod (l.length:Int) 64=56:=by rw [Int.tmod_eq_emod_of_nonneg (by omega)]; omega
  rw [hm];have:((56:Int) !=56)=false:=by simp
  simp only [this];simp
 | z+1,m+1,l,h1,h2,h5,h3,h4=>by
  simp only [Lj,zdp];have hne:(Int.tmod (l.length:Int) 64 !=56)=true:=by
   rw [Int.tmod_eq_emod_of_nonneg (by omega)];have:=h5 0 (by omega);simp; omega
  have hc:decide (l.length+[(0:Int)].length≤140737488355328)=true:=by simp; omega
  have ih:=Xq R x k0 z m (l++[0]) (by omega) (by rw [List.length_append]; simp; omega) (fun y hy=>by rw [List.length_append]; have:=h5 (y+1) (by omega); simp; omega) (by omega) (by rw [List.length_append]; simp; omega);simp only [hne,hc];rw [ih,List.append_assoc];rfl
theorem Xp (R:Type) (ds:List Int) (k0:List Int→Option R):∀(m i:Nat) (l:List Int),i≤8→8 - i<m→ds.length=8→l.length≤100000+i→Li m R (i:Int) l ds k0=k0 (l++ds.drop i)
 | 0,i,l,_,h,_,_=>by omega
 | m+1,i,l,h1,h2,hd8,hl=>by
  simp only [Li,ziw]
  by_cases hi:i<8
  ·have hd:decide ((i:Int)<8)=true:=by simp; omega
   have hbn:bnd (i:Int) 8=true:=by unfold bnd; simp; omega
   have hg:List.getD ds i 0=ds[i]:=by simp [show i<ds.length by omega]
   have hc:decide (l.length+[ds[i]].length≤140737488355328)=true:=by simp; omega
   have ih:=Xp R ds k0 m (i+1) (l++[ds[i]]) (by omega) (by omega) hd8 (by rw [List.length_append]; simp; omega);simp only [hd,hbn,Int.toNat_natCast,hg,hc];rw [wrap_i64 (by omega) (by omega),List.drop_eq_getElem_cons (show i<ds.length by omega)];rw [List.append_assoc] at ih;exact ih
  ·have:i=8:=by omega
   subst this;have hd:decide (((8:Nat):Int)<8)=false:=by simp
   simp only [hd];rw [List.drop_of_length_le (by omega),List.append_nil]
theorem F125_eq (R:Type) {rest:List Int} {n:Nat} (hr:rest.length=n % 64) (hn:n≤1000000000) (k:List Int→Bool→Option R):F125 R rest (n:Int) k=k (padT rest n) true:=by
 simp only [F125,p125];have c0:decide ((n:Int)≥2305843009213693952)=false:=by simp; omega
 have c1:(IntKind.u64.wrap (rest.length:Int) !=Int.tmod (n:Int) 64)=false:=by
  rw [Aj (by omega) (by omega),Int.tmod_eq_emod_of_nonneg (by omega)];simp; omega
 have c2:decide (([]:List Int).length+rest.length≤140737488355328)=true:=by simp; omega
 have c3:decide (([]++rest).length+[(128:Int)].length≤140737488355328)=true:=by simp; omega
 simp only [c0,c1,c2,c3];have g:=Xq R (n:Int) (fun x10 x11=>F46 R (IntKind.u64.wrap (8*x10)) fun y13=>Li FUEL R 0 x11 y13 fun x14=>k x14 true) (C1 n) FUEL ([]++rest++[128]) (by unfold C1; omega) (by simp; unfold C1; omega) (fun y hy=>by simp; unfold C1 at hy; omega) (by rw [Al]; unfold C1; omega) (by simp; unfold C1; omega);refine g.trans ?_;rw [Aj (by omega) (by omega),zwo R (by omega)];refine (Xp R (putS (8*(n:Int))) (fun x14=>k x14 true) FUEL 0 _ (by omega) (by rw [Al]; omega) rfl (by simp; unfold C1; omega)).trans ?_
 congr 1
 simp [padT]
theorem F215_eq (R:Type) {n:Nat} (hn:n≤1000000000) (k:Int→Option R):F215 R (n:Int) k=k (((n+72)/64:Nat):Int):=by
 simp only [F215,p215];have c0:decide ((n:Int)≥2305843009213693952)=false:=by simp; omega
 simp only [c0];rw [Aj (n:=(n:Int)+8) (by omega) (by omega),Aj (n:=(n:Int)+8+64) (by omega) (by omega),Int.tdiv_eq_ediv_of_nonneg (by omega),Aj (by omega) (by omega)]
 congr 1
theorem lay_mid {a b c xs:List Int} (h:xs.length=b.length):lay (a++b++c) a.length xs=a++xs++c:=by
 unfold lay;have e1:List.take a.length (a++b++c)=a:=by rw [List.append_assoc,List.take_left]
 have e2:List.drop (a.length+xs.length) (a++b++c)=c:=by
  rw [h,show a.length+b.length=(a++b).length by simp,List.drop_left]
 rw [e1,e2]
theorem F180_eq (R:Type) {rest:List Int} {n:Nat} (hr:rest.length=n % 64) (hn:n≤1000000000) (k:List Int→Bool→Option R):F180 R rest (n:Int) k=k (padT rest n) true:=by
 simp only [F180,p180];have c0:decide ((n:Int)≥2305843009213693952)=false:=by simp; omega
 have c1:(IntKind.u64.wrap (rest.length:Int) !=Int.tmod (n:Int) 64)=false:=by
  rw [Aj (by omega) (by omega),Int.tmod_eq_emod_of_nonneg (by omega)];simp; omega
 simp only [c0,c1];rw [F215_eq R hn,Int.tdiv_eq_ediv_of_nonneg (by omega),Aj (n:=(n:Int)/64) (by omega) (by omega),Aj (by omega) (by omega),wrap_i64 (n:=(((n+72)/64:Nat):Int) - (n:Int)/64) (by omega) (by omega),wrap_i64 (n:=_*64) (by omega) (by omega)];obtain ⟨sz,hsz⟩:∃sz:Nat,((((n+72)/64:Nat):Int) - (n:Int)/64)*64=sz:=⟨((n+72)/64 - n/64)*64,by omega⟩
 have hz:sz=rest.length+1+C1 n+8:=by unfold C1; omega
 rw [hsz];have l1:lay (List.replicate sz (0:Int)) 0 (List.take (List.replicate sz (0:Int)).length rest)=rest++List.replicate (1+C1 n+8) 0:=by
  unfold lay;rw [List.take_of_length_le (l:=rest) (by simp; omega)];simp;omega
 have l2:List.set (rest++List.replicate (1+C1 n+8) 0) rest.length 128=(rest++128::List.replicate (C1 n) 0)++List.replicate 8 0++[]:=by
  rw [List.set_append_right _ _ (Nat.le_refl _),Nat.sub_self,show 1+C1 n+8=(C1 n+8)+1 by omega,List.replicate_succ,List.set_cons_zero,←List.replicate_append_replicate];simp
 have sh:ishl .u64 (n:Int) 3=8*(n:Int):=by
  unfold ishl;rw [show (2:Int)^(min (3:Int).toNat IntKind.u64.bits)=8 by decide,Aj (by omega) (by omega)];omega
 have hl3:((rest++128::List.replicate (C1 n) 0)++List.replicate 8 (0:Int)++[]).length=sz:=by simp; omega
 have d1:decide (0≤(sz:Int)∧(sz:Int)≤(sz:Int)∧(sz:Int)≤140737488355328)=true:=decide_eq_true (by omega);have d2:bnd (rest.length:Int) ((rest++List.replicate (1+C1 n+8) (0:Int)).length:Int)=true:=by unfold bnd; simp; omega
 have d3:decide (0≤(sz:Int) - 8∧(sz:Int) - 8≤(sz:Int)∧(sz:Int)≤(sz:Int)∧(sz:Int)≤(sz:Int))=true:=decide_eq_true (by omega);have e8:((sz:Int) - 8).toNat=(rest++128::List.replicate (C1 n) 0).length:=by simp; omega
 have e9:List.take ((sz:Int) - ((sz:Int) - 8)).toNat (List.take 8 (List.drop 0 (putS (8*(n:Int)))))=putS (8*(n:Int)):=by
  rw [show ((sz:Int) - ((sz:Int) - 8)).toNat=8 by omega]; rfl
 simp only [d1,Int.toNat_natCast,l1,d2,l2,sh];rw [X7,wrap_i64 (by omega) (by omega)];simp only [hl3,d3,e9,e8];rw [lay_mid (by rfl)]
 congr 1
 simp [padT]
end Go.PG
namespace Go.PG
def Bu (a:Int):List Int:=[a/16777216 % 256,a/65536 % 256,a/256 % 256,a % 256]
theorem zcn (R:Type) {a:Int} (ha:U32 a) (k:List Int→Option R):F192 R a k=k (Bu a):=by
 have e24:ishr .u32 a 24=a/16777216:=zda ha (r:=24) (by omega);have e16:ishr .u32 a 16=a/65536:=zda ha (r:=16) (by omega);have e8:ishr .u32 a 8=a/256:=zda ha (r:=8) (by omega);simp only [F192,p192,e24,e16,e8,Fr];rfl
theorem F126_eq (R:Type) {a:Int} (ha:U32 a) (k:List Int→Option R):F126 R a k=k (Bu a):=by
 have h:=ha;unfold U32 at h;simp only [F126,p126];rw [Int.tdiv_eq_ediv_of_nonneg h.1,Int.tdiv_eq_ediv_of_nonneg h.1,Int.tdiv_eq_ediv_of_nonneg h.1,Cw (n:=a/16777216) (by omega) (by omega),Cw (n:=a/65536) (by omega) (by omega),Cw (n:=a/256) (by omega) (by omega)];rw [Int.tmod_eq_emod_of_nonneg (a:=a/65536) (by omega),Int.tmod_eq_emod_of_nonneg (a:=a/256) (by omega),Int.tmod_eq_emod_of_nonneg h.1];simp only [Fr,Int.emod_emod];rfl
theorem zv7 (R:Type) (bs:List (List Int)) (hb:∀x∈bs,x.length=64∧AllU8 x) (hn:bs.length≤1000000000) (x4:List Int) (k0:List Int→List Int→Option R):
  ∀(m i:Nat) (st:List Int),i≤bs.length→bs.length - i<m→st.length=8→AllU32 st→za5 m R bs (i:Int) st x4 k0=k0 (K4 st (bs.drop i)) x4
 | 0,i,st,_,h,_,_=>by omega
 | m+1,i,st,h1,h2,hl,hu=>by
  simp only [za5,zys]
  by_cases hi:i<bs.length
  ·have hd:decide ((i:Int)<(bs.length:Int))=true:=by simpa using hi
   have hbn:bnd (i:Int) (bs.length:Int)=true:=by unfold bnd; simp; omega
   have hx:=hb bs[i] (List.getElem_mem hi);have hg:List.getD bs i (List.replicate 64 0)=bs[i]:=by simp [hi]
   simp only [hd,hbn,Int.toNat_natCast,hg];rw [F127_eq R hl hu hx.1 hx.2,wrap_i64 (by omega) (by omega)];have ok:=Sn bs[i] hl hu;have ih:=zv7 R bs hb hn x4 k0 m (i+1) (Yl st bs[i]) (by omega) (by omega) ok.1 ok.2;rw [List.drop_eq_getElem_cons hi];exact ih
  ·have:i=bs.length:=by omega
   subst this;have hd:decide ((bs.length:Int)<(bs.length:Int))=false:=by simp
   simp only [hd];rw [List.drop_of_length_le (Nat.le_refl _)];rfl
theorem F87_eq (R:Type) {st:List Int} {bs:List (List Int)} (hl:st.length=8) (hu:AllU32 st) (hb:∀x∈bs,x.length=64∧AllU8 x) (hn:bs.length≤1000000000) (k:List Int→Option R):F87 R st bs k=k (K4 st bs):=by
 simp only [F87,p87];exact zv7 R bs hb hn (List.replicate 8 0) (fun x1 _=>k x1) FUEL 0 st (by omega) (by rw [Al]; omega) hl hu
def H0:List Int:=[1779033703,3144134277,1013904242,2773480762,1359893119,2600822924,528734635,1541459225]
theorem F88_eq (R:Type) (k:List Int→Option R):F88 R k=k H0:=by kernel_rfl
theorem F129_eq (R:Type) (k:Wr→Option R):F129 R k=k (H0,[],0,()):=by kernel_rfl
theorem Xa:H0.length=8∧AllU32 H0:=⟨rfl,fun x hx=>by
 simp only [H0,List.mem_cons,List.not_mem_nil,or_false] at hx;unfold U32;omega⟩
def Gi (st l:List Int) (i:Nat):List Int:=lay l (4*i) (Bu (st.getD i 0))
theorem zj9 {l xs:List Int} {lo:Nat} (h:lo+xs.length≤l.length):(lay l lo xs).length=l.length:=by
 unfold lay; simp; omega
theorem zms (R:Type) {st:List Int} (hu:AllU32 st) (w:Wr×Unit) (k0:(Wr×Unit)→List Int→Option R):∀(m i:Nat) (l:List Int),i≤8→8 - i<m→Qk m R st (i:Int) w l k0=k0 w ((List.range' i (8 - i)).foldl (Gi st) l)
 | 0,i,l,_,h=>by omega
 | m+1,i,l,h1,h2=>by
  simp only [Qk,zii]
  by_cases hi:i<8
  ·have ih:=zms R hu w k0 m (i+1) (Gi st l i) (by omega) (by omega)
   rw [Bz hi,List.foldl_cons,←ih];have hd:decide ((i:Int)<8)=true:=by simp; omega
   have hbn:bnd (i:Int) 8=true:=by unfold bnd; simp; omega
   rw [wrap_i64 (n:=4*(i:Int)) (by omega) (by omega),wrap_i64 (n:=(i:Int)+1) (by omega) (by omega)];have c:decide (0≤4*(i:Int)∧4*(i:Int)≤32∧(32:Int)≤32)=true:=decide_eq_true (by omega);have e1:(4*(i:Int)).toNat=4*i:=by omega
   have e2:∀a,List.take (Int.toNat (32 - 4*(i:Int))) (List.take 4 (List.drop 0 (Bu a)))=Bu a:=fun a=>by
    rw [List.take_of_length_le (l:=List.take 4 (List.drop 0 (Bu a))) (by simp [Bu]; omega)];rfl
   simp only [hd,hbn,c,Int.toNat_natCast];rw [zcn R (Av hu Qx _)];simp only [c,e1,e2];rfl
  ·have:i=8:=by omega
   subst this;rfl
end Go.PG
end
